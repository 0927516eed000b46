/-
  Package layout's methods put, sign, fail, end, begin: each does to the placer what its plain function says. Condition: the placer lies in memory as 'Pl' says.
-/
import Derived.Test.YtglkdhodpgnlgaaLayW1
namespace Go.Proofs.Ytglkdhodpgnlgaa
open Go.RowKit Go.Tel

theorem run_fieldAt (t : Tok) (w : World) : (Instr.field 27 (.agg #[.int .i64 t.kind, .string t.text, .int .i64 t.at_, .int .i64 t.line, .int .i64 t.col]) 2).run Try.prog w = .ok (.int .i64 t.at_) w := by kernel_rfl
theorem run_fieldKind (t : Tok) (w : World) : (Instr.field 27 (.agg #[.int .i64 t.kind, .string t.text, .int .i64 t.at_, .int .i64 t.line, .int .i64 t.col]) 0).run Try.prog w = .ok (.int .i64 t.kind) w := by kernel_rfl

set_option maxRecDepth 1000000 in
set_option maxHeartbeats 1000000 in
theorem lput_any {w : World} {bp bi ci : Nat} {X : Nat → Prop} {inn : List Tok} {S : PS} (h : Pl w bp bi ci X inn S) (t : Tok) :
    Calls Try.prog 34 #[.pointer (some ⟨bp, 0, none⟩), .agg #[.int .i64 t.kind, .string t.text, .int .i64 t.at_, .int .i64 t.line, .int .i64 t.col]] w (PlPost bp bi ci X inn (.bool (PS.put t S).1) (PS.put t S).2 w) := by
  obtain ⟨vs, vo, h⟩ := h
  obtain ⟨p, c, hv⟩ := own_form h.out
  subst hv
  have hc := blk_cell h.blk
  have hf := blk_free h.blk
  have hbp := blk_lt h.blk
  have HA := Lib.hid h
  by_cases hl : (60000 : Int) ≤ (S.out.length : Int)
  · by_cases hb : S.bad = 0
    · have hb' : (S.bad == 0) = true := beq_iff_eq.2 hb
      have HE : Hid (PS.put t S = (false, { S with bad := 2, place := t.at_ })) := by show _ = _; unfold PS.put; rw [if_pos (by omega), if_pos hb]
      rw [HE.out]
      clear hb h
      go_enter Try.func34, Try.ntmps34
      go_wp2
      go_region
      all_goals
        go_wp2
        go_ret
        exact pl_close ⟨_, _, (((HA.out.setBad 2).setPlace t.at_).alloc _).drew⟩ (((HA.out.setBad 2).keepSet _ (HA.out.keepSet _ (Keep.refl _ _) 4 _) 5 _).alloc _).drew
    · have hb' : (S.bad == 0) = false := beq_eq_false_iff_ne.2 hb
      have HE : Hid (PS.put t S = (false, S)) := by show _ = _; unfold PS.put; rw [if_pos (by omega), if_neg hb]
      rw [HE.out]
      clear hb h
      go_enter Try.func34, Try.ntmps34
      go_wp2
      go_ret
      exact pl_close ⟨_, _, HA.out.alloc _⟩ ((Keep.refl _ _).alloc _)
  · have hl' : (S.out.length : Int) < 60000 := by omega
    have HE : Hid (PS.put t S = (true, { S with out := S.out ++ [t] })) := by show _ = _; unfold PS.put; rw [if_neg (by omega)]
    rw [HE.out]
    have HW := Lib.hid ((h.alloc (tokObj t)).alloc (tokObj t)).drew
    have HO1 := Lib.hid HW.out.out
    have HO2 := Lib.hid (blk_new1 w (tokObj t) (tokObj t))
    have HO3 : Hid (S.out.length < 200000) := by show _ < _; omega
    have HO4 : Hid (bp + 1 ≤ ((w.alloc (tokObj t)).alloc (tokObj t)).drew.heap.size) := Nat.succ_le_of_lt (blk_lt HW.out.blk)
    have HO5 : Hid ((Value.slice p S.out.length c).ownBlock ≠ some bp) := fun e => by have := own_ge h.out bp e; omega
    clear hl h
    go_enter Try.func34, Try.ntmps34
    go_wp2
    clear hl'
    go_region_law (refine step_append_tok rfl _ _ rfl (bp + 1) _ S.out rfl HO1.out (w.heap.size + 1) t rfl HO2.out HO3.out HO4.out ?_; intro g cap w1 hown hg hat; have HP := Lib.hid (HW.out.newOut hg hown hat); have hB1 := blk_cell (grown_old hg HW.out.blk HO5.out); have hF1 := blk_free (grown_old hg HW.out.blk HO5.out); clear hown hg hat)
    all_goals
      go_wp2
      go_ret
      exact pl_close ⟨_, _, HP.out.1⟩ ((((Keep.refl _ _).alloc _).alloc _).drew.trans HP.out.2)

set_option maxRecDepth 100000 in
set_option maxHeartbeats 1000000 in
theorem lsign_any {w : World} {bp bi ci : Nat} {X : Nat → Prop} {inn : List Tok} {S : PS} (h : Pl w bp bi ci X inn S) (t : Tok) (k : Int) (x : ByteArray) :
    Calls Try.prog 29 #[.pointer (some ⟨bp, 0, none⟩), .int .i64 k, .agg #[.int .i64 t.kind, .string t.text, .int .i64 t.at_, .int .i64 t.line, .int .i64 t.col], .string x] w (PlPost bp bi ci X inn (.bool (PS.sign k t x S).1) (PS.sign k t x S).2 w) := by
  unfold PS.sign
  have HC := Lib.hid (lput_any (h.alloc (tokObj t)) ⟨k, x, t.at_, t.line, t.col⟩)
  generalize PS.put ⟨k, x, t.at_, t.line, t.col⟩ S = r at *
  clear h
  go_enter Try.func29, Try.ntmps29
  go_wp2_with (go_at_call 34; go_must (refine HC.out.mono ?_; rintro e w1 ⟨rfl, hp, hk⟩; have HP := Lib.hid hp; have HK := Lib.hid hk; clear hp hk))
  go_ret
  exact pl_close HP.out (((Keep.refl _ _).alloc _).trans HK.out)

set_option maxRecDepth 100000 in
set_option maxHeartbeats 1000000 in
theorem lfail_any {w : World} {bp bi ci : Nat} {X : Nat → Prop} {inn : List Tok} {S : PS} (h : Pl w bp bi ci X inn S) (hat : S.at_ < inn.length) (n : Int) :
    Calls Try.prog 38 #[.pointer (some ⟨bp, 0, none⟩), .int .i64 n] w (PlPost bp bi ci X inn (.bool (PS.fail inn n S).1) (PS.fail inn n S).2 w) := by
  obtain ⟨vs, vo, h⟩ := h
  have hc := blk_cell h.blk
  have hf := blk_free h.blk
  have hbp := blk_lt h.blk
  by_cases hb : S.bad = 0
  · have hb' : (S.bad == 0) = true := beq_iff_eq.2 hb
    have HE : Hid (PS.fail inn n S = (false, { S with bad := n, place := (S.now inn).at_ })) := by show _ = _; unfold PS.fail; rw [if_pos hb]
    rw [HE.out]
    have HA := Lib.hid h
    have HC := Lib.hid (lnow_any h hat)
    generalize S.now inn = t at *
    clear hb h hat
    have hfld := fun w => run_fieldAt t w
    go_enter Try.func38, Try.ntmps38
    go_wp2_with (go_at_call 35; go_must (refine HC.out.mono ?_; rintro e w1 ⟨rfl, rfl⟩))
    go_ret
    exact pl_close ⟨_, _, (((HA.out.setBad n).setPlace t.at_).alloc _).drew⟩ (((HA.out.setBad n).keepSet _ (HA.out.keepSet _ (Keep.refl _ _) 4 _) 5 _).alloc _).drew
  · have hb' : (S.bad == 0) = false := beq_eq_false_iff_ne.2 hb
    have HE : Hid (PS.fail inn n S = (false, S)) := by show _ = _; unfold PS.fail; rw [if_neg hb]
    rw [HE.out]
    have HA := Lib.hid h
    clear hb h hat
    go_enter Try.func38, Try.ntmps38
    go_wp2
    go_ret
    exact pl_close ⟨_, _, HA.out⟩ (Keep.refl _ _)

set_option maxRecDepth 100000 in
set_option maxHeartbeats 1000000 in
theorem lend_any {w : World} {bp bi ci : Nat} {X : Nat → Prop} {inn : List Tok} {S : PS} (h : Pl w bp bi ci X inn S) (hat : S.at_ < inn.length) (hn : 0 < S.stk.length) :
    Calls Try.prog 39 #[.pointer (some ⟨bp, 0, none⟩)] w (PlPost bp bi ci X inn (.bool (PS.end_ inn S).1) (PS.end_ inn S).2 w) := by
  obtain ⟨vs, vo, h⟩ := h
  unfold PS.end_
  have HC := Lib.hid (lpop_any h hn)
  have HS : Hid (∀ w1 : World, Pl w1 bp bi ci X inn { S with stk := S.stk.dropLast } → Calls Try.prog 29 #[.pointer (some ⟨bp, 0, none⟩), .int .i64 5, .agg #[.int .i64 (S.now inn).kind, .string (S.now inn).text, .int .i64 (S.now inn).at_, .int .i64 (S.now inn).line, .int .i64 (S.now inn).col], .string ⟨#[]⟩] w1 (PlPost bp bi ci X inn (.bool (PS.sign 5 (S.now inn) (mkS []) { S with stk := S.stk.dropLast }).1) (PS.sign 5 (S.now inn) (mkS []) { S with stk := S.stk.dropLast }).2 w1)) :=
    fun w1 h1 => lsign_any h1 (S.now inn) 5 (mkS [])
  have HN : Hid (∀ w1 : World, ∀ vs vo : Value, PlV w1 bp bi ci X inn { S with stk := S.stk.dropLast } vs vo → Calls Try.prog 35 #[.pointer (some ⟨bp, 0, none⟩)] w1 fun e w' => e = .returned (.agg #[.int .i64 (S.now inn).kind, .string (S.now inn).text, .int .i64 (S.now inn).at_, .int .i64 (S.now inn).line, .int .i64 (S.now inn).col]) ∧ (w1.alloc (tokObj (S.now inn))).drew = w') :=
    fun w1 vs vo h1 => lnow_any (S := { S with stk := S.stk.dropLast }) h1 hat
  generalize PS.sign 5 (S.now inn) (mkS []) { S with stk := S.stk.dropLast } = r at *
  generalize S.now inn = t at *
  clear h
  go_enter Try.func39, Try.ntmps39
  go_wp2_with (first
    | (go_at_call 41; go_must (refine HC.out.mono ?_; rintro e w1 ⟨rfl, ⟨vs1, vo1, hp⟩, hk⟩; have HP := Lib.hid hp; have HK := Lib.hid hk; clear hp hk))
    | (go_at_call 35; go_must (refine (HN.out _ _ _ HP.out).mono ?_; rintro e w2 ⟨rfl, rfl⟩))
    | (go_at_call 29; go_must (refine (HS.out _ ⟨_, _, (HP.out.alloc _).drew⟩).mono ?_; rintro e w3 ⟨rfl, hp, hk⟩; have HP3 := Lib.hid hp; have HK3 := Lib.hid hk; clear hp hk)))
  go_ret
  exact pl_close HP3.out ((HK.out.alloc _).drew.trans HK3.out)

set_option maxRecDepth 100000 in
set_option maxHeartbeats 1000000 in
theorem lbegin_any {w : World} {bp bi ci : Nat} {X : Nat → Prop} {inn : List Tok} {S : PS} (h : Pl w bp bi ci X inn S) (b : Blk) (t : Tok) (x : ByteArray) :
    Calls Try.prog 16 #[.pointer (some ⟨bp, 0, none⟩), .agg #[.bool b.ex, .int .i64 b.col, .bool b.lt, .int .i64 b.br], .agg #[.int .i64 t.kind, .string t.text, .int .i64 t.at_, .int .i64 t.line, .int .i64 t.col], .string x] w (PlPost bp bi ci X inn (.bool (PS.begin_ b t x S).1) (PS.begin_ b t x S).2 w) := by
  obtain ⟨vs, vo, h⟩ := h
  obtain ⟨p, c, hv⟩ := own_form h.stk
  subst hv
  have hc := blk_cell h.blk
  have hf := blk_free h.blk
  have hbp := blk_lt h.blk
  by_cases hl : (60 : Int) ≤ (S.stk.length : Int)
  · have HE : Hid (PS.begin_ b t x S = (false, { S with bad := 2, place := t.at_ })) := by show _ = _; unfold PS.begin_; rw [if_pos (by omega)]
    rw [HE.out]
    have HA := Lib.hid h
    clear h
    go_enter Try.func16, Try.ntmps16
    go_wp2
    go_region
    all_goals
      go_wp2
      go_ret
      exact pl_close ⟨_, _, ((((HA.out.setBad 2).setPlace t.at_).alloc _).alloc _).drew⟩ ((((HA.out.setBad 2).keepSet _ (HA.out.keepSet _ (Keep.refl _ _) 4 _) 5 _).alloc _).alloc _).drew
  · have HE : Hid (PS.begin_ b t x S = PS.sign 4 t x { S with stk := S.stk ++ [b] }) := by show _ = _; unfold PS.begin_; rw [if_neg (by omega)]
    rw [HE.out]
    have HX : Hid (X bi) := h.xbi
    have HA : Hid (PlV ((w.alloc (blkObj b)).alloc (tokObj t)).drew bp bi ci (And1 X (w.heap.size + 1)) inn S (.slice p S.stk.length c) vo) := by have := ((h.alloc (blkObj b)).guard (tokObj t)).drew; rw [size_alloc'] at this; exact this
    have HB := Lib.hid (blk_new1 w (blkObj b) (tokObj t))
    have HC := Lib.hid (lpush_any HA.out b (by omega))
    have HS : Hid (∀ w1 : World, Pl w1 bp bi ci X inn { S with stk := S.stk ++ [b] } → Calls Try.prog 29 #[.pointer (some ⟨bp, 0, none⟩), .int .i64 4, .agg #[.int .i64 t.kind, .string t.text, .int .i64 t.at_, .int .i64 t.line, .int .i64 t.col], .string x] w1 (PlPost bp bi ci X inn (.bool (PS.sign 4 t x { S with stk := S.stk ++ [b] }).1) (PS.sign 4 t x { S with stk := S.stk ++ [b] }).2 w1)) :=
      fun w1 h1 => lsign_any h1 t 4 x
    generalize PS.sign 4 t x { S with stk := S.stk ++ [b] } = r at *
    have hl' : (S.stk.length : Int) < 60 := by omega
    clear h hl
    go_enter Try.func16, Try.ntmps16
    go_wp2_with (fail)
    go_region_with (go_at_call 28; refine HC.out.mono ?_; rintro e w1 ⟨rfl, hp, hk⟩; have HP := Lib.hid (hp.back HX.out); have hB := blk_cell (And1.blk hk HB.out); have hBl := blk_lt (And1.blk hk HB.out); have HK := Lib.hid (And1.keep hk); clear hp hk)
    go_wp2_with (go_at_call 29; go_must (refine (HS.out _ HP.out).mono ?_; rintro e w3 ⟨rfl, hp, hk⟩; have HP3 := Lib.hid hp; have HK3 := Lib.hid hk; clear hp hk))
    go_ret
    exact pl_close HP3.out (((((Keep.refl _ _).alloc _).alloc _).drew.trans HK.out).trans HK3.out)
end Go.Proofs.Ytglkdhodpgnlgaa
