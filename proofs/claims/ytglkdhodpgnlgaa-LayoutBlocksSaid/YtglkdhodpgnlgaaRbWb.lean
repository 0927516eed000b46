/-
  The reference's layer: opens, token: each does what its plain function says. Condition: the layer lies in memory as 'Rl' says.
-/
import Derived.Test.YtglkdhodpgnlgaaRbWa
import Derived.Test.YtglkdhodpgnlgaaLayBr
namespace Go.Proofs.Ytglkdhodpgnlgaa
open Go.RowKit Go.Tel

theorem isW_eq (t : Tok) (l : List UInt8) (hk : (t.kind == 2) = true) : isW t l = (t.text.toList == l) := by
  unfold isW; rw [hk]; rfl

set_option maxRecDepth 100000 in
set_option maxHeartbeats 1000000 in
theorem ropens_any (t : Tok) (w : World) :
    Calls Try.prog 22 #[.agg #[.int .i64 t.kind, .string t.text, .int .i64 t.at_, .int .i64 t.line, .int .i64 t.col]] w fun e w' => e = .returned (.bool (isOpener t)) ∧ w.alloc (tokObj t) = w' := by
  cases hk : t.kind == 2 with
  | true =>
    have HB : Hid (isOpener t = (t.text.toList == [119, 104, 101, 114, 101] || t.text.toList == [108, 101, 116] || t.text.toList == [112, 111, 115, 116, 117, 108, 97, 116, 101] || t.text.toList == [112, 114, 105, 118, 97, 116, 101])) := by
      show _ = _
      rw [opener_eq, isW_eq t _ hk, isW_eq t _ hk, isW_eq t _ hk, isW_eq t _ hk]
    rw [HB.out]
    go_enter Try.func22, Try.ntmps22
    go_wp2
    all_goals go_ret
    all_goals exact ⟨by simp [*], rfl⟩
  | false =>
    have HB : Hid (isOpener t = false) := by show _ = _; rw [opener_eq]; unfold isW; rw [hk]; rfl
    rw [HB.out]
    go_enter Try.func22, Try.ntmps22
    go_wp2
    go_ret
    exact ⟨rfl, rfl⟩

def RS.setBr (S : RS) (n : Int) : RS := match S.stk.getLast? with
  | none => S
  | some b => { S with stk := S.stk.dropLast ++ [{ b with br := n }] }
/-- Braces and semicolons: is the token done with? -/
def RS.brace (t : Tok) (S : RS) : Bool × RS :=
  if (t.kind == 2) = false then (false, S)
  else if isW t [59] then (true, S.put 6 t true)
  else match S.stk.getLast? with
  | none => (false, S)
  | some b => if b.ex = false then (false, S)
    else if isW t [123] then (false, S.setBr (wrap64 (b.br + 1)))
    else if isW t [125] then (if b.br = 0 then (true, S.pop t true) else (false, S.setBr (wrap64 (b.br - 1))))
    else (false, S)

theorem rblks_set (m : List Blk) (b : Blk) (n : Int) : (RBlks (m ++ [b])).set (((m ++ [b]).length - 1) * 4 + 2) (.int .i64 n) = RBlks (m ++ [{ b with br := n }]) := by
  rw [RBlks_append, RBlks_append, List.set_append_right _ _ (by rw [RBlks_length]; simp)]
  congr 1
  rw [RBlks_length]
  have : ((m ++ [b]).length - 1) * 4 + 2 - m.length * 4 = 2 := by simp
  rw [this]; rfl
theorem rsetBr_row {cur : Array Value} {l : List Blk} {b : Blk} (hb : l.getLast? = some b) (n : Int) (ht : cur.toList.take (l.length * 4) = RBlks l) :
    (cur.setIfInBounds ((l.length - 1) * 4 + 2) (.int .i64 n)).toList.take (l.length * 4) = RBlks (l.dropLast ++ [{ b with br := n }]) := by
  obtain ⟨m, rfl⟩ : ∃ m, l = m ++ [b] := by
    rcases List.eq_nil_or_concat l with rfl | ⟨m, b', rfl⟩
    · simp at hb
    · rw [List.concat_eq_append] at hb ⊢
      rw [List.getLast?_append] at hb; simp at hb; exact ⟨m, by rw [hb]⟩
  rw [Array.toList_setIfInBounds, List.take_set, ht, List.dropLast_concat, rblks_set]

/-- A block's braces are written in place. -/
theorem RlV.setBrace {w : World} {bp g c : Nat} {X : Nat → Prop} {S : RS} {vo : Value} (h : RlV w bp X S (.slice (some ⟨g, 0, none⟩) S.stk.length c) vo) (hn : 0 < S.stk.length) (n : Int) :
    RlV (w.setCell ⟨g, (S.stk.length - 1) * 4 + 2, none⟩ (.int .i64 n)) bp X (S.setBr n) (.slice (some ⟨g, 0, none⟩) S.stk.length c) vo ∧ Keep X w (w.setCell ⟨g, (S.stk.length - 1) * 4 + 2, none⟩ (.int .i64 n)) := by
  have hk : Keep (fun k => k ≠ g) w (w.setCell ⟨g, (S.stk.length - 1) * 4 + 2, none⟩ (.int .i64 n)) := Keep.own (Keep.refl _ _) _ _
  obtain ⟨b, hb1, hb2⟩ := getLast_at hn
  have hS : S.setBr n = { S with stk := S.stk.dropLast ++ [{ b with br := n }] } := by unfold RS.setBr; rw [hb1]
  have hlen : (S.stk.dropLast ++ [{ b with br := n }]).length = S.stk.length := by simp; omega
  have hbpg : bp < g := (h.row hb2).2.2.2
  have hxg : ∀ k, X k → k ≠ g := fun k hx e => (h.kept k hx).2.1 (by rw [e]; rfl)
  have hvog : vo.ownBlock ≠ some g := h.two g rfl
  rw [hS]
  refine ⟨⟨hk.blk h.blk (by omega), ?_, own_keep h.out hk (fun k e e2 => hvog (by rw [e, e2])), h.two, fun k hx => ⟨(h.kept k hx).1, (h.kept k hx).2.1, (h.kept k hx).2.2.1, Nat.lt_of_lt_of_le (h.kept k hx).2.2.2 hk.size⟩⟩, hk.mono (fun k _ hx => hxg k hx)⟩
  rcases h.stk.2 with ⟨h0, _⟩ | ⟨g', cap', cur, hv, hbg, hg, hnc, hm, hs, ht⟩
  · cases h0
  · cases hv
    refine ⟨by rw [RBlks_length], .inr ⟨g, c, _, by rw [hlen], hbg, blk_set hg _ _, by rw [hlen]; exact hnc, hm, by rw [Array.size_setIfInBounds]; exact hs, ?_⟩⟩
    rw [hlen]
    exact rsetBr_row hb1 n ht

section
variable {w : World} {bp : Nat} {X : Nat → Prop} {S : RS}
set_option maxRecDepth 100000 in
set_option maxHeartbeats 2000000 in
theorem rtok_other (h : Rl w bp X S) (t : Tok) (hk : (t.kind == 2) = false) :
    Calls Try.prog 21 #[.pointer (some ⟨bp, 0, none⟩), .agg #[.int .i64 t.kind, .string t.text, .int .i64 t.at_, .int .i64 t.line, .int .i64 t.col]] w (RlPost bp X (.bool (S.brace t).1) (S.brace t).2 w) := by
  have HE : Hid (S.brace t = (false, S)) := by show _ = _; unfold RS.brace; rw [if_pos hk]
  rw [HE.out]
  have hk' : (t.kind != 2) = true := by rw [bne, hk]; rfl
  have HH := Lib.hid h
  clear h hk
  go_enter Try.func21, Try.ntmps21
  go_wp2
  go_ret
  exact rl_close (HH.out.alloc _) ((Keep.refl _ _).alloc _)
set_option maxRecDepth 100000 in
set_option maxHeartbeats 2000000 in
theorem rtok_semi (h : Rl w bp X S) (t : Tok) (hk : (t.kind == 2) = true) (hw : isW t [59] = true) :
    Calls Try.prog 21 #[.pointer (some ⟨bp, 0, none⟩), .agg #[.int .i64 t.kind, .string t.text, .int .i64 t.at_, .int .i64 t.line, .int .i64 t.col]] w (RlPost bp X (.bool (S.brace t).1) (S.brace t).2 w) := by
  have HE : Hid (S.brace t = (true, S.put 6 t true)) := by show _ = _; unfold RS.brace; rw [if_neg (by rw [hk]; simp), if_pos hw]
  rw [HE.out]
  have hk' : (t.kind != 2) = false := by rw [bne, hk]; rfl
  have hw' : (t.text.toList == [59]) = true := by rw [← hw, isW_eq t _ hk]
  have HC := Lib.hid (rput_any (h.alloc (tokObj t)) 6 t true)
  generalize S.put 6 t true = R at *
  clear h hk hw
  go_enter Try.func21, Try.ntmps21
  go_wp2_with (go_at_call 18; go_must (refine HC.out.mono ?_; rintro e w1 ⟨rfl, hp, hk⟩; have HP := Lib.hid hp; have HK := Lib.hid hk; clear hp hk))
  go_ret
  exact rl_close HP.out (((Keep.refl _ _).alloc _).trans HK.out)
set_option maxRecDepth 100000 in
set_option maxHeartbeats 2000000 in
theorem rtok_none (h : Rl w bp X S) (t : Tok) (hk : (t.kind == 2) = true) (hw : isW t [59] = false) (hs : S.stk.length = 0) :
    Calls Try.prog 21 #[.pointer (some ⟨bp, 0, none⟩), .agg #[.int .i64 t.kind, .string t.text, .int .i64 t.at_, .int .i64 t.line, .int .i64 t.col]] w (RlPost bp X (.bool (S.brace t).1) (S.brace t).2 w) := by
  have HE : Hid (S.brace t = (false, S)) := by show _ = _; unfold RS.brace; rw [if_neg (by rw [hk]; simp), if_neg (by rw [hw]; simp), List.eq_nil_of_length_eq_zero hs]; rfl
  rw [HE.out]
  have hk' : (t.kind != 2) = false := by rw [bne, hk]; rfl
  have hw' : (t.text.toList == [59]) = false := by rw [← hw, isW_eq t _ hk]
  obtain ⟨vs, vo, h⟩ := h
  obtain ⟨p, c, hv⟩ := own_form h.stk
  subst hv
  have hc := blk_cell h.blk
  have hbp := blk_lt h.blk
  rw [hs] at hc
  have HH := Lib.hid h
  clear h hk hw
  go_enter Try.func21, Try.ntmps21
  go_wp2
  go_ret
  exact rl_close (Rl.of (HH.out.alloc _)) ((Keep.refl _ _).alloc _)
end
end Go.Proofs.Ytglkdhodpgnlgaa

namespace Go.Proofs.Ytglkdhodpgnlgaa
open Go.RowKit Go.Tel

section
variable {w : World} {bp : Nat} {X : Nat → Prop} {S : RS}
set_option maxRecDepth 100000 in
set_option maxHeartbeats 2000000 in
theorem rtok_flat (h : Rl w bp X S) (t : Tok) (hk : (t.kind == 2) = true) (hw : isW t [59] = false) {b : Blk} (hb1 : S.stk.getLast? = some b) (hex : b.ex = false) :
    Calls Try.prog 21 #[.pointer (some ⟨bp, 0, none⟩), .agg #[.int .i64 t.kind, .string t.text, .int .i64 t.at_, .int .i64 t.line, .int .i64 t.col]] w (RlPost bp X (.bool (S.brace t).1) (S.brace t).2 w) := by
  have HE : Hid (S.brace t = (false, S)) := by show _ = _; unfold RS.brace; rw [if_neg (by rw [hk]; simp), if_neg (by rw [hw]; simp), hb1]; simp [hex]
  rw [HE.out]
  have hk' : (t.kind != 2) = false := by rw [bne, hk]; rfl
  have hw' : (t.text.toList == [59]) = false := by rw [← hw, isW_eq t _ hk]
  have hpos : 0 < S.stk.length := by
    rcases Nat.eq_zero_or_pos S.stk.length with hz | hz
    · rw [List.eq_nil_of_length_eq_zero hz] at hb1; cases hb1
    · exact hz
  have hn' : (0 : Int) < (S.stk.length : Int) := by omega
  have hn0 : ((S.stk.length : Int) == 0) = false := beq_eq_false_iff_ne.2 (by omega)
  obtain ⟨vs, vo, h⟩ := h
  have hsm := h.small
  obtain ⟨g, c, rfl, hcap, hmx⟩ := h.form hpos
  obtain ⟨b', hb1', hb2⟩ := getLast_at hpos
  obtain rfl : b' = b := by rw [hb1] at hb1'; exact (Option.some.inj hb1').symm
  have hc := blk_cell h.blk
  have hbp := blk_lt h.blk
  have hr := h.row hb2
  have b2 := hr.1 2 (by decide); have b3 := hr.1 3 (by decide)
  have hgf := hr.2.1; have hgl := hr.2.2.1
  simp only [Blk.rcells] at b2 b3
  have hex' : b'.ex = false := hex
  rw [hex'] at b3
  have HP := Lib.hid hpos
  have HH := Lib.hid h
  clear h hk hw hb1 hb1' hb2 hr hpos
  go_enter Try.func21, Try.ntmps21
  go_wp2_with (fail)
  go_ret
  exact rl_close (Rl.of (HH.out.alloc _)) ((Keep.refl _ _).alloc _)
set_option maxRecDepth 100000 in
set_option maxHeartbeats 2000000 in
theorem rtok_open (h : Rl w bp X S) (t : Tok) (hk : (t.kind == 2) = true) (hw : isW t [59] = false) {b : Blk} (hb1 : S.stk.getLast? = some b) (hex : b.ex = true) (h1 : isW t [123] = true) :
    Calls Try.prog 21 #[.pointer (some ⟨bp, 0, none⟩), .agg #[.int .i64 t.kind, .string t.text, .int .i64 t.at_, .int .i64 t.line, .int .i64 t.col]] w (RlPost bp X (.bool (S.brace t).1) (S.brace t).2 w) := by
  have HE : Hid (S.brace t = (false, S.setBr (wrap64 (b.br + 1)))) := by show _ = _; unfold RS.brace; rw [if_neg (by rw [hk]; simp), if_neg (by rw [hw]; simp), hb1]; simp [hex, h1]
  rw [HE.out]
  have hk' : (t.kind != 2) = false := by rw [bne, hk]; rfl
  have hw' : (t.text.toList == [59]) = false := by rw [← hw, isW_eq t _ hk]
  have h1' : (t.text.toList == [123]) = true := by rw [← h1, isW_eq t _ hk]
  have h2' : (t.text.toList == [125]) = false := by rw [beq_iff_eq] at h1'; rw [h1']; rfl
  have hpos : 0 < S.stk.length := by
    rcases Nat.eq_zero_or_pos S.stk.length with hz | hz
    · rw [List.eq_nil_of_length_eq_zero hz] at hb1; cases hb1
    · exact hz
  have hn' : (0 : Int) < (S.stk.length : Int) := by omega
  have hn0 : ((S.stk.length : Int) == 0) = false := beq_eq_false_iff_ne.2 (by omega)
  obtain ⟨vs, vo, h⟩ := h
  have hsm := h.small
  obtain ⟨g, c, rfl, hcap, hmx⟩ := h.form hpos
  obtain ⟨b', hb1', hb2⟩ := getLast_at hpos
  obtain rfl : b' = b := by rw [hb1] at hb1'; exact (Option.some.inj hb1').symm
  have hc := blk_cell h.blk
  have hbp := blk_lt h.blk
  have hr := h.row hb2
  have b2 := hr.1 2 (by decide); have b3 := hr.1 3 (by decide)
  have hgf := hr.2.1; have hgl := hr.2.2.1
  simp only [Blk.rcells] at b2 b3
  have hex' : b'.ex = true := hex
  rw [hex'] at b3
  have HP := Lib.hid hpos
  have HH := Lib.hid h
  clear h hk hw hb1 hb1' hb2 hr hpos
  go_enter Try.func21, Try.ntmps21
  go_wp2_with (fail)
  go_ret
  have hS := HH.out.setBrace HP.out (wrap64 (b'.br + 1))
  exact rl_close (Rl.of (hS.1.alloc _)) (hS.2.alloc _)
set_option maxRecDepth 100000 in
set_option maxHeartbeats 2000000 in
theorem rtok_shut (h : Rl w bp X S) (t : Tok) (hk : (t.kind == 2) = true) (hw : isW t [59] = false) {b : Blk} (hb1 : S.stk.getLast? = some b) (hex : b.ex = true) (h1 : isW t [123] = false) (h2 : isW t [125] = true) (hz : ¬ b.br = 0) :
    Calls Try.prog 21 #[.pointer (some ⟨bp, 0, none⟩), .agg #[.int .i64 t.kind, .string t.text, .int .i64 t.at_, .int .i64 t.line, .int .i64 t.col]] w (RlPost bp X (.bool (S.brace t).1) (S.brace t).2 w) := by
  have HE : Hid (S.brace t = (false, S.setBr (wrap64 (b.br - 1)))) := by show _ = _; unfold RS.brace; rw [if_neg (by rw [hk]; simp), if_neg (by rw [hw]; simp), hb1]; simp [hex, h1, h2, hz]
  rw [HE.out]
  have hk' : (t.kind != 2) = false := by rw [bne, hk]; rfl
  have hw' : (t.text.toList == [59]) = false := by rw [← hw, isW_eq t _ hk]
  have h1' : (t.text.toList == [123]) = false := by rw [← h1, isW_eq t _ hk]
  have h2' : (t.text.toList == [125]) = true := by rw [← h2, isW_eq t _ hk]
  have hpos : 0 < S.stk.length := by
    rcases Nat.eq_zero_or_pos S.stk.length with hz | hz
    · rw [List.eq_nil_of_length_eq_zero hz] at hb1; cases hb1
    · exact hz
  have hn' : (0 : Int) < (S.stk.length : Int) := by omega
  have hn0 : ((S.stk.length : Int) == 0) = false := beq_eq_false_iff_ne.2 (by omega)
  obtain ⟨vs, vo, h⟩ := h
  have hsm := h.small
  obtain ⟨g, c, rfl, hcap, hmx⟩ := h.form hpos
  obtain ⟨b', hb1', hb2⟩ := getLast_at hpos
  obtain rfl : b' = b := by rw [hb1] at hb1'; exact (Option.some.inj hb1').symm
  have hc := blk_cell h.blk
  have hbp := blk_lt h.blk
  have hr := h.row hb2
  have b2 := hr.1 2 (by decide); have b3 := hr.1 3 (by decide)
  have hgf := hr.2.1; have hgl := hr.2.2.1
  simp only [Blk.rcells] at b2 b3
  have hex' : b'.ex = true := hex
  rw [hex'] at b3
  have hz' : (b'.br == 0) = false := beq_eq_false_iff_ne.2 hz
  have HP := Lib.hid hpos
  have HH := Lib.hid h
  clear h hk hw hb1 hb1' hb2 hr hpos
  go_enter Try.func21, Try.ntmps21
  go_wp2_with (fail)
  go_ret
  have hS := HH.out.setBrace HP.out (wrap64 (b'.br - 1))
  exact rl_close (Rl.of (hS.1.alloc _)) (hS.2.alloc _)
set_option maxRecDepth 100000 in
set_option maxHeartbeats 2000000 in
theorem rtok_out (h : Rl w bp X S) (t : Tok) (hk : (t.kind == 2) = true) (hw : isW t [59] = false) {b : Blk} (hb1 : S.stk.getLast? = some b) (hex : b.ex = true) (h1 : isW t [123] = false) (h2 : isW t [125] = true) (hz : b.br = 0) :
    Calls Try.prog 21 #[.pointer (some ⟨bp, 0, none⟩), .agg #[.int .i64 t.kind, .string t.text, .int .i64 t.at_, .int .i64 t.line, .int .i64 t.col]] w (RlPost bp X (.bool (S.brace t).1) (S.brace t).2 w) := by
  have HE : Hid (S.brace t = (true, S.pop t true)) := by show _ = _; unfold RS.brace; rw [if_neg (by rw [hk]; simp), if_neg (by rw [hw]; simp), hb1]; simp [hex, h1, h2, hz]
  rw [HE.out]
  have hk' : (t.kind != 2) = false := by rw [bne, hk]; rfl
  have hw' : (t.text.toList == [59]) = false := by rw [← hw, isW_eq t _ hk]
  have h1' : (t.text.toList == [123]) = false := by rw [← h1, isW_eq t _ hk]
  have h2' : (t.text.toList == [125]) = true := by rw [← h2, isW_eq t _ hk]
  have hpos : 0 < S.stk.length := by
    rcases Nat.eq_zero_or_pos S.stk.length with hz | hz
    · rw [List.eq_nil_of_length_eq_zero hz] at hb1; cases hb1
    · exact hz
  have hn' : (0 : Int) < (S.stk.length : Int) := by omega
  have hn0 : ((S.stk.length : Int) == 0) = false := beq_eq_false_iff_ne.2 (by omega)
  obtain ⟨vs, vo, h⟩ := h
  have hsm := h.small
  obtain ⟨g, c, rfl, hcap, hmx⟩ := h.form hpos
  obtain ⟨b', hb1', hb2⟩ := getLast_at hpos
  obtain rfl : b' = b := by rw [hb1] at hb1'; exact (Option.some.inj hb1').symm
  have hc := blk_cell h.blk
  have hbp := blk_lt h.blk
  have hr := h.row hb2
  have b2 := hr.1 2 (by decide); have b3 := hr.1 3 (by decide)
  have hgf := hr.2.1; have hgl := hr.2.2.1
  simp only [Blk.rcells] at b2 b3
  have hex' : b'.ex = true := hex
  rw [hex'] at b3
  have hz' : (b'.br == 0) = true := beq_iff_eq.2 hz
  have HP := Lib.hid hpos
  have HH := Lib.hid h
  have HC := Lib.hid (rpop_any (Rl.of (h.alloc (tokObj t))) t true hpos)
  generalize S.pop t true = R at *
  clear h hk hw hb1 hb1' hb2 hr hpos
  go_enter Try.func21, Try.ntmps21
  go_wp2_with (go_at_call 20; go_must (refine HC.out.mono ?_; rintro e w1 ⟨rfl, hp, hk⟩; have HP1 := Lib.hid hp; have HK := Lib.hid hk; clear hp hk))
  go_ret
  exact rl_close HP1.out (((Keep.refl _ _).alloc _).trans HK.out)
set_option maxRecDepth 100000 in
set_option maxHeartbeats 2000000 in
theorem rtok_more (h : Rl w bp X S) (t : Tok) (hk : (t.kind == 2) = true) (hw : isW t [59] = false) {b : Blk} (hb1 : S.stk.getLast? = some b) (hex : b.ex = true) (h1 : isW t [123] = false) (h2 : isW t [125] = false) :
    Calls Try.prog 21 #[.pointer (some ⟨bp, 0, none⟩), .agg #[.int .i64 t.kind, .string t.text, .int .i64 t.at_, .int .i64 t.line, .int .i64 t.col]] w (RlPost bp X (.bool (S.brace t).1) (S.brace t).2 w) := by
  have HE : Hid (S.brace t = (false, S)) := by show _ = _; unfold RS.brace; rw [if_neg (by rw [hk]; simp), if_neg (by rw [hw]; simp), hb1]; simp [hex, h1, h2]
  rw [HE.out]
  have hk' : (t.kind != 2) = false := by rw [bne, hk]; rfl
  have hw' : (t.text.toList == [59]) = false := by rw [← hw, isW_eq t _ hk]
  have h1' : (t.text.toList == [123]) = false := by rw [← h1, isW_eq t _ hk]
  have h2' : (t.text.toList == [125]) = false := by rw [← h2, isW_eq t _ hk]
  have hpos : 0 < S.stk.length := by
    rcases Nat.eq_zero_or_pos S.stk.length with hz | hz
    · rw [List.eq_nil_of_length_eq_zero hz] at hb1; cases hb1
    · exact hz
  have hn' : (0 : Int) < (S.stk.length : Int) := by omega
  have hn0 : ((S.stk.length : Int) == 0) = false := beq_eq_false_iff_ne.2 (by omega)
  obtain ⟨vs, vo, h⟩ := h
  have hsm := h.small
  obtain ⟨g, c, rfl, hcap, hmx⟩ := h.form hpos
  obtain ⟨b', hb1', hb2⟩ := getLast_at hpos
  obtain rfl : b' = b := by rw [hb1] at hb1'; exact (Option.some.inj hb1').symm
  have hc := blk_cell h.blk
  have hbp := blk_lt h.blk
  have hr := h.row hb2
  have b2 := hr.1 2 (by decide); have b3 := hr.1 3 (by decide)
  have hgf := hr.2.1; have hgl := hr.2.2.1
  simp only [Blk.rcells] at b2 b3
  have hex' : b'.ex = true := hex
  rw [hex'] at b3
  have HP := Lib.hid hpos
  have HH := Lib.hid h
  clear h hk hw hb1 hb1' hb2 hr hpos
  go_enter Try.func21, Try.ntmps21
  go_wp2_with (fail)
  go_ret
  exact rl_close (Rl.of (HH.out.alloc _)) ((Keep.refl _ _).alloc _)

theorem rtoken_any (h : Rl w bp X S) (t : Tok) :
    Calls Try.prog 21 #[.pointer (some ⟨bp, 0, none⟩), .agg #[.int .i64 t.kind, .string t.text, .int .i64 t.at_, .int .i64 t.line, .int .i64 t.col]] w (RlPost bp X (.bool (S.brace t).1) (S.brace t).2 w) := by
  cases hk : t.kind == 2 with
  | false => exact rtok_other h t hk
  | true =>
    cases hw : isW t [59] with
    | true => exact rtok_semi h t hk hw
    | false =>
      cases hb : S.stk.getLast? with
      | none => exact rtok_none h t hk hw (by rw [List.getLast?_eq_none_iff] at hb; rw [hb]; rfl)
      | some b =>
        cases hex : b.ex with
        | false => exact rtok_flat h t hk hw hb hex
        | true =>
          cases h1 : isW t [123] with
          | true => exact rtok_open h t hk hw hb hex h1
          | false =>
            cases h2 : isW t [125] with
            | false => exact rtok_more h t hk hw hb hex h1 h2
            | true =>
              by_cases hz : b.br = 0
              · exact rtok_out h t hk hw hb hex h1 h2 hz
              · exact rtok_shut h t hk hw hb hex h1 h2 hz
end
end Go.Proofs.Ytglkdhodpgnlgaa
