/-
  The reference's layer: put, push, pop: each does to the layer what its plain function says. Condition: the layer lies in memory as 'Rl' says.
-/
import Derived.Test.YtglkdhodpgnlgaaRbB
namespace Go.Proofs.Ytglkdhodpgnlgaa
open Go.RowKit Go.Tel

set_option maxRecDepth 1000000 in
set_option maxHeartbeats 4000000 in
theorem rput_err {w : World} {bp : Nat} {X : Nat → Prop} {S : RS} (h : Rl w bp X S) (k : Int) (t : Tok) (own : Bool) (he : S.e ≠ 0) :
    Calls Try.prog 18 #[.pointer (some ⟨bp, 0, none⟩), .int .i64 k, .agg #[.int .i64 t.kind, .string t.text, .int .i64 t.at_, .int .i64 t.line, .int .i64 t.col], .bool own] w (RlPost bp X (.tuple #[]) (S.put k t own) w) := by
  obtain ⟨vs, vo, h⟩ := h
  obtain ⟨p, c, hv⟩ := own_form h.out
  subst hv
  have hc := blk_cell h.blk
  have hf := blk_free h.blk
  have hbp := blk_lt h.blk
  have hbn1 : ¬ bp = w.heap.size + 1 := by omega
  have hbn2 : ¬ w.heap.size + 1 = bp := by omega
  have hbn3 : ¬ bp = w.heap.size + 1 + 1 := by omega
  have hbn4 : ¬ w.heap.size + 1 + 1 = bp := by omega
  have hbs1 : bp < w.heap.size + 1 := by omega
  have hbs2 : bp < w.heap.size + 1 + 1 := by omega
  have HA := Lib.hid h
  have he' : (S.e != 0) = true := bne_iff_ne.2 he
  have HE : Hid (S.put k t own = S) := by show _ = _; unfold RS.put; rw [if_pos he]
  rw [HE.out]
  clear he h
  go_enter Try.func18, Try.ntmps18
  go_wp2
  refine bodyPost_ret (results_none rfl _ _ _) rfl ?_
  exact rl_close ⟨_, _, HA.out.alloc _⟩ ((Keep.refl _ _).alloc _)

set_option maxRecDepth 1000000 in
set_option maxHeartbeats 4000000 in
theorem rput_full {w : World} {bp : Nat} {X : Nat → Prop} {S : RS} (h : Rl w bp X S) (k : Int) (t : Tok) (own : Bool) (he : S.e = 0) (hl : (60000 : Int) ≤ (S.out.length : Int)) :
    Calls Try.prog 18 #[.pointer (some ⟨bp, 0, none⟩), .int .i64 k, .agg #[.int .i64 t.kind, .string t.text, .int .i64 t.at_, .int .i64 t.line, .int .i64 t.col], .bool own] w (RlPost bp X (.tuple #[]) (S.put k t own) w) := by
  obtain ⟨vs, vo, h⟩ := h
  obtain ⟨p, c, hv⟩ := own_form h.out
  subst hv
  have hc := blk_cell h.blk
  have hf := blk_free h.blk
  have hbp := blk_lt h.blk
  have hbn1 : ¬ bp = w.heap.size + 1 := by omega
  have hbn2 : ¬ w.heap.size + 1 = bp := by omega
  have hbn3 : ¬ bp = w.heap.size + 1 + 1 := by omega
  have hbn4 : ¬ w.heap.size + 1 + 1 = bp := by omega
  have hbs1 : bp < w.heap.size + 1 := by omega
  have hbs2 : bp < w.heap.size + 1 + 1 := by omega
  have HA := Lib.hid h
  have he' : (S.e != 0) = false := by rw [he]; rfl
  have HE : Hid (S.put k t own = { S with e := 2, at_ := t.at_ }) := by show _ = _; unfold RS.put; rw [if_neg (by simp [he]), if_pos (by omega)]
  rw [HE.out]
  clear he h
  go_enter Try.func18, Try.ntmps18
  go_wp2
  refine bodyPost_ret (results_none rfl _ _ _) rfl ?_
  exact rl_close ⟨_, _, (((HA.out.setE 2).setAt t.at_).alloc _)⟩ (((HA.out.setE 2).keepSet _ (HA.out.keepSet _ (Keep.refl _ _) 2 _) 3 _).alloc _)

set_option maxRecDepth 1000000 in
set_option maxHeartbeats 4000000 in
theorem rput_bare {w : World} {bp : Nat} {X : Nat → Prop} {S : RS} (h : Rl w bp X S) (k : Int) (t : Tok) (he : S.e = 0) (hl : ¬ (60000 : Int) ≤ (S.out.length : Int)) :
    Calls Try.prog 18 #[.pointer (some ⟨bp, 0, none⟩), .int .i64 k, .agg #[.int .i64 t.kind, .string t.text, .int .i64 t.at_, .int .i64 t.line, .int .i64 t.col], .bool false] w (RlPost bp X (.tuple #[]) (S.put k t false) w) := by
  obtain ⟨vs, vo, h⟩ := h
  obtain ⟨p, c, hv⟩ := own_form h.out
  subst hv
  have hc := blk_cell h.blk
  have hf := blk_free h.blk
  have hbp := blk_lt h.blk
  have hbn1 : ¬ bp = w.heap.size + 1 := by omega
  have hbn2 : ¬ w.heap.size + 1 = bp := by omega
  have hbn3 : ¬ bp = w.heap.size + 1 + 1 := by omega
  have hbn4 : ¬ w.heap.size + 1 + 1 = bp := by omega
  have hbs1 : bp < w.heap.size + 1 := by omega
  have hbs2 : bp < w.heap.size + 1 + 1 := by omega
  have HA := Lib.hid h
  have he' : (S.e != 0) = false := by rw [he]; rfl
  have hl' : (S.out.length : Int) < 60000 := by omega
  have HO3 : Hid (S.out.length < 200000) := by show _ < _; omega
  have HO5 : Hid ((Value.slice p S.out.length c).ownBlock ≠ some bp) := fun e => by have := own_ge h.out bp e; omega
  have HE : Hid (S.put k t false = { S with out := S.out ++ [⟨k, ⟨#[]⟩, t.at_, t.line, t.col⟩] }) := by show _ = _; unfold RS.put; rw [if_neg (by simp [he]), if_neg (by omega)]; rfl
  rw [HE.out]
  have HW := Lib.hid (((h.alloc (tokObj t)).alloc (tokObj ⟨k, ⟨#[]⟩, t.at_, t.line, t.col⟩)).alloc (tokObj ⟨k, ⟨#[]⟩, t.at_, t.line, t.col⟩)).drew
  have HO1 := Lib.hid HW.out.out
  have HO2 := Lib.hid (blk_new2 w (tokObj t) (tokObj ⟨k, ⟨#[]⟩, t.at_, t.line, t.col⟩) (tokObj ⟨k, ⟨#[]⟩, t.at_, t.line, t.col⟩))
  have HO4 : Hid (bp + 1 ≤ (((w.alloc (tokObj t)).alloc (tokObj ⟨k, ⟨#[]⟩, t.at_, t.line, t.col⟩)).alloc (tokObj ⟨k, ⟨#[]⟩, t.at_, t.line, t.col⟩)).drew.heap.size) := Nat.succ_le_of_lt (blk_lt HW.out.blk)
  clear he hl h
  go_enter Try.func18, Try.ntmps18
  go_wp2
  clear hl'
  go_region_law (refine step_append_tok rfl _ _ rfl (bp + 1) _ S.out rfl HO1.out (w.heap.size + 1 + 1) ⟨k, ⟨#[]⟩, t.at_, t.line, t.col⟩ rfl HO2.out HO3.out HO4.out ?_; intro g cap w1 hown hg hat; have HP := Lib.hid (HW.out.newOut hg hown hat); have hB1 := blk_cell (grown_old hg HW.out.blk HO5.out); have hF1 := blk_free (grown_old hg HW.out.blk HO5.out); clear hown hg hat)
  all_goals
    go_end0
    exact rl_close ⟨_, _, HP.out.1⟩ (((((Keep.refl _ _).alloc _).alloc _).alloc _).drew.trans HP.out.2)

end Go.Proofs.Ytglkdhodpgnlgaa

namespace Go.Proofs.Ytglkdhodpgnlgaa
open Go.RowKit Go.Tel

set_option maxRecDepth 1000000 in
set_option maxHeartbeats 4000000 in
theorem rput_own {w : World} {bp : Nat} {X : Nat → Prop} {S : RS} (h : Rl w bp X S) (k : Int) (t : Tok) (he : S.e = 0) (hl : ¬ (60000 : Int) ≤ (S.out.length : Int)) :
    Calls Try.prog 18 #[.pointer (some ⟨bp, 0, none⟩), .int .i64 k, .agg #[.int .i64 t.kind, .string t.text, .int .i64 t.at_, .int .i64 t.line, .int .i64 t.col], .bool true] w (RlPost bp X (.tuple #[]) (S.put k t true) w) := by
  obtain ⟨vs, vo, h⟩ := h
  obtain ⟨p, c, hv⟩ := own_form h.out
  subst hv
  have hc := blk_cell h.blk
  have hf := blk_free h.blk
  have hbp := blk_lt h.blk
  have hbn1 : ¬ bp = w.heap.size + 1 := by omega
  have hbn2 : ¬ w.heap.size + 1 = bp := by omega
  have hbn3 : ¬ bp = w.heap.size + 1 + 1 := by omega
  have hbn4 : ¬ w.heap.size + 1 + 1 = bp := by omega
  have hbs1 : bp < w.heap.size + 1 := by omega
  have hbs2 : bp < w.heap.size + 1 + 1 := by omega
  have HA := Lib.hid h
  have he' : (S.e != 0) = false := by rw [he]; rfl
  have hl' : (S.out.length : Int) < 60000 := by omega
  have HO3 : Hid (S.out.length < 200000) := by show _ < _; omega
  have HO5 : Hid ((Value.slice p S.out.length c).ownBlock ≠ some bp) := fun e => by have := own_ge h.out bp e; omega
  have HE : Hid (S.put k t true = { S with out := S.out ++ [⟨k, t.text, t.at_, t.line, t.col⟩] }) := by show _ = _; unfold RS.put; rw [if_neg (by simp [he]), if_neg (by omega)]; rfl
  rw [HE.out]
  have HW := Lib.hid (((h.alloc (tokObj t)).alloc (tokObj ⟨k, t.text, t.at_, t.line, t.col⟩)).alloc (tokObj ⟨k, t.text, t.at_, t.line, t.col⟩)).drew
  have HO1 := Lib.hid HW.out.out
  have HO2 := Lib.hid (blk_new2 w (tokObj t) (tokObj ⟨k, t.text, t.at_, t.line, t.col⟩) (tokObj ⟨k, t.text, t.at_, t.line, t.col⟩))
  have HO4 : Hid (bp + 1 ≤ (((w.alloc (tokObj t)).alloc (tokObj ⟨k, t.text, t.at_, t.line, t.col⟩)).alloc (tokObj ⟨k, t.text, t.at_, t.line, t.col⟩)).drew.heap.size) := Nat.succ_le_of_lt (blk_lt HW.out.blk)
  clear he hl h
  go_enter Try.func18, Try.ntmps18
  go_wp2
  clear hl'
  go_region_law (refine step_append_tok rfl _ _ rfl (bp + 1) _ S.out rfl HO1.out (w.heap.size + 1 + 1) ⟨k, t.text, t.at_, t.line, t.col⟩ rfl HO2.out HO3.out HO4.out ?_; intro g cap w1 hown hg hat; have HP := Lib.hid (HW.out.newOut hg hown hat); have hB1 := blk_cell (grown_old hg HW.out.blk HO5.out); have hF1 := blk_free (grown_old hg HW.out.blk HO5.out); clear hown hg hat)
  all_goals
    go_end0
    exact rl_close ⟨_, _, HP.out.1⟩ (((((Keep.refl _ _).alloc _).alloc _).alloc _).drew.trans HP.out.2)

theorem rput_any {w : World} {bp : Nat} {X : Nat → Prop} {S : RS} (h : Rl w bp X S) (k : Int) (t : Tok) (own : Bool) :
    Calls Try.prog 18 #[.pointer (some ⟨bp, 0, none⟩), .int .i64 k, .agg #[.int .i64 t.kind, .string t.text, .int .i64 t.at_, .int .i64 t.line, .int .i64 t.col], .bool own] w (RlPost bp X (.tuple #[]) (S.put k t own) w) := by
  by_cases he : S.e = 0
  · by_cases hl : (60000 : Int) ≤ (S.out.length : Int)
    · exact rput_full h k t own he hl
    · cases own
      · exact rput_bare h k t he hl
      · exact rput_own h k t he hl
  · exact rput_err h k t own he

end Go.Proofs.Ytglkdhodpgnlgaa

namespace Go.Proofs.Ytglkdhodpgnlgaa
open Go.RowKit Go.Tel

set_option maxRecDepth 100000 in
set_option maxHeartbeats 1000000 in
theorem rpush_any {w : World} {bp : Nat} {X : Nat → Prop} {S : RS} (h : Rl w bp X S) (b : Blk) (t : Tok) (hn : S.stk.length < 100000) :
    Calls Try.prog 19 #[.pointer (some ⟨bp, 0, none⟩), .agg #[.int .i64 b.col, .bool b.lt, .int .i64 b.br, .bool b.ex], .agg #[.int .i64 t.kind, .string t.text, .int .i64 t.at_, .int .i64 t.line, .int .i64 t.col]] w (RlPost bp X (.tuple #[]) (S.push b t) w) := by
  obtain ⟨vs, vo, h⟩ := h
  obtain ⟨p, c, hv⟩ := own_form h.stk
  subst hv
  have hc := blk_cell h.blk
  have hf := blk_free h.blk
  have hbp := blk_lt h.blk
  have hbn1 : ¬ bp = w.heap.size + 1 := by omega
  have hbn2 : ¬ w.heap.size + 1 = bp := by omega
  have hbn3 : ¬ bp = w.heap.size + 1 + 1 := by omega
  have hbn4 : ¬ w.heap.size + 1 + 1 = bp := by omega
  have hbs1 : bp < w.heap.size + 1 := by omega
  have hbs2 : bp < w.heap.size + 1 + 1 := by omega
  have HA := Lib.hid h
  have HO3 : Hid (S.stk.length < 200000) := by show _ < _; omega
  have HO5 : Hid ((Value.slice p S.stk.length c).ownBlock ≠ some bp) := fun e => by have := own_ge h.stk bp e; omega
  have HW := Lib.hid (((h.alloc (rblkObj b)).alloc (tokObj t)).alloc (rblkObj b)).drew
  have HO1 := Lib.hid HW.out.stk
  have HO2 := Lib.hid (blk_new2 w (rblkObj b) (tokObj t) (rblkObj b))
  have HO4 : Hid (bp + 1 ≤ (((w.alloc (rblkObj b)).alloc (tokObj t)).alloc (rblkObj b)).drew.heap.size) := Nat.succ_le_of_lt (blk_lt HW.out.blk)
  by_cases hl : (60 : Int) ≤ (S.stk.length : Int)
  · by_cases he : S.e = 0
    · have he' : (S.e == 0) = true := beq_iff_eq.2 he
      have HE : Hid (S.push b t = { S with e := 2, at_ := t.at_ }) := by show _ = _; unfold RS.push; rw [if_pos ⟨by omega, he⟩]
      rw [HE.out]
      clear he h hn
      go_enter Try.func19, Try.ntmps19
      go_wp2
      refine bodyPost_ret (results_none rfl _ _ _) rfl ?_
      exact rl_close ⟨_, _, ((((HA.out.setE 2).setAt t.at_).alloc _).alloc _)⟩ ((((HA.out.setE 2).keepSet _ (HA.out.keepSet _ (Keep.refl _ _) 2 _) 3 _).alloc _).alloc _)
    · have he' : (S.e == 0) = false := beq_eq_false_iff_ne.2 he
      have HE : Hid (S.push b t = { S with stk := S.stk ++ [b] }) := by show _ = _; unfold RS.push; rw [if_neg (fun h => he h.2)]
      rw [HE.out]
      clear he h hn
      go_enter Try.func19, Try.ntmps19
      go_wp2
      clear hl
      go_region_law (refine step_append_rblk rfl _ _ rfl (bp + 1) _ S.stk rfl HO1.out (w.heap.size + 1 + 1) b rfl HO2.out HO3.out HO4.out ?_; intro g cap w1 hown hg hat; have HP := Lib.hid (HW.out.newStk hg hown hat); have hB1 := blk_cell (grown_old hg HW.out.blk HO5.out); have hF1 := blk_free (grown_old hg HW.out.blk HO5.out); clear hown hg hat)
      all_goals
        go_end0
        exact rl_close ⟨_, _, HP.out.1⟩ (((((Keep.refl _ _).alloc _).alloc _).alloc _).drew.trans HP.out.2)
  · have hl' : (S.stk.length : Int) < 60 := by omega
    have HE : Hid (S.push b t = { S with stk := S.stk ++ [b] }) := by show _ = _; unfold RS.push; rw [if_neg (fun h => by omega)]
    rw [HE.out]
    clear hl h hn
    go_enter Try.func19, Try.ntmps19
    go_wp2
    clear hl'
    go_region_law (refine step_append_rblk rfl _ _ rfl (bp + 1) _ S.stk rfl HO1.out (w.heap.size + 1 + 1) b rfl HO2.out HO3.out HO4.out ?_; intro g cap w1 hown hg hat; have HP := Lib.hid (HW.out.newStk hg hown hat); have hB1 := blk_cell (grown_old hg HW.out.blk HO5.out); have hF1 := blk_free (grown_old hg HW.out.blk HO5.out); clear hown hg hat)
    all_goals
      go_end0
      exact rl_close ⟨_, _, HP.out.1⟩ (((((Keep.refl _ _).alloc _).alloc _).alloc _).drew.trans HP.out.2)

set_option maxRecDepth 100000 in
set_option maxHeartbeats 1000000 in
theorem rpop_any {w : World} {bp : Nat} {X : Nat → Prop} {S : RS} (h : Rl w bp X S) (t : Tok) (own : Bool) (hn : 0 < S.stk.length) :
    Calls Try.prog 20 #[.pointer (some ⟨bp, 0, none⟩), .agg #[.int .i64 t.kind, .string t.text, .int .i64 t.at_, .int .i64 t.line, .int .i64 t.col], .bool own] w (RlPost bp X (.tuple #[]) (S.pop t own) w) := by
  unfold RS.pop
  have hs : (S.put 5 t own).stk = S.stk := by unfold RS.put; split; rfl; split <;> rfl
  have HC := Lib.hid (rput_any (h.alloc (tokObj t)) 5 t own)
  rw [← hs] at hn ⊢
  generalize S.put 5 t own = T at *
  have hn' : (0 : Int) < (T.stk.length : Int) := by omega
  have HN := Lib.hid hn
  clear h hs hn
  go_enter Try.func20, Try.ntmps20
  go_wp2_with (go_at_call 18; go_must (refine HC.out.mono ?_; rintro e w1 ⟨rfl, hp, hk⟩; have HP := Lib.hid hp; have HK := Lib.hid hk; clear hp hk))
  obtain ⟨vs, vo, hp⟩ := HP.out
  obtain ⟨g, c, rfl, hcap, hmx⟩ := hp.form HN.out
  have hc := blk_cell hp.blk
  have hf := blk_free hp.blk
  have hbp := blk_lt hp.blk
  have HH := Lib.hid hp; clear hp HP
  go_region
  all_goals
    go_end0
    exact rl_close ⟨_, _, HH.out.popped.drew⟩ ((((Keep.refl _ _).alloc _).trans (HH.out.keepSet _ HK.out 1 _)).drew)
end Go.Proofs.Ytglkdhodpgnlgaa
