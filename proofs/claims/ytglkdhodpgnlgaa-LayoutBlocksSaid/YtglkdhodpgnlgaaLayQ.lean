/-
  Plain laws on the placer's steps: what each leaves as it was; and the stack's cells. No condition.
-/
import Derived.Test.YtglkdhodpgnlgaaLayW2
import Derived.Deep.DeepCutAuto
import Derived.Deep.LoopGhost
import Derived.Deep.CutBlock
namespace Go.Proofs.Ytglkdhodpgnlgaa
open Go.RowKit Go.Tel

theorem put_stk (t : Tok) (S : PS) : (PS.put t S).2.stk = S.stk ∧ (PS.put t S).2.at_ = S.at_ ∧ (PS.put t S).2.first = S.first ∧ (PS.put t S).2.done = S.done := by
  unfold PS.put; split
  · split <;> exact ⟨rfl, rfl, rfl, rfl⟩
  · exact ⟨rfl, rfl, rfl, rfl⟩
theorem sign_stk (k : Int) (t : Tok) (x : ByteArray) (S : PS) : (PS.sign k t x S).2.stk = S.stk ∧ (PS.sign k t x S).2.at_ = S.at_ ∧ (PS.sign k t x S).2.first = S.first ∧ (PS.sign k t x S).2.done = S.done := put_stk _ S
theorem end_stk (inn : List Tok) (S : PS) : (S.end_ inn).2.stk = S.stk.dropLast ∧ (S.end_ inn).2.at_ = S.at_ ∧ (S.end_ inn).2.first = S.first ∧ (S.end_ inn).2.done = S.done := sign_stk _ _ _ _
theorem fail_stk (inn : List Tok) (n : Int) (S : PS) : (S.fail inn n).2.stk = S.stk ∧ (S.fail inn n).2.at_ = S.at_ ∧ (S.fail inn n).2.first = S.first ∧ (S.fail inn n).2.done = S.done := by
  unfold PS.fail; simp only []; split <;> exact ⟨rfl, rfl, rfl, rfl⟩
theorem begin_at (b : Blk) (t : Tok) (x : ByteArray) (S : PS) : (PS.begin_ b t x S).2.at_ = S.at_ := by
  unfold PS.begin_; split
  · rfl
  · exact (sign_stk _ _ _ _).2.1
theorem lines_at (inn : List Tok) : ∀ (k : Nat) (S : PS), (PS.lines inn k S).2.at_ = S.at_
  | 0, _ => rfl
  | k + 1, S => by
    unfold PS.lines
    split
    · rfl
    · split
      · rfl
      · split
        · split
          · exact (fail_stk _ _ _).2.1
          · split
            · rw [lines_at inn k]; exact (end_stk inn S).2.1
            · exact (end_stk inn S).2.1
        · split
          · exact (sign_stk _ _ _ _).2.1
          · rfl
theorem line_at (inn : List Tok) (S : PS) : (PS.line inn S).2.at_ = S.at_ := by unfold PS.line; split; rfl; exact lines_at inn _ S
theorem ends_at (inn : List Tok) : ∀ (k : Nat) (S : PS), (PS.ends inn k S).2.at_ = S.at_
  | 0, _ => rfl
  | k + 1, S => by
    unfold PS.ends; split
    · rw [ends_at inn k]; exact (end_stk inn S).2.1
    · exact (end_stk inn S).2.1
theorem inward_at (inn : List Tok) (S : PS) : (PS.inward inn S).2.at_ = S.at_ := by
  unfold PS.inward; split
  · split
    · rfl
    · exact ends_at inn _ S
  · rfl
theorem lasts_at (inn : List Tok) : ∀ (k : Nat) (S : PS), (PS.lasts inn k S).2.at_ = S.at_
  | 0, _ => rfl
  | k + 1, S => by
    unfold PS.lasts; split
    · rfl
    · split
      · exact (fail_stk _ _ _).2.1
      · split
        · rw [lasts_at inn k]; exact (end_stk inn S).2.1
        · exact (end_stk inn S).2.1
theorem last_at (inn : List Tok) (S : PS) : (PS.last inn S).2.at_ = S.at_ := by unfold PS.last; split; exact lasts_at inn _ S; rfl
theorem setBr_at (S : PS) (n : Int) : (S.setBr n).at_ = S.at_ := by unfold PS.setBr; split <;> rfl
theorem brace_at (inn : List Tok) (S : PS) : (PS.brace inn S).2.at_ = S.at_ := by
  unfold PS.brace; split
  · exact (sign_stk _ _ _ _).2.1
  · split
    · rfl
    · split
      · split
        · exact setBr_at _ _
        · split
          · split
            · exact (sign_stk _ _ _ _).2.1
            · exact setBr_at _ _
          · rfl
      · rfl

section
variable {w : World} {bp bi ci : Nat} {X : Nat → Prop} {inn : List Tok} {S : PS} {vs vo : Value}
theorem PlV.form (h : PlV w bp bi ci X inn S vs vo) (hn : 0 < S.stk.length) : ∃ g c, vs = .slice (some ⟨g, 0, none⟩) S.stk.length c := by
  rcases h.stk.2 with ⟨_, h0⟩ | ⟨g, c, cur, hv, _⟩
  · omega
  · exact ⟨g, c, hv⟩
theorem PlV.row {g c : Nat} (h : PlV w bp bi ci X inn S (.slice (some ⟨g, 0, none⟩) S.stk.length c) vo) {k : Nat} {b : Blk} (hk : S.stk[k]? = some b) :
    (∀ j, j < 4 → w.cell? ⟨g, k * 4 + j, none⟩ = b.cells[j]?) ∧ (∀ j, w.frozen? ⟨g, j, none⟩ = false) ∧ g < w.heap.size ∧ bp < g := by
  rcases h.stk.2 with ⟨h0, _⟩ | ⟨g', cap', cur, hv, hb, hg, hn, hm, hs, ht⟩
  · cases h0
  · cases hv
    refine ⟨fun j hj => ?_, blk_free hg, blk_lt hg, by omega⟩
    rw [blk_cell hg, ← Blks_at S.stk k j b hk hj, ← ht, List.getElem?_take, if_pos]
    · simp
    · have := (List.getElem?_eq_some_iff.1 hk).1; omega
theorem PlV.small (h : PlV w bp bi ci X inn S vs vo) : S.stk.length ≤ maxLen := by
  rcases h.stk.2 with ⟨_, h0⟩ | ⟨g, c, cur, hv, _, _, hnc, hm, _⟩
  · omega
  · omega
end
end Go.Proofs.Ytglkdhodpgnlgaa
