/-
  What package layout's token keeps. Plain law, no program in sight.
-/
import Derived.Test.YtglkdhodpgnlgaaLayTk
namespace Go.Proofs.Ytglkdhodpgnlgaa
open Go.RowKit Go.Tel

/-- One token of the end, and it stands last. -/
def Ended (inn : List Tok) : Prop := ∃ l e, inn = l ++ [e] ∧ e.kind = 7 ∧ ∀ t ∈ l, t.kind ≠ 7
theorem Ended.pos {inn : List Tok} (h : Ended inn) : 0 < inn.length := by obtain ⟨l, e, rfl, _⟩ := h; simp
theorem Ended.at_ {inn : List Tok} (h : Ended inn) {i : Nat} (hi : i < inn.length) : (inn.getD i noTok).kind ≠ 7 ↔ i + 1 < inn.length := by
  obtain ⟨l, e, rfl, h1, h2⟩ := h
  simp only [List.length_append, List.length_singleton] at hi ⊢
  rw [List.getD_eq_getElem?_getD]
  by_cases hl : i < l.length
  · rw [List.getElem?_append_left hl, List.getElem?_eq_getElem hl]
    exact ⟨fun _ => by omega, fun _ => h2 _ (List.getElem_mem hl)⟩
  · obtain rfl : i = l.length := by omega
    rw [List.getElem?_append_right (Nat.le_refl _)]
    simp [h1]

section
variable {inn : List Tok} {S : PS}
theorem rules_keep (k : Nat) : ∀ i T, S.Good inn i T → k + i = 4 → (PS.rules inn k i T).2.at_ = S.at_ ∧ ((S.now inn).kind ≠ 7 → (PS.rules inn k i T).2.Inv) := by
  induction k with
  | zero => intro i T h _; exact ⟨h.1, h.2.2⟩
  | succ k ih =>
    intro i T h hk
    unfold PS.rules
    split
    · exact ih (i + 1) _ h.step (by omega)
    · exact ⟨h.step.1, h.step.2.2⟩
theorem token_keep (h : S.Inv) : S.at_ ≤ (PS.token inn S).2.at_ ∧ (PS.token inn S).2.at_ ≤ S.at_ + 1 ∧ ((S.now inn).kind ≠ 7 → (PS.token inn S).2.Inv) := by
  rw [PS.token_eq]
  have hk := rules_keep (inn := inn) (S := S) 4 0 { S with done := false } ⟨rfl, fun _ => inv_stk h rfl, fun _ => inv_stk h rfl⟩ rfl
  generalize PS.rules inn 4 0 { S with done := false } = a at *
  obtain ⟨b, T⟩ := a
  unfold PS.rest
  cases b
  · exact ⟨Nat.le_of_eq hk.1.symm, by rw [if_neg Bool.false_ne_true]; have := hk.1; dsimp only at this ⊢; omega, hk.2⟩
  · rw [if_pos rfl]
    have key : ∀ U : PS, U.at_ = S.at_ → ((S.now inn).kind ≠ 7 → U.Inv) → S.at_ ≤ (PS.behind inn U).2.at_ ∧ (PS.behind inn U).2.at_ ≤ S.at_ + 1 ∧ ((S.now inn).kind ≠ 7 → (PS.behind inn U).2.Inv) := by
      intro U h1 h2
      have hb := behind_keep (inn := inn) U
      exact ⟨by rcases hb.1 with e | e <;> omega, by rcases hb.1 with e | e <;> omega, fun hh => hb.2 (h2 hh)⟩
    unfold PS.after
    split
    · exact key _ hk.1 (fun hh => inv_stk (hk.2 hh) rfl)
    · split
      · exact key _ ((put_keep _ _).2.trans hk.1) (fun hh => inv_stk (hk.2 hh) (put_keep _ _).1)
      · have e := (put_keep (PS.now inn { T with first := false }) { T with first := false }).2.trans hk.1
        exact ⟨by dsimp only; omega, by dsimp only; omega, fun hh => inv_stk (hk.2 hh) (put_keep _ _).1⟩
end
end Go.Proofs.Ytglkdhodpgnlgaa
