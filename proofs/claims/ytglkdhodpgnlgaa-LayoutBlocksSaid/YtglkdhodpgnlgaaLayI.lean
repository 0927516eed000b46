/-
  What the placer's rules keep: the place they look at, and the outermost block. Plain law, no program in sight.
-/
import Derived.Test.YtglkdhodpgnlgaaLayP
namespace Go.Proofs.Ytglkdhodpgnlgaa
open Go.RowKit Go.Tel

/-- The outermost block stands, and is no explicit one and no let's. -/
def PS.Inv (S : PS) : Prop := ∃ b r, S.stk = b :: r ∧ b.ex = false ∧ b.lt = false

section
variable {inn : List Tok} {S : PS}
theorem PS.Inv.pos (h : S.Inv) : 0 < S.stk.length := by obtain ⟨b, r, e, _⟩ := h; rw [e]; simp
theorem inv_stk {S T : PS} (h : S.Inv) (e : T.stk = S.stk) : T.Inv := by obtain ⟨b, r, h1, h2⟩ := h; exact ⟨b, r, by rw [e, h1], h2⟩
theorem inv_drop {S T : PS} (h : S.Inv) (hl : 2 ≤ S.stk.length) (e : T.stk = S.stk.dropLast) : T.Inv := by
  obtain ⟨b, r, h1, h2⟩ := h
  rw [h1] at hl e
  cases r with
  | nil => simp at hl
  | cons c r => exact ⟨b, (c :: r).dropLast, by rw [e]; rfl, h2⟩
theorem inv_push {S T : PS} (h : S.Inv) {b : Blk} (e : T.stk = S.stk ++ [b]) : T.Inv := by
  obtain ⟨c, r, h1, h2⟩ := h
  exact ⟨c, r ++ [b], by rw [e, h1]; rfl, h2⟩

theorem put_keep (t : Tok) (S : PS) : (PS.put t S).2.stk = S.stk ∧ (PS.put t S).2.at_ = S.at_ := by
  unfold PS.put; split
  · dsimp only; split <;> exact ⟨rfl, rfl⟩
  · exact ⟨rfl, rfl⟩
theorem sign_keep (k : Int) (t : Tok) (x : ByteArray) (S : PS) : (PS.sign k t x S).2.stk = S.stk ∧ (PS.sign k t x S).2.at_ = S.at_ := put_keep _ _
theorem fail_keep (e : Int) (S : PS) : (S.fail inn e).2.stk = S.stk ∧ (S.fail inn e).2.at_ = S.at_ := by
  unfold PS.fail; dsimp only; split <;> exact ⟨rfl, rfl⟩
theorem end_keep' (S : PS) : (S.end_ inn).2.stk = S.stk.dropLast ∧ (S.end_ inn).2.at_ = S.at_ := sign_keep _ _ _ _

theorem lines_keep (k : Nat) : ∀ S : PS, (PS.lines inn k S).2.at_ = S.at_ ∧ (S.Inv → (PS.lines inn k S).2.Inv) := by
  induction k with
  | zero => intro S; exact ⟨rfl, id⟩
  | succ k ih =>
    intro S
    unfold PS.lines
    split
    · exact ⟨rfl, id⟩
    · rename_i b hb
      split
      · exact ⟨rfl, id⟩
      · split
        · split
          · exact ⟨(fail_keep 42 S).2, fun h => inv_stk h (fail_keep 42 S).1⟩
          · rename_i hl
            have hd : S.Inv → (S.end_ inn).2.Inv := fun h => inv_drop h (by have := h.pos; omega) (end_keep' S).1
            split
            · exact ⟨by rw [(ih _).1]; exact (end_keep' S).2, fun h => (ih _).2 (hd h)⟩
            · exact ⟨(end_keep' S).2, hd⟩
        · split
          · exact ⟨(sign_keep _ _ _ S).2, fun h => inv_stk h (sign_keep _ _ _ S).1⟩
          · exact ⟨rfl, id⟩
theorem line_keep (S : PS) : (PS.line inn S).2.at_ = S.at_ ∧ (S.Inv → (PS.line inn S).2.Inv) := by
  unfold PS.line; split
  · exact ⟨rfl, id⟩
  · exact lines_keep _ S

theorem ends_keep (k : Nat) : ∀ S : PS, (PS.ends inn k S).2.at_ = S.at_ ∧ (k < S.stk.length → S.Inv → (PS.ends inn k S).2.Inv) := by
  induction k with
  | zero => intro S; exact ⟨rfl, fun _ h => h⟩
  | succ k ih =>
    intro S
    unfold PS.ends
    split
    · refine ⟨by rw [(ih _).1]; exact (end_keep' S).2, fun hl h => (ih _).2 ?_ (inv_drop h (by omega) (end_keep' S).1)⟩
      rw [(end_keep' S).1]; simp; omega
    · exact ⟨(end_keep' S).2, fun hl h => inv_drop h (by omega) (end_keep' S).1⟩
theorem inFind_some {l : List Blk} {n i : Nat} (h : inFind l n = some i) : i < n ∧ ∃ b, l[i]? = some b ∧ b.lt = true := by
  induction n with
  | zero => cases h
  | succ n ih =>
    unfold inFind at h
    split at h
    · cases h
    · rename_i b hb
      split at h
      · cases h
      · split at h
        · rename_i hlt; cases h; exact ⟨Nat.lt_succ_self _, b, hb, hlt⟩
        · have := ih h; exact ⟨by omega, this.2⟩
theorem inward_keep (S : PS) : (PS.inward inn S).2.at_ = S.at_ ∧ (S.Inv → (PS.inward inn S).2.Inv) := by
  unfold PS.inward; split
  · split
    · exact ⟨rfl, id⟩
    · rename_i i hi
      refine ⟨(ends_keep _ S).1, fun h => (ends_keep _ S).2 ?_ h⟩
      obtain ⟨h1, b, h2, h3⟩ := inFind_some hi
      obtain ⟨c, r, h4, h5, h6⟩ := h
      rcases Nat.eq_zero_or_pos i with rfl | hp
      · rw [h4] at h2; simp at h2; rw [← h2, h6] at h3; cases h3
      · omega
  · exact ⟨rfl, id⟩
theorem lasts_at (k : Nat) : ∀ S : PS, (PS.lasts inn k S).2.at_ = S.at_ := by
  induction k with
  | zero => intro S; rfl
  | succ k ih =>
    intro S
    unfold PS.lasts
    split
    · rfl
    · split
      · exact (fail_keep 42 S).2
      · split
        · rw [ih]; exact (end_keep' S).2
        · exact (end_keep' S).2
theorem last_keep (S : PS) : (PS.last inn S).2.at_ = S.at_ ∧ ((S.now inn).kind ≠ 7 → S.Inv → (PS.last inn S).2.Inv) := by
  unfold PS.last; split
  · rename_i h; exact ⟨lasts_at _ S, fun h' => absurd h h'⟩
  · exact ⟨rfl, fun _ => id⟩
theorem setBr_keep (S : PS) (n : Int) (hb : ∀ b, S.stk.getLast? = some b → b.ex = true) : (S.setBr n).at_ = S.at_ ∧ (S.Inv → (S.setBr n).Inv) := by
  unfold PS.setBr; split
  · exact ⟨rfl, id⟩
  · rename_i b h
    refine ⟨rfl, fun hi => ?_⟩
    obtain ⟨c, r, h4, h5, h6⟩ := hi
    cases r with
    | nil => rw [h4] at h; simp at h; have := hb c (by rw [h4]; rfl); rw [h5] at this; cases this
    | cons d r => exact ⟨c, (d :: r).dropLast ++ [{ b with br := n }], by show S.stk.dropLast ++ _ = _; rw [h4]; rfl, h5, h6⟩
theorem brace_keep (S : PS) : (PS.brace inn S).2.at_ = S.at_ ∧ (S.Inv → (PS.brace inn S).2.Inv) := by
  unfold PS.brace; split
  · exact ⟨(sign_keep _ _ _ _).2, fun h => inv_stk h (sign_keep _ _ _ _).1⟩
  · split
    · exact ⟨rfl, id⟩
    · rename_i b hb
      split
      · rename_i hx
        have hall : ∀ b', S.stk.getLast? = some b' → b'.ex = true := by intro b' h'; rw [hb] at h'; cases h'; exact hx
        split
        · exact setBr_keep S _ hall
        · split
          · split
            · refine ⟨(sign_keep _ _ _ _).2, fun h => ?_⟩
              obtain ⟨c, r, h4, h5, h6⟩ := h
              cases r with
              | nil => have := hall c (by rw [h4]; rfl); rw [h5] at this; cases this
              | cons d r => exact inv_stk (S := { S with stk := S.stk.dropLast }) (inv_drop ⟨c, d :: r, h4, h5, h6⟩ (by rw [h4]; simp) rfl) (sign_keep _ _ _ _).1
            · exact setBr_keep S _ hall
          · exact ⟨rfl, id⟩
      · exact ⟨rfl, id⟩
theorem begin_keep (b : Blk) (t : Tok) (x : ByteArray) (S : PS) : (PS.begin_ b t x S).2.at_ = S.at_ ∧ (S.Inv → (PS.begin_ b t x S).2.Inv) := by
  unfold PS.begin_; split
  · exact ⟨rfl, id⟩
  · exact ⟨(sign_keep _ _ _ _).2, fun h => inv_stk (S := { S with stk := S.stk ++ [b] }) (inv_push h rfl) (sign_keep _ _ _ _).1⟩
theorem behind_keep (S : PS) : ((PS.behind inn S).2.at_ = S.at_ ∨ ((PS.behind inn S).2.at_ = S.at_ + 1 ∧ isOpener (S.now inn) = true)) ∧ (S.Inv → (PS.behind inn S).2.Inv) := by
  unfold PS.behind; split
  · rename_i ho
    dsimp only
    split
    · exact ⟨Or.inr ⟨(begin_keep _ _ _ _).1, ho⟩, fun h => (begin_keep _ _ _ _).2 (inv_stk h rfl)⟩
    · split
      · split
        · exact ⟨Or.inl ((sign_keep _ _ _ _).2.trans (sign_keep _ _ _ _).2), fun h => inv_stk h ((sign_keep _ _ _ _).1.trans (sign_keep _ _ _ _).1)⟩
        · exact ⟨Or.inl (sign_keep _ _ _ _).2, fun h => inv_stk h (sign_keep _ _ _ _).1⟩
      · exact ⟨Or.inl (begin_keep _ _ _ _).1, fun h => (begin_keep _ _ _ _).2 (inv_stk h rfl)⟩
  · exact ⟨Or.inl rfl, id⟩
end
end Go.Proofs.Ytglkdhodpgnlgaa
