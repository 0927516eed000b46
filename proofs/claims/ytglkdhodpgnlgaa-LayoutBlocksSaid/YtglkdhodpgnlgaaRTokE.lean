/-
  A text that has tokens has one token of the end, and it stands last; there are no more than 20001. Plain law, no program in sight.
-/
import Derived.Test.YtglkdhodpgnlgaaRTokP
import Derived.Test.YtglkdhodpgnlgaaLayTi
namespace Go.Proofs.Ytglkdhodpgnlgaa
open Go.RowKit Go.Tel

theorem rtoks_ended (k : Nat) : ∀ (x0 : Lx) (out : List Tok), x0.rest.length < k → (∀ t ∈ out, t.kind ≠ 7) → out.length ≤ 20000 → (rtoks k x0 out).2.2 = 0 → Ended (rtoks k x0 out).1 ∧ (rtoks k x0 out).1.length ≤ 20001 := by
  induction k with
  | zero => intro x0 out h; omega
  | succ k ih =>
    intro x0 out hk ho hl he
    generalize hX : Lx.blank (x0.rest.length + 1) x0 = X at *
    by_cases hXe : X.e = 0
    · cases hr : X.rest with
      | nil =>
        rw [rtoks_end hX hXe hr] at he ⊢
        split at he
        · exact absurd he (show ¬ (2 : Int) = 0 by decide)
        · rename_i hf
          rw [if_neg hf]
          exact ⟨⟨out, _, rfl, rfl, ho⟩, by simp; omega⟩
      | cons c r =>
        rw [rtoks_tok hX hXe hr] at he ⊢
        have hhead := Lx.blank_head (x0.rest.length + 1) x0 (Or.inr (Nat.lt_succ_self _))
        have hle := Lx.blank_le (x0.rest.length + 1) x0
        rw [hX] at hhead hle
        have hsh := Lx.step_shorter (k := X.rest.length) hr (hhead hXe c r hr) hXe
        have hn : (nextOf X c).e ≠ 0 ∨ (nextOf X c).rest.length < X.rest.length := hsh
        by_cases h1 : (nextOf X c).e ≠ 0
        · rw [if_pos h1] at he
          have : ((nextOf X c).e : Int) = 0 := he
          omega
        · rw [if_neg h1] at he ⊢
          by_cases h2 : (kindAt X (nextOf X c) c).2.2 ≠ 0
          · rw [if_pos h2] at he; exact absurd he h2
          · rw [if_neg h2] at he ⊢
            by_cases h3 : 20000 ≤ out.length
            · rw [if_pos h3] at he; exact absurd he (show ¬ (2 : Int) = 0 by decide)
            · rw [if_neg h3] at he ⊢
              refine ih _ _ ?_ ?_ ?_ he
              · rcases hn with hn | hn
                · exact absurd hn h1
                · omega
              · intro t ht
                rcases List.mem_append.1 ht with ht | ht
                · exact ho t ht
                · rw [List.mem_singleton] at ht; rw [ht]; exact kindAt_ne7 _ _ _
              · simp; omega
    · rw [rtoks_err hX hXe] at he
      have : (X.e : Int) = 0 := he
      omega

/-- The row of a text's tokens. -/
theorem refTokens_ended (l : List UInt8) (h : (refTokens l).2.2 = 0) : Ended (refTokens l).1 ∧ (refTokens l).1.length ≤ 20001 := by
  unfold refTokens at h ⊢
  split at h
  · exact absurd h (show ¬ (2 : Int) = 0 by decide)
  · rename_i hl
    rw [if_neg hl]
    exact rtoks_ended _ _ _ (by show l.length < l.length + 2; omega) (fun t ht => by cases ht) (Nat.zero_le _) h
end Go.Proofs.Ytglkdhodpgnlgaa
