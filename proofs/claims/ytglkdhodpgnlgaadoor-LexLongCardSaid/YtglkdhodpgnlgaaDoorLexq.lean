/-
  Plain laws on where the reference's lexer goes: each rune brings it on, or tells what is wrong. No condition.
-/
import Derived.Test.YtglkdhodpgnlgaaDoorLexp
namespace Go.Tel

/-- So many rounds are enough. -/
def Lx.enough (k : Nat) (x : Lx) : Prop := x.e ≠ 0 ∨ x.rest.length < k

theorem Lx.pass_shorter (x : Lx) (hne : x.rest ≠ []) : x.pass.e ≠ 0 ∨ x.pass.rest.length < x.rest.length := by
  unfold Lx.pass
  split
  · rename_i h; exact absurd h hne
  · rename_i c r h
    split
    · left; simp
    · split
      · left; simp
      · right
        have := runeLen_le x.rest
        show (x.rest.drop _).length < _
        rw [List.length_drop]; omega

theorem Lx.pass_le (x : Lx) : x.pass.rest.length ≤ x.rest.length := by
  unfold Lx.pass
  split
  · exact Nat.le_refl _
  · split
    · exact Nat.le_refl _
    · split
      · exact Nat.le_refl _
      · show (x.rest.drop _).length ≤ _; rw [List.length_drop]; omega

theorem Lx.pass_enough {x : Lx} {k : Nat} (hne : x.rest ≠ []) (h : x.rest.length < k + 1) : Lx.enough k x.pass := by
  rcases Lx.pass_shorter x hne with h1 | h1
  · exact Or.inl h1
  · exact Or.inr (by omega)

theorem Lx.comment_le : ∀ (k : Nat) (x : Lx), (Lx.comment k x).rest.length ≤ x.rest.length
  | 0, _ => Nat.le_refl _
  | k + 1, x => by
    unfold Lx.comment
    split
    · exact Nat.le_refl _
    · split
      · exact Nat.le_refl _
      · exact Nat.le_trans (Lx.comment_le k _) (Lx.pass_le x)

theorem Lx.comment_keep (k : Nat) (x : Lx) (h : x.e ≠ 0) : Lx.comment k x = x := by
  cases k with
  | zero => rfl
  | succ k => unfold Lx.comment; split; rfl; rw [if_pos (Or.inr h)]

theorem Lx.comment_ok {s : ByteArray} : ∀ (k : Nat) (x : Lx), x.ok s → (Lx.comment k x).ok s
  | 0, _, h => h
  | k + 1, x, h => by
    unfold Lx.comment
    split
    · exact h
    · split
      · exact h
      · exact Lx.comment_ok k _ (Lx.pass_ok h)

theorem dash_cons {l : List UInt8} (h : dash2 l = true) : ∃ c r, l = c :: r ∧ c.toNat = 45 := by
  unfold dash2 at h
  split at h
  · rename_i c d r
    simp only [Bool.and_eq_true, beq_iff_eq] at h
    exact ⟨c, d :: r, rfl, h.1⟩
  · cases h

theorem Lx.comment_enough {x : Lx} {k n : Nat} (he : x.e = 0) (hd : dash2 x.rest = true) (h : x.rest.length < k + 1) : Lx.enough k (Lx.comment (n + 1) x) := by
  obtain ⟨c, r, hr, hc⟩ := dash_cons hd
  unfold Lx.comment
  rw [hr]
  simp only []
  rw [if_neg (by omega)]
  rcases Lx.pass_shorter x (by rw [hr]; simp) with h1 | h1
  · left; rw [Lx.comment_keep _ _ h1]; exact h1
  · right; have := Lx.comment_le n x.pass; omega

theorem Lx.blank_keep (k : Nat) (x : Lx) (h : x.e ≠ 0) : Lx.blank k x = x := by
  cases k with
  | zero => rfl
  | succ k => unfold Lx.blank; split; rfl; rw [if_pos h]

theorem Lx.blank_ok {s : ByteArray} : ∀ (k : Nat) (x : Lx), x.ok s → (Lx.blank k x).ok s
  | 0, _, h => h
  | k + 1, x, h => by
    unfold Lx.blank
    split
    · exact h
    · split
      · exact h
      · split
        · exact Lx.blank_ok k _ (Lx.pass_ok h)
        · split
          · exact Lx.blank_ok k _ (Lx.comment_ok _ _ h)
          · exact h

theorem Lx.blank_le : ∀ (k : Nat) (x : Lx), (Lx.blank k x).rest.length ≤ x.rest.length
  | 0, _ => Nat.le_refl _
  | k + 1, x => by
    unfold Lx.blank
    split
    · exact Nat.le_refl _
    · split
      · exact Nat.le_refl _
      · split
        · exact Nat.le_trans (Lx.blank_le k _) (Lx.pass_le x)
        · split
          · exact Nat.le_trans (Lx.blank_le k _) (Lx.comment_le _ x)
          · exact Nat.le_refl _

theorem Lx.run_keep (k : Nat) (x : Lx) (h : x.e ≠ 0) : Lx.run k x = x := by
  cases k with
  | zero => rfl
  | succ k => unfold Lx.run; split; rfl; rw [if_pos (Or.inr (Or.inr (Or.inr h)))]

theorem Lx.run_ok {s : ByteArray} : ∀ (k : Nat) (x : Lx), x.ok s → (Lx.run k x).ok s
  | 0, _, h => h
  | k + 1, x, h => by
    unfold Lx.run
    split
    · exact h
    · split
      · exact h
      · exact Lx.run_ok k _ (Lx.pass_ok h)

theorem Lx.run_le : ∀ (k : Nat) (x : Lx), (Lx.run k x).rest.length ≤ x.rest.length
  | 0, _ => Nat.le_refl _
  | k + 1, x => by
    unfold Lx.run
    split
    · exact Nat.le_refl _
    · split
      · exact Nat.le_refl _
      · exact Nat.le_trans (Lx.run_le k _) (Lx.pass_le x)

/-- Behind blanks, where nothing is wrong and something is left: no blank stands there. -/
theorem Lx.blank_head : ∀ (k : Nat) (x : Lx), Lx.enough k x → (Lx.blank k x).e = 0 → ∀ c r, (Lx.blank k x).rest = c :: r → c.toNat ≠ 32 ∧ c.toNat ≠ 10
  | 0, x, h, he, c, r, hr => by
    rcases h with h | h
    · exact absurd he h
    · omega
  | k + 1, x, h, he, c, r, hr => by
    unfold Lx.blank at he hr
    split at he
    · rename_i h0
      rw [h0] at hr; simp only [] at hr
      rw [h0] at hr; cases hr
    · rename_i c' r' h0
      rw [h0] at hr; simp only [] at hr
      try rw [← h0] at hr
      have hlen : x.rest.length < k + 1 ∨ x.e ≠ 0 := by rcases h with h | h; exact Or.inr h; exact Or.inl h
      split at he
      · rename_i h1; exact absurd he h1
      · rename_i h1
        rw [if_neg h1] at hr
        have hlt : x.rest.length < k + 1 := by rcases hlen with h | h; exact h; exact absurd h h1
        split at he
        · rename_i h2
          rw [if_pos h2] at hr
          exact Lx.blank_head k _ (Lx.pass_enough (by rw [h0]; simp) hlt) he c r hr
        · rename_i h2
          rw [if_neg h2] at hr
          split at he
          · rename_i h3
            rw [if_pos h3] at hr
            exact Lx.blank_head k _ (Lx.comment_enough (by simpa using h1) h3 hlt) he c r hr
          · rename_i h3
            rw [if_neg h3] at hr
            rw [h0] at hr; cases hr
            omega

/-- A run, or a sign, brings the lexer on. -/
theorem Lx.step_shorter {x : Lx} {k : Nat} {c : UInt8} {r : List UInt8} (hr : x.rest = c :: r) (hc : c.toNat ≠ 32 ∧ c.toNat ≠ 10) (he : x.e = 0) :
    (if isDelim c = true then x.pass else Lx.run (k + 1) x).e ≠ 0 ∨ (if isDelim c = true then x.pass else Lx.run (k + 1) x).rest.length < x.rest.length := by
  split
  · exact Lx.pass_shorter x (by rw [hr]; simp)
  · rename_i hd
    unfold Lx.run
    rw [hr]; simp only []
    rw [← hr, if_neg (by rintro (h | h | h | h); exact hc.1 h; exact hc.2 h; exact hd h; exact h he)]
    rcases Lx.pass_shorter x (by rw [hr]; simp) with h1 | h1
    · left; rw [Lx.run_keep _ _ h1]; exact h1
    · right; have := Lx.run_le k x.pass; omega

end Go.Tel
