/-
  What parts tokens: package lex and the reference agree; runs too. Plain law, no program in sight.
-/
import Derived.Test.YtglkdhodpgnlgaaDoorLxT
namespace Go.Proofs.YtglkdhodpgnlgaaDoor
open Go.RowKit Go.Tel

/-- Where a rune begins, the first rune must be one. -/
def Lx.fix (b : Lx) : Lx := if b.e ≠ 0 then b else if b.pass.e ≠ 0 then b.pass else b
def Lx.blankP : Nat → Lx → Lx
  | 0, x => x
  | k + 1, x =>
    if (Lx.till solidP (x.rest.length + 1) x).e ≠ 0 then Lx.till solidP (x.rest.length + 1) x
    else if dash2 (Lx.till solidP (x.rest.length + 1) x).rest = true then
      if (Lx.till nlP ((Lx.till solidP (x.rest.length + 1) x).rest.length + 1) (Lx.till solidP (x.rest.length + 1) x)).e ≠ 0 then Lx.till nlP ((Lx.till solidP (x.rest.length + 1) x).rest.length + 1) (Lx.till solidP (x.rest.length + 1) x)
      else Lx.blankP k (Lx.till nlP ((Lx.till solidP (x.rest.length + 1) x).rest.length + 1) (Lx.till solidP (x.rest.length + 1) x))
    else Lx.till solidP (x.rest.length + 1) x

theorem pass_low_ok {c : UInt8} {r : List UInt8} {x : Lx} (h : x.rest = c :: r) (he : x.e = 0) (hc : c.toNat < 128) (hb : isBad c = false) : x.pass.e = 0 ∧ x.pass.rest = r ∧ x.pass.at_ = x.at_ + 1 := by
  have h1 := ((dec_ok c r).low hc).2
  rcases pass_cases c r x h with ⟨h0, _⟩ | ⟨_, h2, _⟩ | ⟨_, _, h3⟩
  · rw [h, h1] at h0; cases h0
  · rw [hb] at h2; cases h2
  · rw [h3, h, h1]; exact ⟨he, rfl, rfl⟩
theorem till_fuel {p : Nat → Bool} (k : Nat) : ∀ (x : Lx) (j : Nat), x.e = 0 → x.rest.length < k → x.rest.length < j → Lx.till p k x = Lx.till p j x := by
  induction k with
  | zero => intro x j _ h; omega
  | succ k ih =>
    intro x j he h1 h2
    obtain ⟨j, rfl⟩ : ∃ i, j = i + 1 := ⟨j - 1, by omega⟩
    cases hr : x.rest with
    | nil => rw [till_nil _ hr, till_nil _ hr]
    | cons c r =>
      by_cases hp : x.pass.e = 0
      · cases hpc : p (decL x.rest).1 with
        | true => rw [till_stop hr hp hpc, till_stop hr hp hpc]
        | false =>
          rw [till_go hr hp hpc, till_go hr hp hpc]
          have := Lx.pass_shorter x (by rw [hr]; simp)
          exact ih _ _ hp (by rcases this with h | h; exact absurd hp h; omega) (by rcases this with h | h; exact absurd hp h; omega)
      · rw [till_bad hr hp, till_bad hr hp]
theorem dec_first {c : UInt8} {r : List UInt8} : (c.toNat < 128 ∧ (decL (c :: r)).1 = c.toNat) ∨ (128 ≤ c.toNat ∧ 128 ≤ (decL (c :: r)).1) := by
  by_cases h : c.toNat < 128
  · left; exact ⟨h, by rw [((dec_ok c r).low h).1]⟩
  · right; exact ⟨by omega, (dec_ok c r).high (by omega)⟩
theorem solid_first {c : UInt8} {r : List UInt8} : solidP (decL (c :: r)).1 = (!(c.toNat == 32) && !(c.toNat == 10)) := by
  unfold solidP
  rcases dec_first (c := c) (r := r) with ⟨_, h2⟩ | ⟨h1, h2⟩
  · rw [h2]
  · have e1 : ((decL (c :: r)).1 == 32) = false := beq_eq_false_iff_ne.2 (by omega)
    have e2 : ((decL (c :: r)).1 == 10) = false := beq_eq_false_iff_ne.2 (by omega)
    have e3 : (c.toNat == 32) = false := beq_eq_false_iff_ne.2 (by omega)
    have e4 : (c.toNat == 10) = false := beq_eq_false_iff_ne.2 (by omega)
    rw [e1, e2, e3, e4]
theorem nl_first {c : UInt8} {r : List UInt8} : nlP (decL (c :: r)).1 = (c.toNat == 10) := by
  unfold nlP
  rcases dec_first (c := c) (r := r) with ⟨_, h2⟩ | ⟨h1, h2⟩
  · rw [h2]
  · have e2 : ((decL (c :: r)).1 == 10) = false := beq_eq_false_iff_ne.2 (by omega)
    have e4 : (c.toNat == 10) = false := beq_eq_false_iff_ne.2 (by omega)
    rw [e2, e4]
theorem single_first {c : UInt8} {r : List UInt8} : singleP (decL (c :: r)).1 = isDelim c := by
  unfold singleP isDelim
  rcases dec_first (c := c) (r := r) with ⟨_, h2⟩ | ⟨h1, h2⟩
  · rw [h2]
  · have hne : ∀ m, m < 128 → ((decL (c :: r)).1 == m) = false ∧ (c.toNat == m) = false := fun m hm => ⟨beq_eq_false_iff_ne.2 (by omega), beq_eq_false_iff_ne.2 (by omega)⟩
    rw [(hne 40 (by omega)).1, (hne 41 (by omega)).1, (hne 123 (by omega)).1, (hne 125 (by omega)).1, (hne 59 (by omega)).1, (hne 44 (by omega)).1,
      (hne 40 (by omega)).2, (hne 41 (by omega)).2, (hne 123 (by omega)).2, (hne 125 (by omega)).2, (hne 59 (by omega)).2, (hne 44 (by omega)).2]

theorem till_comment (k : Nat) : ∀ x : Lx, x.e = 0 → Lx.till nlP k x = Lx.comment k x := by
  induction k with
  | zero => intro x _; rfl
  | succ k ih =>
    intro x he
    cases hr : x.rest with
    | nil => rw [till_nil _ hr, comment_end _ hr]
    | cons c r =>
      by_cases h10 : c.toNat = 10
      · have hp := (pass_low_ok hr he (by omega) (by unfold isBad; simp [h10])).1
        rw [till_stop hr hp (by rw [hr, nl_first]; simp [h10]), comment_stop _ hr h10]
      · rw [comment_go hr he h10]
        by_cases hp : x.pass.e = 0
        · rw [till_go hr hp (by rw [hr, nl_first]; simp [h10])]; exact ih _ hp
        · rw [till_bad hr hp, Lx.comment_keep _ _ hp]
theorem till_run (k : Nat) : ∀ x : Lx, x.e = 0 → x.rest.length < k → Lx.till endsP k x = Lx.run k x := by
  induction k with
  | zero => intro x _ h; omega
  | succ k ih =>
    intro x he hk
    cases hr : x.rest with
    | nil =>
      have h1 : Lx.run (k + 1) x = x := by unfold Lx.run; rw [hr]
      rw [till_nil _ hr, h1]
    | cons c r =>
      have hends : endsP (decL x.rest).1 = true ↔ c.toNat = 32 ∨ c.toNat = 10 ∨ isDelim c = true := by
        unfold endsP; rw [hr, solid_first, single_first]
        cases isDelim c <;> by_cases h32 : c.toNat = 32 <;> by_cases h10 : c.toNat = 10 <;> simp [h32, h10]
      by_cases hst : c.toNat = 32 ∨ c.toNat = 10 ∨ isDelim c = true
      · have h1 : Lx.run (k + 1) x = x := by
          unfold Lx.run; rw [hr]; simp only []
          rw [if_pos (by rcases hst with h | h | h; exact Or.inl h; exact Or.inr (Or.inl h); exact Or.inr (Or.inr (Or.inl h)))]
        rw [h1]
        have hp : x.pass.e = 0 := by
          have : c.toNat < 128 ∧ isBad c = false := by
            rcases hst with h | h | h
            · exact ⟨by omega, by unfold isBad; simp [h]⟩
            · exact ⟨by omega, by unfold isBad; simp [h]⟩
            · unfold isDelim at h
              simp only [Bool.or_eq_true, beq_iff_eq] at h
              refine ⟨by omega, ?_⟩
              unfold isBad
              rw [decide_eq_false (by omega), beq_eq_false_iff_ne.2 (show c.toNat ≠ 127 by omega)]; rfl
          exact (pass_low_ok hr he this.1 this.2).1
        exact till_stop hr hp (hends.2 hst)
      · have h1 : Lx.run (k + 1) x = Lx.run k x.pass := by
          conv => lhs; unfold Lx.run
          rw [hr]; simp only []
          rw [if_neg (by rintro (h | h | h | h); exact hst (Or.inl h); exact hst (Or.inr (Or.inl h)); exact hst (Or.inr (Or.inr h)); exact h he)]
        rw [h1]
        by_cases hp : x.pass.e = 0
        · have hpf : endsP (decL x.rest).1 = false := by
            cases hh : endsP (decL x.rest).1 with
            | false => rfl
            | true => exact absurd (hends.1 hh) hst
          rw [till_go hr hp hpf]
          refine ih x.pass hp ?_
          rcases Lx.pass_shorter x (by rw [hr]; simp) with h2 | h2
          · exact absurd hp h2
          · omega
        · rw [till_bad hr hp, Lx.run_keep _ _ hp]

theorem fix_bad {b : Lx} (h : b.e ≠ 0) : Lx.fix b = b := by unfold Lx.fix; rw [if_pos h]
theorem fix_pass {b : Lx} (h : b.e = 0) (hp : b.pass.e ≠ 0) : Lx.fix b = b.pass := by unfold Lx.fix; rw [if_neg (by omega), if_pos hp]
theorem fix_same {b : Lx} (h : b.e = 0) (hp : b.pass.e = 0) : Lx.fix b = b := by unfold Lx.fix; rw [if_neg (by omega), if_neg (by omega)]
theorem blank_P (n : Nat) : ∀ (x : Lx) (j k : Nat), x.e = 0 → x.rest.length ≤ n → x.rest.length < j → x.rest.length < k → Lx.blankP j x = Lx.fix (Lx.blank k x) := by
  induction n with
  | zero =>
    intro x j k he hn hj hk
    obtain ⟨j, rfl⟩ : ∃ i, j = i + 1 := ⟨j - 1, by omega⟩
    have hr : x.rest = [] := List.length_eq_zero_iff.1 (by omega)
    have h1 : Lx.blank k x = x := by
      cases k with
      | zero => rfl
      | succ k => unfold Lx.blank; rw [hr]
    have h2 : x.pass = x := by unfold Lx.pass; rw [hr]
    rw [h1, fix_same he (by rw [h2]; exact he)]
    unfold Lx.blankP
    rw [till_nil _ hr, if_neg (by omega), hr]; rfl
  | succ n ih =>
    intro x j k he hn hj hk
    obtain ⟨j, rfl⟩ : ∃ i, j = i + 1 := ⟨j - 1, by omega⟩
    obtain ⟨k, rfl⟩ : ∃ i, k = i + 1 := ⟨k - 1, by omega⟩
    cases hr : x.rest with
    | nil =>
      have h1 : Lx.blank (k + 1) x = x := by unfold Lx.blank; rw [hr]
      have h2 : x.pass = x := by unfold Lx.pass; rw [hr]
      rw [h1, fix_same he (by rw [h2]; exact he)]
      unfold Lx.blankP
      rw [till_nil _ hr, if_neg (by omega), hr]; rfl
    | cons c r =>
      have hlen : x.rest.length = r.length + 1 := by rw [hr]; rfl
      by_cases hs : c.toNat = 32 ∨ c.toNat = 10
      · have hp := pass_low_ok hr he (by omega) (by unfold isBad; rcases hs with h | h <;> simp [h])
        have h1 : Lx.blank (k + 1) x = Lx.blank k x.pass := by
          conv => lhs; unfold Lx.blank
          rw [hr]; simp only []; rw [if_neg (by omega), if_pos hs]
        have ht : Lx.till solidP (x.rest.length + 1) x = Lx.till solidP (x.pass.rest.length + 1) x.pass := by
          rw [till_go hr hp.1 (by rw [hr, solid_first]; rcases hs with h | h <;> simp [h])]
          exact till_fuel _ _ _ hp.1 (by rw [hp.2.1]; omega) (by rw [hp.2.1]; omega)
        have h2 : Lx.blankP (j + 1) x = Lx.blankP (j + 1) x.pass := by
          unfold Lx.blankP; rw [ht]
        rw [h1, h2]
        exact ih _ _ _ hp.1 (by rw [hp.2.1]; omega) (by rw [hp.2.1]; omega) (by rw [hp.2.1]; omega)
      · by_cases hp : x.pass.e = 0
        · have ht : Lx.till solidP (x.rest.length + 1) x = x := till_stop hr hp (by
            rw [hr, solid_first]
            have a1 : (c.toNat == 32) = false := beq_eq_false_iff_ne.2 (fun h => hs (Or.inl h))
            have a2 : (c.toNat == 10) = false := beq_eq_false_iff_ne.2 (fun h => hs (Or.inr h))
            rw [a1, a2]; rfl)
          by_cases hd : dash2 x.rest = true
          · have hcm := till_comment (x.rest.length + 1) x he
            have hen := Lx.comment_enough (k := x.rest.length) (n := x.rest.length) he hd (Nat.lt_succ_self _)
            have h1 : Lx.blank (k + 1) x = Lx.blank k (Lx.comment (x.rest.length + 1) x) := by
              conv => lhs; unfold Lx.blank
              rw [hr]; simp only []; rw [if_neg (by omega), if_neg hs, if_pos (by rw [← hr]; exact hd)]
            have h2 : Lx.blankP (j + 1) x = if (Lx.comment (x.rest.length + 1) x).e ≠ 0 then Lx.comment (x.rest.length + 1) x else Lx.blankP j (Lx.comment (x.rest.length + 1) x) := by
              conv => lhs; unfold Lx.blankP
              rw [ht, if_neg (by omega), if_pos hd, hcm]
            rw [h1, h2]
            by_cases hy : (Lx.comment (x.rest.length + 1) x).e = 0
            · rw [if_neg (by omega)]
              have : (Lx.comment (x.rest.length + 1) x).rest.length < x.rest.length := by
                rcases hen with h | h
                · exact absurd hy h
                · exact h
              exact ih _ _ _ hy (by omega) (by omega) (by omega)
            · rw [if_pos hy, Lx.blank_keep _ _ hy, fix_bad hy]
          · have h1 : Lx.blank (k + 1) x = x := by
              unfold Lx.blank; rw [hr]; simp only []; rw [if_neg (by omega), if_neg hs, if_neg (by rw [← hr]; exact hd)]
            rw [h1, fix_same he hp]
            unfold Lx.blankP
            rw [ht, if_neg (by omega), if_neg hd]
        · have ht : Lx.till solidP (x.rest.length + 1) x = x.pass := till_bad hr hp
          have hd : ¬ dash2 x.rest = true := by
            intro hd
            obtain ⟨c', r', h', h45⟩ := dash_cons hd
            rw [hr] at h'
            injection h' with e1 e2
            exact hp (pass_low_ok hr he (by rw [e1]; omega) (by unfold isBad; rw [e1, h45]; rfl)).1
          have h1 : Lx.blank (k + 1) x = x := by
            unfold Lx.blank; rw [hr]; simp only []; rw [if_neg (by omega), if_neg hs, if_neg (by rw [← hr]; exact hd)]
          rw [h1, fix_pass he hp]
          unfold Lx.blankP
          rw [ht, if_pos hp]
end Go.Proofs.YtglkdhodpgnlgaaDoor
