/-
  The tokens of texts of one letter over and over: names, numbers, blanks, signs. Plain law, no program in sight.
-/
import Derived.Test.YtglkdhodpgnlgaaDoorLfQ
namespace Go.Proofs.YtglkdhodpgnlgaaDoor
open Go.RowKit Go.Tel

theorem run_rep (v : UInt8) (hv : v.toNat < 128) (hb : isBad v = false) (h32 : ¬ v.toNat = 32) (h10 : ¬ v.toNat = 10) (hd : isDelim v = false) (n : Nat) :
    ∀ (k p l c : Nat), Lx.run (n + k) ⟨List.replicate n v, p, l, c, 0⟩ = ⟨[], p + n, l, c + n, 0⟩ := by
  induction n with
  | zero => intro k p l c; exact run_end _ rfl
  | succ n ih =>
    intro k p l c
    rw [show n + 1 + k = (n + k) + 1 by omega, List.replicate_succ, run_go (c := v) rfl rfl h32 h10 hd, pass_plain hv hb, if_neg h10, if_neg h10, ih]
    rw [show p + 1 + n = p + (n + 1) by omega, show c + 1 + n = c + (n + 1) by omega]
theorem rep_word (v : UInt8) (n : Nat) (hv : wordList.all (fun l => l.any (· != v)) = true) : isWord (List.replicate n v) = false := by
  rw [Bool.eq_false_iff]
  intro h
  unfold isWord at h
  rw [List.contains_iff_mem] at h
  have h2 := List.all_eq_true.1 hv _ h
  rw [List.any_eq_true] at h2
  obtain ⟨x, hx, hxv⟩ := h2
  rw [List.eq_of_mem_replicate hx] at hxv
  simp at hxv
/-- One run. -/
theorem rep_one (v : UInt8) (n : Nat) (hn : 0 < n) (hs : n ≤ 60000) (hv : v.toNat < 128) (hb : isBad v = false) (h32 : ¬ v.toNat = 32) (h10 : ¬ v.toNat = 10) (h45 : ¬ v.toNat = 45) (hd : isDelim v = false) {k : Int} {q : Int}
    (hk : kindOf (List.replicate n v) = (k, List.replicate n v, q)) (hk7 : k ≠ 7) : (refTokens (List.replicate n v)).2.2 = q := by
  obtain ⟨m, rfl⟩ : ∃ m, n = m + 1 := ⟨n - 1, by omega⟩
  have hX : Lx.blank ((List.replicate (m + 1) v).length + 1) ⟨List.replicate (m + 1) v, 0, 1, 1, 0⟩ = ⟨List.replicate (m + 1) v, 0, 1, 1, 0⟩ := by
    rw [List.replicate_succ]
    refine blank_no _ (c := v) (r := List.replicate m v) rfl (by omega) ?_
    cases m <;> simp [dash2, List.replicate_succ, h45]
  have hY : Lx.run ((List.replicate (m + 1) v).length + 1) ⟨List.replicate (m + 1) v, 0, 1, 1, 0⟩ = ⟨[], m + 1, 1, m + 2, 0⟩ := by
    rw [List.length_replicate, run_rep v hv hb h32 h10 hd, Nat.zero_add, Nat.add_comm 1 (m + 1)]
  unfold refTokens
  rw [if_neg (by rw [List.length_replicate]; omega), List.length_replicate]
  rw [rt_step (g := m + 2) (x0 := ⟨List.replicate (m + 1) v, 0, 1, 1, 0⟩) hX rfl]
  rw [step_run (X := ⟨List.replicate (m + 1) v, 0, 1, 1, 0⟩) (c := v) (r := List.replicate m v) (by rw [List.replicate_succ]) hd hY rfl (k := k) (l := List.replicate (m + 1) v) (q := q) (by
    show kindOf (List.take (m + 1 - 0) (List.replicate (m + 1) v)) = _
    rw [List.take_of_length_le (by rw [List.length_replicate]; omega)]; exact hk)]
  by_cases hq : q = 0
  · rw [if_neg (by simp [hq])]
    unfold tailOf
    rw [if_neg (by simp), if_neg hk7]
    unfold stepTo
    simp only []
    rw [rt_step (g := m + 1) (x0 := ⟨[], m + 1, 1, m + 2, 0⟩) (X := ⟨[], m + 1, 1, m + 2, 0⟩) rfl rfl, step_end rfl]
    unfold tailOf
    rw [if_neg (by simp), if_pos rfl]
    exact hq.symm
  · rw [if_pos hq]; rfl
theorem long_name (n : Nat) (h1 : 0 < n) (h2 : n ≤ 80) : (refTokens (List.replicate n 97)).2.2 = if n > 60 then 2 else 0 := by
  have hw := rep_word 97 n (by kernel_rfl)
  have hd : isDigits (List.replicate n 97) = false := by
    obtain ⟨m, rfl⟩ : ∃ m, n = m + 1 := ⟨n - 1, by omega⟩
    rw [List.replicate_succ]; rfl
  have hdot : dots (List.replicate n 97) = false := by
    have : ∀ (m : Nat) b, dotsFrom b (List.replicate m 97) = false := by
      intro m
      induction m with
      | zero => intro b; rfl
      | succ m ih => intro b; rw [List.replicate_succ]; show (false || dotsFrom false _) = false; rw [ih]; rfl
    exact this n true
  refine rep_one 97 n h1 (by omega) (by decide) (by decide) (by decide) (by decide) (by decide) (by decide) (k := 1) ?_ (by decide)
  rw [kind_name' hw hd, hdot, List.length_replicate]
  rfl
theorem long_digits (n : Nat) (h1 : 0 < n) (h2 : n ≤ 20) : (refTokens (List.replicate n 55)).2.2 = if n > 9 then 41 else 0 := by
  have hw := rep_word 55 n (by kernel_rfl)
  have hd : isDigits (List.replicate n 55) = true := by
    unfold isDigits
    rw [List.all_eq_true]
    intro x hx
    rw [List.eq_of_mem_replicate hx]; rfl
  refine rep_one 55 n h1 (by omega) (by decide) (by decide) (by decide) (by decide) (by decide) (by decide) (k := 3) ?_ (by decide)
  rw [kind_num' hw hd, List.length_replicate]
theorem long_blank (n : Nat) : (refTokens (List.replicate n 32)).2.2 = if n > 65536 then 2 else 0 := by
  unfold refTokens
  rw [List.length_replicate]
  by_cases h : n > 65536
  · rw [if_pos h, if_pos h]
  · rw [if_neg h, if_neg h]
    have hX : Lx.blank ((List.replicate n (32 : UInt8)).length + 1) ⟨List.replicate n 32, 0, 1, 1, 0⟩ = ⟨[], n, 1, n + 1, 0⟩ := by
      have := blank_sps n 1 0 1 1 []
      rw [List.append_nil] at this
      rw [List.length_replicate, this, Nat.zero_add, Nat.add_comm 1 n]; rfl
    rw [rt_step (g := n + 1) (x0 := ⟨List.replicate n 32, 0, 1, 1, 0⟩) (X := ⟨[], n, 1, n + 1, 0⟩) hX rfl, step_end rfl]
    unfold tailOf
    rw [if_neg (by simp), if_pos rfl]; rfl
theorem sign_loop (m : Nat) : ∀ (g i c : Nat) (out : List Tok), out.length = i → i ≤ 20000 →
    (i + m < 20000 → (rtoks (m + g + 1) ⟨List.replicate m (59 : UInt8), i, 1, c, 0⟩ out).2 = (0, 0)) ∧ (20000 ≤ i + m → (rtoks (m + g + 1) ⟨List.replicate m (59 : UInt8), i, 1, c, 0⟩ out).2 = (20000, 2)) := by
  induction m with
  | zero =>
    intro g i c out ho hi
    have e : rtoks (0 + g + 1) ⟨List.replicate 0 (59 : UInt8), i, 1, c, 0⟩ out = stepTo (0 + g) (stepOf ⟨[], i, 1, c, 0⟩ out) := rt_step (x0 := ⟨[], i, 1, c, 0⟩) (X := ⟨[], i, 1, c, 0⟩) rfl rfl
    rw [e, step_end rfl]
    unfold tailOf
    refine ⟨fun h => ?_, fun h => ?_⟩
    · rw [if_neg (by omega), if_pos rfl]; rfl
    · rw [if_pos (by omega)]
      obtain rfl : i = 20000 := by omega
      rfl
  | succ m ih =>
    intro g i c out ho hi
    have hX : Lx.blank ((List.replicate (m + 1) (59 : UInt8)).length + 1) ⟨List.replicate (m + 1) 59, i, 1, c, 0⟩ = ⟨List.replicate (m + 1) 59, i, 1, c, 0⟩ := by
      rw [List.replicate_succ]
      refine blank_no _ (c := 59) (r := List.replicate m 59) rfl (by decide) ?_
      cases m <;> simp [dash2, List.replicate_succ]
    have hp : (Lx.mk (List.replicate (m + 1) (59 : UInt8)) i 1 c 0).pass = ⟨List.replicate m 59, i + 1, 1, c + 1, 0⟩ := by
      rw [List.replicate_succ, pass_plain (by decide) (by decide), if_neg (by decide), if_neg (by decide)]
    have e : rtoks (m + 1 + g + 1) ⟨List.replicate (m + 1) (59 : UInt8), i, 1, c, 0⟩ out = stepTo (m + 1 + g) (stepOf ⟨List.replicate (m + 1) 59, i, 1, c, 0⟩ out) := rt_step (x0 := ⟨List.replicate (m + 1) (59 : UInt8), i, 1, c, 0⟩) hX rfl
    rw [e, step_delim (X := ⟨List.replicate (m + 1) (59 : UInt8), i, 1, c, 0⟩) (c := 59) (r := List.replicate m 59) (by rw [List.replicate_succ]) (by decide) (by rw [hp])]
    unfold tailOf
    by_cases h20 : 20000 ≤ out.length
    · rw [if_pos h20]
      obtain rfl : i = 20000 := by omega
      exact ⟨fun h => absurd h (by omega), fun _ => rfl⟩
    · rw [if_neg h20, if_neg (by decide), hp]
      unfold stepTo
      simp only []
      rw [show m + 1 + g = m + g + 1 by omega]
      have h := ih g (i + 1) (c + 1) (out ++ [⟨2, mkS (List.take (i + 1 - i) (List.replicate (m + 1) 59)), i, 1, c⟩]) (by rw [List.length_append, ho]; rfl) (by omega)
      exact ⟨fun h1 => h.1 (by omega), fun h1 => h.2 (by omega)⟩
theorem long_signs (n : Nat) (hn : n ≤ 60000) : (refTokens (List.replicate n 59)).2 = if 20000 ≤ n then (20000, 2) else (0, 0) := by
  have h := sign_loop n 1 0 1 [] rfl (by omega)
  unfold refTokens
  rw [List.length_replicate, if_neg (by omega)]
  by_cases h2 : 20000 ≤ n
  · rw [if_pos h2]; exact h.2 (by omega)
  · rw [if_neg h2]; exact h.1 (by omega)
end Go.Proofs.YtglkdhodpgnlgaaDoor
