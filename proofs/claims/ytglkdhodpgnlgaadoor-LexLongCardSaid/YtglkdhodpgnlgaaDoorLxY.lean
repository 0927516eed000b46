/-
  The lexer of package lex against the reference: plain laws: a round of the one is a round of the other.
-/
import Derived.Test.YtglkdhodpgnlgaaDoorLxW
namespace Go.Proofs.YtglkdhodpgnlgaaDoor
open Go.RowKit Go.Tel

theorem pass_nil {x : Lx} (h : x.rest = []) : x.pass = x := by unfold Lx.pass; rw [h]
theorem rt_fix {g : Nat} {x0 : Lx} {out : List Tok} (hF : (Lx.fix (Lx.blank (x0.rest.length + 1) x0)).e ≠ 0) :
    rtoks (g + 1) x0 out = ([], ((Lx.fix (Lx.blank (x0.rest.length + 1) x0)).at_ : Int), ((Lx.fix (Lx.blank (x0.rest.length + 1) x0)).e : Int)) := by
  obtain ⟨B, hB⟩ : ∃ B, Lx.blank (x0.rest.length + 1) x0 = B := ⟨_, rfl⟩
  have hh := Lx.blank_head (x0.rest.length + 1) x0 (Or.inr (Nat.lt_succ_self _))
  rw [hB] at hF hh ⊢
  by_cases he : B.e = 0
  · by_cases hp : B.pass.e = 0
    · rw [fix_same he hp] at hF; exact absurd he hF
    · rw [fix_pass he hp]
      cases hr : B.rest with
      | nil => rw [pass_nil hr] at hp; exact absurd he hp
      | cons c r =>
        have hc := hh he c r hr
        have hn : nextOf B c = B.pass := by
          unfold nextOf
          split
          · rfl
          · rename_i hd
            rw [run_go hr he hc.1 hc.2 (by simpa using hd), Lx.run_keep _ _ hp]
        rw [rtoks_tok hB he hr, hn, if_pos hp]
  · rw [fix_bad he]; exact rtoks_err hB he
def stepTo (g : Nat) : Step → List Tok × Int × Int
  | .go Y out => rtoks g Y out
  | .done out => (out, 0, 0)
  | .err p e => ([], p, e)
theorem rt_step {g : Nat} {x0 X : Lx} {out : List Tok} (hX : Lx.blank (x0.rest.length + 1) x0 = X) (he : X.e = 0) : rtoks (g + 1) x0 out = stepTo g (stepOf X out) := by
  cases hr : X.rest with
  | nil =>
    rw [rtoks_end hX he hr, step_end hr]
    unfold tailOf
    by_cases h : 20000 ≤ out.length
    · rw [if_pos h, if_pos h]; rfl
    · rw [if_neg h, if_neg h, if_pos rfl]; rfl
  | cons c r =>
    rw [rtoks_tok hX he hr]
    unfold stepOf
    rw [hr]; simp only []
    by_cases h1 : (nextOf X c).e ≠ 0
    · rw [if_pos h1, if_pos h1]; rfl
    · rw [if_neg h1, if_neg h1]
      by_cases h2 : (kindAt X (nextOf X c) c).2.2 ≠ 0
      · rw [if_pos h2, if_pos h2]; rfl
      · rw [if_neg h2, if_neg h2]
        unfold tailOf
        by_cases h : 20000 ≤ out.length
        · rw [if_pos h, if_pos h]; rfl
        · rw [if_neg h, if_neg h, if_neg (kindAt_ne7 _ _ _)]; rfl
theorem tail_err {X Y : Lx} {k : Int} {x : ByteArray} {out : List Tok} {p q : Int} (h : tailOf X Y k x out = .err p q) : q ≠ 0 := by
  unfold tailOf at h
  split at h
  · injection h with _ h; rw [← h]; decide
  · split at h <;> cases h
theorem step_err {X : Lx} {out : List Tok} {p q : Int} (h : stepOf X out = .err p q) : q ≠ 0 := by
  unfold stepOf at h
  split at h
  · exact tail_err h
  · rename_i c r hr
    split at h
    · rename_i h1; injection h with _ h; rw [← h]; omega
    · split at h
      · rename_i h2; injection h with _ h; rw [← h]; exact h2
      · exact tail_err h
theorem step_go {X Y : Lx} {out out' : List Tok} (he : X.e = 0) (hh : ∀ c r, X.rest = c :: r → c.toNat ≠ 32 ∧ c.toNat ≠ 10) (h : stepOf X out = .go Y out') : Y.rest.length < X.rest.length := by
  cases hr : X.rest with
  | nil =>
    rw [step_end hr] at h
    unfold tailOf at h
    split at h
    · cases h
    · rw [if_pos rfl] at h; cases h
  | cons c r =>
    have hs := Lx.step_shorter (k := X.rest.length) hr (hh c r hr) he
    unfold stepOf at h
    rw [hr] at h; simp only [] at h
    split at h
    · cases h
    · rename_i h1
      split at h
      · cases h
      · unfold tailOf at h
        split at h
        · cases h
        · rw [if_neg (kindAt_ne7 _ _ _)] at h
          injection h with h2 h3
          rw [← h2, ← hr]
          rcases hs with h4 | h4
          · exact absurd h4 h1
          · exact h4
theorem LS.next {s : ByteArray} {mb bp : Nat} {X Y : Lx} {out : List Tok} {v : Value} {w w' : World} {pl : Int} (h : LS s mb bp X out v w) (hY : Y.ok s) (he : Y.e = 0)
    (hb : w'.heap[bp]? = some (SObj s (.map (some mb)) v Y.at_ Y.line Y.col 0 pl)) (hk : Keep (fun k => k ≠ bp) w w') : LS s mb bp Y out v w' :=
  ⟨hY, he, ⟨pl, hb⟩, h.ownK (keep_own hk), h.wmK (keep_own hk), h.mlt, h.three, h.tabsK (keep_own hk)⟩
theorem cell_lt' {w : World} {b i : Nat} {v : Value} (h : w.cell? ⟨b, i, none⟩ = some v) : b < w.heap.size := by
  rcases Nat.lt_or_ge b w.heap.size with h' | h'
  · exact h'
  · simp [World.cell?, Array.getElem?_eq_none h'] at h
end Go.Proofs.YtglkdhodpgnlgaaDoor
