/-
  The tokens of a text that begins with empty lines and blanks: where they stand. Plain law, no program in sight.
-/
import Derived.Test.YtglkdhodpgnlgaaDoorLxY
namespace Go.Proofs.YtglkdhodpgnlgaaDoor
open Go.RowKit Go.Tel

theorem pass_plain {c : UInt8} {r : List UInt8} {p l k : Nat} (hc : c.toNat < 128) (hb : isBad c = false) :
    (Lx.mk (c :: r) p l k 0).pass = ⟨r, p + 1, if c.toNat = 10 then l + 1 else l, if c.toNat = 10 then 1 else k + 1, 0⟩ := by
  have h1 := ((dec_ok c r).low hc).2
  rcases pass_cases c r ⟨c :: r, p, l, k, 0⟩ rfl with ⟨h0, _⟩ | ⟨_, h2, _⟩ | ⟨_, _, h3⟩
  · rw [h1] at h0; cases h0
  · rw [hb] at h2; cases h2
  · rw [h3, h1]; rfl
theorem blank_nls (a : Nat) : ∀ (k p l : Nat) (r : List UInt8), Lx.blank (a + k) ⟨List.replicate a 10 ++ r, p, l, 1, 0⟩ = Lx.blank k ⟨r, p + a, l + a, 1, 0⟩ := by
  induction a with
  | zero => intro k p l r; rw [Nat.zero_add]; rfl
  | succ a ih =>
    intro k p l r
    rw [show a + 1 + k = (a + k) + 1 by omega, List.replicate_succ, List.cons_append, blank_sp (c := 10) rfl rfl (Or.inr rfl), pass_plain (by decide) (by decide), if_pos (by decide), if_pos (by decide), ih]
    rw [show p + 1 + a = p + (a + 1) by omega, show l + 1 + a = l + (a + 1) by omega]
theorem blank_sps (b : Nat) : ∀ (k p l c : Nat) (r : List UInt8), Lx.blank (b + k) ⟨List.replicate b 32 ++ r, p, l, c, 0⟩ = Lx.blank k ⟨r, p + b, l, c + b, 0⟩ := by
  induction b with
  | zero => intro k p l c r; rw [Nat.zero_add]; rfl
  | succ b ih =>
    intro k p l c r
    rw [show b + 1 + k = (b + k) + 1 by omega, List.replicate_succ, List.cons_append, blank_sp (c := 32) rfl rfl (Or.inl rfl), pass_plain (by decide) (by decide), if_neg (by decide), if_neg (by decide), ih]
    rw [show p + 1 + b = p + (b + 1) by omega, show c + 1 + b = c + (b + 1) by omega]

def placeText (a b : Nat) (w : List UInt8) : List UInt8 := List.replicate a 10 ++ (List.replicate b 32 ++ (w ++ [32, 120]))
def placeToks (a b : Nat) (w : List UInt8) : List Tok :=
  [⟨1, mkS w, ((a + b : Nat) : Int), ((a + 1 : Nat) : Int), ((b + 1 : Nat) : Int)⟩, ⟨1, mkS [120], ((a + b + w.length + 1 : Nat) : Int), ((a + 1 : Nat) : Int), ((b + 4 : Nat) : Int)⟩, ⟨7, mkS [], ((a + b + w.length + 2 : Nat) : Int), ((a + 1 : Nat) : Int), ((b + 5 : Nat) : Int)⟩]

theorem place_x (g P L C : Nat) (out : List Tok) (ho : out.length = 1) :
    rtoks (g + 2) ⟨[32, 120], P, L, C, 0⟩ out = (out ++ [⟨1, mkS [120], ((P + 1 : Nat) : Int), L, ((C + 1 : Nat) : Int)⟩] ++ [⟨7, mkS [], ((P + 2 : Nat) : Int), L, ((C + 2 : Nat) : Int)⟩], 0, 0) := by
  have h1 : Lx.blank 3 ⟨[32, 120], P, L, C, 0⟩ = ⟨[120], P + 1, L, C + 1, 0⟩ := by rfl
  have h2 : Lx.run 2 ⟨[120], P + 1, L, C + 1, 0⟩ = ⟨[], P + 2, L, C + 2, 0⟩ := by rfl
  have h3 : stepOf ⟨[120], P + 1, L, C + 1, 0⟩ out = .go ⟨[], P + 2, L, C + 2, 0⟩ (out ++ [⟨1, mkS [120], ((P + 1 : Nat) : Int), L, ((C + 1 : Nat) : Int)⟩]) := by
    rw [step_run (X := ⟨[120], P + 1, L, C + 1, 0⟩) (Y := ⟨[], P + 2, L, C + 2, 0⟩) (c := 120) (r := []) rfl rfl h2 rfl (k := 1) (l := [120]) (q := 0) (by
      show kindOf (List.take (P + 2 - (P + 1)) [120]) = _
      rw [show P + 2 - (P + 1) = 1 by omega]; rfl)]
    rw [if_neg (by simp)]
    unfold tailOf
    rw [if_neg (by omega), if_neg (by decide)]
  have h4 : Lx.blank 1 ⟨[], P + 2, L, C + 2, 0⟩ = ⟨[], P + 2, L, C + 2, 0⟩ := rfl
  have h5 : ∀ o : List Tok, o.length = 2 → stepOf ⟨[], P + 2, L, C + 2, 0⟩ o = .done (o ++ [⟨7, mkS [], ((P + 2 : Nat) : Int), L, ((C + 2 : Nat) : Int)⟩]) := by
    intro o h
    rw [step_end rfl]
    unfold tailOf
    rw [if_neg (by omega), if_pos rfl]
  rw [rt_step (g := g + 1) (x0 := ⟨[32, 120], P, L, C, 0⟩) h1 rfl, h3]
  unfold stepTo
  simp only []
  rw [rt_step (g := g) (x0 := ⟨[], P + 2, L, C + 2, 0⟩) h4 rfl, h5 _ (by rw [List.length_append, ho]; rfl)]
  rfl

set_option maxRecDepth 10000 in
theorem place_all (a b : Nat) (ha : a ≤ 50) (hb : b ≤ 50) (w : List UInt8) (hw : w = [97, 98] ∨ w = [195, 169, 228, 184, 173]) : refTokens (placeText a b w) = (placeToks a b w, 0, 0) := by
  have hlen : (placeText a b w).length = a + (b + (w.length + 2)) := by unfold placeText; simp
  have hwl : w.length ≤ 5 := by rcases hw with rfl | rfl <;> decide
  unfold refTokens
  rw [if_neg (by omega), hlen]
  have hX : Lx.blank ((placeText a b w).length + 1) ⟨placeText a b w, 0, 1, 1, 0⟩ = ⟨w ++ [32, 120], a + b, a + 1, b + 1, 0⟩ := by
    rw [hlen, show a + (b + (w.length + 2)) + 1 = a + (b + (w.length + 3)) by omega]
    unfold placeText
    rw [blank_nls, blank_sps]
    have : Lx.blank (w.length + 3) ⟨w ++ [32, 120], 0 + a + b, 1 + a, 1 + b, 0⟩ = ⟨w ++ [32, 120], 0 + a + b, 1 + a, 1 + b, 0⟩ := by rcases hw with rfl | rfl <;> rfl
    rw [this, Nat.zero_add, Nat.add_comm 1 a, Nat.add_comm 1 b]
  have hS : stepOf ⟨w ++ [32, 120], a + b, a + 1, b + 1, 0⟩ [] = .go ⟨[32, 120], a + b + w.length, a + 1, b + 3, 0⟩ [⟨1, mkS w, ((a + b : Nat) : Int), ((a + 1 : Nat) : Int), ((b + 1 : Nat) : Int)⟩] := by
    rcases hw with rfl | rfl
    · show stepOf ⟨[97, 98, 32, 120], a + b, a + 1, b + 1, 0⟩ [] = .go ⟨[32, 120], a + b + 2, a + 1, b + 3, 0⟩ _
      rw [step_run (X := ⟨[97, 98, 32, 120], a + b, a + 1, b + 1, 0⟩) (c := 97) (r := [98, 32, 120]) rfl rfl (Y := ⟨[32, 120], a + b + 2, a + 1, b + 3, 0⟩) rfl rfl (k := 1) (l := [97, 98]) (q := 0) (by
        show kindOf (List.take (a + b + 2 - (a + b)) [97, 98, 32, 120]) = _
        rw [show a + b + 2 - (a + b) = 2 by omega]; rfl)]
      rw [if_neg (by simp)]; rfl
    · show stepOf ⟨[195, 169, 228, 184, 173, 32, 120], a + b, a + 1, b + 1, 0⟩ [] = .go ⟨[32, 120], a + b + 5, a + 1, b + 3, 0⟩ _
      rw [step_run (X := ⟨[195, 169, 228, 184, 173, 32, 120], a + b, a + 1, b + 1, 0⟩) (c := 195) (r := [169, 228, 184, 173, 32, 120]) rfl rfl (Y := ⟨[32, 120], a + b + 5, a + 1, b + 3, 0⟩) rfl rfl (k := 1) (l := [195, 169, 228, 184, 173]) (q := 0) (by
        show kindOf (List.take (a + b + 5 - (a + b)) [195, 169, 228, 184, 173, 32, 120]) = _
        rw [show a + b + 5 - (a + b) = 5 by omega]; rfl)]
      rw [if_neg (by simp)]; rfl
  rw [rt_step (g := a + (b + (w.length + 2)) + 1) (x0 := ⟨placeText a b w, 0, 1, 1, 0⟩) hX rfl, hS]
  unfold stepTo
  simp only []
  rw [show a + (b + (w.length + 2)) + 1 = (a + b + w.length + 1) + 2 by omega, place_x _ _ _ _ _ rfl]
  rfl
end Go.Proofs.YtglkdhodpgnlgaaDoor
