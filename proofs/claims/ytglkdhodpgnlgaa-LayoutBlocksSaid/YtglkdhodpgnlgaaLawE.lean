/-
  The law's told on a given text, reckoned. Plain law.
-/
import Derived.Test.YtglkdhodpgnlgaaLawT
namespace Go.Proofs.Ytglkdhodpgnlgaa
open Go.RowKit Go.Tel

def kOne (t : Tok) : List UInt8 := if t.kind = 4 then [60] else if t.kind = 5 then [62] else if t.kind = 6 then [59] else if t.kind = 7 then [46] else t.text.data.toList ++ [32]
def toldL (l : List UInt8) : List UInt8 := if (refTokens l).2.2 ≠ 0 then [63] else if (layBlocks (refTokens l).1).2.2 ≠ 0 then [33] else (layBlocks (refTokens l).1).1.flatMap kOne
def endedB : List Tok → Bool
  | [] => false
  | [t] => t.kind == 7
  | t :: u :: l => t.kind != 7 && endedB (u :: l)
theorem ended_of : ∀ l : List Tok, endedB l = true → Ended l
  | [], h => by cases h
  | [t], h => ⟨[], t, rfl, beq_iff_eq.1 h, fun _ h => by cases h⟩
  | t :: u :: l, h => by
    have h1 : (t.kind != 7 && endedB (u :: l)) = true := h
    rw [Bool.and_eq_true] at h1
    obtain ⟨m, e, h2, h3, h4⟩ := ended_of (u :: l) h1.2
    refine ⟨t :: m, e, by rw [h2]; rfl, h3, fun x hx => ?_⟩
    rcases List.mem_cons.1 hx with rfl | hx
    · exact bne_iff_ne.1 h1.1
    · exact h4 x hx
theorem kAdd_list (s : ByteArray) (t : Tok) : (kAdd s t).data.toList = s.data.toList ++ kOne t := by
  unfold kAdd kOne
  split
  · simp
  · split
    · simp
    · split
      · simp
      · split <;> simp
theorem kAll_list (l : List Tok) : ∀ s, (kAll s l).data.toList = s.data.toList ++ l.flatMap kOne := by
  induction l with
  | nil => intro s; simp [kAll]
  | cons t l ih => intro s; show (kAll (kAdd s t) l).data.toList = _; rw [ih, kAdd_list]; simp
theorem toldP_list (l : List UInt8) : (toldP l).data.toList = toldL l := by
  unfold toldP toldL
  split
  · rfl
  · split
    · rfl
    · rw [kAll_list]; simp

/-- A text whose telling is reckoned. -/
def goodText (l want : List UInt8) : Bool :=
  Nat.ble l.length 65536 && ((refTokens l).2.2 != 0 || (endedB (refTokens l).1 && Nat.blt (refTokens l).1.length 100000)) && Nat.ble ((layBlocks (refTokens l).1).1.flatMap kOne).length 9223372036854775807 && toldL l == want

example : isW ⟨2, mkS [97], 0, 0, 0⟩ [97] = true := by decide +kernel
example : goodText [97] [60, 97, 32, 62, 46] = true := by decide +kernel
end Go.Proofs.Ytglkdhodpgnlgaa
