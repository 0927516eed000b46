/-
  What LayoutNests builds, and that its telling is right for each of the 231 inputs: reckoned. Plain law.
-/
import Derived.Test.YtglkdhodpgnlgaaLawE
namespace Go.Proofs.Ytglkdhodpgnlgaa
open Go.RowKit Go.Tel

/-- The loop that builds: text, what is wanted, the line's start. -/
def nestUp : Nat → List UInt8 × List UInt8 × List UInt8 → List UInt8 × List UInt8 × List UInt8
  | 0, a => a
  | k + 1, (s, w, p) => nestUp k (s ++ [32, 119, 104, 101, 114, 101] ++ (p ++ [32]) ++ [98], w ++ [119, 104, 101, 114, 101, 32, 60, 98, 32], p ++ [32])
def shuts : Nat → List UInt8 → List UInt8
  | 0, w => w
  | k + 1, w => shuts k (w ++ [62])
def nest0 (n : Nat) : List UInt8 × List UInt8 × List UInt8 := nestUp n ([97], [60, 97, 32], [10])
def nestText (n b : Nat) : List UInt8 := (nest0 n).1 ++ (nest0 n).2.2.take (1 + b) ++ [99]
def nestWant (n b : Nat) : List UInt8 := shuts b (shuts (n - b) (nest0 n).2.1 ++ [59, 99, 32]) ++ [62, 46]
def nestOk (n : Nat) : Bool := (List.range (n + 1)).all fun b => goodText (nestText n b) (nestWant n b)
theorem nest_ok1 : nestOk 1 = true := by kernel_rfl
theorem nest_ok2 : nestOk 2 = true := by kernel_rfl
theorem nest_ok3 : nestOk 3 = true := by kernel_rfl
theorem nest_ok4 : nestOk 4 = true := by kernel_rfl
theorem nest_ok5 : nestOk 5 = true := by kernel_rfl
theorem nest_ok6 : nestOk 6 = true := by kernel_rfl
theorem nest_ok7 : nestOk 7 = true := by kernel_rfl
theorem nest_ok8 : nestOk 8 = true := by kernel_rfl
theorem nest_ok9 : nestOk 9 = true := by kernel_rfl
theorem nest_ok10 : nestOk 10 = true := by kernel_rfl
theorem nest_ok11 : nestOk 11 = true := by kernel_rfl
theorem nest_ok12 : nestOk 12 = true := by kernel_rfl
theorem nest_ok13 : nestOk 13 = true := by kernel_rfl
theorem nest_ok14 : nestOk 14 = true := by kernel_rfl
theorem nest_ok15 : nestOk 15 = true := by kernel_rfl
theorem nest_ok16 : nestOk 16 = true := by kernel_rfl
theorem nest_ok17 : nestOk 17 = true := by kernel_rfl
theorem nest_ok18 : nestOk 18 = true := by kernel_rfl
theorem nest_ok19 : nestOk 19 = true := by kernel_rfl
theorem nest_ok20 : nestOk 20 = true := by kernel_rfl
theorem nests_good (n b : Nat) (h1 : 1 ≤ n) (h2 : n ≤ 20) (hb : b ≤ n) : goodText (nestText n b) (nestWant n b) = true := by
  have h : nestOk n = true := by
    rcases (by omega : n = 1 ∨ n = 2 ∨ n = 3 ∨ n = 4 ∨ n = 5 ∨ n = 6 ∨ n = 7 ∨ n = 8 ∨ n = 9 ∨ n = 10 ∨ n = 11 ∨ n = 12 ∨ n = 13 ∨ n = 14 ∨ n = 15 ∨ n = 16 ∨ n = 17 ∨ n = 18 ∨ n = 19 ∨ n = 20) with rfl | rfl | rfl | rfl | rfl | rfl | rfl | rfl | rfl | rfl | rfl | rfl | rfl | rfl | rfl | rfl | rfl | rfl | rfl | rfl
    · exact nest_ok1
    · exact nest_ok2
    · exact nest_ok3
    · exact nest_ok4
    · exact nest_ok5
    · exact nest_ok6
    · exact nest_ok7
    · exact nest_ok8
    · exact nest_ok9
    · exact nest_ok10
    · exact nest_ok11
    · exact nest_ok12
    · exact nest_ok13
    · exact nest_ok14
    · exact nest_ok15
    · exact nest_ok16
    · exact nest_ok17
    · exact nest_ok18
    · exact nest_ok19
    · exact nest_ok20
  exact List.all_eq_true.1 h b (List.mem_range.2 (by omega))
end Go.Proofs.Ytglkdhodpgnlgaa
