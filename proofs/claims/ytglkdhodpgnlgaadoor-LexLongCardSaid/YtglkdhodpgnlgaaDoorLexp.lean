/-
  Where the reference's lexer stands, and what its loops come to: plain functions on lists of bytes. No condition.
-/
import Derived.Test.YtglkdhodpgnlgaaDoorPlain
namespace Go.Tel

/-- Where the lexer stands: what is left of the text, the place, and what was wrong. -/
structure Lx where
  rest : List UInt8
  at_ : Nat
  line : Nat
  col : Nat
  e : Nat

def isBad (c : UInt8) : Bool := (decide (c.toNat < 32) && !(c.toNat == 10)) || c.toNat == 127

/-- One rune. -/
def Lx.pass (x : Lx) : Lx :=
  match x.rest with
  | [] => x
  | c :: _ =>
    if runeLen x.rest = 0 then { x with e := 40 }
    else if isBad c = true then { x with e := 41 }
    else { rest := x.rest.drop (runeLen x.rest), at_ := x.at_ + runeLen x.rest, line := if c.toNat = 10 then x.line + 1 else x.line, col := if c.toNat = 10 then 1 else x.col + 1, e := x.e }

/-- Up to the line's end. -/
def Lx.comment : Nat → Lx → Lx
  | 0, x => x
  | k + 1, x => match x.rest with
    | [] => x
    | c :: _ => if c.toNat = 10 ∨ x.e ≠ 0 then x else Lx.comment k x.pass

def dash2 : List UInt8 → Bool
  | c :: d :: _ => c.toNat == 45 && d.toNat == 45
  | _ => false

/-- What parts tokens. -/
def Lx.blank : Nat → Lx → Lx
  | 0, x => x
  | k + 1, x => match x.rest with
    | [] => x
    | c :: _ =>
      if x.e ≠ 0 then x
      else if c.toNat = 32 ∨ c.toNat = 10 then Lx.blank k x.pass
      else if dash2 x.rest = true then Lx.blank k (Lx.comment (x.rest.length + 1) x)
      else x

/-- A run. -/
def Lx.run : Nat → Lx → Lx
  | 0, x => x
  | k + 1, x => match x.rest with
    | [] => x
    | c :: _ => if c.toNat = 32 ∨ c.toNat = 10 ∨ isDelim c = true ∨ x.e ≠ 0 then x else Lx.run k x.pass

/-- The tokens of a text from a place on. -/
def rtoks : Nat → Lx → List Tok → List Tok × Int × Int
  | 0, _, _ => ([], 0, 0)
  | k + 1, x0, out =>
    let x := Lx.blank (x0.rest.length + 1) x0
    if x.e ≠ 0 then ([], x.at_, x.e)
    else match x.rest with
    | [] => if 20000 ≤ out.length then ([], x.at_, 2) else (out ++ [⟨7, mkS [], x.at_, x.line, x.col⟩], 0, 0)
    | c :: _ =>
      let y := if isDelim c then x.pass else Lx.run (x.rest.length + 1) x
      if y.e ≠ 0 then ([], y.at_, y.e)
      else
        let w := x.rest.take (y.at_ - x.at_)
        let q := if isDelim c then ((2 : Int), w, (0 : Int)) else kindOf w
        if q.2.2 ≠ 0 then ([], x.at_, q.2.2)
        else if 20000 ≤ out.length then ([], x.at_, 2)
        else rtoks k y (out ++ [⟨q.1, mkS q.2.1, x.at_, x.line, x.col⟩])

/-- The reference's Tokens. -/
def refTokens (l : List UInt8) : List Tok × Int × Int :=
  if l.length > 65536 then ([], 0, 2) else rtoks (l.length + 2) ⟨l, 0, 1, 1, 0⟩ []

/-- What holds of where the lexer stands in a text. -/
structure Lx.ok (s : ByteArray) (x : Lx) : Prop where
  rest : x.rest = s.data.toList.drop x.at_
  at_ : x.at_ ≤ s.size
  line : x.line ≤ x.at_ + 1
  col : x.col ≤ x.at_ + 1

theorem Lx.rest_len {s : ByteArray} {x : Lx} (h : x.ok s) : x.rest.length = s.size - x.at_ := by
  rw [h.rest, List.length_drop]; rfl

theorem Lx.pass_ok {s : ByteArray} {x : Lx} (h : x.ok s) : x.pass.ok s := by
  have hl := Lx.rest_len h
  have h4 := runeLen_le x.rest
  unfold Lx.pass
  split
  · exact h
  · split
    · exact ⟨h.rest, h.at_, h.line, h.col⟩
    · split
      · exact ⟨h.rest, h.at_, h.line, h.col⟩
      · rename_i c r hr hn hb
        have := h.line; have := h.col; have := h.at_
        refine ⟨?_, ?_, ?_, ?_⟩
        · show x.rest.drop _ = _
          rw [h.rest, List.drop_drop]
        · show x.at_ + _ ≤ _; omega
        · show (if c.toNat = 10 then x.line + 1 else x.line) ≤ x.at_ + runeLen x.rest + 1; split <;> omega
        · show (if c.toNat = 10 then 1 else x.col + 1) ≤ x.at_ + runeLen x.rest + 1; split <;> omega

end Go.Tel
