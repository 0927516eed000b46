/-
  What the placer of package layout computes: plain functions on its state, one for each method. No condition.
-/
import Derived.Test.YtglkdhodpgnlgaaLayB
namespace Go.Proofs.Ytglkdhodpgnlgaa
open Go.RowKit Go.Tel

def noTok : Tok := ⟨0, mkS [], 0, 0, 0⟩
instance : Inhabited Tok := ⟨noTok⟩
/-- Is a token a word or a sign? -/
def isW (t : Tok) (l : List UInt8) : Bool := t.kind == 2 && t.text.toList == l
def wWhere : List UInt8 := [119, 104, 101, 114, 101]
def wLet : List UInt8 := [108, 101, 116]
def wPost : List UInt8 := [112, 111, 115, 116, 117, 108, 97, 116, 101]
def wPriv : List UInt8 := [112, 114, 105, 118, 97, 116, 101]
def wIn : List UInt8 := [105, 110]
def isOpener (t : Tok) : Bool := isW t wWhere || isW t wLet || isW t wPost || isW t wPriv

section
variable (inn : List Tok)
def PS.now (S : PS) : Tok := inn.getD S.at_ noTok
def PS.fail (e : Int) (S : PS) : Bool × PS := (false, if S.bad = 0 then { S with bad := e, place := (S.now inn).at_ } else S)
def PS.put (t : Tok) (S : PS) : Bool × PS :=
  if 60000 ≤ S.out.length then (false, if S.bad = 0 then { S with bad := 2, place := t.at_ } else S) else (true, { S with out := S.out ++ [t] })
def PS.sign (kind : Int) (t : Tok) (text : ByteArray) (S : PS) : Bool × PS := PS.put ⟨kind, text, t.at_, t.line, t.col⟩ S
def PS.begin_ (b : Blk) (t : Tok) (text : ByteArray) (S : PS) : Bool × PS :=
  if 60 ≤ S.stk.length then (false, { S with bad := 2, place := t.at_ }) else PS.sign 4 t text { S with stk := S.stk ++ [b] }
def PS.end_ (S : PS) : Bool × PS := PS.sign 5 (S.now inn) (mkS []) { S with stk := S.stk.dropLast }
def PS.lines : Nat → PS → Bool × PS
  | 0, S => (true, S)
  | k + 1, S =>
    match S.stk.getLast? with
    | none => (true, S)
    | some b =>
      if b.ex then (true, S)
      else if (S.now inn).col < b.col then
        if S.stk.length = 1 then S.fail inn 42
        else if (S.end_ inn).1 then PS.lines k (S.end_ inn).2 else (false, (S.end_ inn).2)
      else if b.col = (S.now inn).col then PS.sign 6 (S.now inn) (mkS []) S
      else (true, S)
def PS.line (S : PS) : Bool × PS :=
  if S.at_ = 0 ∨ S.first = true ∨ (S.now inn).kind = 7 ∨ (S.now inn).line ≤ (inn.getD (S.at_ - 1) noTok).line then (true, S) else PS.lines inn (S.stk.length + 1) S
def PS.ends : Nat → PS → Bool × PS
  | 0, S => (true, S)
  | k + 1, S => if (S.end_ inn).1 then PS.ends k (S.end_ inn).2 else (false, (S.end_ inn).2)
/-- The innermost block that a let began, with no explicit one within it. -/
def inFind (l : List Blk) : Nat → Option Nat
  | 0 => none
  | k + 1 => match l[k]? with
    | none => none
    | some b => if b.ex then none else if b.lt then some k else inFind l k
def PS.inward (S : PS) : Bool × PS :=
  if isW (S.now inn) wIn then (match inFind S.stk S.stk.length with | none => (true, S) | some i => PS.ends inn (S.stk.length - i) S) else (true, S)
def PS.lasts : Nat → PS → Bool × PS
  | 0, S => (true, S)
  | k + 1, S =>
    match S.stk.getLast? with
    | none => (true, S)
    | some b => if b.ex then S.fail inn 42 else if (S.end_ inn).1 then PS.lasts k (S.end_ inn).2 else (false, (S.end_ inn).2)
def PS.last (S : PS) : Bool × PS := if (S.now inn).kind = 7 then PS.lasts inn (S.stk.length + 1) S else (true, S)
def PS.setBr (S : PS) (n : Int) : PS := match S.stk.getLast? with
  | none => S
  | some b => { S with stk := S.stk.dropLast ++ [{ b with br := n }] }
def PS.brace (S : PS) : Bool × PS :=
  if isW (S.now inn) [59] then PS.sign 6 (S.now inn) (S.now inn).text { S with done := true }
  else match S.stk.getLast? with
  | none => (true, S)
  | some b =>
    if b.ex then
      if isW (S.now inn) [123] then (true, S.setBr (wrap64 (b.br + 1)))
      else if isW (S.now inn) [125] then
        if wrap64 (b.br - 1) < 0 then PS.sign 5 (S.now inn) (S.now inn).text { S with done := true, stk := S.stk.dropLast } else (true, S.setBr (wrap64 (b.br - 1)))
      else (true, S)
    else (true, S)
/-- The column of the innermost implicit block. -/
def colOf (l : List Blk) : Nat → Int
  | 0 => 0
  | k + 1 => match l[k]? with
    | none => 0
    | some b => if b.ex then colOf l k else b.col
def PS.behind (S : PS) : Bool × PS :=
  if isOpener (S.now inn) then
    let next := inn.getD (S.at_ + 1) noTok
    if isW next [123] then PS.begin_ ⟨true, 0, false, 0⟩ next next.text { S with at_ := S.at_ + 1 }
    else if next.kind = 7 ∨ next.col ≤ colOf S.stk S.stk.length then
      (if (PS.sign 4 next (mkS []) S).1 then PS.sign 5 next (mkS []) (PS.sign 4 next (mkS []) S).2 else (false, (PS.sign 4 next (mkS []) S).2))
    else PS.begin_ ⟨false, next.col, isW (S.now inn) wLet, 0⟩ next (mkS []) { S with first := true }
  else (true, S)
def PS.token (S : PS) : Bool × PS :=
  let a := PS.line inn { S with done := false }
  if a.1 = false then a else
  let b := PS.inward inn a.2
  if b.1 = false then b else
  let c := PS.last inn b.2
  if c.1 = false then c else
  let d := PS.brace inn c.2
  if d.1 = false then d else
  let S5 : PS := { d.2 with first := false }
  if S5.done = true then PS.behind inn S5
  else if (PS.put (S5.now inn) S5).1 then PS.behind inn (PS.put (S5.now inn) S5).2 else (false, (PS.put (S5.now inn) S5).2)
def PS.all : Nat → PS → PS
  | 0, S => S
  | k + 1, S => if S.at_ < inn.length then (if (PS.token inn S).1 then PS.all k { (PS.token inn S).2 with at_ := (PS.token inn S).2.at_ + 1 } else { (PS.token inn S).2 with at_ := (PS.token inn S).2.at_ + 1 }) else S
end
/-- The blocks of tokens. -/
def layBlocks (inn : List Tok) : List Tok × Int × Int :=
  let t0 := inn.getD 0 noTok
  let a := PS.begin_ ⟨false, t0.col, false, 0⟩ t0 (mkS []) ⟨[], 0, [], 0, 0, false, false⟩
  let S := if a.1 then PS.all inn (inn.length + 1) a.2 else a.2
  if S.bad ≠ 0 then ([], S.place, S.bad) else (S.out, 0, 0)

end Go.Proofs.Ytglkdhodpgnlgaa
