/-
  The reference's Blocks: its plain functions, and where its loops stand. Plain; no condition.
-/
import Derived.Test.YtglkdhodpgnlgaaRbWb
import Derived.Test.YtglkdhodpgnlgaaRTokP
import Derived.BigQuiet
namespace Go.Proofs.Ytglkdhodpgnlgaa
open Go.RowKit Go.Tel

/-- The line's rule; none: it stands too far left. -/
def RS.lines (t : Tok) : Nat → RS → Option RS
  | 0, S => some S
  | k + 1, S =>
    if S.e ≠ 0 then some S
    else match S.stk.getLast? with
    | none => some S
    | some b =>
      if b.ex then some S
      else if b.col = t.col then some (S.put 6 t false)
      else if b.col < t.col then some S
      else if S.stk.length = 1 then none
      else RS.lines t k (S.pop t false)
def RS.pops (t : Tok) : Nat → RS → RS
  | 0, S => S
  | k + 1, S => if S.e ≠ 0 then S else RS.pops t k (S.pop t false)
/-- The rule of in. -/
def RS.inw (t : Tok) (S : RS) : RS :=
  if isW t wIn then (match inFind S.stk S.stk.length with | none => S | some i => RS.pops t (S.stk.length - i) S) else S
/-- The end's blocks; none: one has no end. -/
def RS.ends (t : Tok) : Nat → RS → Option RS
  | 0, S => some S
  | k + 1, S =>
    match S.stk.getLast? with
    | none => some S
    | some b => if S.e ≠ 0 then some S else if b.ex then none else RS.ends t k (S.pop t false)
def RS.final (S : RS) : List Tok × Int × Int := if S.e ≠ 0 then ([], S.at_, S.e) else (S.out, 0, 0)
def RS.fin (t : Tok) (S : RS) : List Tok × Int × Int :=
  match RS.ends t (S.stk.length + 1) S with
  | none => ([], t.at_, 42)
  | some S1 => if S1.e = 0 then (if 60000 ≤ S1.out.length then ([], t.at_, 2) else (S1.out ++ [t], 0, 0)) else ([], S1.at_, S1.e)
/-- What stands behind a token that opens a block. -/
def RS.after (inn : List Tok) (t : Tok) (i : Nat) (S : RS) : RS × Nat × Bool :=
  if isOpener t = false ∨ S.e ≠ 0 then (S, i + 1, false)
  else
    let n := inn.getD (i + 1) noTok
    if isW n [123] then ((S.put 4 n true).push ⟨true, 0, false, 0⟩ n, i + 2, false)
    else if n.kind = 7 ∨ n.col ≤ colOf S.stk S.stk.length then ((S.put 4 n false).put 5 n false, i + 1, false)
    else ((S.put 4 n false).push ⟨false, n.col, isW t wLet, 0⟩ n, i + 1, true)
def RS.linesIf (inn : List Tok) (t : Tok) (i : Nat) (bg : Bool) (S : RS) : Option RS :=
  if bg = false ∧ 0 < i ∧ (inn.getD (i - 1) noTok).line < t.line then RS.lines t (S.stk.length + 1) S else some S
def RS.add (t : Tok) (S : RS) : RS := { S with out := S.out ++ [t] }
def RS.all (inn : List Tok) : Nat → Nat → Bool → RS → List Tok × Int × Int
  | 0, _, _, S => S.final
  | k + 1, i, bg, S =>
    if i < inn.length ∧ S.e = 0 then
      let t := inn.getD i noTok
      if t.kind = 7 then S.fin t
      else match S.linesIf inn t i bg with
      | none => ([], t.at_, 42)
      | some S1 =>
        let d := (S1.inw t).brace t
        if d.1 = false ∧ d.2.e = 0 then
          if 60000 ≤ d.2.out.length then ([], t.at_, 2)
          else
            let r := (d.2.add t).after inn t i
            RS.all inn k r.2.1 r.2.2 r.1
        else
          let r := d.2.after inn t i
          RS.all inn k r.2.1 r.2.2 r.1
    else S.final
def RS0 : RS := ⟨[], [], 0, 0⟩
/-- The reference's Blocks of a row of tokens. -/
def refBlocks (inn : List Tok) : List Tok × Int × Int :=
  let t0 := inn.getD 0 noTok
  RS.all inn (inn.length + 1) 0 true ((RS0.put 4 t0 false).push ⟨false, t0.col, false, 0⟩ t0)

noncomputable def loop10 (n : Nat) : Code := (Try.f10.body.bind (loopOf n)).getD .skip
end Go.Proofs.Ytglkdhodpgnlgaa
