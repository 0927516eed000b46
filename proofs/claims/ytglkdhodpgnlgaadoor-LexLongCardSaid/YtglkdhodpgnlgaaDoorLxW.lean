/-
  The lexer of package lex: what a token's step comes to, and where the lexer's memory stands. Plain, but for worlds.
-/
import Derived.Test.YtglkdhodpgnlgaaDoorLxV2
import Derived.Test.YtglkdhodpgnlgaaDoorLxK
import Derived.Deep.QuietTactic
import Derived.BigQuiet
import Derived.Deep.RegionLaw
import Derived.Deep.AppendLies
namespace Go.Proofs.YtglkdhodpgnlgaaDoor
open Go.RowKit Go.Tel Go.Maps

inductive Step where
  | go (Y : Lx) (out : List Tok)
  | done (out : List Tok)
  | err (p e : Int)
def tailOf (X Y : Lx) (k : Int) (x : ByteArray) (out : List Tok) : Step :=
  if 20000 ≤ out.length then .err X.at_ 2 else if k = 7 then .done (out ++ [⟨k, x, X.at_, X.line, X.col⟩]) else .go Y (out ++ [⟨k, x, X.at_, X.line, X.col⟩])
def stepOf (X : Lx) (out : List Tok) : Step :=
  match X.rest with
  | [] => tailOf X X 7 (mkS []) out
  | c :: _ => if (nextOf X c).e ≠ 0 then .err (nextOf X c).at_ (nextOf X c).e else if (kindAt X (nextOf X c) c).2.2 ≠ 0 then .err X.at_ (kindAt X (nextOf X c) c).2.2
    else tailOf X (nextOf X c) (kindAt X (nextOf X c) c).1 (mkS (kindAt X (nextOf X c) c).2.1) out

theorem step_end {X : Lx} {out : List Tok} (h : X.rest = []) : stepOf X out = tailOf X X 7 (mkS []) out := by unfold stepOf; rw [h]
theorem step_delim {X : Lx} {out : List Tok} {c : UInt8} {r : List UInt8} (h : X.rest = c :: r) (hd : isDelim c = true) (he : X.pass.e = 0) :
    stepOf X out = tailOf X X.pass 2 (mkS (X.rest.take (X.pass.at_ - X.at_))) out := by
  have h1 : nextOf X c = X.pass := by unfold nextOf; rw [if_pos hd]
  unfold stepOf kindAt
  rw [h]; simp only []
  rw [h1, if_neg (by omega), if_pos hd, if_neg (by simp), ← h]
theorem step_bad {X : Lx} {out : List Tok} {c : UInt8} {r : List UInt8} (h : X.rest = c :: r) (hd : isDelim c = false) {Y : Lx} (hY : Lx.run (X.rest.length + 1) X = Y) (he : Y.e ≠ 0) : stepOf X out = .err Y.at_ Y.e := by
  have h1 : nextOf X c = Y := by unfold nextOf; rw [if_neg (by rw [hd]; simp)]; exact hY
  unfold stepOf
  rw [h]; simp only []
  rw [h1, if_pos he]
theorem step_run {X : Lx} {out : List Tok} {c : UInt8} {r : List UInt8} (h : X.rest = c :: r) (hd : isDelim c = false) {Y : Lx} (hY : Lx.run (X.rest.length + 1) X = Y) (he : Y.e = 0) {k : Int} {l : List UInt8} {q : Int}
    (hk : kindOf (X.rest.take (Y.at_ - X.at_)) = (k, l, q)) : stepOf X out = if q ≠ 0 then .err X.at_ q else tailOf X Y k (mkS l) out := by
  have h1 : nextOf X c = Y := by unfold nextOf; rw [if_neg (by rw [hd]; simp)]; exact hY
  have h2 : kindAt X Y c = (k, l, q) := by unfold kindAt; rw [if_neg (by rw [hd]; simp)]; exact hk
  unfold stepOf
  rw [h]; simp only []
  rw [h1, if_neg (by omega), h2]

theorem kind_word' {l : List UInt8} (h : isWord l = true) : kindOf l = (2, if l = [226, 134, 146] then [45, 62] else if l = [206, 187] then [92] else l, 0) := by unfold kindOf; rw [if_pos h]
theorem kind_num' {l : List UInt8} (h : isWord l = false) (hd : isDigits l = true) : kindOf l = (3, l, if l.length > 9 then 41 else 0) := by unfold kindOf; rw [if_neg (by rw [h]; simp), if_pos hd]
theorem kind_name' {l : List UInt8} (h : isWord l = false) (hd : isDigits l = false) : kindOf l = (1, l, if l.length > 60 then 2 else if dots l then 41 else 0) := by unfold kindOf; rw [if_neg (by rw [h]; simp), if_neg (by rw [hd]; simp)]

/-- Where the lexer stands in memory. -/
structure LS (s : ByteArray) (mb bp : Nat) (X : Lx) (out : List Tok) (v : Value) (w : World) : Prop where
  ok : X.ok s
  e : X.e = 0
  blk : ∃ pl : Int, w.heap[bp]? = some (SObj s (.map (some mb)) v X.at_ X.line X.col 0 pl)
  own : w.ownsRow (bp + 1) 28 5 v out.length (Toks out)
  wm : WordsMap mb w
  mlt : mb < bp
  three : 3 < bp
  tabs : Lib.Utf8Tabs 2 3 w

def TkPost (s : ByteArray) (mb bp : Nat) (w : World) (st : Step) (e : Ending) (w' : World) : Prop :=
  Keep (fun k => k < bp) w w' ∧ match st with
  | .go Y out' => e = .returned (.bool true) ∧ ∃ v, LS s mb bp Y out' v w'
  | .done out' => e = .returned (.bool false) ∧ ∃ (v : Value) (a l c : Nat) (pl : Int), w'.heap[bp]? = some (SObj s (.map (some mb)) v a l c 0 pl) ∧ w'.ownsRow (bp + 1) 28 5 v out'.length (Toks out')
  | .err p q => e = .returned (.bool false) ∧ ∃ (v : Value) (a l c : Nat), w'.heap[bp]? = some (SObj s (.map (some mb)) v a l c q p)

section
variable {s : ByteArray} {mb bp : Nat} {X : Lx} {out : List Tok} {v : Value} {w w' : World}
theorem LS.lt (h : LS s mb bp X out v w) : bp < w.heap.size := blk_lt h.blk.choose_spec
theorem LS.tabsK (h : LS s mb bp X out v w) (hk : Keep (fun j => j < w.heap.size ∧ j ≠ bp) w w') : Lib.Utf8Tabs 2 3 w' :=
  tabs_keep h.tabs hk ⟨by have := h.lt; have := h.three; omega, by have := h.three; omega⟩ ⟨by have := h.lt; have := h.three; omega, by have := h.three; omega⟩
theorem LS.wmK (h : LS s mb bp X out v w) (hk : Keep (fun j => j < w.heap.size ∧ j ≠ bp) w w') : WordsMap mb w' := h.wm.keep hk ⟨by have := h.lt; have := h.mlt; omega, by have := h.mlt; omega⟩
theorem LS.ownK (h : LS s mb bp X out v w) (hk : Keep (fun j => j < w.heap.size ∧ j ≠ bp) w w') : w'.ownsRow (bp + 1) 28 5 v out.length (Toks out) :=
  own_keep h.own hk (fun k hk => ⟨(h.own.lt k hk).2, by have := own_ge h.own k hk; omega⟩)
theorem keep_low (hk : Keep (fun j => j < w.heap.size ∧ j ≠ bp) w w') : Keep (fun k => k < bp) w w' := hk.mono (fun k hlt h => ⟨hlt, by omega⟩)
theorem keep_own (hk : Keep (fun j => j ≠ bp) w w') : Keep (fun j => j < w.heap.size ∧ j ≠ bp) w w' := hk.mono (fun _ _ h => h.2)
end

/-- Appending one token, in a region that draws. -/
theorem step_append_tok {ops : Array Oper} {o : Oper} {a : Act} {w : World} {K : Act → World → Prop} {Q : Exit → Act → World → Prop} {E : Prop} (hgd : o.guard = none) (s x : Operand)
    (ho : o.op = .call { callee := .builtin .append, args := #[s, x], argTypes := #[23, 23] })
    (B : Nat) (v : Value) (l : List Tok) (hs : a.eval s = v) (hown : w.ownsRow B 28 5 v l.length (Toks l)) (nb : Nat) (t : Tok) (hx : a.eval x = .slice (some ⟨nb, 0, none⟩) 1 1)
    (hb : w.heap[nb]? = some (TokObj t.kind t.text t.at_ t.line t.col)) (hn : l.length < 200000) (hB : B ≤ w.heap.size)
    (h : ∀ g cap w', w'.ownsRow B 28 5 (.slice (some ⟨g, 0, none⟩) (l.length + 1) cap) (l ++ [t]).length (Toks (l ++ [t])) → w.grownBy w' v.ownBlock → (v.ownBlock = some g ∨ g = w.heap.size) → K (a.put o.dst (.slice (some ⟨g, 0, none⟩) (l.length + 1) cap)) w') :
    if Region.wanted o (yielded ops a.tmps) = true then Oper.wp Tryd.prog o a w K Q else E := by
  obtain ⟨i0, hi, hz0, hz1, hz2⟩ := info_parts Tryd.infoTok
  refine step_append_lies w hgd s x 23 ho B 28 i0 _ 5 48 Tryd.underlying23 hi hz0 hz1 hz2 rfl (by decide) v l.length (Toks l) hs hown ⟨nb, 0, none⟩ 1 1 t.cells hx rfl (tok_cells w nb t hb) ?_ (by decide) ?_ ?_ hB _ rfl ?_
  · intro u hu; simp [Tok.cells] at hu; rcases hu with rfl | rfl | rfl | rfl | rfl <;> rfl
  · unfold maxLen; omega
  · omega
  · intro g cap w' hown' hg hat _
    refine h g cap w' ?_ hg hat
    rw [Toks_append, List.length_append]
    simpa [Toks] using hown'
end Go.Proofs.YtglkdhodpgnlgaaDoor
