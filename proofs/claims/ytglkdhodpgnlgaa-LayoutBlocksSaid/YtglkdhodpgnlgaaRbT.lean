/-
  The reference's Blocks: where a round stands; the pieces of its round. No condition.
-/
import Derived.Test.YtglkdhodpgnlgaaRbLp
import Derived.Test.YtglkdhodpgnlgaaRbQq
import Derived.Test.YtglkdhodpgnlgaaLayBk
namespace Go.Proofs.Ytglkdhodpgnlgaa
open Go.RowKit Go.Tel

/-- Where a round stands: the layer, and the token in a block of its own. -/
structure RT (W : World) (bp bt : Nat) (t : Tok) (S : RS) (w : World) : Prop where
  rl : Rl w bp (And1 (fun k => k < W.heap.size) bt) S
  keep : Keep (fun k => k < W.heap.size) W w
  tok : w.heap[bt]? = some (tokObj t)
theorem RT.step {W w w' : World} {bp bt : Nat} {t : Tok} {S S' : RS} (h : RT W bp bt t S w) (hr : Rl w' bp (And1 (fun k => k < W.heap.size) bt) S') (hk : Keep (And1 (fun k => k < W.heap.size) bt) w w') : RT W bp bt t S' w' :=
  ⟨hr, h.keep.trans (And1.keep hk), And1.blk hk h.tok⟩
theorem RT.drewN {W w : World} {bp bt : Nat} {t : Tok} {S : RS} (h : RT W bp bt t S w) (n : Nat) : RT W bp bt t S (w.drewN n) := h.step (h.rl.drewN n) ((Keep.refl _ _).drewN n)
theorem rt_new {W w : World} {bp : Nat} {S : RS} (h : Rl w bp (fun k => k < W.heap.size) S) (hk : Keep (fun k => k < W.heap.size) W w) (t : Tok) : RT W bp w.heap.size t S (w.alloc (tokObj t)) :=
  ⟨h.guard _, hk.alloc _, blk_new _ _⟩
/-- The first layer, in memory. -/
theorem rl_new (W : World) : Rl (W.alloc (RlObj (.slice none 0 0) (.slice none 0 0) RS0)) W.heap.size (fun k => k < W.heap.size) RS0 :=
  ⟨.slice none 0 0, .slice none 0 0, blk_new _ _, World.ownsRow_nil _ _ _ _, World.ownsRow_nil _ _ _ _, (fun k h => by cases h), fun k hk => ⟨by have : k < W.heap.size := hk; omega, (fun h => by cases h), (fun h => by cases h), by rw [size_alloc']; have : k < W.heap.size := hk; omega⟩⟩


def regionOf (n : Nat) : Code → Option Code
  | .region id a b => if id == n then some (.region id a b) else none
  | .seq a b => match regionOf n a with
    | some c => some c
    | none => regionOf n b
  | .cond _ a b => match regionOf n a with
    | some c => some c
    | none => regionOf n b
  | .block _ c => regionOf n c
  | .scope c => regionOf n c
  | .loop c => regionOf n c
  | _ => none
/-- The innermost if that holds a region. -/
def condOf (n : Nat) : Code → Option Code
  | .cond o a b => match condOf n a with
    | some c => some c
    | none => match condOf n b with
      | some c => some c
      | none => if hasRegion n a || hasRegion n b then some (.cond o a b) else none
  | .seq a b => match condOf n a with
    | some c => some c
    | none => condOf n b
  | .block _ c => condOf n c
  | .scope c => condOf n c
  | .loop c => condOf n c
  | _ => none
noncomputable def region10 (n : Nat) : Code := (Try.f10.body.bind (regionOf n)).getD .skip
noncomputable def cond10 (n : Nat) : Code := (Try.f10.body.bind (condOf n)).getD .skip
/-- What a round may read of memory. -/
structure Round (W : World) (bi ci : Nat) (inn : List Tok) (i : Nat) (t : Tok) : Prop where
  row : InRow W bi inn
  bi : bi < W.heap.size
  cap : (inn.length : Int) ≤ (ci : Int)
  ci : (ci : Int) ≤ 9223372036854775807
  lt : i < inn.length
  tok : inn.getD i noTok = t
  more : t.kind ≠ 7 → i + 1 < inn.length
theorem Round.small {W : World} {bi ci : Nat} {inn : List Tok} {i : Nat} {t : Tok} (h : Round W bi ci inn i t) : (inn.length : Int) < 100000 := by have := h.row.small; omega
/-- A token of the row, in memory. -/
theorem Round.at_ {W : World} {bp bt bi ci : Nat} {inn : List Tok} {i : Nat} {t : Tok} {S : RS} {w : World} (h : Round W bi ci inn i t) (hr : RT W bp bt t S w) (j : Nat) (hj : j < inn.length) :
    (∀ m, m < 5 → w.cell? ⟨bi, j * 5 + m, none⟩ = (inn.getD j noTok).cells[m]?) ∧ bi < w.heap.size :=
  ⟨(h.row.keep hr.keep h.bi).tok (by rw [List.getD_eq_getElem?_getD, List.getElem?_eq_getElem hj]; rfl), Nat.lt_of_lt_of_le h.bi hr.keep.size⟩
/-- Where a round stands behind a token that opens a block: the next token, too, lies in a block of its own. -/
structure RN (W : World) (bp bt bu : Nat) (t n : Tok) (S : RS) (w : World) : Prop where
  rl : Rl w bp (And1 (And1 (fun k => k < W.heap.size) bt) bu) S
  keep : Keep (fun k => k < W.heap.size) W w
  tok : w.heap[bt]? = some (tokObj t)
  nxt : w.heap[bu]? = some (tokObj n)
theorem RN.step {W w w' : World} {bp bt bu : Nat} {t n : Tok} {S S' : RS} (h : RN W bp bt bu t n S w) (hr : Rl w' bp (And1 (And1 (fun k => k < W.heap.size) bt) bu) S') (hk : Keep (And1 (And1 (fun k => k < W.heap.size) bt) bu) w w') : RN W bp bt bu t n S' w' :=
  ⟨hr, h.keep.trans (And1.keep (And1.keep hk)), And1.blk (And1.keep hk) h.tok, And1.blk hk h.nxt⟩
theorem rn_new {W w : World} {bp bt : Nat} {t : Tok} {S : RS} (h : RT W bp bt t S w) (n : Tok) : RN W bp bt w.heap.size t n S (w.alloc (tokObj n)) :=
  ⟨h.rl.guard _, h.keep.alloc _, blk_alloc h.tok _, blk_new _ _⟩
theorem RN.back {W w : World} {bp bt bu : Nat} {t n : Tok} {S : RS} (h : RN W bp bt bu t n S w) : Rl w bp (fun k => k < W.heap.size) S := (h.rl.back).back
end Go.Proofs.Ytglkdhodpgnlgaa
