/-
  Words and laws on memory that the walks of this seat share: a block known whole, what a call keeps, tokens as cells. No condition.
-/
import Derived.WalkKit
import Derived.WalkSpells
import Derived.WalkLawsBesides
import Derived.Lib.Hide
namespace Go.Tel
open Go.RowKit

/-- A block known whole. -/
theorem blk_cell {w : World} {b : Nat} {c : Array Value} {t : TypeId} {fr : Nat × Nat} (h : w.heap[b]? = some (.cells c t fr)) : ∀ i, w.cell? ⟨b, i, none⟩ = c[i]? := by
  intro i; simp [World.cell?, h]
theorem blk_free {w : World} {b : Nat} {c : Array Value} {t : TypeId} (h : w.heap[b]? = some (.cells c t (0, 0))) : ∀ i, w.frozen? ⟨b, i, none⟩ = false := by
  intro i; simp [World.frozen?, h]
theorem blk_lt {w : World} {b : Nat} {o : Obj} (h : w.heap[b]? = some o) : b < w.heap.size := lt_of_block h
theorem blk_alloc {w : World} {b : Nat} {o : Obj} (h : w.heap[b]? = some o) (o' : Obj) : (w.alloc o').heap[b]? = some o := by
  rw [Below.heap_alloc w o' b (blk_lt h)]; exact h
theorem blk_new (w : World) (o : Obj) : (w.alloc o).heap[w.heap.size]? = some o := heap_alloc_new w o
theorem blk_new1 (w : World) (o1 o : Obj) : ((w.alloc o1).alloc o).heap[w.heap.size + 1]? = some o := by
  have h := heap_alloc_new (w.alloc o1) o
  simpa using h
theorem blk_new2 (w : World) (o1 o2 o : Obj) : (((w.alloc o1).alloc o2).alloc o).heap[w.heap.size + 1 + 1]? = some o := by
  have h := heap_alloc_new ((w.alloc o1).alloc o2) o
  simpa using h
theorem size_alloc' (w : World) (o : Obj) : (w.alloc o).heap.size = w.heap.size + 1 := by simp
theorem blk_set {w : World} {b : Nat} {c : Array Value} {t : TypeId} {fr : Nat × Nat} (h : w.heap[b]? = some (.cells c t fr)) (i : Nat) (v : Value) :
    (w.setCell ⟨b, i, none⟩ v).heap[b]? = some (.cells (c.setIfInBounds i v) t fr) := by
  have hlt := blk_lt h
  have h' : w.heap[b] = .cells c t fr := by simpa [Array.getElem?_eq_getElem hlt] using h
  show (w.heap.modify b _)[b]? = _
  rw [Array.getElem?_eq_getElem (by simpa using hlt), Array.getElem_modify_self, h']
  rfl
theorem blk_other {w : World} {b : Nat} {o : Obj} (h : w.heap[b]? = some o) (a : Addr) (hne : b ≠ a.block) (v : Value) : (w.setCell a v).heap[b]? = some o := by
  rw [Below.heap_setCell _ _ _ _ hne]; exact h
theorem size_set (w : World) (a : Addr) (v : Value) : (w.setCell a v).heap.size = w.heap.size := by simp [World.setCell]
theorem size_drew (w : World) : w.drew.heap.size = w.heap.size := rfl

/-- What a call keeps: the blocks of X are as they were; no block goes. -/
structure Keep (X : Nat → Prop) (w w' : World) : Prop where
  os : w'.os = w.os
  tape : w'.tape = w.tape
  output : w'.output = w.output
  size : w.heap.size ≤ w'.heap.size
  block : ∀ k, k < w.heap.size → X k → w'.heap[k]? = w.heap[k]?

theorem Keep.refl (X : Nat → Prop) (w : World) : Keep X w w := ⟨rfl, rfl, rfl, Nat.le_refl _, fun _ _ _ => rfl⟩
theorem Keep.trans {X : Nat → Prop} {a b c : World} (h : Keep X a b) (k : Keep X b c) : Keep X a c :=
  ⟨k.os.trans h.os, k.tape.trans h.tape, k.output.trans h.output, Nat.le_trans h.size k.size, fun i hi hx => (k.block i (Nat.lt_of_lt_of_le hi h.size) hx).trans (h.block i hi hx)⟩
theorem Keep.mono {X Y : Nat → Prop} {a b : World} (h : Keep X a b) (hy : ∀ k, k < a.heap.size → Y k → X k) : Keep Y a b :=
  ⟨h.os, h.tape, h.output, h.size, fun k hk hx => h.block k hk (hy k hk hx)⟩
theorem Keep.drew {X : Nat → Prop} {a w : World} (h : Keep X a w) : Keep X a w.drew := ⟨h.os, h.tape, h.output, h.size, h.block⟩
theorem Keep.drewN {X : Nat → Prop} {a w : World} (h : Keep X a w) (n : Nat) : Keep X a (w.drewN n) := ⟨h.os, h.tape, h.output, h.size, h.block⟩
theorem Keep.alloc {X : Nat → Prop} {a w : World} (h : Keep X a w) (o : Obj) : Keep X a (w.alloc o) :=
  h.trans ⟨rfl, rfl, rfl, by simp, fun k hk _ => Below.heap_alloc w o k hk⟩
theorem Keep.set {X : Nat → Prop} {a w : World} (h : Keep X a w) (p : Addr) (hp : a.heap.size ≤ p.block ∨ ¬ X p.block) (v : Value) : Keep X a (w.setCell p v) :=
  ⟨h.os, h.tape, h.output, by rw [size_set]; exact h.size, fun k hk hx => by
    rw [Below.heap_setCell _ _ _ _ (fun e => by subst e; rcases hp with hp | hp; exact absurd hk (by omega); exact hp hx)]
    exact h.block k hk hx⟩
theorem Keep.own {b : Nat} {a w : World} (h : Keep (fun k => k ≠ b) a w) (i : Nat) (v : Value) : Keep (fun k => k ≠ b) a (w.setCell ⟨b, i, none⟩ v) :=
  h.set _ (Or.inr (fun h => h rfl)) v
theorem Keep.grown {X : Nat → Prop} {a w w' : World} {row : Option Nat} (h : Keep X a w) (hg : w.grownBy w' row) (hr : ∀ k, row = some k → a.heap.size ≤ k ∨ ¬ X k) : Keep X a w' :=
  ⟨hg.os.trans h.os, hg.tape.trans h.tape, hg.output.trans h.output, Nat.le_trans h.size hg.size, fun k hk hx => by
    rw [hg.block k (Nat.lt_of_lt_of_le hk h.size) (fun e => by rcases hr k e.symm with q | q; omega; exact q hx)]
    exact h.block k hk hx⟩
theorem Keep.blk {X : Nat → Prop} {w w' : World} (h : Keep X w w') {b : Nat} {o : Obj} (hb : w.heap[b]? = some o) (hx : X b) : w'.heap[b]? = some o := by
  rw [h.block b (blk_lt hb) hx]; exact hb
theorem Keep.below {w w' : World} (h : Keep (fun k => k < w.heap.size) w w') : Below w.heap.size w w' :=
  ⟨h.os, h.tape, h.output, h.size, fun k hk => h.block k hk hk⟩
theorem Keep.all {w w' : World} (h : Keep (fun _ => True) w w') : Below w.heap.size w w' :=
  ⟨h.os, h.tape, h.output, h.size, fun k hk => h.block k hk trivial⟩
/-- A call that turns nothing that was there. -/
abbrev Same (w w' : World) : Prop := Keep (fun _ => True) w w'

/-- A token. -/
structure Tok where
  kind : Int
  text : ByteArray
  at_ : Int
  line : Int
  col : Int

def Tok.cells (t : Tok) : List Value := [.int .i64 t.kind, .string t.text, .int .i64 t.at_, .int .i64 t.line, .int .i64 t.col]
def Tok.val (t : Tok) : Value := .agg #[.int .i64 t.kind, .string t.text, .int .i64 t.at_, .int .i64 t.line, .int .i64 t.col]
def Toks (l : List Tok) : List Value := l.flatMap Tok.cells
theorem Toks_length (l : List Tok) : (Toks l).length = l.length * 5 := by
  induction l with
  | nil => rfl
  | cons t l ih => simp only [Toks, List.flatMap_cons, List.length_append, List.length_cons] at ih ⊢; rw [ih]; simp [Tok.cells]; omega
theorem Toks_append (l m : List Tok) : Toks (l ++ m) = Toks l ++ Toks m := by simp [Toks]
theorem Toks_at (l : List Tok) (i j : Nat) (t : Tok) (h : l[i]? = some t) (hj : j < 5) : (Toks l)[i * 5 + j]? = t.cells[j]? := by
  induction l generalizing i with
  | nil => simp at h
  | cons x l ih =>
    cases i with
    | zero =>
      simp only [List.getElem?_cons_zero, Option.some.injEq] at h; subst h
      simp only [Toks, List.flatMap_cons, Nat.zero_mul, Nat.zero_add]
      rw [List.getElem?_append_left (by simp [Tok.cells]; omega)]
    | succ i =>
      simp only [List.getElem?_cons_succ] at h
      have := ih i h
      simp only [Toks, List.flatMap_cons] at this ⊢
      rw [List.getElem?_append_right (by simp [Tok.cells]; omega)]
      rw [← this]; congr 1; simp [Tok.cells]; omega
end Go.Tel
