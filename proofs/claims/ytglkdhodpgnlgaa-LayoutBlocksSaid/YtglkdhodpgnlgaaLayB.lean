/-
  The placer of package layout in memory: its block, its stack, what it has put; and what of it a step keeps. No condition.
-/
import Derived.Test.YtglkdhodpgnlgaaApp
import Derived.Test.YtglkdhodpgnlgaaPlain
namespace Go.Proofs.Ytglkdhodpgnlgaa
open Go.RowKit Go.Tel

/-- A block of layout. -/
structure Blk where
  ex : Bool
  col : Int
  lt : Bool
  br : Int
def Blk.cells (b : Blk) : List Value := [.bool b.ex, .int .i64 b.col, .bool b.lt, .int .i64 b.br]
def Blks (l : List Blk) : List Value := l.flatMap Blk.cells
theorem Blks_append (l m : List Blk) : Blks (l ++ m) = Blks l ++ Blks m := by simp [Blks]
theorem Blks_length (l : List Blk) : (Blks l).length = l.length * 4 := by
  induction l with
  | nil => rfl
  | cons t l ih => simp only [Blks, List.flatMap_cons, List.length_append, List.length_cons] at ih ⊢; rw [ih]; simp [Blk.cells]; omega
theorem Blks_at (l : List Blk) (i j : Nat) (t : Blk) (h : l[i]? = some t) (hj : j < 4) : (Blks l)[i * 4 + j]? = t.cells[j]? := by
  induction l generalizing i with
  | nil => simp at h
  | cons x l ih =>
    cases i with
    | zero =>
      simp only [List.getElem?_cons_zero, Option.some.injEq] at h; subst h
      simp only [Blks, List.flatMap_cons, Nat.zero_mul, Nat.zero_add]
      rw [List.getElem?_append_left (by simp [Blk.cells]; omega)]
    | succ i =>
      simp only [List.getElem?_cons_succ] at h
      have := ih i h
      simp only [Blks, List.flatMap_cons] at this ⊢
      rw [List.getElem?_append_right (by simp [Blk.cells]; omega)]
      rw [← this]; congr 1; simp [Blk.cells]; omega

/-- The placer. -/
structure PS where
  stk : List Blk
  at_ : Nat
  out : List Tok
  bad : Int
  place : Int
  first : Bool
  done : Bool

/-- A row that is only read. -/
def InRow (w : World) (bi : Nat) (inn : List Tok) : Prop := ∃ cur, w.heap[bi]? = some (.cells cur 27 (0, 0)) ∧ cur.toList.take (inn.length * 5) = Toks inn ∧ inn.length < 100000

def PlObj (vs vo : Value) (bi ci : Nat) (inn : List Tok) (S : PS) : Obj :=
  .cells #[vs, .slice (some ⟨bi, 0, none⟩) inn.length ci, .int .i64 S.at_, vo, .int .i64 S.bad, .int .i64 S.place, .bool S.first, .bool S.done] 50 (0, 0)

structure PlV (w : World) (bp bi ci : Nat) (X : Nat → Prop) (inn : List Tok) (S : PS) (vs vo : Value) : Prop where
  blk : w.heap[bp]? = some (PlObj vs vo bi ci inn S)
  stk : w.ownsRow (bp + 1) 53 4 vs S.stk.length (Blks S.stk)
  out : w.ownsRow (bp + 1) 27 5 vo S.out.length (Toks S.out)
  two : ∀ k, vs.ownBlock = some k → vo.ownBlock ≠ some k
  kept : ∀ k, X k → k ≠ bp ∧ vs.ownBlock ≠ some k ∧ vo.ownBlock ≠ some k ∧ k < w.heap.size
  xbi : X bi
  inn : InRow w bi inn

def Pl (w : World) (bp bi ci : Nat) (X : Nat → Prop) (inn : List Tok) (S : PS) : Prop := ∃ vs vo, PlV w bp bi ci X inn S vs vo

/-- The blocks of X, and one more. -/
def And1 (X : Nat → Prop) (b : Nat) : Nat → Prop := fun k => X k ∨ k = b

section
variable {w w' : World} {bp bi ci : Nat} {X Y : Nat → Prop} {inn : List Tok} {S : PS} {vs vo : Value}

theorem InRow.keep (h : InRow w bi inn) (hk : Keep X w w') (hx : X bi) : InRow w' bi inn := by
  obtain ⟨cur, h1, h2⟩ := h
  exact ⟨cur, hk.blk h1 hx, h2⟩

theorem InRow.small (h : InRow w bi inn) : inn.length < 100000 := by obtain ⟨_, _, _, h⟩ := h; exact h

theorem InRow.tok (h : InRow w bi inn) {i : Nat} {t : Tok} (hi : inn[i]? = some t) : ∀ j, j < 5 → w.cell? ⟨bi, i * 5 + j, none⟩ = t.cells[j]? := by
  obtain ⟨cur, h1, h2, _⟩ := h
  intro j hj
  rw [blk_cell h1, ← Toks_at inn i j t hi hj, ← h2, List.getElem?_take, if_pos]
  · simp
  · have := (List.getElem?_eq_some_iff.1 hi).1; omega

/-- Whatever keeps the placer's own blocks, and X, keeps the placer. -/
theorem PlV.keep (h : PlV w bp bi ci X inn S vs vo) (hk : Keep (fun k => X k ∨ k = bp ∨ vs.ownBlock = some k ∨ vo.ownBlock = some k) w w') : PlV w' bp bi ci X inn S vs vo where
  blk := hk.blk h.blk (Or.inr (Or.inl rfl))
  stk := own_keep h.stk hk (fun _ e => Or.inr (Or.inr (Or.inl e)))
  out := own_keep h.out hk (fun _ e => Or.inr (Or.inr (Or.inr e)))
  two := h.two
  kept := fun k hx => ⟨(h.kept k hx).1, (h.kept k hx).2.1, (h.kept k hx).2.2.1, Nat.lt_of_lt_of_le (h.kept k hx).2.2.2 hk.size⟩
  xbi := h.xbi
  inn := h.inn.keep hk (Or.inl h.xbi)

theorem PlV.mono (h : PlV w bp bi ci X inn S vs vo) (hy : ∀ k, Y k → X k) (hb : Y bi) : PlV w bp bi ci Y inn S vs vo :=
  ⟨h.blk, h.stk, h.out, h.two, fun k hk => h.kept k (hy k hk), hb, h.inn⟩
theorem Pl.mono (h : Pl w bp bi ci X inn S) (hy : ∀ k, Y k → X k) (hb : Y bi) : Pl w bp bi ci Y inn S := by
  obtain ⟨vs, vo, h⟩ := h; exact ⟨vs, vo, h.mono hy hb⟩
theorem Pl.back {b : Nat} (h : Pl w bp bi ci (And1 X b) inn S) (hb : X bi) : Pl w bp bi ci X inn S := h.mono (fun _ hk => Or.inl hk) hb

theorem PlV.alloc (h : PlV w bp bi ci X inn S vs vo) (o : Obj) : PlV (w.alloc o) bp bi ci X inn S vs vo := h.keep ((Keep.refl _ _).alloc o)
theorem PlV.drew (h : PlV w bp bi ci X inn S vs vo) : PlV w.drew bp bi ci X inn S vs vo := h.keep (Keep.refl _ _).drew
theorem PlV.drewN (h : PlV w bp bi ci X inn S vs vo) (n : Nat) : PlV (w.drewN n) bp bi ci X inn S vs vo := h.keep ((Keep.refl _ _).drewN n)
theorem Pl.alloc (h : Pl w bp bi ci X inn S) (o : Obj) : Pl (w.alloc o) bp bi ci X inn S := by obtain ⟨vs, vo, h⟩ := h; exact ⟨vs, vo, h.alloc o⟩
theorem Pl.drew (h : Pl w bp bi ci X inn S) : Pl w.drew bp bi ci X inn S := by obtain ⟨vs, vo, h⟩ := h; exact ⟨vs, vo, h.drew⟩
theorem Pl.drewN (h : Pl w bp bi ci X inn S) (n : Nat) : Pl (w.drewN n) bp bi ci X inn S := by obtain ⟨vs, vo, h⟩ := h; exact ⟨vs, vo, h.drewN n⟩

/-- A new block is kept from then on. -/
theorem PlV.guard (h : PlV w bp bi ci X inn S vs vo) (o : Obj) : PlV (w.alloc o) bp bi ci (And1 X w.heap.size) inn S vs vo :=
  have h1 := h.alloc o
  ⟨h1.blk, h1.stk, h1.out, h1.two, fun k hk => by
    rcases hk with hk | hk
    · exact h1.kept k hk
    · subst hk
      exact ⟨Nat.ne_of_gt (blk_lt h.blk), own_not h.stk (Nat.le_refl _), own_not h.out (Nat.le_refl _), by rw [size_alloc']; exact Nat.lt_succ_self _⟩, Or.inl h1.xbi, h1.inn⟩
theorem Pl.guard (h : Pl w bp bi ci X inn S) (o : Obj) : Pl (w.alloc o) bp bi ci (And1 X w.heap.size) inn S := by obtain ⟨vs, vo, h⟩ := h; exact ⟨vs, vo, h.guard o⟩

theorem And1.keep {b : Nat} (h : Keep (And1 X b) w w') : Keep X w w' := h.mono (fun _ _ hk => Or.inl hk)
theorem And1.blk {b : Nat} {o : Obj} (h : Keep (And1 X b) w w') (hb : w.heap[b]? = some o) : w'.heap[b]? = some o := h.blk hb (Or.inr rfl)

/-- A field of one cell is written. -/
theorem PlV.setF (h : PlV w bp bi ci X inn S vs vo) (i : Nat) (u : Value) (S' : PS) (vs' vo' : Value) (hs : S'.stk = S.stk) (ho : S'.out = S.out) (hvs : vs' = vs) (hvo : vo' = vo)
    (hb : (w.setCell ⟨bp, i, none⟩ u).heap[bp]? = some (PlObj vs' vo' bi ci inn S')) : PlV (w.setCell ⟨bp, i, none⟩ u) bp bi ci X inn S' vs' vo' := by
  subst hvs hvo
  have hk : Keep (fun k => k ≠ bp) w (w.setCell ⟨bp, i, none⟩ u) := Keep.own (Keep.refl _ _) i u
  exact ⟨hb, by rw [hs]; exact own_keep h.stk hk (fun k e => by have := own_ge h.stk k e; omega), by rw [ho]; exact own_keep h.out hk (fun k e => by have := own_ge h.out k e; omega), h.two,
    fun k hx => ⟨(h.kept k hx).1, (h.kept k hx).2.1, (h.kept k hx).2.2.1, Nat.lt_of_lt_of_le (h.kept k hx).2.2.2 hk.size⟩, h.xbi, h.inn.keep hk (h.kept bi h.xbi).1⟩
theorem PlV.setAt (h : PlV w bp bi ci X inn S vs vo) (n : Nat) : PlV (w.setCell ⟨bp, 2, none⟩ (.int .i64 n)) bp bi ci X inn { S with at_ := n } vs vo := h.setF 2 _ { S with at_ := n } _ _ rfl rfl rfl rfl (blk_set h.blk 2 _)
theorem PlV.setBad (h : PlV w bp bi ci X inn S vs vo) (n : Int) : PlV (w.setCell ⟨bp, 4, none⟩ (.int .i64 n)) bp bi ci X inn { S with bad := n } vs vo := h.setF 4 _ { S with bad := n } _ _ rfl rfl rfl rfl (blk_set h.blk 4 _)
theorem PlV.setPlace (h : PlV w bp bi ci X inn S vs vo) (n : Int) : PlV (w.setCell ⟨bp, 5, none⟩ (.int .i64 n)) bp bi ci X inn { S with place := n } vs vo := h.setF 5 _ { S with place := n } _ _ rfl rfl rfl rfl (blk_set h.blk 5 _)
theorem PlV.setFirst (h : PlV w bp bi ci X inn S vs vo) (n : Bool) : PlV (w.setCell ⟨bp, 6, none⟩ (.bool n)) bp bi ci X inn { S with first := n } vs vo := h.setF 6 _ { S with first := n } _ _ rfl rfl rfl rfl (blk_set h.blk 6 _)
theorem PlV.setDone (h : PlV w bp bi ci X inn S vs vo) (n : Bool) : PlV (w.setCell ⟨bp, 7, none⟩ (.bool n)) bp bi ci X inn { S with done := n } vs vo := h.setF 7 _ { S with done := n } _ _ rfl rfl rfl rfl (blk_set h.blk 7 _)
/-- A store into the placer's own block keeps X. -/
theorem PlV.keepSet (h : PlV w bp bi ci X inn S vs vo) (a : World) (hk : Keep X a w) (i : Nat) (u : Value) : Keep X a (w.setCell ⟨bp, i, none⟩ u) := hk.set _ (Or.inr (fun hx => (h.kept bp hx).1 rfl)) u
end

def PlPost (bp bi ci : Nat) (X : Nat → Prop) (inn : List Tok) (v : Value) (S : PS) (w : World) (e : Ending) (w' : World) : Prop :=
  e = .returned v ∧ Pl w' bp bi ci X inn S ∧ Keep X w w'
theorem pl_close {bp bi ci : Nat} {X : Nat → Prop} {inn : List Tok} {v : Value} {S : PS} {w w' : World} (h : Pl w' bp bi ci X inn S) (hk : Keep X w w') : PlPost bp bi ci X inn v S w (.returned v) w' := ⟨rfl, h, hk⟩
end Go.Proofs.Ytglkdhodpgnlgaa
