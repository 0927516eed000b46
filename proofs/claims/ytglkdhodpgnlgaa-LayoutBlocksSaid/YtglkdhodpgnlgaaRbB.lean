/-
  The reference's layer of layout in memory: its block, its stack, what it has put; what of it a step keeps; and its plain functions put, push, pop. No condition.
-/
import Derived.Test.YtglkdhodpgnlgaaLayQ
namespace Go.Proofs.Ytglkdhodpgnlgaa
open Go.RowKit Go.Tel

def Blk.rcells (b : Blk) : List Value := [.int .i64 b.col, .bool b.lt, .int .i64 b.br, .bool b.ex]
def RBlks (l : List Blk) : List Value := l.flatMap Blk.rcells
theorem RBlks_append (l m : List Blk) : RBlks (l ++ m) = RBlks l ++ RBlks m := by simp [RBlks]
theorem RBlks_length (l : List Blk) : (RBlks l).length = l.length * 4 := by
  induction l with
  | nil => rfl
  | cons t l ih => simp only [RBlks, List.flatMap_cons, List.length_append, List.length_cons] at ih ⊢; rw [ih]; simp [Blk.rcells]; omega
theorem RBlks_at (l : List Blk) (i j : Nat) (t : Blk) (h : l[i]? = some t) (hj : j < 4) : (RBlks l)[i * 4 + j]? = t.rcells[j]? := by
  induction l generalizing i with
  | nil => simp at h
  | cons x l ih =>
    cases i with
    | zero =>
      simp only [List.getElem?_cons_zero, Option.some.injEq] at h; subst h
      simp only [RBlks, List.flatMap_cons, Nat.zero_mul, Nat.zero_add]
      rw [List.getElem?_append_left (by simp [Blk.rcells]; omega)]
    | succ i =>
      simp only [List.getElem?_cons_succ] at h
      have := ih i h
      simp only [RBlks, List.flatMap_cons] at this ⊢
      rw [List.getElem?_append_right (by simp [Blk.rcells]; omega)]
      rw [← this]; congr 1; simp [Blk.rcells]; omega

/-- The reference's layer. -/
structure RS where
  out : List Tok
  stk : List Blk
  e : Int
  at_ : Int
def RS.put (k : Int) (t : Tok) (own : Bool) (S : RS) : RS :=
  if S.e ≠ 0 then S else if 60000 ≤ S.out.length then { S with e := 2, at_ := t.at_ } else { S with out := S.out ++ [⟨k, if own then t.text else mkS [], t.at_, t.line, t.col⟩] }
def RS.push (b : Blk) (t : Tok) (S : RS) : RS :=
  if 60 ≤ S.stk.length ∧ S.e = 0 then { S with e := 2, at_ := t.at_ } else { S with stk := S.stk ++ [b] }
def RS.pop (t : Tok) (own : Bool) (S : RS) : RS := { S.put 5 t own with stk := S.stk.dropLast }

def RlObj (vo vs : Value) (S : RS) : Obj := .cells #[vo, vs, .int .i64 S.e, .int .i64 S.at_] 57 (0, 0)

structure RlV (w : World) (bp : Nat) (X : Nat → Prop) (S : RS) (vs vo : Value) : Prop where
  blk : w.heap[bp]? = some (RlObj vo vs S)
  stk : w.ownsRow (bp + 1) 61 4 vs S.stk.length (RBlks S.stk)
  out : w.ownsRow (bp + 1) 27 5 vo S.out.length (Toks S.out)
  two : ∀ k, vs.ownBlock = some k → vo.ownBlock ≠ some k
  kept : ∀ k, X k → k ≠ bp ∧ vs.ownBlock ≠ some k ∧ vo.ownBlock ≠ some k ∧ k < w.heap.size

def Rl (w : World) (bp : Nat) (X : Nat → Prop) (S : RS) : Prop := ∃ vs vo, RlV w bp X S vs vo
theorem Rl.of {w : World} {bp : Nat} {X : Nat → Prop} {S : RS} {vs vo : Value} (h : RlV w bp X S vs vo) : Rl w bp X S := ⟨_, _, h⟩

section
variable {w w' : World} {bp : Nat} {X Y : Nat → Prop} {S : RS} {vs vo : Value}

/-- Whatever keeps the layer's own blocks, and X, keeps the layer. -/
theorem RlV.keep (h : RlV w bp X S vs vo) (hk : Keep (fun k => X k ∨ k = bp ∨ vs.ownBlock = some k ∨ vo.ownBlock = some k) w w') : RlV w' bp X S vs vo where
  blk := hk.blk h.blk (Or.inr (Or.inl rfl))
  stk := own_keep h.stk hk (fun _ e => Or.inr (Or.inr (Or.inl e)))
  out := own_keep h.out hk (fun _ e => Or.inr (Or.inr (Or.inr e)))
  two := h.two
  kept := fun k hx => ⟨(h.kept k hx).1, (h.kept k hx).2.1, (h.kept k hx).2.2.1, Nat.lt_of_lt_of_le (h.kept k hx).2.2.2 hk.size⟩
theorem RlV.mono (h : RlV w bp X S vs vo) (hy : ∀ k, Y k → X k) : RlV w bp Y S vs vo := ⟨h.blk, h.stk, h.out, h.two, fun k hk => h.kept k (hy k hk)⟩
theorem Rl.mono (h : Rl w bp X S) (hy : ∀ k, Y k → X k) : Rl w bp Y S := by obtain ⟨vs, vo, h⟩ := h; exact ⟨vs, vo, h.mono hy⟩
theorem Rl.back {b : Nat} (h : Rl w bp (And1 X b) S) : Rl w bp X S := h.mono (fun _ hk => Or.inl hk)
theorem RlV.alloc (h : RlV w bp X S vs vo) (o : Obj) : RlV (w.alloc o) bp X S vs vo := h.keep ((Keep.refl _ _).alloc o)
theorem RlV.drew (h : RlV w bp X S vs vo) : RlV w.drew bp X S vs vo := h.keep (Keep.refl _ _).drew
theorem RlV.drewN (h : RlV w bp X S vs vo) (n : Nat) : RlV (w.drewN n) bp X S vs vo := h.keep ((Keep.refl _ _).drewN n)
theorem Rl.alloc (h : Rl w bp X S) (o : Obj) : Rl (w.alloc o) bp X S := by obtain ⟨vs, vo, h⟩ := h; exact ⟨vs, vo, h.alloc o⟩
theorem Rl.drew (h : Rl w bp X S) : Rl w.drew bp X S := by obtain ⟨vs, vo, h⟩ := h; exact ⟨vs, vo, h.drew⟩
theorem Rl.drewN (h : Rl w bp X S) (n : Nat) : Rl (w.drewN n) bp X S := by obtain ⟨vs, vo, h⟩ := h; exact ⟨vs, vo, h.drewN n⟩
/-- A store into a block that is none of the layer's. -/
theorem RlV.far (h : RlV w bp X S vs vo) (a : Addr) (u : Value) (h1 : ¬ X a.block) (h2 : a.block ≠ bp) (h3 : vs.ownBlock ≠ some a.block) (h4 : vo.ownBlock ≠ some a.block) : RlV (w.setCell a u) bp X S vs vo :=
  h.keep ((Keep.refl _ _).set _ (Or.inr (by rintro (q | q | q | q); exact h1 q; exact h2 q; exact h3 q; exact h4 q)) u)
/-- A new block is kept from then on. -/
theorem RlV.guard (h : RlV w bp X S vs vo) (o : Obj) : RlV (w.alloc o) bp (And1 X w.heap.size) S vs vo :=
  have h1 := h.alloc o
  ⟨h1.blk, h1.stk, h1.out, h1.two, fun k hk => by
    rcases hk with hk | hk
    · exact h1.kept k hk
    · subst hk
      exact ⟨Nat.ne_of_gt (blk_lt h.blk), own_not h.stk (Nat.le_refl _), own_not h.out (Nat.le_refl _), by rw [size_alloc']; exact Nat.lt_succ_self _⟩⟩
theorem Rl.guard (h : Rl w bp X S) (o : Obj) : Rl (w.alloc o) bp (And1 X w.heap.size) S := by obtain ⟨vs, vo, h⟩ := h; exact ⟨vs, vo, h.guard o⟩
theorem RlV.new (h : RlV w bp X S vs vo) (k : Nat) (hk : w.heap.size ≤ k) : ¬ X k ∧ k ≠ bp ∧ vs.ownBlock ≠ some k ∧ vo.ownBlock ≠ some k :=
  ⟨fun hx => by have := (h.kept k hx).2.2.2; omega, by have := blk_lt h.blk; omega, own_not h.stk hk, own_not h.out hk⟩

/-- A field of one cell is written. -/
theorem RlV.setF (h : RlV w bp X S vs vo) (i : Nat) (u : Value) (S' : RS) (hs : S'.stk = S.stk) (ho : S'.out = S.out)
    (hb : (w.setCell ⟨bp, i, none⟩ u).heap[bp]? = some (RlObj vo vs S')) : RlV (w.setCell ⟨bp, i, none⟩ u) bp X S' vs vo := by
  have hk : Keep (fun k => k ≠ bp) w (w.setCell ⟨bp, i, none⟩ u) := Keep.own (Keep.refl _ _) i u
  exact ⟨hb, by rw [hs]; exact own_keep h.stk hk (fun k e => by have := own_ge h.stk k e; omega), by rw [ho]; exact own_keep h.out hk (fun k e => by have := own_ge h.out k e; omega), h.two,
    fun k hx => ⟨(h.kept k hx).1, (h.kept k hx).2.1, (h.kept k hx).2.2.1, Nat.lt_of_lt_of_le (h.kept k hx).2.2.2 hk.size⟩⟩
theorem RlV.setE (h : RlV w bp X S vs vo) (n : Int) : RlV (w.setCell ⟨bp, 2, none⟩ (.int .i64 n)) bp X { S with e := n } vs vo := h.setF 2 _ { S with e := n } rfl rfl (blk_set h.blk 2 _)
theorem RlV.setAt (h : RlV w bp X S vs vo) (n : Int) : RlV (w.setCell ⟨bp, 3, none⟩ (.int .i64 n)) bp X { S with at_ := n } vs vo := h.setF 3 _ { S with at_ := n } rfl rfl (blk_set h.blk 3 _)
/-- A store into the layer's own block keeps X. -/
theorem RlV.keepSet (h : RlV w bp X S vs vo) (a : World) (hk : Keep X a w) (i : Nat) (u : Value) : Keep X a (w.setCell ⟨bp, i, none⟩ u) := hk.set _ (Or.inr (fun hx => (h.kept bp hx).1 rfl)) u
end

def RlPost (bp : Nat) (X : Nat → Prop) (v : Value) (S : RS) (w : World) (e : Ending) (w' : World) : Prop := e = .returned v ∧ Rl w' bp X S ∧ Keep X w w'
theorem rl_close {bp : Nat} {X : Nat → Prop} {v : Value} {S : RS} {w w' : World} (h : Rl w' bp X S) (hk : Keep X w w') : RlPost bp X v S w (.returned v) w' := ⟨rfl, h, hk⟩

/-- Appending one block to the stack. -/
theorem Try.infoRBlk : (Try.prog.info? 61).map (fun i => (i.zero, i.size, i.bytes)) = some (some (.agg #[.int .i64 0, .bool false, .int .i64 0, .bool false]), 4, 32) := by kernel_rfl
def rblkObj (b : Blk) : Obj := .cells #[.int .i64 b.col, .bool b.lt, .int .i64 b.br, .bool b.ex] 61 (0, 0)
theorem rblk_cells (w : World) (nb : Nat) (b : Blk) (h : w.heap[nb]? = some (rblkObj b)) : ∀ j u, b.rcells[j]? = some u → w.cell? ((⟨nb, 0, none⟩ : Addr).add j) = some u := by
  intro j u hu
  have hadd : (⟨nb, 0, none⟩ : Addr).add j = ⟨nb, j, none⟩ := by unfold Addr.add; split <;> simp_all
  rw [hadd, blk_cell h j]
  simpa [Blk.rcells] using hu

theorem step_append_rblk {ops : Array Oper} {o : Oper} {a : Act} {w : World} {K : Act → World → Prop} {Q : Exit → Act → World → Prop} {E : Prop} (hgd : o.guard = none) (s x : Operand)
    (ho : o.op = .call { callee := .builtin .append, args := #[s, x], argTypes := #[55, 55] })
    (B : Nat) (v : Value) (l : List Blk) (hs : a.eval s = v) (hown : w.ownsRow B 61 4 v l.length (RBlks l)) (nb : Nat) (b : Blk) (hx : a.eval x = .slice (some ⟨nb, 0, none⟩) 1 1)
    (hb : w.heap[nb]? = some (rblkObj b)) (hn : l.length < 200000) (hB : B ≤ w.heap.size)
    (h : ∀ g cap w', w'.ownsRow B 61 4 (.slice (some ⟨g, 0, none⟩) (l.length + 1) cap) (l ++ [b]).length (RBlks (l ++ [b])) → w.grownBy w' v.ownBlock → (v.ownBlock = some g ∨ g = w.heap.size) → K (a.put o.dst (.slice (some ⟨g, 0, none⟩) (l.length + 1) cap)) w') :
    if Region.wanted o (yielded ops a.tmps) = true then Oper.wp Try.prog o a w K Q else E := by
  obtain ⟨i0, hi, hz0, hz1, hz2⟩ := info_parts Try.infoRBlk
  refine step_append_lies w hgd s x 55 ho B 61 i0 _ 4 32 Try.underlying55 hi hz0 hz1 hz2 rfl (by decide) v l.length (RBlks l) hs hown ⟨nb, 0, none⟩ 1 1 b.rcells hx rfl (rblk_cells w nb b hb) ?_ (by decide) ?_ ?_ hB _ rfl ?_
  · intro u hu; simp [Blk.rcells] at hu; rcases hu with rfl | rfl | rfl | rfl <;> rfl
  · unfold maxLen; omega
  · omega
  · intro g cap w' hown' hg hat _
    refine h g cap w' ?_ hg hat
    rw [RBlks_append, List.length_append]
    simpa [RBlks] using hown'

section
variable {w w1 : World} {bp : Nat} {X : Nat → Prop} {S : RS} {vs vo : Value}
theorem RlV.newStk (h : RlV w bp X S vs vo) (hg : w.grownBy w1 vs.ownBlock) {g n cap : Nat} {l : List Blk} (hown : w1.ownsRow (bp + 1) 61 4 (.slice (some ⟨g, 0, none⟩) n cap) l.length (RBlks l)) (hat : vs.ownBlock = some g ∨ g = w.heap.size) :
    RlV (w1.setCell ⟨bp, 1, none⟩ (.slice (some ⟨g, 0, none⟩) n cap)) bp X { S with stk := l } (.slice (some ⟨g, 0, none⟩) n cap) vo ∧ Keep X w (w1.setCell ⟨bp, 1, none⟩ (.slice (some ⟨g, 0, none⟩) n cap)) := by
  have hbp : vs.ownBlock ≠ some bp := fun e => by have := own_ge h.stk bp e; omega
  have hb1 := grown_old hg h.blk hbp
  have hk1 : Keep (fun k => k ≠ bp) w1 (w1.setCell ⟨bp, 1, none⟩ (.slice (some ⟨g, 0, none⟩) n cap)) := Keep.own (Keep.refl _ _) _ _
  have hk0 : Keep (fun k => vs.ownBlock ≠ some k) w w1 := (Keep.refl _ _).grown hg (fun k hk => Or.inr (fun h => h hk))
  have hk2 : Keep (fun k => vs.ownBlock ≠ some k ∧ k ≠ bp) w (w1.setCell ⟨bp, 1, none⟩ (.slice (some ⟨g, 0, none⟩) n cap)) := (hk0.mono (fun _ _ hk => hk.1)).trans (hk1.mono (fun _ _ hk => hk.2))
  refine ⟨⟨blk_set hb1 1 _, own_keep hown hk1 (fun k e => by have := own_ge hown k e; omega), own_keep h.out hk2 (fun k e => ⟨fun e2 => h.two k e2 e, by have := own_ge h.out k e; omega⟩), ?_, ?_⟩, hk2.mono (fun k _ hx => ⟨(h.kept k hx).2.1, (h.kept k hx).1⟩)⟩
  · intro k hk
    simp only [Value.ownBlock, Option.some.injEq] at hk; subst hk
    rcases hat with hat | hat
    · exact h.two _ hat
    · rw [hat]; exact own_not h.out (Nat.le_refl _)
  · intro k hx
    refine ⟨(h.kept k hx).1, ?_, (h.kept k hx).2.2.1, Nat.lt_of_lt_of_le (h.kept k hx).2.2.2 hk2.size⟩
    intro e
    simp only [Value.ownBlock, Option.some.injEq] at e; subst e
    rcases hat with hat | hat
    · exact (h.kept _ hx).2.1 hat
    · have := (h.kept _ hx).2.2.2; omega
theorem RlV.newOut (h : RlV w bp X S vs vo) (hg : w.grownBy w1 vo.ownBlock) {g n cap : Nat} {l : List Tok} (hown : w1.ownsRow (bp + 1) 27 5 (.slice (some ⟨g, 0, none⟩) n cap) l.length (Toks l)) (hat : vo.ownBlock = some g ∨ g = w.heap.size) :
    RlV (w1.setCell ⟨bp, 0, none⟩ (.slice (some ⟨g, 0, none⟩) n cap)) bp X { S with out := l } vs (.slice (some ⟨g, 0, none⟩) n cap) ∧ Keep X w (w1.setCell ⟨bp, 0, none⟩ (.slice (some ⟨g, 0, none⟩) n cap)) := by
  have hbp : vo.ownBlock ≠ some bp := fun e => by have := own_ge h.out bp e; omega
  have hb1 := grown_old hg h.blk hbp
  have hk1 : Keep (fun k => k ≠ bp) w1 (w1.setCell ⟨bp, 0, none⟩ (.slice (some ⟨g, 0, none⟩) n cap)) := Keep.own (Keep.refl _ _) _ _
  have hk0 : Keep (fun k => vo.ownBlock ≠ some k) w w1 := (Keep.refl _ _).grown hg (fun k hk => Or.inr (fun h => h hk))
  have hk2 : Keep (fun k => vo.ownBlock ≠ some k ∧ k ≠ bp) w (w1.setCell ⟨bp, 0, none⟩ (.slice (some ⟨g, 0, none⟩) n cap)) := (hk0.mono (fun _ _ hk => hk.1)).trans (hk1.mono (fun _ _ hk => hk.2))
  refine ⟨⟨blk_set hb1 0 _, own_keep h.stk hk2 (fun k e => ⟨h.two k e, by have := own_ge h.stk k e; omega⟩), own_keep hown hk1 (fun k e => by have := own_ge hown k e; omega), ?_, ?_⟩, hk2.mono (fun k _ hx => ⟨(h.kept k hx).2.2.1, (h.kept k hx).1⟩)⟩
  · intro k hk e
    simp only [Value.ownBlock, Option.some.injEq] at e; subst e
    rcases hat with hat | hat
    · exact h.two _ hk hat
    · rw [hat] at hk; exact own_not h.stk (Nat.le_refl _) hk
  · intro k hx
    refine ⟨(h.kept k hx).1, (h.kept k hx).2.1, ?_, Nat.lt_of_lt_of_le (h.kept k hx).2.2.2 hk2.size⟩
    intro e
    simp only [Value.ownBlock, Option.some.injEq] at e; subst e
    rcases hat with hat | hat
    · exact (h.kept _ hx).2.2.1 hat
    · have := (h.kept _ hx).2.2.2; omega

theorem rown_pop {w : World} {base : Nat} {l : List Blk} {g cap : Nat} (h : w.ownsRow base 61 4 (.slice (some ⟨g, 0, none⟩) l.length cap) l.length (RBlks l)) :
    w.ownsRow base 61 4 (.slice (some ⟨g, 0, none⟩) (l.length - 1) cap) l.dropLast.length (RBlks l.dropLast) := by
  rcases h.2 with ⟨h0, _⟩ | ⟨g', cap', cur, hv, hb, hg, hn, hm, hs, ht⟩
  · cases h0
  · cases hv
    refine ⟨RBlks_length _, .inr ⟨g, cap, cur, by rw [List.length_dropLast], hb, hg, by rw [List.length_dropLast]; omega, hm, hs, ?_⟩⟩
    rcases List.eq_nil_or_concat l with rfl | ⟨m, b, rfl⟩
    · simp [RBlks]
    · rw [List.concat_eq_append] at ht ⊢
      rw [List.dropLast_concat]
      have e : (m ++ [b]).length = m.length + 1 := by simp
      rw [e, RBlks_append] at ht
      have hl := RBlks_length m
      have : cur.toList.take (m.length * 4) = (cur.toList.take ((m.length + 1) * 4)).take (m.length * 4) := by rw [List.take_take]; congr 1; omega
      rw [this, ht, ← hl, List.take_left]

theorem RlV.popped {g c : Nat} (h : RlV w bp X S (.slice (some ⟨g, 0, none⟩) S.stk.length c) vo) :
    RlV (w.setCell ⟨bp, 1, none⟩ (.slice (some ⟨g, 0, none⟩) (S.stk.length - 1) c)) bp X { S with stk := S.stk.dropLast } (.slice (some ⟨g, 0, none⟩) (S.stk.length - 1) c) vo := by
  have hk : Keep (fun k => k ≠ bp) w (w.setCell ⟨bp, 1, none⟩ (.slice (some ⟨g, 0, none⟩) (S.stk.length - 1) c)) := Keep.own (Keep.refl _ _) _ _
  exact ⟨blk_set h.blk 1 _, own_keep (rown_pop h.stk) hk (fun k e => by have := own_ge h.stk k e; omega), own_keep h.out hk (fun k e => by have := own_ge h.out k e; omega), h.two,
    fun k hx => ⟨(h.kept k hx).1, (h.kept k hx).2.1, (h.kept k hx).2.2.1, Nat.lt_of_lt_of_le (h.kept k hx).2.2.2 hk.size⟩⟩
theorem RlV.form (h : RlV w bp X S vs vo) (hn : 0 < S.stk.length) : ∃ g c, vs = .slice (some ⟨g, 0, none⟩) S.stk.length c ∧ (S.stk.length : Int) ≤ (c : Int) ∧ (c : Int) ≤ 9223372036854775807 := by
  rcases h.stk.2 with ⟨_, h0⟩ | ⟨g, c, cur, hv, _, _, hnc, hm, _⟩
  · omega
  · exact ⟨g, c, hv, by omega, by unfold maxLen at hm; omega⟩
theorem RlV.row {g c : Nat} (h : RlV w bp X S (.slice (some ⟨g, 0, none⟩) S.stk.length c) vo) {k : Nat} {b : Blk} (hk : S.stk[k]? = some b) :
    (∀ j, j < 4 → w.cell? ⟨g, k * 4 + j, none⟩ = b.rcells[j]?) ∧ (∀ j, w.frozen? ⟨g, j, none⟩ = false) ∧ g < w.heap.size ∧ bp < g := by
  rcases h.stk.2 with ⟨h0, _⟩ | ⟨g', cap', cur, hv, hb, hg, hn, hm, hs, ht⟩
  · cases h0
  · cases hv
    refine ⟨fun j hj => ?_, blk_free hg, blk_lt hg, by omega⟩
    rw [blk_cell hg, ← RBlks_at S.stk k j b hk hj, ← ht, List.getElem?_take, if_pos]
    · simp
    · have := (List.getElem?_eq_some_iff.1 hk).1; omega
theorem RlV.small (h : RlV w bp X S vs vo) : (S.stk.length : Int) ≤ 9223372036854775807 := by
  rcases h.stk.2 with ⟨_, h0⟩ | ⟨g, c, cur, hv, _, _, hnc, hm, _⟩
  · omega
  · unfold maxLen at hm; omega
end
end Go.Proofs.Ytglkdhodpgnlgaa
