/-
  Appending one token to a slice that the call owns: the law of the library at this program's token. Conditions: fewer than 200000 tokens.
-/
import Derived.Test.YtglkdhodpgnlgaaDoorBase
import Derived.Test.YtglkdhodpgnlgaaDoorRows
import Derived.Deep.RegionLaw
namespace Go.Proofs.YtglkdhodpgnlgaaDoor
open Go.RowKit Go.Tel

theorem own_keep {X : Nat → Prop} {w w' : World} {base : Nat} {e : TypeId} {size : Nat} {v : Value} {n : Nat} {xs : List Value} (h : w.ownsRow base e size v n xs) (hk : Keep X w w') (hx : ∀ k, v.ownBlock = some k → X k) : w'.ownsRow base e size v n xs := by
  refine ⟨h.1, ?_⟩
  rcases h.2 with hn | ⟨g, cap, cur, rfl, hb, hgg, rest⟩
  · exact .inl hn
  · exact .inr ⟨g, cap, cur, rfl, hb, hk.blk hgg (hx g rfl), rest⟩
theorem own_ge {w : World} {base : Nat} {e : TypeId} {size : Nat} {v : Value} {n : Nat} {xs : List Value} (h : w.ownsRow base e size v n xs) : ∀ k, v.ownBlock = some k → base ≤ k := fun k hk => (h.lt k hk).1
theorem own_mono {w : World} {base base' : Nat} {e : TypeId} {size : Nat} {v : Value} {n : Nat} {xs : List Value} (h : w.ownsRow base e size v n xs) (hb : base' ≤ base) : w.ownsRow base' e size v n xs := by
  refine ⟨h.1, ?_⟩
  rcases h.2 with hn | ⟨g, cap, cur, rfl, hbg, rest⟩
  · exact .inl hn
  · exact .inr ⟨g, cap, cur, rfl, Nat.le_trans hb hbg, rest⟩
theorem own_form {w : World} {base : Nat} {e : TypeId} {size : Nat} {v : Value} {n : Nat} {xs : List Value} (h : w.ownsRow base e size v n xs) : ∃ p cap, v = .slice p n cap := by
  rcases h.2 with ⟨rfl, rfl⟩ | ⟨g, cap, cur, rfl, _⟩
  · exact ⟨none, 0, rfl⟩
  · exact ⟨_, cap, rfl⟩

theorem grown_old {w w' : World} {row : Option Nat} (hg : w.grownBy w' row) {b : Nat} {o : Obj} (hb : w.heap[b]? = some o) (hne : row ≠ some b) : w'.heap[b]? = some o := by
  rw [hg.block b (blk_lt hb) (fun e => hne e.symm)]; exact hb
theorem own_not {w : World} {base : Nat} {e : TypeId} {size : Nat} {v : Value} {n : Nat} {xs : List Value} (h : w.ownsRow base e size v n xs) {b : Nat} (hb : w.heap.size ≤ b) : v.ownBlock ≠ some b := fun e => by have := (h.lt b e).2; omega

/-- A token's block. -/
def TokObj (k : Int) (x : ByteArray) (a l c : Int) : Obj := .cells #[.int .i64 k, .string x, .int .i64 a, .int .i64 l, .int .i64 c] 28 (0, 0)

theorem Tryd.infoTok : (Tryd.prog.info? 28).map (fun i => (i.zero, i.size, i.bytes)) = some (some (.agg #[.int .i64 0, .string ⟨#[]⟩, .int .i64 0, .int .i64 0, .int .i64 0]), 5, 48) := by kernel_rfl

theorem tok_cells (w : World) (nb : Nat) (t : Tok) (h : w.heap[nb]? = some (.cells #[.int .i64 t.kind, .string t.text, .int .i64 t.at_, .int .i64 t.line, .int .i64 t.col] 28 (0, 0))) :
    ∀ j u, t.cells[j]? = some u → w.cell? ((⟨nb, 0, none⟩ : Addr).add j) = some u := by
  intro j u hu
  have hadd : (⟨nb, 0, none⟩ : Addr).add j = ⟨nb, j, none⟩ := by unfold Addr.add; split <;> simp_all
  rw [hadd, blk_cell h j]
  simpa [Tok.cells] using hu

section
variable {ops : Array Oper} {rest : List Oper} {o : Oper} {a : Act} {w : World} {Q : Exit → Act → World → Prop}

theorem wpList_append_tok (hgd : o.guard = none) (s x : Operand) (ho : o.op = .call { callee := .builtin .append, args := #[s, x], argTypes := #[23, 23] })
    (B : Nat) (v : Value) (out : List Tok) (hs : a.eval s = v) (hown : w.ownsRow B 28 5 v out.length (Toks out)) (nb : Nat) (t : Tok) (hx : a.eval x = .slice (some ⟨nb, 0, none⟩) 1 1)
    (hb : w.heap[nb]? = some (.cells #[.int .i64 t.kind, .string t.text, .int .i64 t.at_, .int .i64 t.line, .int .i64 t.col] 28 (0, 0))) (hn : out.length < 200000) (hB : B ≤ w.heap.size)
    (h : ∀ v' w', w'.ownsRow B 28 5 v' (out ++ [t]).length (Toks (out ++ [t])) → w.grownBy w' v.ownBlock → wpList Tryd.prog ops Q rest (a.put o.dst v') w') : wpList Tryd.prog ops Q (o :: rest) a w := by
  obtain ⟨i0, hi, hz0, hz1, hz2⟩ := info_parts Tryd.infoTok
  refine wpList_append_own _ hgd s x 23 ho B 28 i0 _ 5 48 Tryd.underlying23 hi hz0 hz1 hz2 rfl (by decide) v out.length (Toks out) hs hown ⟨nb, 0, none⟩ 1 1 t.cells hx rfl (tok_cells w nb t hb) ?_ ?_ ?_ hB ?_
  · intro u hu; simp [Tok.cells] at hu; rcases hu with rfl | rfl | rfl | rfl | rfl <;> rfl
  · unfold maxLen; omega
  · omega
  · intro v' w' hown' hg _
    refine h v' w' ?_ hg
    rw [Toks_append, List.length_append]
    simpa [Toks] using hown'

theorem wp_append_tok {K : Act → World → Prop} (s x : Operand) (ho : o.op = .call { callee := .builtin .append, args := #[s, x], argTypes := #[23, 23] })
    (B : Nat) (v : Value) (out : List Tok) (hs : a.eval s = v) (hown : w.ownsRow B 28 5 v out.length (Toks out)) (nb : Nat) (t : Tok) (hx : a.eval x = .slice (some ⟨nb, 0, none⟩) 1 1)
    (hb : w.heap[nb]? = some (.cells #[.int .i64 t.kind, .string t.text, .int .i64 t.at_, .int .i64 t.line, .int .i64 t.col] 28 (0, 0))) (hn : out.length < 200000) (hB : B ≤ w.heap.size)
    (h : ∀ v' w', w'.ownsRow B 28 5 v' (out ++ [t]).length (Toks (out ++ [t])) → w.grownBy w' v.ownBlock → K (a.put o.dst v') w') : o.wp Tryd.prog a w K Q := by
  obtain ⟨i0, hi, hz0, hz1, hz2⟩ := info_parts Tryd.infoTok
  refine wp_append_own _ s x 23 ho B 28 i0 _ 5 48 Tryd.underlying23 hi hz0 hz1 hz2 rfl (by decide) v out.length (Toks out) hs hown ⟨nb, 0, none⟩ 1 1 t.cells hx rfl (tok_cells w nb t hb) ?_ ?_ ?_ hB ?_
  · intro u hu; simp [Tok.cells] at hu; rcases hu with rfl | rfl | rfl | rfl | rfl <;> rfl
  · unfold maxLen; omega
  · omega
  · intro v' w' hown' hg _
    refine h v' w' ?_ hg
    rw [Toks_append, List.length_append]
    simpa [Toks] using hown'
end
end Go.Proofs.YtglkdhodpgnlgaaDoor
