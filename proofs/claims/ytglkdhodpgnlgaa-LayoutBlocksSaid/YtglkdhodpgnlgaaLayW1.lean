/-
  Package layout's small methods: word, opens, now, push, pop, put, sign, fail, end, begin: each does to the placer what its plain function says. Condition: the placer lies in memory as 'Pl' says.
-/
import Derived.Test.YtglkdhodpgnlgaaLayP
import Derived.Deep.QuietTactic
import Derived.BigQuiet
import Derived.Deep.RegionLaw
import Derived.Deep.AppendLies
namespace Go.Proofs.Ytglkdhodpgnlgaa
open Go.RowKit Go.Tel

def tokObj (t : Tok) : Obj := .cells #[.int .i64 t.kind, .string t.text, .int .i64 t.at_, .int .i64 t.line, .int .i64 t.col] 27 (0, 0)

set_option maxRecDepth 100000 in
set_option maxHeartbeats 1000000 in
theorem lword_any (t : Tok) (l : List UInt8) (w : World) :
    Calls Try.prog 40 #[.agg #[.int .i64 t.kind, .string t.text, .int .i64 t.at_, .int .i64 t.line, .int .i64 t.col], .string ⟨l.toArray⟩] w fun e w' => e = .returned (.bool (isW t l)) ∧ w.alloc (tokObj t) = w' := by
  have HD : ∃ b, Hid (isW t l = b) := ⟨_, rfl⟩
  obtain ⟨b, HD⟩ := HD
  have HD' := HD
  rw [HD'.out]; clear HD'
  have HB : Hid (b = (t.kind == 2 && t.text.toList == l)) := HD.out.symm
  clear HD
  go_enter Try.func40, Try.ntmps40
  cases hk : t.kind == 2 with
  | true =>
    go_wp2
    go_ret
    refine ⟨?_, rfl⟩
    rw [HB.out, hk]; simp
  | false =>
    go_wp2
    go_ret
    refine ⟨?_, rfl⟩
    rw [HB.out, hk]; rfl

theorem opener_eq (t : Tok) : isOpener t = (isW t [119, 104, 101, 114, 101] || isW t [108, 101, 116] || isW t [112, 111, 115, 116, 117, 108, 97, 116, 101] || isW t [112, 114, 105, 118, 97, 116, 101]) := rfl

set_option maxRecDepth 100000 in
set_option maxHeartbeats 1000000 in
theorem lopens_any (t : Tok) (w : World) :
    Calls Try.prog 42 #[.agg #[.int .i64 t.kind, .string t.text, .int .i64 t.at_, .int .i64 t.line, .int .i64 t.col]] w fun e w' => e = .returned (.bool (isOpener t)) ∧ Keep (fun _ => True) w w' := by
  have HD : ∃ b, Hid (isOpener t = b) := ⟨_, rfl⟩
  obtain ⟨b, HD⟩ := HD
  have HD' := HD
  rw [HD'.out]; clear HD'
  have HB := Lib.hid (HD.out.symm.trans (opener_eq t))
  clear HD
  go_enter Try.func42, Try.ntmps42
  cases h1 : isW t [119, 104, 101, 114, 101] with
  | true =>
    go_wp2_with (go_at_call 40; refine (lword_any t _ _).mono ?_; rw [h1]; rintro e w1 ⟨rfl, rfl⟩)
    go_ret
    refine ⟨?_, ((Keep.refl _ _).alloc _).alloc _⟩
    rw [HB.out, h1]; rfl
  | false =>
    cases h2 : isW t [108, 101, 116] with
    | true =>
      go_wp2_with (go_at_call 40; refine (lword_any t _ _).mono ?_; (first | rw [h1] | rw [h2]); rintro e w1 ⟨rfl, rfl⟩)
      go_ret
      refine ⟨?_, (((Keep.refl _ _).alloc _).alloc _).alloc _⟩
      rw [HB.out, h1, h2]; rfl
    | false =>
      cases h3 : isW t [112, 111, 115, 116, 117, 108, 97, 116, 101] with
      | true =>
        go_wp2_with (go_at_call 40; refine (lword_any t _ _).mono ?_; (first | rw [h1] | rw [h2] | rw [h3]); rintro e w1 ⟨rfl, rfl⟩)
        go_ret
        refine ⟨?_, ((((Keep.refl _ _).alloc _).alloc _).alloc _).alloc _⟩
        rw [HB.out, h1, h2, h3]; rfl
      | false =>
        go_wp2_with (go_at_call 40; refine (lword_any t _ _).mono ?_; (first | rw [h1] | rw [h2] | rw [h3] | skip); rintro e w1 ⟨rfl, rfl⟩)
        go_ret
        refine ⟨?_, (((((Keep.refl _ _).alloc _).alloc _).alloc _).alloc _).alloc _⟩
        rw [HB.out, h1, h2, h3]; rfl

theorem now_get {inn : List Tok} {S : PS} (hat : S.at_ < inn.length) : inn[S.at_]? = some (S.now inn) := by
  unfold PS.now; rw [List.getD_eq_getElem?_getD, List.getElem?_eq_getElem hat]; rfl

set_option maxRecDepth 100000 in
set_option maxHeartbeats 1000000 in
theorem lnow_any {w : World} {bp bi ci : Nat} {X : Nat → Prop} {inn : List Tok} {S : PS} {vs vo : Value} (h : PlV w bp bi ci X inn S vs vo) (hat : S.at_ < inn.length) :
    Calls Try.prog 35 #[.pointer (some ⟨bp, 0, none⟩)] w fun e w' => e = .returned (.agg #[.int .i64 (S.now inn).kind, .string (S.now inn).text, .int .i64 (S.now inn).at_, .int .i64 (S.now inn).line, .int .i64 (S.now inn).col]) ∧ (w.alloc (tokObj (S.now inn))).drew = w' := by
  have hat' : (S.at_ : Int) < (inn.length : Int) := by omega
  have ht := now_get hat
  have htk := h.inn.tok ht
  have t0 := htk 0 (by omega); have t1 := htk 1 (by omega); have t2 := htk 2 (by omega); have t3 := htk 3 (by omega); have t4 := htk 4 (by omega)
  generalize S.now inn = t at *
  simp only [Tok.cells, Nat.add_zero] at t0 t1 t2 t3 t4
  have hc := blk_cell h.blk
  have hbp := blk_lt h.blk
  have hbi : bi < w.heap.size := (h.kept bi h.xbi).2.2.2
  have HH := Lib.hid h; clear h ht htk
  go_enter Try.func35, Try.ntmps35
  go_wp2
  go_region
  go_wp2
  exact bodyPost_ret (v := .agg #[.int .i64 t.kind, .string t.text, .int .i64 t.at_, .int .i64 t.line, .int .i64 t.col]) (by simp [results, Try.results35, go_sem]) rfl ⟨rfl, rfl⟩

/-- Appending one block to the stack. -/
theorem Try.infoBlk : (Try.prog.info? 53).map (fun i => (i.zero, i.size, i.bytes)) = some (some (.agg #[.bool false, .int .i64 0, .bool false, .int .i64 0]), 4, 32) := by kernel_rfl
def blkObj (b : Blk) : Obj := .cells #[.bool b.ex, .int .i64 b.col, .bool b.lt, .int .i64 b.br] 53 (0, 0)
theorem blk_cells (w : World) (nb : Nat) (b : Blk) (h : w.heap[nb]? = some (blkObj b)) : ∀ j u, b.cells[j]? = some u → w.cell? ((⟨nb, 0, none⟩ : Addr).add j) = some u := by
  intro j u hu
  have hadd : (⟨nb, 0, none⟩ : Addr).add j = ⟨nb, j, none⟩ := by unfold Addr.add; split <;> simp_all
  rw [hadd, blk_cell h j]
  simpa [Blk.cells] using hu

theorem step_append_blk {ops : Array Oper} {o : Oper} {a : Act} {w : World} {K : Act → World → Prop} {Q : Exit → Act → World → Prop} {E : Prop} (hgd : o.guard = none) (s x : Operand)
    (ho : o.op = .call { callee := .builtin .append, args := #[s, x], argTypes := #[46, 46] })
    (B : Nat) (v : Value) (l : List Blk) (hs : a.eval s = v) (hown : w.ownsRow B 53 4 v l.length (Blks l)) (nb : Nat) (b : Blk) (hx : a.eval x = .slice (some ⟨nb, 0, none⟩) 1 1)
    (hb : w.heap[nb]? = some (blkObj b)) (hn : l.length < 200000) (hB : B ≤ w.heap.size)
    (h : ∀ g cap w', w'.ownsRow B 53 4 (.slice (some ⟨g, 0, none⟩) (l.length + 1) cap) (l ++ [b]).length (Blks (l ++ [b])) → w.grownBy w' v.ownBlock → (v.ownBlock = some g ∨ g = w.heap.size) → K (a.put o.dst (.slice (some ⟨g, 0, none⟩) (l.length + 1) cap)) w') :
    if Region.wanted o (yielded ops a.tmps) = true then Oper.wp Try.prog o a w K Q else E := by
  obtain ⟨i0, hi, hz0, hz1, hz2⟩ := info_parts Try.infoBlk
  refine step_append_lies w hgd s x 46 ho B 53 i0 _ 4 32 Try.underlying46 hi hz0 hz1 hz2 rfl (by decide) v l.length (Blks l) hs hown ⟨nb, 0, none⟩ 1 1 b.cells hx rfl (blk_cells w nb b hb) ?_ (by decide) ?_ ?_ hB _ rfl ?_
  · intro u hu; simp [Blk.cells] at hu; rcases hu with rfl | rfl | rfl | rfl <;> rfl
  · unfold maxLen; omega
  · omega
  · intro g cap w' hown' hg hat _
    refine h g cap w' ?_ hg hat
    rw [Blks_append, List.length_append]
    simpa [Blks] using hown'

theorem step_append_tok {ops : Array Oper} {o : Oper} {a : Act} {w : World} {K : Act → World → Prop} {Q : Exit → Act → World → Prop} {E : Prop} (hgd : o.guard = none) (s x : Operand)
    (ho : o.op = .call { callee := .builtin .append, args := #[s, x], argTypes := #[23, 23] })
    (B : Nat) (v : Value) (l : List Tok) (hs : a.eval s = v) (hown : w.ownsRow B 27 5 v l.length (Toks l)) (nb : Nat) (t : Tok) (hx : a.eval x = .slice (some ⟨nb, 0, none⟩) 1 1)
    (hb : w.heap[nb]? = some (tokObj t)) (hn : l.length < 200000) (hB : B ≤ w.heap.size)
    (h : ∀ g cap w', w'.ownsRow B 27 5 (.slice (some ⟨g, 0, none⟩) (l.length + 1) cap) (l ++ [t]).length (Toks (l ++ [t])) → w.grownBy w' v.ownBlock → (v.ownBlock = some g ∨ g = w.heap.size) → K (a.put o.dst (.slice (some ⟨g, 0, none⟩) (l.length + 1) cap)) w') :
    if Region.wanted o (yielded ops a.tmps) = true then Oper.wp Try.prog o a w K Q else E := by
  obtain ⟨i0, hi, hz0, hz1, hz2⟩ := info_parts Try.infoTok
  refine step_append_lies w hgd s x 23 ho B 27 i0 _ 5 48 Try.underlying23 hi hz0 hz1 hz2 rfl (by decide) v l.length (Toks l) hs hown ⟨nb, 0, none⟩ 1 1 t.cells hx rfl (tok_cells w nb t hb) ?_ (by decide) ?_ ?_ hB _ rfl ?_
  · intro u hu; simp [Tok.cells] at hu; rcases hu with rfl | rfl | rfl | rfl | rfl <;> rfl
  · unfold maxLen; omega
  · omega
  · intro g cap w' hown' hg hat _
    refine h g cap w' ?_ hg hat
    rw [Toks_append, List.length_append]
    simpa [Toks] using hown'

section
variable {w w1 : World} {bp bi ci : Nat} {X : Nat → Prop} {inn : List Tok} {S : PS} {vs vo : Value}
theorem PlV.newStk (h : PlV w bp bi ci X inn S vs vo) (hg : w.grownBy w1 vs.ownBlock) {g n cap : Nat} {l : List Blk} (hown : w1.ownsRow (bp + 1) 53 4 (.slice (some ⟨g, 0, none⟩) n cap) l.length (Blks l)) (hat : vs.ownBlock = some g ∨ g = w.heap.size) :
    PlV (w1.setCell ⟨bp, 0, none⟩ (.slice (some ⟨g, 0, none⟩) n cap)) bp bi ci X inn { S with stk := l } (.slice (some ⟨g, 0, none⟩) n cap) vo ∧ Keep X w (w1.setCell ⟨bp, 0, none⟩ (.slice (some ⟨g, 0, none⟩) n cap)) := by
  have hbp : vs.ownBlock ≠ some bp := fun e => by have := own_ge h.stk bp e; omega
  have hb1 := grown_old hg h.blk hbp
  have hk1 : Keep (fun k => k ≠ bp) w1 (w1.setCell ⟨bp, 0, none⟩ (.slice (some ⟨g, 0, none⟩) n cap)) := Keep.own (Keep.refl _ _) _ _
  have hk0 : Keep (fun k => vs.ownBlock ≠ some k) w w1 := (Keep.refl _ _).grown hg (fun k hk => Or.inr (fun h => h hk))
  have hk2 : Keep (fun k => vs.ownBlock ≠ some k ∧ k ≠ bp) w (w1.setCell ⟨bp, 0, none⟩ (.slice (some ⟨g, 0, none⟩) n cap)) := (hk0.mono (fun _ _ hk => hk.1)).trans (hk1.mono (fun _ _ hk => hk.2))
  refine ⟨⟨blk_set hb1 0 _, own_keep hown hk1 (fun k e => by have := own_ge hown k e; omega), own_keep h.out hk2 (fun k e => ⟨fun e2 => h.two k e2 e, by have := own_ge h.out k e; omega⟩), ?_, ?_, h.xbi, h.inn.keep hk2 ⟨(h.kept bi h.xbi).2.1, (h.kept bi h.xbi).1⟩⟩, hk2.mono (fun k _ hx => ⟨(h.kept k hx).2.1, (h.kept k hx).1⟩)⟩
  · intro k hk
    simp only [Value.ownBlock, Option.some.injEq] at hk; subst hk
    rcases hat with hat | hat
    · exact h.two _ hat
    · rw [hat]; exact own_not h.out (Nat.le_refl _)
  · intro k hx
    refine ⟨(h.kept k hx).1, ?_, (h.kept k hx).2.2.1, Nat.lt_of_lt_of_le (h.kept k hx).2.2.2 hk2.size⟩
    intro e
    simp only [Value.ownBlock, Option.some.injEq] at e; subst e
    rcases hat with hat | hat
    · exact (h.kept _ hx).2.1 hat
    · have := (h.kept _ hx).2.2.2; omega
theorem PlV.newOut (h : PlV w bp bi ci X inn S vs vo) (hg : w.grownBy w1 vo.ownBlock) {g n cap : Nat} {l : List Tok} (hown : w1.ownsRow (bp + 1) 27 5 (.slice (some ⟨g, 0, none⟩) n cap) l.length (Toks l)) (hat : vo.ownBlock = some g ∨ g = w.heap.size) :
    PlV (w1.setCell ⟨bp, 3, none⟩ (.slice (some ⟨g, 0, none⟩) n cap)) bp bi ci X inn { S with out := l } vs (.slice (some ⟨g, 0, none⟩) n cap) ∧ Keep X w (w1.setCell ⟨bp, 3, none⟩ (.slice (some ⟨g, 0, none⟩) n cap)) := by
  have hbp : vo.ownBlock ≠ some bp := fun e => by have := own_ge h.out bp e; omega
  have hb1 := grown_old hg h.blk hbp
  have hk1 : Keep (fun k => k ≠ bp) w1 (w1.setCell ⟨bp, 3, none⟩ (.slice (some ⟨g, 0, none⟩) n cap)) := Keep.own (Keep.refl _ _) _ _
  have hk0 : Keep (fun k => vo.ownBlock ≠ some k) w w1 := (Keep.refl _ _).grown hg (fun k hk => Or.inr (fun h => h hk))
  have hk2 : Keep (fun k => vo.ownBlock ≠ some k ∧ k ≠ bp) w (w1.setCell ⟨bp, 3, none⟩ (.slice (some ⟨g, 0, none⟩) n cap)) := (hk0.mono (fun _ _ hk => hk.1)).trans (hk1.mono (fun _ _ hk => hk.2))
  refine ⟨⟨blk_set hb1 3 _, own_keep h.stk hk2 (fun k e => ⟨h.two k e, by have := own_ge h.stk k e; omega⟩), own_keep hown hk1 (fun k e => by have := own_ge hown k e; omega), ?_, ?_, h.xbi, h.inn.keep hk2 ⟨(h.kept bi h.xbi).2.2.1, (h.kept bi h.xbi).1⟩⟩, hk2.mono (fun k _ hx => ⟨(h.kept k hx).2.2.1, (h.kept k hx).1⟩)⟩
  · intro k hk e
    simp only [Value.ownBlock, Option.some.injEq] at e; subst e
    rcases hat with hat | hat
    · exact h.two _ hk hat
    · rw [hat] at hk; exact own_not h.stk (Nat.le_refl _) hk
  · intro k hx
    refine ⟨(h.kept k hx).1, (h.kept k hx).2.1, ?_, Nat.lt_of_lt_of_le (h.kept k hx).2.2.2 hk2.size⟩
    intro e
    simp only [Value.ownBlock, Option.some.injEq] at e; subst e
    rcases hat with hat | hat
    · exact (h.kept _ hx).2.2.1 hat
    · have := (h.kept _ hx).2.2.2; omega
end

set_option maxRecDepth 100000 in
set_option maxHeartbeats 1000000 in
theorem lpush_any {w : World} {bp bi ci : Nat} {X : Nat → Prop} {inn : List Tok} {S : PS} {vs vo : Value} (h : PlV w bp bi ci X inn S vs vo) (b : Blk) (hn : S.stk.length < 60) :
    Calls Try.prog 28 #[.pointer (some ⟨bp, 0, none⟩), .agg #[.bool b.ex, .int .i64 b.col, .bool b.lt, .int .i64 b.br]] w (PlPost bp bi ci X inn (.tuple #[]) { S with stk := S.stk ++ [b] } w) := by
  obtain ⟨p, c, hv⟩ := own_form h.stk
  subst hv
  have hc := blk_cell h.blk
  have hf := blk_free h.blk
  have hbp := blk_lt h.blk
  have HW := Lib.hid ((h.alloc (blkObj b)).alloc (blkObj b)).drew
  have HO1 := Lib.hid HW.out.stk
  have HO2 := Lib.hid (blk_new1 w (blkObj b) (blkObj b))
  have HO3 : Hid (S.stk.length < 200000) := by show _ < _; omega
  have HO4 : Hid (bp + 1 ≤ ((w.alloc (blkObj b)).alloc (blkObj b)).drew.heap.size) := Nat.succ_le_of_lt (blk_lt HW.out.blk)
  have HO5 : Hid ((Value.slice p S.stk.length c).ownBlock ≠ some bp) := fun e => by have := own_ge h.stk bp e; omega
  clear h
  go_enter Try.func28, Try.ntmps28
  go_wp2
  go_region_law (refine step_append_blk rfl _ _ rfl (bp + 1) _ S.stk rfl HO1.out (w.heap.size + 1) b rfl HO2.out HO3.out HO4.out ?_; intro g cap w1 hown hg hat; have HP := Lib.hid (HW.out.newStk hg hown hat); have hB1 := blk_cell (grown_old hg HW.out.blk HO5.out); have hF1 := blk_free (grown_old hg HW.out.blk HO5.out); clear hown hg hat)
  all_goals
    go_end0
    exact pl_close ⟨_, _, HP.out.1⟩ ((((Keep.refl _ _).alloc _).alloc _).drew.trans HP.out.2)

theorem own_pop {w : World} {base : Nat} {l : List Blk} {g cap : Nat} (h : w.ownsRow base 53 4 (.slice (some ⟨g, 0, none⟩) l.length cap) l.length (Blks l)) :
    w.ownsRow base 53 4 (.slice (some ⟨g, 0, none⟩) (l.length - 1) cap) l.dropLast.length (Blks l.dropLast) := by
  rcases h.2 with ⟨h0, _⟩ | ⟨g', cap', cur, hv, hb, hg, hn, hm, hs, ht⟩
  · cases h0
  · cases hv
    refine ⟨Blks_length _, .inr ⟨g, cap, cur, by rw [List.length_dropLast], hb, hg, by rw [List.length_dropLast]; omega, hm, hs, ?_⟩⟩
    rcases List.eq_nil_or_concat l with rfl | ⟨m, b, rfl⟩
    · simp [Blks]
    · rw [List.concat_eq_append] at ht ⊢
      rw [List.dropLast_concat]
      have e : (m ++ [b]).length = m.length + 1 := by simp
      rw [e, Blks_append] at ht
      have hl := Blks_length m
      have : cur.toList.take (m.length * 4) = (cur.toList.take ((m.length + 1) * 4)).take (m.length * 4) := by rw [List.take_take]; congr 1; omega
      rw [this, ht, ← hl, List.take_left]

theorem PlV.popped {w : World} {bp bi ci g c : Nat} {X : Nat → Prop} {inn : List Tok} {S : PS} {vo : Value} (h : PlV w bp bi ci X inn S (.slice (some ⟨g, 0, none⟩) S.stk.length c) vo) :
    PlV (w.setCell ⟨bp, 0, none⟩ (.slice (some ⟨g, 0, none⟩) (S.stk.length - 1) c)) bp bi ci X inn { S with stk := S.stk.dropLast } (.slice (some ⟨g, 0, none⟩) (S.stk.length - 1) c) vo := by
  have hk : Keep (fun k => k ≠ bp) w (w.setCell ⟨bp, 0, none⟩ (.slice (some ⟨g, 0, none⟩) (S.stk.length - 1) c)) := Keep.own (Keep.refl _ _) _ _
  exact ⟨blk_set h.blk 0 _, own_keep (own_pop h.stk) hk (fun k e => by have := own_ge h.stk k e; omega), own_keep h.out hk (fun k e => by have := own_ge h.out k e; omega), h.two,
    fun k hx => ⟨(h.kept k hx).1, (h.kept k hx).2.1, (h.kept k hx).2.2.1, Nat.lt_of_lt_of_le (h.kept k hx).2.2.2 hk.size⟩, h.xbi, h.inn.keep hk (h.kept bi h.xbi).1⟩

set_option maxRecDepth 100000 in
set_option maxHeartbeats 1000000 in
theorem lpop_any {w : World} {bp bi ci : Nat} {X : Nat → Prop} {inn : List Tok} {S : PS} {vs vo : Value} (h : PlV w bp bi ci X inn S vs vo) (hn : 0 < S.stk.length) :
    Calls Try.prog 41 #[.pointer (some ⟨bp, 0, none⟩)] w (PlPost bp bi ci X inn (.tuple #[]) { S with stk := S.stk.dropLast } w) := by
  have hv : ∃ g c, vs = .slice (some ⟨g, 0, none⟩) S.stk.length c := by
    rcases h.stk.2 with ⟨_, h0⟩ | ⟨g, c, cur, hv, _⟩
    · omega
    · exact ⟨g, c, hv⟩
  obtain ⟨g, c, hv⟩ := hv
  subst hv
  have hcap : S.stk.length ≤ c := by
    rcases h.stk.2 with ⟨h0, _⟩ | ⟨g', c', cur, hv, _, _, hnc, _⟩
    · cases h0
    · cases hv; exact hnc
  have hcap' : (S.stk.length : Int) ≤ (c : Int) := by omega
  have hn' : (0 : Int) < (S.stk.length : Int) := by omega
  have hmx : (c : Int) ≤ 9223372036854775807 := by
    rcases h.stk.2 with ⟨h0, _⟩ | ⟨g', c', cur, hv, _, _, _, hm, _⟩
    · cases h0
    · cases hv; unfold maxLen at hm; omega
  have hc := blk_cell h.blk
  have hf := blk_free h.blk
  have hbp := blk_lt h.blk
  have HH := Lib.hid h; clear h
  go_enter Try.func41, Try.ntmps41
  go_region
  all_goals
    go_end0
    exact pl_close ⟨_, _, HH.out.popped.drew⟩ ((HH.out.keepSet w (Keep.refl _ _) 0 _).drew)
end Go.Proofs.Ytglkdhodpgnlgaa
