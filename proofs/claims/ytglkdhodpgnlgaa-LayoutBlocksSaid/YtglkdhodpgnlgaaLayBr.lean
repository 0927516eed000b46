/-
  Package layout's brace: the rule of braces and semicolons. Condition: the placer lies in memory as 'Pl' says, a token is looked at.
-/
import Derived.Test.YtglkdhodpgnlgaaLayLast
namespace Go.Proofs.Ytglkdhodpgnlgaa
open Go.RowKit Go.Tel

theorem blks_set (m : List Blk) (b : Blk) (n : Int) : (Blks (m ++ [b])).set (((m ++ [b]).length - 1) * 4 + 3) (.int .i64 n) = Blks (m ++ [{ b with br := n }]) := by
  rw [Blks_append, Blks_append, List.set_append_right _ _ (by rw [Blks_length]; simp)]
  congr 1
  rw [Blks_length]
  have : ((m ++ [b]).length - 1) * 4 + 3 - m.length * 4 = 3 := by simp
  rw [this]; rfl

theorem setBr_row {cur : Array Value} {l : List Blk} {b : Blk} (hb : l.getLast? = some b) (n : Int) (ht : cur.toList.take (l.length * 4) = Blks l) :
    (cur.setIfInBounds ((l.length - 1) * 4 + 3) (.int .i64 n)).toList.take (l.length * 4) = Blks (l.dropLast ++ [{ b with br := n }]) := by
  obtain ⟨m, rfl⟩ : ∃ m, l = m ++ [b] := by
    rcases List.eq_nil_or_concat l with rfl | ⟨m, b', rfl⟩
    · simp at hb
    · rw [List.concat_eq_append] at hb ⊢
      rw [List.getLast?_append] at hb; simp at hb; exact ⟨m, by rw [hb]⟩
  rw [Array.toList_setIfInBounds, List.take_set, ht, List.dropLast_concat, blks_set]

/-- A block's braces are written in place. -/
theorem PlV.setBrace {w : World} {bp bi ci g c : Nat} {X : Nat → Prop} {inn : List Tok} {S : PS} {vo : Value} (h : PlV w bp bi ci X inn S (.slice (some ⟨g, 0, none⟩) S.stk.length c) vo) (hn : 0 < S.stk.length) (n : Int) :
    PlV (w.setCell ⟨g, (S.stk.length - 1) * 4 + 3, none⟩ (.int .i64 n)) bp bi ci X inn (S.setBr n) (.slice (some ⟨g, 0, none⟩) S.stk.length c) vo ∧ Keep X w (w.setCell ⟨g, (S.stk.length - 1) * 4 + 3, none⟩ (.int .i64 n)) := by
  have hk : Keep (fun k => k ≠ g) w (w.setCell ⟨g, (S.stk.length - 1) * 4 + 3, none⟩ (.int .i64 n)) := Keep.own (Keep.refl _ _) _ _
  obtain ⟨b, hb1, hb2⟩ := getLast_at hn
  have hS : S.setBr n = { S with stk := S.stk.dropLast ++ [{ b with br := n }] } := by unfold PS.setBr; rw [hb1]
  have hlen : (S.stk.dropLast ++ [{ b with br := n }]).length = S.stk.length := by simp; omega
  have hbpg : bp < g := (h.row hb2).2.2.2
  have hxg : ∀ k, X k → k ≠ g := fun k hx e => (h.kept k hx).2.1 (by rw [e]; rfl)
  have hvog : vo.ownBlock ≠ some g := h.two g rfl
  rw [hS]
  refine ⟨⟨hk.blk h.blk (by omega), ?_, own_keep h.out hk (fun k e e2 => hvog (by rw [e, e2])), h.two, fun k hx => ⟨(h.kept k hx).1, (h.kept k hx).2.1, (h.kept k hx).2.2.1, Nat.lt_of_lt_of_le (h.kept k hx).2.2.2 hk.size⟩, h.xbi, h.inn.keep hk (hxg bi h.xbi)⟩, hk.mono (fun k _ hx => hxg k hx)⟩
  rcases h.stk.2 with ⟨h0, _⟩ | ⟨g', cap', cur, hv, hbg, hg, hnc, hm, hs, ht⟩
  · cases h0
  · cases hv
    refine ⟨by rw [Blks_length], .inr ⟨g, c, _, by rw [hlen], hbg, blk_set hg _ _, by rw [hlen]; exact hnc, hm, by rw [Array.size_setIfInBounds]; exact hs, ?_⟩⟩
    rw [hlen]
    exact setBr_row hb1 n ht

theorem Keep.setX {X : Nat → Prop} {a w : World} (h : Keep X a w) {b : Nat} (hx : ¬ X b) (i : Nat) (v : Value) : Keep X a (w.setCell ⟨b, i, none⟩ v) := h.set _ (Or.inr hx) v

theorem ltop_pl {w : World} {bp bi ci g c : Nat} {X : Nat → Prop} {inn : List Tok} {S : PS} {vo : Value} (h : PlV w bp bi ci X inn S (.slice (some ⟨g, 0, none⟩) S.stk.length c) vo) (hn : 0 < S.stk.length) :
    Calls Try.prog 37 #[.pointer (some ⟨bp, 0, none⟩)] w fun e w' => e = .returned (.pointer (some ⟨g, (S.stk.length - 1) * 4, none⟩)) ∧ PlV w' bp bi ci X inn S (.slice (some ⟨g, 0, none⟩) S.stk.length c) vo ∧ Keep (fun _ => True) w w' :=
  (ltop_any h hn).mono fun e w' ⟨he, m, hm⟩ => ⟨he, by rw [hm]; exact h.drewN m, by rw [hm]; exact (Keep.refl _ _).drewN m⟩
theorem ltop_pln {w : World} {bp bi ci : Nat} {X : Nat → Prop} {inn : List Tok} {S : PS} {vs vo : Value} (h : PlV w bp bi ci X inn S vs vo) (hn : S.stk = []) :
    Calls Try.prog 37 #[.pointer (some ⟨bp, 0, none⟩)] w fun e w' => e = .returned (.pointer none) ∧ PlV w' bp bi ci X inn S vs vo ∧ Keep (fun _ => True) w w' :=
  (ltop_nil h hn).mono fun e w' ⟨he, hm⟩ => ⟨he, by rw [← hm]; exact h, by rw [← hm]; exact Keep.refl _ _⟩

/-- A token put by in a block of its own, ahead of the walk. -/
theorem PlV.local_ {w : World} {bp bi ci : Nat} {X : Nat → Prop} {inn : List Tok} {S : PS} {vs vo : Value} (h : PlV w bp bi ci X inn S vs vo) (o1 o2 : Obj) :
    PlV ((w.alloc o1).alloc o2).drew bp bi ci (And1 X (w.heap.size + 1)) inn S vs vo := by
  have := ((h.alloc o1).guard o2).drew; rw [size_alloc'] at this; exact this

section
variable {w : World} {bp bi ci : Nat} {X : Nat → Prop} {inn : List Tok} {S : PS}

/-- The branch of the semicolon. -/
theorem brace_semi_eq (hw : isW (S.now inn) [59] = true) : PS.brace inn S = PS.sign 6 (S.now inn) (S.now inn).text { S with done := true } := by unfold PS.brace; rw [if_pos hw]
/-- Where no explicit block is innermost nothing is done. -/
theorem brace_none_eq (hw : isW (S.now inn) [59] = false) (h : ∀ b, S.stk.getLast? = some b → b.ex = false) : PS.brace inn S = (true, S) := by
  unfold PS.brace; rw [hw, if_neg (by simp)]
  split
  · rfl
  · rename_i b hb; rw [h b hb]; simp
theorem brace_ex_eq (hw : isW (S.now inn) [59] = false) {b : Blk} (hb : S.stk.getLast? = some b) (hx : b.ex = true) : PS.brace inn S =
    if isW (S.now inn) [123] = true then (true, S.setBr (wrap64 (b.br + 1))) else if isW (S.now inn) [125] = true then
      (if wrap64 (b.br - 1) < 0 then PS.sign 5 (S.now inn) (S.now inn).text { S with done := true, stk := S.stk.dropLast } else (true, S.setBr (wrap64 (b.br - 1)))) else (true, S) := by
  unfold PS.brace; rw [hw, if_neg (by simp), hb]; simp [hx]

set_option maxRecDepth 100000 in
set_option maxHeartbeats 2000000 in
theorem lbrace_semi (h : Pl w bp bi ci X inn S) (hat : S.at_ < inn.length) (hw : isW (S.now inn) [59] = true) :
    Calls Try.prog 33 #[.pointer (some ⟨bp, 0, none⟩)] w (PlPost bp bi ci X inn (.bool (PS.brace inn S).1) (PS.brace inn S).2 w) := by
  rw [brace_semi_eq hw]
  obtain ⟨vs, vo, h⟩ := h
  have HX := Lib.hid h.xbi
  have HC := Lib.hid (lnow_any h hat)
  have hc := blk_cell h.blk
  have hbp := blk_lt h.blk
  have HXb : Hid (¬ And1 X (w.heap.size + 1) bp) := fun hx => by
    rcases hx with hx | hx
    · exact (h.kept bp hx).1 rfl
    · omega
  have hbn1 : ¬ bp = w.heap.size + 1 := by omega
  have hbn2 : ¬ w.heap.size + 1 = bp := by omega
  have hA := h.local_ (tokObj (S.now inn)) (tokObj (S.now inn))
  have HKA := Lib.hid (((Keep.refl X w).alloc (tokObj (S.now inn))).alloc (tokObj (S.now inn))).drew
  have HBt := Lib.hid (blk_new1 w (tokObj (S.now inn)) (tokObj (S.now inn)))
  have HWd := Lib.hid (fun w => lword_any (S.now inn) [59] w)
  rw [hw] at HWd
  have HS := Lib.hid (fun w1 (h1 : Pl w1 bp bi ci (And1 X (w.heap.size + 1)) inn { S with done := true }) => lsign_any h1 (S.now inn) 6 (S.now inn).text)
  generalize PS.sign 6 (S.now inn) (S.now inn).text { S with done := true } = r at *
  by_cases hz : S.stk.length = 0
  · have hnil : S.stk = [] := List.eq_nil_of_length_eq_zero hz
    have HT := Lib.hid (ltop_pln hA hnil)
    generalize S.now inn = t at *
    clear h hat hw hz hnil hA
    go_enter Try.func33, Try.ntmps33
    go_wp2_with (first
      | (go_at_call 35; go_must (refine HC.out.mono ?_; rintro e w1 ⟨rfl, rfl⟩))
      | (go_at_call 37; go_must (refine HT.out.mono ?_; rintro e w2 ⟨rfl, hP2, hK2⟩; have HP2 := Lib.hid hP2; have HKT := Lib.hid hK2; have hc2 := blk_cell hP2.blk; have hf2 := blk_free hP2.blk; have hbp2 := blk_lt hP2.blk; have hB2 := blk_cell (hK2.blk HBt.out trivial); have hBl2 := blk_lt (hK2.blk HBt.out trivial); clear hP2 hK2))
      | (go_at_call 40; go_must (refine (HWd.out _).mono ?_; rintro e w1 ⟨rfl, rfl⟩))
      | (go_at_call 29; go_must (refine (HS.out _ (Pl.of ((HP2.out.setDone true).alloc _))).mono ?_; rintro e w3 ⟨rfl, hp, hk⟩; have HP3 := Lib.hid hp; have HK3 := Lib.hid hk; clear hp hk)))
    go_ret
    exact pl_close (HP3.out.back HX.out) (Keep.trans ((Keep.setX (HKA.out.trans (HKT.out.mono (fun _ _ _ => trivial))) (fun hx => HXb.out (Or.inl hx)) 7 _).alloc _) (And1.keep HK3.out))
  · have hpos : 0 < S.stk.length := by omega
    obtain ⟨g, c, hv⟩ := h.form hpos
    subst hv
    obtain ⟨b, hb1, hb2⟩ := getLast_at hpos
    have HT := Lib.hid (ltop_pl hA hpos)
    have HB2 := Lib.hid hb2
    generalize S.now inn = t at *
    clear h hat hw hz hpos hA hb1 hb2
    cases hex : b.ex
    all_goals
      go_enter Try.func33, Try.ntmps33
      go_wp2_with (first
        | (go_at_call 35; go_must (refine HC.out.mono ?_; rintro e w1 ⟨rfl, rfl⟩))
        | (go_at_call 37; go_must (refine HT.out.mono ?_; rintro e w2 ⟨rfl, hP2, hK2⟩; have HP2 := Lib.hid hP2; have HKT := Lib.hid hK2; have hc2 := blk_cell hP2.blk; have hf2 := blk_free hP2.blk; have hbp2 := blk_lt hP2.blk; have hB2 := blk_cell (hK2.blk HBt.out trivial); have hBl2 := blk_lt (hK2.blk HBt.out trivial); have hr := HP2.out.row HB2.out; have b0 := hr.1 0 (by decide); have b3 := hr.1 3 (by decide); have hgf := hr.2.1; have hgl := hr.2.2.1; simp only [Blk.cells, Nat.add_zero] at b0 b3; clear hr; rw [hex] at b0; clear hP2 hK2))
        | (go_at_call 40; go_must (refine (HWd.out _).mono ?_; rintro e w1 ⟨rfl, rfl⟩))
        | (go_at_call 29; go_must (refine (HS.out _ (Pl.of ((HP2.out.setDone true).alloc _))).mono ?_; rintro e w3 ⟨rfl, hp, hk⟩; have HP3 := Lib.hid hp; have HK3 := Lib.hid hk; clear hp hk)))
      go_ret
      exact pl_close (HP3.out.back HX.out) (Keep.trans ((Keep.setX (HKA.out.trans (HKT.out.mono (fun _ _ _ => trivial))) (fun hx => HXb.out (Or.inl hx)) 7 _).alloc _) (And1.keep HK3.out))

set_option maxRecDepth 100000 in
set_option maxHeartbeats 2000000 in
theorem lbrace_none (h : Pl w bp bi ci X inn S) (hat : S.at_ < inn.length) (hw : isW (S.now inn) [59] = false) (hno : ∀ b, S.stk.getLast? = some b → b.ex = false) :
    Calls Try.prog 33 #[.pointer (some ⟨bp, 0, none⟩)] w (PlPost bp bi ci X inn (.bool (PS.brace inn S).1) (PS.brace inn S).2 w) := by
  rw [brace_none_eq hw hno]
  obtain ⟨vs, vo, h⟩ := h
  have HX := Lib.hid h.xbi
  have HC := Lib.hid (lnow_any h hat)
  have hc := blk_cell h.blk
  have hbp := blk_lt h.blk
  have HXb : Hid (¬ And1 X (w.heap.size + 1) bp) := fun hx => by
    rcases hx with hx | hx
    · exact (h.kept bp hx).1 rfl
    · omega
  have hbn1 : ¬ bp = w.heap.size + 1 := by omega
  have hbn2 : ¬ w.heap.size + 1 = bp := by omega
  have hA := h.local_ (tokObj (S.now inn)) (tokObj (S.now inn))
  have HKA := Lib.hid (((Keep.refl X w).alloc (tokObj (S.now inn))).alloc (tokObj (S.now inn))).drew
  have HBt := Lib.hid (blk_new1 w (tokObj (S.now inn)) (tokObj (S.now inn)))
  have HWd := Lib.hid (fun w => lword_any (S.now inn) [59] w)
  rw [hw] at HWd
  by_cases hz : S.stk.length = 0
  · have hnil : S.stk = [] := List.eq_nil_of_length_eq_zero hz
    have HT := Lib.hid (ltop_pln hA hnil)
    generalize S.now inn = t at *
    clear h hat hw hz hnil hA hno
    go_enter Try.func33, Try.ntmps33
    go_wp2_with (first
      | (go_at_call 35; go_must (refine HC.out.mono ?_; rintro e w1 ⟨rfl, rfl⟩))
      | (go_at_call 37; go_must (refine HT.out.mono ?_; rintro e w2 ⟨rfl, hP2, hK2⟩; have HP2 := Lib.hid hP2; have HKT := Lib.hid hK2; have hc2 := blk_cell hP2.blk; have hf2 := blk_free hP2.blk; have hbp2 := blk_lt hP2.blk; have hB2 := blk_cell (hK2.blk HBt.out trivial); have hBl2 := blk_lt (hK2.blk HBt.out trivial); clear hP2 hK2))
      | (go_at_call 40; go_must (refine (HWd.out _).mono ?_; rintro e w1 ⟨rfl, rfl⟩)))
    go_ret
    exact pl_close ((Pl.of (HP2.out.alloc _)).back HX.out) ((HKA.out.trans (HKT.out.mono (fun _ _ _ => trivial))).alloc _)
  · have hpos : 0 < S.stk.length := by omega
    obtain ⟨g, c, hv⟩ := h.form hpos
    subst hv
    obtain ⟨b, hb1, hb2⟩ := getLast_at hpos
    have HT := Lib.hid (ltop_pl hA hpos)
    have HB2 := Lib.hid hb2
    have hex := hno b hb1
    generalize S.now inn = t at *
    clear h hat hw hz hpos hA hb1 hb2 hno
    go_enter Try.func33, Try.ntmps33
    go_wp2_with (first
      | (go_at_call 35; go_must (refine HC.out.mono ?_; rintro e w1 ⟨rfl, rfl⟩))
      | (go_at_call 37; go_must (refine HT.out.mono ?_; rintro e w2 ⟨rfl, hP2, hK2⟩; have HP2 := Lib.hid hP2; have HKT := Lib.hid hK2; have hc2 := blk_cell hP2.blk; have hf2 := blk_free hP2.blk; have hbp2 := blk_lt hP2.blk; have hB2 := blk_cell (hK2.blk HBt.out trivial); have hBl2 := blk_lt (hK2.blk HBt.out trivial); have hr := HP2.out.row HB2.out; have b0 := hr.1 0 (by decide); have b3 := hr.1 3 (by decide); have hgf := hr.2.1; have hgl := hr.2.2.1; simp only [Blk.cells, Nat.add_zero] at b0 b3; clear hr; rw [hex] at b0; clear hP2 hK2))
      | (go_at_call 40; go_must (refine (HWd.out _).mono ?_; rintro e w1 ⟨rfl, rfl⟩)))
    go_ret
    exact pl_close ((Pl.of (HP2.out.alloc _)).back HX.out) ((HKA.out.trans (HKT.out.mono (fun _ _ _ => trivial))).alloc _)
end
end Go.Proofs.Ytglkdhodpgnlgaa
