/-
  Package layout's brace where an explicit block is innermost: the sorts of brace. Condition: as in 'LayBr'.
-/
import Derived.Test.YtglkdhodpgnlgaaLayBr
namespace Go.Proofs.Ytglkdhodpgnlgaa
open Go.RowKit Go.Tel

section
variable {w : World} {bp bi ci : Nat} {X : Nat → Prop} {inn : List Tok} {S : PS}

set_option maxRecDepth 100000 in
set_option maxHeartbeats 2000000 in
theorem lbrace_open (h : Pl w bp bi ci X inn S) (hat : S.at_ < inn.length) (hw : isW (S.now inn) [59] = false) {b : Blk} (hb1 : S.stk.getLast? = some b) (hex : b.ex = true) (hw1 : isW (S.now inn) [123] = true) :
    Calls Try.prog 33 #[.pointer (some ⟨bp, 0, none⟩)] w (PlPost bp bi ci X inn (.bool (PS.brace inn S).1) (PS.brace inn S).2 w) := by
  rw [brace_ex_eq hw hb1 hex, if_pos hw1]
  obtain ⟨vs, vo, h⟩ := h
  have HX := Lib.hid h.xbi
  have HC := Lib.hid (lnow_any h hat)
  have hc := blk_cell h.blk
  have hbp := blk_lt h.blk
  have hbn1 : ¬ bp = w.heap.size + 1 := by omega
  have hbn2 : ¬ w.heap.size + 1 = bp := by omega
  have hA := h.local_ (tokObj (S.now inn)) (tokObj (S.now inn))
  have HKA := Lib.hid (((Keep.refl X w).alloc (tokObj (S.now inn))).alloc (tokObj (S.now inn))).drew
  have HBt := Lib.hid (blk_new1 w (tokObj (S.now inn)) (tokObj (S.now inn)))
  have HWd := Lib.hid (fun w => lword_any (S.now inn) [59] w)
  have HW1 := Lib.hid (fun w => lword_any (S.now inn) [123] w)
  rw [hw] at HWd
  rw [hw1] at HW1
  have hpos : 0 < S.stk.length := by
    rcases Nat.eq_zero_or_pos S.stk.length with hz | hz
    · rw [List.eq_nil_of_length_eq_zero hz] at hb1; cases hb1
    · exact hz
  obtain ⟨g, c, hv⟩ := h.form hpos
  subst hv
  obtain ⟨b', hb1', hb2⟩ := getLast_at hpos
  obtain rfl : b' = b := by rw [hb1] at hb1'; exact (Option.some.inj hb1').symm
  have HT := Lib.hid (ltop_pl hA hpos)
  have HB2 := Lib.hid hb2
  have HN := Lib.hid hpos
  generalize S.now inn = t at *
  clear h hat hw hw1 hpos hA hb1 hb1' hb2
  go_enter Try.func33, Try.ntmps33
  go_wp2_with (first
    | (go_at_call 35; go_must (refine HC.out.mono ?_; rintro e w1 ⟨rfl, rfl⟩))
    | (go_at_call 37; go_must (refine HT.out.mono ?_; rintro e w2 ⟨rfl, hP2, hK2⟩; have HP2 := Lib.hid hP2; have HKT := Lib.hid hK2; have hc2 := blk_cell hP2.blk; have hf2 := blk_free hP2.blk; have hbp2 := blk_lt hP2.blk; have hB2 := blk_cell (hK2.blk HBt.out trivial); have hBl2 := blk_lt (hK2.blk HBt.out trivial); have hr := HP2.out.row HB2.out; have b0 := hr.1 0 (by decide); have b3 := hr.1 3 (by decide); have hgf := hr.2.1; have hgl := hr.2.2.1; have hBl3 : w.heap.size + 1 < w2.heap.size + 1 := Nat.lt_succ_of_lt hBl2; have hBl4 : w.heap.size + 1 < w2.heap.size + 1 + 1 := Nat.lt_succ_of_lt hBl3; have hBl5 : w.heap.size + 1 < w2.heap.size + 1 + 1 + 1 := Nat.lt_succ_of_lt hBl4; have hbp3 : bp < w2.heap.size + 1 := Nat.lt_succ_of_lt hbp2; have hbp4 : bp < w2.heap.size + 1 + 1 := Nat.lt_succ_of_lt hbp3; have hbp5 : bp < w2.heap.size + 1 + 1 + 1 := Nat.lt_succ_of_lt hbp4; have hgl3 : g < w2.heap.size + 1 := Nat.lt_succ_of_lt hgl; have hgl4 : g < w2.heap.size + 1 + 1 := Nat.lt_succ_of_lt hgl3; have hgl5 : g < w2.heap.size + 1 + 1 + 1 := Nat.lt_succ_of_lt hgl4; simp only [Blk.cells, Nat.add_zero] at b0 b3; clear hr; rw [hex] at b0; clear hP2 hK2))
    | (go_at_call 40; go_must (first | (with_reducible refine (HWd.out _).mono ?_; rintro e w1 ⟨rfl, rfl⟩) | (with_reducible refine (HW1.out _).mono ?_; rintro e w1 ⟨rfl, rfl⟩))))
  go_ret
  have hS := HP2.out.setBrace HN.out (wrap64 (b'.br + 1))
  exact pl_close ((Pl.of ((hS.1.alloc _).alloc _)).back HX.out) (((HKA.out.trans ((HKT.out.mono (fun _ _ _ => trivial)).trans (And1.keep hS.2))).alloc _).alloc _)
set_option maxRecDepth 100000 in
set_option maxHeartbeats 2000000 in
theorem lbrace_other (h : Pl w bp bi ci X inn S) (hat : S.at_ < inn.length) (hw : isW (S.now inn) [59] = false) {b : Blk} (hb1 : S.stk.getLast? = some b) (hex : b.ex = true) (hw1 : isW (S.now inn) [123] = false) (hw2 : isW (S.now inn) [125] = false) :
    Calls Try.prog 33 #[.pointer (some ⟨bp, 0, none⟩)] w (PlPost bp bi ci X inn (.bool (PS.brace inn S).1) (PS.brace inn S).2 w) := by
  rw [brace_ex_eq hw hb1 hex, hw1, hw2]
  rw [if_neg Bool.false_ne_true, if_neg Bool.false_ne_true]
  obtain ⟨vs, vo, h⟩ := h
  have HX := Lib.hid h.xbi
  have HC := Lib.hid (lnow_any h hat)
  have hc := blk_cell h.blk
  have hbp := blk_lt h.blk
  have hbn1 : ¬ bp = w.heap.size + 1 := by omega
  have hbn2 : ¬ w.heap.size + 1 = bp := by omega
  have hA := h.local_ (tokObj (S.now inn)) (tokObj (S.now inn))
  have HKA := Lib.hid (((Keep.refl X w).alloc (tokObj (S.now inn))).alloc (tokObj (S.now inn))).drew
  have HBt := Lib.hid (blk_new1 w (tokObj (S.now inn)) (tokObj (S.now inn)))
  have HWd := Lib.hid (fun w => lword_any (S.now inn) [59] w)
  have HW1 := Lib.hid (fun w => lword_any (S.now inn) [123] w)
  have HW2 := Lib.hid (fun w => lword_any (S.now inn) [125] w)
  rw [hw] at HWd
  rw [hw1] at HW1
  rw [hw2] at HW2
  have hpos : 0 < S.stk.length := by
    rcases Nat.eq_zero_or_pos S.stk.length with hz | hz
    · rw [List.eq_nil_of_length_eq_zero hz] at hb1; cases hb1
    · exact hz
  obtain ⟨g, c, hv⟩ := h.form hpos
  subst hv
  obtain ⟨b', hb1', hb2⟩ := getLast_at hpos
  obtain rfl : b' = b := by rw [hb1] at hb1'; exact (Option.some.inj hb1').symm
  have HT := Lib.hid (ltop_pl hA hpos)
  have HB2 := Lib.hid hb2
  have HN := Lib.hid hpos
  generalize S.now inn = t at *
  clear h hat hw hw1 hw2 hpos hA hb1 hb1' hb2
  go_enter Try.func33, Try.ntmps33
  go_wp2_with (first
    | (go_at_call 35; go_must (refine HC.out.mono ?_; rintro e w1 ⟨rfl, rfl⟩))
    | (go_at_call 37; go_must (refine HT.out.mono ?_; rintro e w2 ⟨rfl, hP2, hK2⟩; have HP2 := Lib.hid hP2; have HKT := Lib.hid hK2; have hc2 := blk_cell hP2.blk; have hf2 := blk_free hP2.blk; have hbp2 := blk_lt hP2.blk; have hB2 := blk_cell (hK2.blk HBt.out trivial); have hBl2 := blk_lt (hK2.blk HBt.out trivial); have hr := HP2.out.row HB2.out; have b0 := hr.1 0 (by decide); have b3 := hr.1 3 (by decide); have hgf := hr.2.1; have hgl := hr.2.2.1; have hBl3 : w.heap.size + 1 < w2.heap.size + 1 := Nat.lt_succ_of_lt hBl2; have hBl4 : w.heap.size + 1 < w2.heap.size + 1 + 1 := Nat.lt_succ_of_lt hBl3; have hBl5 : w.heap.size + 1 < w2.heap.size + 1 + 1 + 1 := Nat.lt_succ_of_lt hBl4; have hbp3 : bp < w2.heap.size + 1 := Nat.lt_succ_of_lt hbp2; have hbp4 : bp < w2.heap.size + 1 + 1 := Nat.lt_succ_of_lt hbp3; have hbp5 : bp < w2.heap.size + 1 + 1 + 1 := Nat.lt_succ_of_lt hbp4; have hgl3 : g < w2.heap.size + 1 := Nat.lt_succ_of_lt hgl; have hgl4 : g < w2.heap.size + 1 + 1 := Nat.lt_succ_of_lt hgl3; have hgl5 : g < w2.heap.size + 1 + 1 + 1 := Nat.lt_succ_of_lt hgl4; simp only [Blk.cells, Nat.add_zero] at b0 b3; clear hr; rw [hex] at b0; clear hP2 hK2))
    | (go_at_call 40; go_must (first | (with_reducible refine (HWd.out _).mono ?_; rintro e w1 ⟨rfl, rfl⟩) | (with_reducible refine (HW1.out _).mono ?_; rintro e w1 ⟨rfl, rfl⟩) | (with_reducible refine (HW2.out _).mono ?_; rintro e w1 ⟨rfl, rfl⟩))))
  go_ret
  exact pl_close ((Pl.of (((HP2.out.alloc _).alloc _).alloc _)).back HX.out) ((((HKA.out.trans (HKT.out.mono (fun _ _ _ => trivial))).alloc _).alloc _).alloc _)

set_option maxRecDepth 100000 in
set_option maxHeartbeats 2000000 in
theorem lbrace_shut (h : Pl w bp bi ci X inn S) (hat : S.at_ < inn.length) (hw : isW (S.now inn) [59] = false) {b : Blk} (hb1 : S.stk.getLast? = some b) (hex : b.ex = true) (hw1 : isW (S.now inn) [123] = false) (hw2 : isW (S.now inn) [125] = true) (hlt : ¬ wrap64 (b.br - 1) < 0) :
    Calls Try.prog 33 #[.pointer (some ⟨bp, 0, none⟩)] w (PlPost bp bi ci X inn (.bool (PS.brace inn S).1) (PS.brace inn S).2 w) := by
  rw [brace_ex_eq hw hb1 hex, hw1, hw2]
  rw [if_neg Bool.false_ne_true, if_pos rfl, if_neg hlt]
  obtain ⟨vs, vo, h⟩ := h
  have HX := Lib.hid h.xbi
  have HC := Lib.hid (lnow_any h hat)
  have hc := blk_cell h.blk
  have hbp := blk_lt h.blk
  have hbn1 : ¬ bp = w.heap.size + 1 := by omega
  have hbn2 : ¬ w.heap.size + 1 = bp := by omega
  have hA := h.local_ (tokObj (S.now inn)) (tokObj (S.now inn))
  have HKA := Lib.hid (((Keep.refl X w).alloc (tokObj (S.now inn))).alloc (tokObj (S.now inn))).drew
  have HBt := Lib.hid (blk_new1 w (tokObj (S.now inn)) (tokObj (S.now inn)))
  have HWd := Lib.hid (fun w => lword_any (S.now inn) [59] w)
  have HW1 := Lib.hid (fun w => lword_any (S.now inn) [123] w)
  have HW2 := Lib.hid (fun w => lword_any (S.now inn) [125] w)
  rw [hw] at HWd
  rw [hw1] at HW1
  rw [hw2] at HW2
  have hpos : 0 < S.stk.length := by
    rcases Nat.eq_zero_or_pos S.stk.length with hz | hz
    · rw [List.eq_nil_of_length_eq_zero hz] at hb1; cases hb1
    · exact hz
  obtain ⟨g, c, hv⟩ := h.form hpos
  subst hv
  obtain ⟨b', hb1', hb2⟩ := getLast_at hpos
  obtain rfl : b' = b := by rw [hb1] at hb1'; exact (Option.some.inj hb1').symm
  have HT := Lib.hid (ltop_pl hA hpos)
  have HB2 := Lib.hid hb2
  have HN := Lib.hid hpos
  generalize S.now inn = t at *
  clear h hat hw hw1 hw2 hpos hA hb1 hb1' hb2
  go_enter Try.func33, Try.ntmps33
  go_wp2_with (first
    | (go_at_call 35; go_must (refine HC.out.mono ?_; rintro e w1 ⟨rfl, rfl⟩))
    | (go_at_call 37; go_must (refine HT.out.mono ?_; rintro e w2 ⟨rfl, hP2, hK2⟩; have HP2 := Lib.hid hP2; have HKT := Lib.hid hK2; have hc2 := blk_cell hP2.blk; have hf2 := blk_free hP2.blk; have hbp2 := blk_lt hP2.blk; have hB2 := blk_cell (hK2.blk HBt.out trivial); have hBl2 := blk_lt (hK2.blk HBt.out trivial); have hr := HP2.out.row HB2.out; have b0 := hr.1 0 (by decide); have b3 := hr.1 3 (by decide); have hgf := hr.2.1; have hgl := hr.2.2.1; have hBl3 : w.heap.size + 1 < w2.heap.size + 1 := Nat.lt_succ_of_lt hBl2; have hBl4 : w.heap.size + 1 < w2.heap.size + 1 + 1 := Nat.lt_succ_of_lt hBl3; have hBl5 : w.heap.size + 1 < w2.heap.size + 1 + 1 + 1 := Nat.lt_succ_of_lt hBl4; have hbp3 : bp < w2.heap.size + 1 := Nat.lt_succ_of_lt hbp2; have hbp4 : bp < w2.heap.size + 1 + 1 := Nat.lt_succ_of_lt hbp3; have hbp5 : bp < w2.heap.size + 1 + 1 + 1 := Nat.lt_succ_of_lt hbp4; have hgl3 : g < w2.heap.size + 1 := Nat.lt_succ_of_lt hgl; have hgl4 : g < w2.heap.size + 1 + 1 := Nat.lt_succ_of_lt hgl3; have hgl5 : g < w2.heap.size + 1 + 1 + 1 := Nat.lt_succ_of_lt hgl4; simp only [Blk.cells, Nat.add_zero] at b0 b3; clear hr; rw [hex] at b0; clear hP2 hK2))
    | (go_at_call 40; go_must (first | (with_reducible refine (HWd.out _).mono ?_; rintro e w1 ⟨rfl, rfl⟩) | (with_reducible refine (HW1.out _).mono ?_; rintro e w1 ⟨rfl, rfl⟩) | (with_reducible refine (HW2.out _).mono ?_; rintro e w1 ⟨rfl, rfl⟩))))
  go_ret
  have hS := HP2.out.setBrace HN.out (wrap64 (b'.br - 1))
  exact pl_close ((Pl.of (((hS.1.alloc _).alloc _).alloc _)).back HX.out) ((((HKA.out.trans ((HKT.out.mono (fun _ _ _ => trivial)).trans (And1.keep hS.2))).alloc _).alloc _).alloc _)
end
end Go.Proofs.Ytglkdhodpgnlgaa
