/-
  Package layout's behind, the last sort: a new implicit block. Condition: as in 'LayBeh'.
-/
import Derived.Test.YtglkdhodpgnlgaaLayBeh
import Derived.Deep.RegionWith
namespace Go.Proofs.Ytglkdhodpgnlgaa
open Go.RowKit Go.Tel

section
variable {w : World} {bp bi ci : Nat} {X : Nat → Prop} {inn : List Tok} {S : PS}

set_option maxRecDepth 100000 in
set_option maxHeartbeats 4000000 in
theorem lbeh_col (h : Pl w bp bi ci X inn S) (hat : S.at_ + 1 < inn.length) (hn : 0 < S.stk.length) (hop : isOpener (S.now inn) = true) (h1 : isW (inn.getD (S.at_ + 1) noTok) [123] = false) (h2 : ¬ ((inn.getD (S.at_ + 1) noTok).kind = 7 ∨ (inn.getD (S.at_ + 1) noTok).col ≤ colOf S.stk S.stk.length)) :
    Calls Try.prog 36 #[.pointer (some ⟨bp, 0, none⟩)] w (PlPost bp bi ci X inn (.bool (PS.behind inn S).1) (PS.behind inn S).2 w) := by
  rw [beh_col_eq hop h1 h2]
  obtain ⟨vs, vo, h⟩ := h
  have HX := Lib.hid h.xbi
  have HC := Lib.hid (lnow_any h (by omega))
  have hA := Lib.hid (h.local_ (tokObj (S.now inn)) (tokObj (S.now inn)))
  have HKA := Lib.hid (((Keep.refl X w).alloc (tokObj (S.now inn))).alloc (tokObj (S.now inn))).drew
  have HBt := Lib.hid (blk_new1 w (tokObj (S.now inn)) (tokObj (S.now inn)))
  have HO := Lib.hid (fun w => lopens_any (S.now inn) w)
  rw [hop] at HO
  have HNx : Hid (inn[S.at_ + 1]? = some (inn.getD (S.at_ + 1) noTok)) := by rw [List.getD_eq_getElem?_getD, List.getElem?_eq_getElem hat]; exact rfl
  have HWd := Lib.hid (fun w => lword_any (inn.getD (S.at_ + 1) noTok) [123] w)
  rw [h1] at HWd
  have hbp := blk_lt h.blk
  have hbn1 : ¬ bp = w.heap.size + 1 := by omega
  have hbn2 : ¬ w.heap.size + 1 = bp := by omega
  have HXb : Hid (¬ And1 X (w.heap.size + 1) bp) := fun hx => by
    rcases hx with hx | hx
    · exact (h.kept bp hx).1 rfl
    · omega
  have HCo := Lib.hid (fun w1 X1 (hp : PlV w1 bp bi ci X1 inn S vs vo) => lcol_any hp hn)
  have HWl := Lib.hid (fun w => lword_any (S.now inn) [108, 101, 116] w)
  have HB := Lib.hid (fun w1 X1 (hp : Pl w1 bp bi ci X1 inn { S with first := true }) => lbegin_any hp ⟨false, (inn.getD (S.at_ + 1) noTok).col, isW (S.now inn) [108, 101, 116], 0⟩ (inn.getD (S.at_ + 1) noTok) (mkS []))
  rw [show mkS [] = (⟨#[]⟩ : ByteArray) from rfl] at HB
  rw [show isW (S.now inn) wLet = isW (S.now inn) [108, 101, 116] from rfl, show mkS [] = (⟨#[]⟩ : ByteArray) from rfl]
  generalize isW (S.now inn) [108, 101, 116] = bl at *
  have hln : (inn.length : Int) < 100000 := by have := h.inn.small; omega
  have hatl : (S.at_ : Int) + 1 < (inn.length : Int) := by omega
  have hge : (0 : Int) ≤ (S.at_ : Int) := by omega
  generalize PS.begin_ ⟨false, (inn.getD (S.at_ + 1) noTok).col, bl, 0⟩ (inn.getD (S.at_ + 1) noTok) ⟨#[]⟩ { S with first := true } = r at *
  generalize inn.getD (S.at_ + 1) noTok = nx at *
  generalize S.now inn = t at *
  obtain ⟨cl, HCL⟩ : ∃ c, Hid (colOf S.stk S.stk.length = c) := ⟨_, rfl⟩
  rw [HCL.out] at HCo h2
  have h7' : (nx.kind == 7) = false := beq_eq_false_iff_ne.2 (fun e => h2 (Or.inl e))
  have hcl : ¬ nx.col ≤ cl := fun e => h2 (Or.inr e)
  clear h hop h1 hat hn h2
  go_enter Try.func36, Try.ntmps36
  go_wp2_with (first
    | (go_at_call 35; go_must (refine HC.out.mono ?_; rintro e w1 ⟨rfl, rfl⟩))
    | (go_at_call 42; go_must (refine (HO.out _).mono ?_; rintro e w2 ⟨rfl, hK2⟩; have HK2 := Lib.hid hK2; have hP2 := hA.out.keep (hK2.mono (fun _ _ _ => trivial)); have HP2 := Lib.hid hP2; have hc2 := blk_cell hP2.blk; have hf2 := blk_free hP2.blk; have hbp2 := blk_lt hP2.blk; have htk := hP2.inn.tok HNx.out; have t0 := htk 0 (by decide); have t1 := htk 1 (by decide); have t2 := htk 2 (by decide); have t3 := htk 3 (by decide); have t4 := htk 4 (by decide); simp only [Tok.cells, Nat.add_zero] at t0 t1 t2 t3 t4; clear htk; have hbi2 : bi < w2.heap.size := (hP2.kept bi hP2.xbi).2.2.2; have hbp3 : bp < w2.heap.size + 1 := Nat.lt_succ_of_lt hbp2; have hbp4 : bp < w2.heap.size + 1 + 1 := Nat.lt_succ_of_lt hbp3; have hBt2 := hK2.blk HBt.out trivial; have hB2 := blk_cell hBt2; have hBl2 := blk_lt hBt2; have hBl3 : w.heap.size + 1 < w2.heap.size + 1 := Nat.lt_succ_of_lt hBl2; have hBl4 : w.heap.size + 1 < w2.heap.size + 1 + 1 := Nat.lt_succ_of_lt hBl3; clear hP2 hK2 hBt2)))
  go_region
  clear hln
  go_wp2_with (first
    | (go_at_call 40; go_must ((with_reducible refine (HWd.out _).mono ?_); rintro e w1 ⟨rfl, rfl⟩)))
  go_quiet ((go_at_call 43; go_must (exact quiet_same1 (HCo.out _ _ (((HP2.out.alloc _).alloc _).drewN _)))))
  go_wp2_with (fail)
  go_region_with (first
    | (go_at_call 40; go_must ((with_reducible refine (HWl.out _).mono ?_); rintro e w1 ⟨rfl, rfl⟩))
    | (go_at_call 16; go_must (refine (HB.out _ _ (Pl.of ((((((HP2.out.alloc _).alloc _).drewN _).setFirst true).alloc _).drew))).mono ?_; rintro e w4 ⟨rfl, hp, hk⟩; have HP4 := Lib.hid hp; have HK4 := Lib.hid hk; clear hp hk)))
  all_goals
    go_wp2_with (fail)
    go_ret
    exact pl_close (HP4.out.back HX.out) ((HKA.out.trans (HK2.out.mono (fun _ _ _ => trivial))).trans ((((Keep.setX ((((Keep.refl _ _).alloc _).alloc _).drewN _) (fun hx => HXb.out (Or.inl hx)) 6 (.bool true)).alloc _).drew).trans (And1.keep HK4.out)))


/-- Behind, whole. -/
theorem lbehind_any (h : Pl w bp bi ci X inn S) (hat : S.at_ < inn.length) (hq : isOpener (S.now inn) = true → S.at_ + 1 < inn.length ∧ 0 < S.stk.length) :
    Calls Try.prog 36 #[.pointer (some ⟨bp, 0, none⟩)] w (PlPost bp bi ci X inn (.bool (PS.behind inn S).1) (PS.behind inn S).2 w) := by
  cases hop : isOpener (S.now inn)
  · exact lbeh_no h hat hop
  · obtain ⟨h1, h2⟩ := hq hop
    cases hb : isW (inn.getD (S.at_ + 1) noTok) [123]
    · by_cases hc : (inn.getD (S.at_ + 1) noTok).kind = 7 ∨ (inn.getD (S.at_ + 1) noTok).col ≤ colOf S.stk S.stk.length
      · exact lbeh_empty h h1 h2 hop hb hc
      · exact lbeh_col h h1 h2 hop hb hc
    · exact lbeh_brace h h1 hop hb
end
end Go.Proofs.Ytglkdhodpgnlgaa
