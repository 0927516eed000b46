/-
  Package layout's behind: a block behind 'where', 'let', .. Condition: the placer lies in memory as 'Pl' says, a token is looked at;
  behind an opener another token stands, and the stack is not empty.
-/
import Derived.Test.YtglkdhodpgnlgaaLayBr3
import Derived.Test.YtglkdhodpgnlgaaLayCol
import Derived.Test.YtglkdhodpgnlgaaPass
namespace Go.Proofs.Ytglkdhodpgnlgaa
open Go.RowKit Go.Tel

theorem quiet_same1 {P : Program} {f : FuncId} {args : Array Value} {w : World} {k n : Nat} {v : Value}
    (h : Calls P f args (w.drewN (k + n)) fun e w' => e = .returned v ∧ w.drewN (k + n) = w') : Calls P f args (w.drewN (k + n)) fun e w'' => e = .returned v ∧ ∃ m, w'' = w.drewN (k + m) :=
  h.mono fun _ _ ⟨he, hm⟩ => ⟨he, n, hm.symm⟩
theorem PlV.setAt1 {w : World} {bp bi ci : Nat} {X : Nat → Prop} {inn : List Tok} {S : PS} {vs vo : Value} (h : PlV w bp bi ci X inn S vs vo) :
    PlV (w.setCell ⟨bp, 2, none⟩ (.int .i64 ((S.at_ : Int) + 1))) bp bi ci X inn { S with at_ := S.at_ + 1 } vs vo := by
  have := h.setAt (S.at_ + 1)
  rw [show ((S.at_ + 1 : Nat) : Int) = (S.at_ : Int) + 1 by omega] at this; exact this

section
variable {w : World} {bp bi ci : Nat} {X : Nat → Prop} {inn : List Tok} {S : PS}

theorem beh_no_eq (h : isOpener (S.now inn) = false) : PS.behind inn S = (true, S) := by unfold PS.behind; rw [h, if_neg Bool.false_ne_true]
theorem beh_brace_eq (h : isOpener (S.now inn) = true) (h1 : isW (inn.getD (S.at_ + 1) noTok) [123] = true) : PS.behind inn S = PS.begin_ ⟨true, 0, false, 0⟩ (inn.getD (S.at_ + 1) noTok) (inn.getD (S.at_ + 1) noTok).text { S with at_ := S.at_ + 1 } := by
  unfold PS.behind; rw [h, if_pos rfl]; simp only [h1, if_true]
theorem beh_empty_eq (h : isOpener (S.now inn) = true) (h1 : isW (inn.getD (S.at_ + 1) noTok) [123] = false) (h2 : (inn.getD (S.at_ + 1) noTok).kind = 7 ∨ (inn.getD (S.at_ + 1) noTok).col ≤ colOf S.stk S.stk.length) : PS.behind inn S =
    (if (PS.sign 4 (inn.getD (S.at_ + 1) noTok) (mkS []) S).1 then PS.sign 5 (inn.getD (S.at_ + 1) noTok) (mkS []) (PS.sign 4 (inn.getD (S.at_ + 1) noTok) (mkS []) S).2 else (false, (PS.sign 4 (inn.getD (S.at_ + 1) noTok) (mkS []) S).2)) := by
  unfold PS.behind; rw [h, if_pos rfl]; dsimp only; rw [h1, if_neg Bool.false_ne_true, if_pos h2]
theorem beh_col_eq (h : isOpener (S.now inn) = true) (h1 : isW (inn.getD (S.at_ + 1) noTok) [123] = false) (h2 : ¬ ((inn.getD (S.at_ + 1) noTok).kind = 7 ∨ (inn.getD (S.at_ + 1) noTok).col ≤ colOf S.stk S.stk.length)) : PS.behind inn S =
    PS.begin_ ⟨false, (inn.getD (S.at_ + 1) noTok).col, isW (S.now inn) wLet, 0⟩ (inn.getD (S.at_ + 1) noTok) (mkS []) { S with first := true } := by
  unfold PS.behind; rw [h, if_pos rfl]; dsimp only; rw [h1, if_neg Bool.false_ne_true, if_neg h2]

set_option maxRecDepth 100000 in
set_option maxHeartbeats 2000000 in
theorem lbeh_no (h : Pl w bp bi ci X inn S) (hat : S.at_ < inn.length) (hop : isOpener (S.now inn) = false) :
    Calls Try.prog 36 #[.pointer (some ⟨bp, 0, none⟩)] w (PlPost bp bi ci X inn (.bool (PS.behind inn S).1) (PS.behind inn S).2 w) := by
  rw [beh_no_eq hop]
  obtain ⟨vs, vo, h⟩ := h
  have HX := Lib.hid h.xbi
  have HC := Lib.hid (lnow_any h hat)
  have hA := Lib.hid (h.local_ (tokObj (S.now inn)) (tokObj (S.now inn)))
  have HKA := Lib.hid (((Keep.refl X w).alloc (tokObj (S.now inn))).alloc (tokObj (S.now inn))).drew
  have HO := Lib.hid (fun w => lopens_any (S.now inn) w)
  rw [hop] at HO
  generalize S.now inn = t at *
  clear h hat hop
  go_enter Try.func36, Try.ntmps36
  go_wp2_with (first
    | (go_at_call 35; go_must (refine HC.out.mono ?_; rintro e w1 ⟨rfl, rfl⟩))
    | (go_at_call 42; go_must (refine (HO.out _).mono ?_; rintro e w2 ⟨rfl, hK2⟩; have HK2 := Lib.hid hK2; clear hK2)))
  go_ret
  exact pl_close ((Pl.of (hA.out.keep (HK2.out.mono (fun _ _ _ => trivial)))).back HX.out) (HKA.out.trans (HK2.out.mono (fun _ _ _ => trivial)))

set_option maxRecDepth 100000 in
set_option maxHeartbeats 4000000 in
theorem lbeh_brace (h : Pl w bp bi ci X inn S) (hat : S.at_ + 1 < inn.length) (hop : isOpener (S.now inn) = true) (h1 : isW (inn.getD (S.at_ + 1) noTok) [123] = true) :
    Calls Try.prog 36 #[.pointer (some ⟨bp, 0, none⟩)] w (PlPost bp bi ci X inn (.bool (PS.behind inn S).1) (PS.behind inn S).2 w) := by
  rw [beh_brace_eq hop h1]
  obtain ⟨vs, vo, h⟩ := h
  have HX := Lib.hid h.xbi
  have HC := Lib.hid (lnow_any h (by omega))
  have hA := Lib.hid (h.local_ (tokObj (S.now inn)) (tokObj (S.now inn)))
  have HKA := Lib.hid (((Keep.refl X w).alloc (tokObj (S.now inn))).alloc (tokObj (S.now inn))).drew
  have HO := Lib.hid (fun w => lopens_any (S.now inn) w)
  rw [hop] at HO
  have HNx : Hid (inn[S.at_ + 1]? = some (inn.getD (S.at_ + 1) noTok)) := by rw [List.getD_eq_getElem?_getD, List.getElem?_eq_getElem hat]; exact rfl
  have HWd := Lib.hid (fun w => lword_any (inn.getD (S.at_ + 1) noTok) [123] w)
  rw [h1] at HWd
  have hbp := blk_lt h.blk
  have HXb : Hid (¬ And1 X (w.heap.size + 1) bp) := fun hx => by
    rcases hx with hx | hx
    · exact (h.kept bp hx).1 rfl
    · omega
  have HB := Lib.hid (fun w1 (hp : Pl w1 bp bi ci (And1 X (w.heap.size + 1)) inn { S with at_ := S.at_ + 1 }) => lbegin_any hp ⟨true, 0, false, 0⟩ (inn.getD (S.at_ + 1) noTok) (inn.getD (S.at_ + 1) noTok).text)
  have hln : (inn.length : Int) < 100000 := by have := h.inn.small; omega
  have hatl : (S.at_ : Int) + 1 < (inn.length : Int) := by omega
  have hge : (0 : Int) ≤ (S.at_ : Int) := by omega
  generalize PS.begin_ ⟨true, 0, false, 0⟩ (inn.getD (S.at_ + 1) noTok) (inn.getD (S.at_ + 1) noTok).text { S with at_ := S.at_ + 1 } = r at *
  generalize inn.getD (S.at_ + 1) noTok = nx at *
  generalize S.now inn = t at *
  clear h hop h1 hat
  go_enter Try.func36, Try.ntmps36
  go_wp2_with (first
    | (go_at_call 35; go_must (refine HC.out.mono ?_; rintro e w1 ⟨rfl, rfl⟩))
    | (go_at_call 42; go_must (refine (HO.out _).mono ?_; rintro e w2 ⟨rfl, hK2⟩; have HK2 := Lib.hid hK2; have hP2 := hA.out.keep (hK2.mono (fun _ _ _ => trivial)); have HP2 := Lib.hid hP2; have hc2 := blk_cell hP2.blk; have hf2 := blk_free hP2.blk; have hbp2 := blk_lt hP2.blk; have htk := hP2.inn.tok HNx.out; have t0 := htk 0 (by decide); have t1 := htk 1 (by decide); have t2 := htk 2 (by decide); have t3 := htk 3 (by decide); have t4 := htk 4 (by decide); simp only [Tok.cells, Nat.add_zero] at t0 t1 t2 t3 t4; clear htk; have hbi2 : bi < w2.heap.size := (hP2.kept bi hP2.xbi).2.2.2; have hbp3 : bp < w2.heap.size + 1 := Nat.lt_succ_of_lt hbp2; clear hP2 hK2)))
  go_region
  go_wp2_with (first
    | (go_at_call 40; go_must (refine (HWd.out _).mono ?_; rintro e w1 ⟨rfl, rfl⟩))
    | (go_at_call 16; go_must (refine (HB.out _ (Pl.of (((HP2.out.setAt1.alloc _).alloc _).drew))).mono ?_; rintro e w4 ⟨rfl, hp, hk⟩; have HP4 := Lib.hid hp; have HK4 := Lib.hid hk; clear hp hk)))
  go_ret
  exact pl_close (HP4.out.back HX.out) ((HKA.out.trans (HK2.out.mono (fun _ _ _ => trivial))).trans (And1.keep (((((Keep.setX (Keep.refl _ _) HXb.out 2 _).alloc _).alloc _).drew).trans HK4.out)))

set_option maxRecDepth 100000 in
set_option maxHeartbeats 4000000 in
theorem lbeh_empty (h : Pl w bp bi ci X inn S) (hat : S.at_ + 1 < inn.length) (hn : 0 < S.stk.length) (hop : isOpener (S.now inn) = true) (h1 : isW (inn.getD (S.at_ + 1) noTok) [123] = false) (h2 : (inn.getD (S.at_ + 1) noTok).kind = 7 ∨ (inn.getD (S.at_ + 1) noTok).col ≤ colOf S.stk S.stk.length) :
    Calls Try.prog 36 #[.pointer (some ⟨bp, 0, none⟩)] w (PlPost bp bi ci X inn (.bool (PS.behind inn S).1) (PS.behind inn S).2 w) := by
  rw [beh_empty_eq hop h1 h2]
  obtain ⟨vs, vo, h⟩ := h
  have HX := Lib.hid h.xbi
  have HC := Lib.hid (lnow_any h (by omega))
  have hA := Lib.hid (h.local_ (tokObj (S.now inn)) (tokObj (S.now inn)))
  have HKA := Lib.hid (((Keep.refl X w).alloc (tokObj (S.now inn))).alloc (tokObj (S.now inn))).drew
  have HO := Lib.hid (fun w => lopens_any (S.now inn) w)
  rw [hop] at HO
  have HNx : Hid (inn[S.at_ + 1]? = some (inn.getD (S.at_ + 1) noTok)) := by rw [List.getD_eq_getElem?_getD, List.getElem?_eq_getElem hat]; exact rfl
  have HWd := Lib.hid (fun w => lword_any (inn.getD (S.at_ + 1) noTok) [123] w)
  rw [h1] at HWd
  have hbp := blk_lt h.blk
  have HCo := Lib.hid (fun w1 X1 (hp : PlV w1 bp bi ci X1 inn S vs vo) => lcol_any hp hn)
  have hln : (inn.length : Int) < 100000 := by have := h.inn.small; omega
  have hatl : (S.at_ : Int) + 1 < (inn.length : Int) := by omega
  have hge : (0 : Int) ≤ (S.at_ : Int) := by omega
  obtain ⟨r1, hr1⟩ : ∃ r, r = PS.sign 4 (inn.getD (S.at_ + 1) noTok) (mkS []) S := ⟨_, rfl⟩
  obtain ⟨r2, hr2⟩ : ∃ r, r = PS.sign 5 (inn.getD (S.at_ + 1) noTok) (mkS []) r1.2 := ⟨_, rfl⟩
  rw [← hr1, ← hr2]
  obtain ⟨R, hR⟩ : ∃ R, R = (if r1.1 then r2 else (false, r1.2)) := ⟨_, rfl⟩
  rw [← hR]
  have HR := Lib.hid hR
  have HS1 := Lib.hid (fun w1 X1 (hp : Pl w1 bp bi ci X1 inn S) => lsign_any hp (inn.getD (S.at_ + 1) noTok) 4 (mkS []))
  have HS2 := Lib.hid (fun w1 X1 (hp : Pl w1 bp bi ci X1 inn r1.2) => lsign_any hp (inn.getD (S.at_ + 1) noTok) 5 (mkS []))
  rw [← hr1, show mkS [] = (⟨#[]⟩ : ByteArray) from rfl] at HS1
  rw [← hr2, show mkS [] = (⟨#[]⟩ : ByteArray) from rfl] at HS2
  obtain ⟨b1, s1⟩ := r1
  generalize inn.getD (S.at_ + 1) noTok = nx at *
  generalize S.now inn = t at *
  obtain ⟨cl, HCL⟩ : ∃ c, Hid (colOf S.stk S.stk.length = c) := ⟨_, rfl⟩
  rw [HCL.out] at HCo h2
  clear hr1 hr2 hR h hop h1 hat hn
  by_cases h7 : nx.kind = 7
  · have h7' : (nx.kind == 7) = true := beq_iff_eq.2 h7
    clear h2 HCo h7
    go_enter Try.func36, Try.ntmps36
    go_wp2_with (first
      | (go_at_call 35; go_must (refine HC.out.mono ?_; rintro e w1 ⟨rfl, rfl⟩))
      | (go_at_call 42; go_must (refine (HO.out _).mono ?_; rintro e w2 ⟨rfl, hK2⟩; have HK2 := Lib.hid hK2; have hP2 := hA.out.keep (hK2.mono (fun _ _ _ => trivial)); have HP2 := Lib.hid hP2; have hc2 := blk_cell hP2.blk; have hf2 := blk_free hP2.blk; have hbp2 := blk_lt hP2.blk; have htk := hP2.inn.tok HNx.out; have t0 := htk 0 (by decide); have t1 := htk 1 (by decide); have t2 := htk 2 (by decide); have t3 := htk 3 (by decide); have t4 := htk 4 (by decide); simp only [Tok.cells, Nat.add_zero] at t0 t1 t2 t3 t4; clear htk; have hbi2 : bi < w2.heap.size := (hP2.kept bi hP2.xbi).2.2.2; have hbp3 : bp < w2.heap.size + 1 := Nat.lt_succ_of_lt hbp2; clear hP2 hK2)))
    go_region
    clear hln
    go_wp2_with (first
      | (go_at_call 40; go_must ((with_reducible refine (HWd.out _).mono ?_); rintro e w1 ⟨rfl, rfl⟩)))
    go_quiet (fail)
    cases b1
    all_goals
      go_wp2_with (first
        | (go_at_call 29; go_must (first
          | ((with_reducible refine (HS1.out _ (And1 (And1 X (w.heap.size + 1)) w2.heap.size) (Pl.of (((HP2.out.guard _).alloc _).drewN _))).mono ?_); rintro e w3 ⟨rfl, hp, hk⟩; have HP3 := Lib.hid hp; have HK3 := Lib.hid hk; clear hp hk; have hB3 := blk_cell (HK3.out.blk (blk_alloc (blk_new w2 _) _) (Or.inr rfl)))
          | ((with_reducible refine (HS2.out _ _ HP3.out).mono ?_); rintro e w4 ⟨rfl, hp, hk⟩; have HP4 := Lib.hid hp; have HK4 := Lib.hid hk; clear hp hk))))
      go_ret
    · rw [HR.out]
      exact pl_close ((HP3.out.mono (fun _ h => Or.inl (Or.inl h)) HX.out)) ((HKA.out.trans (HK2.out.mono (fun _ _ _ => trivial))).trans (((((Keep.refl _ _).alloc _).alloc _).drewN _).trans (And1.keep (And1.keep HK3.out))))
    · rw [HR.out]
      exact pl_close ((HP4.out.mono (fun _ h => Or.inl (Or.inl h)) HX.out)) ((HKA.out.trans (HK2.out.mono (fun _ _ _ => trivial))).trans (((((Keep.refl _ _).alloc _).alloc _).drewN _).trans (And1.keep (And1.keep (HK3.out.trans HK4.out)))))
  · have h7' : (nx.kind == 7) = false := beq_eq_false_iff_ne.2 h7
    have hcl : nx.col ≤ cl := h2.resolve_left h7
    clear h2 h7
    go_enter Try.func36, Try.ntmps36
    go_wp2_with (first
      | (go_at_call 35; go_must (refine HC.out.mono ?_; rintro e w1 ⟨rfl, rfl⟩))
      | (go_at_call 42; go_must (refine (HO.out _).mono ?_; rintro e w2 ⟨rfl, hK2⟩; have HK2 := Lib.hid hK2; have hP2 := hA.out.keep (hK2.mono (fun _ _ _ => trivial)); have HP2 := Lib.hid hP2; have hc2 := blk_cell hP2.blk; have hf2 := blk_free hP2.blk; have hbp2 := blk_lt hP2.blk; have htk := hP2.inn.tok HNx.out; have t0 := htk 0 (by decide); have t1 := htk 1 (by decide); have t2 := htk 2 (by decide); have t3 := htk 3 (by decide); have t4 := htk 4 (by decide); simp only [Tok.cells, Nat.add_zero] at t0 t1 t2 t3 t4; clear htk; have hbi2 : bi < w2.heap.size := (hP2.kept bi hP2.xbi).2.2.2; have hbp3 : bp < w2.heap.size + 1 := Nat.lt_succ_of_lt hbp2; clear hP2 hK2)))
    go_region
    clear hln
    go_wp2_with (first
      | (go_at_call 40; go_must ((with_reducible refine (HWd.out _).mono ?_); rintro e w1 ⟨rfl, rfl⟩)))
    go_quiet ((go_at_call 43; go_must (exact quiet_same1 (HCo.out _ _ (((HP2.out.alloc _).alloc _).drewN _)))))
    cases b1
    all_goals
      go_wp2_with (first
        | (go_at_call 29; go_must (first
          | ((with_reducible refine (HS1.out _ (And1 (And1 X (w.heap.size + 1)) w2.heap.size) (Pl.of (((HP2.out.guard _).alloc _).drewN _))).mono ?_); rintro e w3 ⟨rfl, hp, hk⟩; have HP3 := Lib.hid hp; have HK3 := Lib.hid hk; clear hp hk; have hB3 := blk_cell (HK3.out.blk (blk_alloc (blk_new w2 _) _) (Or.inr rfl)))
          | ((with_reducible refine (HS2.out _ _ HP3.out).mono ?_); rintro e w4 ⟨rfl, hp, hk⟩; have HP4 := Lib.hid hp; have HK4 := Lib.hid hk; clear hp hk))))
      go_ret
    · rw [HR.out]
      exact pl_close ((HP3.out.mono (fun _ h => Or.inl (Or.inl h)) HX.out)) ((HKA.out.trans (HK2.out.mono (fun _ _ _ => trivial))).trans (((((Keep.refl _ _).alloc _).alloc _).drewN _).trans (And1.keep (And1.keep HK3.out))))
    · rw [HR.out]
      exact pl_close ((HP4.out.mono (fun _ h => Or.inl (Or.inl h)) HX.out)) ((HKA.out.trans (HK2.out.mono (fun _ _ _ => trivial))).trans (((((Keep.refl _ _).alloc _).alloc _).drewN _).trans (And1.keep (And1.keep (HK3.out.trans HK4.out)))))
end
end Go.Proofs.Ytglkdhodpgnlgaa
