/-
  Package layout's line: its loop, and the whole. Condition: the placer lies in memory as 'Pl' says, a token is looked at, the stack is not empty.
-/
import Derived.Test.YtglkdhodpgnlgaaLayLine
namespace Go.Proofs.Ytglkdhodpgnlgaa
open Go.RowKit Go.Tel

set_option maxRecDepth 100000 in
set_option maxHeartbeats 4000000 in
theorem lline_yes {w : World} {bp bi ci : Nat} {X : Nat → Prop} {inn : List Tok} {S : PS} (h : Pl w bp bi ci X inn S) (hat : S.at_ < inn.length) (hn : 0 < S.stk.length)
    (h0 : S.at_ ≠ 0) (hf : S.first = false) (h7 : (S.now inn).kind ≠ 7) (hle : (inn.getD (S.at_ - 1) noTok).line < (S.now inn).line) :
    Calls Try.prog 30 #[.pointer (some ⟨bp, 0, none⟩)] w (PlPost bp bi ci X inn (.bool (PS.lines inn (S.stk.length + 1) S).1) (PS.lines inn (S.stk.length + 1) S).2 w) := by
  obtain ⟨vs, vo, h⟩ := h
  have HX := Lib.hid h.xbi
  have HC := Lib.hid (lnow_any h hat)
  have hc := blk_cell h.blk
  have hbp := blk_lt h.blk
  have hbi : bi < w.heap.size := (h.kept bi h.xbi).2.2.2
  have HA : Hid (PlV ((w.alloc (tokObj (S.now inn))).alloc (tokObj (S.now inn))).drew bp bi ci (And1 X (w.heap.size + 1)) inn S vs vo) := by
    have := ((h.alloc (tokObj (S.now inn))).guard (tokObj (S.now inn))).drew; rw [size_alloc'] at this; exact this
  have HB := Lib.hid (blk_new1 w (tokObj (S.now inn)) (tokObj (S.now inn)))
  have HK := Lib.hid (((Keep.refl X w).alloc (tokObj (S.now inn))).alloc (tokObj (S.now inn))).drew
  have hp3 : w.cell? ⟨bi, (S.at_ - 1) * 5 + 3, none⟩ = (inn.getD (S.at_ - 1) noTok).cells[3]? := by
    have : inn[S.at_ - 1]? = some (inn.getD (S.at_ - 1) noTok) := by rw [List.getD_eq_getElem?_getD, List.getElem?_eq_getElem (by omega)]; rfl
    exact h.inn.tok this 3 (by omega)
  simp only [Tok.cells] at hp3
  have hln : (inn.length : Int) < 100000 := by have := h.inn.small; omega
  have HEnd : Hid (∀ (w1 : World) (T : PS), Pl w1 bp bi ci (And1 X (w.heap.size + 1)) inn T → T.at_ = S.at_ → 0 < T.stk.length → Calls Try.prog 39 #[.pointer (some ⟨bp, 0, none⟩)] w1 (PlPost bp bi ci (And1 X (w.heap.size + 1)) inn (.bool (PS.end_ inn T).1) (PS.end_ inn T).2 w1)) :=
    fun w1 T h1 ha hl => lend_any h1 (by omega) hl
  have HFail : Hid (∀ (w1 : World) (T : PS), Pl w1 bp bi ci (And1 X (w.heap.size + 1)) inn T → T.at_ = S.at_ → Calls Try.prog 38 #[.pointer (some ⟨bp, 0, none⟩), .int .i64 42] w1 (PlPost bp bi ci (And1 X (w.heap.size + 1)) inn (.bool (PS.fail inn 42 T).1) (PS.fail inn 42 T).2 w1)) :=
    fun w1 T h1 ha => lfail_any h1 (by omega) 42
  have HNow : Hid (∀ T : PS, T.at_ = S.at_ → T.now inn = S.now inn) := fun T h => by unfold PS.now; rw [h]
  obtain ⟨R, HR⟩ : ∃ R, Hid (PS.lines inn (S.stk.length + 1) S = R) := ⟨_, Lib.hid rfl⟩
  have HR1 := HR
  rw [HR1.out]; clear HR1
  generalize inn.getD (S.at_ - 1) noTok = pv at *
  generalize S.now inn = t at *
  have hatl : (S.at_ : Int) < (inn.length : Int) := by omega
  have h0' : ((S.at_ : Int) == 0) = false := beq_eq_false_iff_ne.2 (by omega)
  have hge : (1 : Int) ≤ (S.at_ : Int) := by omega
  have h7' : (t.kind == 7) = false := beq_eq_false_iff_ne.2 h7
  have HN := Lib.hid hn
  rw [hf] at hc
  clear h h0 h7 hf hn hat
  go_enter Try.func30, Try.ntmps30
  go_wp2_with (fail)
  go_step3
  go_wp2_with (go_at_call 35; go_must (refine HC.out.mono ?_; rintro e w1 ⟨rfl, rfl⟩))
  go_quiet (fail)
  clear hln
  go_wp2_with (fail)
  go_step3
  go_wp2_with (fail)
  go_loopg [] (S.stk.length + 1) (fun k wr => ∃ T : PS, Pl wr bp bi ci (And1 X (w.heap.size + 1)) inn T ∧ Keep X w wr ∧ wr.heap[w.heap.size + 1]? = some (tokObj t) ∧ T.at_ = S.at_ ∧ 0 < T.stk.length ∧ T.stk.length < k ∧ PS.lines inn k T = R)
  case atStart => exact ⟨S, Pl.of (HA.out.drewN _), HK.out.drewN _, HB.out, rfl, HN.out, Nat.lt_succ_self _, HR.out⟩
  case round =>
    clear hc hbp hbi hp3
    obtain ⟨T, hP, hKw, hBt, hTa, hTp, hTl, hRT⟩ := hrel
    obtain ⟨vs, vo, hP⟩ := hP
    obtain ⟨q, hq⟩ : ∃ q, gk = q + 1 := ⟨gk - 1, by omega⟩
    have HRT := Lib.hid (by rw [hq] at hRT; exact hRT); clear hRT
    have HTl := Lib.hid hTl; have HTa := Lib.hid hTa; have HQ := Lib.hid hq; have HK := Lib.hid hKw
    clear hTl hTa hq hKw
    have hc := blk_cell hP.blk
    have hbp := blk_lt hP.blk
    have hcT := blk_cell hBt
    have hlT := blk_lt hBt
    have hsm : (T.stk.length : Int) ≤ 9223372036854775807 := by have := hP.small; unfold maxLen at this; omega
    obtain ⟨g, c, hv⟩ := hP.form hTp
    subst hv
    obtain ⟨b, hb1, hb2⟩ := getLast_at hTp
    have hrow := hP.row hb2
    have b0 := hrow.1 0 (by omega)
    have b1 := hrow.1 1 (by omega)
    have hl := hrow.2.2.1
    simp only [Blk.cells, Nat.add_zero] at b0 b1
    have HT := Lib.hid (fun w (h : PlV w bp bi ci (And1 X (w.heap.size + 1)) inn T (.slice (some ⟨g, 0, none⟩) T.stk.length c) vo) => ltop_any h hTp)
    have HT' := Lib.hid (ltop_any hP hTp)
    have HP := Lib.hid hP
    have HBt := Lib.hid hBt
    have HPos := Lib.hid hTp
    have HNT := Lib.hid (HNow.out T HTa.out)
    have hTp' : (0 : Int) < (T.stk.length : Int) := by omega
    clear hP hrow hb2 hTp hBt HT
    cases hex : b.ex with
    | true =>
      have HX2 : Hid (R = (true, T)) := by show _ = _; rw [← HRT.out]; simp [PS.lines, hb1, hex]
      rw [hex] at b0
      clear hb1
      go_wp2_with (go_at_call 37; go_must (refine HT'.out.mono ?_; rintro e w1 ⟨rfl, m, rfl⟩))
      rw [Exit.noGoto_ret]
      go_ret
      rw [HX2.out]
      exact pl_close ((Pl.of (HP.out.drewN _)).back HX.out) (HK.out.drewN _)
    | false =>
      rw [hex] at b0
      by_cases hlt : t.col < b.col
      · by_cases h1 : T.stk.length = 1
        · have h1' : ((T.stk.length : Int) == 1) = true := beq_iff_eq.2 (by omega)
          have HX2 : Hid (R = PS.fail inn 42 T) := by show _ = _; rw [← HRT.out]; simp [PS.lines, hb1, hex, HNT.out, hlt, h1]
          clear hb1 h1
          go_wp2_with (go_at_call 37; go_must (refine HT'.out.mono ?_; rintro e w1 ⟨rfl, m, rfl⟩))
          go_quiet (fail)
          go_wp2_with (go_at_call 38; go_must (refine (HFail.out _ T (Pl.of (HP.out.drewN _)) HTa.out).mono ?_; rintro e w1 ⟨rfl, hp, hk⟩; have HP1 := Lib.hid hp; have HK1 := Lib.hid hk; clear hp hk))
          rw [Exit.noGoto_ret]
          go_ret
          rw [HX2.out]
          exact pl_close (HP1.out.back HX.out) ((HK.out.drewN _).trans (And1.keep HK1.out))
        · have h1' : ((T.stk.length : Int) == 1) = false := beq_eq_false_iff_ne.2 (by omega)
          have HEn := Lib.hid (fun w1 (h : Pl w1 bp bi ci (And1 X (w.heap.size + 1)) inn T) => HEnd.out w1 T h HTa.out HPos.out)
          have HES := Lib.hid (end_stk inn T)
          cases hok : (PS.end_ inn T).1 with
          | false =>
            have HX2 : Hid (R = (false, (PS.end_ inn T).2)) := by show _ = _; rw [← HRT.out]; simp [PS.lines, hb1, hex, HNT.out, hlt, h1, hok]
            rw [hok] at HEn
            clear hb1 hok h1
            go_wp2_with (go_at_call 37; go_must (refine HT'.out.mono ?_; rintro e w1 ⟨rfl, m, rfl⟩))
            go_quiet (fail)
            go_wp2_with (go_at_call 39; go_must (refine (HEn.out _ (Pl.of (HP.out.drewN _))).mono ?_; rintro e w1 ⟨rfl, hp, hk⟩; have HP1 := Lib.hid hp; have HK1 := Lib.hid hk; clear hp hk))
            rw [Exit.noGoto_ret]
            go_ret
            rw [HX2.out]
            exact pl_close (HP1.out.back HX.out) ((HK.out.drewN _).trans (And1.keep HK1.out))
          | true =>
            have HX2 : Hid (PS.lines inn q (PS.end_ inn T).2 = R) := by show _ = _; rw [← HRT.out]; simp [PS.lines, hb1, hex, HNT.out, hlt, h1, hok]
            rw [hok] at HEn
            have H1 := Lib.hid h1
            clear hb1 hok h1
            go_wp2_with (go_at_call 37; go_must (refine HT'.out.mono ?_; rintro e w1 ⟨rfl, m, rfl⟩))
            go_quiet (fail)
            go_wp2_with (go_at_call 39; go_must (refine (HEn.out _ (Pl.of (HP.out.drewN _))).mono ?_; rintro e w1 ⟨rfl, hp, hk⟩; have HP1 := Lib.hid hp; have HK1 := Lib.hid hk; clear hp hk))
            go_roundg q
            case measure => have := HQ.out; omega
            case rel => exact ⟨_, HP1.out, (HK.out.drewN _).trans (And1.keep HK1.out), And1.blk HK1.out HBt.out, by rw [HES.out.2.1]; exact HTa.out, by rw [HES.out.1, List.length_dropLast]; have := H1.out; have := HPos.out; omega, by rw [HES.out.1, List.length_dropLast]; have := HTl.out; have := HQ.out; have := HPos.out; omega, HX2.out⟩
      · have hlt' : ¬ t.col < b.col := hlt
        by_cases heq : b.col = t.col
        · have heq' : (b.col == t.col) = true := beq_iff_eq.2 heq
          have HX2 : Hid (R = PS.sign 6 t (mkS []) T) := by show _ = _; rw [← HRT.out]; simp [PS.lines, hb1, hex, HNT.out, heq]
          have HS := Lib.hid (fun w1 (h : Pl w1 bp bi ci (And1 X (w.heap.size + 1)) inn T) => lsign_any h t 6 (mkS []))
          have hge2 : b.col ≤ t.col := by omega
          clear hb1 heq hlt hlt'
          go_wp2_with (go_at_call 37; go_must (refine HT'.out.mono ?_; rintro e w1 ⟨rfl, m, rfl⟩))
          go_quiet (fail)
          go_wp2_with (fail)
          go_quiet (fail)
          go_wp2_with (go_at_call 29; go_must (refine (HS.out _ (Pl.of (HP.out.drewN _))).mono ?_; rintro e w1 ⟨rfl, hp, hk⟩; have HP1 := Lib.hid hp; have HK1 := Lib.hid hk; clear hp hk))
          rw [Exit.noGoto_ret]
          go_ret
          rw [HX2.out]
          exact pl_close (HP1.out.back HX.out) ((HK.out.drewN _).trans (And1.keep HK1.out))
        · have heq' : (b.col == t.col) = false := beq_eq_false_iff_ne.2 heq
          have HX2 : Hid (R = (true, T)) := by show _ = _; rw [← HRT.out]; simp [PS.lines, hb1, hex, HNT.out, heq, hlt]
          have hge2 : b.col ≤ t.col := by omega
          clear hb1 heq hlt hlt'
          go_wp2_with (go_at_call 37; go_must (refine HT'.out.mono ?_; rintro e w1 ⟨rfl, m, rfl⟩))
          go_quiet (fail)
          go_wp2_with (fail)
          go_quiet (fail)
          go_wp2_with (fail)
          rw [Exit.noGoto_ret]
          go_ret
          rw [HX2.out]
          exact pl_close ((Pl.of (((HP.out.drewN _).drewN _).drewN _)).back HX.out) (((HK.out.drewN _).drewN _).drewN _)

theorem lline_any {w : World} {bp bi ci : Nat} {X : Nat → Prop} {inn : List Tok} {S : PS} (h : Pl w bp bi ci X inn S) (hat : S.at_ < inn.length) (hn : 0 < S.stk.length) :
    Calls Try.prog 30 #[.pointer (some ⟨bp, 0, none⟩)] w (PlPost bp bi ci X inn (.bool (PS.line inn S).1) (PS.line inn S).2 w) := by
  unfold PS.line
  by_cases hc : S.at_ = 0 ∨ S.first = true ∨ (S.now inn).kind = 7 ∨ (S.now inn).line ≤ (inn.getD (S.at_ - 1) noTok).line
  · rw [if_pos hc]; exact lline_no h hat hc
  · rw [if_neg hc]
    refine lline_yes h hat hn (fun e => hc (Or.inl e)) ?_ (fun e => hc (Or.inr (Or.inr (Or.inl e)))) ?_
    · cases hf : S.first with
      | true => exact absurd (Or.inr (Or.inl hf)) hc
      | false => rfl
    · exact Int.not_le.1 (fun e => hc (Or.inr (Or.inr (Or.inr e))))
end Go.Proofs.Ytglkdhodpgnlgaa
