/-
  Package layout's last: the rule of the end. Condition: the placer lies in memory as 'Pl' says, a token is looked at.
-/
import Derived.Test.YtglkdhodpgnlgaaLayIn
namespace Go.Proofs.Ytglkdhodpgnlgaa
open Go.RowKit Go.Tel

theorem getLast_at {l : List Blk} (h : 0 < l.length) : ∃ b, l.getLast? = some b ∧ l[l.length - 1]? = some b := by
  refine ⟨l[l.length - 1], ?_, ?_⟩
  · rw [List.getLast?_eq_getElem?, List.getElem?_eq_getElem]
  · rw [List.getElem?_eq_getElem]

set_option maxRecDepth 100000 in
set_option maxHeartbeats 2000000 in
theorem llast_any {w : World} {bp bi ci : Nat} {X : Nat → Prop} {inn : List Tok} {S : PS} (h : Pl w bp bi ci X inn S) (hat : S.at_ < inn.length) :
    Calls Try.prog 32 #[.pointer (some ⟨bp, 0, none⟩)] w (PlPost bp bi ci X inn (.bool (PS.last inn S).1) (PS.last inn S).2 w) := by
  obtain ⟨vs, vo, h⟩ := h
  have HC := Lib.hid (lnow_any h hat)
  have hfld := fun w => run_fieldKind (S.now inn) w
  by_cases hk : (S.now inn).kind = 7
  · have hk' : ((S.now inn).kind != 7) = false := by rw [hk]; rfl
    have HA := Lib.hid (h.alloc (tokObj (S.now inn))).drew
    have HKA := Lib.hid (((Keep.refl X w).alloc (tokObj (S.now inn))).drew)
    obtain ⟨R, HR⟩ : ∃ R, Hid (PS.last inn S = R) := ⟨_, Lib.hid rfl⟩
    have HRF : Hid (PS.lasts inn (S.stk.length + 1) S = R) := by show _ = _; rw [← HR.out]; unfold PS.last; rw [if_pos hk]
    have HR1 := HR
    rw [HR1.out]; clear HR1
    have HEnd : Hid (∀ (w1 : World) (T : PS), Pl w1 bp bi ci X inn T → T.at_ = S.at_ → 0 < T.stk.length → Calls Try.prog 39 #[.pointer (some ⟨bp, 0, none⟩)] w1 (PlPost bp bi ci X inn (.bool (PS.end_ inn T).1) (PS.end_ inn T).2 w1)) :=
      fun w1 T h1 ha hl => lend_any h1 (by omega) hl
    have HFail : Hid (∀ (w1 : World) (T : PS), Pl w1 bp bi ci X inn T → T.at_ = S.at_ → Calls Try.prog 38 #[.pointer (some ⟨bp, 0, none⟩), .int .i64 42] w1 (PlPost bp bi ci X inn (.bool (PS.fail inn 42 T).1) (PS.fail inn 42 T).2 w1)) :=
      fun w1 T h1 ha => lfail_any h1 (by omega) 42
    generalize S.now inn = t at *
    clear h hat hk
    go_enter Try.func32, Try.ntmps32
    go_wp2_with (go_at_call 35; go_must (refine HC.out.mono ?_; rintro e w1 ⟨rfl, rfl⟩))
    go_loopg [] (S.stk.length + 1) (fun k wr => ∃ T : PS, Pl wr bp bi ci X inn T ∧ Keep X w wr ∧ T.at_ = S.at_ ∧ T.stk.length < k ∧ PS.lasts inn k T = R)
    case atStart => exact ⟨S, Pl.of HA.out, HKA.out, rfl, Nat.lt_succ_self _, HRF.out⟩
    case round =>
      obtain ⟨T, hP, hKw, hTa, hTl, hRT⟩ := hrel
      obtain ⟨vs, vo, hP⟩ := hP
      obtain ⟨q, hq⟩ : ∃ q, gk = q + 1 := ⟨gk - 1, by omega⟩
      have HRT := Lib.hid (by rw [hq] at hRT; exact hRT); clear hRT
      have HTl := Lib.hid hTl; have HTa := Lib.hid hTa; have HQ := Lib.hid hq; have HK := Lib.hid hKw
      clear hTl hTa hq hKw
      have hc := blk_cell hP.blk
      have hbp := blk_lt hP.blk
      have hsm : (T.stk.length : Int) ≤ 9223372036854775807 := by have := hP.small; unfold maxLen at this; omega
      by_cases hz : T.stk.length = 0
      · have hnil : T.stk = [] := List.eq_nil_of_length_eq_zero hz
        have HX : Hid (R = (true, T)) := by show _ = _; rw [← HRT.out]; simp [PS.lasts, hnil]
        obtain ⟨p, c, hv⟩ := own_form hP.stk
        subst hv
        rw [hz] at hc
        have HP := Lib.hid hP
        clear hP hz hnil
        go_wp2_with (fail)
        go_ret
        rw [HX.out]
        exact pl_close (Pl.of HP.out) HK.out
      · have hpos : 0 < T.stk.length := by omega
        have hpos' : (0 : Int) < (T.stk.length : Int) := by omega
        obtain ⟨g, c, hv⟩ := hP.form hpos
        subst hv
        obtain ⟨b, hb1, hb2⟩ := getLast_at hpos
        have hrow := hP.row hb2
        have b0 := hrow.1 0 (by omega)
        have hl := hrow.2.2.1
        simp only [Blk.cells, Nat.add_zero] at b0
        have HT := Lib.hid (fun w (h : PlV w bp bi ci X inn T (.slice (some ⟨g, 0, none⟩) T.stk.length c) vo) => ltop_any h hpos)
        have HP := Lib.hid hP
        have HPos := Lib.hid hpos
        clear hP hz hrow hb2 hpos
        cases hex : b.ex with
        | true =>
          have HX : Hid (R = PS.fail inn 42 T) := by show _ = _; rw [← HRT.out]; simp [PS.lasts, hb1, hex]
          rw [hex] at b0
          clear hb1
          go_wp2_with (first
            | (go_at_call 37; go_must (refine (HT.out _ HP.out).mono ?_; rintro e w1 ⟨rfl, m, rfl⟩))
            | (go_at_call 38; go_must (refine (HFail.out _ T (Pl.of (HP.out.drewN m)) HTa.out).mono ?_; rintro e w1 ⟨rfl, hp, hk⟩; have HP1 := Lib.hid hp; have HK1 := Lib.hid hk; clear hp hk)))
          go_ret
          rw [HX.out]
          exact pl_close HP1.out ((HK.out.drewN _).trans HK1.out)
        | false =>
          rw [hex] at b0
          have HEn := Lib.hid (fun w1 (h : Pl w1 bp bi ci X inn T) => HEnd.out w1 T h HTa.out HPos.out)
          have HES := Lib.hid (end_stk inn T)
          cases hok : (PS.end_ inn T).1 with
          | false =>
            have HX : Hid (R = (false, (PS.end_ inn T).2)) := by show _ = _; rw [← HRT.out]; simp [PS.lasts, hb1, hex, hok]
            rw [hok] at HEn
            clear hb1 hok
            go_wp2_with (first
              | (go_at_call 37; go_must (refine (HT.out _ HP.out).mono ?_; rintro e w1 ⟨rfl, m, rfl⟩))
              | (go_at_call 39; go_must (refine (HEn.out _ (Pl.of (HP.out.drewN m))).mono ?_; rintro e w1 ⟨rfl, hp, hk⟩; have HP1 := Lib.hid hp; have HK1 := Lib.hid hk; clear hp hk)))
            go_ret
            rw [HX.out]
            exact pl_close HP1.out ((HK.out.drewN _).trans HK1.out)
          | true =>
            have HX : Hid (PS.lasts inn q (PS.end_ inn T).2 = R) := by show _ = _; rw [← HRT.out]; simp [PS.lasts, hb1, hex, hok]
            rw [hok] at HEn
            clear hb1 hok
            go_wp2_with (first
              | (go_at_call 37; go_must (refine (HT.out _ HP.out).mono ?_; rintro e w1 ⟨rfl, m, rfl⟩))
              | (go_at_call 39; go_must (refine (HEn.out _ (Pl.of (HP.out.drewN m))).mono ?_; rintro e w1 ⟨rfl, hp, hk⟩; have HP1 := Lib.hid hp; have HK1 := Lib.hid hk; clear hp hk)))
            go_roundg q
            case measure => have := HQ.out; omega
            case rel => exact ⟨_, HP1.out, (HK.out.drewN _).trans HK1.out, by rw [HES.out.2.1]; exact HTa.out, by rw [HES.out.1, List.length_dropLast]; have := HTl.out; have := HQ.out; have := HPos.out; omega, HX.out⟩
  · have hk' : ((S.now inn).kind != 7) = true := by rw [bne_iff_ne]; exact hk
    have HE : Hid (PS.last inn S = (true, S)) := by show _ = _; unfold PS.last; rw [if_neg hk]
    rw [HE.out]
    have HA := Lib.hid (h.alloc (tokObj (S.now inn))).drew
    generalize S.now inn = t at *
    clear h hat hk
    go_enter Try.func32, Try.ntmps32
    go_wp2_with (go_at_call 35; go_must (refine HC.out.mono ?_; rintro e w1 ⟨rfl, rfl⟩))
    go_ret
    exact pl_close (Pl.of HA.out) (((Keep.refl _ _).alloc _)).drew
end Go.Proofs.Ytglkdhodpgnlgaa
