/-
  Package layout's inward and last: the rules of 'in' and of the end. Condition: the placer lies in memory as 'Pl' says, a token is looked at, the stack is not empty.
-/
import Derived.Test.YtglkdhodpgnlgaaLayCol
namespace Go.Proofs.Ytglkdhodpgnlgaa
open Go.RowKit Go.Tel

theorem Pl.of {w : World} {bp bi ci : Nat} {X : Nat → Prop} {inn : List Tok} {S : PS} {vs vo : Value} (h : PlV w bp bi ci X inn S vs vo) : Pl w bp bi ci X inn S := ⟨vs, vo, h⟩

def inCase (inn : List Tok) (S : PS) : Option Nat → Bool × PS
  | none => (true, S)
  | some i => PS.ends inn (S.stk.length - i) S
theorem inward_eq (inn : List Tok) (S : PS) (h : isW (S.now inn) wIn = true) : PS.inward inn S = inCase inn S (inFind S.stk S.stk.length) := by
  unfold PS.inward; rw [h, if_pos rfl]; cases inFind S.stk S.stk.length <;> rfl

set_option maxRecDepth 100000 in
set_option maxHeartbeats 2000000 in
theorem linward_any {w : World} {bp bi ci : Nat} {X : Nat → Prop} {inn : List Tok} {S : PS} (h : Pl w bp bi ci X inn S) (hat : S.at_ < inn.length) (hn : 0 < S.stk.length) :
    Calls Try.prog 31 #[.pointer (some ⟨bp, 0, none⟩)] w (PlPost bp bi ci X inn (.bool (PS.inward inn S).1) (PS.inward inn S).2 w) := by
  obtain ⟨vs, vo, h⟩ := h
  have HC := Lib.hid (lnow_any h hat)
  have hWd := fun w => lword_any (S.now inn) wIn w
  have HWd := Lib.hid hWd; clear hWd
  cases hw : isW (S.now inn) wIn with
  | false =>
    have HE : Hid (PS.inward inn S = (true, S)) := by show _ = _; unfold PS.inward; rw [hw]; rfl
    rw [HE.out]
    have HA := Lib.hid ((h.alloc (tokObj (S.now inn))).alloc (tokObj (S.now inn))).drew
    rw [hw] at HWd
    generalize S.now inn = t at *
    clear h hw
    go_enter Try.func31, Try.ntmps31
    go_wp2_with (first
      | (go_at_call 35; go_must (refine HC.out.mono ?_; rintro e w1 ⟨rfl, rfl⟩))
      | (go_at_call 40; go_must (refine (HWd.out _).mono ?_; rintro e w1 ⟨rfl, rfl⟩)))
    go_ret
    exact pl_close (Pl.of HA.out) (((Keep.refl _ _).alloc _).alloc _).drew
  | true =>
    obtain ⟨g, c, hv⟩ := h.form hn
    subst hv
    have HA := Lib.hid ((h.alloc (tokObj (S.now inn))).alloc (tokObj (S.now inn))).drew
    have hKA := Lib.hid ((((Keep.refl X w).alloc (tokObj (S.now inn))).alloc (tokObj (S.now inn))).drew)
    have hE := inward_eq inn S hw
    obtain ⟨R, HR⟩ : ∃ R, Hid (PS.inward inn S = R) := ⟨_, Lib.hid rfl⟩
    obtain ⟨F, HF⟩ : ∃ F, Hid (inFind S.stk S.stk.length = F) := ⟨_, Lib.hid rfl⟩
    have HRF : Hid (R = inCase inn S F) := by show _ = _; rw [← HR.out, hE, HF.out]
    have HR1 := HR
    rw [HR1.out]; clear HR1 hE
    have HEnd : Hid (∀ (w1 : World) (T : PS), Pl w1 bp bi ci X inn T → T.at_ = S.at_ → 0 < T.stk.length → Calls Try.prog 39 #[.pointer (some ⟨bp, 0, none⟩)] w1 (PlPost bp bi ci X inn (.bool (PS.end_ inn T).1) (PS.end_ inn T).2 w1)) :=
      fun w1 T h1 ha hl => lend_any h1 (by omega) hl
    rw [hw] at HWd
    generalize S.now inn = t at *
    have hc := blk_cell h.blk
    have hbp := blk_lt h.blk
    have hsm : (S.stk.length : Int) ≤ 9223372036854775807 := by have := h.small; unfold maxLen at this; omega
    obtain ⟨n, hn1⟩ : ∃ n, S.stk.length = n + 1 := ⟨S.stk.length - 1, by omega⟩
    have hn' : (0 : Int) < (S.stk.length : Int) := by omega
    have HN1 := Lib.hid hn1
    clear h hw hn1
    go_enter Try.func31, Try.ntmps31
    go_wp2_with (first
      | (go_at_call 35; go_must (refine HC.out.mono ?_; rintro e w1 ⟨rfl, rfl⟩))
      | (go_at_call 40; go_must (refine (HWd.out _).mono ?_; rintro e w1 ⟨rfl, rfl⟩)))
    go_loopg [4] S.stk.length (fun k i wr => PlV wr bp bi ci X inn S (.slice (some ⟨g, 0, none⟩) S.stk.length c) vo ∧ Keep X w wr ∧ IdxAt k i ∧ k ≤ S.stk.length ∧ inFind S.stk k = F)
    case atStart => exact ⟨HA.out, hKA.out, Or.inr ⟨n, HN1.out, by rw [HN1.out]; congr 1; omega⟩, Nat.le_refl _, HF.out⟩
    case round =>
      obtain ⟨hP, hKw, hi, hkn, hR⟩ := hrel
      clear hc hbp
      have hc := blk_cell hP.blk
      have hbp := blk_lt hP.blk
      have HK := Lib.hid hKw; clear hKw
      have HP := Lib.hid hP; clear hP
      have HR2 := Lib.hid hR; clear hR
      rcases hi with ⟨rfl, rfl⟩ | ⟨m, rfl, rfl⟩
      · have HX : Hid (R = (true, S)) := by show _ = _; rw [HRF.out, ← HR2.out]; rfl
        go_wp2_with (fail)
        go_ret
        rw [HX.out]
        exact pl_close (Pl.of HP.out) HK.out
      · have hm : m < S.stk.length := by omega
        have hm' : (m : Int) < (S.stk.length : Int) := by omega
        obtain ⟨b, hb⟩ : ∃ b, S.stk[m]? = some b := ⟨_, List.getElem?_eq_getElem hm⟩
        have hrow := HP.out.row hb
        have hl := hrow.2.2.1
        have b0 := hrow.1 0 (by omega); have b1 := hrow.1 1 (by omega); have b2 := hrow.1 2 (by omega)
        simp only [Blk.cells, Nat.add_zero] at b0 b1 b2
        have HB := Lib.hid hb
        clear hrow hb
        cases hex : b.ex with
        | true =>
          have HX : Hid (R = (true, S)) := by
            show _ = _
            have : F = none := by rw [← HR2.out]; simp [inFind, HB.out, hex]
            rw [HRF.out, this]; rfl
          rw [hex] at b0
          go_wp2_with (fail)
          go_ret
          rw [HX.out]
          exact pl_close (Pl.of HP.out) HK.out
        | false =>
          rw [hex] at b0
          cases hlt : b.lt with
          | false =>
            rw [hlt] at b2
            have HR3 : Hid (inFind S.stk m = F) := by show _ = _; rw [← HR2.out]; simp [inFind, HB.out, hex, hlt]
            go_wp2_with (fail)
            go_roundg m
            case measure => omega
            case rel => exact ⟨HP.out, HK.out, by rcases m with _ | m; exact Or.inl ⟨rfl, rfl⟩; exact Or.inr ⟨m, rfl, by congr 1; omega⟩, by omega, HR3.out⟩
          | true =>
            rw [hlt] at b2
            have HX : Hid (R = PS.ends inn (S.stk.length - m) S) := by
              show _ = _
              have : F = some m := by rw [← HR2.out]; simp [inFind, HB.out, hex, hlt]
              rw [HRF.out, this]; rfl
            go_wp2_with (fail)
            go_loopg [46] (S.stk.length - m) (fun q j wx => ∃ (T : PS), Pl wx bp bi ci X inn T ∧ Keep X w wx ∧ q ≤ S.stk.length - m ∧ j = .int .i64 ((S.stk.length - m - q : Nat) : Int) ∧ T.stk.length = m + q ∧ T.at_ = S.at_ ∧ R = PS.ends inn q T)
            case atStart => exact ⟨S, Pl.of HP.out, HK.out, Nat.le_refl _, by rw [Nat.sub_self]; rfl, by omega, rfl, HX.out⟩
            case round =>
              clear HP HK b0 b1 b2 hl hc hbp
              obtain ⟨T, hP, hKw, hq, rfl, hTl, hTa, hRT⟩ := hrel
              have HK := Lib.hid hKw; clear hKw
              have HP := Lib.hid hP; clear hP
              have HTl := Lib.hid hTl
              have HTa := Lib.hid hTa; clear hTa
              have HRT := Lib.hid hRT; clear hRT
              by_cases hz : gk = 0
              · have hz1 : (S.stk.length : Int) - (m : Int) ≤ ((S.stk.length - m - gk : Nat) : Int) := by omega
                have HX2 : Hid (R = (true, T)) := by show _ = _; rw [HRT.out, hz]; rfl
                clear hz hTl hq
                go_wp2_with (fail)
                go_ret
                rw [HX2.out]
                exact pl_close HP.out HK.out
              · obtain ⟨q, hq1⟩ : ∃ q, gk = q + 1 := ⟨gk - 1, by omega⟩
                have hz1 : ((S.stk.length - m - gk : Nat) : Int) < (S.stk.length : Int) - (m : Int) := by omega
                have hz2 : ((S.stk.length - m - gk : Nat) : Int) + 1 = ((S.stk.length - m - q : Nat) : Int) := by omega
                have HZ2 := Lib.hid hz2
                have hz3 : ((S.stk.length - m - gk : Nat) : Int) + 1 ≤ 9223372036854775807 := by omega
                have HRT2 := Lib.hid (by have h := HRT.out; rw [hq1] at h; exact h)
                have hTp : 0 < T.stk.length := by omega
                have HES := Lib.hid (end_stk inn T)
                have HQ1 := Lib.hid hq1
                have HQ := Lib.hid hq
                have HEn := Lib.hid (HEnd.out _ T HP.out HTa.out hTp)
                cases hok : (PS.end_ inn T).1 with
                | false =>
                  have HX2 : Hid (R = (false, (PS.end_ inn T).2)) := by show _ = _; rw [HRT2.out]; simp [PS.ends, hok]
                  rw [hok] at HEn
                  clear hz hTl hq hq1 hz2 hTp hok
                  go_wp2_with (go_at_call 39; go_must (refine HEn.out.mono ?_; rintro e w1 ⟨rfl, hp, hk⟩; have HP1 := Lib.hid hp; have HK1 := Lib.hid hk; clear hp hk))
                  go_ret
                  rw [HX2.out]
                  exact pl_close HP1.out (HK.out.trans HK1.out)
                | true =>
                  have HX2 : Hid (R = PS.ends inn q (PS.end_ inn T).2) := by show _ = _; rw [HRT2.out]; simp only [PS.ends, hok, if_true]
                  rw [hok] at HEn
                  clear hz hTl hq hq1 hz2 hTp hok
                  go_wp2_with (go_at_call 39; go_must (refine HEn.out.mono ?_; rintro e w1 ⟨rfl, hp, hk⟩; have HP1 := Lib.hid hp; have HK1 := Lib.hid hk; clear hp hk))
                  go_roundg q
                  case measure => have := HQ1.out; omega
                  case rel => exact ⟨_, HP1.out, HK.out.trans HK1.out, by have := HQ1.out; have := HQ.out; omega, congrArg _ HZ2.out, by rw [HES.out.1, List.length_dropLast]; have := HTl.out; have := HQ1.out; omega, by rw [HES.out.2.1]; exact HTa.out, HX2.out⟩

set_option maxRecDepth 100000 in
set_option maxHeartbeats 2000000 in
theorem ltop_any {w : World} {bp bi ci g c : Nat} {X : Nat → Prop} {inn : List Tok} {S : PS} {vo : Value} (h : PlV w bp bi ci X inn S (.slice (some ⟨g, 0, none⟩) S.stk.length c) vo) (hn : 0 < S.stk.length) :
    Calls Try.prog 37 #[.pointer (some ⟨bp, 0, none⟩)] w fun e w' => e = .returned (.pointer (some ⟨g, (S.stk.length - 1) * 4, none⟩)) ∧ ∃ m, w' = w.drewN m := by
  have hc := blk_cell h.blk
  have hbp := blk_lt h.blk
  have hsm : (S.stk.length : Int) ≤ 9223372036854775807 := by have := h.small; unfold maxLen at this; omega
  obtain ⟨n, hn1⟩ : ∃ n, S.stk.length = n + 1 := ⟨S.stk.length - 1, by omega⟩
  have hn' : (0 : Int) < (S.stk.length : Int) := by omega
  have hn0 : ((S.stk.length : Int) == 0) = false := beq_eq_false_iff_ne.2 (by omega)
  clear h hn1
  go_enter Try.func37, Try.ntmps37
  go_wp2
  go_quiet (fail)
  go_wp2
  go_ret
  exact ⟨rfl, _, rfl⟩

set_option maxRecDepth 100000 in
set_option maxHeartbeats 2000000 in
theorem ltop_nil {w : World} {bp bi ci : Nat} {X : Nat → Prop} {inn : List Tok} {S : PS} {vs vo : Value} (h : PlV w bp bi ci X inn S vs vo) (hn : S.stk = []) :
    Calls Try.prog 37 #[.pointer (some ⟨bp, 0, none⟩)] w fun e w' => e = .returned (.pointer none) ∧ w = w' := by
  obtain ⟨p, c, hv⟩ := own_form h.stk
  subst hv
  have hc := blk_cell h.blk
  have hbp := blk_lt h.blk
  rw [hn] at hc
  clear h hn
  go_enter Try.func37, Try.ntmps37
  go_wp2
  go_ret
  exact ⟨rfl, rfl⟩
end Go.Proofs.Ytglkdhodpgnlgaa
