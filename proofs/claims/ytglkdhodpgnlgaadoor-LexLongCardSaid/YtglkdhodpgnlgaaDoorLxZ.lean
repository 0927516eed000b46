/-
  Package lex's Tokens: it computes 'refTokens', as the reference's does. Conditions: Go's decoder's tables and the library's table of blanks lie as they are laid.
-/
import Derived.Test.YtglkdhodpgnlgaaDoorLxX
import Derived.Test.YtglkdhodpgnlgaaDoorLxY
import Derived.Test.YtglkdhodpgnlgaaDoorLxM2
import Derived.Test.YtglkdhodpgnlgaaDoorRTok
import Derived.Deep.DeepCutAuto
import Derived.Deep.LoopGhost
import Derived.Deep.CutBlock
namespace Go.Proofs.YtglkdhodpgnlgaaDoor
open Go.RowKit Go.Tel

set_option maxRecDepth 100000 in
set_option maxHeartbeats 4000000 in
theorem ltokens_big (s : ByteArray) (W : World) (hs : (s.size : Int) > 65536) :
    Calls Tryd.prog 9 #[.string s] W (TokPost s.data.toList W) := by
  have HE : Hid (refTokens s.data.toList = ([], 0, 2)) := by
    show _ = _
    unfold refTokens
    rw [if_pos (by have : s.data.toList.length = s.size := rfl; omega)]
  go_enter Tryd.func9, Tryd.ntmps9
  go_wp2_with (fail)
  go_ret3
  exact tok_err HE.out (Keep.refl _ _)

set_option maxRecDepth 100000 in
set_option maxHeartbeats 4000000 in
theorem rtokens_big (s : ByteArray) (W : World) (hs : (s.size : Int) > 65536) :
    Calls Tryd.prog 10 #[.string s] W (TokPost s.data.toList W) := by
  have HE : Hid (refTokens s.data.toList = ([], 0, 2)) := by
    show _ = _
    unfold refTokens
    rw [if_pos (by have : s.data.toList.length = s.size := rfl; omega)]
  go_enter Tryd.func10, Tryd.ntmps10
  go_wp2_with (fail)
  go_ret3
  exact tok_err HE.out (Keep.refl _ _)

set_option maxRecDepth 100000 in
set_option maxHeartbeats 8000000 in
theorem ltokens_small (s : ByteArray) (W : World) (hs : s.size ≤ 65536) (hT : Lib.Utf8Tabs 2 3 W) (htab : Lib.TabIs Tryd.prog W "strings.asciiSpace" .u8 Lib.asciiSpaceTab) :
    Calls Tryd.prog 9 #[.string s] W (TokPost s.data.toList W) := by
  have HS := Lib.hid hs
  have HT := Lib.hid hT
  have HTab := Lib.hid htab
  have h3 : Hid (3 < W.heap.size) := cell_lt' (hT.2 0 (by decide)).1
  have hs' : ¬ (s.size : Int) > 65536 := by omega
  obtain ⟨R, HR0⟩ : ∃ R, Hid (refTokens s.data.toList = R) := ⟨_, rfl⟩
  have HR1 : Hid (rtoks (s.size + 2) ⟨s.data.toList, 0, 1, 1, 0⟩ [] = R) := by
    show _ = _
    have h := HR0.out
    have hl : s.data.toList.length = s.size := rfl
    unfold refTokens at h
    rw [hl, if_neg (by omega)] at h
    exact h
  clear hs hT htab
  go_enter Tryd.func9, Tryd.ntmps9
  go_wp2_with (go_at_call 16; go_must (refine (words_walk _ HTab.out).mono ?_; rintro e w1 ⟨rfl, hm, hk⟩; have HM := Lib.hid hm; have HK := Lib.hid hk; clear hm hk))
  have hbp : W.heap.size < w1.heap.size := by obtain ⟨_, _, h, _⟩ := HM.out; exact blk_lt h
  have HBp' := Lib.hid hbp
  clear hbp
  go_loopg [] (s.size + 2) (fun k wr => ∃ (x : Lx) (out : List Tok) (v : Value), LS s W.heap.size w1.heap.size x out v wr ∧ Keep (fun k => k < w1.heap.size) w1 wr ∧ x.rest.length < k ∧ Hid (rtoks k x out = R))
  case atStart =>
    refine ⟨⟨s.data.toList, 0, 1, 1, 0⟩, [], .slice none 0 0, ⟨⟨rfl, Nat.zero_le _, Nat.le_refl _, Nat.le_refl _⟩, rfl, ⟨0, blk_new _ _⟩, World.ownsRow_nil _ _ _ _, HM.out.keep ((Keep.refl (fun _ => True) _).alloc _) trivial, HBp'.out, Nat.lt_trans h3.out HBp'.out, ?_⟩, ?_, ?_, HR1⟩
    · exact tabs_keep HT.out (HK.out.alloc _) trivial trivial
    · exact (Keep.refl _ _).alloc _
    · have hl : s.data.toList.length = s.size := rfl
      show s.data.toList.length < _; omega
  case round =>
    clear HR1
    obtain ⟨x0, out, v, HL, hkp, hk0, HRt⟩ := hrel
    obtain ⟨g, hg⟩ : ∃ g, gk = g + 1 := ⟨gk - 1, by omega⟩
    have HG := Lib.hid hg
    have HK0 := Lib.hid hk0
    have HKp := Lib.hid hkp
    rw [hg] at HRt
    obtain ⟨pl, hb⟩ := HL.blk
    have hbl := blank_walk HL.ok HS.out HL.e hb HL.tabs HL.three
    rw [blank_P x0.rest.length x0 (x0.rest.length + 1) (x0.rest.length + 1) HL.e (Nat.le_refl _) (Nat.lt_succ_self _) (Nat.lt_succ_self _)] at hbl
    have HF := Lib.hid (@rt_fix g x0 out)
    obtain ⟨B, HB⟩ : ∃ B, Hid (Lx.blank (x0.rest.length + 1) x0 = B) := ⟨_, rfl⟩
    have HHd : Hid (B.e = 0 → ∀ c r, B.rest = c :: r → c.toNat ≠ 32 ∧ c.toNat ≠ 10) := by
      intro h; have := Lx.blank_head (x0.rest.length + 1) x0 (Or.inr (Nat.lt_succ_self _)); rw [HB.out] at this; exact this h
    have HBl : Hid (B.rest.length ≤ x0.rest.length) := by have := Lx.blank_le (x0.rest.length + 1) x0; rw [HB.out] at this; exact this
    have HBo : Hid (B.ok s) := by show _; rw [← HB.out]; exact Lx.blank_ok _ _ HL.ok
    rw [HB.out] at HF hbl
    by_cases hFe : (Lx.fix B).e = 0
    · have hBe : B.e = 0 := by
        by_cases h : B.e = 0
        · exact h
        · rw [fix_bad h] at hFe; exact hFe
      have hBp : B.pass.e = 0 := by
        by_cases h : B.pass.e = 0
        · exact h
        · rw [fix_pass hBe h] at hFe; exact hFe
      rw [fix_same hBe hBp] at hbl
      have HBk := Lib.hid (hbl.mono (R' := fun e w' => e = .returned (.bool true) ∧ (∃ pl : Int, w'.heap[w1.heap.size]? = some (SObj s (.map (some W.heap.size)) v B.at_ B.line B.col 0 pl)) ∧ Keep (fun k => k ≠ w1.heap.size) wr w') (fun e w' h => post_true hBe h))
      obtain ⟨st, hst⟩ : ∃ st, stepOf B out = st := ⟨_, rfl⟩
      have HRs := Lib.hid (rt_step (g := g) (out := out) HB.out hBe)
      have HBe := Lib.hid hBe
      have HBp := Lib.hid hBp
      have HLh := Lib.hid HL
      have HTk : Hid (∀ w2, LS s W.heap.size w1.heap.size B out v w2 → Calls Tryd.prog 18 #[.pointer (some ⟨w1.heap.size, 0, none⟩)] w2 (TkPost s W.heap.size w1.heap.size w2 (stepOf B out))) :=
        fun w2 h2 => token_any h2 HS.out HBp.out (fun _ => HHd.out HBe.out)
      rw [hst] at HTk HRs
      have HSt := Lib.hid hst
      clear hg hk0 hkp hb hbl hFe hBe hBp hst HL HF
      cases st with
      | go Y out' =>
        have HY := Lib.hid (step_go HBe.out (HHd.out HBe.out) HSt.out)
        go_wp2_with (first
          | (go_at_call 17; go_must (refine HBk.out.mono ?_; rintro e w2 ⟨rfl, ⟨q2, hb2⟩, hk2⟩; have HL2 := Lib.hid (HLh.out.next HBo.out HBe.out hb2 hk2); have HK2 := Lib.hid (HKp.out.trans (hk2.mono (fun _ _ h => Nat.ne_of_lt h))); clear hb2 hk2))
          | (go_at_call 18; go_must (refine (HTk.out _ HL2.out).mono ?_; rintro e w3 ⟨hk3, rfl, v3, hl3⟩; have HL3 := Lib.hid hl3; have HK3 := Lib.hid (HK2.out.trans hk3); clear hk3 hl3)))
        go_roundg g
        case measure => have := HG.out; omega
        case rel => exact ⟨Y, out', v3, HL3.out, HK3.out, by have := HY.out; have := HBl.out; have := HK0.out; have := HG.out; omega, by show _ = _; rw [← HRt.out, HRs.out]; rfl⟩
      | done out' =>
        have HE : Hid (refTokens s.data.toList = (out', 0, 0)) := by show _ = _; rw [HR0.out, ← HRt.out, HRs.out]; rfl
        go_wp2_with (first
          | (go_at_call 17; go_must (refine HBk.out.mono ?_; rintro e w2 ⟨rfl, ⟨q2, hb2⟩, hk2⟩; have HL2 := Lib.hid (HLh.out.next HBo.out HBe.out hb2 hk2); have HK2 := Lib.hid (HKp.out.trans (hk2.mono (fun _ _ h => Nat.ne_of_lt h))); clear hb2 hk2))
          | (go_at_call 18; go_must (refine (HTk.out _ HL2.out).mono ?_; rintro e w3 ⟨hk3, rfl, v3, a3, l3, c3, p3, hb3, ho3⟩; have HO3 := Lib.hid ho3; have HK3 := Lib.hid (HK2.out.trans hk3); have hc3 := blk_cell hb3; have hlt3 := blk_lt hb3; clear hk3 hb3 ho3)))
        go_ret3
        exact tok_ok (W := W) HE.out (own_mono HO3.out (Nat.succ_le_succ (Nat.le_of_lt HBp'.out))) ((HK.out.mono (fun _ _ _ => trivial)).trans (HK3.out.mono (fun k _ h => Nat.lt_trans h HBp'.out)))
      | err p q =>
        have HE : Hid (refTokens s.data.toList = ([], p, q)) := by show _ = _; rw [HR0.out, ← HRt.out, HRs.out]; rfl
        have hq0 := step_err HSt.out
        have hq : (q != 0) = true := by rw [bne_iff_ne]; exact hq0
        clear hq0
        go_wp2_with (first
          | (go_at_call 17; go_must (refine HBk.out.mono ?_; rintro e w2 ⟨rfl, ⟨q2, hb2⟩, hk2⟩; have HL2 := Lib.hid (HLh.out.next HBo.out HBe.out hb2 hk2); have HK2 := Lib.hid (HKp.out.trans (hk2.mono (fun _ _ h => Nat.ne_of_lt h))); clear hb2 hk2))
          | (go_at_call 18; go_must (refine (HTk.out _ HL2.out).mono ?_; rintro e w3 ⟨hk3, rfl, v3, a3, l3, c3, hb3⟩; have HK3 := Lib.hid (HK2.out.trans hk3); have hc3 := blk_cell hb3; have hlt3 := blk_lt hb3; clear hk3 hb3)))
        go_quiet (fail)
        go_wp2_with (fail)
        go_ret3
        exact tok_err HE.out ((HK.out.mono (fun _ _ _ => trivial)).trans ((HK3.out.mono (fun k _ h => Nat.lt_trans h HBp'.out)).drewN _))
    · have HBk := Lib.hid (hbl.mono (R' := fun e w' => e = .returned (.bool false) ∧ w'.heap[w1.heap.size]? = some (SObj s (.map (some W.heap.size)) v (Lx.fix B).at_ (Lx.fix B).line (Lx.fix B).col (Lx.fix B).e (Lx.fix B).at_) ∧ Keep (fun k => k ≠ w1.heap.size) wr w') (fun e w' h => post_false hFe h))
      have HE : Hid (refTokens s.data.toList = ([], ((Lx.fix B).at_ : Int), ((Lx.fix B).e : Int))) := by show _ = _; rw [HR0.out, ← HRt.out]; exact HF.out hFe
      have hq : (((Lx.fix B).e : Int) != 0) = true := by rw [bne_iff_ne]; omega
      clear hg hk0 hkp hb hbl hFe HL HF
      generalize Lx.fix B = F at *
      go_wp2_with (go_at_call 17; go_must (refine HBk.out.mono ?_; rintro e w2 ⟨rfl, hb2, hk2⟩; have hc2 := blk_cell hb2; have hlt2 := blk_lt hb2; have HK2 := Lib.hid (HKp.out.trans (hk2.mono (fun _ _ h => Nat.ne_of_lt h))); clear hb2 hk2))
      go_quiet (fail)
      go_wp2_with (fail)
      go_ret3
      exact tok_err HE.out ((HK.out.mono (fun _ _ _ => trivial)).trans ((HK2.out.mono (fun k _ h => Nat.lt_trans h HBp'.out)).drewN _))

/-- Both, at every text. -/
theorem ltokens_any (s : ByteArray) (W : World) (hT : Lib.Utf8Tabs 2 3 W) (htab : Lib.TabIs Tryd.prog W "strings.asciiSpace" .u8 Lib.asciiSpaceTab) :
    Calls Tryd.prog 9 #[.string s] W (TokPost s.data.toList W) := by
  by_cases h : s.size ≤ 65536
  · exact ltokens_small s W h hT htab
  · exact ltokens_big s W (by omega)
theorem rtokens_any (s : ByteArray) (W : World) : Calls Tryd.prog 10 #[.string s] W (TokPost s.data.toList W) := by
  by_cases h : s.size ≤ 65536
  · exact rtokens_small s W (by omega)
  · exact rtokens_big s W (by omega)
end Go.Proofs.YtglkdhodpgnlgaaDoor
