/-
  The reference's Tokens on a text of at most 65536 bytes: it computes 'refTokens'. Condition: that size.
-/
import Derived.Test.YtglkdhodpgnlgaaDoorRTokA
import Derived.Test.YtglkdhodpgnlgaaDoorRTokB
namespace Go.Proofs.YtglkdhodpgnlgaaDoor
open Go.RowKit Go.Tel

set_option maxRecDepth 1000000 in
set_option maxHeartbeats 8000000 in
theorem rtokens_small (s : ByteArray) (W : World) (hs : (s.size : Int) ≤ 65536) :
    Calls Tryd.prog 10 #[.string s] W (TokPost s.data.toList W) := by
  have hs' : (s.size : Int) ≤ 100000 := by omega
  have HS := Lib.hid hs
  obtain ⟨R, HR0⟩ : ∃ R, Hid (refTokens s.data.toList = R) := ⟨_, rfl⟩
  have HR1 : Hid (rtoks (s.size + 2) ⟨s.data.toList, 0, 1, 1, 0⟩ [] = R) := by
    show _ = _
    have h := HR0.out
    have hl : s.data.toList.length = s.size := by cases s; rfl
    unfold refTokens at h
    rw [hl, if_neg (by omega)] at h
    exact h
  go_enter Tryd.func10, Tryd.ntmps10
  go_wp2_with (fail)
  go_loopg [6] (s.size + 2) (fun k v wr => ∃ (x : Lx) (out : List Tok), TS s W.heap.size W v out x wr ∧ x.e = 0 ∧ x.rest.length < k ∧ Hid (rtoks k x out = R))
  case atStart =>
    refine ⟨⟨s.data.toList, 0, 1, 1, 0⟩, [], ⟨⟨rfl, Nat.zero_le _, Nat.le_refl _, Nat.le_refl _⟩, blk_new _ _, World.ownsRow_nil _ _ _ _, ?_⟩, rfl, ?_, HR1⟩
    · exact (Keep.refl _ _).alloc _
    · have hl : s.data.toList.length = s.size := by cases s; rfl
      show s.data.toList.length < _; omega
  case round =>
    obtain ⟨x0, out, HT, he0, hk0, HRt⟩ := hrel
    obtain ⟨X, HX⟩ : ∃ X, Hid (Lx.blank (x0.rest.length + 1) x0 = X) := ⟨_, rfl⟩
    have HXh : Hid (X.e = 0 → ∀ c r, X.rest = c :: r → c.toNat ≠ 32 ∧ c.toNat ≠ 10) := by
      intro h; have := Lx.blank_head (x0.rest.length + 1) x0 (Or.inr (Nat.lt_succ_self _)); rw [HX.out] at this; exact this h
    have HXl : Hid (X.rest.length ≤ x0.rest.length) := by have := Lx.blank_le (x0.rest.length + 1) x0; rw [HX.out] at this; exact this
    obtain ⟨g, hg⟩ : ∃ g, gk = g + 1 := ⟨gk - 1, by omega⟩
    have HG := Lib.hid hg
    have HK0 := Lib.hid hk0
    have HE0 := Lib.hid he0
    rw [hg] at HRt
    clear hg hk0 he0 HR1
    obtain ⟨p6, c6, hv6⟩ := own_form HT.2.2.1
    subst hv6
    go_upto_block 2 with (fail)
    go_cut [] (fun wc => TS s W.heap.size W (.slice p6 out.length c6) out X wc)
    case first =>
      go_wp2_with (fail)
      refine blank_loop s W _ hs' x0 X _ out HT HX _ _ _ _ _ _ _ _ _ _ _ _ _ _ _ _ _ _ _ _ _ _ _ _ _ _ _ _ _ _ _ _ _ _ _ _ _ _ _ _ _ _ _ _ _ _ _ _ _ _ _ _ _ _ _ _ _ _ _ _ _ _ _ _ _ _ _ _ _ _ _ _ _ _ _ _ _ _ _ _ _ _ _ _ _ _ _ _ _ _ _ _ _ _ _ _ _ _ _ _ _ _ _ _ _ _ _ _ _ _ _ _ _ _ _ _ _ _ _ _ _ _ _ _ _ _ _ _ _ _ _ _ _ _ _ _ _ _ _ _ _ _ _ _ _ _ _ _ _ _ _ _ _ _ _ _ _ _ _ _ _ _ _ _ _ _ _ _ _ _ _ _ _ _ _ _ _ _ _ _ _ _ _ _ _ _ _ _ _ _ _ _ _ _ _ _ _ _ _ _ _ _ _ _ _ _ _ _ _ _ _ _ _ _ _ _ _ _ _ _ _ _ _ _ _ _ _ _ _ _ _ _ ?_
      intro _ _ _ _ _ _ _ _ _ _ _ _ _ _ _ _ _ _ _ _ _ _ _ _ _ _ _ _ _ _ _ _ _ _ _ _ _ _ _ _ _ _ _ _ _ _ _ _ _ _ _ _ _ _ _ _ _ _ _ _ _ _ _ _ _ _ _ _ _ _ _ _ _ _ _ _ _ _ _ _ _ _ _ _ w' hT
      go_wp2_with (fail)
      go_meet
      case rel => exact hT
    case rest =>
      clear HT
      obtain ⟨wo, rfl⟩ : ∃ wo : World, wo = wc := ⟨_, rfl⟩
      have hok := hcut.1
      have hc := blk_cell hcut.2.1
      have hlt := blk_lt hcut.2.1
      have HT := Lib.hid hcut; clear hcut
      have hat : (X.at_ : Int) ≤ (s.size : Int) := by have := hok.at_; omega
      by_cases h2 : X.e = 0
      · have h2' : ((X.e : Int) != 0) = false := by rw [h2]; rfl
        have HE := Lib.hid h2; clear h2
        go_wp2_with (fail)
        go_region
        by_cases hA : X.at_ < s.size
        · have hA' : (X.at_ : Int) < (s.size : Int) := by omega
          have HR := Lib.hid (rest_cons hok hA)
          have H := Lib.hid (rtoks_tok (k := g) (out := out) HX.out HE.out HR.out)
          have Hsh := Lib.hid (Lx.step_shorter (k := X.rest.length) HR.out (HXh.out HE.out _ _ HR.out) HE.out)
          obtain ⟨Y, HY⟩ : ∃ Y, Hid (nextOf X s[X.at_] = Y) := ⟨_, Lib.hid rfl⟩
          have hYok : Y.ok s := by rw [← HY.out]; exact nextOf_ok hok _
          have hYle : Hid (Y.rest.length ≤ X.rest.length) := by show _ ≤ _; rw [← HY.out]; exact nextOf_le _ _
          have hbxt : Hid (W.heap.size < wo.heap.size) := blk_lt HT.out.2.1
          have hvt := Lib.hid (own_not HT.out.2.2.1 (Nat.le_refl _))
          go_upto_if 144 with (go_at_call 20; refine (delim_any _ _).mono ?_; rintro e w1 ⟨rfl, rfl⟩)
          go_cut [] (fun wx => TS s W.heap.size W (.slice p6 out.length c6) out Y wx ∧ wx.heap[wo.heap.size]? = some (TokObj (if isDelim s[X.at_] = true then 2 else 7) (mkS []) X.at_ X.line X.col))
          case first =>
            by_cases hd : isDelim s[X.at_] = true
            · have HD := Lib.hid hd
              have HTd := Lib.hid (HT.out.alloc (TokObj 7 (mkS []) X.at_ X.line X.col)).drew
              have hYp : Hid (X.pass = Y) := by show _ = _; rw [← HY.out]; unfold nextOf; rw [if_pos hd]
              simp only [hd]
              go_wp2_with (go_at_call 19; go_must (refine (pass_any s _ X _ hs' hok hA HTd.out.2.1).mono ?_; rintro e w1 ⟨rfl, hb1, hk1⟩; have HT1 := Lib.hid (HTd.out.pass hb1 hk1); have HB1 := Lib.hid (hk1.blk (blk_new _ _) (Nat.ne_of_gt hbxt.out)); have hc1 := blk_cell HB1.out; have hf1 := blk_free HB1.out; have hl1 := blk_lt HB1.out; clear hb1 hk1))
              go_meet
              case rel =>
                rw [if_pos HD.out, ← hYp.out]
                exact ⟨HT1.out.set _ _ hbxt.out hvt.out, blk_set HB1.out 0 _⟩
            · have hYr : Hid (Lx.run (X.rest.length + 1) X = Y) := by show _ = _; rw [← HY.out]; unfold nextOf; rw [if_neg hd]
              have hd' : isDelim s[X.at_] = false := by simpa using hd
              have HD0 := Lib.hid hd'
              clear hd
              simp only [hd']
              go_wp2_with (fail)
              refine run_loop s W _ hs' X Y _ out _ _ hbxt (HT.out.alloc (TokObj 7 (mkS []) X.at_ X.line X.col)).drew (blk_new wo (TokObj 7 (mkS []) X.at_ X.line X.col)) hYr _ _ _ _ _ _ _ _ _ _ _ _ _ _ _ _ _ _ _ _ _ _ _ _ _ _ _ _ _ _ _ _ _ _ _ _ _ _ _ _ _ _ _ _ _ _ _ _ _ _ _ _ _ _ _ _ _ _ _ _ _ _ _ _ _ _ _ _ _ _ _ _ _ _ _ _ _ _ _ _ _ _ _ _ _ _ _ _ _ _ _ _ _ _ _ _ _ _ _ _ _ _ _ _ _ _ _ _ _ _ _ _ _ _ _ _ _ _ _ _ _ _ _ _ _ _ _ _ _ _ _ _ _ _ _ _ _ _ _ _ _ _ _ _ _ _ _ _ _ _ _ _ _ _ _ _ _ _ _ _ _ _ _ _ _ _ _ _ _ _ _ _ _ _ _ _ _ _ _ _ _ _ _ _ _ _ _ _ _ _ _ _ _ _ _ _ _ _ _ _ _ _ _ _ _ _ _ _ _ _ _ _ _ _ _ _ _ _ _ _ _ _ _ _ _ _ _ _ _ _ _ _ ?_
              intro _ _ _ _ _ _ _ _ _ _ _ _ _ _ _ _ _ _ _ _ _ _ _ _ _ _ _ _ _ _ _ _ _ _ _ _ _ _ _ _ _ _ _ _ w' hT
              go_wp2_with (fail)
              go_meet
              case rel => rw [if_neg (by rw [HD0.out]; simp)]; exact hT
          case rest =>
            obtain ⟨hT2, hB2⟩ := hcut
            clear hc hlt
            have hcY := blk_cell hT2.2.1
            have hltY := blk_lt hT2.2.1
            have hcB := blk_cell hB2
            have hfB := blk_free hB2
            have hltB := blk_lt hB2
            have HT2 := Lib.hid hT2; clear hT2
            have HB2 := Lib.hid hB2; clear hB2
            have hle := at_le hok hYok hYle.out
            have hle' : (X.at_ : Int) ≤ (Y.at_ : Int) := by omega
            have hYs : (Y.at_ : Int) ≤ (s.size : Int) := by have := hYok.at_; omega
            obtain ⟨q, hq⟩ : ∃ q, Hid (kindAt X Y s[X.at_] = q) := ⟨_, Lib.hid rfl⟩
            have H2 := Lib.hid (by have h := H.out; rw [HY.out, hq.out] at h; exact h)
            clear H
            by_cases h3 : Y.e = 0
            · have h3' : ((Y.e : Int) != 0) = false := by rw [h3]; rfl
              have HE3 := Lib.hid h3; clear h3
              have HT3 := Lib.hid (HT2.out.set 1 (.string (s.extract X.at_ Y.at_)) hbxt.out hvt.out)
              have HB3 : Hid ((wc.setCell ⟨wo.heap.size, 1, none⟩ (.string (s.extract X.at_ Y.at_))).heap[wo.heap.size]? = some (TokObj (if isDelim s[X.at_] = true then 2 else 7) (s.extract X.at_ Y.at_) X.at_ X.line X.col)) := blk_set HB2.out 1 _
              by_cases hq2 : q.2.2 = 0
              · have hq2' : (q.2.2 != 0) = false := by rw [hq2]; rfl
                have HQ2 := Lib.hid hq2; clear hq2
                have h7 : (q.1 == 7) = false := beq_eq_false_iff_ne.2 (by rw [← hq.out]; exact kindAt_ne7 _ _ _)
                by_cases hL : (20000 : Int) ≤ (out.length : Int)
                · have H4 : Hid (refTokens s.data.toList = ([], (X.at_ : Int), 2)) := by
                    show _ = _
                    rw [HR0.out, ← HRt.out, H2.out, if_neg (by have := HE3.out; omega), if_neg (by have := HQ2.out; omega), if_pos (by omega)]
                  go_wp2_with (go_at_call 21; go_must (refine (kind_both s X Y s[X.at_] wo.heap.size _ hs' hok HB3.out).mono ?_; rw [hq.out]; rintro e w2 ⟨rfl, hb2, hk2⟩; have HK2 := Lib.hid (HT3.out.keep hk2 hbxt.out hvt.out).2.2.2; have hcB2 := blk_cell hb2; have hlB2 := blk_lt hb2; clear hb2 hk2))
                  go_quiet (fail)
                  go_wp2_with (fail)
                  go_ret3
                  exact tok_err H4.out (HK2.out.drewN _)
                · have hL' : (out.length : Int) < 20000 := by omega
                  have HR4 : Hid (rtoks g Y (out ++ [⟨q.1, mkS q.2.1, X.at_, X.line, X.col⟩]) = R) := by
                    show _ = _
                    rw [← HRt.out, H2.out, if_neg (by have := HE3.out; omega), if_neg (by have := HQ2.out; omega), if_neg (by omega)]
                  have HF4 : Hid (Y.rest.length < g) := by
                    show _ < _
                    have h5 := Hsh.out
                    have h6 : (if isDelim s[X.at_] = true then X.pass else Lx.run (X.rest.length + 1) X) = Y := HY.out
                    rw [h6] at h5
                    have := HXl.out; have := HK0.out; have := HG.out; have := HE3.out
                    rcases h5 with h5 | h5
                    · exact absurd HE3.out h5
                    · omega
                  have HO3 : Hid (out.length < 200000) := by show _ < _; omega
                  clear hL
                  go_wp2_with (first
                    | (go_at_call 21; go_must (refine (kind_both s X Y s[X.at_] wo.heap.size _ hs' hok HB3.out).mono ?_; rw [hq.out]; rintro e w2 ⟨rfl, hb2, hk2⟩; have HT4 := Lib.hid (HT3.out.keep hk2 hbxt.out hvt.out); have hcB2 := blk_cell hb2; have hlB2 := blk_lt hb2; have HB4 := Lib.hid hb2; have HO1 := Lib.hid (HT4.out.2.2.1.alloc (TokObj q.1 (mkS q.2.1) X.at_ X.line X.col)); have HO2 := Lib.hid (blk_new w2 (TokObj q.1 (mkS q.2.1) X.at_ X.line X.col)); have HO4 : Hid (W.heap.size + 1 ≤ (w2.alloc (TokObj q.1 (mkS q.2.1) X.at_ X.line X.col)).heap.size) := Nat.le_trans (Nat.succ_le_of_lt (blk_lt HT4.out.2.1)) (by rw [size_alloc']; exact Nat.le_succ _); clear hb2 hk2))
                    | (at_builtin; go_must (refine wpList_append_tok rfl _ _ rfl (W.heap.size + 1) _ out rfl HO1.out _ ⟨q.1, mkS q.2.1, X.at_, X.line, X.col⟩ rfl HO2.out HO3.out HO4.out ?_; intro v' w' hown hgr; have HT5 := Lib.hid ((HT4.out.alloc _).grown hgr hown); have hbt := blk_cell (grown_old hgr (blk_alloc HB4.out _) hvt.out); have hbl := blk_lt (grown_old hgr (blk_alloc HB4.out _) hvt.out); clear hown hgr)))
                  go_roundg g
                  case measure => have := HG.out; omega
                  case rel => exact ⟨Y, _, HT5.out, HE3.out, HF4.out, HR4⟩
              · have hq2' : (q.2.2 != 0) = true := by rw [bne_iff_ne]; exact hq2
                have H4 : Hid (refTokens s.data.toList = ([], (X.at_ : Int), q.2.2)) := by
                  show _ = _
                  rw [HR0.out, ← HRt.out, H2.out, if_neg (by have := HE3.out; omega), if_pos hq2]
                clear hq2
                go_wp2_with (go_at_call 21; go_must (refine (kind_both s X Y s[X.at_] wo.heap.size _ hs' hok HB3.out).mono ?_; rw [hq.out]; rintro e w2 ⟨rfl, hb2, hk2⟩; have HK2 := Lib.hid (HT3.out.keep hk2 hbxt.out hvt.out).2.2.2; clear hb2 hk2))
                go_ret3
                exact tok_err H4.out HK2.out
            · have h3' : ((Y.e : Int) != 0) = true := by rw [bne_iff_ne]; omega
              have H4 : Hid (refTokens s.data.toList = ([], (Y.at_ : Int), (Y.e : Int))) := by
                show _ = _
                rw [HR0.out, ← HRt.out, H2.out, if_pos h3]
              clear h3
              go_wp2_with (fail)
              go_quiet (fail)
              go_wp2_with (fail)
              go_ret3
              exact tok_err H4.out (HT2.out.2.2.2.drewN _)
        · have hA' : (s.size : Int) ≤ (X.at_ : Int) := by omega
          have H := Lib.hid (rtoks_end (k := g) (out := out) HX.out HE.out (rest_nil hok hA))
          by_cases hL : (20000 : Int) ≤ (out.length : Int)
          · have H1 : Hid (refTokens s.data.toList = ([], (X.at_ : Int), 2)) := by
              show _ = _
              rw [HR0.out, ← HRt.out, H.out, if_pos (by omega)]
            go_wp2_with (fail)
            go_quiet (fail)
            go_wp2_with (fail)
            go_ret3
            exact tok_err H1.out ((HT.out.2.2.2.alloc _).drew.drewN _)
          · have hL' : (out.length : Int) < 20000 := by omega
            have H1 : Hid (refTokens s.data.toList = (out ++ [⟨7, mkS [], X.at_, X.line, X.col⟩], 0, 0)) := by
              show _ = _
              rw [HR0.out, ← HRt.out, H.out, if_neg (by omega)]
            have HO1 := Lib.hid ((HT.out.2.2.1.alloc (TokObj 7 (mkS []) X.at_ X.line X.col)).alloc (TokObj 7 (mkS []) X.at_ X.line X.col))
            have HO2 := Lib.hid (blk_new1 wo (TokObj 7 (mkS []) X.at_ X.line X.col) (TokObj 7 (mkS []) X.at_ X.line X.col))
            have HO3 : Hid (out.length < 200000) := by show _ < _; omega
            have HO4 : Hid (W.heap.size + 1 ≤ ((wo.alloc (TokObj 7 (mkS []) X.at_ X.line X.col)).alloc (TokObj 7 (mkS []) X.at_ X.line X.col)).heap.size) := by
              show _ ≤ _; have := HT.out.2.2.2.size; rw [size_alloc', size_alloc']; omega
            have HO5 := Lib.hid (blk_alloc (blk_new wo (TokObj 7 (mkS []) X.at_ X.line X.col)) (TokObj 7 (mkS []) X.at_ X.line X.col))
            go_wp2_with (at_builtin; refine wpList_append_tok rfl _ _ rfl (W.heap.size + 1) _ out rfl HO1.out (wo.heap.size + 1) ⟨7, mkS [], X.at_, X.line, X.col⟩ rfl HO2.out HO3.out HO4.out ?_; intro v' w' hown hgr; have HO := Lib.hid hown; have HKk := Lib.hid (((HT.out.2.2.2.alloc _).alloc _).drew.grown hgr (fun k hk => Or.inr (by have := own_ge HT.out.2.2.1 k hk; omega))); have hbt := blk_cell (grown_old hgr HO5.out (own_not HT.out.2.2.1 (Nat.le_refl _))); clear hown hgr)
            go_ret3
            exact tok_ok H1.out HO.out HKk.out
      · have h2' : ((X.e : Int) != 0) = true := by rw [bne_iff_ne]; omega
        have H := Lib.hid (rtoks_err (k := g) (out := out) HX.out h2); clear h2
        go_wp2_with (fail)
        go_quiet (fail)
        go_wp2_with (fail)
        go_ret3
        exact tok_err (HR0.out.trans (HRt.out.symm.trans H.out)) (HT.out.2.2.2.drewN _)

end Go.Proofs.YtglkdhodpgnlgaaDoor
