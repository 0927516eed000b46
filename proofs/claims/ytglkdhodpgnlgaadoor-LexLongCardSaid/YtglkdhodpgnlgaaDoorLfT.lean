/-
  The law LexTokens. Condition: Go's decoder's tables and the library's table of blanks lie as they are laid.
-/
import Derived.Test.YtglkdhodpgnlgaaDoorLxL
namespace Go.Proofs.YtglkdhodpgnlgaaDoor
open Go.RowKit Go.Tel

theorem own_cell {w : World} {base e size g n cap : Nat} {xs : List Value} (h : w.ownsRow base e size (.slice (some ⟨g, 0, none⟩) n cap) n xs) {j : Nat} {u : Value} (hj : xs[j]? = some u) : w.cell? ⟨g, j, none⟩ = some u := by
  have hl := (List.getElem?_eq_some_iff.1 hj).1
  rcases h.2 with ⟨h', _⟩ | ⟨g', cap', cur, h', hb, hg, hnc, hcm, hcs, ht⟩
  · cases h'
  · cases h'
    rw [blk_cell hg, ← hj, ← ht, List.getElem?_take, if_pos]
    · simp
    · rw [← ht, List.length_take] at hl; omega

set_option maxRecDepth 100000 in
set_option maxHeartbeats 4000000 in
theorem lexTokens_any (s1 s2 : ByteArray) (w : World) (hT : Tabs w) :
    Calls Tryd.prog 3 #[.string s1, .string s2] w fun e w' => e = .returned (.bool true) ∧ Keep (fun _ => True) w w' := by
  have HT := Lib.hid hT
  have H1 := Lib.hid (fun (w1 : World) (h : Tabs w1) => ltokens_any s1 w1 h.utf8 h.blank)
  have H2 := Lib.hid (fun (w1 : World) (h : Tabs w1) => ltokens_any s2 w1 h.utf8 h.blank)
  have H3 := Lib.hid (fun (w1 : World) => rtokens_any s1 w1)
  unfold TokPost at H1 H2 H3
  generalize refTokens s1.data.toList = r1 at *
  generalize refTokens s2.data.toList = r2 at *
  obtain ⟨out1, p1, e1⟩ := r1
  obtain ⟨out2, p2, e2⟩ := r2
  clear hT
  by_cases hz1 : (s1.size : Int) > 70000
  · go_enter Tryd.func3, Tryd.ntmps3
    go_wp2_with (go_at_call 8; go_must (refine (alive_any _ HT.out).mono ?_; rintro e w1 ⟨rfl, hk1⟩; have HK1 := Lib.hid hk1; clear hk1))
    go_ret
    exact ⟨rfl, HK1.out⟩
  · by_cases hz2 : (s2.size : Int) > 70000
    · go_enter Tryd.func3, Tryd.ntmps3
      go_wp2_with (go_at_call 8; go_must (refine (alive_any _ HT.out).mono ?_; rintro e w1 ⟨rfl, hk1⟩; have HK1 := Lib.hid hk1; clear hk1))
      go_ret
      exact ⟨rfl, HK1.out⟩
    · go_enter Tryd.func3, Tryd.ntmps3
      go_upto_region 6 with (first
        | (go_at_call 8; go_must (refine (alive_any _ HT.out).mono ?_; rintro e w1 ⟨rfl, hk1⟩; have HK1 := Lib.hid hk1; clear hk1))
        | (go_at_call 9; first
          | (refine (H1.out _ (HT.out.keep HK1.out)).mono ?_; rintro e w2 ⟨v1, rfl, ho1, hk2⟩; have HO1 := Lib.hid ho1; have HK2 := Lib.hid (HK1.out.trans hk2); clear ho1 hk2 H1)
          | (go_must (refine (H2.out _ (HT.out.keep HK2.out)).mono ?_; rintro e w3 ⟨v2, rfl, ho2, hk3⟩; have HO2 := Lib.hid ho2; have HO1' := Lib.hid (own_keep HO1.out hk3 (fun _ _ => trivial)); have HLt1 := Lib.hid (fun k hk => (HO1.out.lt k hk).2); have HKw := HK2; have HK23 := Lib.hid hk3; have HK3 := Lib.hid (HK2.out.trans hk3); clear ho2 hk3 H2))))
      clear hz1 hz2
      obtain ⟨q2, c2, hv2⟩ := own_form HO2.out
      subst hv2
      have hsm : (out2.length : Int) ≤ 9223372036854775807 := (holds_own HO2.out).small
      go_wp2_with (fail)
      go_loopg [12] out2.length (fun k v wl => ∃ (i : Nat) (xs : List Value), v = .int .i64 i ∧ i + k = out2.length ∧ wl.ownsRow w2.heap.size 28 5 (.slice q2 out2.length c2) out2.length xs ∧ Keep (fun k => k < w2.heap.size) w3 wl)
      case atStart => exact ⟨0, _, rfl, by omega, HO2.out, Keep.refl _ _⟩
      case round =>
        obtain ⟨i, xs, rfl, hik, ho, hk⟩ := hrel
        have HO := Lib.hid ho
        have HK := Lib.hid hk
        rcases Nat.eq_zero_or_pos gk with rfl | hgk
        · obtain rfl : i = out2.length := by omega
          clear ho hk hik
          have ho1k := Lib.hid (own_keep HO1'.out HK.out (fun k hk => HLt1.out k hk))
          go_wp2_with (first
            | (go_at_call 10; go_must (refine (H3.out _).mono ?_; rintro e w4 ⟨v3, rfl, ho3, hk4⟩; have HO3 := Lib.hid ho3; have HO1k := Lib.hid (own_keep ho1k.out hk4 (fun _ _ => trivial)); have HK4 := Lib.hid (HK.out.trans (hk4.mono (fun _ _ _ => trivial))); clear ho3 hk4))
            | (go_at_call 11; go_must (refine (num_any _ _).mono ?_; rintro e w5 ⟨rfl, rfl⟩))
            | (go_at_call 12; go_must (refine (same_true (holds_own HO1k.out) (holds_own HO3.out)).mono ?_; rintro e w5 ⟨rfl, hk5⟩; have HK5 := Lib.hid (HK4.out.trans (hk5.mono (fun _ _ _ => trivial))); clear hk5)))
          go_ret
          exact ⟨rfl, HKw.out.trans ((HK23.out.mono (fun _ _ _ => trivial)).trans HK5.out |>.mono (fun k hk _ => hk))⟩
        · obtain ⟨q, rfl⟩ : ∃ q, gk = q + 1 := ⟨gk - 1, by omega⟩
          have hi : i < out2.length := by omega
          have hiI : (i : Int) < (out2.length : Int) := by omega
          have hlen : xs.length = out2.length * 5 := ho.1
          obtain ⟨g, rfl⟩ : ∃ g, q2 = some ⟨g, 0, none⟩ := by
            rcases ho.2 with ⟨h', h0⟩ | ⟨g', cap', cur, h', _⟩
            · omega
            · cases h'; exact ⟨_, rfl⟩
          have hc0 := own_cell ho (List.getElem?_eq_getElem (show i * 5 < xs.length by omega))
          have hc1 := own_cell ho (List.getElem?_eq_getElem (show i * 5 + 1 < xs.length by omega))
          have hc2 := own_cell ho (List.getElem?_eq_getElem (show i * 5 + 2 < xs.length by omega))
          have hc3 := own_cell ho (List.getElem?_eq_getElem (show i * 5 + 3 < xs.length by omega))
          have hc4 := own_cell ho (List.getElem?_eq_getElem (show i * 5 + 4 < xs.length by omega))
          have hf := fun j => ho.frozenAt j
          have hgl := cell_lt' hc0
          clear ho hk
          have hge := own_ge HO.out g rfl
          go_wp2_with (fail)
          go_roundg q
          case measure => omega
          case rel => exact ⟨i + 1, _, rfl, by omega, (((((HO.out.stored _ _).1.stored _ _).1.stored _ _).1.stored _ _).1.stored _ _).1, ((((HK.out.set _ (Or.inr (Nat.not_lt.2 hge)) _).set _ (Or.inr (Nat.not_lt.2 hge)) _).set _ (Or.inr (Nat.not_lt.2 hge)) _).set _ (Or.inr (Nat.not_lt.2 hge)) _).set _ (Or.inr (Nat.not_lt.2 hge)) _⟩
end Go.Proofs.YtglkdhodpgnlgaaDoor
