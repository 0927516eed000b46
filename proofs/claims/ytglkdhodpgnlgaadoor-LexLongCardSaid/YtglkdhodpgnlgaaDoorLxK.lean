/-
  The lexer of package lex: blank: it passes what parts tokens. Condition: the scanner stands at a place of the text; Go's decoder's tables lie as they are laid.
-/
import Derived.Test.YtglkdhodpgnlgaaDoorLxT1
import Derived.Test.YtglkdhodpgnlgaaDoorLxT2
import Derived.Test.YtglkdhodpgnlgaaDoorLxP
namespace Go.Proofs.YtglkdhodpgnlgaaDoor
open Go.RowKit Go.Tel

theorem till_ok {p : Nat → Bool} {s : ByteArray} (k : Nat) : ∀ x : Lx, x.ok s → (Lx.till p k x).ok s := by
  induction k with
  | zero => intro x h; exact h
  | succ k ih =>
    intro x h
    unfold Lx.till
    split
    · exact h
    · split
      · exact Lx.pass_ok h
      · split
        · exact h
        · exact ih _ (Lx.pass_ok h)
theorem till_le {p : Nat → Bool} (k : Nat) : ∀ x : Lx, (Lx.till p k x).rest.length ≤ x.rest.length := by
  induction k with
  | zero => intro x; exact Nat.le_refl _
  | succ k ih =>
    intro x
    unfold Lx.till
    split
    · exact Nat.le_refl _
    · split
      · exact Lx.pass_le x
      · split
        · exact Nat.le_refl _
        · exact Nat.le_trans (ih _) (Lx.pass_le x)
theorem dash_prefix {s : ByteArray} {x : Lx} (hx : x.ok s) : Lib.hasPrefix (s.extract x.at_ s.size).data.toList [45, 45] = dash2 x.rest := by
  have h1 : (s.extract x.at_ s.size).data.toList = x.rest := by
    rw [hx.rest, ByteArray.data_extract, Array.toList_extract]
    have : s.data.toList.length = s.size := rfl
    rw [List.extract_eq_take_drop, List.take_of_length_le (by rw [List.length_drop, this]; exact Nat.le_refl _)]
  rw [h1]
  generalize x.rest = l
  have hb : ∀ u : UInt8, ((45 : UInt8) == u) = (u.toNat == 45) := by
    intro u
    rw [Bool.eq_iff_iff, beq_iff_eq, beq_iff_eq]
    exact ⟨fun h => by rw [← h]; rfl, fun h => UInt8.toNat_inj.1 (by rw [h]; rfl)⟩
  match l with
  | [] => rfl
  | [c] => show ((45 : UInt8) == c && false) = false; rw [Bool.and_false]
  | c :: d :: r => show ((45 : UInt8) == c && ((45 : UInt8) == d && true)) = (c.toNat == 45 && d.toNat == 45); rw [hb, hb, Bool.and_true]

section
variable {w : World} {bp : Nat} {s : ByteArray} {mv vo : Value} {pl : Int} {x : Lx}
theorem post_true {z : Lx} {e : Ending} {w' : World} (hz : z.e = 0) (h : TillPost bp s mv vo z w e w') : e = .returned (.bool true) ∧ (∃ pl : Int, w'.heap[bp]? = some (SObj s mv vo z.at_ z.line z.col 0 pl)) ∧ Keep (fun k => k ≠ bp) w w' := by
  obtain ⟨rfl, ⟨pl, h1, _⟩, h3⟩ := h
  rw [hz] at h1 ⊢
  exact ⟨rfl, ⟨pl, h1⟩, h3⟩
theorem post_false {z : Lx} {e : Ending} {w' : World} (hz : z.e ≠ 0) (h : TillPost bp s mv vo z w e w') : e = .returned (.bool false) ∧ w'.heap[bp]? = some (SObj s mv vo z.at_ z.line z.col z.e z.at_) ∧ Keep (fun k => k ≠ bp) w w' := by
  obtain ⟨rfl, ⟨pl, h1, h2⟩, h3⟩ := h
  rw [h2 hz] at h1
  exact ⟨by rw [beq_eq_false_iff_ne.2 hz], h1, h3⟩
theorem prefix_any (s : ByteArray) {x : Lx} (hx : x.ok s) (w : World) :
    Calls Tryd.prog 25 #[.string (s.extract x.at_ s.size), .string ⟨#[45, 45]⟩] w fun e w' => e = .returned (.bool (dash2 x.rest)) ∧ Keep (fun _ => True) w w' := by
  refine (Tryd.strings_HasPrefix _ _ w).mono ?_
  rintro e w' ⟨rfl, rfl⟩
  refine ⟨?_, Keep.refl _ _⟩
  rw [← dash_prefix hx]

set_option maxRecDepth 100000 in
set_option maxHeartbeats 4000000 in
theorem blank_walk (hx : x.ok s) (hs : s.size ≤ 65536) (he : x.e = 0) (hb : w.heap[bp]? = some (SObj s mv vo x.at_ x.line x.col 0 pl)) (hT : Lib.Utf8Tabs 2 3 w) (hbp : 3 < bp) :
    Calls Tryd.prog 17 #[.pointer (some ⟨bp, 0, none⟩)] w (TillPost bp s mv vo (Lx.blankP (x.rest.length + 1) x) w) := by
  obtain ⟨z, hz⟩ : ∃ z, Lx.blankP (x.rest.length + 1) x = z := ⟨_, rfl⟩
  rw [hz]
  have HZ := Lib.hid hz
  have HB := Lib.hid hb
  have HX := Lib.hid hx
  have HE := Lib.hid he
  have HS := Lib.hid hs
  have HT := Lib.hid hT
  have HBp := Lib.hid hbp
  clear hz hb hx he hs hT hbp
  go_enter Tryd.func17, Tryd.ntmps17
  go_wp2_with (fail)
  go_loopg [] (x.rest.length + 1) (fun k wc => ∃ (y : Lx) (ql : Int), y.ok s ∧ y.e = 0 ∧ wc.heap[bp]? = some (SObj s mv vo y.at_ y.line y.col 0 ql) ∧ Keep (fun k => k ≠ bp) w wc ∧ y.rest.length < k ∧ Lx.blankP k y = z)
  case atStart => exact ⟨x, pl, HX.out, HE.out, HB.out, Keep.refl _ _, Nat.lt_succ_self _, HZ.out⟩
  case round =>
    clear HZ HB HX HE
    obtain ⟨y, ql, hy, he, hb, hk, hf, hz⟩ := hrel
    have hTw := tabs_keep HT.out hk (by have := HBp.out; omega) (by have := HBp.out; omega)
    obtain ⟨q, hq⟩ : ∃ q, gk = q + 1 := ⟨gk - 1, by omega⟩
    have HQ := Lib.hid hq
    have HF := Lib.hid hf
    have HK := Lib.hid hk
    rw [hq] at hz
    have h1 := till_solid hy HS.out he hb hTw HBp.out
    have hok1 := till_ok (p := solidP) (y.rest.length + 1) y hy
    have hle1 := till_le (p := solidP) (y.rest.length + 1) y
    unfold Lx.blankP at hz
    generalize Lx.till solidP (y.rest.length + 1) y = z1 at h1 hok1 hle1 hz
    by_cases he1 : z1.e = 0
    · rw [if_neg (by omega)] at hz
      have H1 := Lib.hid (h1.mono (R' := fun e w' => e = .returned (.bool true) ∧ (∃ pl : Int, w'.heap[bp]? = some (SObj s mv vo z1.at_ z1.line z1.col 0 pl)) ∧ Keep (fun k => k ≠ bp) wr w') (fun e w' h => post_true he1 h))
      have HP := Lib.hid (fun w => prefix_any s hok1 w)
      have ha1 : (z1.at_ : Int) ≤ (s.size : Int) := by have := hok1.at_; omega
      cases hd : dash2 z1.rest with
      | false =>
        rw [if_neg (by rw [hd]; simp)] at hz
        have HZ := Lib.hid hz
        have HE1 := Lib.hid he1
        rw [hd] at HP
        clear hy he hb hk hf hz hTw hq h1 hok1 hle1 he1 hd
        go_wp2_with (go_at_call 23; go_must (refine H1.out.mono ?_; rintro e w1 ⟨rfl, ⟨q1, hb1⟩, hk1⟩; have HB1 := Lib.hid hb1; have HK1 := Lib.hid hk1; clear hb1 hk1))
        have hc1 := blk_cell HB1.out
        have hlt1 := blk_lt HB1.out
        go_region_with (go_at_call 25; refine (HP.out _).mono ?_; rintro e w2 ⟨rfl, hk2⟩; have HK2 := Lib.hid hk2; clear hk2)
        all_goals
          clear hc1 hlt1
          go_wp2_with (fail)
          go_ret
          rw [← HZ.out]
          refine till_close (by rw [HE1.out]; rfl) (pl := q1) ?_ (fun h => absurd HE1.out h) (HK.out.trans (HK1.out.trans ((((Keep.refl (fun _ => True) w1).drewN _).trans HK2.out).mono (fun _ _ _ => trivial))))
          rw [HE1.out]
          exact (((Keep.refl (fun _ => True) w1).drewN _).trans HK2.out).blk HB1.out trivial
      | true =>
        rw [if_pos hd] at hz
        have h2 := fun (w2 : World) (q1 : Int) (hb2 : w2.heap[bp]? = some (SObj s mv vo z1.at_ z1.line z1.col 0 q1)) (hT2 : Lib.Utf8Tabs 2 3 w2) => till_nl hok1 HS.out he1 hb2 hT2 HBp.out
        have hok2 := till_ok (p := nlP) (z1.rest.length + 1) z1 hok1
        have hlt2 := Lx.comment_enough (k := z1.rest.length) (n := z1.rest.length) he1 hd (Nat.lt_succ_self _)
        rw [← till_comment _ z1 he1] at hlt2
        generalize Lx.till nlP (z1.rest.length + 1) z1 = z2 at h2 hok2 hlt2 hz
        by_cases he2 : z2.e = 0
        · rw [if_neg (by omega)] at hz
          have H2 := Lib.hid (fun w2 q1 hb2 hT2 => (h2 w2 q1 hb2 hT2).mono (R' := fun e w' => e = .returned (.bool true) ∧ (∃ pl : Int, w'.heap[bp]? = some (SObj s mv vo z2.at_ z2.line z2.col 0 pl)) ∧ Keep (fun k => k ≠ bp) w2 w') (fun e w' h => post_true he2 h))
          have HLt : Hid (z2.rest.length < q) := by
            show _ < _
            have : z2.rest.length < z1.rest.length := by
              rcases hlt2 with h | h
              · exact absurd he2 h
              · exact h
            omega
          have HZ := Lib.hid hz
          have HE2 := Lib.hid he2
          have HO2 := Lib.hid hok2
          rw [hd] at HP
          clear hy he hb hk hf hz hTw hq h1 h2 hok1 hok2 hle1 hlt2 he1 he2 hd
          go_wp2_with (go_at_call 23; go_must (refine H1.out.mono ?_; rintro e w1 ⟨rfl, ⟨q1, hb1⟩, hk1⟩; have HB1 := Lib.hid hb1; have HK1 := Lib.hid hk1; clear hb1 hk1))
          have hc1 := blk_cell HB1.out
          have hlt1 := blk_lt HB1.out
          go_region_with (go_at_call 25; refine (HP.out _).mono ?_; rintro e w2 ⟨rfl, hk2⟩; have HK2 := Lib.hid hk2; clear hk2)
          all_goals
            clear hc1 hlt1
            have HKa := Lib.hid (((Keep.refl (fun _ => True) w1).drewN _).trans HK2.out)
            have HB2 := Lib.hid (HKa.out.blk HB1.out trivial)
            have HKb := Lib.hid (HK.out.trans (HK1.out.trans (HKa.out.mono (fun _ _ _ => trivial))))
            have HT2 := Lib.hid (tabs_keep HT.out HKb.out (by have := HBp.out; omega) (by have := HBp.out; omega))
            go_wp2_with (go_at_call 23; go_must (refine (H2.out _ _ HB2.out HT2.out).mono ?_; rintro e w3 ⟨rfl, ⟨q3, hb3⟩, hk3⟩; have HB3 := Lib.hid hb3; have HK3 := Lib.hid hk3; clear hb3 hk3))
            go_roundg q
            case measure => have := HQ.out; omega
            case rel => exact ⟨z2, q3, HO2.out, HE2.out, HB3.out, HKb.out.trans HK3.out, HLt.out, HZ.out⟩
        · rw [if_pos he2] at hz
          have H2 := Lib.hid (fun w2 q1 hb2 hT2 => (h2 w2 q1 hb2 hT2).mono (R' := fun e w' => e = .returned (.bool false) ∧ w'.heap[bp]? = some (SObj s mv vo z2.at_ z2.line z2.col z2.e z2.at_) ∧ Keep (fun k => k ≠ bp) w2 w') (fun e w' h => post_false he2 h))
          have HZ := Lib.hid hz
          have HE2 := Lib.hid he2
          rw [hd] at HP
          clear hy he hb hk hf hz hTw hq h1 h2 hok1 hok2 hle1 hlt2 he1 he2 hd
          go_wp2_with (go_at_call 23; go_must (refine H1.out.mono ?_; rintro e w1 ⟨rfl, ⟨q1, hb1⟩, hk1⟩; have HB1 := Lib.hid hb1; have HK1 := Lib.hid hk1; clear hb1 hk1))
          have hc1 := blk_cell HB1.out
          have hlt1 := blk_lt HB1.out
          go_region_with (go_at_call 25; refine (HP.out _).mono ?_; rintro e w2 ⟨rfl, hk2⟩; have HK2 := Lib.hid hk2; clear hk2)
          all_goals
            clear hc1 hlt1
            have HKa := Lib.hid (((Keep.refl (fun _ => True) w1).drewN _).trans HK2.out)
            have HB2 := Lib.hid (HKa.out.blk HB1.out trivial)
            have HKb := Lib.hid (HK.out.trans (HK1.out.trans (HKa.out.mono (fun _ _ _ => trivial))))
            have HT2 := Lib.hid (tabs_keep HT.out HKb.out (by have := HBp.out; omega) (by have := HBp.out; omega))
            go_wp2_with (go_at_call 23; go_must (refine (H2.out _ _ HB2.out HT2.out).mono ?_; rintro e w3 ⟨rfl, hb3, hk3⟩; have HB3 := Lib.hid hb3; have HK3 := Lib.hid hk3; clear hb3 hk3))
            go_ret
            rw [← HZ.out]
            exact till_close (beq_eq_false_iff_ne.2 HE2.out).symm HB3.out (fun _ => rfl) (HKb.out.trans HK3.out)
    · rw [if_pos he1] at hz
      have H1 := Lib.hid (h1.mono (R' := fun e w' => e = .returned (.bool false) ∧ w'.heap[bp]? = some (SObj s mv vo z1.at_ z1.line z1.col z1.e z1.at_) ∧ Keep (fun k => k ≠ bp) wr w') (fun e w' h => post_false he1 h))
      have HZ := Lib.hid hz
      have HE1 := Lib.hid he1
      clear hy he hb hk hf hz hTw hq h1 hok1 hle1 he1
      go_wp2_with (go_at_call 23; go_must (refine H1.out.mono ?_; rintro e w1 ⟨rfl, hb1, hk1⟩; have HB1 := Lib.hid hb1; have HK1 := Lib.hid hk1; clear hb1 hk1))
      go_ret
      rw [← HZ.out]
      exact till_close (beq_eq_false_iff_ne.2 HE1.out).symm HB1.out (fun _ => rfl) (HK.out.trans HK1.out)
end
end Go.Proofs.YtglkdhodpgnlgaaDoor
