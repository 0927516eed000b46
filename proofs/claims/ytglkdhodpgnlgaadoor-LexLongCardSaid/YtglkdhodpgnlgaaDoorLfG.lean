/-
  The law LexLong. Condition: Go's decoder's tables and the library's table of blanks lie as they are laid.
-/
import Derived.Test.YtglkdhodpgnlgaaDoorLfF
import Derived.Test.YtglkdhodpgnlgaaDoorLfU
namespace Go.Proofs.YtglkdhodpgnlgaaDoor
open Go.RowKit Go.Tel

theorem tok_rep (n : Nat) (v : UInt8) (w : World) (hT : Tabs w) {p q : Int} (h1 : (refTokens (List.replicate n v)).2 = (p, q)) :
    Calls Tryd.prog 9 #[.string (mkS (List.replicate n v))] w fun e w' => ∃ v1, e = .returned (.tuple #[v1, .int .i64 p, .int .i64 q]) ∧ Keep (fun _ => True) w w' := by
  refine (ltokens_any (mkS (List.replicate n v)) w hT.utf8 hT.blank).mono ?_
  rintro e w' ⟨v1, he, _, hk⟩
  rw [show (mkS (List.replicate n v)).data.toList = List.replicate n v from rfl, h1] at he
  exact ⟨v1, he, hk⟩

set_option maxRecDepth 1000000 in
set_option maxHeartbeats 4000000 in
theorem lexLong_in (a b c d : Nat) (ha : 1 ≤ a ∧ a ≤ 80) (hb : 1 ≤ b ∧ b ≤ 20) (hc : c ≤ 65600) (hd : d ≤ 20010) (w : World) (hT : Tabs w) :
    Calls Tryd.prog 6 #[.int .i64 a, .int .i64 b, .int .i64 c, .int .i64 d] w fun e w' => e = .returned (.bool true) ∧ Keep (fun _ => True) w w' := by
  have HT := Lib.hid hT
  have F1 : Hid (∀ w, Calls Tryd.prog 13 #[.int .i64 a, .int .u8 97] w fun e w' => e = .returned (.string (mkS (List.replicate a 97))) ∧ Keep (fun _ => True) w w') := fun w => fill_any a (by omega) 97 w
  have F2 : Hid (∀ w, Calls Tryd.prog 13 #[.int .i64 b, .int .u8 55] w fun e w' => e = .returned (.string (mkS (List.replicate b 55))) ∧ Keep (fun _ => True) w w') := fun w => fill_any b (by omega) 55 w
  have F3 : Hid (∀ w, Calls Tryd.prog 13 #[.int .i64 c, .int .u8 32] w fun e w' => e = .returned (.string (mkS (List.replicate c 32))) ∧ Keep (fun _ => True) w w') := fun w => fill_any c (by omega) 32 w
  have F4 : Hid (∀ w, Calls Tryd.prog 13 #[.int .i64 d, .int .u8 59] w fun e w' => e = .returned (.string (mkS (List.replicate d 59))) ∧ Keep (fun _ => True) w w') := fun w => fill_any d (by omega) 59 w
  obtain ⟨p1, e1, hr1⟩ : ∃ p e, (refTokens (List.replicate a 97)).2 = (p, e) := ⟨_, _, rfl⟩
  obtain ⟨p2, e2, hr2⟩ : ∃ p e, (refTokens (List.replicate b 55)).2 = (p, e) := ⟨_, _, rfl⟩
  obtain ⟨p3, e3, hr3⟩ : ∃ p e, (refTokens (List.replicate c 32)).2 = (p, e) := ⟨_, _, rfl⟩
  have hl1 := long_name a (by omega) (by omega)
  have hl2 := long_digits b (by omega) (by omega)
  have hl3 := long_blank c
  have hl4 := long_signs d (by omega)
  rw [hr1] at hl1
  rw [hr2] at hl2
  rw [hr3] at hl3
  have T1 := Lib.hid (fun w h => tok_rep a 97 w h hr1)
  have T2 := Lib.hid (fun w h => tok_rep b 55 w h hr2)
  have T3 := Lib.hid (fun w h => tok_rep c 32 w h hr3)
  obtain ⟨t1, ht1, hu1⟩ : ∃ t : Bool, (e1 == 2) = t ∧ decide (60 < (a : Int)) = t := ⟨_, rfl, by
    have hl1 : e1 = if a > 60 then 2 else 0 := hl1
    rw [hl1]; by_cases h : a > 60
    · rw [if_pos h, decide_eq_true (by omega)]; rfl
    · rw [if_neg h, decide_eq_false (by omega)]; rfl⟩
  obtain ⟨t2, ht2, hu2⟩ : ∃ t : Bool, (e2 == 41) = t ∧ decide (9 < (b : Int)) = t := ⟨_, rfl, by
    have hl2 : e2 = if b > 9 then 41 else 0 := hl2
    rw [hl2]; by_cases h : b > 9
    · rw [if_pos h, decide_eq_true (by omega)]; rfl
    · rw [if_neg h, decide_eq_false (by omega)]; rfl⟩
  obtain ⟨t3, ht3, hu3⟩ : ∃ t : Bool, (e3 == 2) = t ∧ decide (65536 < (c : Int)) = t := ⟨_, rfl, by
    have hl3 : e3 = if c > 65536 then 2 else 0 := hl3
    rw [hl3]; by_cases h : c > 65536
    · rw [if_pos h, decide_eq_true (by omega)]; rfl
    · rw [if_neg h, decide_eq_false (by omega)]; rfl⟩
  have i1 : (1 : Int) ≤ (a : Int) := by omega
  have i2 : (a : Int) ≤ 80 := by omega
  have i3 : (1 : Int) ≤ (b : Int) := by omega
  have i4 : (b : Int) ≤ 20 := by omega
  have i5 : (c : Int) ≤ 65600 := by omega
  have i6 : (d : Int) ≤ 20010 := by omega
  by_cases h20 : 20000 ≤ d
  · rw [if_pos h20] at hl4
    have T4 := Lib.hid (fun w h => tok_rep d 59 w h hl4)
    have i7 : (20000 : Int) ≤ (d : Int) := by omega
    clear hT ha hb hc hd hl1 hl2 hl3 hl4 hr1 hr2 hr3 h20
    go_enter Tryd.func6, Tryd.ntmps6
    go_wp2_with (first
        | (go_at_call 8; go_must (refine (alive_any _ HT.out).mono ?_; rintro e w1 ⟨rfl, hk1⟩; have HK1 := Lib.hid hk1; clear hk1))
        | (go_at_call 11; go_must (refine (num_any _ _).mono ?_; rintro e w9 ⟨rfl, rfl⟩))
        | (go_at_call 13; first
          | ((with_reducible refine (F1.out _).mono ?_); rintro e w2 ⟨rfl, hk2⟩; have HK2 := Lib.hid (HK1.out.trans hk2); clear hk2)
          | ((with_reducible refine (F2.out _).mono ?_); rintro e w4 ⟨rfl, hk4⟩; have HK4 := Lib.hid (HK3.out.trans hk4); clear hk4)
          | ((with_reducible refine (F3.out _).mono ?_); rintro e w6 ⟨rfl, hk6⟩; have HK6 := Lib.hid (HK5.out.trans hk6); clear hk6)
          | ((with_reducible refine (F4.out _).mono ?_); rintro e w8 ⟨rfl, hk8⟩; have HK8 := Lib.hid (HK7.out.trans hk8); clear hk8))
        | (go_at_call 9; first
          | ((with_reducible refine (T1.out _ (HT.out.keep HK2.out)).mono ?_); rintro e w3 ⟨v1, rfl, hk3⟩; have HK3 := Lib.hid (HK2.out.trans hk3); clear hk3)
          | ((with_reducible refine (T2.out _ (HT.out.keep HK4.out)).mono ?_); rintro e w5 ⟨v2, rfl, hk5⟩; have HK5 := Lib.hid (HK4.out.trans hk5); clear hk5)
          | ((with_reducible refine (T3.out _ (HT.out.keep HK6.out)).mono ?_); rintro e w7 ⟨v3, rfl, hk7⟩; have HK7 := Lib.hid (HK6.out.trans hk7); clear hk7)
          | ((with_reducible refine (T4.out _ (HT.out.keep HK8.out)).mono ?_); rintro e w10 ⟨v4, rfl, hk10⟩; have HK10 := Lib.hid (HK8.out.trans hk10); clear hk10)))
    go_ret
    exact ⟨rfl, HK10.out⟩
  · rw [if_neg h20] at hl4
    have T4 := Lib.hid (fun w h => tok_rep d 59 w h hl4)
    have i7 : (d : Int) < 20000 := by omega
    clear hT ha hb hc hd hl1 hl2 hl3 hl4 hr1 hr2 hr3 h20
    go_enter Tryd.func6, Tryd.ntmps6
    go_wp2_with (first
        | (go_at_call 8; go_must (refine (alive_any _ HT.out).mono ?_; rintro e w1 ⟨rfl, hk1⟩; have HK1 := Lib.hid hk1; clear hk1))
        | (go_at_call 11; go_must (refine (num_any _ _).mono ?_; rintro e w9 ⟨rfl, rfl⟩))
        | (go_at_call 13; first
          | ((with_reducible refine (F1.out _).mono ?_); rintro e w2 ⟨rfl, hk2⟩; have HK2 := Lib.hid (HK1.out.trans hk2); clear hk2)
          | ((with_reducible refine (F2.out _).mono ?_); rintro e w4 ⟨rfl, hk4⟩; have HK4 := Lib.hid (HK3.out.trans hk4); clear hk4)
          | ((with_reducible refine (F3.out _).mono ?_); rintro e w6 ⟨rfl, hk6⟩; have HK6 := Lib.hid (HK5.out.trans hk6); clear hk6)
          | ((with_reducible refine (F4.out _).mono ?_); rintro e w8 ⟨rfl, hk8⟩; have HK8 := Lib.hid (HK7.out.trans hk8); clear hk8))
        | (go_at_call 9; first
          | ((with_reducible refine (T1.out _ (HT.out.keep HK2.out)).mono ?_); rintro e w3 ⟨v1, rfl, hk3⟩; have HK3 := Lib.hid (HK2.out.trans hk3); clear hk3)
          | ((with_reducible refine (T2.out _ (HT.out.keep HK4.out)).mono ?_); rintro e w5 ⟨v2, rfl, hk5⟩; have HK5 := Lib.hid (HK4.out.trans hk5); clear hk5)
          | ((with_reducible refine (T3.out _ (HT.out.keep HK6.out)).mono ?_); rintro e w7 ⟨v3, rfl, hk7⟩; have HK7 := Lib.hid (HK6.out.trans hk7); clear hk7)
          | ((with_reducible refine (T4.out _ (HT.out.keep HK8.out)).mono ?_); rintro e w10 ⟨v4, rfl, hk10⟩; have HK10 := Lib.hid (HK8.out.trans hk10); clear hk10)))
    go_ret
    refine ⟨?_, HK10.out⟩
    show Ending.returned (.bool (!decide (20000 ≤ (d : Int)))) = _
    rw [show decide (20000 ≤ (d : Int)) = false from decide_eq_false (by omega)]; rfl

set_option maxRecDepth 1000000 in
set_option maxHeartbeats 4000000 in
theorem lexLong_any (a b c d : Int) (w : World) (hT : Tabs w) :
    Calls Tryd.prog 6 #[.int .i64 a, .int .i64 b, .int .i64 c, .int .i64 d] w fun e w' => e = .returned (.bool true) ∧ Keep (fun _ => True) w w' := by
  by_cases hin : (1 ≤ a ∧ a ≤ 80) ∧ (1 ≤ b ∧ b ≤ 20) ∧ (0 ≤ c ∧ c ≤ 65600) ∧ (0 ≤ d ∧ d ≤ 20010)
  · obtain ⟨k, rfl⟩ : ∃ k : Nat, a = k := ⟨a.toNat, by omega⟩
    obtain ⟨l, rfl⟩ : ∃ k : Nat, b = k := ⟨b.toNat, by omega⟩
    obtain ⟨m, rfl⟩ : ∃ k : Nat, c = k := ⟨c.toNat, by omega⟩
    obtain ⟨n, rfl⟩ : ∃ k : Nat, d = k := ⟨d.toNat, by omega⟩
    exact lexLong_in k l m n (by omega) (by omega) (by omega) (by omega) w hT
  · have HT := Lib.hid hT
    have HI := Lib.hid hin
    clear hT hin
    by_cases h0 : a < 1
    · clear HI
      go_enter Tryd.func6, Tryd.ntmps6
      go_wp2_with (go_at_call 8; go_must (refine (alive_any _ HT.out).mono ?_; rintro e w1 ⟨rfl, hk1⟩; have HK1 := Lib.hid hk1; clear hk1))
      go_ret
      exact ⟨rfl, HK1.out⟩
    · by_cases h1 : 80 < a
      · clear HI
        go_enter Tryd.func6, Tryd.ntmps6
        go_wp2_with (go_at_call 8; go_must (refine (alive_any _ HT.out).mono ?_; rintro e w1 ⟨rfl, hk1⟩; have HK1 := Lib.hid hk1; clear hk1))
        go_ret
        exact ⟨rfl, HK1.out⟩
      · by_cases h2 : b < 1
        · clear HI
          go_enter Tryd.func6, Tryd.ntmps6
          go_wp2_with (go_at_call 8; go_must (refine (alive_any _ HT.out).mono ?_; rintro e w1 ⟨rfl, hk1⟩; have HK1 := Lib.hid hk1; clear hk1))
          go_ret
          exact ⟨rfl, HK1.out⟩
        · by_cases h3 : 20 < b
          · clear HI
            go_enter Tryd.func6, Tryd.ntmps6
            go_wp2_with (go_at_call 8; go_must (refine (alive_any _ HT.out).mono ?_; rintro e w1 ⟨rfl, hk1⟩; have HK1 := Lib.hid hk1; clear hk1))
            go_ret
            exact ⟨rfl, HK1.out⟩
          · by_cases h4 : c < 0
            · clear HI
              go_enter Tryd.func6, Tryd.ntmps6
              go_wp2_with (go_at_call 8; go_must (refine (alive_any _ HT.out).mono ?_; rintro e w1 ⟨rfl, hk1⟩; have HK1 := Lib.hid hk1; clear hk1))
              go_ret
              exact ⟨rfl, HK1.out⟩
            · by_cases h5 : 65600 < c
              · clear HI
                go_enter Tryd.func6, Tryd.ntmps6
                go_wp2_with (go_at_call 8; go_must (refine (alive_any _ HT.out).mono ?_; rintro e w1 ⟨rfl, hk1⟩; have HK1 := Lib.hid hk1; clear hk1))
                go_ret
                exact ⟨rfl, HK1.out⟩
              · by_cases h6 : d < 0
                · clear HI
                  go_enter Tryd.func6, Tryd.ntmps6
                  go_wp2_with (go_at_call 8; go_must (refine (alive_any _ HT.out).mono ?_; rintro e w1 ⟨rfl, hk1⟩; have HK1 := Lib.hid hk1; clear hk1))
                  go_ret
                  exact ⟨rfl, HK1.out⟩
                · have h7 : 20010 < d := by have := HI.out; omega
                  clear HI
                  go_enter Tryd.func6, Tryd.ntmps6
                  go_wp2_with (go_at_call 8; go_must (refine (alive_any _ HT.out).mono ?_; rintro e w1 ⟨rfl, hk1⟩; have HK1 := Lib.hid hk1; clear hk1))
                  go_ret
                  exact ⟨rfl, HK1.out⟩
end Go.Proofs.YtglkdhodpgnlgaaDoor
