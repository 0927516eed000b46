/-
  The law LexPlaces. Condition: Go's decoder's tables and the library's table of blanks lie as they are laid.
-/
import Derived.Test.YtglkdhodpgnlgaaDoorLxL
import Derived.Test.YtglkdhodpgnlgaaDoorLfQ
namespace Go.Proofs.YtglkdhodpgnlgaaDoor
open Go.RowKit Go.Tel

set_option maxRecDepth 100000 in
set_option maxHeartbeats 4000000 in
theorem lexPlaces_wide (a b : Nat) (ha : a ≤ 50) (hb : b ≤ 50) (w : World) (hT : Tabs w) :
    Calls Tryd.prog 5 #[.int .i64 a, .int .i64 b, .bool true] w fun e w' => e = .returned (.bool true) ∧ Keep (fun _ => True) w w' := by
  have HT := Lib.hid hT
  have haI : (a : Int) ≤ 50 := by omega
  have hbI : (b : Int) ≤ 50 := by omega
  have HP := Lib.hid (place_all a b ha hb [195, 169, 228, 184, 173] (Or.inr rfl))
  have HC := Lib.hid (fun (x : ByteArray) (hx : x.data.toList = List.replicate a 10 ++ List.replicate b 32) (w1 : World) (h : Tabs w1) => ltokens_any (x ++ ⟨#[195, 169, 228, 184, 173]⟩ ++ ⟨#[32, 120]⟩) w1 h.utf8 h.blank)
  have HE : Hid (∀ (x : ByteArray), x.data.toList = List.replicate a 10 ++ List.replicate b 32 → refTokens (x ++ ⟨#[195, 169, 228, 184, 173]⟩ ++ ⟨#[32, 120]⟩).data.toList = (placeToks a b [195, 169, 228, 184, 173], 0, 0)) := by
    intro x hx
    rw [ByteArray.data_append, ByteArray.data_append, Array.toList_append, Array.toList_append, hx]
    have := HP.out
    unfold placeText at this
    simpa [List.append_assoc] using this
  clear hT ha hb HP
  go_enter Tryd.func5, Tryd.ntmps5
  go_wp2_with (go_at_call 8; go_must (refine (alive_any _ HT.out).mono ?_; rintro e w1 ⟨rfl, hk1⟩; have HK1 := Lib.hid hk1; clear hk1))
  go_loopg [8, 9] a (fun k v8 v9 wl => ∃ (i : Nat) (x : ByteArray), v9 = .int .i64 i ∧ i + k = a ∧ v8 = .string x ∧ x.data.toList = List.replicate i 10 ∧ wl = w1)
  case atStart => exact ⟨0, ⟨#[]⟩, rfl, by omega, rfl, rfl, rfl⟩
  case round =>
    obtain ⟨i, x, rfl, hik, rfl, hx, rfl⟩ := hrel
    have hxs : (x.size : Int) ≤ 50 := by have : x.size = i := by show x.data.toList.length = _; rw [hx, List.length_replicate]
                                         omega
    have HX := Lib.hid hx
    clear hx
    rcases Nat.eq_zero_or_pos gk with rfl | hgk
    · obtain rfl : i = a := by omega
      go_wp2_with (fail)
      go_loopg [8, 10] b (fun k v8 v9 wl => ∃ (j : Nat) (y : ByteArray), v9 = .int .i64 j ∧ j + k = b ∧ v8 = .string y ∧ y.data.toList = List.replicate i 10 ++ List.replicate j 32 ∧ wl = wr)
      case atStart => exact ⟨0, x, rfl, by omega, rfl, by rw [HX.out]; simp, rfl⟩
      case round =>
        obtain ⟨j, y, rfl, hjk, rfl, hy, rfl⟩ := hrel
        have hys : (y.size : Int) ≤ 100 := by have : y.size = i + j := by show y.data.toList.length = _; rw [hy, List.length_append, List.length_replicate, List.length_replicate]
                                              omega
        rcases Nat.eq_zero_or_pos gk with rfl | hgk2
        · obtain rfl : j = b := by omega
          have HC2 := Lib.hid (HC.out y hy)
          have HE2 := Lib.hid (HE.out y hy)
          clear hy HX hjk hik
          unfold TokPost at HC2
          rw [HE2.out] at HC2
          go_upto_region 17 with (go_at_call 9; go_must (refine (HC2.out _ (HT.out.keep HK1.out)).mono ?_; rintro e w2 ⟨v1, rfl, ho1, hk2⟩; have HO1 := Lib.hid ho1; have HK2 := Lib.hid (HK1.out.trans hk2); clear ho1 hk2))
          obtain ⟨g, c, hv, hg, t0⟩ := row_tok HO1.out (i := 0) rfl
          obtain ⟨_, _, hv1, _, t1⟩ := row_tok HO1.out (i := 1) rfl
          obtain ⟨_, _, hv2, _, t2⟩ := row_tok HO1.out (i := 2) rfl
          have hln : (placeToks i j [195, 169, 228, 184, 173]).length = 3 := rfl
          rw [hln] at hv hv1 hv2
          subst hv
          cases hv1; cases hv2
          have a0 : w2.cell? ⟨g, 2, none⟩ = some (.int .i64 ((i : Int) + j)) := t0 2 (by decide)
          have a1 : w2.cell? ⟨g, 3, none⟩ = some (.int .i64 ((i : Int) + 1)) := t0 3 (by decide)
          have a2 : w2.cell? ⟨g, 4, none⟩ = some (.int .i64 ((j : Int) + 1)) := t0 4 (by decide)
          have a3 : w2.cell? ⟨g, 7, none⟩ = some (.int .i64 ((i : Int) + j + 5 + 1)) := t1 2 (by decide)
          have a4 : w2.cell? ⟨g, 8, none⟩ = some (.int .i64 ((i : Int) + 1)) := t1 3 (by decide)
          have a5 : w2.cell? ⟨g, 9, none⟩ = some (.int .i64 ((j : Int) + 4)) := t1 4 (by decide)
          have a6 : w2.cell? ⟨g, 14, none⟩ = some (.int .i64 ((j : Int) + 5)) := t2 4 (by decide)
          clear t0 t1 t2 HO1 HC2 HE2
          go_wp2_with (go_at_call 11; go_must (refine (num_any _ _).mono ?_; rintro e w5 ⟨rfl, rfl⟩))
          go_ret
          exact ⟨rfl, HK2.out⟩
        · obtain ⟨q, rfl⟩ : ∃ q, gk = q + 1 := ⟨gk - 1, by omega⟩
          have hjI : (j : Int) < (b : Int) := by omega
          have HY : Hid ((y ++ ⟨#[32]⟩ : ByteArray).data.toList = List.replicate i 10 ++ List.replicate (j + 1) 32) := by
            show _ = _
            rw [ByteArray.data_append, Array.toList_append, hy, List.append_assoc, List.replicate_succ']
          clear hy
          go_wp2_with (fail)
          go_roundg q
          case measure => omega
          case rel => exact ⟨j + 1, _, by go_num, by omega, rfl, HY.out, rfl⟩
    · obtain ⟨q, rfl⟩ : ∃ q, gk = q + 1 := ⟨gk - 1, by omega⟩
      have hiI : (i : Int) < (a : Int) := by omega
      have HY : Hid ((x ++ ⟨#[10]⟩ : ByteArray).data.toList = List.replicate (i + 1) 10) := by
        show _ = _
        rw [ByteArray.data_append, Array.toList_append, HX.out, List.replicate_succ']
      go_wp2_with (fail)
      go_roundg q
      case measure => omega
      case rel => exact ⟨i + 1, _, by go_num, by omega, rfl, HY.out, rfl⟩

set_option maxRecDepth 100000 in
set_option maxHeartbeats 4000000 in
theorem lexPlaces_narrow (a b : Nat) (ha : a ≤ 50) (hb : b ≤ 50) (w : World) (hT : Tabs w) :
    Calls Tryd.prog 5 #[.int .i64 a, .int .i64 b, .bool false] w fun e w' => e = .returned (.bool true) ∧ Keep (fun _ => True) w w' := by
  have HT := Lib.hid hT
  have haI : (a : Int) ≤ 50 := by omega
  have hbI : (b : Int) ≤ 50 := by omega
  have HP := Lib.hid (place_all a b ha hb [97, 98] (Or.inl rfl))
  have HC := Lib.hid (fun (x : ByteArray) (hx : x.data.toList = List.replicate a 10 ++ List.replicate b 32) (w1 : World) (h : Tabs w1) => ltokens_any (x ++ ⟨#[97, 98]⟩ ++ ⟨#[32, 120]⟩) w1 h.utf8 h.blank)
  have HE : Hid (∀ (x : ByteArray), x.data.toList = List.replicate a 10 ++ List.replicate b 32 → refTokens (x ++ ⟨#[97, 98]⟩ ++ ⟨#[32, 120]⟩).data.toList = (placeToks a b [97, 98], 0, 0)) := by
    intro x hx
    rw [ByteArray.data_append, ByteArray.data_append, Array.toList_append, Array.toList_append, hx]
    have := HP.out
    unfold placeText at this
    simpa [List.append_assoc] using this
  clear hT ha hb HP
  go_enter Tryd.func5, Tryd.ntmps5
  go_wp2_with (go_at_call 8; go_must (refine (alive_any _ HT.out).mono ?_; rintro e w1 ⟨rfl, hk1⟩; have HK1 := Lib.hid hk1; clear hk1))
  go_loopg [8, 9] a (fun k v8 v9 wl => ∃ (i : Nat) (x : ByteArray), v9 = .int .i64 i ∧ i + k = a ∧ v8 = .string x ∧ x.data.toList = List.replicate i 10 ∧ wl = w1)
  case atStart => exact ⟨0, ⟨#[]⟩, rfl, by omega, rfl, rfl, rfl⟩
  case round =>
    obtain ⟨i, x, rfl, hik, rfl, hx, rfl⟩ := hrel
    have hxs : (x.size : Int) ≤ 50 := by have : x.size = i := by show x.data.toList.length = _; rw [hx, List.length_replicate]
                                         omega
    have HX := Lib.hid hx
    clear hx
    rcases Nat.eq_zero_or_pos gk with rfl | hgk
    · obtain rfl : i = a := by omega
      go_wp2_with (fail)
      go_loopg [8, 10] b (fun k v8 v9 wl => ∃ (j : Nat) (y : ByteArray), v9 = .int .i64 j ∧ j + k = b ∧ v8 = .string y ∧ y.data.toList = List.replicate i 10 ++ List.replicate j 32 ∧ wl = wr)
      case atStart => exact ⟨0, x, rfl, by omega, rfl, by rw [HX.out]; simp, rfl⟩
      case round =>
        obtain ⟨j, y, rfl, hjk, rfl, hy, rfl⟩ := hrel
        have hys : (y.size : Int) ≤ 100 := by have : y.size = i + j := by show y.data.toList.length = _; rw [hy, List.length_append, List.length_replicate, List.length_replicate]
                                              omega
        rcases Nat.eq_zero_or_pos gk with rfl | hgk2
        · obtain rfl : j = b := by omega
          have HC2 := Lib.hid (HC.out y hy)
          have HE2 := Lib.hid (HE.out y hy)
          clear hy HX hjk hik
          unfold TokPost at HC2
          rw [HE2.out] at HC2
          go_upto_region 17 with (go_at_call 9; go_must (refine (HC2.out _ (HT.out.keep HK1.out)).mono ?_; rintro e w2 ⟨v1, rfl, ho1, hk2⟩; have HO1 := Lib.hid ho1; have HK2 := Lib.hid (HK1.out.trans hk2); clear ho1 hk2))
          obtain ⟨g, c, hv, hg, t0⟩ := row_tok HO1.out (i := 0) rfl
          obtain ⟨_, _, hv1, _, t1⟩ := row_tok HO1.out (i := 1) rfl
          obtain ⟨_, _, hv2, _, t2⟩ := row_tok HO1.out (i := 2) rfl
          have hln : (placeToks i j [97, 98]).length = 3 := rfl
          rw [hln] at hv hv1 hv2
          subst hv
          cases hv1; cases hv2
          have a0 : w2.cell? ⟨g, 2, none⟩ = some (.int .i64 ((i : Int) + j)) := t0 2 (by decide)
          have a1 : w2.cell? ⟨g, 3, none⟩ = some (.int .i64 ((i : Int) + 1)) := t0 3 (by decide)
          have a2 : w2.cell? ⟨g, 4, none⟩ = some (.int .i64 ((j : Int) + 1)) := t0 4 (by decide)
          have a3 : w2.cell? ⟨g, 7, none⟩ = some (.int .i64 ((i : Int) + j + 2 + 1)) := t1 2 (by decide)
          have a4 : w2.cell? ⟨g, 8, none⟩ = some (.int .i64 ((i : Int) + 1)) := t1 3 (by decide)
          have a5 : w2.cell? ⟨g, 9, none⟩ = some (.int .i64 ((j : Int) + 4)) := t1 4 (by decide)
          have a6 : w2.cell? ⟨g, 14, none⟩ = some (.int .i64 ((j : Int) + 5)) := t2 4 (by decide)
          clear t0 t1 t2 HO1 HC2 HE2
          go_wp2_with (go_at_call 11; go_must (refine (num_any _ _).mono ?_; rintro e w5 ⟨rfl, rfl⟩))
          go_ret
          exact ⟨rfl, HK2.out⟩
        · obtain ⟨q, rfl⟩ : ∃ q, gk = q + 1 := ⟨gk - 1, by omega⟩
          have hjI : (j : Int) < (b : Int) := by omega
          have HY : Hid ((y ++ ⟨#[32]⟩ : ByteArray).data.toList = List.replicate i 10 ++ List.replicate (j + 1) 32) := by
            show _ = _
            rw [ByteArray.data_append, Array.toList_append, hy, List.append_assoc, List.replicate_succ']
          clear hy
          go_wp2_with (fail)
          go_roundg q
          case measure => omega
          case rel => exact ⟨j + 1, _, by go_num, by omega, rfl, HY.out, rfl⟩
    · obtain ⟨q, rfl⟩ : ∃ q, gk = q + 1 := ⟨gk - 1, by omega⟩
      have hiI : (i : Int) < (a : Int) := by omega
      have HY : Hid ((x ++ ⟨#[10]⟩ : ByteArray).data.toList = List.replicate (i + 1) 10) := by
        show _ = _
        rw [ByteArray.data_append, Array.toList_append, HX.out, List.replicate_succ']
      go_wp2_with (fail)
      go_roundg q
      case measure => omega
      case rel => exact ⟨i + 1, _, by go_num, by omega, rfl, HY.out, rfl⟩

set_option maxRecDepth 100000 in
set_option maxHeartbeats 4000000 in
theorem lexPlaces_any (a b : Int) (c : Bool) (w : World) (hT : Tabs w) :
    Calls Tryd.prog 5 #[.int .i64 a, .int .i64 b, .bool c] w fun e w' => e = .returned (.bool true) ∧ Keep (fun _ => True) w w' := by
  by_cases hin : (0 ≤ a ∧ a ≤ 50) ∧ 0 ≤ b ∧ b ≤ 50
  · obtain ⟨k, rfl⟩ : ∃ k : Nat, a = k := ⟨a.toNat, by omega⟩
    obtain ⟨m, rfl⟩ : ∃ m : Nat, b = m := ⟨b.toNat, by omega⟩
    cases c
    · exact lexPlaces_narrow k m (by omega) (by omega) w hT
    · exact lexPlaces_wide k m (by omega) (by omega) w hT
  · have HT := Lib.hid hT
    have HI := Lib.hid hin
    clear hT hin
    by_cases h1 : a < 0
    · clear HI
      go_enter Tryd.func5, Tryd.ntmps5
      go_wp2_with (go_at_call 8; go_must (refine (alive_any _ HT.out).mono ?_; rintro e w1 ⟨rfl, hk1⟩; have HK1 := Lib.hid hk1; clear hk1))
      go_ret
      exact ⟨rfl, HK1.out⟩
    · by_cases h2 : 50 < a
      · clear HI
        go_enter Tryd.func5, Tryd.ntmps5
        go_wp2_with (go_at_call 8; go_must (refine (alive_any _ HT.out).mono ?_; rintro e w1 ⟨rfl, hk1⟩; have HK1 := Lib.hid hk1; clear hk1))
        go_ret
        exact ⟨rfl, HK1.out⟩
      · by_cases h3 : b < 0
        · clear HI
          go_enter Tryd.func5, Tryd.ntmps5
          go_wp2_with (go_at_call 8; go_must (refine (alive_any _ HT.out).mono ?_; rintro e w1 ⟨rfl, hk1⟩; have HK1 := Lib.hid hk1; clear hk1))
          go_ret
          exact ⟨rfl, HK1.out⟩
        · have h4 : 50 < b := by have := HI.out; omega
          clear HI
          go_enter Tryd.func5, Tryd.ntmps5
          go_wp2_with (go_at_call 8; go_must (refine (alive_any _ HT.out).mono ?_; rintro e w1 ⟨rfl, hk1⟩; have HK1 := Lib.hid hk1; clear hk1))
          go_ret
          exact ⟨rfl, HK1.out⟩
end Go.Proofs.YtglkdhodpgnlgaaDoor
