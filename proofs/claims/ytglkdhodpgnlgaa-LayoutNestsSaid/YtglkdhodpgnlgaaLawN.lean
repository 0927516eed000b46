/-
  The law LayoutNests, walked. No condition.
-/
import Derived.Test.YtglkdhodpgnlgaaLawF
import Derived.Test.YtglkdhodpgnlgaaLawNp
namespace Go.Proofs.Ytglkdhodpgnlgaa
open Go.RowKit Go.Tel

theorem shuts_step (k : Nat) (w : ByteArray) : shuts (k + 1) w.data.toList = shuts k (w ++ ⟨#[62]⟩ : ByteArray).data.toList := by
  show shuts k _ = _; congr 1
theorem nestUp_step (k : Nat) (s w p : ByteArray) : nestUp (k + 1) (s.data.toList, w.data.toList, p.data.toList) = nestUp k ((s ++ ⟨#[32, 119, 104, 101, 114, 101]⟩ ++ (p ++ ⟨#[32]⟩) ++ ⟨#[98]⟩ : ByteArray).data.toList, (w ++ ⟨#[119, 104, 101, 114, 101, 32, 60, 98, 32]⟩ : ByteArray).data.toList, (p ++ ⟨#[32]⟩ : ByteArray).data.toList) := by
  show nestUp k _ = _; congr 1

set_option maxRecDepth 100000 in
set_option maxHeartbeats 4000000 in
theorem nests_in (n b : Nat) (h1 : 1 ≤ n) (h2 : n ≤ 20) (hb : b ≤ n) (w : World) : Calls Try.prog 4 #[.int .i64 n, .int .i64 b] w fun e w' => e = .returned (.bool true) ∧ Keep (fun _ => True) w w' := by
  have HL := Lib.hid (fun w => alive_any w)
  have hn1 : (1 : Int) ≤ (n : Int) := by omega
  have hn2 : (n : Int) ≤ 20 := by omega
  have hb1 : (0 : Int) ≤ (b : Int) := by omega
  have hb2 : (b : Int) ≤ (n : Int) := by omega
  go_enter Try.func4, Try.ntmps4
  go_wp2_with (go_at_call 6; go_must (refine (HL.out _).mono ?_; rintro e w1 ⟨rfl, hk⟩; have HK := Lib.hid hk; clear hk))
  go_loopg [6, 7, 8, 9] n (fun k a c d v wl => ∃ (i : Nat) (s wt p : ByteArray), a = .string s ∧ c = .string wt ∧ d = .string p ∧ v = .int .i64 i ∧ i + k = n ∧ wl = w1 ∧ s.size ≤ 1 + i * 40 ∧ wt.size ≤ 3 + i * 9 ∧ p.size = 1 + i ∧ nestUp k (s.data.toList, wt.data.toList, p.data.toList) = nest0 n)
  case atStart => exact ⟨0, _, _, _, rfl, rfl, rfl, rfl, by omega, rfl, by decide, by decide, rfl, rfl⟩
  case round =>
    obtain ⟨i, s, wt, p, rfl, rfl, rfl, rfl, hik, rfl, hs, hw, hp, hup⟩ := hrel
    have HUp := Lib.hid hup
    clear hup
    rcases Nat.eq_zero_or_pos gk with rfl | hgk
    · obtain rfl : i = n := by omega
      have z1 : ¬ 9223372036854775807 < s.size + (1 + b) := by omega
      have hbp : (1 : Int) + (b : Int) ≤ (p.size : Int) := by omega
      have z2 : ¬ 9223372036854775807 < s.size + (1 + b) + 1 := by omega
      have z3 : (p.extract 0 (1 + b)).size = 1 + b := by rw [ByteArray.size_extract]; omega
      go_wp2_with (fail)
      go_loopg [7, 10] (i - b) (fun k c v wl => ∃ (wt' : ByteArray), c = .string wt' ∧ v = .int .i64 ((b + k : Nat) : Int) ∧ wl = wr ∧ wt'.size + k ≤ 300 ∧ k ≤ i - b ∧ shuts k wt'.data.toList = shuts (i - b) (nest0 i).2.1)
      case atStart =>
        have h0 : nestUp 0 (s.data.toList, wt.data.toList, p.data.toList) = nest0 i := HUp.out
        exact ⟨wt, rfl, by congr 1; omega, rfl, by omega, Nat.le_refl _, by rw [← h0]; rfl⟩
      case round =>
        obtain ⟨wt', rfl, rfl, rfl, hw', hk', hsh⟩ := hrel
        have HSh := Lib.hid hsh
        clear hsh
        rcases Nat.eq_zero_or_pos gk with rfl | hgk
        · have y1 : ¬ 9223372036854775807 < wt'.size + 3 := by omega
          have y0 : ((b + 0 : Nat) : Int) ≤ (b : Int) := by omega
          go_wp2_with (fail)
          go_loopg [7, 11] b (fun k c v wl => ∃ (wu : ByteArray), c = .string wu ∧ v = .int .i64 (k : Int) ∧ wl = wr ∧ wu.size + k ≤ 400 ∧ k ≤ b ∧ shuts k wu.data.toList = shuts b (shuts (i - b) (nest0 i).2.1 ++ [59, 99, 32]))
          case atStart =>
            have h0 : shuts 0 wt'.data.toList = shuts (i - b) (nest0 i).2.1 := HSh.out
            exact ⟨_, rfl, rfl, rfl, by rw [ByteArray.size_append]; show wt'.size + 3 + b ≤ 400; omega, Nat.le_refl _, by rw [← h0]; congr 1⟩
          case round =>
            obtain ⟨wu, rfl, rfl, rfl, hw2, hk2, hsh2⟩ := hrel
            have HSh2 := Lib.hid hsh2
            clear hsh2
            rcases Nat.eq_zero_or_pos gk with rfl | hgk
            · have x1 : ¬ 9223372036854775807 < wu.size + 2 := by omega
              have x0 : ((0 : Nat) : Int) ≤ 0 := by omega
              have e0 : nestUp 0 (s.data.toList, wt.data.toList, p.data.toList) = nest0 i := HUp.out
              have e1 : (s ++ p.extract 0 (1 + b) ++ ⟨#[99]⟩ : ByteArray).data.toList = nestText i b := by
                unfold nestText; rw [← e0]; simp [nestUp]
              have e2 : (wu ++ ⟨#[62, 46]⟩ : ByteArray).data.toList = nestWant i b := by
                have h2 : wu.data.toList = shuts b (shuts (i - b) (nest0 i).2.1 ++ [59, 99, 32]) := HSh2.out
                unfold nestWant; rw [← h2]; simp
              have HT := Lib.hid (fun w => told_good (s ++ p.extract 0 (1 + b) ++ ⟨#[99]⟩) (wu ++ ⟨#[62, 46]⟩) (by rw [e1, e2]; exact nests_good i b h1 h2 hb) w)
              clear e0 e1 e2
              go_wp2_with (go_at_call 12; go_must (refine (HT.out _).mono ?_; rintro e w2 ⟨rfl, hk⟩; have HK2 := Lib.hid hk; clear hk))

              go_ret
              exact ⟨rfl, HK.out.trans HK2.out⟩
            · obtain ⟨q, rfl⟩ : ∃ q, gk = q + 1 := ⟨gk - 1, by omega⟩
              have x1 : ¬ 9223372036854775807 < wu.size + 1 := by omega
              have x0 : (0 : Int) < ((q + 1 : Nat) : Int) := by omega
              have xe : ((q + 1 : Nat) : Int) - 1 = (q : Int) := by omega
              go_wp2_with (fail)
              go_roundg q
              case measure => omega
              case rel => exact ⟨_, rfl, rfl, rfl, by rw [ByteArray.size_append]; show wu.size + 1 + q ≤ 400; omega, by omega, by rw [← HSh2.out, shuts_step]⟩
        · obtain ⟨q, rfl⟩ : ∃ q, gk = q + 1 := ⟨gk - 1, by omega⟩
          have y1 : ¬ 9223372036854775807 < wt'.size + 1 := by omega
          have y0 : (b : Int) < ((b + (q + 1) : Nat) : Int) := by omega
          have ye : ((b + (q + 1) : Nat) : Int) - 1 = ((b + q : Nat) : Int) := by omega
          have ym : ((b + (q + 1) : Nat) : Int) ≤ 20 := by omega
          go_wp2_with (fail)
          go_roundg q
          case measure => omega
          case rel => exact ⟨_, rfl, congrArg _ (by omega), rfl, by rw [ByteArray.size_append]; show wt'.size + 1 + q ≤ 300; omega, by omega, by rw [← HSh.out, shuts_step]⟩
    · obtain ⟨q, rfl⟩ : ∃ q, gk = q + 1 := ⟨gk - 1, by omega⟩
      have hiI : (i : Int) < (n : Int) := by omega
      have hi20 : (i : Int) < 20 := by omega
      have z1 : ¬ 9223372036854775807 < p.size + 1 := by omega
      have z2 : ¬ 9223372036854775807 < s.size + 6 := by omega
      have z3 : ¬ 9223372036854775807 < s.size + 6 + (p.size + 1) := by omega
      have z4 : ¬ 9223372036854775807 < s.size + 6 + (p.size + 1) + 1 := by omega
      have z5 : ¬ 9223372036854775807 < wt.size + 9 := by omega
      go_wp2_with (fail)
      go_roundg q
      case measure => omega
      case rel =>
        refine ⟨i + 1, _, _, _, rfl, rfl, rfl, rfl, by omega, rfl, ?_, ?_, ?_, ?_⟩
        · simp only [ByteArray.size_append]; show s.size + 6 + (p.size + 1) + 1 ≤ _; omega
        · simp only [ByteArray.size_append]; show wt.size + 9 ≤ _; omega
        · simp only [ByteArray.size_append]; show p.size + 1 = _; omega
        · rw [← HUp.out, nestUp_step]

set_option maxRecDepth 100000 in
set_option maxHeartbeats 4000000 in
theorem nests_out (n b : Int) (hn : n < 1 ∨ 20 < n ∨ b < 0 ∨ n < b) (w : World) : Calls Try.prog 4 #[.int .i64 n, .int .i64 b] w fun e w' => e = .returned (.bool true) ∧ Keep (fun _ => True) w w' := by
  have HL := Lib.hid (fun w => alive_any w)
  by_cases h1 : n < 1
  · clear hn
    go_enter Try.func4, Try.ntmps4
    go_wp2_with (go_at_call 6; go_must (refine (HL.out _).mono ?_; rintro e w1 ⟨rfl, hk⟩; have HK := Lib.hid hk; clear hk))
    go_ret
    exact ⟨rfl, HK.out⟩
  · have h1' : 1 ≤ n := by omega
    by_cases h2 : 20 < n
    · clear hn
      go_enter Try.func4, Try.ntmps4
      go_wp2_with (go_at_call 6; go_must (refine (HL.out _).mono ?_; rintro e w1 ⟨rfl, hk⟩; have HK := Lib.hid hk; clear hk))
      go_ret
      exact ⟨rfl, HK.out⟩
    · have h2' : n ≤ 20 := by omega
      by_cases h3 : b < 0
      · clear hn
        go_enter Try.func4, Try.ntmps4
        go_wp2_with (go_at_call 6; go_must (refine (HL.out _).mono ?_; rintro e w1 ⟨rfl, hk⟩; have HK := Lib.hid hk; clear hk))
        go_ret
        exact ⟨rfl, HK.out⟩
      · have h3' : 0 ≤ b := by omega
        have h4 : n < b := by omega
        clear hn
        go_enter Try.func4, Try.ntmps4
        go_wp2_with (go_at_call 6; go_must (refine (HL.out _).mono ?_; rintro e w1 ⟨rfl, hk⟩; have HK := Lib.hid hk; clear hk))
        go_ret
        exact ⟨rfl, HK.out⟩

/-- LayoutNests, whole. -/
theorem nests_any (n b : Int) (w : World) : Calls Try.prog 4 #[.int .i64 n, .int .i64 b] w fun e w' => e = .returned (.bool true) ∧ Keep (fun _ => True) w w' := by
  by_cases h : n < 1 ∨ 20 < n ∨ b < 0 ∨ n < b
  · exact nests_out n b h w
  · obtain ⟨i, rfl⟩ : ∃ i : Nat, n = (i : Int) := ⟨n.toNat, by omega⟩
    obtain ⟨j, rfl⟩ : ∃ j : Nat, b = (j : Int) := ⟨b.toNat, by omega⟩
    exact nests_in i j (by omega) (by omega) (by omega) w
end Go.Proofs.Ytglkdhodpgnlgaa
