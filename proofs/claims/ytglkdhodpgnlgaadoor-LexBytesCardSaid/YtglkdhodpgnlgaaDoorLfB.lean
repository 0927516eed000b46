/-
  The law LexBytes. Condition: Go's decoder's tables and the library's table of blanks lie as they are laid; the slice converts to a string of its length.
-/
import Derived.Test.YtglkdhodpgnlgaaDoorLxL
namespace Go.Proofs.YtglkdhodpgnlgaaDoor
open Go.RowKit Go.Tel

set_option maxRecDepth 100000 in
set_option maxHeartbeats 4000000 in
theorem lexBytes_any (a : Option Addr) (len cap : Nat) (cm : Bool) (w : World) (hT : Tabs w) (s : ByteArray) (hsl : s.size = len)
    (hcv : ∀ w1, Keep (fun _ => True) w w1 → (convert 34 9 (.slice a len cap)).run Tryd.prog w1 = .ok (.string s) w1) :
    Calls Tryd.prog 4 #[.slice a len cap, .bool cm] w fun e w' => e = .returned (.bool true) ∧ Keep (fun _ => True) w w' := by
  have HT := Lib.hid hT
  have HC := Lib.hid hcv
  have HSl := Lib.hid hsl
  clear hT hcv hsl
  by_cases hz : (len : Int) > 200
  · go_enter Tryd.func4, Tryd.ntmps4
    go_wp2_with (go_at_call 8; go_must (refine (alive_any _ HT.out).mono ?_; rintro e w1 ⟨rfl, hk1⟩; have HK1 := Lib.hid hk1; clear hk1))
    go_ret
    exact ⟨rfl, HK1.out⟩
  · cases cm with
    | false =>
      go_enter Tryd.func4, Tryd.ntmps4
      go_upto_region 4 with (go_at_call 8; go_must (refine (alive_any _ HT.out).mono ?_; rintro e w1 ⟨rfl, hk1⟩; have HK1 := Lib.hid hk1; clear hk1))
      have hrun := HC.out w1 HK1.out
      have hsz : (s.size : Int) ≤ 200 := by have := HSl.out; omega
      clear hz
      go_wp2_with (first
        | (go_at_call 9; go_must (refine (ltokens_any _ _ (HT.out.keep HK1.out).utf8 (HT.out.keep HK1.out).blank).mono ?_; rintro e w2 ⟨v1, rfl, ho1, hk2⟩; have HK2 := Lib.hid (HK1.out.trans hk2); clear ho1 hk2))
        | (go_at_call 10; go_must (refine (rtokens_any _ _).mono ?_; rintro e w3 ⟨v2, rfl, ho2, hk3⟩; have HK3 := Lib.hid (HK2.out.trans hk3); clear ho2 hk3))
        | (go_at_call 11; go_must (refine (num_any _ _).mono ?_; rintro e w5 ⟨rfl, rfl⟩)))
      go_ret
      exact ⟨rfl, HK3.out⟩
    | true =>
      go_enter Tryd.func4, Tryd.ntmps4
      go_upto_region 4 with (go_at_call 8; go_must (refine (alive_any _ HT.out).mono ?_; rintro e w1 ⟨rfl, hk1⟩; have HK1 := Lib.hid hk1; clear hk1))
      have hrun := HC.out w1 HK1.out
      have hsz : (s.size : Int) ≤ 200 := by have := HSl.out; omega
      clear hz
      go_wp2_with (fail)
      go_loopg [8] s.size (fun k v wl => ∃ (i : Nat), v = .int .i64 i ∧ i + k = s.size ∧ wl = w1)
      case atStart => exact ⟨0, rfl, by omega, rfl⟩
      case round =>
        obtain ⟨i, rfl, hik, rfl⟩ := hrel
        rcases Nat.eq_zero_or_pos gk with rfl | hgk
        · obtain rfl : i = s.size := by omega
          go_wp2_with (first
            | (go_at_call 9; go_must (refine (ltokens_any _ _ (HT.out.keep HK1.out).utf8 (HT.out.keep HK1.out).blank).mono ?_; rintro e w2 ⟨v1, rfl, ho1, hk2⟩; have HK2 := Lib.hid (HK1.out.trans hk2); clear ho1 hk2))
            | (go_at_call 10; go_must (refine (rtokens_any _ _).mono ?_; rintro e w3 ⟨v2, rfl, ho2, hk3⟩; have HK3 := Lib.hid (HK2.out.trans hk3); clear ho2 hk3))
            | (go_at_call 11; go_must (refine (num_any _ _).mono ?_; rintro e w5 ⟨rfl, rfl⟩)))
          go_ret
          exact ⟨rfl, HK3.out⟩
        · obtain ⟨q, rfl⟩ : ∃ q, gk = q + 1 := ⟨gk - 1, by omega⟩
          have hi : i < s.size := by omega
          have hiI : (i : Int) < (s.size : Int) := by omega
          by_cases h10 : s[i].toNat = 10
          · have h10' : ((s[i].toNat : Int) == 10) = true := beq_iff_eq.2 (by omega)
            clear h10
            go_wp2_with (fail)
            go_ret
            exact ⟨rfl, HK1.out⟩
          · have h10' : ((s[i].toNat : Int) == 10) = false := beq_eq_false_iff_ne.2 (by omega)
            clear h10
            go_wp2_with (fail)
            go_roundg q
            case measure => omega
            case rel => exact ⟨i + 1, by go_num, by omega, rfl⟩
end Go.Proofs.YtglkdhodpgnlgaaDoor
