/-
  The reference's small functions: delim, digits, dots, Word: each answers what its plain function does. Condition: the text is not longer than 100000 bytes (Word: none).
-/
import Derived.Test.YtglkdhodpgnlgaaDoorRune
namespace Go.Proofs.YtglkdhodpgnlgaaDoor
open Go.RowKit Go.Tel

set_option maxRecDepth 100000 in
set_option maxHeartbeats 1000000 in
theorem delim_any (c : UInt8) (w : World) :
    Calls Tryd.prog 20 #[.int .u8 c.toNat] w fun e w' => e = .returned (.bool (isDelim c)) ∧ w = w' := by
  have HD : Hid (isDelim c = (c.toNat == 40 || c.toNat == 41 || c.toNat == 123 || c.toNat == 125 || c.toNat == 59 || c.toNat == 44)) := rfl
  go_enter Tryd.func20, Tryd.ntmps20
  generalize c.toNat = n at *
  go_wp2
  all_goals (go_ret; refine ⟨ret_bool ?_, rfl⟩; rw [HD.out]; rw [Bool.eq_iff_iff]; simp; omega)

set_option maxRecDepth 100000 in
set_option maxHeartbeats 1000000 in
theorem digits_any (s : ByteArray) (w : World) (hs : (s.size : Int) ≤ 100000) :
    Calls Tryd.prog 36 #[.string s] w fun e w' => e = .returned (.bool (isDigits s.data.toList)) ∧ w = w' := by
  have HD : ∃ b, Hid (isDigits s.data.toList = b) := ⟨_, rfl⟩
  obtain ⟨b, HD⟩ := HD
  have HD' := HD
  rw [HD'.out]; clear HD'
  go_enter Tryd.func36, Tryd.ntmps36
  go_wp2
  go_loop [3] (fun i => ∃ k : Nat, k ≤ s.size ∧ i = .int .i64 k ∧ Hid (isDigits (s.data.toList.drop k) = b)) (fun i => s.size - (intOf i).toNat)
  case atStart => exact ⟨0, by omega, rfl, HD⟩
  case round =>
    clear HD
    obtain ⟨k, hk, rfl, HK⟩ := hrel
    by_cases hlt : k < s.size
    · have hlt' : (k : Int) < (s.size : Int) := by omega
      have hb : (s[k].toNat : Int) < 256 := by have := s[k].toNat_lt; omega
      have HB : Hid (b = ((decide (48 ≤ s[k].toNat) && decide (s[k].toNat ≤ 57)) && isDigits (s.data.toList.drop (k + 1)))) := by
        show _ = _
        rw [← HK.out, drop_cons s k hlt]; simp [isDigits]
      clear HK
      go_wp2
      all_goals first
        | (go_ret; refine ⟨ret_bool ?_, rfl⟩; rw [HB.out]; rw [Bool.eq_iff_iff]; simp; omega)
        | (go_round
           case rel => exact ⟨k + 1, by omega, by go_num, by show _ = _; rw [HB.out]; rw [decide_eq_true (by omega), decide_eq_true (by omega)]; rfl⟩
           case measure => simp [intOf]; omega)
    · have hge : (s.size : Int) ≤ (k : Int) := by omega
      have HB : Hid (b = true) := by show _ = _; rw [← HK.out, drop_end s k (by omega)]; rfl
      clear HK
      go_wp2
      all_goals (go_ret; refine ⟨ret_bool ?_, rfl⟩; rw [HB.out])

end Go.Proofs.YtglkdhodpgnlgaaDoor
