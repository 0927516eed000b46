/-
  The reference's Rune: how many bytes the rune at a place has: it computes 'runeLen' of what is left of the text. Condition: the text is not longer than 100000 bytes, the place lies in it.
-/
import Derived.Test.YtglkdhodpgnlgaaDoorPlain
import Derived.Test.YtglkdhodpgnlgaaDoorRows
namespace Go.Proofs.YtglkdhodpgnlgaaDoor
open Go.RowKit Go.Tel

theorem ret_int {k : IntKind} {a b : Int} (h : a = b) : Ending.returned (.int k a) = .returned (.int k b) := by rw [h]
theorem ret_bool {a b : Bool} (h : a = b) : Ending.returned (.bool a) = .returned (.bool b) := by rw [h]
theorem drop_cons (s : ByteArray) (i : Nat) (h : i < s.size) : s.data.toList.drop i = s[i] :: s.data.toList.drop (i + 1) := by
  rw [List.drop_eq_getElem_cons (by simpa using h)]; rfl
theorem drop_end (s : ByteArray) (i : Nat) (h : s.size ≤ i) : s.data.toList.drop i = [] := List.drop_of_length_le (by simpa using h)

theorem contV_short (n : Nat) (l : List UInt8) (v : Nat) (h : l.length < n) : contV n l v = none := by
  cases e : contV n l v with
  | none => rfl
  | some u => have := contV_len n l v u e; omega

set_option maxRecDepth 100000 in
set_option maxHeartbeats 1000000 in
theorem rune_2 (s : ByteArray) (i : Nat) (w : World) (hs : (s.size : Int) ≤ 100000) (hi : i < s.size) (hc : (192 : Int) ≤ (s[i].toNat : Int)) (hc2 : (s[i].toNat : Int) < 224) :
    Calls Tryd.prog 35 #[.string s, .int .i64 i] w fun e w' => e = .returned (.int .i64 (runeLen (s.data.toList.drop i))) ∧ w = w' := by
  have hi' : (i : Int) < (s.size : Int) := by omega
  have hb0 : (s[i].toNat : Int) < 256 := by have := s[i].toNat_lt; omega
  have HR : Hid (runeLen (s.data.toList.drop i) = runeOpt 2 128 (contV 1 (s.data.toList.drop (i + 1)) (s[i].toNat - 192))) := by
    show _ = _
    rw [drop_cons s i hi]
    simp only [runeLen]
    rw [if_neg (by omega), if_pos (by omega)]
  go_enter Tryd.func35, Tryd.ntmps35
  by_cases hl : (s.size : Int) < (i : Int) + 2
  · go_wp2
    go_ret
    exact ⟨ret_int (by rw [HR.out, contV_short _ _ _ (by simp; omega)]; rfl), rfl⟩
  · go_wp2
    go_loop [8, 9] (fun v k => ∃ j u : Nat, 1 ≤ j ∧ j ≤ 2 ∧ k = .int .i64 j ∧ v = .int .i64 u ∧ Hid (u + 1 ≤ 32 * 64 ^ j) ∧ Hid (contV (2 - j) (s.data.toList.drop (i + j)) u = contV 1 (s.data.toList.drop (i + 1)) (s[i].toNat - 192)))
      (fun _ k => 2 - (intOf k).toNat)
    case atStart =>
      refine ⟨1, s[i].toNat - 192, by omega, by omega, rfl, ?_, ?_, rfl⟩
      · rw [Int.natCast_sub (by omega)]; rfl
      · show _ ≤ _; omega
    case round =>
      obtain ⟨j, u, hj1, hj2, rfl, rfl, HU, HC⟩ := hrel
      have hu : (u : Int) ≤ 536870912 := by
        have h1 := HU.out
        have h2 : 64 ^ j ≤ 64 ^ 4 := Nat.pow_le_pow_right (by omega) (by omega)
        omega
      by_cases hjn : j < 2
      · have hlt : i + j < s.size := by omega
        have hlt' : (i : Int) + (j : Int) < (s.size : Int) := by omega
        have hb : (s[i + j].toNat : Int) < 256 := by have := s[i + j].toNat_lt; omega
        have HN : Hid ((s[i + j].toNat : Int) < 128 ∨ (192 : Int) ≤ (s[i + j].toNat : Int) → contV 1 (s.data.toList.drop (i + 1)) (s[i].toNat - 192) = none) := by
          intro hd
          rw [← HC.out, drop_cons s (i + j) hlt, show 2 - j = (1 - j) + 1 by omega]
          simp only [contV]; rw [if_pos (by omega)]
        have HC' : Hid ((128 : Int) ≤ (s[i + j].toNat : Int) → (s[i + j].toNat : Int) < 192 → contV (2 - (j + 1)) (s.data.toList.drop (i + (j + 1))) (64 * u + s[i + j].toNat - 128) = contV 1 (s.data.toList.drop (i + 1)) (s[i].toNat - 192)) := by
          intro hd1 hd2
          rw [← HC.out, drop_cons s (i + j) hlt, show 2 - j = (1 - j) + 1 by omega]
          simp only [contV]; rw [if_neg (by omega), show 2 - (j + 1) = 1 - j by omega, Nat.add_assoc]
        have HU' : Hid ((s[i + j].toNat : Int) < 192 → 64 * u + s[i + j].toNat - 128 + 1 ≤ 32 * 64 ^ (j + 1)) := by
          intro hd2
          have h1 := HU.out
          rw [Nat.pow_succ]; omega
        clear HC HU
        go_wp2
        all_goals first
          | (go_ret; exact ⟨ret_int (by rw [HR.out, HN.out (by omega)]; rfl), rfl⟩)
          | (go_round
             case rel =>
               refine ⟨j + 1, 64 * u + s[i + j].toNat - 128, by omega, by omega, by go_num, ?_, HU'.out (by omega), HC'.out (by omega) (by omega)⟩
               rw [Int.natCast_sub (by omega)]; simp
             case measure => simp [intOf]; omega)
      · obtain rfl : j = 2 := by omega
        have HF : Hid (runeLen (s.data.toList.drop i) = runeFin 2 128 u) := by
          show _ = _
          rw [HR.out, ← HC.out]; simp only [Nat.sub_self, contV, runeOpt]
        clear HC HU HR hjn
        go_wp2
        all_goals (go_ret; exact ⟨ret_int (by rw [HF.out]; unfold runeFin; (first | rw [if_pos (by omega)] | rw [if_neg (by omega)]); rfl), rfl⟩)

set_option maxRecDepth 100000 in
set_option maxHeartbeats 1000000 in
theorem rune_3 (s : ByteArray) (i : Nat) (w : World) (hs : (s.size : Int) ≤ 100000) (hi : i < s.size) (hc : (224 : Int) ≤ (s[i].toNat : Int)) (hc2 : (s[i].toNat : Int) < 240) :
    Calls Tryd.prog 35 #[.string s, .int .i64 i] w fun e w' => e = .returned (.int .i64 (runeLen (s.data.toList.drop i))) ∧ w = w' := by
  have hi' : (i : Int) < (s.size : Int) := by omega
  have hb0 : (s[i].toNat : Int) < 256 := by have := s[i].toNat_lt; omega
  have HR : Hid (runeLen (s.data.toList.drop i) = runeOpt 3 2048 (contV 2 (s.data.toList.drop (i + 1)) (s[i].toNat - 224))) := by
    show _ = _
    rw [drop_cons s i hi]
    simp only [runeLen]
    rw [if_neg (by omega), if_neg (by omega), if_pos (by omega)]
  go_enter Tryd.func35, Tryd.ntmps35
  by_cases hl : (s.size : Int) < (i : Int) + 3
  · go_wp2
    go_ret
    exact ⟨ret_int (by rw [HR.out, contV_short _ _ _ (by simp; omega)]; rfl), rfl⟩
  · go_wp2
    go_loop [8, 9] (fun v k => ∃ j u : Nat, 1 ≤ j ∧ j ≤ 3 ∧ k = .int .i64 j ∧ v = .int .i64 u ∧ Hid (u + 1 ≤ 32 * 64 ^ j) ∧ Hid (contV (3 - j) (s.data.toList.drop (i + j)) u = contV 2 (s.data.toList.drop (i + 1)) (s[i].toNat - 224)))
      (fun _ k => 3 - (intOf k).toNat)
    case atStart =>
      refine ⟨1, s[i].toNat - 224, by omega, by omega, rfl, ?_, ?_, rfl⟩
      · rw [Int.natCast_sub (by omega)]; rfl
      · show _ ≤ _; omega
    case round =>
      obtain ⟨j, u, hj1, hj2, rfl, rfl, HU, HC⟩ := hrel
      have hu : (u : Int) ≤ 536870912 := by
        have h1 := HU.out
        have h2 : 64 ^ j ≤ 64 ^ 4 := Nat.pow_le_pow_right (by omega) (by omega)
        omega
      by_cases hjn : j < 3
      · have hlt : i + j < s.size := by omega
        have hlt' : (i : Int) + (j : Int) < (s.size : Int) := by omega
        have hb : (s[i + j].toNat : Int) < 256 := by have := s[i + j].toNat_lt; omega
        have HN : Hid ((s[i + j].toNat : Int) < 128 ∨ (192 : Int) ≤ (s[i + j].toNat : Int) → contV 2 (s.data.toList.drop (i + 1)) (s[i].toNat - 224) = none) := by
          intro hd
          rw [← HC.out, drop_cons s (i + j) hlt, show 3 - j = (2 - j) + 1 by omega]
          simp only [contV]; rw [if_pos (by omega)]
        have HC' : Hid ((128 : Int) ≤ (s[i + j].toNat : Int) → (s[i + j].toNat : Int) < 192 → contV (3 - (j + 1)) (s.data.toList.drop (i + (j + 1))) (64 * u + s[i + j].toNat - 128) = contV 2 (s.data.toList.drop (i + 1)) (s[i].toNat - 224)) := by
          intro hd1 hd2
          rw [← HC.out, drop_cons s (i + j) hlt, show 3 - j = (2 - j) + 1 by omega]
          simp only [contV]; rw [if_neg (by omega), show 3 - (j + 1) = 2 - j by omega, Nat.add_assoc]
        have HU' : Hid ((s[i + j].toNat : Int) < 192 → 64 * u + s[i + j].toNat - 128 + 1 ≤ 32 * 64 ^ (j + 1)) := by
          intro hd2
          have h1 := HU.out
          rw [Nat.pow_succ]; omega
        clear HC HU
        go_wp2
        all_goals first
          | (go_ret; exact ⟨ret_int (by rw [HR.out, HN.out (by omega)]; rfl), rfl⟩)
          | (go_round
             case rel =>
               refine ⟨j + 1, 64 * u + s[i + j].toNat - 128, by omega, by omega, by go_num, ?_, HU'.out (by omega), HC'.out (by omega) (by omega)⟩
               rw [Int.natCast_sub (by omega)]; simp
             case measure => simp [intOf]; omega)
      · obtain rfl : j = 3 := by omega
        have HF : Hid (runeLen (s.data.toList.drop i) = runeFin 3 2048 u) := by
          show _ = _
          rw [HR.out, ← HC.out]; simp only [Nat.sub_self, contV, runeOpt]
        clear HC HU HR hjn
        go_wp2
        all_goals (go_ret; exact ⟨ret_int (by rw [HF.out]; unfold runeFin; (first | rw [if_pos (by omega)] | rw [if_neg (by omega)]); rfl), rfl⟩)

set_option maxRecDepth 100000 in
set_option maxHeartbeats 1000000 in
theorem rune_4 (s : ByteArray) (i : Nat) (w : World) (hs : (s.size : Int) ≤ 100000) (hi : i < s.size) (hc : (240 : Int) ≤ (s[i].toNat : Int)) (hc2 : (s[i].toNat : Int) < 248) :
    Calls Tryd.prog 35 #[.string s, .int .i64 i] w fun e w' => e = .returned (.int .i64 (runeLen (s.data.toList.drop i))) ∧ w = w' := by
  have hi' : (i : Int) < (s.size : Int) := by omega
  have hb0 : (s[i].toNat : Int) < 256 := by have := s[i].toNat_lt; omega
  have HR : Hid (runeLen (s.data.toList.drop i) = runeOpt 4 65536 (contV 3 (s.data.toList.drop (i + 1)) (s[i].toNat - 240))) := by
    show _ = _
    rw [drop_cons s i hi]
    simp only [runeLen]
    rw [if_neg (by omega), if_neg (by omega), if_neg (by omega), if_pos (by omega)]
  go_enter Tryd.func35, Tryd.ntmps35
  by_cases hl : (s.size : Int) < (i : Int) + 4
  · go_wp2
    go_ret
    exact ⟨ret_int (by rw [HR.out, contV_short _ _ _ (by simp; omega)]; rfl), rfl⟩
  · go_wp2
    go_loop [8, 9] (fun v k => ∃ j u : Nat, 1 ≤ j ∧ j ≤ 4 ∧ k = .int .i64 j ∧ v = .int .i64 u ∧ Hid (u + 1 ≤ 32 * 64 ^ j) ∧ Hid (contV (4 - j) (s.data.toList.drop (i + j)) u = contV 3 (s.data.toList.drop (i + 1)) (s[i].toNat - 240)))
      (fun _ k => 4 - (intOf k).toNat)
    case atStart =>
      refine ⟨1, s[i].toNat - 240, by omega, by omega, rfl, ?_, ?_, rfl⟩
      · rw [Int.natCast_sub (by omega)]; rfl
      · show _ ≤ _; omega
    case round =>
      obtain ⟨j, u, hj1, hj2, rfl, rfl, HU, HC⟩ := hrel
      have hu : (u : Int) ≤ 536870912 := by
        have h1 := HU.out
        have h2 : 64 ^ j ≤ 64 ^ 4 := Nat.pow_le_pow_right (by omega) (by omega)
        omega
      by_cases hjn : j < 4
      · have hlt : i + j < s.size := by omega
        have hlt' : (i : Int) + (j : Int) < (s.size : Int) := by omega
        have hb : (s[i + j].toNat : Int) < 256 := by have := s[i + j].toNat_lt; omega
        have HN : Hid ((s[i + j].toNat : Int) < 128 ∨ (192 : Int) ≤ (s[i + j].toNat : Int) → contV 3 (s.data.toList.drop (i + 1)) (s[i].toNat - 240) = none) := by
          intro hd
          rw [← HC.out, drop_cons s (i + j) hlt, show 4 - j = (3 - j) + 1 by omega]
          simp only [contV]; rw [if_pos (by omega)]
        have HC' : Hid ((128 : Int) ≤ (s[i + j].toNat : Int) → (s[i + j].toNat : Int) < 192 → contV (4 - (j + 1)) (s.data.toList.drop (i + (j + 1))) (64 * u + s[i + j].toNat - 128) = contV 3 (s.data.toList.drop (i + 1)) (s[i].toNat - 240)) := by
          intro hd1 hd2
          rw [← HC.out, drop_cons s (i + j) hlt, show 4 - j = (3 - j) + 1 by omega]
          simp only [contV]; rw [if_neg (by omega), show 4 - (j + 1) = 3 - j by omega, Nat.add_assoc]
        have HU' : Hid ((s[i + j].toNat : Int) < 192 → 64 * u + s[i + j].toNat - 128 + 1 ≤ 32 * 64 ^ (j + 1)) := by
          intro hd2
          have h1 := HU.out
          rw [Nat.pow_succ]; omega
        clear HC HU
        go_wp2
        all_goals first
          | (go_ret; exact ⟨ret_int (by rw [HR.out, HN.out (by omega)]; rfl), rfl⟩)
          | (go_round
             case rel =>
               refine ⟨j + 1, 64 * u + s[i + j].toNat - 128, by omega, by omega, by go_num, ?_, HU'.out (by omega), HC'.out (by omega) (by omega)⟩
               rw [Int.natCast_sub (by omega)]; simp
             case measure => simp [intOf]; omega)
      · obtain rfl : j = 4 := by omega
        have HF : Hid (runeLen (s.data.toList.drop i) = runeFin 4 65536 u) := by
          show _ = _
          rw [HR.out, ← HC.out]; simp only [Nat.sub_self, contV, runeOpt]
        clear HC HU HR hjn
        go_wp2
        all_goals (go_ret; exact ⟨ret_int (by rw [HF.out]; unfold runeFin; (first | rw [if_pos (by omega)] | rw [if_neg (by omega)]); rfl), rfl⟩)

set_option maxRecDepth 100000 in
set_option maxHeartbeats 1000000 in
theorem rune_1 (s : ByteArray) (i : Nat) (w : World) (_hs : (s.size : Int) ≤ 100000) (hi : i < s.size) (hc2 : (s[i].toNat : Int) < 128) :
    Calls Tryd.prog 35 #[.string s, .int .i64 i] w fun e w' => e = .returned (.int .i64 (runeLen (s.data.toList.drop i))) ∧ w = w' := by
  have hi' : (i : Int) < (s.size : Int) := by omega
  have hb0 : (s[i].toNat : Int) < 256 := by have := s[i].toNat_lt; omega
  have HR : Hid (runeLen (s.data.toList.drop i) = 1) := by
    show _ = _
    rw [drop_cons s i hi]
    simp only [runeLen]
    rw [if_pos (by omega)]
  go_enter Tryd.func35, Tryd.ntmps35
  go_wp2
  go_ret
  exact ⟨ret_int (by rw [HR.out]; rfl), rfl⟩

set_option maxRecDepth 100000 in
set_option maxHeartbeats 1000000 in
theorem rune_0 (s : ByteArray) (i : Nat) (w : World) (_hs : (s.size : Int) ≤ 100000) (hi : i < s.size) (hc : (128 : Int) ≤ (s[i].toNat : Int)) (hc2 : (s[i].toNat : Int) < 192 ∨ (248 : Int) ≤ (s[i].toNat : Int)) :
    Calls Tryd.prog 35 #[.string s, .int .i64 i] w fun e w' => e = .returned (.int .i64 (runeLen (s.data.toList.drop i))) ∧ w = w' := by
  have hi' : (i : Int) < (s.size : Int) := by omega
  have hb0 : (s[i].toNat : Int) < 256 := by have := s[i].toNat_lt; omega
  have HR : Hid (runeLen (s.data.toList.drop i) = 0) := by
    show _ = _
    rw [drop_cons s i hi]
    simp only [runeLen]
    rw [if_neg (by omega), if_neg (by omega), if_neg (by omega), if_neg (by omega)]
  rcases hc2 with hc2 | hc2
  · go_enter Tryd.func35, Tryd.ntmps35
    go_wp2
    go_ret
    exact ⟨ret_int (by rw [HR.out]; rfl), rfl⟩
  · go_enter Tryd.func35, Tryd.ntmps35
    go_wp2
    go_ret
    exact ⟨ret_int (by rw [HR.out]; rfl), rfl⟩

/-- The contract. -/
theorem rune_any (s : ByteArray) (i : Int) (w : World) (hs : (s.size : Int) ≤ 100000) (h0 : 0 ≤ i) (hi : i < s.size) :
    Calls Tryd.prog 35 #[.string s, .int .i64 i] w fun e w' => e = .returned (.int .i64 (runeLen (s.data.toList.drop i.toNat))) ∧ w = w' := by
  obtain ⟨i, rfl⟩ := Int.eq_ofNat_of_zero_le h0
  have hi' : i < s.size := by omega
  rw [Int.toNat_natCast]
  by_cases h1 : (s[i].toNat : Int) < 128
  · exact rune_1 s i w hs hi' h1
  · by_cases h2 : (s[i].toNat : Int) < 192
    · exact rune_0 s i w hs hi' (by omega) (Or.inl h2)
    · by_cases h3 : (s[i].toNat : Int) < 224
      · exact rune_2 s i w hs hi' (by omega) h3
      · by_cases h4 : (s[i].toNat : Int) < 240
        · exact rune_3 s i w hs hi' (by omega) h4
        · by_cases h5 : (s[i].toNat : Int) < 248
          · exact rune_4 s i w hs hi' (by omega) h5
          · exact rune_0 s i w hs hi' (by omega) (Or.inr (by omega))

end Go.Proofs.YtglkdhodpgnlgaaDoor
