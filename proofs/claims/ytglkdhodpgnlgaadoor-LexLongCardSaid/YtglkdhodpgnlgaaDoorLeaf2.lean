/-
  The reference's Word and dots: each answers what its plain function does. Condition: none (dots: the text is not longer than 100000 bytes).
-/
import Derived.Test.YtglkdhodpgnlgaaDoorLeaf
namespace Go.Proofs.YtglkdhodpgnlgaaDoor
open Go.RowKit Go.Tel

def wordChain (l : List UInt8) : Bool := (l == [109, 111, 100, 117, 108, 101]) || (l == [119, 104, 101, 114, 101]) || (l == [100, 97, 116, 97]) || (l == [108, 101, 116]) || (l == [105, 110]) || (l == [111, 112, 101, 110]) || (l == [117, 115, 105, 110, 103]) || (l == [104, 105, 100, 105, 110, 103]) || (l == [114, 101, 110, 97, 109, 105, 110, 103]) || (l == [116, 111]) || (l == [112, 114, 105, 118, 97, 116, 101]) || (l == [112, 111, 115, 116, 117, 108, 97, 116, 101]) || (l == [105, 110, 102, 105, 120]) || (l == [105, 110, 102, 105, 120, 108]) || (l == [105, 110, 102, 105, 120, 114]) || (l == [83, 101, 116]) || (l == [102, 115, 116]) || (l == [115, 110, 100]) || (l == [58]) || (l == [61]) || (l == [45, 62]) || (l == [92]) || (l == [42, 42]) || (l == [95]) || (l == [226, 134, 146]) || (l == [206, 187])
theorem word_parts (l : List UInt8) : isWord l = wordChain l := by
  simp only [isWord, wordChain, wordList, List.contains_cons, List.contains_nil, Bool.or_false, Bool.or_assoc]

set_option maxRecDepth 100000 in
set_option maxHeartbeats 1000000 in
theorem word_any (s : ByteArray) (w : World) :
    Calls Tryd.prog 15 #[.string s] w fun e w' => e = .returned (.bool (isWord s.data.toList)) ∧ w = w' := by
  have HD0 : ∃ b, Hid (isWord s.data.toList = b) := ⟨_, rfl⟩
  obtain ⟨b, HD0⟩ := HD0
  have HD2 : Hid (b = wordChain s.toList) := by show _ = _; rw [← HD0.out, ByteArray.toList_eq]; exact word_parts _
  have HD1 := HD0
  rw [HD1.out]; clear HD1 HD0
  go_enter Tryd.func15, Tryd.ntmps15
  by_cases h0 : (s.toList == [109, 111, 100, 117, 108, 101]) = true
  · go_wp2
    go_ret
    exact ⟨ret_bool (by rw [HD2.out]; simp [wordChain, h0]), rfl⟩
  rw [Bool.not_eq_true] at h0
  by_cases h1 : (s.toList == [119, 104, 101, 114, 101]) = true
  · go_wp2
    go_ret
    exact ⟨ret_bool (by rw [HD2.out]; simp [wordChain, h1]), rfl⟩
  rw [Bool.not_eq_true] at h1
  by_cases h2 : (s.toList == [100, 97, 116, 97]) = true
  · go_wp2
    go_ret
    exact ⟨ret_bool (by rw [HD2.out]; simp [wordChain, h2]), rfl⟩
  rw [Bool.not_eq_true] at h2
  by_cases h3 : (s.toList == [108, 101, 116]) = true
  · go_wp2
    go_ret
    exact ⟨ret_bool (by rw [HD2.out]; simp [wordChain, h3]), rfl⟩
  rw [Bool.not_eq_true] at h3
  by_cases h4 : (s.toList == [105, 110]) = true
  · go_wp2
    go_ret
    exact ⟨ret_bool (by rw [HD2.out]; simp [wordChain, h4]), rfl⟩
  rw [Bool.not_eq_true] at h4
  by_cases h5 : (s.toList == [111, 112, 101, 110]) = true
  · go_wp2
    go_ret
    exact ⟨ret_bool (by rw [HD2.out]; simp [wordChain, h5]), rfl⟩
  rw [Bool.not_eq_true] at h5
  by_cases h6 : (s.toList == [117, 115, 105, 110, 103]) = true
  · go_wp2
    go_ret
    exact ⟨ret_bool (by rw [HD2.out]; simp [wordChain, h6]), rfl⟩
  rw [Bool.not_eq_true] at h6
  by_cases h7 : (s.toList == [104, 105, 100, 105, 110, 103]) = true
  · go_wp2
    go_ret
    exact ⟨ret_bool (by rw [HD2.out]; simp [wordChain, h7]), rfl⟩
  rw [Bool.not_eq_true] at h7
  by_cases h8 : (s.toList == [114, 101, 110, 97, 109, 105, 110, 103]) = true
  · go_wp2
    go_ret
    exact ⟨ret_bool (by rw [HD2.out]; simp [wordChain, h8]), rfl⟩
  rw [Bool.not_eq_true] at h8
  by_cases h9 : (s.toList == [116, 111]) = true
  · go_wp2
    go_ret
    exact ⟨ret_bool (by rw [HD2.out]; simp [wordChain, h9]), rfl⟩
  rw [Bool.not_eq_true] at h9
  by_cases h10 : (s.toList == [112, 114, 105, 118, 97, 116, 101]) = true
  · go_wp2
    go_ret
    exact ⟨ret_bool (by rw [HD2.out]; simp [wordChain, h10]), rfl⟩
  rw [Bool.not_eq_true] at h10
  by_cases h11 : (s.toList == [112, 111, 115, 116, 117, 108, 97, 116, 101]) = true
  · go_wp2
    go_ret
    exact ⟨ret_bool (by rw [HD2.out]; simp [wordChain, h11]), rfl⟩
  rw [Bool.not_eq_true] at h11
  by_cases h12 : (s.toList == [105, 110, 102, 105, 120]) = true
  · go_wp2
    go_ret
    exact ⟨ret_bool (by rw [HD2.out]; simp [wordChain, h12]), rfl⟩
  rw [Bool.not_eq_true] at h12
  by_cases h13 : (s.toList == [105, 110, 102, 105, 120, 108]) = true
  · go_wp2
    go_ret
    exact ⟨ret_bool (by rw [HD2.out]; simp [wordChain, h13]), rfl⟩
  rw [Bool.not_eq_true] at h13
  by_cases h14 : (s.toList == [105, 110, 102, 105, 120, 114]) = true
  · go_wp2
    go_ret
    exact ⟨ret_bool (by rw [HD2.out]; simp [wordChain, h14]), rfl⟩
  rw [Bool.not_eq_true] at h14
  by_cases h15 : (s.toList == [83, 101, 116]) = true
  · go_wp2
    go_ret
    exact ⟨ret_bool (by rw [HD2.out]; simp [wordChain, h15]), rfl⟩
  rw [Bool.not_eq_true] at h15
  by_cases h16 : (s.toList == [102, 115, 116]) = true
  · go_wp2
    go_ret
    exact ⟨ret_bool (by rw [HD2.out]; simp [wordChain, h16]), rfl⟩
  rw [Bool.not_eq_true] at h16
  by_cases h17 : (s.toList == [115, 110, 100]) = true
  · go_wp2
    go_ret
    exact ⟨ret_bool (by rw [HD2.out]; simp [wordChain, h17]), rfl⟩
  rw [Bool.not_eq_true] at h17
  by_cases h18 : (s.toList == [58]) = true
  · go_wp2
    go_ret
    exact ⟨ret_bool (by rw [HD2.out]; simp [wordChain, h18]), rfl⟩
  rw [Bool.not_eq_true] at h18
  by_cases h19 : (s.toList == [61]) = true
  · go_wp2
    go_ret
    exact ⟨ret_bool (by rw [HD2.out]; simp [wordChain, h19]), rfl⟩
  rw [Bool.not_eq_true] at h19
  by_cases h20 : (s.toList == [45, 62]) = true
  · go_wp2
    go_ret
    exact ⟨ret_bool (by rw [HD2.out]; simp [wordChain, h20]), rfl⟩
  rw [Bool.not_eq_true] at h20
  by_cases h21 : (s.toList == [92]) = true
  · go_wp2
    go_ret
    exact ⟨ret_bool (by rw [HD2.out]; simp [wordChain, h21]), rfl⟩
  rw [Bool.not_eq_true] at h21
  by_cases h22 : (s.toList == [42, 42]) = true
  · go_wp2
    go_ret
    exact ⟨ret_bool (by rw [HD2.out]; simp [wordChain, h22]), rfl⟩
  rw [Bool.not_eq_true] at h22
  by_cases h23 : (s.toList == [95]) = true
  · go_wp2
    go_ret
    exact ⟨ret_bool (by rw [HD2.out]; simp [wordChain, h23]), rfl⟩
  rw [Bool.not_eq_true] at h23
  by_cases h24 : (s.toList == [226, 134, 146]) = true
  · go_wp2
    go_ret
    exact ⟨ret_bool (by rw [HD2.out]; simp [wordChain, h24]), rfl⟩
  rw [Bool.not_eq_true] at h24
  by_cases h25 : (s.toList == [206, 187]) = true
  · go_wp2
    go_ret
    exact ⟨ret_bool (by rw [HD2.out]; simp [wordChain, h25]), rfl⟩
  rw [Bool.not_eq_true] at h25
  go_wp2
  go_ret
  exact ⟨ret_bool (by rw [HD2.out]; simp [wordChain, h0, h1, h2, h3, h4, h5, h6, h7, h8, h9, h10, h11, h12, h13, h14, h15, h16, h17, h18, h19, h20, h21, h22, h23, h24, h25]), rfl⟩

set_option maxRecDepth 100000 in
set_option maxHeartbeats 1000000 in
theorem dots_any (s : ByteArray) (w : World) (hs : (s.size : Int) ≤ 100000) :
    Calls Tryd.prog 37 #[.string s] w fun e w' => e = .returned (.bool (dots s.data.toList)) ∧ w = w' := by
  have HD : ∃ b, Hid (dots s.data.toList = b) := ⟨_, rfl⟩
  obtain ⟨b, HD⟩ := HD
  have HD' := HD
  rw [HD'.out]; clear HD'
  go_enter Tryd.func37, Tryd.ntmps37
  go_wp2
  go_loop [3] (fun i => ∃ k : Nat, k ≤ s.size ∧ i = .int .i64 k ∧ Hid (dotsFrom (k == 0) (s.data.toList.drop k) = b)) (fun i => s.size - (intOf i).toNat)
  case atStart => exact ⟨0, by omega, rfl, HD⟩
  case round =>
    clear HD
    obtain ⟨k, hk, rfl, HK⟩ := hrel
    by_cases hlt : k < s.size
    · have hlt' : (k : Int) < (s.size : Int) := by omega
      by_cases h46 : s[k].toNat = 46
      · have H46 := Lib.hid h46
        have h46' : ((s[k].toNat : Int) == 46) = true := beq_iff_eq.2 (by omega)
        clear h46
        by_cases h0 : k = 0
        · subst h0
          have HB : Hid (b = true) := by show _ = _; rw [← HK.out, drop_cons s 0 hlt]; simp [dotsFrom, H46.out]
          clear HK
          go_wp2
          all_goals (go_ret; exact ⟨ret_bool (by rw [HB.out]), rfl⟩)
        · have h0' : ((k : Int) == 0) = false := beq_eq_false_iff_ne.2 (by omega)
          have hk0 : (k == 0) = false := beq_eq_false_iff_ne.2 h0
          by_cases he : k = s.size - 1
          · have he' : ((k : Int) == (s.size : Int) - 1) = true := beq_iff_eq.2 (by omega)
            have HB : Hid (b = true) := by show _ = _; rw [← HK.out, drop_cons s k hlt, drop_end s (k + 1) (by omega)]; simp [dotsFrom, headDot, H46.out]
            clear HK hk0
            have he2 := Lib.hid he
            clear he
            go_wp2
            all_goals (go_ret; exact ⟨ret_bool (by rw [HB.out]), rfl⟩)
          · have he' : ((k : Int) == (s.size : Int) - 1) = false := beq_eq_false_iff_ne.2 (by omega)
            have hlt2 : k + 1 < s.size := by omega
            have hlt2' : (k : Int) + 1 < (s.size : Int) := by omega
            by_cases hn : s[k + 1].toNat = 46
            · have HB : Hid (b = true) := by show _ = _; rw [← HK.out, drop_cons s k hlt, drop_cons s (k + 1) hlt2]; simp [dotsFrom, headDot, H46.out, hn]
              have hn' : ((s[k + 1].toNat : Int) == 46) = true := beq_iff_eq.2 (by omega)
              clear HK hk0 hn
              go_wp2
              all_goals (go_ret; exact ⟨ret_bool (by rw [HB.out]), rfl⟩)
            · have HB : Hid (dotsFrom (k + 1 == 0) (s.data.toList.drop (k + 1)) = b) := by
                show _ = _
                rw [← HK.out, hk0, show (k + 1 == 0) = false from rfl]
                conv => rhs; rw [drop_cons s k hlt]
                rw [dotsFrom, drop_cons s (k + 1) hlt2]
                simp [headDot, hn]
              have hn' : ((s[k + 1].toNat : Int) == 46) = false := beq_eq_false_iff_ne.2 (by omega)
              clear HK hk0 hn
              go_wp2
              all_goals
                go_round
                case rel => exact ⟨k + 1, by omega, by go_num, HB⟩
                case measure => simp [intOf]; omega
      · have h46' : ((s[k].toNat : Int) == 46) = false := beq_eq_false_iff_ne.2 (by omega)
        have HB : Hid (dotsFrom (k + 1 == 0) (s.data.toList.drop (k + 1)) = b) := by
          show _ = _
          rw [← HK.out, show (k + 1 == 0) = false from rfl]
          conv => rhs; rw [drop_cons s k hlt]
          rw [dotsFrom]
          simp [h46]
        clear HK h46
        go_wp2
        all_goals
          go_round
          case rel => exact ⟨k + 1, by omega, by go_num, HB⟩
          case measure => simp [intOf]; omega
    · have hge : (s.size : Int) ≤ (k : Int) := by omega
      have HB : Hid (b = false) := by show _ = _; rw [← HK.out, drop_end s k (by omega)]; rfl
      clear HK
      go_wp2
      all_goals (go_ret; exact ⟨ret_bool (by rw [HB.out]), rfl⟩)

end Go.Proofs.YtglkdhodpgnlgaaDoor
