/-
  The law LexWords. Condition: Go's decoder's tables and the library's table of blanks lie as they are laid.
-/
import Derived.Test.YtglkdhodpgnlgaaDoorLxL
import Derived.Test.YtglkdhodpgnlgaaDoorLeaf2
namespace Go.Proofs.YtglkdhodpgnlgaaDoor
open Go.RowKit Go.Tel Go.Maps Go.WideMaps

theorem look_word2 {mb : Nat} {w : World} (h : WordsMap mb w) {s : ByteArray} (hs : s.size ≤ maxLen) : (Instr.lookup 43 (.map (some mb)) (.string s) false).run Tryd.prog w = .ok (.int .i64 (wordVal s.data.toList)) w := by
  have hkey := keyOf_string_mk (P := Tryd.prog) Tryd.underlying9 (s := s) hs
  obtain ⟨c, hrun, hat, _⟩ := World.ownsMap.lookup_int h keyLaw Tryd.underlying43 Tryd.underlying3 (zeroE _) hkey
  have h1 := (D_at s.data.toList).symm.trans hat
  generalize wordVal s.data.toList = v at h1 ⊢
  have hc : v = c := num_inj h1
  rw [← hc] at hrun; exact hrun

set_option maxRecDepth 100000 in
set_option maxHeartbeats 4000000 in
theorem lword_any (s : ByteArray) (hs : s.size ≤ maxLen) (w : World) (hT : Tabs w) :
    Calls Tryd.prog 14 #[.string s] w fun e w' => e = .returned (.bool (isWord s.data.toList)) ∧ Keep (fun _ => True) w w' := by
  have HT := Lib.hid hT
  have HS := Lib.hid hs
  rw [word_val]
  have HL := Lib.hid (fun mb w (h : WordsMap mb w) => look_word2 h hs)
  generalize wordVal s.data.toList = v at *
  clear hT hs
  go_enter Tryd.func14, Tryd.ntmps14
  go_wp2_with (go_at_call 16; go_must (refine (words_walk _ HT.out.blank).mono ?_; rintro e w1 ⟨rfl, hm, hk⟩; have hrun := HL.out _ _ hm; have HK := Lib.hid hk; clear hm hk))
  go_ret
  exact ⟨rfl, HK.out⟩

def wordsObj : Obj := .cells (wordList.map fun l => Value.string ⟨l.toArray⟩).toArray 9 (0, 0)
theorem words_three : wordList.all (fun l => isWord l && !isWord (l ++ [120]) && !isWord (120 :: l) && decide (l.length ≤ 100)) = true := by kernel_rfl

set_option maxRecDepth 100000 in
set_option maxHeartbeats 4000000 in
theorem lexWords_any (s : ByteArray) (hs : s.size ≤ maxLen) (i : Int) (w : World) (hT : Tabs w) :
    Calls Tryd.prog 7 #[.string s, .int .i64 i] w fun e w' => e = .returned (.bool true) ∧ Keep (fun _ => True) w w' := by
  have HT := Lib.hid hT
  have HS := Lib.hid hs
  clear hT hs
  by_cases h0 : i < 0
  · go_enter Tryd.func7, Tryd.ntmps7
    go_wp2_with (go_at_call 8; go_must (refine (alive_any _ HT.out).mono ?_; rintro e w1 ⟨rfl, hk1⟩; have HK1 := Lib.hid hk1; clear hk1))
    go_ret
    exact ⟨rfl, HK1.out.alloc _⟩
  · by_cases h26 : 26 ≤ i
    · go_enter Tryd.func7, Tryd.ntmps7
      go_wp2_with (go_at_call 8; go_must (refine (alive_any _ HT.out).mono ?_; rintro e w1 ⟨rfl, hk1⟩; have HK1 := Lib.hid hk1; clear hk1))
      go_ret
      exact ⟨rfl, HK1.out.alloc _⟩
    · obtain ⟨k, rfl⟩ : ∃ k : Nat, i = k := ⟨i.toNat, by omega⟩
      have hk26 : k < 26 := by omega
      obtain ⟨l, hl⟩ : ∃ l, wordList[k]? = some l := ⟨_, List.getElem?_eq_getElem (by show k < 26; exact hk26)⟩
      have h3 := List.all_eq_true.1 words_three l (List.mem_of_getElem? hl)
      simp only [Bool.and_eq_true, Bool.not_eq_true', decide_eq_true_eq] at h3
      obtain ⟨⟨⟨hw1, hw2⟩, hw3⟩, hw4⟩ := h3
      have hsz : ((⟨l.toArray⟩ : ByteArray).size : Int) ≤ 100 := by
        have : (⟨l.toArray⟩ : ByteArray).size = l.length := by show l.toArray.size = _; rw [List.size_toArray]
        omega
      have HW1 := Lib.hid (fun w hT => lword_any ⟨l.toArray⟩ (by unfold maxLen; omega) w hT)
      have HW2 := Lib.hid (fun w hT => lword_any (⟨l.toArray⟩ ++ ⟨#[120]⟩) (by rw [ByteArray.size_append]; have : (⟨#[120]⟩ : ByteArray).size = 1 := rfl; unfold maxLen; omega) w hT)
      have HW3 := Lib.hid (fun w hT => lword_any (⟨#[120]⟩ ++ ⟨l.toArray⟩) (by rw [ByteArray.size_append]; have : (⟨#[120]⟩ : ByteArray).size = 1 := rfl; unfold maxLen; omega) w hT)
      have e2 : ((⟨l.toArray⟩ : ByteArray) ++ ⟨#[120]⟩).data.toList = l ++ [120] := by rw [ByteArray.data_append, Array.toList_append]
      have e3 : ((⟨#[120]⟩ : ByteArray) ++ ⟨l.toArray⟩).data.toList = 120 :: l := by rw [ByteArray.data_append, Array.toList_append]; rfl
      rw [e2, hw2] at HW2
      rw [e3, hw3] at HW3
      rw [show (⟨l.toArray⟩ : ByteArray).data.toList = l from rfl, hw1] at HW1
      have HSw := Lib.hid (fun w hT => lword_any s HS.out w hT)
      have HRw := Lib.hid (fun w => word_any s w)
      generalize isWord s.data.toList = bs at HSw HRw
      have HCl : Hid (∀ b (w : World), w.heap[b]? = some wordsObj → w.cell? ⟨b, k, none⟩ = some (.string ⟨l.toArray⟩)) := by
        intro b w hb
        rw [blk_cell hb k]
        simp [hl]
      have hkI : (k : Int) < 26 := by omega
      clear hl hw1 hw2 hw3 hw4 e2 e3 hk26
      generalize (⟨l.toArray⟩ : ByteArray) = x at *
      have hsx : (x.size : Int) ≤ 100 := hsz
      go_enter Tryd.func7, Tryd.ntmps7
      go_upto_region 3 with (go_at_call 8; go_must (refine (alive_any _ HT.out).mono ?_; rintro e w1 ⟨rfl, hk1⟩; have HK1 := Lib.hid hk1; clear hk1))
      go_cut [5, 6, 20] (fun v5 v6 v20 wc => v5 = .bool true ∧ v6 = .slice (some ⟨w1.heap.size, 0, none⟩) 26 26 ∧ v20 = .bool false ∧ wc.heap[w1.heap.size]? = some wordsObj ∧ Keep (fun _ => True) w wc)
      case first =>
        go_wp2_with (fail)
        go_meet
        case rel => exact ⟨rfl, rfl, congrArg Value.bool (by rw [show decide ((k : Int) < 0) = false from decide_eq_false (by omega), show decide (26 ≤ (k : Int)) = false from decide_eq_false (by omega)]; rfl), blk_new _ wordsObj, HK1.out.alloc _⟩
      case rest =>
        obtain ⟨rfl, rfl, rfl, hb, hk⟩ := hcut
        have HK := Lib.hid hk
        have hc := HCl.out _ _ hb
        have hlb := blk_lt hb
        clear hb hk
        go_wp2_with (first
          | (go_at_call 15; go_must (refine (HRw.out _).mono ?_; rintro e w3 ⟨rfl, rfl⟩))
          | (go_at_call 14; first
            | (refine (HSw.out _ (HT.out.keep HK.out)).mono ?_; rintro e w2 ⟨rfl, hk2⟩; have hc2 := cellk hk2 trivial hc; have hlb2 := Nat.lt_of_lt_of_le hlb hk2.size; have HK2 := Lib.hid (HK.out.trans hk2); clear hk2 hc hlb)
            | (refine (HW1.out _ (HT.out.keep HK2.out)).mono ?_; rintro e w4 ⟨rfl, hk4⟩; have hc4 := cellk hk4 trivial hc2; have hlb4 := Nat.lt_of_lt_of_le hlb2 hk4.size; have HK4 := Lib.hid (HK2.out.trans hk4); clear hk4 hc2 hlb2)
            | (refine (HW2.out _ (HT.out.keep HK4.out)).mono ?_; rintro e w5 ⟨rfl, hk5⟩; have hc5 := cellk hk5 trivial hc4; have hlb5 := Nat.lt_of_lt_of_le hlb4 hk5.size; have HK5 := Lib.hid (HK4.out.trans hk5); clear hk5 hc4 hlb4)
            | (refine (HW3.out _ (HT.out.keep HK5.out)).mono ?_; rintro e w6 ⟨rfl, hk6⟩; have HK6 := Lib.hid (HK5.out.trans hk6); clear hk6)))
        go_ret
        exact ⟨rfl, HK6.out⟩
end Go.Proofs.YtglkdhodpgnlgaaDoor
