/-
  The lexer of package lex: words: the walk. Condition: the library's table of blanks lies as it is laid.
-/
import Derived.Test.YtglkdhodpgnlgaaDoorLxM
namespace Go.Proofs.YtglkdhodpgnlgaaDoor
open Go.RowKit Go.Tel Go.Maps Go.WideMaps

theorem Dk_succ (k : Nat) (l : List UInt8) (h : words24[k]? = some l) : Dk (k + 1) = (Dk k).put (.string l) (num 1) := by
  unfold Dk
  rw [List.take_add_one, h]
  simp

theorem words_small {k : Nat} {l : List UInt8} (h : words24[k]? = some l) : (⟨l.toArray⟩ : ByteArray).size ≤ maxLen := by
  have h0 : words24.all (fun l => decide (l.length ≤ 100)) = true := by kernel_rfl
  have h1 := of_decide_eq_true (List.all_eq_true.1 h0 l (List.mem_of_getElem? h))
  show l.toArray.size ≤ maxLen
  rw [List.size_toArray]
  unfold maxLen; omega

set_option maxRecDepth 100000 in
set_option maxHeartbeats 4000000 in
theorem words_walk (w : World) (htab : Lib.TabIs Tryd.prog w "strings.asciiSpace" .u8 Lib.asciiSpaceTab) :
    Calls Tryd.prog 16 #[] w fun e w' => e = .returned (.map (some w.heap.size)) ∧ WordsMap w.heap.size w' ∧ Keep (fun _ => True) w w' := by
  have hmm := @run_makeMap Tryd.prog
  have hown0 := World.ownsMap_made w Tryd.prog 9 (plainElem (H := Unit) Tryd.prog 3)
  have HT := Lib.hid htab
  have k1 := keyOf_string_mk (P := Tryd.prog) Tryd.underlying9 (s := ⟨#[226, 134, 146]⟩) (of_decide_eq_true (by kernel_rfl))
  have k2 := keyOf_string_mk (P := Tryd.prog) Tryd.underlying9 (s := ⟨#[206, 187]⟩) (of_decide_eq_true (by kernel_rfl))
  clear htab
  go_enter Tryd.func16, Tryd.ntmps16
  go_wp2_with (first
    | (go_at_call 22; go_must (refine (fields_call _ (tab_same HT.out HK2.out)).mono ?_; rintro e w3 ⟨rfl, rfl⟩))
    | (refine wpList_insert_own _ rfl _ _ _ 43 rfl 9 3 keyLaw Tryd.underlying43 _ w.heap.size _ _ rfl hown1 (by unfold maxLen; omega) _ _ _ rfl rfl k2 _ [] (plainElem_int Tryd.underlying3 (by decide)) ?_; intro w2 hown2 hg2; have HK2 := Lib.hid (HK1.out.grown hg2 (fun k hk => by cases hk; left; omega)); clear hown1)
    | (refine wpList_insert_own _ rfl _ _ _ 43 rfl 9 3 keyLaw Tryd.underlying43 _ w.heap.size _ _ rfl hown0 (by unfold maxLen; omega) _ _ _ rfl rfl k1 _ [] (plainElem_int Tryd.underlying3 (by decide)) ?_; intro w1 hown1 hg1; have HK1 := Lib.hid (((Keep.refl (fun _ => True) w).alloc _).grown hg1 (fun k hk => by cases hk; left; omega)); clear hown0)
    | go_in)
  have hfb := blk_new w2 fieldsObj
  have hsz : w.heap.size + 1 ≤ w2.heap.size := by
    have := hg1.size; have := hg2.size
    have h1 : (w.alloc (.map #[] 0)).heap.size = w.heap.size + 1 := by simp
    omega
  go_loopw [8] (fun i wr => ∃ k : Nat, k ≤ 24 ∧ i = .int .i64 k ∧ wr.ownsMap Tryd.prog 9 (plainElem (H := Unit) Tryd.prog 3) w.heap.size (k + 2) (Dk k) ∧ wr.heap[w2.heap.size]? = some fieldsObj ∧ Keep (fun _ => True) w wr)
    (fun i _ => 24 - (intOf i).toNat)
  case atStart => exact ⟨0, Nat.zero_le _, rfl, hown2.alloc _, hfb, HK2.out.alloc _⟩
  case round =>
    obtain ⟨k, hk, rfl, hown, hf, hkp⟩ := hrel
    have HK := Lib.hid hkp
    have HF := Lib.hid hf
    clear hfb hown2 hkp
    by_cases hlt : k < 24
    · have hlt' : (k : Int) < 24 := by omega
      obtain ⟨l, hl⟩ : ∃ l, words24[k]? = some l := ⟨_, List.getElem?_eq_getElem (by show k < 24; exact hlt)⟩
      have hc := fields_cell hf k l hl
      have hkey := keyOf_string_mk (P := Tryd.prog) Tryd.underlying9 (s := ⟨l.toArray⟩) (words_small hl)
      have HD := Lib.hid (Dk_succ k l hl)
      clear hf hl
      go_wp2_with (first
        | (at_mapUpdate; refine wpList_mapUpdate_own _ rfl _ _ _ 43 rfl 9 3 keyLaw Tryd.underlying43 _ w.heap.size _ _ rfl hown (by unfold maxLen; omega) _ _ _ rfl rfl hkey _ [] (plainElem_int Tryd.underlying3 (by decide)) ?_; intro w4 hown4 hg4)
        | go_in)
      have R1 : Hid (w4.heap[w2.heap.size]? = some fieldsObj) := grown_old hg4 HF.out (by intro e; injection e; omega)
      have R2 := Lib.hid (HK.out.grown hg4 (fun k hk => by cases hk; left; omega))
      have R3 := Lib.hid hown4
      clear hown4 hg4 hown hc
      go_roundw
      case rel => exact ⟨k + 1, by omega, by go_num, by rw [HD.out]; exact R3.out, R1.out, R2.out⟩
      case measure => simp [intOf]; omega
    · have hge : ¬ (k : Int) < 24 := by omega
      obtain rfl : k = 24 := by omega
      have HO := Lib.hid hown
      clear hown hf
      go_wp2
      go_ret
      exact ⟨rfl, HO.out.mono (by omega), HK.out⟩
end Go.Proofs.YtglkdhodpgnlgaaDoor
