/-
  The lexer of package lex: asNumber, asName. Condition: the token's block is known whole.
-/
import Derived.Test.YtglkdhodpgnlgaaDoorLxV
import Derived.Test.YtglkdhodpgnlgaaDoorLxD
import Derived.Test.YtglkdhodpgnlgaaDoorLxR
namespace Go.Proofs.YtglkdhodpgnlgaaDoor
open Go.RowKit Go.Tel

section
variable {w : World} {bp bt : Nat} {x : ByteArray} {k : Int} {A L C : Value}
theorem trim_call (x : ByteArray) (hs : x.size ≤ 65536) (w : World) :
    Calls Tryd.prog 43 #[.string x, .string ⟨#[48, 49, 50, 51, 52, 53, 54, 55, 56, 57]⟩] w fun e w' => e = .returned (.string ⟨(Lib.trimS x.data.toList [48, 49, 50, 51, 52, 53, 54, 55, 56, 57]).toArray⟩) ∧ Keep (fun _ => True) w w' := by
  have h : ([48, 49, 50, 51, 52, 53, 54, 55, 56, 57] : List UInt8).all (fun b => decide (b.toNat < 128)) = true := by kernel_rfl
  refine (Tryd.strings_Trim_ascii x ⟨#[48, 49, 50, 51, 52, 53, 54, 55, 56, 57]⟩ w (by omega) (of_decide_eq_true (by kernel_rfl)) (fun j b hb => of_decide_eq_true (List.all_eq_true.1 h b (List.mem_of_getElem? hb)))).mono ?_
  exact fun _ _ h => ⟨h.1, keep_of h.2⟩

set_option maxRecDepth 100000 in
set_option maxHeartbeats 4000000 in
theorem asNumber_no (ht : w.heap[bt]? = some (.cells #[.int .i64 k, .string x, A, L, C] 28 (0, 0))) (hs : x.size ≤ 65536) (hw : isDigits x.data.toList = false) :
    Calls Tryd.prog 32 #[.pointer (some ⟨bp, 0, none⟩), .pointer (some ⟨bt, 0, none⟩)] w fun e w' => e = .returned (.tuple #[.bool false, .int .i64 0]) ∧ Keep (fun _ => True) w w' := by
  have hc2 := blk_cell ht
  have hlt2 := blk_lt ht
  have HC := Lib.hid (fun w => trim_call x hs w)
  have ht1 := trim_digits x
  rw [hw] at ht1
  generalize (⟨(Lib.trimS x.data.toList [48, 49, 50, 51, 52, 53, 54, 55, 56, 57]).toArray⟩ : ByteArray) = y at HC ht1
  clear hw hs ht
  go_enter Tryd.func32, Tryd.ntmps32
  go_wp2_with (go_at_call 43; go_must (refine (HC.out _).mono ?_; rintro e w1 ⟨rfl, hk⟩; have HK := Lib.hid hk; clear hk))
  go_ret2
  exact ⟨rfl, HK.out⟩

set_option maxRecDepth 100000 in
set_option maxHeartbeats 4000000 in
theorem asNumber_yes (ht : w.heap[bt]? = some (.cells #[.int .i64 k, .string x, A, L, C] 28 (0, 0))) (hs : x.size ≤ 65536) (hw : isDigits x.data.toList = true) :
    Calls Tryd.prog 32 #[.pointer (some ⟨bp, 0, none⟩), .pointer (some ⟨bt, 0, none⟩)] w fun e w' => e = .returned (.tuple #[.bool true, .int .i64 (if x.data.toList.length > 9 then 41 else 0)]) ∧
      w'.heap[bt]? = some (.cells #[.int .i64 3, .string x, A, L, C] 28 (0, 0)) ∧ Keep (fun k => k ≠ bt) w w' := by
  have HT := Lib.hid ht
  have HC := Lib.hid (fun w => trim_call x hs w)
  have ht1 := trim_digits x
  rw [hw] at ht1
  have hsz : (x.size : Int) = x.data.toList.length := rfl
  generalize (⟨(Lib.trimS x.data.toList [48, 49, 50, 51, 52, 53, 54, 55, 56, 57]).toArray⟩ : ByteArray) = y at HC ht1
  by_cases h9 : x.data.toList.length > 9
  · have h9' : (x.size : Int) > 9 := by omega
    rw [if_pos h9]
    clear hw hs ht h9 hsz
    go_enter Tryd.func32, Tryd.ntmps32
    have hc2 := blk_cell HT.out
    have hlt2 := blk_lt HT.out
    go_wp2_with (go_at_call 43; go_must (refine (HC.out _).mono ?_; rintro e w1 ⟨rfl, hk⟩; have HK := Lib.hid hk; have HB1 := Lib.hid (hk.blk HT.out trivial); have hc1 := blk_cell HB1.out; have hlt1 := blk_lt HB1.out; have hf1 := blk_free HB1.out; clear hk hc2 hlt2))
    go_ret2
    exact ⟨rfl, blk_set HB1.out 0 _, Keep.own (HK.out.mono (fun _ _ _ => trivial)) _ _⟩
  · have h9' : ¬ (x.size : Int) > 9 := by omega
    rw [if_neg h9]
    clear hw hs ht h9 hsz
    go_enter Tryd.func32, Tryd.ntmps32
    have hc2 := blk_cell HT.out
    have hlt2 := blk_lt HT.out
    go_wp2_with (go_at_call 43; go_must (refine (HC.out _).mono ?_; rintro e w1 ⟨rfl, hk⟩; have HK := Lib.hid hk; have HB1 := Lib.hid (hk.blk HT.out trivial); have hc1 := blk_cell HB1.out; have hlt1 := blk_lt HB1.out; have hf1 := blk_free HB1.out; clear hk hc2 hlt2))
    go_ret2
    exact ⟨rfl, blk_set HB1.out 0 _, Keep.own (HK.out.mono (fun _ _ _ => trivial)) _ _⟩

set_option maxRecDepth 100000 in
set_option maxHeartbeats 4000000 in
theorem asName_any (ht : w.heap[bt]? = some (.cells #[.int .i64 k, .string x, A, L, C] 28 (0, 0))) (hne : x.data.toList ≠ []) :
    Calls Tryd.prog 33 #[.pointer (some ⟨bp, 0, none⟩), .pointer (some ⟨bt, 0, none⟩)] w fun e w' => e = .returned (.tuple #[.bool true, .int .i64 (if x.data.toList.length > 60 then 2 else if dots x.data.toList then 41 else 0)]) ∧
      w'.heap[bt]? = some (.cells #[.int .i64 1, .string x, A, L, C] 28 (0, 0)) ∧ Keep (fun k => k ≠ bt) w w' := by
  have HT := Lib.hid ht
  have hc2 := blk_cell ht
  have hlt2 := blk_lt ht
  have hf2 := blk_free ht
  have HD := Lib.hid (fun w => dotted_any x w hne)
  have hsz : (x.size : Int) = x.data.toList.length := rfl
  by_cases h60 : x.data.toList.length > 60
  · have h60' : (x.size : Int) > 60 := by omega
    rw [if_pos h60]
    clear ht h60 hsz HD hne
    go_enter Tryd.func33, Tryd.ntmps33
    go_wp2_with (fail)
    go_ret2
    exact ⟨rfl, blk_set HT.out 0 _, Keep.own (Keep.refl _ _) _ _⟩
  · have h60' : ¬ (x.size : Int) > 60 := by omega
    rw [if_neg h60]
    cases hd : dots x.data.toList with
    | true =>
      rw [hd] at HD
      clear ht h60 hsz hne hd
      go_enter Tryd.func33, Tryd.ntmps33
      go_wp2_with (go_at_call 44; go_must (refine (HD.out _).mono ?_; rintro e w1 ⟨rfl, hk⟩; have HK := Lib.hid hk; clear hk))
      go_ret2
      exact ⟨rfl, HK.out.blk (blk_set HT.out 0 _) trivial, (Keep.own (Keep.refl _ _) _ _).trans (HK.out.mono (fun _ _ _ => trivial))⟩
    | false =>
      rw [hd] at HD
      clear ht h60 hsz hne hd
      go_enter Tryd.func33, Tryd.ntmps33
      go_wp2_with (go_at_call 44; go_must (refine (HD.out _).mono ?_; rintro e w1 ⟨rfl, hk⟩; have HK := Lib.hid hk; clear hk))
      go_ret2
      exact ⟨rfl, HK.out.blk (blk_set HT.out 0 _) trivial, (Keep.own (Keep.refl _ _) _ _).trans (HK.out.mono (fun _ _ _ => trivial))⟩
end
end Go.Proofs.YtglkdhodpgnlgaaDoor
