/-
  The reference's kind: what a run is: it computes 'kindOf', written into the token's own block. Condition: the text is not longer than 100000 bytes, the token's block is known whole.
-/
import Derived.Test.YtglkdhodpgnlgaaDoorLeaf2
namespace Go.Proofs.YtglkdhodpgnlgaaDoor
open Go.RowKit Go.Tel

def KindPost (bt : Nat) (a l c : Value) (k : Int) (x : ByteArray) (q : Int) (w : World) (e : Ending) (w' : World) : Prop :=
  e = .returned (.int .i64 q) ∧ w'.heap[bt]? = some (.cells #[.int .i64 k, .string x, a, l, c] 28 (0, 0)) ∧ Keep (fun b => b ≠ bt) w w'

theorem kind_close {bt : Nat} {a l c : Value} {k : Int} {x : ByteArray} {q : Int} {w : World} {w' : World}
    (h : w'.heap[bt]? = some (.cells #[.int .i64 k, .string x, a, l, c] 28 (0, 0))) (hk : Keep (fun b => b ≠ bt) w w') :
    KindPost bt a l c k x q w (.returned (.int .i64 q)) w' := ⟨rfl, h, hk⟩

section
variable (s x0 : ByteArray) (bt : Nat) (k : Int) (a l c : Value) (w : World)

set_option maxRecDepth 100000 in
set_option maxHeartbeats 1000000 in
theorem kind_two (hb : w.heap[bt]? = some (.cells #[.int .i64 2, .string x0, a, l, c] 28 (0, 0))) :
    Calls Tryd.prog 21 #[.pointer (some ⟨bt, 0, none⟩), .string s] w (KindPost bt a l c 2 x0 0 w) := by
  have hc := blk_cell hb
  have HB := Lib.hid hb; clear hb
  go_enter Tryd.func21, Tryd.ntmps21
  go_wp2
  go_ret
  exact kind_close HB.out (Keep.refl _ _)

set_option maxRecDepth 100000 in
set_option maxHeartbeats 1000000 in
theorem kind_word (hk : (k == 2) = false) (hw : isWord s.data.toList = true) (hb : w.heap[bt]? = some (.cells #[.int .i64 k, .string s, a, l, c] 28 (0, 0))) :
    Calls Tryd.prog 21 #[.pointer (some ⟨bt, 0, none⟩), .string s] w (KindPost bt a l c 2 (mkS (if s.data.toList = [226, 134, 146] then [45, 62] else if s.data.toList = [206, 187] then [92] else s.data.toList)) 0 w) := by
  have hc := blk_cell hb
  have hf := blk_free hb
  have hlt := blk_lt hb
  have HB := Lib.hid hb; clear hb
  have H2 := blk_set HB.out 0 (.int .i64 2)
  have HS : Hid (s = mkS s.data.toList) := by cases s; rfl
  by_cases h1 : (s.toList == [226, 134, 146]) = true
  · have hn : (s.toList == [206, 187]) = false := by rw [beq_iff_eq] at h1; rw [h1]; rfl
    have HE : Hid (mkS (if s.data.toList = [226, 134, 146] then [45, 62] else if s.data.toList = [206, 187] then [92] else s.data.toList) = ⟨#[45, 62]⟩) := by
      show _ = _
      rw [if_pos (by rw [← ByteArray.toList_eq]; exact beq_iff_eq.1 h1)]; rfl
    rw [HE.out]
    have H3 := Lib.hid (blk_set H2 1 (.string ⟨#[45, 62]⟩)); clear H2
    go_enter Tryd.func21, Tryd.ntmps21
    go_wp2_with (first | (go_at_call 15; refine (word_any _ _).mono ?_; rw [hw]; rintro e w' ⟨rfl, rfl⟩))
    go_ret
    exact kind_close H3.out (((Keep.refl _ _).set _ (Or.inr (by simp)) _).set _ (Or.inr (by simp)) _)
  · rw [Bool.not_eq_true] at h1
    by_cases h2 : (s.toList == [206, 187]) = true
    · have HE : Hid (mkS (if s.data.toList = [226, 134, 146] then [45, 62] else if s.data.toList = [206, 187] then [92] else s.data.toList) = ⟨#[92]⟩) := by
        show _ = _
        rw [if_neg (by rw [← ByteArray.toList_eq]; exact beq_eq_false_iff_ne.1 h1), if_pos (by rw [← ByteArray.toList_eq]; exact beq_iff_eq.1 h2)]; rfl
      rw [HE.out]
      have H3 := Lib.hid (blk_set H2 1 (.string ⟨#[92]⟩)); clear H2
      go_enter Tryd.func21, Tryd.ntmps21
      go_wp2_with (first | (go_at_call 15; refine (word_any _ _).mono ?_; rw [hw]; rintro e w' ⟨rfl, rfl⟩))
      go_ret
      exact kind_close H3.out (((Keep.refl _ _).set _ (Or.inr (by simp)) _).set _ (Or.inr (by simp)) _)
    · rw [Bool.not_eq_true] at h2
      have HE : Hid (mkS (if s.data.toList = [226, 134, 146] then [45, 62] else if s.data.toList = [206, 187] then [92] else s.data.toList) = s) := by
        show _ = _
        rw [if_neg (by rw [← ByteArray.toList_eq]; exact beq_eq_false_iff_ne.1 h1), if_neg (by rw [← ByteArray.toList_eq]; exact beq_eq_false_iff_ne.1 h2)]; exact HS.out.symm
      rw [HE.out]
      have H3 := Lib.hid H2; clear H2
      go_enter Tryd.func21, Tryd.ntmps21
      go_wp2_with (first | (go_at_call 15; refine (word_any _ _).mono ?_; rw [hw]; rintro e w' ⟨rfl, rfl⟩))
      go_ret
      exact kind_close H3.out ((Keep.refl _ _).set _ (Or.inr (by simp)) _)

set_option maxRecDepth 100000 in
set_option maxHeartbeats 1000000 in
theorem kind_num (hs : (s.size : Int) ≤ 100000) (hk : (k == 2) = false) (hw : isWord s.data.toList = false) (hd : isDigits s.data.toList = true) (hb : w.heap[bt]? = some (.cells #[.int .i64 k, .string s, a, l, c] 28 (0, 0))) :
    Calls Tryd.prog 21 #[.pointer (some ⟨bt, 0, none⟩), .string s] w (KindPost bt a l c 3 s (if s.data.toList.length > 9 then 41 else 0) w) := by
  have hc := blk_cell hb
  have hf := blk_free hb
  have hlt := blk_lt hb
  have HB := Lib.hid hb; clear hb
  have H2 := Lib.hid (blk_set HB.out 0 (.int .i64 3))
  have hl : s.data.toList.length = s.size := by cases s; rfl
  rw [hl]; clear hl
  by_cases h9 : (9 : Int) < s.size
  · rw [if_pos (by omega)]
    go_enter Tryd.func21, Tryd.ntmps21
    go_wp2_with (first | (go_at_call 15; refine (word_any _ _).mono ?_; rw [hw]; rintro e w' ⟨rfl, rfl⟩) | (go_at_call 36; refine (digits_any _ _ hs).mono ?_; rw [hd]; rintro e w' ⟨rfl, rfl⟩))
    go_ret
    exact kind_close H2.out ((Keep.refl _ _).set _ (Or.inr (by simp)) _)
  · rw [if_neg (by omega)]
    go_enter Tryd.func21, Tryd.ntmps21
    go_wp2_with (first | (go_at_call 15; refine (word_any _ _).mono ?_; rw [hw]; rintro e w' ⟨rfl, rfl⟩) | (go_at_call 36; refine (digits_any _ _ hs).mono ?_; rw [hd]; rintro e w' ⟨rfl, rfl⟩))
    go_ret
    exact kind_close H2.out ((Keep.refl _ _).set _ (Or.inr (by simp)) _)

set_option maxRecDepth 100000 in
set_option maxHeartbeats 1000000 in
theorem kind_name (hs : (s.size : Int) ≤ 100000) (hk : (k == 2) = false) (hw : isWord s.data.toList = false) (hd : isDigits s.data.toList = false) (hb : w.heap[bt]? = some (.cells #[.int .i64 k, .string s, a, l, c] 28 (0, 0))) :
    Calls Tryd.prog 21 #[.pointer (some ⟨bt, 0, none⟩), .string s] w (KindPost bt a l c 1 s (if s.data.toList.length > 60 then 2 else if dots s.data.toList then 41 else 0) w) := by
  have hc := blk_cell hb
  have hf := blk_free hb
  have hlt := blk_lt hb
  have HB := Lib.hid hb; clear hb
  have H2 := Lib.hid (blk_set HB.out 0 (.int .i64 1))
  have hl : s.data.toList.length = s.size := by cases s; rfl
  rw [hl]; clear hl
  by_cases h9 : (60 : Int) < s.size
  · rw [if_pos (by omega)]
    go_enter Tryd.func21, Tryd.ntmps21
    go_wp2_with (first | (go_at_call 15; refine (word_any _ _).mono ?_; rw [hw]; rintro e w' ⟨rfl, rfl⟩) | (go_at_call 36; refine (digits_any _ _ hs).mono ?_; rw [hd]; rintro e w' ⟨rfl, rfl⟩))
    go_ret
    exact kind_close H2.out ((Keep.refl _ _).set _ (Or.inr (by simp)) _)
  · rw [if_neg (by omega)]
    cases hdt : dots s.data.toList with
    | true =>
      have HE : Hid ((if true = true then (41 : Int) else 0) = 41) := rfl
      rw [HE.out]
      go_enter Tryd.func21, Tryd.ntmps21
      go_wp2_with (first | (go_at_call 15; refine (word_any _ _).mono ?_; rw [hw]; rintro e w' ⟨rfl, rfl⟩) | (go_at_call 36; refine (digits_any _ _ hs).mono ?_; rw [hd]; rintro e w' ⟨rfl, rfl⟩) | (go_at_call 37; refine (dots_any _ _ hs).mono ?_; rw [hdt]; rintro e w' ⟨rfl, rfl⟩))
      go_ret
      exact kind_close H2.out ((Keep.refl _ _).set _ (Or.inr (by simp)) _)
    | false =>
      have HE : Hid ((if false = true then (41 : Int) else 0) = 0) := rfl
      rw [HE.out]
      go_enter Tryd.func21, Tryd.ntmps21
      go_wp2_with (first | (go_at_call 15; refine (word_any _ _).mono ?_; rw [hw]; rintro e w' ⟨rfl, rfl⟩) | (go_at_call 36; refine (digits_any _ _ hs).mono ?_; rw [hd]; rintro e w' ⟨rfl, rfl⟩) | (go_at_call 37; refine (dots_any _ _ hs).mono ?_; rw [hdt]; rintro e w' ⟨rfl, rfl⟩))
      go_ret
      exact kind_close H2.out ((Keep.refl _ _).set _ (Or.inr (by simp)) _)

/-- The contract. -/
theorem kind_any (hs : (s.size : Int) ≤ 100000) (hk : (k == 2) = false) (hb : w.heap[bt]? = some (.cells #[.int .i64 k, .string s, a, l, c] 28 (0, 0))) :
    Calls Tryd.prog 21 #[.pointer (some ⟨bt, 0, none⟩), .string s] w (KindPost bt a l c (kindOf s.data.toList).1 (mkS (kindOf s.data.toList).2.1) (kindOf s.data.toList).2.2 w) := by
  have HS : s = mkS s.data.toList := by cases s; rfl
  unfold kindOf
  cases hw : isWord s.data.toList with
  | true => exact kind_word s bt k a l c w hk hw hb
  | false =>
    cases hd : isDigits s.data.toList with
    | true => have := kind_num s bt k a l c w hs hk hw hd hb; simp only [Bool.false_eq_true, if_false, if_true]; rw [← HS]; exact this
    | false => have := kind_name s bt k a l c w hs hk hw hd hb; simp only [Bool.false_eq_true, if_false]; rw [← HS]; exact this
end
end Go.Proofs.YtglkdhodpgnlgaaDoor
