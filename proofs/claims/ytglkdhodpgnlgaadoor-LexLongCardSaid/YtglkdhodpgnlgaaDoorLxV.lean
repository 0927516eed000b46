/-
  The lexer of package lex: asWord: what is a word of the language. Condition: the scanner's and the token's blocks are known whole, the words' map holds the words.
-/
import Derived.Test.YtglkdhodpgnlgaaDoorLxM
namespace Go.Proofs.YtglkdhodpgnlgaaDoor
open Go.RowKit Go.Tel Go.Maps Go.WideMaps

theorem word_val (l : List UInt8) : isWord l = (wordVal l != 0) := by
  unfold isWord wordVal
  rw [show wordList = words24 ++ [[226, 134, 146], [206, 187]] from rfl, List.contains_append]
  by_cases h1 : words24.contains l = true
  · rw [if_pos h1, h1]; rfl
  · rw [if_neg h1, Bool.not_eq_true] at *
    rw [h1, Bool.false_or]
    simp only [List.contains_cons, List.contains_nil, Bool.or_false]
    by_cases h2 : l = [206, 187]
    · subst h2; rfl
    · by_cases h3 : l = [226, 134, 146]
      · subst h3; rfl
      · rw [beq_eq_false_iff_ne.2 h2, beq_eq_false_iff_ne.2 h3]; simp [h2, h3]
theorem num_inj {a b : Int} (h : num a = num b) : a = b := congrArg (fun d : Dt => match d with | .lit (.int _ i) => i | _ => 0) h
theorem look_word {mb : Nat} {w : World} (h : WordsMap mb w) {s : ByteArray} (hs : s.size ≤ 65536) : (Instr.lookup 43 (.map (some mb)) (.string s) false).run Tryd.prog w = .ok (.int .i64 (wordVal s.data.toList)) w := by
  have hkey := keyOf_string_mk (P := Tryd.prog) Tryd.underlying9 (s := s) (by unfold maxLen; omega)
  obtain ⟨c, hrun, hat, _⟩ := World.ownsMap.lookup_int h keyLaw Tryd.underlying43 Tryd.underlying3 (zeroE _) hkey
  have h1 := (D_at s.data.toList).symm.trans hat
  generalize wordVal s.data.toList = v at h1 ⊢
  have hc : v = c := num_inj h1
  rw [← hc] at hrun; exact hrun

section
variable {w : World} {bp bt mb : Nat} {s x : ByteArray} {vo : Value} {a l c : Nat} {bd pl : Int} {A L C : Value}
set_option maxRecDepth 100000 in
set_option maxHeartbeats 4000000 in
theorem asWord_no (hb : w.heap[bp]? = some (SObj s (.map (some mb)) vo a l c bd pl)) (ht : w.heap[bt]? = some (.cells #[.int .i64 0, .string x, A, L, C] 28 (0, 0))) (hm : WordsMap mb w) (hs : x.size ≤ 65536) (hw : isWord x.data.toList = false) :
    Calls Tryd.prog 31 #[.pointer (some ⟨bp, 0, none⟩), .pointer (some ⟨bt, 0, none⟩)] w fun e w' => e = .returned (.tuple #[.bool false, .int .i64 0]) ∧ Keep (fun _ => True) w w' := by
  have hc := blk_cell hb
  have hlt := blk_lt hb
  have hc2 := blk_cell ht
  have hlt2 := blk_lt ht
  have hrun : ∀ n, (Instr.lookup 43 (.map (some mb)) (.string x) false).run Tryd.prog (w.drewN n) = .ok (.int .i64 0) (w.drewN n) := fun n => by
    have h := look_word (w := w.drewN n) (mb := mb) hm hs
    rw [word_val, bne_eq_false_iff_eq] at hw
    rw [h, hw]
  clear hw hm hs hb ht
  go_enter Tryd.func31, Tryd.ntmps31
  go_wp2_with (fail)
  go_quiet (fail)
  go_wp2_with (fail)
  go_ret2
  exact ⟨rfl, (Keep.refl _ _).drewN _⟩
set_option maxRecDepth 100000 in
set_option maxHeartbeats 4000000 in
theorem asWord_yes (hb : w.heap[bp]? = some (SObj s (.map (some mb)) vo a l c bd pl)) (ht : w.heap[bt]? = some (.cells #[.int .i64 0, .string x, A, L, C] 28 (0, 0))) (hm : WordsMap mb w) (hs : x.size ≤ 65536) (hw : isWord x.data.toList = true) :
    Calls Tryd.prog 31 #[.pointer (some ⟨bp, 0, none⟩), .pointer (some ⟨bt, 0, none⟩)] w fun e w' => e = .returned (.tuple #[.bool true, .int .i64 0]) ∧
      w'.heap[bt]? = some (.cells #[.int .i64 2, .string (mkS (if x.data.toList = [226, 134, 146] then [45, 62] else if x.data.toList = [206, 187] then [92] else x.data.toList)), A, L, C] 28 (0, 0)) ∧ Keep (fun k => k ≠ bt) w w' := by
  have hc := blk_cell hb
  have hlt := blk_lt hb
  have hc2 := blk_cell ht
  have hlt2 := blk_lt ht
  have hf2 := blk_free ht
  have HT := Lib.hid ht
  have hrun : ∀ n, (Instr.lookup 43 (.map (some mb)) (.string x) false).run Tryd.prog (w.drewN n) = .ok (.int .i64 (wordVal x.data.toList)) (w.drewN n) := fun n => look_word (w := w.drewN n) (mb := mb) hm hs
  have HX : Hid (x = mkS x.data.toList) := by cases x; rfl
  rw [word_val] at hw
  unfold wordVal at hrun hw
  by_cases h1 : words24.contains x.data.toList = true
  · rw [if_pos h1] at hrun
    have hn1 : x.data.toList ≠ [226, 134, 146] := fun h => by rw [h] at h1; cases h1
    have hn2 : x.data.toList ≠ [206, 187] := fun h => by rw [h] at h1; cases h1
    rw [if_neg hn1, if_neg hn2, ← HX.out]
    clear hw hm hs hb ht h1 hn1 hn2
    go_enter Tryd.func31, Tryd.ntmps31
    go_wp2_with (fail)
    go_quiet (fail)
    go_wp2_with (fail)
    go_ret2
    exact ⟨rfl, blk_set HT.out 0 _, Keep.own ((Keep.refl _ _).drewN _) _ _⟩
  · rw [if_neg h1] at hrun hw
    by_cases h2 : x.data.toList = [206, 187]
    · rw [if_pos h2] at hrun
      have hn1 : x.data.toList ≠ [226, 134, 146] := fun h => by rw [h] at h2; cases h2
      rw [if_neg hn1, if_pos h2]
      clear hw hm hs hb ht h1 h2 hn1
      go_enter Tryd.func31, Tryd.ntmps31
      go_wp2_with (fail)
      go_quiet (fail)
      go_wp2_with (fail)
      go_ret2
      exact ⟨rfl, blk_set (blk_set HT.out 0 _) 1 _, Keep.own (Keep.own ((Keep.refl _ _).drewN _) _ _) _ _⟩
    · rw [if_neg h2] at hrun hw
      by_cases h3 : x.data.toList = [226, 134, 146]
      · rw [if_pos h3] at hrun
        rw [if_pos h3]
        clear hw hm hs hb ht h1 h2 h3
        go_enter Tryd.func31, Tryd.ntmps31
        go_wp2_with (fail)
        go_quiet (fail)
        go_wp2_with (fail)
        go_ret2
        exact ⟨rfl, blk_set (blk_set HT.out 0 _) 1 _, Keep.own (Keep.own ((Keep.refl _ _).drewN _) _ _) _ _⟩
      · rw [if_neg h3] at hw; cases hw

/-- strings.Trim at the ten digits. -/
theorem trim_digits (x : ByteArray) : ((⟨(Lib.trimS x.data.toList [48, 49, 50, 51, 52, 53, 54, 55, 56, 57]).toArray⟩ : ByteArray).toList == ([] : List UInt8)) = isDigits x.data.toList := by
  have hc : ∀ b : UInt8, ([48, 49, 50, 51, 52, 53, 54, 55, 56, 57] : List UInt8).contains b = (decide (48 ≤ b.toNat) && decide (b.toNat ≤ 57)) := by
    intro b
    have hb := b.toNat_lt
    have : (List.range 256).all (fun m => ([48, 49, 50, 51, 52, 53, 54, 55, 56, 57] : List UInt8).contains (UInt8.ofNat m) == (decide (48 ≤ m) && decide (m ≤ 57))) = true := by kernel_rfl
    have h2 := beq_iff_eq.1 (List.all_eq_true.1 this b.toNat (List.mem_range.2 hb))
    rwa [UInt8.ofNat_toNat] at h2
  have hd : ∀ l : List UInt8, (l.dropWhile (([48, 49, 50, 51, 52, 53, 54, 55, 56, 57] : List UInt8).contains ·) = []) ↔ isDigits l = true := by
    intro l
    unfold isDigits
    induction l with
    | nil => simp
    | cons b r ih =>
      rw [List.dropWhile_cons, List.all_cons, hc]
      cases hb : (decide (48 ≤ b.toNat) && decide (b.toNat ≤ 57)) with
      | true => rw [if_pos rfl, Bool.true_and]; exact ih
      | false => rw [if_neg (by simp)]; simp
  rw [ByteArray.toList_eq]
  show (Lib.trimS x.data.toList _ == []) = _
  rw [Bool.eq_iff_iff, beq_iff_eq]
  unfold Lib.trimS Lib.trimLeftS Lib.trimRightS
  rw [hd]
  generalize x.data.toList = l
  constructor
  · intro h
    -- if what is left behind the right cut is all digits, nothing was left
    by_cases he : l.reverse.dropWhile (([48, 49, 50, 51, 52, 53, 54, 55, 56, 57] : List UInt8).contains ·) = []
    · have := (hd _).1 he
      unfold isDigits at this ⊢
      rwa [List.all_reverse] at this
    · exfalso
      cases hr : l.reverse.dropWhile (([48, 49, 50, 51, 52, 53, 54, 55, 56, 57] : List UInt8).contains ·) with
      | nil => exact he hr
      | cons b r =>
        have hnb := List.head?_dropWhile_not (([48, 49, 50, 51, 52, 53, 54, 55, 56, 57] : List UInt8).contains ·) l.reverse
        rw [hr] at h hnb
        simp only [List.head?_cons] at hnb
        unfold isDigits at h
        rw [List.all_reverse, List.all_cons, ← hc] at h
        rw [Bool.and_eq_true] at h
        rw [h.1] at hnb
        exact absurd hnb (by simp)
  · intro h
    have h2 : isDigits l.reverse = true := by unfold isDigits at h ⊢; rwa [List.all_reverse]
    rw [(hd _).2 h2]; rfl
end
end Go.Proofs.YtglkdhodpgnlgaaDoor
