/-
  The lexer of package lex: which runes are tokens of themselves; which end a run. Condition: the rune is a valid one.
-/
import Derived.Test.YtglkdhodpgnlgaaDoorLxA
import Derived.Laws.Runes
import Derived.Deep.RegionWith
namespace Go.Proofs.YtglkdhodpgnlgaaDoor
open Go.RowKit Go.Tel

def delims : List UInt8 := [40, 41, 123, 125, 59, 44]
theorem idx_none (l : List UInt8) (c : UInt8) (h : ∀ b ∈ l, b ≠ c) : ¬ (0 : Int) ≤ Lib.indexByte l c := by
  have := Lib.contains_iff_indexByte l c
  have hf : l.contains c = false := by
    cases hh : l.contains c
    · rfl
    · rw [List.contains_iff_mem] at hh; exact absurd rfl (h c hh)
  rw [hf] at this
  exact of_decide_eq_false this.symm

set_option maxRecDepth 100000 in
set_option maxHeartbeats 2000000 in
/-- A rune beyond ASCII stands in no ASCII text of four bytes or more. -/
theorem ixr_high (D : ByteArray) (hD4 : 4 ≤ D.size) (hDz : (D.size : Int) ≤ 100) (hD : ∀ b ∈ D.data.toList, b.toNat < 128) (r : Int) (w : World) (h128 : 128 ≤ r) (hv : Utf8.valid r = true) (hne : r ≠ 65533) :
    Calls Tryd.prog 47 #[.string D, .int .i32 r] w fun e w' => e = .returned (.int .i64 (-1)) ∧ Keep (fun _ => True) w w' := by
  obtain ⟨z2, z4, hlast⟩ := encode_facts r hv h128
  have hV := Lib.hid (fun w => Tryd.utf8_ValidRune r w)
  have hvr : Lib.validRune r = true := by
    have h1 := validRune_eq r
    rw [hv] at h1
    exact h1.symm
  rw [hvr] at hV
  obtain ⟨t, ht⟩ : ∃ t, Utf8.encode r = t := ⟨_, rfl⟩
  rw [ht] at z2 z4 hlast
  have hneq : (r == 65533) = false := beq_eq_false_iff_ne.2 hne
  have hr128 : ¬ r < 128 := by omega
  obtain ⟨n, hn⟩ : ∃ n, t.size = n + 1 := ⟨t.size - 1, by omega⟩
  have hl := hlast (by omega)
  go_enter Tryd.func47, Tryd.ntmps47
  go_wp2_with (go_at_call 58; go_must (refine (hV.out _).mono ?_; rintro e w1 ⟨rfl, rfl⟩))
  go_step3
  go_wp2_with (fail)
  go_loopg [9] 1 (fun k v wl => v = .int .i64 n ∧ wl = w1)
  case atStart => exact ⟨rfl, rfl⟩
  case round =>
    obtain ⟨rfl, rfl⟩ := hrel
    have hnD : n < D.size := by omega
    have hnI : (n : Int) < (D.size : Int) := by omega
    have hnI2 : (n : Int) + 1 ≤ (D.size : Int) := by omega
    have hnt : n < t.size := by omega
    have hntI : (n : Int) < (t.size : Int) := by omega
    have hge : 128 ≤ t[n].toNat := by
      have e : t.size - 1 = n := by omega
      have h := hlast (by omega)
      simp only [e] at h; exact h
    have hb0 : (t[n].toNat : Int) < 256 := by have := t[n].toNat_lt; omega
    have hlow : D[n].toNat < 128 := hD _ (by
      have h1 := drop_cons D n hnD
      have h2 : D[n] ∈ D.data.toList.drop n := by rw [h1]; exact List.mem_cons_self
      exact List.mem_of_mem_drop h2)
    have hneB : ((D[n].toNat : Int) != (t[n].toNat : Int)) = true := by rw [bne_iff_ne]; omega
    obtain ⟨o, ho⟩ : ∃ o, Lib.indexByte (D.extract (n + 1) D.size).data.toList ((t[n].toNat : Int)).toNat.toUInt8 = o := ⟨_, rfl⟩
    have ho1 : o < 0 := by
      have := idx_none (D.extract (n + 1) D.size).data.toList ((t[n].toNat : Int)).toNat.toUInt8 (fun b hb e => by
        have h3 := hD b (mem_extract hb)
        rw [e] at h3; simp at h3; omega)
      rw [ho] at this; omega
    have HI : Hid (∀ w, Calls Tryd.prog 57 #[.string (D.extract (n + 1) D.size), .int .u8 (t[n].toNat : Int)] w fun e w' => e = .returned (.int .i64 o) ∧ w = w') := by
      intro w
      refine (Tryd.strings_IndexByte _ _ w).mono ?_
      rw [ho]
      exact fun _ _ h => ⟨h.1, h.2.symm⟩
    have hw : IntKind.i64.wrap ((n : Int) + 1) = (n : Int) + 1 := wrap_small _ (by omega) (by omega)
    have y5 : (0 : Int) ≤ (n : Int) + 1 := by omega
    clear hn hlast hl ho z2 z4 hD4 hDz
    go_wp2_with (fail)
    go_step3
    go_wp2_with (fail)
    go_quiet (fail)
    go_wp2_with (fail)
    go_region_with (go_at_call 57; refine (HI.out _).mono ?_; rintro e w5 ⟨rfl, rfl⟩)
    all_goals
      go_wp2_with (fail)
      simp only [Exit.noGoto_ret, Exit.then, Exit.inBlock]
      go_ret
      first
        | exact ⟨rfl, ((Keep.refl _ _).drewN _).drew⟩
        | exact ⟨rfl, ((Keep.refl _ _).drewN _)⟩

set_option maxRecDepth 100000 in
set_option maxHeartbeats 2000000 in
theorem ixr_err (D : ByteArray) (hD : ∀ b ∈ D.data.toList, b.toNat < 128) (w : World) :
    Calls Tryd.prog 47 #[.string D, .int .i32 65533] w fun e w' => e = .returned (.int .i64 (-1)) ∧ Keep (fun _ => True) w w' := by
  have HD := Lib.hid hD
  clear hD
  go_enter Tryd.func47, Tryd.ntmps47
  go_wp2_with (fail)
  go_loopg [] D.size (fun g wx => ∃ i : Nat, i + g = D.size ∧ wx = w.iter D i)
  case atStart => exact ⟨0, by omega, rfl⟩
  case round =>
    obtain ⟨i, hig, rfl⟩ := hrel
    cases gk with
    | zero =>
      obtain rfl : i = D.size := by omega
      have hnx := run_next_end (P := Tryd.prog) w D D.size
      go_wp2_with (fail)
      go_ret
      exact ⟨rfl, (Keep.refl _ _).alloc _⟩
    | succ g =>
      have hi : i < D.size := by omega
      have hlow : D[i].toNat < 128 := HD.out _ (by
        have h1 := drop_cons D i hi
        have h2 : D[i] ∈ D.data.toList.drop i := by rw [h1]; exact List.mem_cons_self
        exact List.mem_of_mem_drop h2)
      have hnx := fun ty => run_next_ascii (P := Tryd.prog) w D i ty hi hlow
      have hne : ((D[i].toNat : Int) == 65533) = false := beq_eq_false_iff_ne.2 (by omega)
      go_wp2_with (fail)
      go_roundg g
      case measure => omega
      case rel => exact ⟨i + 1, by omega, rfl⟩

theorem delim_low : ∀ b ∈ (⟨#[40, 41, 123, 125, 59, 44]⟩ : ByteArray).data.toList, b.toNat < 128 := by decide
theorem single_low : ∀ c, c < 128 → decide ((0 : Int) ≤ Lib.indexByte (⟨#[40, 41, 123, 125, 59, 44]⟩ : ByteArray).data.toList c.toUInt8) = singleP c := by decide +kernel

set_option maxRecDepth 100000 in
set_option maxHeartbeats 2000000 in
theorem contains_any (c : Nat) (hv : Utf8.valid (c : Int) = true) (w : World) :
    Calls Tryd.prog 42 #[.string ⟨#[40, 41, 123, 125, 59, 44]⟩, .int .i32 c] w fun e w' => e = .returned (.bool (singleP c)) ∧ Keep (fun _ => True) w w' := by
  by_cases h : c < 128
  · refine (Tryd.strings_ContainsRune_ascii _ (c : Int) w (by omega) (by omega)).mono ?_
    rintro e w' ⟨rfl, rfl⟩
    rw [Int.toNat_natCast, single_low c h]
    exact ⟨rfl, Keep.refl _ _⟩
  · have hs : singleP c = false := by
      unfold singleP
      simp only [Bool.or_eq_false_iff, beq_eq_false_iff_ne]
      omega
    rw [hs]
    have HX : Hid (∀ w, Calls Tryd.prog 47 #[.string ⟨#[40, 41, 123, 125, 59, 44]⟩, .int .i32 c] w fun e w' => e = .returned (.int .i64 (-1)) ∧ Keep (fun _ => True) w w') := by
      intro w
      by_cases h2 : c = 65533
      · subst h2; exact ixr_err _ delim_low w
      · exact ixr_high _ (by decide) (by decide) delim_low (c : Int) w (by omega) hv (by omega)
    clear hs hv
    go_enter Tryd.func42, Tryd.ntmps42
    go_wp2_with (go_at_call 47; go_must (refine (HX.out _).mono ?_; rintro e w1 ⟨rfl, hk⟩; have HK := Lib.hid hk; clear hk))
    go_ret
    exact ⟨rfl, HK.out⟩
set_option maxRecDepth 100000 in
theorem single_any (c : Nat) (hv : Utf8.valid (c : Int) = true) (w : World) :
    Calls Tryd.prog 28 #[.int .i32 c] w fun e w' => e = .returned (.bool (singleP c)) ∧ Keep (fun _ => True) w w' := by
  have HX := Lib.hid (fun w => contains_any c hv w)
  generalize singleP c = b at *
  clear hv
  go_enter Tryd.func28, Tryd.ntmps28
  go_wp2_with (go_at_call 42; go_must (refine (HX.out _).mono ?_; rintro e w1 ⟨rfl, hk⟩; have HK := Lib.hid hk; clear hk))
  go_ret
  exact ⟨rfl, HK.out⟩
set_option maxRecDepth 100000 in
theorem ends_any (c : Nat) (hv : Utf8.valid (c : Int) = true) (w : World) :
    Calls Tryd.prog 30 #[.int .i32 c] w fun e w' => e = .returned (.bool (endsP c)) ∧ Keep (fun _ => True) w w' := by
  have HX := Lib.hid (fun w => single_any c hv w)
  have HS := Lib.hid (fun w => solid_any c w)
  unfold endsP
  generalize singleP c = b at *
  cases hsol : solidP c with
  | true =>
    rw [hsol] at HS
    clear hv hsol
    go_enter Tryd.func30, Tryd.ntmps30
    go_wp2_with (first
      | (go_at_call 24; go_must (refine (HS.out _).mono ?_; rintro e w1 ⟨rfl, rfl⟩))
      | (go_at_call 28; go_must (refine (HX.out _).mono ?_; rintro e w2 ⟨rfl, hk⟩; have HK := Lib.hid hk; clear hk)))
    go_ret
    exact ⟨rfl, HK.out⟩
  | false =>
    rw [hsol] at HS
    clear hv hsol
    go_enter Tryd.func30, Tryd.ntmps30
    go_wp2_with (first
      | (go_at_call 24; go_must (refine (HS.out _).mono ?_; rintro e w1 ⟨rfl, rfl⟩)))
    go_ret
    exact ⟨rfl, Keep.refl _ _⟩
end Go.Proofs.YtglkdhodpgnlgaaDoor
