/-
  The lexer of package lex: dotted: are a name's dots wrong? It goes by runes; the law goes by bytes. Condition: the text is not empty.
-/
import Derived.Test.YtglkdhodpgnlgaaDoorLxA
import Derived.Laws.RangeAny
namespace Go.Proofs.YtglkdhodpgnlgaaDoor
open Go.RowKit Go.Tel

def dotB : Bool → List UInt8 → Bool
  | b, [] => b
  | b, c :: r => (c.toNat == 46 && b) || dotB (c.toNat == 46) r
theorem dotB_from (l : List UInt8) : ∀ b, dotB b l = ((b && headDot l) || dotsFrom false l) := by
  induction l with
  | nil => intro b; cases b <;> rfl
  | cons c r ih =>
    intro b
    rw [dotB, ih]
    simp only [dotsFrom, headDot]
    cases (c.toNat == 46) <;> cases b <;> cases headDot r <;> cases dotsFrom false r <;> rfl
theorem dotB_dots (l : List UInt8) (h : l ≠ []) : dotB true l = dots l := by
  cases l with
  | nil => exact absurd rfl h
  | cons c r =>
    rw [dotB_from]
    unfold dots
    simp only [dotsFrom, headDot]
    cases (c.toNat == 46) <;> cases headDot r <;> cases dotsFrom false r <;> rfl
theorem dotB_skip (n : Nat) : ∀ (l : List UInt8), (∀ d ∈ l.take n, 128 ≤ d.toNat) → dotB false l = dotB false (l.drop n) := by
  induction n with
  | zero => intro l _; rfl
  | succ n ih =>
    intro l h
    cases l with
    | nil => rfl
    | cons c r =>
      have hc := h c (by simp)
      have h46 : (c.toNat == 46) = false := beq_eq_false_iff_ne.2 (by omega)
      rw [dotB, h46]
      simp only [Bool.false_and, Bool.false_or, List.drop_succ_cons]
      exact ih r (fun d hd => h d (by simp [hd]))
theorem contV_take (n : Nat) : ∀ (l : List UInt8) (v u : Nat), contV n l v = some u → ∀ d ∈ l.take n, 128 ≤ d.toNat := by
  induction n with
  | zero => intro l v u _ d hd; simp at hd
  | succ n ih =>
    intro l v u h d hd
    cases l with
    | nil => simp at hd
    | cons c r =>
      simp only [contV] at h
      split at h
      · cases h
      · rename_i hc
        simp only [List.take_succ_cons, List.mem_cons] at hd
        rcases hd with rfl | hd
        · omega
        · exact ih r _ _ h d hd
theorem runeOpt_take {n m least : Nat} {l : List UInt8} {v : Nat} (hm : n = m + 1) (h : runeOpt n least (contV m l v) ≠ 0) : runeOpt n least (contV m l v) = m + 1 ∧ ∀ d ∈ l.take m, 128 ≤ d.toNat := by
  cases hc : contV m l v with
  | none => rw [hc] at h; exact absurd rfl h
  | some u =>
    rw [hc] at h
    simp only [runeOpt, runeFin] at h ⊢
    split at h
    · exact absurd rfl h
    · rename_i hu
      rw [if_neg hu]
      exact ⟨hm, contV_take _ _ _ _ hc⟩
theorem runeLen_take {c : UInt8} {r : List UInt8} (hc : 128 ≤ c.toNat) (h : runeLen (c :: r) ≠ 0) : ∃ m, runeLen (c :: r) = m + 1 ∧ ∀ d ∈ r.take m, 128 ≤ d.toNat := by
  unfold runeLen at h ⊢
  simp only [] at h ⊢
  rw [if_neg (by omega)] at h ⊢
  split at h
  · rename_i h2; rw [if_pos h2]; exact ⟨1, runeOpt_take rfl h⟩
  · rename_i h2; rw [if_neg h2]
    split at h
    · rename_i h3; rw [if_pos h3]; exact ⟨2, runeOpt_take rfl h⟩
    · rename_i h3; rw [if_neg h3]
      split at h
      · rename_i h4; rw [if_pos h4]; exact ⟨3, runeOpt_take rfl h⟩
      · exact absurd rfl h
/-- A round: by a rune, or by its bytes. -/
theorem dotB_step (b : Bool) (c : UInt8) (r : List UInt8) : 1 ≤ (decL (c :: r)).2 ∧ dotB b (c :: r) = (((decL (c :: r)).1 == 46 && b) || dotB ((decL (c :: r)).1 == 46) ((c :: r).drop (decL (c :: r)).2)) := by
  have hd := dec_ok c r
  by_cases hc : c.toNat < 128
  · rw [(hd.low hc).1]
    exact ⟨Nat.le_refl _, rfl⟩
  · have hhi := hd.high (by omega)
    have h46 : (c.toNat == 46) = false := beq_eq_false_iff_ne.2 (by omega)
    have h46' : ((decL (c :: r)).1 == 46) = false := beq_eq_false_iff_ne.2 (by omega)
    rw [dotB, h46, h46']
    by_cases h0 : runeLen (c :: r) = 0
    · rw [hd.bad h0]; exact ⟨Nat.le_refl _, rfl⟩
    · obtain ⟨m, hm, hall⟩ := runeLen_take (by omega) h0
      rw [(hd.len h0).1, hm]
      refine ⟨by omega, ?_⟩
      simp only [Bool.false_and, Bool.false_or, List.drop_succ_cons]
      exact dotB_skip m r hall

set_option maxRecDepth 100000 in
set_option maxHeartbeats 4000000 in
theorem dotted_any (s : ByteArray) (w : World) (hne : s.data.toList ≠ []) :
    Calls Tryd.prog 44 #[.string s] w fun e w' => e = .returned (.bool (dots s.data.toList)) ∧ Keep (fun _ => True) w w' := by
  obtain ⟨b, hb⟩ : ∃ b, dots s.data.toList = b := ⟨_, rfl⟩
  rw [hb]
  have HD : Hid (dotB true s.data.toList = b) := by show _ = _; rw [dotB_dots _ hne]; exact hb
  clear hb hne
  go_enter Tryd.func44, Tryd.ntmps44
  go_wp2
  go_loopw [3] (fun n w' => ∃ (pos lc : Nat), w' = w.iter s pos ∧ n = .int .i32 lc ∧ Hid (dotB (lc == 46) (s.data.toList.drop pos) = b)) (fun _ w' => s.size - w'.iterPos w.heap.size)
  case atStart => exact ⟨0, 46, rfl, rfl, HD⟩
  case round =>
    clear HD
    obtain ⟨pos, lc, rfl, rfl, HH⟩ := hrel
    by_cases hp : pos < s.size
    · obtain ⟨v, n, hvn, hn, HS⟩ : ∃ v n, Utf8.decode s pos = (v, n) ∧ 1 ≤ n ∧ Hid (((v == 46 && (lc == 46)) || dotB (v == 46) (s.data.toList.drop (pos + n))) = b) := by
        have hst := dotB_step (lc == 46) s[pos] (s.data.toList.drop (pos + 1))
        rw [← drop_cons s pos hp, ← decode_drop, List.drop_drop] at hst
        exact ⟨_, _, rfl, hst.1, Lib.hid (hst.2.symm.trans HH.out)⟩
      have hnx : ∀ ty, (Instr.next (.pointer (some ⟨w.heap.size, 0, none⟩)) true ty).run Tryd.prog (w.iter s pos) = .ok (.tuple #[.bool true, .int .i64 pos, .int .i32 v]) (w.iter s (pos + n)) := fun ty => by
        rw [run_next_any w s pos ty hp, hvn]
      clear hvn HH
      cases hv : v == 46 with
      | false =>
        have f1 : ((v : Int) == 46) = false := by rw [beq_eq_false_iff_ne] at hv ⊢; omega
        have HV := Lib.hid hv
        clear hv
        go_wp2
        go_roundw
        case rel => exact ⟨pos + n, v, rfl, rfl, by show _ = _; rw [HV.out, ← HS.out, HV.out]; rfl⟩
        case measure => simp; omega
      | true =>
        have f1 : ((v : Int) == 46) = true := by rw [beq_iff_eq] at hv ⊢; omega
        cases hl : lc == 46 with
        | false =>
          have f2 : ((lc : Int) == 46) = false := by rw [beq_eq_false_iff_ne] at hl ⊢; omega
          have HV := Lib.hid hv
          have HL := Lib.hid hl
          clear hv hl
          go_wp2
          go_roundw
          case rel => exact ⟨pos + n, v, rfl, rfl, by show _ = _; rw [HV.out, ← HS.out, HV.out, HL.out]; rfl⟩
          case measure => simp; omega
        | true =>
          have f2 : ((lc : Int) == 46) = true := by rw [beq_iff_eq] at hl ⊢; omega
          have HB : Hid (b = true) := by show _ = _; rw [← HS.out, hv, hl]; rfl
          clear hv hl
          go_wp2
          go_ret
          exact ⟨by rw [HB.out]; rfl, (Keep.refl _ _).alloc _⟩
    · have hnx : ∀ ty, (Instr.next (.pointer (some ⟨w.heap.size, 0, none⟩)) true ty).run Tryd.prog (w.iter s pos) = _ := fun ty => run_next_end w s pos ty hp
      have HB : Hid (b = (lc == 46)) := by show _ = _; rw [← HH.out, drop_end s pos (by omega)]; rfl
      clear HH
      cases hl : lc == 46 with
      | false =>
        have f2 : ((lc : Int) == 46) = false := by rw [beq_eq_false_iff_ne] at hl ⊢; omega
        rw [hl] at HB
        clear hl
        go_wp2
        go_ret
        exact ⟨by rw [HB.out]; rfl, (Keep.refl _ _).alloc _⟩
      | true =>
        have f2 : ((lc : Int) == 46) = true := by rw [beq_iff_eq] at hl ⊢; omega
        rw [hl] at HB
        clear hl
        go_wp2
        go_ret
        exact ⟨by rw [HB.out]; rfl, (Keep.refl _ _).alloc _⟩
end Go.Proofs.YtglkdhodpgnlgaaDoor
