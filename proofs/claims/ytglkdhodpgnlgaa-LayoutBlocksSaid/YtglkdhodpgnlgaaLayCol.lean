/-
  Package layout's column: the column of the innermost implicit block. Condition: the placer lies in memory as 'PlV' says.
-/
import Derived.Test.YtglkdhodpgnlgaaLayQ
namespace Go.Proofs.Ytglkdhodpgnlgaa
open Go.RowKit Go.Tel

def IdxAt (k : Nat) (i : Value) : Prop := (k = 0 ∧ i = .int .i64 (-1)) ∨ ∃ m : Nat, k = m + 1 ∧ i = .int .i64 m

set_option maxRecDepth 100000 in
set_option maxHeartbeats 1000000 in
theorem lcol_any {w : World} {bp bi ci : Nat} {X : Nat → Prop} {inn : List Tok} {S : PS} {vs vo : Value} (h : PlV w bp bi ci X inn S vs vo) (hn : 0 < S.stk.length) :
    Calls Try.prog 43 #[.pointer (some ⟨bp, 0, none⟩)] w fun e w' => e = .returned (.int .i64 (colOf S.stk S.stk.length)) ∧ w = w' := by
  obtain ⟨g, c, hv⟩ := h.form hn
  subst hv
  have hc := blk_cell h.blk
  have hbp := blk_lt h.blk
  have hsm : (S.stk.length : Int) ≤ 9223372036854775807 := by have := h.small; unfold maxLen at this; omega
  have HH := Lib.hid h; clear h
  obtain ⟨R, HR⟩ : ∃ R, Hid (colOf S.stk S.stk.length = R) := ⟨_, Lib.hid rfl⟩
  have HR1 := HR
  rw [HR1.out]; clear HR1
  obtain ⟨n, hn1⟩ : ∃ n, S.stk.length = n + 1 := ⟨S.stk.length - 1, by omega⟩
  have hn' : (0 : Int) < (S.stk.length : Int) := by omega
  go_enter Try.func43, Try.ntmps43
  have HN1 := Lib.hid hn1; clear hn1
  go_wp2
  go_loopg [3] S.stk.length (fun k i wr => wr = w ∧ IdxAt k i ∧ k ≤ S.stk.length ∧ colOf S.stk k = R)
  case atStart => exact ⟨rfl, Or.inr ⟨n, HN1.out, by rw [HN1.out]; congr 1; omega⟩, Nat.le_refl _, HR.out⟩
  case round =>
    obtain ⟨rfl, hi, hkn, hR⟩ := hrel
    have HR2 := Lib.hid hR; clear hR
    rcases hi with ⟨rfl, rfl⟩ | ⟨m, rfl, rfl⟩
    · go_wp2
      go_ret
      exact ⟨by rw [← HR2.out]; rfl, rfl⟩
    · have hm : m < S.stk.length := by omega
      have hm' : (m : Int) < (S.stk.length : Int) := by omega
      obtain ⟨b, hb⟩ : ∃ b, S.stk[m]? = some b := ⟨_, List.getElem?_eq_getElem hm⟩
      have hrow := HH.out.row hb
      have hl := hrow.2.2.1
      have b0 := hrow.1 0 (by omega); have b1 := hrow.1 1 (by omega)
      simp only [Blk.cells, Nat.add_zero] at b0 b1
      have HB := Lib.hid hb
      clear hrow hb
      cases hex : b.ex with
      | true =>
        rw [hex] at b0
        go_wp2
        go_roundg m
        case measure => omega
        case rel => exact ⟨rfl, by rcases m with _ | m; exact Or.inl ⟨rfl, rfl⟩; exact Or.inr ⟨m, rfl, by congr 1; omega⟩, by omega, by rw [← HR2.out]; simp [colOf, HB.out, hex]⟩
      | false =>
        rw [hex] at b0
        go_wp2
        go_ret
        exact ⟨by rw [← HR2.out]; simp [colOf, HB.out, hex], rfl⟩
end Go.Proofs.Ytglkdhodpgnlgaa
