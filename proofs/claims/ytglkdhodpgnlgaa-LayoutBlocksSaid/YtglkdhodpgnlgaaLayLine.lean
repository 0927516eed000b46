/-
  Package layout's line: the rule of lines. Condition: the placer lies in memory as 'Pl' says, a token is looked at, the stack is not empty.
-/
import Derived.Test.YtglkdhodpgnlgaaLayLast
namespace Go.Proofs.Ytglkdhodpgnlgaa
open Go.RowKit Go.Tel

section
variable {w : World} {bp bi ci : Nat} {X : Nat → Prop} {inn : List Tok} {S : PS}

set_option maxRecDepth 100000 in
set_option maxHeartbeats 2000000 in
theorem lline_no (h : Pl w bp bi ci X inn S) (hat : S.at_ < inn.length) (hno : S.at_ = 0 ∨ S.first = true ∨ (S.now inn).kind = 7 ∨ (S.now inn).line ≤ (inn.getD (S.at_ - 1) noTok).line) :
    Calls Try.prog 30 #[.pointer (some ⟨bp, 0, none⟩)] w (PlPost bp bi ci X inn (.bool true) S w) := by
  obtain ⟨vs, vo, h⟩ := h
  have HC := Lib.hid (lnow_any h hat)
  have hc := blk_cell h.blk
  have hbp := blk_lt h.blk
  have hbi : bi < w.heap.size := (h.kept bi h.xbi).2.2.2
  have HA := Lib.hid ((h.alloc (tokObj (S.now inn))).alloc (tokObj (S.now inn))).drew
  have HK := Lib.hid (((Keep.refl X w).alloc (tokObj (S.now inn))).alloc (tokObj (S.now inn))).drew
  have hprev : Hid (0 < S.at_ → ∀ j, j < 5 → w.cell? ⟨bi, (S.at_ - 1) * 5 + j, none⟩ = (inn.getD (S.at_ - 1) noTok).cells[j]?) := by
    intro h0
    have : inn[S.at_ - 1]? = some (inn.getD (S.at_ - 1) noTok) := by rw [List.getD_eq_getElem?_getD, List.getElem?_eq_getElem (by omega)]; rfl
    exact h.inn.tok this
  have hln : (inn.length : Int) < 100000 := by have := h.inn.small; omega
  generalize inn.getD (S.at_ - 1) noTok = pv at *
  generalize S.now inn = t at *
  have hatl : (S.at_ : Int) < (inn.length : Int) := by omega
  have hfs : ∀ b, S.first = b → (#[vs, Value.slice (some ⟨bi, 0, none⟩) inn.length ci, .int .i64 S.at_, vo, .int .i64 S.bad, .int .i64 S.place, .bool S.first, .bool S.done] : Array Value) = #[vs, Value.slice (some ⟨bi, 0, none⟩) inn.length ci, .int .i64 S.at_, vo, .int .i64 S.bad, .int .i64 S.place, .bool b, .bool S.done] := by rintro b rfl; rfl
  have HFS := Lib.hid hfs
  clear h hfs
  by_cases h0 : S.at_ = 0
  · have h0' : ((S.at_ : Int) == 0) = true := beq_iff_eq.2 (by omega)
    clear hno h0 hprev
    go_enter Try.func30, Try.ntmps30
    go_wp2_with (fail)
    go_step3
    go_wp2_with (go_at_call 35; go_must (refine HC.out.mono ?_; rintro e w1 ⟨rfl, rfl⟩))
    go_quiet (fail)
    go_wp2_with (fail)
    rw [Exit.noGoto_ret]
    go_ret
    exact pl_close (Pl.of (HA.out.drewN _)) (HK.out.drewN _)
  · have h0' : ((S.at_ : Int) == 0) = false := beq_eq_false_iff_ne.2 (by omega)
    have hp := hprev.out (by omega)
    have p3 := hp 3 (by omega)
    simp only [Tok.cells] at p3
    have hge : (1 : Int) ≤ (S.at_ : Int) := by omega
    have e1 : ((S.at_ : Int) - 1).toNat = S.at_ - 1 := by omega
    clear hp hprev
    cases hf : S.first with
    | true =>
      rw [HFS.out _ hf] at hc
      clear hno hf h0 e1
      go_enter Try.func30, Try.ntmps30
      go_wp2_with (fail)
      go_step3
      go_wp2_with (go_at_call 35; go_must (refine HC.out.mono ?_; rintro e w1 ⟨rfl, rfl⟩))
      go_quiet (fail)
      go_wp2_with (fail)
      rw [Exit.noGoto_ret]
      go_ret
      exact pl_close (Pl.of (HA.out.drewN _)) (HK.out.drewN _)
    | false =>
      rw [HFS.out _ hf] at hc
      by_cases h7 : t.kind = 7
      · have h7' : (t.kind == 7) = true := beq_iff_eq.2 h7
        clear hno hf h0 e1 h7
        go_enter Try.func30, Try.ntmps30
        go_wp2_with (fail)
        go_step3
        go_wp2_with (go_at_call 35; go_must (refine HC.out.mono ?_; rintro e w1 ⟨rfl, rfl⟩))
        go_quiet (fail)
        go_wp2_with (fail)
        rw [Exit.noGoto_ret]
        go_ret
        exact pl_close (Pl.of (HA.out.drewN _)) (HK.out.drewN _)
      · have h7' : (t.kind == 7) = false := beq_eq_false_iff_ne.2 h7
        have hle : t.line ≤ pv.line := by
          rcases hno with h | h | h | h
          · exact absurd h h0
          · rw [hf] at h; cases h
          · exact absurd h h7
          · exact h
        have HE1 := Lib.hid e1
        clear hno hf h0 e1 h7
        go_enter Try.func30, Try.ntmps30
        go_wp2_with (fail)
        go_step3
        go_wp2_with (go_at_call 35; go_must (refine HC.out.mono ?_; rintro e w1 ⟨rfl, rfl⟩))
        go_quiet (fail)
        go_wp2_with (fail)
        rw [Exit.noGoto_ret]
        go_ret
        exact pl_close (Pl.of (HA.out.drewN _)) (HK.out.drewN _)
end
end Go.Proofs.Ytglkdhodpgnlgaa
