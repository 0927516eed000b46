/-
  The lexer of package lex: its scanner in memory; its small methods: step, fail, and what it asks of a rune. Condition: the scanner's block is known whole.
-/
import Derived.Test.YtglkdhodpgnlgaaDoorRTokP
import Derived.Test.YtglkdhodpgnlgaaDoorDec
import Derived.Test.YtglkdhodpgnlgaaDoorShelf
import Derived.StillTailTactics
namespace Go.Proofs.YtglkdhodpgnlgaaDoor
open Go.RowKit Go.Tel

def SObj (s : ByteArray) (mv vo : Value) (a l c : Nat) (bd pl : Int) : Obj :=
  .cells #[.string s, .int .i64 a, .int .i64 l, .int .i64 c, mv, vo, .int .i64 bd, .int .i64 pl] 46 (0, 0)
/-- What a method that touches the scanner's own block alone leaves. -/
def SPost (bp : Nat) (v : Value) (o : Obj) (w : World) (e : Ending) (w' : World) : Prop := e = .returned v ∧ w'.heap[bp]? = some o ∧ Keep (fun k => k ≠ bp) w w'
theorem s_close {bp : Nat} {v : Value} {o : Obj} {w w' : World} (h : w'.heap[bp]? = some o) (hk : Keep (fun k => k ≠ bp) w w') : SPost bp v o w (.returned v) w' := ⟨rfl, h, hk⟩

section
variable {w : World} {bp : Nat} {s : ByteArray} {mv vo : Value} {a l c : Nat} {bd pl : Int}
set_option maxRecDepth 100000 in
set_option maxHeartbeats 1000000 in
theorem step_col (hb : w.heap[bp]? = some (SObj s mv vo a l c bd pl)) (r : Int) (n : Nat) (hr : (r == 10) = false) (ha : (a : Int) + (n : Int) ≤ 200000) (hc : (c : Int) ≤ 200000) :
    Calls Tryd.prog 29 #[.pointer (some ⟨bp, 0, none⟩), .int .i32 r, .int .i64 n] w (SPost bp (.tuple #[]) (SObj s mv vo (a + n) l (c + 1) bd pl) w) := by
  have hcell := blk_cell hb
  have hf := blk_free hb
  have hlt := blk_lt hb
  have HB := Lib.hid hb; clear hb
  go_enter Tryd.func29, Tryd.ntmps29
  go_wp2
  go_end0
  exact s_close (blk_set (blk_set HB.out 1 _) 3 _) (((Keep.refl _ _).own _ _).own _ _)
set_option maxRecDepth 100000 in
set_option maxHeartbeats 1000000 in
theorem step_line (hb : w.heap[bp]? = some (SObj s mv vo a l c bd pl)) (r : Int) (n : Nat) (hr : (r == 10) = true) (ha : (a : Int) + (n : Int) ≤ 200000) (hc : (c : Int) ≤ 200000) (hl : (l : Int) ≤ 200000) :
    Calls Tryd.prog 29 #[.pointer (some ⟨bp, 0, none⟩), .int .i32 r, .int .i64 n] w (SPost bp (.tuple #[]) (SObj s mv vo (a + n) (l + 1) 1 bd pl) w) := by
  have hcell := blk_cell hb
  have hf := blk_free hb
  have hlt := blk_lt hb
  have HB := Lib.hid hb; clear hb
  go_enter Tryd.func29, Tryd.ntmps29
  go_wp2
  go_end0
  exact s_close (blk_set (blk_set (blk_set (blk_set HB.out 1 _) 3 _) 2 _) 3 _) (((((Keep.refl _ _).own _ _).own _ _).own _ _).own _ _)
set_option maxRecDepth 100000 in
set_option maxHeartbeats 1000000 in
theorem sfail_any (hb : w.heap[bp]? = some (SObj s mv vo a l c 0 pl)) (p e : Int) :
    Calls Tryd.prog 34 #[.pointer (some ⟨bp, 0, none⟩), .int .i64 p, .int .i64 e] w (SPost bp (.bool false) (SObj s mv vo a l c e p) w) := by
  have hcell := blk_cell hb
  have hf := blk_free hb
  have hlt := blk_lt hb
  have HB := Lib.hid hb; clear hb
  go_enter Tryd.func34, Tryd.ntmps34
  go_wp2
  go_ret
  exact s_close (blk_set (blk_set HB.out 6 _) 7 _) (((Keep.refl _ _).own _ _).own _ _)
end

/-- Is a rune none of what parts tokens? -/
def solidP (c : Nat) : Bool := !(c == 32) && !(c == 10)
def nlP (c : Nat) : Bool := c == 10
def singleP (c : Nat) : Bool := c == 40 || c == 41 || c == 123 || c == 125 || c == 59 || c == 44
def endsP (c : Nat) : Bool := !(solidP c) || singleP c

set_option maxRecDepth 100000 in
theorem solid_any (c : Nat) (w : World) : Calls Tryd.prog 24 #[.int .i32 c] w fun e w' => e = .returned (.bool (solidP c)) ∧ w = w' := by
  cases h1 : c == 32 with
  | true =>
    have h2 : ((c : Int) != 32) = false := by rw [beq_iff_eq] at h1; rw [h1]; rfl
    have hE : Hid (solidP c = false) := by show _ = _; unfold solidP; rw [h1]; rfl
    rw [hE.out]; clear h1
    go_enter Tryd.func24, Tryd.ntmps24
    go_wp2
    go_ret
    exact ⟨rfl, rfl⟩
  | false =>
    have h2 : ((c : Int) != 32) = true := by rw [beq_eq_false_iff_ne] at h1; rw [bne_iff_ne]; omega
    cases h3 : c == 10 with
    | true =>
      have h4 : ((c : Int) != 10) = false := by rw [beq_iff_eq] at h3; rw [h3]; rfl
      have hE : Hid (solidP c = false) := by show _ = _; unfold solidP; rw [h1, h3]; rfl
      rw [hE.out]; clear h1 h3
      go_enter Tryd.func24, Tryd.ntmps24
      go_wp2
      go_ret
      exact ⟨rfl, rfl⟩
    | false =>
      have h4 : ((c : Int) != 10) = true := by rw [beq_eq_false_iff_ne] at h3; rw [bne_iff_ne]; omega
      have hE : Hid (solidP c = true) := by show _ = _; unfold solidP; rw [h1, h3]; rfl
      rw [hE.out]; clear h1 h3
      go_enter Tryd.func24, Tryd.ntmps24
      go_wp2
      go_ret
      exact ⟨rfl, rfl⟩
set_option maxRecDepth 100000 in
theorem nl_any (c : Nat) (w : World) : Calls Tryd.prog 26 #[.int .i32 c] w fun e w' => e = .returned (.bool (nlP c)) ∧ w = w' := by
  cases h3 : c == 10 with
  | true =>
    have h4 : ((c : Int) == 10) = true := by rw [beq_iff_eq] at h3; rw [h3]; rfl
    have hE : Hid (nlP c = true) := h3
    rw [hE.out]; clear h3
    go_enter Tryd.func26, Tryd.ntmps26
    go_wp2
    go_ret
    exact ⟨rfl, rfl⟩
  | false =>
    have h4 : ((c : Int) == 10) = false := by rw [beq_eq_false_iff_ne] at h3; rw [beq_eq_false_iff_ne]; omega
    have hE : Hid (nlP c = false) := h3
    rw [hE.out]; clear h3
    go_enter Tryd.func26, Tryd.ntmps26
    go_wp2
    go_ret
    exact ⟨rfl, rfl⟩
end Go.Proofs.YtglkdhodpgnlgaaDoor
