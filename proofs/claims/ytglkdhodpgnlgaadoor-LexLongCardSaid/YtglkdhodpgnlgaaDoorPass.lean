/-
  The reference's (*lexer).pass: one rune: it writes 'Lx.pass' into the lexer's block. Condition: the text is not longer than 100000 bytes, the lexer's block is known whole, its place lies in the text.
-/
import Derived.Test.YtglkdhodpgnlgaaDoorKind
import Derived.Test.YtglkdhodpgnlgaaDoorLexp
import Derived.Deep.QuietTactic
import Derived.BigQuiet
namespace Go.Proofs.YtglkdhodpgnlgaaDoor
open Go.RowKit Go.Tel

theorem quiet_same {P : Program} {f : FuncId} {args : Array Value} {w : World} {n : Nat} {v : Value}
    (h : Calls P f args (w.drewN n) fun e w' => e = .returned v ∧ w.drewN n = w') : Calls P f args (w.drewN n) fun e w'' => e = .returned v ∧ ∃ m, w'' = w.drewN m :=
  h.mono fun _ _ ⟨he, hm⟩ => ⟨he, n, hm.symm⟩

def LexBlk (s : ByteArray) (a l c e : Nat) : Obj := .cells #[.string s, .int .i64 a, .int .i64 l, .int .i64 c, .int .i64 e] 49 (0, 0)

def LexPost (s : ByteArray) (bx a l c e : Nat) (w : World) (en : Ending) (w' : World) : Prop :=
  en = .returned (.tuple #[]) ∧ w'.heap[bx]? = some (LexBlk s a l c e) ∧ Keep (fun b => b ≠ bx) w w'

theorem lex_close {s : ByteArray} {bx a l c e : Nat} {w w' : World} (h : w'.heap[bx]? = some (LexBlk s a l c e)) (hk : Keep (fun b => b ≠ bx) w w') : LexPost s bx a l c e w (.returned (.tuple #[])) w' := ⟨rfl, h, hk⟩

theorem lexBlk_eq {s : ByteArray} {a l c e : Int} {a' l' c' e' : Nat} (h1 : a = a') (h2 : l = l') (h3 : c = c') (h4 : e = e') :
    (some (.cells #[.string s, .int .i64 a, .int .i64 l, .int .i64 c, .int .i64 e] 49 (0, 0)) : Option Obj) = some (LexBlk s a' l' c' e') := by
  subst h1 h2 h3 h4; rfl

theorem isBad_of (c : UInt8) : isBad c = ((decide (c.toNat < 32) && !(c.toNat == 10)) || c.toNat == 127) := rfl

theorem rune_at (s : ByteArray) (a n : Nat) (w : World) (hs : (s.size : Int) ≤ 100000) (ha : a < s.size) (hn : Hid (runeLen (s.data.toList.drop a) = n)) :
    Calls Tryd.prog 35 #[.string s, .int .i64 a] w fun e w' => e = .returned (.int .i64 n) ∧ w = w' := by
  have h := rune_any s (a : Int) w hs (by omega) (by omega)
  rw [Int.toNat_natCast, hn.out] at h; exact h

section
variable (s : ByteArray) (bx a l c e n : Nat) (w : World) (hs : (s.size : Int) ≤ 100000) (ha : a < s.size) (hl : (l : Int) ≤ 200000) (hcc : (c : Int) ≤ 200000) (hb : w.heap[bx]? = some (LexBlk s a l c e)) (hn : Hid (runeLen (s.data.toList.drop a) = n))

set_option maxRecDepth 100000 in
set_option maxHeartbeats 1000000 in
include hs ha hb hn in
theorem pass_utf (h0 : ((n : Int) == 0) = true) :
    Calls Tryd.prog 19 #[.pointer (some ⟨bx, 0, none⟩)] w (LexPost s bx a l c 40 w) := by
  have hc := blk_cell hb
  have hf := blk_free hb
  have hlt := blk_lt hb
  have HB := Lib.hid hb; clear hb
  go_enter Tryd.func19, Tryd.ntmps19
  go_wp2
  go_quiet ((go_at_call 35; exact quiet_same (rune_at s a n _ hs ha hn)))
  go_wp2
  refine bodyPost_ret (results_none rfl _ _ _) rfl ?_
  exact lex_close (blk_set HB.out 4 (.int .i64 40)) (((Keep.refl _ _).drewN _).own _ _)

set_option maxRecDepth 100000 in
set_option maxHeartbeats 1000000 in
include hs ha hb hn in
theorem pass_low (h0 : ((n : Int) == 0) = false) (_hn4 : (n : Int) ≤ 4) (h1 : (s[a].toNat : Int) < 32) (h2 : ((s[a].toNat : Int) != 10) = true) :
    Calls Tryd.prog 19 #[.pointer (some ⟨bx, 0, none⟩)] w (LexPost s bx a l c 41 w) := by
  have ha' : (a : Int) < (s.size : Int) := by omega
  have h256 : (s[a].toNat : Int) < 256 := by have := s[a].toNat_lt; omega
  have hc := blk_cell hb
  have hf := blk_free hb
  have hlt := blk_lt hb
  have HB := Lib.hid hb; clear hb
  go_enter Tryd.func19, Tryd.ntmps19
  go_wp2
  go_quiet ((go_at_call 35; exact quiet_same (rune_at s a n _ hs ha hn)))
  go_wp2
  go_quiet (fail)
  go_wp2
  refine bodyPost_ret (results_none rfl _ _ _) rfl ?_
  exact lex_close (blk_set HB.out 4 (.int .i64 41)) (((Keep.refl _ _).drewN _).own _ _)

set_option maxRecDepth 100000 in
set_option maxHeartbeats 1000000 in
include hs ha hb hn in
theorem pass_del (h0 : ((n : Int) == 0) = false) (_hn4 : (n : Int) ≤ 4) (h1 : (32 : Int) ≤ (s[a].toNat : Int)) (h2 : ((s[a].toNat : Int) == 127) = true) :
    Calls Tryd.prog 19 #[.pointer (some ⟨bx, 0, none⟩)] w (LexPost s bx a l c 41 w) := by
  have ha' : (a : Int) < (s.size : Int) := by omega
  have h256 : (s[a].toNat : Int) < 256 := by have := s[a].toNat_lt; omega
  have hc := blk_cell hb
  have hf := blk_free hb
  have hlt := blk_lt hb
  have HB := Lib.hid hb; clear hb
  go_enter Tryd.func19, Tryd.ntmps19
  go_wp2
  go_quiet ((go_at_call 35; exact quiet_same (rune_at s a n _ hs ha hn)))
  go_wp2
  go_quiet (fail)
  go_wp2
  refine bodyPost_ret (results_none rfl _ _ _) rfl ?_
  exact lex_close (blk_set HB.out 4 (.int .i64 41)) (((Keep.refl _ _).drewN _).own _ _)

set_option maxRecDepth 100000 in
set_option maxHeartbeats 1000000 in
include hs ha hl hcc hb hn in
theorem pass_line (h0 : ((n : Int) == 0) = false) (hn4 : (n : Int) ≤ 4) (h1 : (s[a].toNat : Int) < 32) (h2 : ((s[a].toNat : Int) != 10) = false) :
    Calls Tryd.prog 19 #[.pointer (some ⟨bx, 0, none⟩)] w (LexPost s bx (a + n) (l + 1) 1 e w) := by
  have ha' : (a : Int) < (s.size : Int) := by omega
  have h256 : (s[a].toNat : Int) < 256 := by have := s[a].toNat_lt; omega
  have hc := blk_cell hb
  have hf := blk_free hb
  have hlt := blk_lt hb
  have HB := Lib.hid hb; clear hb
  go_enter Tryd.func19, Tryd.ntmps19
  go_wp2
  go_quiet ((go_at_call 35; exact quiet_same (rune_at s a n _ hs ha hn)))
  go_wp2
  go_quiet (fail)
  go_wp2
  go_end0
  exact lex_close (blk_set (blk_set (blk_set (blk_set HB.out 1 _) 3 _) 2 _) 3 _) ((((((Keep.refl _ _).drewN _).own _ _).own _ _).own _ _).own _ _)

set_option maxRecDepth 100000 in
set_option maxHeartbeats 1000000 in
include hs ha hcc hb hn in
theorem pass_col (h0 : ((n : Int) == 0) = false) (hn4 : (n : Int) ≤ 4) (h1 : (32 : Int) ≤ (s[a].toNat : Int)) (h2 : ((s[a].toNat : Int) == 127) = false) (h3 : ((s[a].toNat : Int) == 10) = false) :
    Calls Tryd.prog 19 #[.pointer (some ⟨bx, 0, none⟩)] w (LexPost s bx (a + n) l (c + 1) e w) := by
  have ha' : (a : Int) < (s.size : Int) := by omega
  have h256 : (s[a].toNat : Int) < 256 := by have := s[a].toNat_lt; omega
  have hc := blk_cell hb
  have hf := blk_free hb
  have hlt := blk_lt hb
  have HB := Lib.hid hb; clear hb
  go_enter Tryd.func19, Tryd.ntmps19
  go_wp2
  go_quiet ((go_at_call 35; exact quiet_same (rune_at s a n _ hs ha hn)))
  go_wp2
  go_quiet (fail)
  go_wp2
  go_end0
  exact lex_close (blk_set (blk_set HB.out 1 _) 3 _) ((((Keep.refl _ _).drewN _).own _ _).own _ _)
end

/-- The contract. -/
theorem pass_any (s : ByteArray) (bx : Nat) (x : Lx) (w : World) (hs : (s.size : Int) ≤ 100000) (hx : x.ok s) (ha : x.at_ < s.size) (hb : w.heap[bx]? = some (LexBlk s x.at_ x.line x.col x.e)) :
    Calls Tryd.prog 19 #[.pointer (some ⟨bx, 0, none⟩)] w (LexPost s bx x.pass.at_ x.pass.line x.pass.col x.pass.e w) := by
  have hl : (x.line : Int) ≤ 200000 := by have := hx.line; omega
  have hc : (x.col : Int) ≤ 200000 := by have := hx.col; omega
  have hr : x.rest = s[x.at_] :: s.data.toList.drop (x.at_ + 1) := by rw [hx.rest, drop_cons s x.at_ ha]
  have hn : Hid (runeLen (s.data.toList.drop x.at_) = runeLen x.rest) := by show _ = _; rw [hx.rest]
  have h4 : (runeLen x.rest : Int) ≤ 4 := by have := runeLen_le4 x.rest; omega
  unfold Lx.pass
  rw [hr]
  simp only []
  rw [← hr]
  by_cases h0 : runeLen x.rest = 0
  · rw [if_pos h0]
    exact pass_utf s bx x.at_ x.line x.col x.e _ w hs ha hb hn (beq_iff_eq.2 (by omega))
  · rw [if_neg h0]
    have h0' : ((runeLen x.rest : Int) == 0) = false := beq_eq_false_iff_ne.2 (by omega)
    by_cases h1 : s[x.at_].toNat < 32
    · by_cases h2 : s[x.at_].toNat = 10
      · have hbad : isBad s[x.at_] = false := by simp [isBad, h2]
        rw [hbad, if_neg (by simp), if_pos h2, if_pos h2]
        exact pass_line s bx x.at_ x.line x.col x.e _ w hs ha hl hc hb hn h0' h4 (by omega) (by rw [h2]; rfl)
      · have hbad : isBad s[x.at_] = true := by simp [isBad, h1, h2]
        rw [hbad, if_pos rfl]
        exact pass_low s bx x.at_ x.line x.col x.e _ w hs ha hb hn h0' h4 (by omega) (by rw [bne_iff_ne]; omega)
    · by_cases h2 : s[x.at_].toNat = 127
      · have hbad : isBad s[x.at_] = true := by simp [isBad, h2]
        rw [hbad, if_pos rfl]
        exact pass_del s bx x.at_ x.line x.col x.e _ w hs ha hb hn h0' h4 (by omega) (by rw [h2]; rfl)
      · have hbad : isBad s[x.at_] = false := by simp [isBad, h1, h2]
        have h10 : ¬ s[x.at_].toNat = 10 := by omega
        rw [hbad, if_neg (by simp), if_neg h10, if_neg h10]
        exact pass_col s bx x.at_ x.line x.col x.e _ w hs ha hc hb hn h0' h4 (by omega) (beq_eq_false_iff_ne.2 (by omega)) (beq_eq_false_iff_ne.2 (by omega))

end Go.Proofs.YtglkdhodpgnlgaaDoor
