/-
  The laws' small functions: num, Same, alive. Conditions: the rows lie in memory; Go's decoder's tables and the library's table of blanks lie as they are laid.
-/
import Derived.Test.YtglkdhodpgnlgaaDoorLxZ
import Derived.BigQuiet
namespace Go.Proofs.YtglkdhodpgnlgaaDoor
open Go.RowKit Go.Tel

theorem row_tok {w : World} {base : Nat} {v : Value} {out : List Tok} (h : w.ownsRow base 28 5 v out.length (Toks out)) {i : Nat} {t : Tok} (hi : out[i]? = some t) :
    ∃ g c, v = .slice (some ⟨g, 0, none⟩) out.length c ∧ g < w.heap.size ∧ ∀ j, j < 5 → w.cell? ⟨g, i * 5 + j, none⟩ = t.cells[j]? := by
  have hl := (List.getElem?_eq_some_iff.1 hi).1
  rcases h.2 with ⟨_, h0⟩ | ⟨g, c, cur, hv, _, hg, _, _, _, ht⟩
  · omega
  · refine ⟨g, c, hv, blk_lt hg, fun j hj => ?_⟩
    rw [blk_cell hg, ← Toks_at out i j t hi hj, ← ht, List.getElem?_take, if_pos]
    · simp
    · omega

/-- A slice that holds these tokens. -/
structure Holds5 (w : World) (v : Value) (l : List Tok) : Prop where
  form : ∃ p c, v = .slice p l.length c
  tok : ∀ i t, l[i]? = some t → ∃ g c, v = .slice (some ⟨g, 0, none⟩) l.length c ∧ g < w.heap.size ∧ ∀ j, j < 5 → w.cell? ⟨g, i * 5 + j, none⟩ = t.cells[j]?
  small : (l.length : Int) ≤ 9223372036854775807
theorem holds_own {w : World} {base : Nat} {v : Value} {l : List Tok} (h : w.ownsRow base 28 5 v l.length (Toks l)) : Holds5 w v l where
  form := own_form h
  tok := fun _ _ hi => row_tok h hi
  small := by
    rcases h.2 with ⟨_, h0⟩ | ⟨g, c, cur, hv, _, _, hn, hm, _⟩
    · omega
    · unfold maxLen at hm; omega
set_option maxRecDepth 100000 in
set_option maxHeartbeats 2000000 in
theorem same_true {w : World} {v1 v2 : Value} {l : List Tok} (h1 : Holds5 w v1 l) (h2 : Holds5 w v2 l) :
    Calls Tryd.prog 12 #[v1, v2] w fun e w' => e = .returned (.bool true) ∧ Keep (fun _ => True) w w' := by
  obtain ⟨p1, c1, e1⟩ := h1.form
  obtain ⟨p2, c2, e2⟩ := h2.form
  subst e1 e2
  have hsm := h1.small
  have H1 := Lib.hid h1.tok
  have H2 := Lib.hid h2.tok
  clear h1 h2
  go_enter Tryd.func12, Tryd.ntmps12
  go_wp2_with (fail)
  go_loopg [5] l.length (fun k v wl => ∃ (i : Nat), v = .int .i64 i ∧ i + k = l.length ∧ ∃ n, wl = w.drewN n)
  case atStart => exact ⟨0, rfl, by omega, 0, rfl⟩
  case round =>
    obtain ⟨i, rfl, hik, n, rfl⟩ := hrel
    rcases Nat.eq_zero_or_pos gk with rfl | hgk
    · obtain rfl : i = l.length := by omega
      go_wp2_with (fail)
      go_ret
      exact ⟨rfl, (Keep.refl _ _).drewN _⟩
    · obtain ⟨q, rfl⟩ : ∃ q, gk = q + 1 := ⟨gk - 1, by omega⟩
      have hi : i < l.length := by omega
      have hiI : (i : Int) < (l.length : Int) := by omega
      obtain ⟨t, ht⟩ : ∃ t, l[i]? = some t := ⟨_, List.getElem?_eq_getElem hi⟩
      obtain ⟨g1, d1, hv1, hg1, htk1⟩ := H1.out i t ht
      obtain ⟨g2, d2, hv2, hg2, htk2⟩ := H2.out i t ht
      cases hv1; cases hv2
      have s0 := htk1 0 (by decide); have s1 := htk1 1 (by decide); have s2 := htk1 2 (by decide); have s3 := htk1 3 (by decide); have s4 := htk1 4 (by decide)
      have t0 := htk2 0 (by decide); have t1 := htk2 1 (by decide); have t2 := htk2 2 (by decide); have t3 := htk2 3 (by decide); have t4 := htk2 4 (by decide)
      simp only [Tok.cells, Nat.add_zero] at s0 s1 s2 s3 s4 t0 t1 t2 t3 t4
      clear htk1 htk2 ht
      go_wp2_with (fail)
      go_quiet (fail)
      go_wp2_with (fail)
      go_roundg q
      case measure => omega
      case rel => exact ⟨i + 1, rfl, by omega, _, rfl⟩

set_option maxRecDepth 100000 in
theorem num_any (n : Int) (w : World) : Calls Tryd.prog 11 #[.int .i64 n] w fun e w' => e = .returned (.int .i64 n) ∧ w = w' := by
  go_enter Tryd.func11, Tryd.ntmps11
  go_wp2_with (fail)
  go_ret
  exact ⟨rfl, rfl⟩

/-- Go's tables. -/
structure Tabs (w : World) : Prop where
  utf8 : Lib.Utf8Tabs 2 3 w
  blank : Lib.TabIs Tryd.prog w "strings.asciiSpace" .u8 Lib.asciiSpaceTab
theorem Tabs.keep {w w' : World} (h : Tabs w) (hk : Keep (fun _ => True) w w') : Tabs w' := ⟨tabs_keep h.utf8 hk trivial trivial, tab_same h.blank hk⟩
theorem Tabs.three {w : World} (h : Tabs w) : 3 < w.heap.size := cell_lt' (h.utf8.2 0 (by decide)).1

def aliveText : ByteArray := ⟨#[102, 32, 58, 32, 78, 97, 116, 32, 226, 134, 146, 32, 78, 97, 116, 32, 45, 45, 32, 120]⟩
def aliveToks : List Tok := [⟨1, ⟨#[102]⟩, 0, 1, 1⟩, ⟨2, ⟨#[58]⟩, 2, 1, 3⟩, ⟨1, ⟨#[78, 97, 116]⟩, 4, 1, 5⟩, ⟨2, ⟨#[45, 62]⟩, 8, 1, 9⟩, ⟨1, ⟨#[78, 97, 116]⟩, 12, 1, 11⟩, ⟨7, ⟨#[]⟩, 20, 1, 19⟩]
theorem alive_one : refTokens aliveText.data.toList = (aliveToks, 0, 0) := by kernel_rfl
theorem alive_two : refTokens (⟨#[32, 97, 46, 46, 98]⟩ : ByteArray).data.toList = ([], 1, 41) := by kernel_rfl

set_option maxRecDepth 100000 in
set_option maxHeartbeats 4000000 in
theorem alive_any (w : World) (hT : Tabs w) : Calls Tryd.prog 8 #[] w fun e w' => e = .returned (.bool true) ∧ Keep (fun _ => True) w w' := by
  have H1 := Lib.hid (ltokens_any aliveText w hT.utf8 hT.blank)
  have H2 := Lib.hid (fun (w1 : World) (h : Tabs w1) => ltokens_any ⟨#[32, 97, 46, 46, 98]⟩ w1 h.utf8 h.blank)
  unfold TokPost at H1 H2
  rw [alive_one] at H1
  rw [alive_two] at H2
  have HT := Lib.hid hT
  clear hT
  go_enter Tryd.func8, Tryd.ntmps8
  go_upto_region 2 with (go_at_call 9; go_must (refine H1.out.mono ?_; rintro e w1 ⟨v1, rfl, ho1, hk1⟩; have HO1 := Lib.hid ho1; have HK1 := Lib.hid hk1; clear ho1 hk1))
  obtain ⟨g, c, hv, hg, t0⟩ := row_tok HO1.out (i := 0) rfl
  obtain ⟨_, _, hv3, _, t3⟩ := row_tok HO1.out (i := 3) rfl
  obtain ⟨_, _, hv4, _, t4⟩ := row_tok HO1.out (i := 4) rfl
  obtain ⟨_, _, hv5, _, t5⟩ := row_tok HO1.out (i := 5) rfl
  subst hv
  cases hv3; cases hv4; cases hv5
  have a0 : w1.cell? ⟨g, 0, none⟩ = some (.int .i64 1) := t0 0 (by decide)
  have a1 : w1.cell? ⟨g, 15, none⟩ = some (.int .i64 2) := t3 0 (by decide)
  have a2 : w1.cell? ⟨g, 16, none⟩ = some (.string ⟨#[45, 62]⟩) := t3 1 (by decide)
  have a3 : w1.cell? ⟨g, 17, none⟩ = some (.int .i64 8) := t3 2 (by decide)
  have a4 : w1.cell? ⟨g, 22, none⟩ = some (.int .i64 12) := t4 2 (by decide)
  have a5 : w1.cell? ⟨g, 24, none⟩ = some (.int .i64 11) := t4 4 (by decide)
  have a6 : w1.cell? ⟨g, 25, none⟩ = some (.int .i64 7) := t5 0 (by decide)
  clear t0 t3 t4 t5 HO1 H1
  go_wp2_with (first
    | (go_at_call 9; go_must (refine (H2.out _ (HT.out.keep HK1.out)).mono ?_; rintro e w2 ⟨v2, rfl, ho2, hk2⟩; have b0 := cellk hk2 trivial a0; have b1 := cellk hk2 trivial a1; have b2 := cellk hk2 trivial a2; have b3 := cellk hk2 trivial a3; have b4 := cellk hk2 trivial a4; have b5 := cellk hk2 trivial a5; have b6 := cellk hk2 trivial a6; have hg2 := Nat.lt_of_lt_of_le hg hk2.size; have HK2 := Lib.hid (HK1.out.trans hk2); clear ho2 hk2 a0 a1 a2 a3 a4 a5 a6 hg))
    | (go_at_call 11; go_must (refine (num_any _ _).mono ?_; rintro e w3 ⟨rfl, rfl⟩)))
  go_ret
  exact ⟨rfl, HK2.out⟩
end Go.Proofs.YtglkdhodpgnlgaaDoor
