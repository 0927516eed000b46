/-
  The laws' Same on two rows that hold the same tokens. Condition: both rows lie in memory, and hold the same.
-/
import Derived.Test.YtglkdhodpgnlgaaLawK
import Derived.BigQuiet
namespace Go.Proofs.Ytglkdhodpgnlgaa
open Go.RowKit Go.Tel

/-- A slice that holds these tokens. -/
structure Holds5 (w : World) (v : Value) (l : List Tok) : Prop where
  form : ∃ p c, v = .slice p l.length c
  tok : ∀ i t, l[i]? = some t → ∃ g c, v = .slice (some ⟨g, 0, none⟩) l.length c ∧ g < w.heap.size ∧ ∀ j, j < 5 → w.cell? ⟨g, i * 5 + j, none⟩ = t.cells[j]?
  small : (l.length : Int) ≤ 9223372036854775807
theorem holds_own {w : World} {base : Nat} {v : Value} {l : List Tok} (h : w.ownsRow base 27 5 v l.length (Toks l)) : Holds5 w v l where
  form := own_form h
  tok := fun _ _ hi => row_tok h hi
  small := by
    rcases h.2 with ⟨_, h0⟩ | ⟨g, c, cur, hv, _, _, hn, hm, _⟩
    · omega
    · unfold maxLen at hm; omega
theorem holds_in {w : World} {g c : Nat} {l : List Tok} (h : InRow w g l) (hg : g < w.heap.size) : Holds5 w (.slice (some ⟨g, 0, none⟩) l.length c) l where
  form := ⟨_, c, rfl⟩
  tok := fun _ _ hi => ⟨g, c, rfl, hg, h.tok hi⟩
  small := by have := h.small; omega

set_option maxRecDepth 100000 in
set_option maxHeartbeats 2000000 in
theorem same_true {w : World} {v1 v2 : Value} {l : List Tok} (h1 : Holds5 w v1 l) (h2 : Holds5 w v2 l) :
    Calls Try.prog 9 #[v1, v2] w fun e w' => e = .returned (.bool true) ∧ Keep (fun _ => True) w w' := by
  obtain ⟨p1, c1, e1⟩ := h1.form
  obtain ⟨p2, c2, e2⟩ := h2.form
  subst e1 e2
  have hsm := h1.small
  have H1 := Lib.hid h1.tok
  have H2 := Lib.hid h2.tok
  clear h1 h2
  go_enter Try.func9, Try.ntmps9
  go_wp2_with (fail)
  go_loopg [5] l.length (fun k v wl => ∃ (i : Nat), v = .int .i64 i ∧ i + k = l.length ∧ ∃ n, wl = w.drewN n)
  case atStart => exact ⟨0, rfl, by omega, 0, rfl⟩
  case round =>
    obtain ⟨i, rfl, hik, n, rfl⟩ := hrel
    rcases Nat.eq_zero_or_pos gk with rfl | hgk
    · obtain rfl : i = l.length := by omega
      go_wp2_with (fail)
      go_ret
      exact ⟨rfl, (Keep.refl _ _).drewN _⟩
    · obtain ⟨q, rfl⟩ : ∃ q, gk = q + 1 := ⟨gk - 1, by omega⟩
      have hi : i < l.length := by omega
      have hiI : (i : Int) < (l.length : Int) := by omega
      obtain ⟨t, ht⟩ : ∃ t, l[i]? = some t := ⟨_, List.getElem?_eq_getElem hi⟩
      obtain ⟨g1, d1, hv1, hg1, htk1⟩ := H1.out i t ht
      obtain ⟨g2, d2, hv2, hg2, htk2⟩ := H2.out i t ht
      cases hv1; cases hv2
      have s0 := htk1 0 (by decide); have s1 := htk1 1 (by decide); have s2 := htk1 2 (by decide); have s3 := htk1 3 (by decide); have s4 := htk1 4 (by decide)
      have t0 := htk2 0 (by decide); have t1 := htk2 1 (by decide); have t2 := htk2 2 (by decide); have t3 := htk2 3 (by decide); have t4 := htk2 4 (by decide)
      simp only [Tok.cells, Nat.add_zero] at s0 s1 s2 s3 s4 t0 t1 t2 t3 t4
      clear htk1 htk2 ht
      go_wp2_with (fail)
      go_quiet (fail)
      go_wp2_with (fail)
      trace_state
      go_roundg q
      case measure => omega
      case rel => exact ⟨i + 1, rfl, by omega, _, rfl⟩
end Go.Proofs.Ytglkdhodpgnlgaa
