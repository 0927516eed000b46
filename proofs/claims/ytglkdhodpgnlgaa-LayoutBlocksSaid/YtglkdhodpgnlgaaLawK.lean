/-
  The law's kinds and num: the tokens told in a text. Condition: the row lies in memory.
-/
import Derived.Test.YtglkdhodpgnlgaaLayBk
namespace Go.Proofs.Ytglkdhodpgnlgaa
open Go.RowKit Go.Tel

def kAdd (s : ByteArray) (t : Tok) : ByteArray :=
  if t.kind = 4 then s ++ ⟨#[60]⟩ else if t.kind = 5 then s ++ ⟨#[62]⟩ else if t.kind = 6 then s ++ ⟨#[59]⟩ else if t.kind = 7 then s ++ ⟨#[46]⟩ else s ++ t.text ++ ⟨#[32]⟩
def kAll (s : ByteArray) : List Tok → ByteArray
  | [] => s
  | t :: l => kAll (kAdd s t) l

theorem kAdd_size (s : ByteArray) (t : Tok) : s.size + 1 ≤ (kAdd s t).size ∧ (t.kind ≠ 4 → t.kind ≠ 5 → t.kind ≠ 6 → t.kind ≠ 7 → s.size + t.text.size + 1 ≤ (kAdd s t).size) := by
  unfold kAdd
  split
  · rename_i h; exact ⟨Nat.le_of_eq (by rw [ByteArray.size_append]; rfl), fun h' => absurd h h'⟩
  · split
    · rename_i h; exact ⟨Nat.le_of_eq (by rw [ByteArray.size_append]; rfl), fun _ h' => absurd h h'⟩
    · split
      · rename_i h; exact ⟨Nat.le_of_eq (by rw [ByteArray.size_append]; rfl), fun _ _ h' => absurd h h'⟩
      · split
        · rename_i h; exact ⟨Nat.le_of_eq (by rw [ByteArray.size_append]; rfl), fun _ _ _ h' => absurd h h'⟩
        · rw [ByteArray.size_append, ByteArray.size_append, show (⟨#[32]⟩ : ByteArray).size = 1 from rfl]
          exact ⟨by omega, fun _ _ _ _ => Nat.le_refl _⟩
theorem kAll_len (l : List Tok) : ∀ s, l.length + s.size ≤ (kAll s l).size := by
  induction l with
  | nil => intro s; exact Nat.le_of_eq (Nat.zero_add _)
  | cons t l ih => intro s; have := ih (kAdd s t); have := (kAdd_size s t).1; show _ ≤ (kAll (kAdd s t) l).size; simp only [List.length_cons]; omega
theorem kAll_size (l : List Tok) : ∀ s, s.size ≤ (kAll s l).size := by
  induction l with
  | nil => intro s; exact Nat.le_refl _
  | cons t l ih => intro s; have := ih (kAdd s t); have := (kAdd_size s t).1; show _ ≤ (kAll (kAdd s t) l).size; omega

set_option maxRecDepth 100000 in
theorem num_any (n : Int) (w : World) : Calls Try.prog 11 #[.int .i64 n] w fun e w' => e = .returned (.int .i64 n) ∧ w = w' := by
  go_enter Try.func11, Try.ntmps11
  go_wp2_with (fail)
  go_ret
  exact ⟨rfl, rfl⟩

theorem row_tok {w : World} {base : Nat} {v : Value} {out : List Tok} (h : w.ownsRow base 27 5 v out.length (Toks out)) {i : Nat} {t : Tok} (hi : out[i]? = some t) :
    ∃ g c, v = .slice (some ⟨g, 0, none⟩) out.length c ∧ g < w.heap.size ∧ ∀ j, j < 5 → w.cell? ⟨g, i * 5 + j, none⟩ = t.cells[j]? := by
  have hl := (List.getElem?_eq_some_iff.1 hi).1
  rcases h.2 with ⟨_, h0⟩ | ⟨g, c, cur, hv, _, hg, _, _, _, ht⟩
  · omega
  · refine ⟨g, c, hv, blk_lt hg, fun j hj => ?_⟩
    rw [blk_cell hg, ← Toks_at out i j t hi hj, ← ht, List.getElem?_take, if_pos]
    · simp
    · omega

set_option maxRecDepth 100000 in
set_option maxHeartbeats 2000000 in
theorem kinds_any {w : World} {base : Nat} {v : Value} {out : List Tok} (h : w.ownsRow base 27 5 v out.length (Toks out)) (hsz : (kAll ⟨#[]⟩ out).size ≤ 9223372036854775807) :
    Calls Try.prog 23 #[v] w fun e w' => e = .returned (.string (kAll ⟨#[]⟩ out)) ∧ w = w' := by
  obtain ⟨p, c, hv⟩ := own_form h
  subst hv
  have H := Lib.hid h
  clear h
  have hsm : (out.length : Int) ≤ 9223372036854775807 := by have := kAll_len out ⟨#[]⟩; omega
  obtain ⟨R, hR⟩ : ∃ R, kAll ⟨#[]⟩ out = R := ⟨_, rfl⟩
  rw [hR] at hsz ⊢
  have HZ := Lib.hid hsz
  clear hsz
  have HR := Lib.hid hR
  clear hR
  go_enter Try.func23, Try.ntmps23
  go_wp2_with (fail)
  go_loopg [3, 4] out.length (fun k s v wl => ∃ (i : Nat) (b : ByteArray), s = .string b ∧ v = .int .i64 i ∧ i + k = out.length ∧ wl = w ∧ kAll b (out.drop i) = R)
  case atStart => exact ⟨0, _, rfl, rfl, by omega, rfl, HR.out⟩
  case round =>
    obtain ⟨i, b, rfl, rfl, hik, rfl, hr⟩ := hrel
    rcases Nat.eq_zero_or_pos gk with rfl | hgk
    · obtain rfl : i = out.length := by omega
      rw [List.drop_length] at hr
      have HR2 : b = R := hr
      clear hr hik
      subst HR2
      go_wp2_with (fail)
      go_ret
      exact ⟨rfl, rfl⟩
    · obtain ⟨q, rfl⟩ : ∃ q, gk = q + 1 := ⟨gk - 1, by omega⟩
      have hi : i < out.length := by omega
      have hiI : (i : Int) < (out.length : Int) := by omega
      obtain ⟨t, ht⟩ : ∃ t, out[i]? = some t := ⟨_, List.getElem?_eq_getElem hi⟩
      have hr' : kAll (kAdd b t) (out.drop (i + 1)) = R := by
        rw [← hr, List.drop_eq_getElem_cons hi]
        have : out[i] = t := by have := List.getElem?_eq_getElem hi; rw [ht] at this; exact (Option.some.inj this).symm
        rw [this]; rfl
      have HR2 := Lib.hid hr'
      obtain ⟨g, c', hv, hg, htk⟩ := row_tok H.out ht
      cases hv
      have t0 := htk 0 (by decide); have t1 := htk 1 (by decide)
      simp only [Tok.cells, Nat.add_zero] at t0 t1
      clear hr hr' htk ht
      have hz : (kAdd b t).size ≤ 9223372036854775807 := by have := kAll_size (out.drop (i + 1)) (kAdd b t); rw [HR2.out] at this; have := HZ.out; omega
      have hb1 : ¬ 9223372036854775807 < b.size + 1 := by have := (kAdd_size b t).1; omega
      have HZ2 := Lib.hid hz
      clear hz
      by_cases h4 : t.kind = 4
      · have HK : Hid (kAll (b ++ ⟨#[60]⟩) (out.drop (i + 1)) = R) := by show _ = _; rw [← HR2.out]; unfold kAdd; rw [if_pos h4]
        have h4' : (t.kind == 4) = true := beq_iff_eq.2 h4
        clear h4
        go_wp2_with (fail)
        go_roundg q
        case measure => omega
        case rel => exact ⟨i + 1, _, rfl, rfl, by omega, rfl, HK.out⟩
      · have h4' : (t.kind == 4) = false := beq_eq_false_iff_ne.2 h4
        have HN4 := Lib.hid h4
        clear h4
        by_cases h5 : t.kind = 5
        · have HK : Hid (kAll (b ++ ⟨#[62]⟩) (out.drop (i + 1)) = R) := by show _ = _; rw [← HR2.out]; unfold kAdd; rw [if_neg HN4.out, if_pos h5]
          have h5' : (t.kind == 5) = true := beq_iff_eq.2 h5
          clear h5
          go_wp2_with (fail)
          go_roundg q
          case measure => omega
          case rel => exact ⟨i + 1, _, rfl, rfl, by omega, rfl, HK.out⟩
        · have h5' : (t.kind == 5) = false := beq_eq_false_iff_ne.2 h5
          have HN5 := Lib.hid h5
          clear h5
          by_cases h6 : t.kind = 6
          · have HK : Hid (kAll (b ++ ⟨#[59]⟩) (out.drop (i + 1)) = R) := by show _ = _; rw [← HR2.out]; unfold kAdd; rw [if_neg HN4.out, if_neg HN5.out, if_pos h6]
            have h6' : (t.kind == 6) = true := beq_iff_eq.2 h6
            clear h6
            go_wp2_with (fail)
            go_roundg q
            case measure => omega
            case rel => exact ⟨i + 1, _, rfl, rfl, by omega, rfl, HK.out⟩
          · have h6' : (t.kind == 6) = false := beq_eq_false_iff_ne.2 h6
            have HN6 := Lib.hid h6
            clear h6
            by_cases h7 : t.kind = 7
            · have HK : Hid (kAll (b ++ ⟨#[46]⟩) (out.drop (i + 1)) = R) := by show _ = _; rw [← HR2.out]; unfold kAdd; rw [if_neg HN4.out, if_neg HN5.out, if_neg HN6.out, if_pos h7]
              have h7' : (t.kind == 7) = true := beq_iff_eq.2 h7
              clear h7
              go_wp2_with (fail)
              go_roundg q
              case measure => omega
              case rel => exact ⟨i + 1, _, rfl, rfl, by omega, rfl, HK.out⟩
            · have h7' : (t.kind == 7) = false := beq_eq_false_iff_ne.2 h7
              have HN7 := Lib.hid h7
              clear h7
              have HK : Hid (kAll (b ++ t.text ++ ⟨#[32]⟩) (out.drop (i + 1)) = R) := by show _ = _; rw [← HR2.out]; unfold kAdd; rw [if_neg HN4.out, if_neg HN5.out, if_neg HN6.out, if_neg HN7.out]
              have hb2 : ¬ 9223372036854775807 < b.size + t.text.size := by have := (kAdd_size b t).2 HN4.out HN5.out HN6.out HN7.out; have := HZ2.out; omega
              have hb3 : ¬ 9223372036854775807 < (b ++ t.text).size + 1 := by have := (kAdd_size b t).2 HN4.out HN5.out HN6.out HN7.out; have := HZ2.out; rw [ByteArray.size_append]; omega
              have hb4 : ¬ 9223372036854775807 < b.size + t.text.size + 1 := by have := (kAdd_size b t).2 HN4.out HN5.out HN6.out HN7.out; have := HZ2.out; omega
              go_wp2_with (fail)
              go_roundg q
              case measure => omega
              case rel => exact ⟨i + 1, _, rfl, rfl, by omega, rfl, HK.out⟩
end Go.Proofs.Ytglkdhodpgnlgaa
