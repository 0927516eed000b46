/-
  Go's decoder and the reference's rune say the same. Plain law, no program in sight.
-/
import Derived.Test.YtglkdhodpgnlgaaDoorPlain
import Derived.Shelf.Unicode.DecodeAny
namespace Go.Tel

def byteAt (l : List UInt8) (i : Nat) : Nat := (l.getD i 0).toNat
/-- Go's decoder on a list of bytes. -/
def decL (l : List UInt8) : Nat × Nat := Lib.decodeN l.length (byteAt l 0) (byteAt l 1) (byteAt l 2) (byteAt l 3)


def v2 (b0 b1 : Nat) : Nat := 64 * (b0 - 192) + b1 - 128
def v3 (b0 b1 b2 : Nat) : Nat := 64 * (64 * (b0 - 224) + b1 - 128) + b2 - 128
def v4 (b0 b1 b2 b3 : Nat) : Nat := 64 * (64 * (64 * (b0 - 240) + b1 - 128) + b2 - 128) + b3 - 128
abbrev cont (b : Nat) : Prop := 128 ≤ b ∧ b < 192
set_option maxRecDepth 100000
theorem dec2 (n b0 b1 b2 b3 : Nat) (h : 192 ≤ b0 ∧ b0 < 224) : Lib.decodeN n b0 b1 b2 b3 = if 1 < n ∧ cont b1 ∧ 128 ≤ v2 b0 b1 then (v2 b0 b1, 2) else (65533, 1) := by
  unfold Lib.decodeN v2
  repeat' split
  all_goals first
    | omega
    | (refine Prod.ext ?_ rfl; dsimp only [cont] at *; omega)
    | (exfalso; dsimp only [cont] at *; omega)
    | rfl
theorem dec3 (n b0 b1 b2 b3 : Nat) (h : 224 ≤ b0 ∧ b0 < 240) : Lib.decodeN n b0 b1 b2 b3 = if (1 < n ∧ cont b1) ∧ (2 < n ∧ cont b2) ∧ 2048 ≤ v3 b0 b1 b2 ∧ ¬ (55296 ≤ v3 b0 b1 b2 ∧ v3 b0 b1 b2 < 57344) then (v3 b0 b1 b2, 3) else (65533, 1) := by
  unfold Lib.decodeN v3
  repeat' split
  all_goals first
    | omega
    | (refine Prod.ext ?_ rfl; dsimp only [cont] at *; omega)
    | (exfalso; dsimp only [cont] at *; omega)
    | rfl
theorem dec4 (n b0 b1 b2 b3 : Nat) (h : 240 ≤ b0 ∧ b0 < 248) : Lib.decodeN n b0 b1 b2 b3 = if (1 < n ∧ cont b1) ∧ (2 < n ∧ cont b2) ∧ (3 < n ∧ cont b3) ∧ 65536 ≤ v4 b0 b1 b2 b3 ∧ v4 b0 b1 b2 b3 ≤ 1114111 then (v4 b0 b1 b2 b3, 4) else (65533, 1) := by
  unfold Lib.decodeN v4
  repeat' split
  all_goals first
    | omega
    | (refine Prod.ext ?_ rfl; dsimp only [cont] at *; omega)
    | (exfalso; dsimp only [cont] at *; omega)
    | rfl
theorem dec0 (n b0 b1 b2 b3 : Nat) (h : 128 ≤ b0 ∧ b0 < 192 ∨ 248 ≤ b0 ∧ b0 < 256) : Lib.decodeN n b0 b1 b2 b3 = (65533, 1) := by
  unfold Lib.decodeN
  repeat' split
  all_goals first
    | omega
    | rfl
theorem contV_cons (n : Nat) (d : UInt8) (r : List UInt8) (v : Nat) : contV (n + 1) (d :: r) v = if cont d.toNat then contV n r (64 * v + d.toNat - 128) else none := by
  conv => lhs; unfold contV
  by_cases h : d.toNat < 128 ∨ 192 ≤ d.toNat
  · rw [if_pos h, if_neg (by omega)]
  · rw [if_neg h, if_pos (by omega)]

/-- What the two have in common. -/
structure DecOk (l : List UInt8) (b0 : Nat) : Prop where
  bad : runeLen l = 0 → decL l = (65533, 1)
  len : runeLen l ≠ 0 → (decL l).2 = runeLen l ∧ ((decL l).1 = 65533 → runeLen l ≠ 1)
  low : b0 < 128 → decL l = (b0, 1) ∧ runeLen l = 1
  high : 128 ≤ b0 → 128 ≤ (decL l).1
  le : (decL l).1 ≤ 1114111
  val : (decL l).1 < 55296 ∨ 57344 ≤ (decL l).1

set_option maxHeartbeats 4000000 in
theorem dec_ok (c : UInt8) (r : List UInt8) : DecOk (c :: r) c.toNat := by
  have hc := c.toNat_lt
  have e0 : byteAt (c :: r) 0 = c.toNat := rfl
  by_cases h1 : c.toNat < 128
  · have hr : runeLen (c :: r) = 1 := by unfold runeLen; simp [h1]
    have hd : decL (c :: r) = (c.toNat, 1) := by unfold decL Lib.decodeN; rw [e0, if_pos h1]
    exact ⟨fun h => by omega, fun _ => by rw [hd, hr]; exact ⟨rfl, fun h => by have : c.toNat = 65533 := h; omega⟩, fun _ => ⟨hd, hr⟩, fun h => by omega, by rw [hd]; show c.toNat ≤ _; omega, by rw [hd]; left; show c.toNat < _; omega⟩
  · have hl : ∀ i, byteAt (c :: r) (i + 1) = byteAt r i := fun i => rfl
    have hlen : (c :: r).length = r.length + 1 := rfl
    -- in each class: either both say no, or both say the same length
    suffices h : (runeLen (c :: r) = 0 ∧ decL (c :: r) = (65533, 1)) ∨ (∃ v k, 2 ≤ k ∧ 128 ≤ v ∧ (v ≤ 1114111 ∧ (v < 55296 ∨ 57344 ≤ v)) ∧ runeLen (c :: r) = k ∧ decL (c :: r) = (v, k)) by
      rcases h with ⟨e1, e2⟩ | ⟨v, k, hk, hv, hv2, e1, e2⟩
      · exact ⟨fun _ => e2, fun h => absurd e1 h, fun h => absurd h h1, fun _ => by rw [e2]; show 128 ≤ 65533; omega, by rw [e2]; show 65533 ≤ _; omega, by rw [e2]; right; show 57344 ≤ 65533; omega⟩
      · exact ⟨fun h => by omega, fun _ => by rw [e1, e2]; exact ⟨rfl, fun _ => by omega⟩, fun h => absurd h h1, fun _ => by rw [e2]; exact hv, by rw [e2]; exact hv2.1, by rw [e2]; exact hv2.2⟩
    unfold decL
    rw [e0, hl, hl, hl, hlen]
    by_cases h2 : 192 ≤ c.toNat ∧ c.toNat < 224
    · have hr : runeLen (c :: r) = runeOpt 2 128 (contV 1 r (c.toNat - 192)) := by rw [runeLen, if_neg h1, if_pos h2]
      rw [hr, dec2 _ _ _ _ _ h2]
      cases r with
      | nil => left; exact ⟨rfl, by rw [if_neg (by simp)]⟩
      | cons d r =>
        rw [contV_cons]
        have hd : byteAt (d :: r) 0 = d.toNat := rfl
        rw [hd]
        by_cases h3 : cont d.toNat
        · rw [if_pos h3]
          have hv : contV 0 r (64 * (c.toNat - 192) + d.toNat - 128) = some (v2 c.toNat d.toNat) := rfl
          rw [hv]
          have hb : v2 c.toNat d.toNat < 2048 := by unfold v2 at *; omega
          by_cases h4 : 128 ≤ v2 c.toNat d.toNat
          · right; refine ⟨v2 c.toNat d.toNat, 2, Nat.le_refl _, h4, by omega, ?_, by rw [if_pos ⟨by simp, h3, h4⟩]⟩
            simp only [runeOpt, runeFin]; rw [if_neg (by omega)]
          · left; refine ⟨?_, by rw [if_neg (fun h => h4 h.2.2)]⟩
            simp only [runeOpt, runeFin]; rw [if_pos (by omega)]
        · rw [if_neg h3]; left; exact ⟨rfl, by rw [if_neg (fun h => h3 h.2.1)]⟩
    · by_cases h3 : 224 ≤ c.toNat ∧ c.toNat < 240
      · have hr : runeLen (c :: r) = runeOpt 3 2048 (contV 2 r (c.toNat - 224)) := by rw [runeLen, if_neg h1, if_neg h2, if_pos h3]
        rw [hr, dec3 _ _ _ _ _ h3]
        cases r with
        | nil => left; exact ⟨rfl, by rw [if_neg (by simp)]⟩
        | cons d r =>
          rw [contV_cons]
          have hd : byteAt (d :: r) 0 = d.toNat := rfl
          rw [hd]
          by_cases q1 : cont d.toNat
          · rw [if_pos q1]
            cases r with
            | nil => left; exact ⟨rfl, by rw [if_neg (by simp)]⟩
            | cons e r =>
              rw [contV_cons]
              have he : byteAt (d :: e :: r) 1 = e.toNat := rfl
              rw [he]
              by_cases q2 : cont e.toNat
              · rw [if_pos q2]
                have hv : contV 0 r (64 * (64 * (c.toNat - 224) + d.toNat - 128) + e.toNat - 128) = some (v3 c.toNat d.toNat e.toNat) := rfl
                rw [hv]
                have hb : v3 c.toNat d.toNat e.toNat < 65536 := by unfold v3 at *; omega
                by_cases h4 : 2048 ≤ v3 c.toNat d.toNat e.toNat ∧ ¬ (55296 ≤ v3 c.toNat d.toNat e.toNat ∧ v3 c.toNat d.toNat e.toNat < 57344)
                · right; refine ⟨v3 c.toNat d.toNat e.toNat, 3, by omega, by omega, by omega, ?_, by rw [if_pos ⟨⟨by simp, q1⟩, ⟨by simp, q2⟩, h4⟩]⟩
                  simp only [runeOpt, runeFin]; rw [if_neg (by omega)]
                · left; refine ⟨?_, by rw [if_neg (fun h => h4 h.2.2)]⟩
                  simp only [runeOpt, runeFin]; rw [if_pos (by omega)]
              · rw [if_neg q2]; left; exact ⟨rfl, by rw [if_neg (fun h => q2 h.2.1.2)]⟩
          · rw [if_neg q1]; left; exact ⟨rfl, by rw [if_neg (fun h => q1 h.1.2)]⟩
      · by_cases h4 : 240 ≤ c.toNat ∧ c.toNat < 248
        · have hr : runeLen (c :: r) = runeOpt 4 65536 (contV 3 r (c.toNat - 240)) := by rw [runeLen, if_neg h1, if_neg h2, if_neg h3, if_pos h4]
          rw [hr, dec4 _ _ _ _ _ h4]
          cases r with
          | nil => left; exact ⟨rfl, by rw [if_neg (by simp)]⟩
          | cons d r =>
            rw [contV_cons]
            have hd : byteAt (d :: r) 0 = d.toNat := rfl
            rw [hd]
            by_cases q1 : cont d.toNat
            · rw [if_pos q1]
              cases r with
              | nil => left; exact ⟨rfl, by rw [if_neg (by simp)]⟩
              | cons e r =>
                rw [contV_cons]
                have he : byteAt (d :: e :: r) 1 = e.toNat := rfl
                rw [he]
                by_cases q2 : cont e.toNat
                · rw [if_pos q2]
                  cases r with
                  | nil => left; exact ⟨rfl, by rw [if_neg (by simp)]⟩
                  | cons f r =>
                    rw [contV_cons]
                    have hf : byteAt (d :: e :: f :: r) 2 = f.toNat := rfl
                    rw [hf]
                    by_cases q3 : cont f.toNat
                    · rw [if_pos q3]
                      have hv : contV 0 r (64 * (64 * (64 * (c.toNat - 240) + d.toNat - 128) + e.toNat - 128) + f.toNat - 128) = some (v4 c.toNat d.toNat e.toNat f.toNat) := rfl
                      rw [hv]
                      by_cases q4 : 65536 ≤ v4 c.toNat d.toNat e.toNat f.toNat ∧ v4 c.toNat d.toNat e.toNat f.toNat ≤ 1114111
                      · right; refine ⟨v4 c.toNat d.toNat e.toNat f.toNat, 4, by omega, by omega, by omega, ?_, by rw [if_pos ⟨⟨by simp, q1⟩, ⟨by simp, q2⟩, ⟨by simp, q3⟩, q4⟩]⟩
                        simp only [runeOpt, runeFin]; rw [if_neg (by omega)]
                      · left; refine ⟨?_, by rw [if_neg (fun h => q4 h.2.2.2)]⟩
                        simp only [runeOpt, runeFin]; rw [if_pos (by omega)]
                    · rw [if_neg q3]; left; exact ⟨rfl, by rw [if_neg (fun h => q3 h.2.2.1.2)]⟩
                · rw [if_neg q2]; left; exact ⟨rfl, by rw [if_neg (fun h => q2 h.2.1.2)]⟩
            · rw [if_neg q1]; left; exact ⟨rfl, by rw [if_neg (fun h => q1 h.1.2)]⟩
        · left
          have hr : runeLen (c :: r) = 0 := by rw [runeLen, if_neg h1, if_neg h2, if_neg h3, if_neg h4]
          exact ⟨hr, dec0 _ _ _ _ _ (by omega)⟩

/-- Go's decoder on a text from a place on. -/
theorem decL_valid (c : UInt8) (r : List UInt8) : Utf8.valid ((decL (c :: r)).1 : Int) = true := by
  have h1 := (dec_ok c r).le
  have h2 := (dec_ok c r).val
  unfold Utf8.valid
  simp only [Bool.or_eq_true, Bool.and_eq_true, decide_eq_true_eq]
  omega
theorem decode_drop (s : ByteArray) (i : Nat) : Utf8.decode s i = decL (s.data.toList.drop i) := by
  rw [Lib.decode_at]
  unfold decL byteAt
  have hg : ∀ j, (s.get! (i + j)) = (s.data.toList.drop i).getD j 0 := by
    intro j
    rw [List.getD_eq_getElem?_getD, List.getElem?_drop]
    cases s with
    | mk a =>
      show a[i + j]! = _
      rw [Array.getElem!_eq_getD, Array.getD_eq_getD_getElem?, ← Array.getElem?_toList]
      rfl
  have hn : s.size - i = (s.data.toList.drop i).length := by rw [List.length_drop]; rfl
  rw [hn, ← hg 1, ← hg 2, ← hg 3, ← hg 0]
  rfl

theorem decGo_ext (s : ByteArray) (a : Nat) (ha : a < s.size) : Lib.decodeGo (s.extract a s.size) = decL (s.data.toList.drop a) := by
  unfold Lib.decodeGo
  rw [if_neg (by rw [ByteArray.size_extract]; omega), decode_drop, List.drop_zero]
  congr 1
  rw [ByteArray.data_extract, Array.toList_extract]
  have : s.size = s.data.toList.length := rfl
  rw [List.extract_eq_take_drop, List.take_of_length_le (by rw [List.length_drop, this]; exact Nat.le_refl _)]
end Go.Tel
