/-
  The lexer of package lex: till: it goes on till a rune is such. Condition: the scanner stands at a place of the text; the predicate answers and leaves all as it was; Go's decoder's tables lie as they are laid.
-/
import Derived.Test.YtglkdhodpgnlgaaDoorLxR
namespace Go.Proofs.YtglkdhodpgnlgaaDoor
open Go.RowKit Go.Tel

def Lx.till (p : Nat → Bool) : Nat → Lx → Lx
  | 0, x => x
  | k + 1, x => match x.rest with
    | [] => x
    | _ :: _ => if x.pass.e ≠ 0 then x.pass else if p (decL x.rest).1 = true then x else Lx.till p k x.pass
theorem till_nil {p : Nat → Bool} {x : Lx} (k : Nat) (h : x.rest = []) : Lx.till p k x = x := by
  cases k with
  | zero => rfl
  | succ k => unfold Lx.till; rw [h]
theorem till_bad {p : Nat → Bool} {x : Lx} {k : Nat} {c : UInt8} {r : List UInt8} (h : x.rest = c :: r) (he : x.pass.e ≠ 0) : Lx.till p (k + 1) x = x.pass := by
  unfold Lx.till; rw [h]; simp only []; rw [if_pos he]
theorem till_stop {p : Nat → Bool} {x : Lx} {k : Nat} {c : UInt8} {r : List UInt8} (h : x.rest = c :: r) (he : x.pass.e = 0) (hp : p (decL x.rest).1 = true) : Lx.till p (k + 1) x = x := by
  unfold Lx.till; rw [h]; simp only []; rw [if_neg (by omega), if_pos (by rw [← h]; exact hp)]
theorem till_go {p : Nat → Bool} {x : Lx} {k : Nat} {c : UInt8} {r : List UInt8} (h : x.rest = c :: r) (he : x.pass.e = 0) (hp : p (decL x.rest).1 = false) : Lx.till p (k + 1) x = Lx.till p k x.pass := by
  conv => lhs; unfold Lx.till
  rw [h]; simp only []; rw [if_neg (by omega), if_neg (by rw [← h, hp]; simp)]

section
variable {w : World} {bp : Nat} {s : ByteArray} {mv vo : Value} {pl : Int} {x : Lx}
/-- The rune at the scanner's place, where it is none. -/
theorem rune_no (hx : x.ok s) (hlt : x.at_ < s.size) (he : x.pass.e ≠ 0) (he0 : x.e = 0) (hb : w.heap[bp]? = some (SObj s mv vo x.at_ x.line x.col 0 pl)) (hT : Lib.Utf8Tabs 2 3 w) :
    Calls Tryd.prog 27 #[.pointer (some ⟨bp, 0, none⟩)] w (SPost bp (.tuple #[.int .i32 0, .int .i64 0, .bool false]) (SObj s mv vo x.pass.at_ x.pass.line x.pass.col x.pass.e x.at_) w) := by
  have hr := rest_cons hx hlt
  have hd := dec_ok s[x.at_] (s.data.toList.drop (x.at_ + 1))
  rw [← hr] at hd
  rcases pass_cases _ _ x hr with ⟨h0, h1⟩ | ⟨h0, hbad, h1⟩ | ⟨h0, hbad, h1⟩
  · rw [h1]
    have := hd.bad h0
    rw [hx.rest] at this
    exact rune_bad hb hlt hT this
  · rw [h1]
    unfold isBad at hbad
    have hlow : s[x.at_].toNat < 128 := by
      simp only [Bool.or_eq_true, Bool.and_eq_true, decide_eq_true_eq, beq_iff_eq] at hbad; omega
    have h2 := (hd.low hlow).1
    rw [hx.rest] at h2
    by_cases h127 : s[x.at_].toNat = 127
    · exact rune_del hb hlt hT h2 h127
    · have h3 : s[x.at_].toNat < 32 ∧ s[x.at_].toNat ≠ 10 := by
        simp only [Bool.or_eq_true, Bool.and_eq_true, decide_eq_true_eq, beq_iff_eq, Bool.not_eq_true', beq_eq_false_iff_ne] at hbad
        rcases hbad with hb | hb
        · exact hb
        · exact absurd hb h127
      exact rune_low hb hlt hT h2 h3.1 h3.2
  · rw [h1] at he; exact absurd he0 he
/-- The rune at the scanner's place, where there is one. -/
theorem rune_yes (hx : x.ok s) (hlt : x.at_ < s.size) (he : x.pass.e = 0) (hb : w.heap[bp]? = some (SObj s mv vo x.at_ x.line x.col 0 pl)) (hT : Lib.Utf8Tabs 2 3 w) :
    Calls Tryd.prog 27 #[.pointer (some ⟨bp, 0, none⟩)] w (SPost bp (.tuple #[.int .i32 (decL x.rest).1, .int .i64 (runeLen x.rest), .bool true]) (SObj s mv vo x.at_ x.line x.col 0 pl) w) := by
  have hr := rest_cons hx hlt
  have hd := dec_ok s[x.at_] (s.data.toList.drop (x.at_ + 1))
  rw [← hr] at hd
  have hxr := hx.rest
  rcases pass_cases _ _ x hr with ⟨h0, h1⟩ | ⟨h0, hbad, h1⟩ | ⟨h0, hbad, h1⟩
  · rw [h1] at he; exact absurd he (show ¬ (40 : Nat) = 0 by decide)
  · rw [h1] at he; exact absurd he (show ¬ (41 : Nat) = 0 by decide)
  · obtain ⟨h2, h3⟩ := hd.len h0
    have hd2 : decL (s.data.toList.drop x.at_) = ((decL x.rest).1, runeLen x.rest) := by rw [← hxr, ← h2]
    by_cases hlow : s[x.at_].toNat < 128
    · have h4 := hd.low hlow
      rw [h4.1] at hd2 ⊢
      unfold isBad at hbad
      simp only [Bool.or_eq_false_iff, Bool.and_eq_false_iff, decide_eq_false_iff_not, Bool.not_eq_false', beq_iff_eq, beq_eq_false_iff_ne] at hbad
      by_cases h10 : s[x.at_].toNat = 10
      · exact rune_nl hb hlt hT hd2 h10
      · exact rune_go hb hlt hT hd2 (by rcases hbad.1 with h | h; omega; exact absurd h h10) hbad.2 (by show s[x.at_].toNat ≠ 65533; omega)
    · have h5 := hd.high (by omega)
      by_cases h6 : (decL x.rest).1 = 65533
      · rw [h6] at hd2 ⊢
        have := h3 h6
        exact rune_err hb hlt hT hd2 rfl (by omega)
      · exact rune_go hb hlt hT hd2 (by omega) (by omega) h6
/-- The step over it. -/
theorem step_any (hx : x.ok s) (hlt : x.at_ < s.size) (hs : s.size ≤ 65536) (he : x.pass.e = 0) (hb : w.heap[bp]? = some (SObj s mv vo x.at_ x.line x.col 0 pl)) :
    Calls Tryd.prog 29 #[.pointer (some ⟨bp, 0, none⟩), .int .i32 (decL x.rest).1, .int .i64 (runeLen x.rest)] w (SPost bp (.tuple #[]) (SObj s mv vo x.pass.at_ x.pass.line x.pass.col 0 pl) w) := by
  have hr := rest_cons hx hlt
  have hd := dec_ok s[x.at_] (s.data.toList.drop (x.at_ + 1))
  rw [← hr] at hd
  have h4 := runeLen_le4 x.rest
  have hl := hx.line
  have hc := hx.col
  rcases pass_cases _ _ x hr with ⟨h0, h1⟩ | ⟨h0, hbad, h1⟩ | ⟨h0, hbad, h1⟩
  · rw [h1] at he; exact absurd he (show ¬ (40 : Nat) = 0 by decide)
  · rw [h1] at he; exact absurd he (show ¬ (41 : Nat) = 0 by decide)
  · rw [h1]
    by_cases h10 : s[x.at_].toNat = 10
    · have h5 := (hd.low (by omega)).1
      dsimp only
      rw [if_pos h10, if_pos h10]
      refine step_line hb _ _ ?_ (by omega) (by omega) (by omega)
      rw [h5]; show ((s[x.at_].toNat : Int) == 10) = true; rw [h10]; rfl
    · dsimp only
      rw [if_neg h10, if_neg h10]
      refine step_col hb _ _ ?_ (by omega) (by omega)
      rw [beq_eq_false_iff_ne]
      by_cases hlow : s[x.at_].toNat < 128
      · rw [(hd.low hlow).1]; show (s[x.at_].toNat : Int) ≠ 10; omega
      · have := hd.high (by omega); omega

def TillPost (bp : Nat) (s : ByteArray) (mv vo : Value) (z : Lx) (w : World) (e : Ending) (w' : World) : Prop :=
  e = .returned (.bool (z.e == 0)) ∧ (∃ pl : Int, w'.heap[bp]? = some (SObj s mv vo z.at_ z.line z.col z.e pl) ∧ (z.e ≠ 0 → pl = z.at_)) ∧ Keep (fun k => k ≠ bp) w w'
theorem till_close {bp : Nat} {s : ByteArray} {mv vo : Value} {z : Lx} {w w' : World} {b : Bool} {pl : Int} (hb : b = (z.e == 0)) (h : w'.heap[bp]? = some (SObj s mv vo z.at_ z.line z.col z.e pl)) (hp : z.e ≠ 0 → pl = z.at_) (hk : Keep (fun k => k ≠ bp) w w') :
    TillPost bp s mv vo z w (.returned (.bool b)) w' := ⟨by rw [hb], ⟨pl, h, hp⟩, hk⟩
theorem pass_at {x : Lx} (he : x.e = 0) (h : x.pass.e ≠ 0) : x.pass.at_ = x.at_ := by
  cases hr : x.rest with
  | nil => unfold Lx.pass at h ⊢; rw [hr] at h ⊢
  | cons c r =>
    rcases pass_cases c r x hr with ⟨_, h1⟩ | ⟨_, _, h1⟩ | ⟨_, _, h1⟩
    · rw [h1]
    · rw [h1]
    · rw [h1] at h; exact absurd he h
end
end Go.Proofs.YtglkdhodpgnlgaaDoor
