/-
  The reference's Blocks: what its plain rules keep; its plain round, taken apart. Plain law.
-/
import Derived.Test.YtglkdhodpgnlgaaRbP
import Derived.Test.YtglkdhodpgnlgaaLayI
namespace Go.Proofs.Ytglkdhodpgnlgaa
open Go.RowKit Go.Tel

/-- Nothing is wrong yet: the outermost block stands, and is no explicit one and no let's; no more than sixty are open. -/
def RS.Inv (S : RS) : Prop := S.e = 0 → S.stk.length ≤ 60 ∧ ∃ b r, S.stk = b :: r ∧ b.ex = false ∧ b.lt = false

section
variable {S : RS} {t : Tok}
theorem RS.put_stk (k : Int) (t : Tok) (own : Bool) (S : RS) : (S.put k t own).stk = S.stk ∧ ((S.put k t own).e = 0 → S.e = 0) := by
  unfold RS.put
  split
  · exact ⟨rfl, id⟩
  · rename_i h
    split
    · exact ⟨rfl, fun h2 => by simp at h2⟩
    · exact ⟨rfl, fun h2 => h2⟩
theorem RS.Inv.pos (h : S.Inv) (he : S.e = 0) : 0 < S.stk.length := by obtain ⟨_, b, r, e, _⟩ := h he; rw [e]; simp
theorem rinv_stk {T : RS} (h : S.Inv) (hs : T.stk = S.stk) (he : T.e = 0 → S.e = 0) : T.Inv := fun h2 => by rw [hs]; exact h (he h2)
theorem RS.Inv.put (h : S.Inv) (k : Int) (t : Tok) (own : Bool) : (S.put k t own).Inv := rinv_stk h (RS.put_stk k t own S).1 (RS.put_stk k t own S).2
theorem RS.Inv.drop (h : S.Inv) {T : RS} (hl : 2 ≤ S.stk.length) (hs : T.stk = S.stk.dropLast) (he : T.e = 0 → S.e = 0) : T.Inv := fun h2 => by
  obtain ⟨h3, b, r, h4, h5⟩ := h (he h2)
  rw [hs]
  refine ⟨by rw [List.length_dropLast]; omega, ?_⟩
  rw [h4] at hl ⊢
  cases r with
  | nil => simp at hl
  | cons c r => exact ⟨b, (c :: r).dropLast, rfl, h5⟩
theorem RS.Inv.pop (h : S.Inv) (t : Tok) (own : Bool) (hl : 2 ≤ S.stk.length) : (S.pop t own).Inv := h.drop hl rfl (RS.put_stk 5 t own S).2
theorem RS.Inv.push (h : S.Inv) (b : Blk) (t : Tok) : (S.push b t).Inv := by
  unfold RS.push
  split
  · intro h2; simp at h2
  · rename_i hn
    intro h2
    obtain ⟨h3, c, r, h4, h5⟩ := h h2
    refine ⟨?_, c, r ++ [b], by show S.stk ++ [b] = _; rw [h4]; rfl, h5⟩
    have : S.e = 0 := h2
    simp only [List.length_append, List.length_singleton]
    have : ¬ 60 ≤ S.stk.length := fun hh => hn ⟨hh, h2⟩
    omega

theorem RS.lines_inv (k : Nat) : ∀ (S S1 : RS), S.Inv → RS.lines t k S = some S1 → S1.Inv := by
  induction k with
  | zero => intro S S1 h e; cases e; exact h
  | succ k ih =>
    intro S S1 h e
    unfold RS.lines at e
    split at e
    · cases e; exact h
    · rename_i he
      split at e
      · cases e; exact h
      · split at e
        · cases e; exact h
        · split at e
          · cases e; exact h.put _ _ _
          · split at e
            · cases e; exact h
            · split at e
              · cases e
              · rename_i hl
                exact ih _ _ (h.pop t false (by have := h.pos (by simpa using he); omega)) e
theorem RS.pops_inv (n : Nat) : ∀ S : RS, S.Inv → (S.e = 0 → n < S.stk.length) → (RS.pops t n S).Inv := by
  induction n with
  | zero => intro S h _; exact h
  | succ n ih =>
    intro S h hn
    unfold RS.pops
    split
    · exact h
    · rename_i he
      have he0 : S.e = 0 := by simpa using he
      have := hn he0
      exact ih _ (h.pop t false (by omega)) (fun _ => by unfold RS.pop; simp; omega)
theorem RS.Inv.inw (h : S.Inv) : (S.inw t).Inv := by
  unfold RS.inw
  split
  · split
    · exact h
    · rename_i i hi
      refine RS.pops_inv _ S h (fun he => ?_)
      obtain ⟨h1, b, h2, h3⟩ := inFind_some hi
      obtain ⟨_, c, r, h4, h5, h6⟩ := h he
      rcases Nat.eq_zero_or_pos i with rfl | hp
      · rw [h4] at h2; simp at h2; rw [← h2, h6] at h3; cases h3
      · omega
  · exact h
theorem RS.setBr_inv (h : S.Inv) (n : Int) (hb : ∀ b, S.stk.getLast? = some b → b.ex = true) : (S.setBr n).Inv := by
  unfold RS.setBr; split
  · exact h
  · rename_i b hl
    intro he
    obtain ⟨h3, c, r, h4, h5, h6⟩ := h he
    cases r with
    | nil => rw [h4] at hl; simp at hl; have := hb c (by rw [h4]; rfl); rw [h5] at this; cases this
    | cons d r =>
      refine ⟨?_, c, (d :: r).dropLast ++ [{ b with br := n }], by show S.stk.dropLast ++ _ = _; rw [h4]; rfl, h5, h6⟩
      show (S.stk.dropLast ++ _).length ≤ 60
      rw [List.length_append, List.length_dropLast]; simp; omega
theorem RS.Inv.brace (h : S.Inv) : (S.brace t).2.Inv := by
  unfold RS.brace; split
  · exact h
  · split
    · exact h.put _ _ _
    · split
      · exact h
      · rename_i b hb
        split
        · exact h
        · rename_i hx
          have hx' : b.ex = true := by simpa using hx
          have hall : ∀ b', S.stk.getLast? = some b' → b'.ex = true := by intro b' h'; rw [hb] at h'; cases h'; exact hx'
          split
          · exact RS.setBr_inv h _ hall
          · split
            · split
              · intro he
                have he0 : S.e = 0 := (RS.put_stk 5 t true S).2 he
                refine h.pop t true ?_ he
                obtain ⟨_, c, r, h4, h5, h6⟩ := h he0
                cases r with
                | nil => have := hall c (by rw [h4]; rfl); rw [h5] at this; cases this
                | cons d r => rw [h4]; simp
              · exact RS.setBr_inv h _ hall
            · exact h
theorem RS.Inv.add (h : S.Inv) : (S.add t).Inv := h
theorem RS.Inv.after {inn : List Tok} {i : Nat} (h : S.Inv) : (S.after inn t i).1.Inv := by
  unfold RS.after; split
  · exact h
  · dsimp only
    split
    · exact (h.put _ _ _).push _ _
    · split
      · exact (h.put _ _ _).put _ _ _
      · exact (h.put _ _ _).push _ _
theorem RS.Inv.linesIf {inn : List Tok} {i : Nat} {bg : Bool} {S1 : RS} (h : S.Inv) (e : S.linesIf inn t i bg = some S1) : S1.Inv := by
  unfold RS.linesIf at e; split at e
  · exact RS.lines_inv _ _ _ h e
  · cases e; exact h
theorem RS0_inv (t0 : Tok) (c : Int) : ((RS0.put 4 t0 false).push ⟨false, c, false, 0⟩ t0).Inv := fun _ => ⟨Nat.le_of_ble_eq_true rfl, ⟨false, c, false, 0⟩, [], rfl, rfl, rfl⟩
theorem RS.after_i {inn : List Tok} {i : Nat} : i + 1 ≤ (S.after inn t i).2.1 ∧ (S.after inn t i).2.1 ≤ i + 2 := by
  unfold RS.after; split
  · exact ⟨Nat.le_refl _, Nat.le_succ _⟩
  · dsimp only
    split
    · exact ⟨Nat.le_succ _, Nat.le_refl _⟩
    · split
      · exact ⟨Nat.le_refl _, Nat.le_succ _⟩
      · exact ⟨Nat.le_refl _, Nat.le_succ _⟩
end
end Go.Proofs.Ytglkdhodpgnlgaa

namespace Go.Proofs.Ytglkdhodpgnlgaa
open Go.RowKit Go.Tel

def RS.finO (t : Tok) : Option RS → List Tok × Int × Int
  | none => ([], t.at_, 42)
  | some S1 => if S1.e = 0 then (if 60000 ≤ S1.out.length then ([], t.at_, 2) else (S1.out ++ [t], 0, 0)) else ([], S1.at_, S1.e)
theorem RS.fin_eq (t : Tok) (S : RS) : S.fin t = RS.finO t (RS.ends t (S.stk.length + 1) S) := by
  unfold RS.fin RS.finO
  cases RS.ends t (S.stk.length + 1) S <;> rfl
section
variable {inn : List Tok} {q i : Nat} {bg : Bool} {S S1 : RS} {t n : Tok}
theorem all_stop (k : Nat) (h : ¬ (i < inn.length ∧ S.e = 0)) : RS.all inn k i bg S = S.final := by
  cases k with
  | zero => rfl
  | succ k => unfold RS.all; rw [if_neg h]
theorem all_end (h1 : i < inn.length) (h2 : S.e = 0) (ht : inn.getD i noTok = t) (h7 : t.kind = 7) : RS.all inn (q + 1) i bg S = S.fin t := by
  unfold RS.all; rw [if_pos ⟨h1, h2⟩]; simp only [ht]; rw [if_pos h7]
theorem all_none (h1 : i < inn.length) (h2 : S.e = 0) (ht : inn.getD i noTok = t) (h7 : ¬ t.kind = 7) (hl : S.linesIf inn t i bg = none) : RS.all inn (q + 1) i bg S = ([], t.at_, 42) := by
  unfold RS.all; rw [if_pos ⟨h1, h2⟩]; simp only [ht]; rw [if_neg h7, hl]
theorem all_full (h1 : i < inn.length) (h2 : S.e = 0) (ht : inn.getD i noTok = t) (h7 : ¬ t.kind = 7) (hl : S.linesIf inn t i bg = some S1)
    (hd : (!((S1.inw t).brace t).1 && (((S1.inw t).brace t).2.e == 0)) = true) (hf : 60000 ≤ ((S1.inw t).brace t).2.out.length) : RS.all inn (q + 1) i bg S = ([], t.at_, 2) := by
  unfold RS.all; rw [if_pos ⟨h1, h2⟩]; simp only [ht]; rw [if_neg h7, hl]
  simp only [Bool.and_eq_true, Bool.not_eq_true', beq_iff_eq] at hd
  simp only [hd.1, hd.2]; rw [if_pos ⟨trivial, trivial⟩, if_pos hf]
theorem all_go (h1 : i < inn.length) (h2 : S.e = 0) (ht : inn.getD i noTok = t) (h7 : ¬ t.kind = 7) (hl : S.linesIf inn t i bg = some S1)
    (hf : (!((S1.inw t).brace t).1 && (((S1.inw t).brace t).2.e == 0)) = true → ¬ 60000 ≤ ((S1.inw t).brace t).2.out.length) {S4 : RS}
    (h4 : (if (!((S1.inw t).brace t).1 && (((S1.inw t).brace t).2.e == 0)) = true then ((S1.inw t).brace t).2.add t else ((S1.inw t).brace t).2) = S4) :
    RS.all inn (q + 1) i bg S = RS.all inn q (S4.after inn t i).2.1 (S4.after inn t i).2.2 (S4.after inn t i).1 := by
  conv => lhs; unfold RS.all
  rw [if_pos ⟨h1, h2⟩]; simp only [ht]; rw [if_neg h7, hl]
  by_cases hb : (!((S1.inw t).brace t).1 && (((S1.inw t).brace t).2.e == 0)) = true
  · have hf' := hf hb
    rw [if_pos hb] at h4
    simp only [Bool.and_eq_true, Bool.not_eq_true', beq_iff_eq] at hb
    simp only [hb.1, hb.2]; rw [if_pos ⟨trivial, trivial⟩, if_neg hf', h4]
  · rw [if_neg hb] at h4
    have : ¬ (((S1.inw t).brace t).1 = false ∧ ((S1.inw t).brace t).2.e = 0) := by
      intro hc; apply hb; rw [hc.1, hc.2]; rfl
    dsimp only
    rw [if_neg this, h4]
theorem after_no (h : isOpener t = false ∨ S.e ≠ 0) : S.after inn t i = (S, i + 1, false) := by unfold RS.after; rw [if_pos h]
theorem after_brace (h : isOpener t = true) (he : S.e = 0) (hn : inn.getD (i + 1) noTok = n) (hb : isW n [123] = true) : S.after inn t i = ((S.put 4 n true).push ⟨true, 0, false, 0⟩ n, i + 2, false) := by
  unfold RS.after; rw [if_neg (by rw [h]; simp [he])]; simp only [hn]; rw [if_pos hb]
theorem after_empty (h : isOpener t = true) (he : S.e = 0) (hn : inn.getD (i + 1) noTok = n) (hb : isW n [123] = false) (hc : (n.kind == 7 || decide (n.col ≤ colOf S.stk S.stk.length)) = true) : S.after inn t i = ((S.put 4 n false).put 5 n false, i + 1, false) := by
  unfold RS.after; rw [if_neg (by rw [h]; simp [he])]; simp only [hn]; rw [if_neg (by rw [hb]; simp), if_pos (by simpa using hc)]
theorem after_new (h : isOpener t = true) (he : S.e = 0) (hn : inn.getD (i + 1) noTok = n) (hb : isW n [123] = false) (hc : (n.kind == 7 || decide (n.col ≤ colOf S.stk S.stk.length)) = false) : S.after inn t i = ((S.put 4 n false).push ⟨false, n.col, isW t wLet, 0⟩ n, i + 1, true) := by
  unfold RS.after; rw [if_neg (by rw [h]; simp [he])]; simp only [hn]; rw [if_neg (by rw [hb]; simp), if_neg (by simpa using hc)]
end
end Go.Proofs.Ytglkdhodpgnlgaa
