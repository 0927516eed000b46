/-
  The reference's Blocks and package layout's compute the same. Plain law, no program in sight. Condition: one token of the end, and it stands last; fewer than 100000 tokens.
-/
import Derived.Test.YtglkdhodpgnlgaaRbQq
import Derived.Test.YtglkdhodpgnlgaaLayTi
namespace Go.Proofs.Ytglkdhodpgnlgaa
open Go.RowKit Go.Tel

def toP (S : RS) (i : Nat) (pl : Int) (f d : Bool) : PS := ⟨S.stk, i, S.out, 0, pl, f, d⟩
/-- A rule's two answers agree. -/
def Agree (r : Bool × PS) (S' : RS) (i : Nat) (pl : Int) (f d : Bool) : Prop :=
  (S'.e = 0 ∧ r = (true, toP S' i pl f d)) ∨ (S'.e ≠ 0 ∧ r.1 = false ∧ r.2.bad = S'.e ∧ r.2.place = S'.at_)

section
variable {inn : List Tok} {S : RS} {t n : Tok} {i : Nat} {pl : Int} {f d : Bool}
theorem put_err (he : S.e ≠ 0) (k : Int) (own : Bool) (t : Tok) : S.put k t own = S := by unfold RS.put; rw [if_pos he]
theorem put_full (he : S.e = 0) (k : Int) (own : Bool) (t : Tok) (h : 60000 ≤ S.out.length) : S.put k t own = { S with e := 2, at_ := t.at_ } := by unfold RS.put; rw [if_neg (by simp [he]), if_pos h]
theorem put_room (he : S.e = 0) (k : Int) (own : Bool) (t : Tok) (h : ¬ 60000 ≤ S.out.length) : S.put k t own = { S with out := S.out ++ [⟨k, if own then t.text else mkS [], t.at_, t.line, t.col⟩] } := by unfold RS.put; rw [if_neg (by simp [he]), if_neg h]
theorem two_ne : (2 : Int) ≠ 0 := by decide
theorem put_agree (he : S.e = 0) (k : Int) (own : Bool) (t : Tok) : Agree (PS.put ⟨k, if own then t.text else mkS [], t.at_, t.line, t.col⟩ (toP S i pl f d)) (S.put k t own) i pl f d := by
  by_cases h : 60000 ≤ S.out.length
  · rw [put_full he k own t h]
    unfold PS.put
    rw [if_pos (show 60000 ≤ (toP S i pl f d).out.length from h), if_pos (show (toP S i pl f d).bad = 0 from rfl)]
    exact Or.inr ⟨two_ne, rfl, rfl, rfl⟩
  · rw [put_room he k own t h]
    unfold PS.put
    rw [if_neg (show ¬ 60000 ≤ (toP S i pl f d).out.length from h)]
    exact Or.inl ⟨he, rfl⟩
theorem pop_eq (t : Tok) (own : Bool) : S.pop t own = ({ S with stk := S.stk.dropLast } : RS).put 5 t own := by
  unfold RS.pop RS.put
  by_cases h : S.e ≠ 0
  · rw [if_pos h, if_pos h]
  · rw [if_neg h, if_neg h]
    by_cases h2 : 60000 ≤ S.out.length
    · rw [if_pos h2, if_pos h2]
    · rw [if_neg h2, if_neg h2]
theorem end_agree (he : S.e = 0) (ht : inn.getD i noTok = t) : Agree ((toP S i pl f d).end_ inn) (S.pop t false) i pl f d := by
  rw [pop_eq]
  have := put_agree (S := { S with stk := S.stk.dropLast }) (i := i) (pl := pl) (f := f) (d := d) he 5 false t
  subst ht
  exact this
theorem begin_agree (he : S.e = 0) (b : Blk) (n : Tok) (own : Bool) : Agree (PS.begin_ b n (if own then n.text else mkS []) (toP S i pl f d)) ((S.put 4 n own).push b n) i pl f d := by
  unfold PS.begin_ PS.sign
  by_cases h : 60000 ≤ S.out.length
  · rw [put_full he 4 own n h]
    have hp : RS.push b n { S with e := 2, at_ := n.at_ } = { S with e := 2, at_ := n.at_, stk := S.stk ++ [b] } := by unfold RS.push; rw [if_neg (fun hh => two_ne hh.2)]
    rw [hp]
    by_cases h2 : 60 ≤ S.stk.length
    · rw [if_pos (show 60 ≤ (toP S i pl f d).stk.length from h2)]
      exact Or.inr ⟨two_ne, rfl, rfl, rfl⟩
    · rw [if_neg (show ¬ 60 ≤ (toP S i pl f d).stk.length from h2)]
      unfold PS.put
      rw [if_pos (show 60000 ≤ ({ toP S i pl f d with stk := (toP S i pl f d).stk ++ [b] } : PS).out.length from h), if_pos (show ({ toP S i pl f d with stk := (toP S i pl f d).stk ++ [b] } : PS).bad = 0 from rfl)]
      exact Or.inr ⟨two_ne, rfl, rfl, rfl⟩
  · rw [put_room he 4 own n h]
    by_cases h2 : 60 ≤ S.stk.length
    · rw [if_pos (show 60 ≤ (toP S i pl f d).stk.length from h2)]
      unfold RS.push
      rw [if_pos ⟨h2, he⟩]
      exact Or.inr ⟨two_ne, rfl, rfl, rfl⟩
    · rw [if_neg (show ¬ 60 ≤ (toP S i pl f d).stk.length from h2)]
      have hp : RS.push b n { S with out := S.out ++ [⟨4, if own then n.text else mkS [], n.at_, n.line, n.col⟩] } = { S with out := S.out ++ [⟨4, if own then n.text else mkS [], n.at_, n.line, n.col⟩], stk := S.stk ++ [b] } := by
        unfold RS.push; rw [if_neg (fun hh => h2 hh.1)]
      rw [hp]
      unfold PS.put
      rw [if_neg (show ¬ 60000 ≤ ({ toP S i pl f d with stk := (toP S i pl f d).stk ++ [b] } : PS).out.length from h)]
      exact Or.inl ⟨he, rfl⟩

theorem lines_err (k : Nat) (h : S.e ≠ 0) : RS.lines t k S = some S := by cases k with | zero => rfl | succ k => unfold RS.lines; rw [if_pos h]
theorem pops_err (k : Nat) (h : S.e ≠ 0) : RS.pops t k S = S := by cases k with | zero => rfl | succ k => unfold RS.pops; rw [if_pos h]
theorem inw_err (h : S.e ≠ 0) : S.inw t = S := by
  unfold RS.inw; split
  · split
    · rfl
    · exact pops_err _ h
  · rfl
theorem brace_err (h : S.e ≠ 0) : (S.brace t).2.e = S.e ∧ (S.brace t).2.at_ = S.at_ := by
  have hp : ∀ k own, (S.put k t own) = S := fun k own => by unfold RS.put; rw [if_pos h]
  have hb : ∀ n, (S.setBr n).e = S.e ∧ (S.setBr n).at_ = S.at_ := fun n => by unfold RS.setBr; split <;> exact ⟨rfl, rfl⟩
  unfold RS.brace; split
  · exact ⟨rfl, rfl⟩
  · split
    · rw [hp]; exact ⟨rfl, rfl⟩
    · split
      · exact ⟨rfl, rfl⟩
      · split
        · exact ⟨rfl, rfl⟩
        · split
          · exact hb _
          · split
            · split
              · unfold RS.pop; rw [hp]; exact ⟨rfl, rfl⟩
              · exact hb _
            · exact ⟨rfl, rfl⟩

/-- What a rule that may end all says. -/
def AgreeO (r : Bool × PS) (o : Option RS) (t : Tok) (i : Nat) (pl : Int) (f d : Bool) : Prop := match o with
  | none => r.1 = false ∧ r.2.bad = 42 ∧ r.2.place = t.at_
  | some S' => Agree r S' i pl f d
theorem now_toP (ht : inn.getD i noTok = t) : (toP S i pl f d).now inn = t := ht
theorem fail_toP (ht : inn.getD i noTok = t) : ((toP S i pl f d).fail inn 42).1 = false ∧ ((toP S i pl f d).fail inn 42).2.bad = 42 ∧ ((toP S i pl f d).fail inn 42).2.place = t.at_ := by
  have : (toP S i pl f d).fail inn 42 = (false, { toP S i pl f d with bad := 42, place := t.at_ }) := by
    unfold PS.fail; rw [if_pos (show (toP S i pl f d).bad = 0 from rfl), now_toP ht]
  rw [this]
  exact ⟨rfl, rfl, rfl⟩
theorem agreeO_id (he : S.e = 0) : AgreeO (true, toP S i pl f d) (some S) t i pl f d := Or.inl ⟨he, rfl⟩
theorem agreeO_err {T : RS} {p : PS} (h1 : T.e ≠ 0) (h2 : p.bad = T.e) (h3 : p.place = T.at_) : AgreeO (false, p) (some T) t i pl f d := Or.inr ⟨h1, rfl, h2, h3⟩

theorem lines_agree (ht : inn.getD i noTok = t) (k : Nat) : ∀ S : RS, S.e = 0 → AgreeO (PS.lines inn k (toP S i pl f d)) (RS.lines t k S) t i pl f d := by
  induction k with
  | zero => intro S he; exact Or.inl ⟨he, rfl⟩
  | succ k ih =>
    intro S he
    unfold PS.lines RS.lines
    rw [if_neg (show ¬ S.e ≠ 0 by simp [he]), now_toP ht]
    have hs : (toP S i pl f d).stk = S.stk := rfl
    rw [hs]
    cases hl : S.stk.getLast? with
    | none => exact agreeO_id he
    | some b =>
      dsimp only
      by_cases hx : b.ex = true
      · rw [if_pos hx, if_pos hx]; exact agreeO_id he
      · rw [if_neg hx, if_neg hx]
        by_cases h1 : t.col < b.col
        · rw [if_pos h1, if_neg (show ¬ b.col = t.col by omega), if_neg (show ¬ b.col < t.col by omega)]
          by_cases h2 : S.stk.length = 1
          · rw [if_pos h2, if_pos h2]; exact fail_toP ht
          · rw [if_neg h2, if_neg h2]
            rcases end_agree (S := S) (pl := pl) (f := f) (d := d) he ht with ⟨e1, e2⟩ | ⟨e1, e2, e3, e4⟩
            · rw [e2, if_pos rfl]; exact ih _ e1
            · rw [e2, if_neg Bool.false_ne_true, lines_err k e1]; exact agreeO_err e1 e3 e4
        · rw [if_neg h1]
          by_cases h2 : b.col = t.col
          · rw [if_pos h2, if_pos h2]; exact put_agree he 6 false t
          · rw [if_neg h2, if_neg h2, if_pos (show b.col < t.col by omega)]; exact agreeO_id he
theorem lasts_agree (ht : inn.getD i noTok = t) (k : Nat) : ∀ S : RS, S.e = 0 → AgreeO (PS.lasts inn k (toP S i pl f d)) (RS.ends t k S) t i pl f d := by
  induction k with
  | zero => intro S he; exact Or.inl ⟨he, rfl⟩
  | succ k ih =>
    intro S he
    unfold PS.lasts RS.ends
    have hs : (toP S i pl f d).stk = S.stk := rfl
    rw [hs]
    cases hl : S.stk.getLast? with
    | none => exact agreeO_id he
    | some b =>
      dsimp only
      rw [if_neg (show ¬ S.e ≠ 0 by simp [he])]
      by_cases hx : b.ex = true
      · rw [if_pos hx, if_pos hx]; exact fail_toP ht
      · rw [if_neg hx, if_neg hx]
        rcases end_agree (S := S) (pl := pl) (f := f) (d := d) he ht with ⟨e1, e2⟩ | ⟨e1, e2, e3, e4⟩
        · rw [e2, if_pos rfl]; exact ih _ e1
        · rw [e2, if_neg Bool.false_ne_true]
          have : RS.ends t k (S.pop t false) = some (S.pop t false) := by
            cases k with
            | zero => rfl
            | succ k => unfold RS.ends; cases (S.pop t false).stk.getLast? with | none => rfl | some b => dsimp only; rw [if_pos e1]
          rw [this]; exact agreeO_err e1 e3 e4
theorem ends_agree (ht : inn.getD i noTok = t) (k : Nat) : ∀ S : RS, S.e = 0 → Agree (PS.ends inn k (toP S i pl f d)) (RS.pops t k S) i pl f d := by
  induction k with
  | zero => intro S he; exact Or.inl ⟨he, rfl⟩
  | succ k ih =>
    intro S he
    unfold PS.ends RS.pops
    rw [if_neg (show ¬ S.e ≠ 0 by simp [he])]
    rcases end_agree (S := S) (pl := pl) (f := f) (d := d) he ht with ⟨e1, e2⟩ | ⟨e1, e2, e3, e4⟩
    · rw [e2, if_pos rfl]; exact ih _ e1
    · rw [e2, if_neg Bool.false_ne_true, pops_err k e1]; exact Or.inr ⟨e1, rfl, e3, e4⟩
theorem inw_agree (ht : inn.getD i noTok = t) (he : S.e = 0) : Agree (PS.inward inn (toP S i pl f d)) (S.inw t) i pl f d := by
  unfold PS.inward RS.inw
  rw [now_toP ht]
  by_cases h : isW t wIn = true
  · rw [if_pos h, if_pos h]
    have hs : (toP S i pl f d).stk = S.stk := rfl
    rw [hs]
    cases inFind S.stk S.stk.length with
    | none => exact Or.inl ⟨he, rfl⟩
    | some j => exact ends_agree ht _ S he
  · rw [if_neg h, if_neg h]; exact Or.inl ⟨he, rfl⟩
theorem setBr_toP (m : Int) : (toP S i pl f d).setBr m = toP (S.setBr m) i pl f d := by
  unfold PS.setBr RS.setBr
  have hs : (toP S i pl f d).stk = S.stk := rfl
  rw [hs]
  cases S.stk.getLast? <;> rfl
theorem setBr_e (m : Int) : (S.setBr m).e = S.e := by unfold RS.setBr; split <;> rfl
/-- The braces of every open block are few. -/
def RS.Br (m : Int) (S : RS) : Prop := ∀ b ∈ S.stk, 0 ≤ b.br ∧ b.br ≤ m
theorem brace_agree (ht : inn.getD i noTok = t) (he : S.e = 0) {m : Int} (hm : m ≤ 1000000) (hb : S.Br m) : Agree (PS.brace inn (toP S i pl f false)) (S.brace t).2 i pl f (S.brace t).1 := by
  unfold PS.brace RS.brace
  rw [now_toP ht]
  cases hk : t.kind == 2 with
  | false =>
    have hw : ∀ l, isW t l = false := fun l => by unfold isW; rw [hk]; rfl
    rw [hw, hw, hw, if_neg Bool.false_ne_true, if_pos rfl]
    have hs : (toP S i pl f false).stk = S.stk := rfl
    rw [hs]
    cases S.stk.getLast? with
    | none => exact Or.inl ⟨he, rfl⟩
    | some b =>
      dsimp only
      split <;> exact Or.inl ⟨he, rfl⟩
  | true =>
    rw [if_neg (by simp : ¬ (true = false))]
    by_cases h1 : isW t [59] = true
    · rw [if_pos h1, if_pos h1]; exact put_agree (d := true) he 6 true t
    · rw [if_neg h1, if_neg h1]
      have hs : (toP S i pl f false).stk = S.stk := rfl
      rw [hs]
      cases hl : S.stk.getLast? with
      | none => exact Or.inl ⟨he, rfl⟩
      | some b =>
        dsimp only
        have hbr := hb b (List.mem_of_getLast? hl)
        cases hx : b.ex with
        | false => rw [if_neg Bool.false_ne_true, if_pos rfl]; exact Or.inl ⟨he, rfl⟩
        | true =>
          rw [if_pos rfl, if_neg (by simp : ¬ (true = false))]
          by_cases h2 : isW t [123] = true
          · rw [if_pos h2, if_pos h2, setBr_toP]; exact Or.inl ⟨by rw [setBr_e]; exact he, rfl⟩
          · rw [if_neg h2, if_neg h2]
            by_cases h3 : isW t [125] = true
            · rw [if_pos h3, if_pos h3]
              have hwr : wrap64 (b.br - 1) = b.br - 1 := by unfold wrap64; omega
              by_cases h4 : b.br = 0
              · rw [if_pos h4, if_pos (by rw [hwr]; omega)]
                dsimp only
                rw [pop_eq]
                exact put_agree (S := { S with stk := S.stk.dropLast }) (d := true) he 5 true t
              · rw [if_neg h4, if_neg (by rw [hwr]; omega), setBr_toP]; exact Or.inl ⟨by rw [setBr_e]; exact he, rfl⟩
            · rw [if_neg h3, if_neg h3]; exact Or.inl ⟨he, rfl⟩
theorem behind_agree (ht : inn.getD i noTok = t) (he : S.e = 0) :
    ((S.after inn t i).1.e = 0 ∧ ∃ i' f', PS.behind inn (toP S i pl false d) = (true, toP (S.after inn t i).1 i' pl f' d) ∧ (S.after inn t i).2.1 = i' + 1 ∧ (S.after inn t i).2.2 = f')
    ∨ ((S.after inn t i).1.e ≠ 0 ∧ (PS.behind inn (toP S i pl false d)).1 = false ∧ (PS.behind inn (toP S i pl false d)).2.bad = (S.after inn t i).1.e ∧ (PS.behind inn (toP S i pl false d)).2.place = (S.after inn t i).1.at_) := by
  unfold PS.behind
  rw [now_toP ht]
  by_cases ho : isOpener t = true
  · rw [if_pos ho]
    dsimp only
    generalize hn : inn.getD (i + 1) noTok = n
    by_cases hb : isW n [123] = true
    · rw [after_brace ho he hn hb]
      have hn' : inn.getD ((toP S i pl false d).at_ + 1) noTok = n := hn
      rw [hn', if_pos hb]
      rcases begin_agree (S := S) (i := i + 1) (pl := pl) (f := false) (d := d) he ⟨true, 0, false, 0⟩ n true with ⟨e1, e2⟩ | ⟨e1, e2, e3, e4⟩
      · exact Or.inl ⟨e1, i + 1, false, e2, rfl, rfl⟩
      · exact Or.inr ⟨e1, e2, e3, e4⟩
    · have hb' : isW n [123] = false := by simpa using hb
      have hn' : inn.getD ((toP S i pl false d).at_ + 1) noTok = n := hn
      rw [hn', if_neg hb]
      show _ ∨ _
      have hstk : (toP S i pl false d).stk = S.stk := rfl
      rw [hstk]
      by_cases hc : n.kind = 7 ∨ n.col ≤ colOf S.stk S.stk.length
      · rw [if_pos hc, after_empty ho he hn hb' (by simpa using hc)]
        rcases put_agree (S := S) (i := i) (pl := pl) (f := false) (d := d) he 4 false n with ⟨e1, e2⟩ | ⟨e1, e2, e3, e4⟩
        · have e2' : PS.sign 4 n (mkS []) (toP S i pl false d) = (true, toP (S.put 4 n false) i pl false d) := e2
          rw [e2', if_pos rfl]
          rcases put_agree (S := S.put 4 n false) (i := i) (pl := pl) (f := false) (d := d) e1 5 false n with ⟨g1, g2⟩ | ⟨g1, g2, g3, g4⟩
          · exact Or.inl ⟨g1, i, false, g2, rfl, rfl⟩
          · exact Or.inr ⟨g1, g2, g3, g4⟩
        · have e2' : (PS.sign 4 n (mkS []) (toP S i pl false d)).1 = false := e2
          rw [e2', if_neg Bool.false_ne_true]
          have hk : (S.put 4 n false).put 5 n false = S.put 4 n false := put_err e1 5 false n
          rw [hk]
          exact Or.inr ⟨e1, rfl, e3, e4⟩
      · rw [if_neg hc, after_new ho he hn hb' (by simpa using hc)]
        rcases begin_agree (S := S) (i := i) (pl := pl) (f := true) (d := d) he ⟨false, n.col, isW t wLet, 0⟩ n false with ⟨e1, e2⟩ | ⟨e1, e2, e3, e4⟩
        · exact Or.inl ⟨e1, i, true, e2, rfl, rfl⟩
        · exact Or.inr ⟨e1, e2, e3, e4⟩
  · rw [if_neg ho, after_no (Or.inl (by simpa using ho))]
    exact Or.inl ⟨he, i, false, rfl, rfl, rfl⟩
end
end Go.Proofs.Ytglkdhodpgnlgaa

namespace Go.Proofs.Ytglkdhodpgnlgaa
open Go.RowKit Go.Tel

section
variable {inn : List Tok} {S : RS} {t n : Tok} {i : Nat} {pl : Int} {f d : Bool} {m : Int}
theorem br_stk {T : RS} (h : S.Br m) (hs : ∀ b ∈ T.stk, b ∈ S.stk) : T.Br m := fun b hb => h b (hs b hb)
theorem br_put (h : S.Br m) (k : Int) (t : Tok) (own : Bool) : (S.put k t own).Br m := br_stk h (fun b hb => by rw [(RS.put_stk k t own S).1] at hb; exact hb)
theorem br_pop (h : S.Br m) (t : Tok) (own : Bool) : (S.pop t own).Br m := br_stk h (fun _ hb => (List.dropLast_sublist _).subset hb)
theorem br_mono {m' : Int} (h : S.Br m) (hm : m ≤ m') : S.Br m' := fun b hb => ⟨(h b hb).1, by have := (h b hb).2; omega⟩
theorem br_push (h : S.Br m) (hm : 0 ≤ m) (b : Blk) (hb : b.br = 0) (t : Tok) : (S.push b t).Br m := by
  unfold RS.push; split
  · exact br_stk h (fun _ hb => hb)
  · intro c hc
    have hc' : c ∈ S.stk ++ [b] := hc
    rcases List.mem_append.1 hc' with hc' | hc'
    · exact h c hc'
    · rw [List.mem_singleton] at hc'; rw [hc', hb]; exact ⟨Int.le_refl _, hm⟩
theorem br_lines (k : Nat) : ∀ (S S1 : RS), S.Br m → RS.lines t k S = some S1 → S1.Br m := by
  induction k with
  | zero => intro S S1 h e; cases e; exact h
  | succ k ih =>
    intro S S1 h e
    unfold RS.lines at e
    split at e
    · cases e; exact h
    · split at e
      · cases e; exact h
      · split at e
        · cases e; exact h
        · split at e
          · cases e; exact br_put h _ _ _
          · split at e
            · cases e; exact h
            · split at e
              · cases e
              · exact ih _ _ (br_pop h t false) e
theorem br_pops (k : Nat) : ∀ S : RS, S.Br m → (RS.pops t k S).Br m := by
  induction k with
  | zero => intro S h; exact h
  | succ k ih =>
    intro S h
    unfold RS.pops; split
    · exact h
    · exact ih _ (br_pop h t false)
theorem br_inw (h : S.Br m) : (S.inw t).Br m := by
  unfold RS.inw; split
  · split
    · exact h
    · exact br_pops _ S h
  · exact h
theorem br_setBr (h : S.Br m) (v : Int) (hv : 0 ≤ v ∧ v ≤ m) : (S.setBr v).Br m := by
  unfold RS.setBr; split
  · exact h
  · intro c hc
    have hc' : c ∈ S.stk.dropLast ++ _ := hc
    rcases List.mem_append.1 hc' with hc' | hc'
    · exact h c ((List.dropLast_sublist _).subset hc')
    · rw [List.mem_singleton] at hc'; rw [hc']; exact hv
theorem br_brace (h : S.Br m) (hm : 0 ≤ m) (hm2 : m ≤ 1000000) : (S.brace t).2.Br (m + 1) := by
  have h' : S.Br (m + 1) := br_mono h (by omega)
  unfold RS.brace; split
  · exact h'
  · split
    · exact br_put h' _ _ _
    · split
      · exact h'
      · rename_i b hb
        have hbr := h b (List.mem_of_getLast? hb)
        split
        · exact h'
        · split
          · exact br_setBr h' _ (by unfold wrap64; omega)
          · split
            · split
              · exact br_pop h' _ _
              · rename_i hz
                exact br_setBr h' _ (by have : ¬ b.br = 0 := hz; unfold wrap64; omega)
            · exact h'
theorem br_add (h : S.Br m) : (S.add t).Br m := h
theorem br_after (h : S.Br m) (hm : 0 ≤ m) : (S.after inn t i).1.Br m := by
  unfold RS.after; split
  · exact h
  · dsimp only
    split
    · exact br_push (br_put h _ _ _) hm _ rfl _
    · split
      · exact br_put (br_put h _ _ _) _ _ _
      · exact br_push (br_put h _ _ _) hm _ rfl _
theorem br_linesIf {bg : Bool} {S1 : RS} (h : S.Br m) (e : S.linesIf inn t i bg = some S1) : S1.Br m := by
  unfold RS.linesIf at e; split at e
  · exact br_lines _ _ _ h e
  · cases e; exact h

/-- What the placer's state says at its end. -/
def PS.fin (P : PS) : List Tok × Int × Int := if P.bad ≠ 0 then ([], P.place, P.bad) else (P.out, 0, 0)
theorem fin_toP (he : S.e = 0) : (toP S i pl f d).fin = S.final := by
  unfold PS.fin RS.final toP; rw [if_neg (by simp), if_neg (by simp [he])]

theorem line_agree (ht : inn.getD i noTok = t) (he : S.e = 0) (h7 : ¬ t.kind = 7) {bg : Bool} (hf : 0 < i → f = bg) : AgreeO (PS.line inn (toP S i pl f d)) (S.linesIf inn t i bg) t i pl f d := by
  unfold PS.line RS.linesIf
  rw [now_toP ht]
  have ha : (toP S i pl f d).at_ = i := rfl
  have hb : (toP S i pl f d).first = f := rfl
  rw [ha, hb]
  by_cases h : bg = false ∧ 0 < i ∧ (inn.getD (i - 1) noTok).line < t.line
  · rw [if_pos h, if_neg (by
      rintro (h1 | h1 | h1 | h1)
      · omega
      · rw [hf h.2.1, h.1] at h1; cases h1
      · exact h7 h1
      · omega)]
    exact lines_agree ht _ S he
  · rw [if_neg h, if_pos (by
      by_cases h0 : i = 0
      · exact Or.inl h0
      · cases hbg : bg with
        | true => exact Or.inr (Or.inl ((hf (by omega)).trans hbg))
        | false =>
          have : ¬ (inn.getD (i - 1) noTok).line < t.line := fun hh => h ⟨hbg, by omega, hh⟩
          exact Or.inr (Or.inr (Or.inr (by omega))))]
    exact agreeO_id he

/-- How a round of the reference goes on. -/
def Next (inn : List Tok) (k : Nat) (t : Tok) (i : Nat) (S1 : RS) : List Tok × Int × Int :=
  if ((S1.inw t).brace t).1 = false ∧ ((S1.inw t).brace t).2.e = 0 then
    if 60000 ≤ ((S1.inw t).brace t).2.out.length then ([], t.at_, 2)
    else RS.all inn k ((((S1.inw t).brace t).2.add t).after inn t i).2.1 ((((S1.inw t).brace t).2.add t).after inn t i).2.2 ((((S1.inw t).brace t).2.add t).after inn t i).1
  else RS.all inn k ((((S1.inw t).brace t).2).after inn t i).2.1 ((((S1.inw t).brace t).2).after inn t i).2.2 ((((S1.inw t).brace t).2).after inn t i).1
theorem all_next {k : Nat} {bg : Bool} (h1 : i < inn.length) (he : S.e = 0) (ht : inn.getD i noTok = t) (h7 : ¬ t.kind = 7) : RS.all inn (k + 1) i bg S = match S.linesIf inn t i bg with
    | none => ([], t.at_, 42)
    | some S1 => Next inn k t i S1 := by
  conv => lhs; unfold RS.all
  rw [if_pos ⟨h1, he⟩]; simp only [ht]; rw [if_neg h7]
  rfl
theorem all_err (k : Nat) {bg : Bool} (h : S.e ≠ 0) : RS.all inn k i bg S = ([], S.at_, S.e) := by
  rw [all_stop k (fun hh => h hh.2)]; unfold RS.final; rw [if_pos h]
theorem next_err {k : Nat} {D : RS} (h1 : ((S.inw t).brace t).2 = D) (h : D.e ≠ 0) : Next inn k t i S = ([], D.at_, D.e) := by
  unfold Next
  rw [h1, if_neg (fun hh => h hh.2), after_no (Or.inr h), all_err k h]
theorem next_err1 {k : Nat} (h : S.e ≠ 0) : Next inn k t i S = ([], S.at_, S.e) := by
  have hb := brace_err (S := S) (t := t) h
  rw [next_err (S := S) (D := (S.brace t).2) (by rw [inw_err h]) (by rw [hb.1]; exact h), hb.1, hb.2]
theorem next_err2 {k : Nat} (h : (S.inw t).e ≠ 0) : Next inn k t i S = ([], (S.inw t).at_, (S.inw t).e) := by
  have hb := brace_err (S := S.inw t) (t := t) h
  rw [next_err (S := S) rfl (by rw [hb.1]; exact h), hb.1, hb.2]

/-- One token, both ways: the placer's token, and what the reference does with it. -/
theorem token_agree (ht : inn.getD i noTok = t) (hi : i < inn.length) (he : S.e = 0) (h7 : ¬ t.kind = 7) {bg : Bool} (hf : 0 < i → f = bg) (hm0 : 0 ≤ m) (hm : m ≤ 1000000) (hb : S.Br m) (k : Nat) :
    (∃ (S' : RS) (i' : Nat) (f' d' : Bool), PS.token inn (toP S i pl f d) = (true, toP S' i' pl f' d') ∧ S'.e = 0 ∧ S'.Br (m + 1) ∧ RS.all inn (k + 1) i bg S = RS.all inn k (i' + 1) f' S')
    ∨ ((PS.token inn (toP S i pl f d)).1 = false ∧ (PS.token inn (toP S i pl f d)).2.bad ≠ 0 ∧ RS.all inn (k + 1) i bg S = ([], (PS.token inn (toP S i pl f d)).2.place, (PS.token inn (toP S i pl f d)).2.bad)) := by
  rw [all_next hi he ht h7]
  unfold PS.token
  have h0 : ({ toP S i pl f d with done := false } : PS) = toP S i pl f false := rfl
  rw [h0]
  have hl := line_agree (pl := pl) (d := false) ht he h7 hf
  generalize hL : PS.line inn (toP S i pl f false) = a at *
  dsimp only
  cases ho : S.linesIf inn t i bg with
  | none =>
    rw [ho] at hl
    obtain ⟨e1, e2, e3⟩ := hl
    rw [if_pos e1]
    exact Or.inr ⟨e1, by rw [e2]; decide, by rw [e2, e3]⟩
  | some S1 =>
    rw [ho] at hl
    have hb1 := br_linesIf hb ho
    dsimp only
    rcases hl with ⟨g1, g2⟩ | ⟨g1, g2, g3, g4⟩
    · subst g2
      rw [if_neg (by simp)]
      dsimp only
      have hI := inw_agree (S := S1) (pl := pl) (f := f) (d := false) ht g1
      generalize PS.inward inn (toP S1 i pl f false) = b at *
      rcases hI with ⟨j1, j2⟩ | ⟨j1, j2, j3, j4⟩
      · subst j2
        rw [if_neg (by simp)]
        dsimp only
        have hLa : PS.last inn (toP (S1.inw t) i pl f false) = (true, toP (S1.inw t) i pl f false) := by
          unfold PS.last; rw [now_toP ht, if_neg h7]
        rw [hLa, if_neg (by simp)]
        dsimp only
        have hB := brace_agree (S := S1.inw t) (pl := pl) (f := f) ht j1 hm (br_inw hb1)
        have hb2 := br_brace (t := t) (br_inw (t := t) hb1) hm0 hm
        generalize PS.brace inn (toP (S1.inw t) i pl f false) = c at *
        rcases hB with ⟨q1, q2⟩ | ⟨q1, q2, q3, q4⟩
        · subst q2
          rw [if_neg (by simp)]
          dsimp only
          unfold Next
          generalize RS.brace t (S1.inw t) = D at *
          obtain ⟨dn, D⟩ := D
          dsimp only at *
          show (∃ (S' : RS) (i' : Nat) (f' d' : Bool), PS.after inn (toP D i pl false dn) = (true, toP S' i' pl f' d') ∧ S'.e = 0 ∧ S'.Br (m + 1) ∧ _ = RS.all inn k (i' + 1) f' S') ∨ ((PS.after inn (toP D i pl false dn)).1 = false ∧ (PS.after inn (toP D i pl false dn)).2.bad ≠ 0 ∧ _ = ([], (PS.after inn (toP D i pl false dn)).2.place, (PS.after inn (toP D i pl false dn)).2.bad))
          unfold PS.after
          have key : ∀ T : RS, T.e = 0 → T.Br (m + 1) →
              (∃ (S' : RS) (i' : Nat) (f' d' : Bool), PS.behind inn (toP T i pl false dn) = (true, toP S' i' pl f' d') ∧ S'.e = 0 ∧ S'.Br (m + 1) ∧ RS.all inn k (T.after inn t i).2.1 (T.after inn t i).2.2 (T.after inn t i).1 = RS.all inn k (i' + 1) f' S')
              ∨ ((PS.behind inn (toP T i pl false dn)).1 = false ∧ (PS.behind inn (toP T i pl false dn)).2.bad ≠ 0 ∧ RS.all inn k (T.after inn t i).2.1 (T.after inn t i).2.2 (T.after inn t i).1 = ([], (PS.behind inn (toP T i pl false dn)).2.place, (PS.behind inn (toP T i pl false dn)).2.bad)) := by
            intro T hT1 hT2
            rcases behind_agree (S := T) (pl := pl) (d := dn) ht hT1 with ⟨r1, i', f', r2, r3, r4⟩ | ⟨r1, r2, r3, r4⟩
            · exact Or.inl ⟨_, i', f', dn, r2, r1, br_after hT2 (by omega), by rw [r3, r4]⟩
            · exact Or.inr ⟨r2, by rw [r3]; exact r1, by rw [all_err k r1, r3, r4]⟩
          cases dn with
          | true =>
            rw [if_pos (show (toP D i pl false true).done = true from rfl), if_neg (by simp)]
            exact key D q1 hb2
          | false =>
            rw [if_neg (show ¬ (toP D i pl false false).done = true by show ¬ (false = true); simp), if_pos (show (false : Bool) = false ∧ D.e = 0 from ⟨rfl, q1⟩), now_toP ht]
            unfold PS.put
            by_cases hfull : 60000 ≤ D.out.length
            · rw [if_pos (show 60000 ≤ (toP D i pl false false).out.length from hfull), if_pos hfull, if_pos (show (toP D i pl false false).bad = 0 from rfl)]
              exact Or.inr ⟨rfl, two_ne, rfl⟩
            · rw [if_neg (show ¬ 60000 ≤ (toP D i pl false false).out.length from hfull), if_neg hfull, if_pos rfl]
              exact key (D.add t) q1 hb2
        · rw [if_pos q2, next_err rfl q1]
          exact Or.inr ⟨q2, by rw [q3]; exact q1, by rw [q3, q4]⟩
      · rw [if_pos j2, next_err2 j1]
        exact Or.inr ⟨j2, by rw [j3]; exact j1, by rw [j3, j4]⟩
    · rw [if_pos g2, next_err1 g1]
      exact Or.inr ⟨g2, by rw [g3]; exact g1, by rw [g3, g4]⟩

/-- The token of the end, both ways. -/
theorem end_token (ht : inn.getD i noTok = t) (hi : i < inn.length) (he : S.e = 0) (h7 : t.kind = 7) {bg : Bool} (k : Nat) :
    (PS.token inn (toP S i pl f d)).2.fin = RS.all inn (k + 1) i bg S ∧ ((PS.token inn (toP S i pl f d)).1 = true → (PS.token inn (toP S i pl f d)).2.at_ = i) := by
  rw [all_end hi he ht h7, RS.fin_eq]
  have hw : ∀ l, isW t l = false := fun l => by unfold isW; rw [h7]; rfl
  unfold PS.token
  have h0 : ({ toP S i pl f d with done := false } : PS) = toP S i pl f false := rfl
  rw [h0]
  have hL : PS.line inn (toP S i pl f false) = (true, toP S i pl f false) := by unfold PS.line; rw [now_toP ht, if_pos (Or.inr (Or.inr (Or.inl h7)))]
  have hI : PS.inward inn (toP S i pl f false) = (true, toP S i pl f false) := by unfold PS.inward; rw [now_toP ht, hw, if_neg Bool.false_ne_true]
  rw [hL]; dsimp only; rw [if_neg (by simp), hI]; dsimp only; rw [if_neg (by simp)]
  have hA := lasts_agree (pl := pl) (f := f) (d := false) ht (S.stk.length + 1) S he
  have hLa : PS.last inn (toP S i pl f false) = PS.lasts inn (S.stk.length + 1) (toP S i pl f false) := by unfold PS.last; rw [now_toP ht, if_pos h7]; rfl
  rw [hLa]
  have hend : ∀ T : RS, RS.ends t (S.stk.length + 1) S = some T → T.e = 0 → T.stk = [] := by
    have : ∀ (k : Nat) (U T : RS), U.stk.length < k → RS.ends t k U = some T → T.e = 0 → T.stk = [] := by
      intro k
      induction k with
      | zero => intro U T h; omega
      | succ k ih =>
        intro U T hl e hT
        unfold RS.ends at e
        split at e
        · rename_i hn
          cases e
          exact List.getLast?_eq_none_iff.1 hn
        · split at e
          · rename_i h1; cases e; exact absurd hT h1
          · split at e
            · cases e
            · rename_i b hb _ _
              have hp : (U.pop t false).stk = U.stk.dropLast := rfl
              have hpos : U.stk ≠ [] := by intro hh; rw [hh] at hb; cases hb
              have := List.length_pos_iff.2 hpos
              exact ih _ T (by rw [hp, List.length_dropLast]; omega) e hT
    exact fun T => this _ S T (Nat.lt_succ_self _)
  generalize PS.lasts inn (S.stk.length + 1) (toP S i pl f false) = c at *
  cases ho : RS.ends t (S.stk.length + 1) S with
  | none =>
    rw [ho] at hA
    obtain ⟨e1, e2, e3⟩ := hA
    rw [if_pos e1]
    refine ⟨?_, fun h => by rw [e1] at h; cases h⟩
    unfold PS.fin; rw [if_pos (by rw [e2]; decide), e2, e3]; rfl
  | some T =>
    rw [ho] at hA
    have hst := hend T ho
    unfold RS.finO
    dsimp only
    rcases hA with ⟨g1, g2⟩ | ⟨g1, g2, g3, g4⟩
    · subst g2
      rw [if_neg (by simp), if_pos g1]
      dsimp only
      have hB : PS.brace inn (toP T i pl f false) = (true, toP T i pl f false) := by
        unfold PS.brace; rw [now_toP ht, hw, if_neg Bool.false_ne_true]
        have hs : (toP T i pl f false).stk = [] := hst g1
        rw [hs]; rfl
      rw [hB, if_neg (by simp)]
      dsimp only
      show (PS.after inn (toP T i pl false false)).2.fin = _ ∧ ((PS.after inn (toP T i pl false false)).1 = true → (PS.after inn (toP T i pl false false)).2.at_ = i)
      unfold PS.after
      rw [if_neg (show ¬ (toP T i pl false false).done = true by show ¬ (false = true); simp), now_toP ht]
      unfold PS.put
      by_cases hfull : 60000 ≤ T.out.length
      · rw [if_pos (show 60000 ≤ (toP T i pl false false).out.length from hfull), if_pos hfull, if_pos (show (toP T i pl false false).bad = 0 from rfl)]
        exact ⟨rfl, fun h => by cases h⟩
      · rw [if_neg (show ¬ 60000 ≤ (toP T i pl false false).out.length from hfull), if_neg hfull, if_pos rfl]
        have hb : PS.behind inn (toP (T.add t) i pl false false) = (true, toP (T.add t) i pl false false) := by
          unfold PS.behind; rw [now_toP ht]
          have : isOpener t = false := by rw [opener_eq, hw, hw, hw, hw]; rfl
          rw [this, if_neg Bool.false_ne_true]
        have hb' : PS.behind inn ({ toP T i pl false false with out := (toP T i pl false false).out ++ [t] } : PS) = (true, toP (T.add t) i pl false false) := hb
        rw [hb']
        refine ⟨?_, fun _ => rfl⟩
        unfold PS.fin; rw [if_neg (show ¬ (toP (T.add t) i pl false false).bad ≠ 0 by show ¬ ((0 : Int) ≠ 0); simp)]
        rfl
    · rw [if_pos g2, if_neg g1]
      refine ⟨?_, fun h => by rw [g2] at h; cases h⟩
      unfold PS.fin; rw [if_pos (by rw [g3]; exact g1), g3, g4]
end

theorem all_agree {inn : List Tok} (hE : Ended inn) (k : Nat) : ∀ (S : RS) (i : Nat) (pl : Int) (f d bg : Bool) (m : Int), S.e = 0 → (0 < i → f = bg) → 0 ≤ m → m ≤ 1000000 - k → S.Br m → k ≤ 900000 →
    (PS.all inn k (toP S i pl f d)).fin = RS.all inn k i bg S := by
  induction k with
  | zero => intro S i pl f d bg m he _ _ _ _ _; exact fin_toP he
  | succ k ih =>
    intro S i pl f d bg m he hf hm0 hm hb hk
    unfold PS.all
    have ha : (toP S i pl f d).at_ = i := rfl
    rw [ha]
    by_cases hi : i < inn.length
    · rw [if_pos hi]
      by_cases h7 : (inn.getD i noTok).kind = 7
      · have hend := end_token (pl := pl) (f := f) (d := d) (bg := bg) rfl hi he h7 k
        rw [← hend.1]
        have hlast : i + 1 = inn.length := by
          have := hE.at_ hi
          by_cases h : i + 1 < inn.length
          · exact absurd h7 (this.2 h)
          · omega
        cases hr : (PS.token inn (toP S i pl f d)).1 with
        | false => rw [if_neg Bool.false_ne_true]; rfl
        | true =>
          rw [if_pos rfl]
          have hat := hend.2 hr
          have hst : ∀ Q : PS, Q.at_ = i + 1 → PS.all inn k Q = Q := by
            intro Q hQ
            cases k with
            | zero => rfl
            | succ k => unfold PS.all; rw [if_neg (by omega)]
          rw [hst _ (by show _ + 1 = _; rw [hat])]
          rfl
      · rcases token_agree (pl := pl) (d := d) rfl hi he h7 hf hm0 (by omega) hb k with ⟨S', i', f', d', h1, h2, h3, h4⟩ | ⟨h1, h2, h3⟩
        · rw [h1, if_pos rfl, h4]
          exact ih S' (i' + 1) pl f' d' f' (m + 1) h2 (fun _ => rfl) (by omega) (by omega) h3 (by omega)
        · rw [if_neg (by rw [h1]; simp), h3]
          unfold PS.fin
          rw [if_pos h2]
    · rw [if_neg hi, all_stop _ (fun hh => hi hh.1)]
      exact fin_toP he

/-- Both compute the same. -/
theorem blocks_same {inn : List Tok} (hE : Ended inn) (hlen : inn.length < 100000) : layBlocks inn = refBlocks inn := by
  unfold layBlocks refBlocks
  dsimp only
  generalize inn.getD 0 noTok = t0
  rcases begin_agree (S := RS0) (i := 0) (pl := 0) (f := false) (d := false) rfl ⟨false, t0.col, false, 0⟩ t0 false with ⟨e1, e2⟩ | ⟨e1, _⟩
  · have e2' : PS.begin_ ⟨false, t0.col, false, 0⟩ t0 (mkS []) ⟨[], 0, [], 0, 0, false, false⟩ = (true, toP ((RS0.put 4 t0 false).push ⟨false, t0.col, false, 0⟩ t0) 0 0 false false) := e2
    rw [e2', if_pos rfl]
    have hb : ((RS0.put 4 t0 false).push ⟨false, t0.col, false, 0⟩ t0).Br 0 := br_push (br_put (fun b hb => by cases hb) _ _ _) (Int.le_refl _) _ rfl _
    exact all_agree hE (inn.length + 1) _ 0 0 false false true 0 e1 (fun h => by omega) (Int.le_refl _) (by omega) hb (by omega)
  · exact absurd rfl e1
end Go.Proofs.Ytglkdhodpgnlgaa
