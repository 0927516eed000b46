/-
  The reference's Tokens: the tokens of every text of at most 65536 bytes, or where and why there are none: it computes 'refTokens'. Condition: none but the text's own size as a string has it.
-/
import Derived.Test.YtglkdhodpgnlgaaDoorPass
import Derived.Test.YtglkdhodpgnlgaaDoorApp
import Derived.Test.YtglkdhodpgnlgaaDoorLexq
import Derived.Deep.DeepCutAuto
import Derived.Deep.LoopGhost
import Derived.Deep.CutBlock
namespace Go.Proofs.YtglkdhodpgnlgaaDoor
open Go.RowKit Go.Tel

def TS (s : ByteArray) (bx : Nat) (W : World) (v : Value) (out : List Tok) (x : Lx) (wr : World) : Prop :=
  x.ok s ∧ wr.heap[bx]? = some (LexBlk s x.at_ x.line x.col x.e) ∧ wr.ownsRow (bx + 1) 28 5 v out.length (Toks out) ∧ Keep (fun k => k < bx) W wr

theorem TS.pass {s : ByteArray} {bx : Nat} {W : World} {v : Value} {out : List Tok} {x : Lx} {wr w1 : World} (h : TS s bx W v out x wr)
    (hb : w1.heap[bx]? = some (LexBlk s x.pass.at_ x.pass.line x.pass.col x.pass.e)) (hk : Keep (fun b => b ≠ bx) wr w1) : TS s bx W v out x.pass w1 :=
  ⟨Lx.pass_ok h.1, hb, own_keep h.2.2.1 hk (fun k hk => by have := own_ge h.2.2.1 k hk; omega), h.2.2.2.trans (hk.mono (fun k _ hk => by omega))⟩

theorem enough_pos {x : Lx} {k : Nat} (h : Lx.enough k x) (he : x.e = 0) : ∃ m, k = m + 1 ∧ x.rest.length < m + 1 := by
  rcases h with h | h
  · exact absurd he h
  · exact ⟨k - 1, by omega, by omega⟩

theorem blank_end {x : Lx} (k : Nat) (h : x.rest = []) : Lx.blank k x = x := by
  cases k with
  | zero => rfl
  | succ k => unfold Lx.blank; rw [h]
theorem blank_sp {x : Lx} {k : Nat} {c : UInt8} {r : List UInt8} (hr : x.rest = c :: r) (he : x.e = 0) (hc : c.toNat = 32 ∨ c.toNat = 10) : Lx.blank (k + 1) x = Lx.blank k x.pass := by
  conv => lhs; unfold Lx.blank
  rw [hr]; simp only []; rw [if_neg (by omega), if_pos hc]
theorem blank_dash {x : Lx} {k : Nat} {c : UInt8} {r : List UInt8} (hr : x.rest = c :: r) (he : x.e = 0) (hc : c.toNat = 45) (hd : dash2 x.rest = true) : Lx.blank (k + 1) x = Lx.blank k (Lx.comment (x.rest.length + 1) x) := by
  conv => lhs; unfold Lx.blank
  rw [hr]; simp only []; rw [if_neg (by omega), if_neg (by omega), if_pos (by rw [← hr]; exact hd)]
theorem blank_no {x : Lx} (k : Nat) {c : UInt8} {r : List UInt8} (hr : x.rest = c :: r) (hc : ¬ (c.toNat = 32 ∨ c.toNat = 10)) (hd : dash2 x.rest = false) : Lx.blank k x = x := by
  cases k with
  | zero => rfl
  | succ k =>
    unfold Lx.blank
    rw [hr]; simp only []; rw [← hr, hd]
    split
    · rfl
    · rw [if_neg (by simp)]

theorem dash_yes {s : ByteArray} {x : Lx} (hok : x.ok s) (h1 : x.at_ < s.size) (h2 : x.at_ + 1 < s.size) (ha : s[x.at_].toNat = 45) (hb : s[x.at_ + 1].toNat = 45) : dash2 x.rest = true := by
  rw [hok.rest, drop_cons s _ h1, drop_cons s _ h2]; simp [dash2, ha, hb]
theorem dash_no1 {s : ByteArray} {x : Lx} (hok : x.ok s) (h1 : x.at_ < s.size) (h2 : ¬ x.at_ + 1 < s.size) : dash2 x.rest = false := by
  rw [hok.rest, drop_cons s _ h1, drop_end s _ (by omega)]; rfl
theorem dash_no2 {s : ByteArray} {x : Lx} (hok : x.ok s) (h1 : x.at_ < s.size) (ha : ¬ s[x.at_].toNat = 45) : dash2 x.rest = false := by
  rw [hok.rest, drop_cons s _ h1]
  generalize s.data.toList.drop (x.at_ + 1) = l
  cases l with
  | nil => rfl
  | cons d r => simp [dash2, ha]
theorem dash_no3 {s : ByteArray} {x : Lx} (hok : x.ok s) (h1 : x.at_ < s.size) (h2 : x.at_ + 1 < s.size) (hb : ¬ s[x.at_ + 1].toNat = 45) : dash2 x.rest = false := by
  rw [hok.rest, drop_cons s _ h1, drop_cons s _ h2]; simp [dash2, hb]
theorem rest_cons {s : ByteArray} {x : Lx} (hok : x.ok s) (h1 : x.at_ < s.size) : x.rest = s[x.at_] :: s.data.toList.drop (x.at_ + 1) := by rw [hok.rest, drop_cons s _ h1]
theorem rest_nil {s : ByteArray} {x : Lx} (hok : x.ok s) (h1 : ¬ x.at_ < s.size) : x.rest = [] := by rw [hok.rest, drop_end s _ (by omega)]

theorem comment_end {x : Lx} (k : Nat) (h : x.rest = []) : Lx.comment k x = x := by
  cases k with
  | zero => rfl
  | succ k => unfold Lx.comment; rw [h]
theorem comment_stop {x : Lx} (k : Nat) {c : UInt8} {r : List UInt8} (hr : x.rest = c :: r) (hc : c.toNat = 10) : Lx.comment k x = x := by
  cases k with
  | zero => rfl
  | succ k => unfold Lx.comment; rw [hr]; simp only []; rw [if_pos (Or.inl hc)]
theorem comment_go {x : Lx} {k : Nat} {c : UInt8} {r : List UInt8} (hr : x.rest = c :: r) (he : x.e = 0) (hc : ¬ c.toNat = 10) : Lx.comment (k + 1) x = Lx.comment k x.pass := by
  conv => lhs; unfold Lx.comment
  rw [hr]; simp only []; rw [if_neg (by omega)]

theorem rtoks_err {k : Nat} {x0 X : Lx} {out : List Tok} (hX : Lx.blank (x0.rest.length + 1) x0 = X) (he : X.e ≠ 0) : rtoks (k + 1) x0 out = ([], (X.at_ : Int), (X.e : Int)) := by
  rw [rtoks]; simp only [hX]; rw [if_pos he]
theorem rtoks_end {k : Nat} {x0 X : Lx} {out : List Tok} (hX : Lx.blank (x0.rest.length + 1) x0 = X) (he : X.e = 0) (hr : X.rest = []) :
    rtoks (k + 1) x0 out = if 20000 ≤ out.length then ([], (X.at_ : Int), 2) else (out ++ [⟨7, mkS [], X.at_, X.line, X.col⟩], 0, 0) := by
  rw [rtoks]; simp only [hX]; rw [if_neg (by omega), hr]
def nextOf (X : Lx) (c : UInt8) : Lx := if isDelim c = true then X.pass else Lx.run (X.rest.length + 1) X
def kindAt (X Y : Lx) (c : UInt8) : Int × List UInt8 × Int := if isDelim c = true then (2, X.rest.take (Y.at_ - X.at_), 0) else kindOf (X.rest.take (Y.at_ - X.at_))
theorem rtoks_tok {k : Nat} {x0 X : Lx} {out : List Tok} {c : UInt8} {r : List UInt8} (hX : Lx.blank (x0.rest.length + 1) x0 = X) (he : X.e = 0) (hr : X.rest = c :: r) :
    rtoks (k + 1) x0 out = if (nextOf X c).e ≠ 0 then ([], ((nextOf X c).at_ : Int), ((nextOf X c).e : Int)) else if (kindAt X (nextOf X c) c).2.2 ≠ 0 then ([], (X.at_ : Int), (kindAt X (nextOf X c) c).2.2)
      else if 20000 ≤ out.length then ([], (X.at_ : Int), 2) else rtoks k (nextOf X c) (out ++ [⟨(kindAt X (nextOf X c) c).1, mkS (kindAt X (nextOf X c) c).2.1, X.at_, X.line, X.col⟩]) := by
  rw [rtoks]; simp only [hX]; rw [if_neg (by omega), hr]; simp only []; rw [← hr]; rfl

def TokPost (l : List UInt8) (W : World) (e : Ending) (w' : World) : Prop :=
  ∃ v, e = .returned (.tuple #[v, .int .i64 (refTokens l).2.1, .int .i64 (refTokens l).2.2]) ∧ w'.ownsRow W.heap.size 28 5 v (refTokens l).1.length (Toks (refTokens l).1) ∧ Keep (fun _ => True) W w'

theorem tok_err {l : List UInt8} {W w' : World} {a b : Int} (h : refTokens l = ([], a, b)) (hk : Keep (fun k => k < W.heap.size) W w') :
    TokPost l W (.returned (.tuple #[.slice none 0 0, .int .i64 a, .int .i64 b])) w' := by
  refine ⟨.slice none 0 0, ?_, ?_, hk.mono (fun k h _ => h)⟩
  · rw [h]
  · rw [h]; exact World.ownsRow_nil _ _ _ _

theorem tok_ok {l : List UInt8} {W w' : World} {v : Value} {out : List Tok} (h : refTokens l = (out, 0, 0)) (hown : w'.ownsRow (W.heap.size + 1) 28 5 v out.length (Toks out)) (hk : Keep (fun k => k < W.heap.size) W w') :
    TokPost l W (.returned (.tuple #[v, .int .i64 0, .int .i64 0])) w' := by
  refine ⟨v, ?_, ?_, hk.mono (fun k h _ => h)⟩
  · rw [h]
  · rw [h]; exact own_mono hown (Nat.le_succ _)

theorem TS.drewN {s : ByteArray} {bx : Nat} {W : World} {v : Value} {out : List Tok} {x : Lx} {wr : World} (h : TS s bx W v out x wr) (n : Nat) : TS s bx W v out x (wr.drewN n) :=
  ⟨h.1, h.2.1, h.2.2.1, h.2.2.2.drewN n⟩
theorem TS.drew {s : ByteArray} {bx : Nat} {W : World} {v : Value} {out : List Tok} {x : Lx} {wr : World} (h : TS s bx W v out x wr) : TS s bx W v out x wr.drew :=
  ⟨h.1, h.2.1, h.2.2.1, h.2.2.2.drew⟩
theorem TS.alloc {s : ByteArray} {bx : Nat} {W : World} {v : Value} {out : List Tok} {x : Lx} {wr : World} (h : TS s bx W v out x wr) (o : Obj) : TS s bx W v out x (wr.alloc o) :=
  ⟨h.1, blk_alloc h.2.1 o, h.2.2.1.alloc o, h.2.2.2.alloc o⟩

theorem TS.grown {s : ByteArray} {bx : Nat} {W : World} {v v' : Value} {out : List Tok} {t : Tok} {x : Lx} {wr w' : World} (h : TS s bx W v out x wr) (hg : wr.grownBy w' v.ownBlock)
    (hown : w'.ownsRow (bx + 1) 28 5 v' (out ++ [t]).length (Toks (out ++ [t]))) : TS s bx W v' (out ++ [t]) x w' :=
  ⟨h.1, grown_old hg h.2.1 (fun e => by have := own_ge h.2.2.1 _ e; omega), hown, h.2.2.2.grown hg (fun k hk => Or.inr (by have := own_ge h.2.2.1 k hk; omega))⟩
theorem TS.keep {s : ByteArray} {bx bt : Nat} {W : World} {v : Value} {out : List Tok} {x : Lx} {wr w' : World} (h : TS s bx W v out x wr) (hk : Keep (fun b => b ≠ bt) wr w') (hbt : bx < bt) (hv : v.ownBlock ≠ some bt) : TS s bx W v out x w' :=
  ⟨h.1, hk.blk h.2.1 (by omega), own_keep h.2.2.1 hk (fun k hk e => hv (by rw [hk, e])), h.2.2.2.trans (hk.mono (fun k _ hk => by omega))⟩
theorem TS.set {s : ByteArray} {bx bt : Nat} {W : World} {v : Value} {out : List Tok} {x : Lx} {wr : World} (h : TS s bx W v out x wr) (i : Nat) (u : Value) (hbt : bx < bt) (hv : v.ownBlock ≠ some bt) : TS s bx W v out x (wr.setCell ⟨bt, i, none⟩ u) :=
  h.keep (Keep.own (Keep.refl _ _) i u) hbt hv

theorem text_eq {s : ByteArray} {X Y : Lx} (hX : X.ok s) : (s.extract X.at_ Y.at_).data.toList = X.rest.take (Y.at_ - X.at_) := by
  rw [hX.rest]; simp [List.take_drop]

theorem at_le {s : ByteArray} {X Y : Lx} (hX : X.ok s) (hY : Y.ok s) (hl : Y.rest.length ≤ X.rest.length) : X.at_ ≤ Y.at_ := by
  have := Lx.rest_len hX; have := Lx.rest_len hY; have := hX.at_; have := hY.at_; omega
theorem nextOf_ok {s : ByteArray} {X : Lx} (hX : X.ok s) (c : UInt8) : (nextOf X c).ok s := by unfold nextOf; split; exact Lx.pass_ok hX; exact Lx.run_ok _ _ hX
theorem nextOf_le (X : Lx) (c : UInt8) : (nextOf X c).rest.length ≤ X.rest.length := by unfold nextOf; split; exact Lx.pass_le X; exact Lx.run_le _ _
theorem kindOf_ne7 (l : List UInt8) : (kindOf l).1 ≠ 7 := by unfold kindOf; split; (show (2 : Int) ≠ 7; decide); split; (show (3 : Int) ≠ 7; decide); (show (1 : Int) ≠ 7; decide)
theorem kindAt_ne7 (X Y : Lx) (c : UInt8) : (kindAt X Y c).1 ≠ 7 := by unfold kindAt; split; (show (2 : Int) ≠ 7; decide); exact kindOf_ne7 _

theorem kind_both (s : ByteArray) (X Y : Lx) (c : UInt8) (bt : Nat) (w : World) (hs : (s.size : Int) ≤ 100000) (hX : X.ok s)
    (hb : w.heap[bt]? = some (TokObj (if isDelim c = true then 2 else 7) (s.extract X.at_ Y.at_) X.at_ X.line X.col)) :
    Calls Tryd.prog 21 #[.pointer (some ⟨bt, 0, none⟩), .string (s.extract X.at_ Y.at_)] w (KindPost bt (.int .i64 X.at_) (.int .i64 X.line) (.int .i64 X.col) (kindAt X Y c).1 (mkS (kindAt X Y c).2.1) (kindAt X Y c).2.2 w) := by
  have ht := text_eq (Y := Y) hX
  have hS : s.extract X.at_ Y.at_ = mkS (X.rest.take (Y.at_ - X.at_)) := by rw [← ht]; cases (s.extract X.at_ Y.at_); rfl
  have hz : ((s.extract X.at_ Y.at_).size : Int) ≤ 100000 := by rw [ByteArray.size_extract]; omega
  unfold kindAt
  by_cases hd : isDelim c = true
  · rw [if_pos hd] at hb ⊢
    simp only []
    rw [← hS]
    exact kind_two _ _ _ _ _ _ w hb
  · rw [if_neg hd] at hb ⊢
    rw [← ht]
    exact kind_any _ _ 7 _ _ _ w hz rfl hb

theorem run_end {x : Lx} (k : Nat) (h : x.rest = []) : Lx.run k x = x := by
  cases k with
  | zero => rfl
  | succ k => unfold Lx.run; rw [h]
theorem run_stop {x : Lx} (k : Nat) {c : UInt8} {r : List UInt8} (hr : x.rest = c :: r) (hc : c.toNat = 32 ∨ c.toNat = 10 ∨ isDelim c = true) : Lx.run k x = x := by
  cases k with
  | zero => rfl
  | succ k => unfold Lx.run; rw [hr]; simp only []; rw [if_pos (by rcases hc with h | h | h; exact Or.inl h; exact Or.inr (Or.inl h); exact Or.inr (Or.inr (Or.inl h)))]
theorem run_go {x : Lx} {k : Nat} {c : UInt8} {r : List UInt8} (hr : x.rest = c :: r) (he : x.e = 0) (h32 : ¬ c.toNat = 32) (h10 : ¬ c.toNat = 10) (hd : isDelim c = false) : Lx.run (k + 1) x = Lx.run k x.pass := by
  conv => lhs; unfold Lx.run
  rw [hr]; simp only []; rw [if_neg (by rw [hd]; rintro (h | h | h | h); exact h32 h; exact h10 h; cases h; exact h he)]


/-- The innermost loop that holds a region. -/
def hasRegion (n : Nat) : Code → Bool
  | .region id _ _ => id == n
  | .seq a b => hasRegion n a || hasRegion n b
  | .cond _ a b => hasRegion n a || hasRegion n b
  | .block _ c => hasRegion n c
  | .loop c => hasRegion n c
  | .scope c => hasRegion n c
  | _ => false
def loopOf (n : Nat) : Code → Option Code
  | .seq a b => match loopOf n a with
    | some c => some c
    | none => loopOf n b
  | .cond _ a b => match loopOf n a with
    | some c => some c
    | none => loopOf n b
  | .block _ c => loopOf n c
  | .scope c => loopOf n c
  | .loop c => match loopOf n c with
    | some d => some d
    | none => if hasRegion n c then some c else none
  | _ => none
noncomputable def loop7 (n : Nat) : Code := (Tryd.f10.body.bind (loopOf n)).getD .skip

end Go.Proofs.YtglkdhodpgnlgaaDoor
