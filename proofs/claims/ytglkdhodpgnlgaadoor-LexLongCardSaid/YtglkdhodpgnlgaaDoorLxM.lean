/-
  The lexer of package lex: words: its map of the language's words. Condition: the library's table of blanks lies as it is laid.
-/
import Derived.Test.YtglkdhodpgnlgaaDoorLxA
import Derived.Maps.OwnOps
import Derived.Maps.Views
import Derived.WalkSmall
namespace Go
open Go.Maps (Keyed)
/-- An entry of a map's literal, at the operation. -/
theorem wpList_insert_own {H : Type} {P : Program} (w : World) {ops : Array Oper} {rest : List Oper} {o : Oper} {a : Act} {Q : Exit → Act → World → Prop}
    (hg : o.guard = none) (m x v : Operand) (t : TypeId) (hop : o.op = Op.insert t m x v)
    (k e : TypeId) (K : Keyed P k) (ht : P.underlying t = some (.map k e)) (R : Value → Option (DataW H × List MemPlace)) (b n : Nat) (D : DataW H)
    (hm : a.eval m = .map (some b)) (hown : w.ownsMap P k R b n D) (hn : n < maxLen) (key val : Value) (kl : Lit) (hx : a.eval x = key) (hv : a.eval v = val) (hkey : keyOf P k key = some kl)
    (d : DataW H) (ps : List MemPlace) (hval : R val = some (d, ps))
    (hK : ∀ w', w'.ownsMap P k R b (n + 1) (D.put kl d) → w.grownBy w' (some b) → wpList P ops Q rest (a.put o.dst undef) w') :
    wpList P ops Q (o :: rest) a w := by
  refine wpList_plain hg fun K' hK' => ?_
  obtain ⟨w', hrun, r1, r2⟩ := hown.update K ht hn hkey hval
  unfold Oper.wp
  simp [execOp, hop, hm, hx, hv, hrun, Result.andThen]
  exact hK' _ _ (hK w' r1 r2)
end Go
namespace Go.Proofs.YtglkdhodpgnlgaaDoor
open Go.RowKit Go.Tel Go.Maps

def words24 : List (List UInt8) := wordList.take 24
def wordVal (l : List UInt8) : Int := if words24.contains l then 1 else if l = [206, 187] then 3 else if l = [226, 134, 146] then 2 else 0
abbrev Dt := DataW Unit
def num (i : Int) : Dt := .lit (.int .i64 i)
def D0 : Dt := ((DataW.map []).put (.string [226, 134, 146]) (num 2)).put (.string [206, 187]) (num 3)
def Dk (k : Nat) : Dt := (words24.take k).foldl (fun D l => D.put (.string l) (num 1)) D0
theorem fold_map (L : List (List UInt8)) : ∀ D : Dt, IsMap D → IsMap (L.foldl (fun D l => D.put (.string l) (num 1)) D) := by
  induction L with
  | nil => intro D h; exact h
  | cons l L ih => intro D h; exact ih _ (h.put _ _)
theorem fold_at (L : List (List UInt8)) (l : List UInt8) (z : Dt) : ∀ D : Dt, IsMap D → (L.foldl (fun D l => D.put (.string l) (num 1)) D).atKey (.string l) z = if L.contains l then num 1 else D.atKey (.string l) z := by
  induction L with
  | nil => intro D _; rfl
  | cons x L ih =>
    intro D h
    rw [List.foldl_cons, ih _ (h.put _ _), List.contains_cons]
    by_cases hx : l = x
    · subst hx
      rw [atKey_put_same h (show WideAt.IsKeyLit (.string l) from trivial), show (l == l) = true from beq_iff_eq.2 rfl, Bool.true_or, if_pos rfl]
      split <;> rfl
    · rw [atKey_put_other (by intro e; injection e with e; exact hx e), show (l == x) = false from beq_eq_false_iff_ne.2 hx, Bool.false_or]
theorem D_at (l : List UInt8) : (Dk 24).atKey (.string l) (num 0) = num (wordVal l) := by
  unfold Dk
  have hD0 : IsMap D0 := (isMap_empty.put _ _).put _ _
  rw [show words24.take 24 = words24 from rfl, fold_at _ _ _ _ hD0]
  unfold wordVal D0
  by_cases h1 : words24.contains l = true
  · rw [if_pos h1, if_pos h1]
  · rw [if_neg h1, if_neg h1]
    by_cases h2 : l = [206, 187]
    · subst h2
      rw [if_pos rfl, atKey_put_same (isMap_empty.put _ _) (show WideAt.IsKeyLit (.string [206, 187]) from trivial)]
    · rw [if_neg h2, atKey_put_other (by intro e; injection e with e; exact h2 e)]
      by_cases h3 : l = [226, 134, 146]
      · subst h3
        rw [if_pos rfl, atKey_put_same isMap_empty (show WideAt.IsKeyLit (.string [226, 134, 146]) from trivial)]
      · rw [if_neg h3, atKey_put_other (by intro e; injection e with e; exact h3 e)]
        rfl

theorem keyLaw : Keyed Tryd.prog 9 := string_keyed Tryd.underlying9
theorem zeroE (w : World) : (zeroValue 3).run Tryd.prog w = .ok (.int .i64 0) w := by kernel_rfl
/-- The map of the words. -/
def WordsMap (b : Nat) (w : World) : Prop := w.ownsMap Tryd.prog 9 (plainElem (H := Unit) Tryd.prog 3) b 40 (Dk 24)
theorem WordsMap.keep {X : Nat → Prop} {b : Nat} {w w' : World} (h : WordsMap b w) (hk : Keep X w w') (hx : X b) : WordsMap b w' := by
  obtain ⟨es, clock, h1, h2⟩ := h
  exact ⟨es, clock, hk.blk h1 hx, h2⟩
theorem tab_same {n : String} {zs : List Int} {w w' : World} (h : Lib.TabIs Tryd.prog w n .u8 zs) (hk : Keep (fun _ => True) w w') : Lib.TabIs Tryd.prog w' n .u8 zs := by
  unfold Lib.TabIs World.var? at h ⊢
  cases hg : Tryd.prog.globalNamed n with
  | none => rw [hg] at h; cases h
  | some g =>
    simp only [hg, Option.bind_some] at h ⊢
    have hlt : g < w.heap.size := by
      rcases Nat.lt_or_ge g w.heap.size with h' | h'
      · exact h'
      · rw [Array.getElem?_eq_none h'] at h; cases h
    rw [hk.block g hlt trivial]; exact h

def wordsText : ByteArray := ⟨([109, 111, 100, 117, 108, 101, 32, 119, 104, 101, 114, 101, 32, 100, 97, 116, 97, 32, 108, 101, 116, 32, 105, 110, 32, 111, 112, 101, 110, 32, 117, 115, 105, 110, 103, 32, 104, 105, 100, 105, 110, 103, 32, 114, 101, 110, 97, 109, 105, 110, 103, 32, 116, 111, 32, 112, 114, 105, 118].append [97, 116, 101, 32, 112, 111, 115, 116, 117, 108, 97, 116, 101, 32, 105, 110, 102, 105, 120, 32, 105, 110, 102, 105, 120, 108, 32, 105, 110, 102, 105, 120, 114, 32, 83, 101, 116, 32, 102, 115, 116, 32, 115, 110, 100, 32, 58, 32, 61, 32, 45, 62, 32, 92, 32, 42, 42, 32, 95]).toArray⟩
theorem words_fields : Lib.fields wordsText.data.toList = words24 := by kernel_rfl
theorem words_ascii : ∀ (j : Nat) b, wordsText.data.toList[j]? = some b → b.toNat < 128 := by
  have h : wordsText.data.toList.all (fun b => decide (b.toNat < 128)) = true := by kernel_rfl
  intro j b hb
  have := List.all_eq_true.1 h b (List.mem_of_getElem? hb)
  exact of_decide_eq_true this
def fieldsObj : Obj := .cells (words24.map fun l => Value.string ⟨l.toArray⟩).toArray 9
theorem fields_call (w : World) (htab : Lib.TabIs Tryd.prog w "strings.asciiSpace" .u8 Lib.asciiSpaceTab) :
    Calls Tryd.prog 22 #[.string wordsText] w fun e w' => e = .returned (.slice (some ⟨w.heap.size, 0, none⟩) 24 24) ∧ w' = w.alloc fieldsObj := by
  refine (Tryd.strings_Fields_laid wordsText w (of_decide_eq_true (by kernel_rfl)) words_ascii htab).mono ?_
  rw [words_fields]
  exact fun _ _ h => h
theorem fields_cell {w : World} {b : Nat} (h : w.heap[b]? = some fieldsObj) (k : Nat) (l : List UInt8) (hk : words24[k]? = some l) : w.cell? ⟨b, k, none⟩ = some (.string ⟨l.toArray⟩) := by
  rw [blk_cell h k]
  simp [hk]
end Go.Proofs.YtglkdhodpgnlgaaDoor
