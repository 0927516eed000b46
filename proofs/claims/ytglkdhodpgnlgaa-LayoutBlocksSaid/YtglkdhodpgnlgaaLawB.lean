/-
  The law LayoutBlocks, walked. No condition.
-/
import Derived.Test.YtglkdhodpgnlgaaLawB0
import Derived.Test.YtglkdhodpgnlgaaLawF
import Derived.Test.YtglkdhodpgnlgaaRTokE
import Derived.Test.YtglkdhodpgnlgaaRbE2
import Derived.Test.YtglkdhodpgnlgaaRbM
namespace Go.Proofs.Ytglkdhodpgnlgaa
open Go.RowKit Go.Tel

theorem toks_cells (w : World) (g : Nat) (l : List Tok) (h : InRow w g l) : ∀ j u, (Toks l)[j]? = some u → w.cell? ((⟨g, 0, none⟩ : Addr).add j) = some u := by
  intro j u hu
  obtain ⟨cur, h1, h2, _⟩ := h
  have hj := (List.getElem?_eq_some_iff.1 hu).1
  rw [Toks_length] at hj
  have hadd : (⟨g, 0, none⟩ : Addr).add j = ⟨g, j, none⟩ := by unfold Addr.add; split <;> simp_all
  rw [hadd, blk_cell h1, ← hu, ← h2, List.getElem?_take, if_pos hj]
  simp

section
variable {ops : Array Oper} {rest : List Oper} {o : Oper} {a : Act} {w : World} {Q : Exit → Act → World → Prop}
/-- A row is appended to the empty slice. -/
theorem wpList_append_row (hgd : o.guard = none) (s x : Operand) (ho : o.op = .call { callee := .builtin .append, args := #[s, x], argTypes := #[23, 23] })
    (hs : a.eval s = .slice none 0 0) (g c : Nat) (l : List Tok) (hx : a.eval x = .slice (some ⟨g, 0, none⟩) l.length c) (hI : InRow w g l) (hn : l.length < 200000)
    (h : ∀ v' w', w'.ownsRow w.heap.size 27 5 v' l.length (Toks l) → w.grownBy w' none → wpList Try.prog ops Q rest (a.put o.dst v') w') : wpList Try.prog ops Q (o :: rest) a w := by
  obtain ⟨i0, hi, hz0, hz1, hz2⟩ := info_parts Try.infoTok
  refine wpList_append_own _ hgd s x 23 ho w.heap.size 27 i0 _ 5 48 Try.underlying23 hi hz0 hz1 hz2 rfl (by decide) (.slice none 0 0) 0 [] hs (World.ownsRow_nil _ _ _ _) ⟨g, 0, none⟩ l.length c (Toks l) hx (Toks_length l) (toks_cells w g l hI) ?_ ?_ ?_ (Nat.le_refl _) ?_
  · intro u hu
    obtain ⟨t, _, hu⟩ := List.mem_flatMap.1 hu
    simp [Tok.cells] at hu; rcases hu with rfl | rfl | rfl | rfl | rfl <;> rfl
  · unfold maxLen; omega
  · omega
  · intro v' w' hown' hg _
    refine h v' w' ?_ hg
    simpa using hown'
end

def lastTok : Tok := ⟨-71, ⟨#[]⟩, 0, 0, 0⟩
theorem in_of_own {w : World} {base g n cap : Nat} {l : List Tok} (h : w.ownsRow base 27 5 (.slice (some ⟨g, 0, none⟩) n cap) (l ++ [lastTok]).length (Toks (l ++ [lastTok]))) (hl : l.length < 100000) :
    InRow w g l ∧ w.cell? ⟨g, l.length * 5, none⟩ = some (.int .i64 (-71)) ∧ g < w.heap.size ∧ base ≤ g ∧ n = l.length + 1 ∧ l.length + 1 ≤ cap ∧ (cap : Int) ≤ 9223372036854775807 := by
  rcases h.2 with ⟨h0, _⟩ | ⟨g', cap', cur, hv, hb, hg, hn, hm, hs, ht⟩
  · cases h0
  · cases hv
    have hlen : (l ++ [lastTok]).length = l.length + 1 := by simp
    rw [hlen] at hn ht
    refine ⟨⟨cur, hg, ?_, hl⟩, ?_, blk_lt hg, hb, hlen, hn, by unfold maxLen at hm; omega⟩
    · rw [Toks_append] at ht
      have h1 : cur.toList.take (l.length * 5) = (cur.toList.take ((l.length + 1) * 5)).take (l.length * 5) := by rw [List.take_take]; congr 1; omega
      rw [h1, ht, ← Toks_length l, List.take_left]
    · have h2 := Toks_at (l ++ [lastTok]) l.length 0 lastTok (by simp) (by decide)
      rw [blk_cell hg]
      rw [← ht, List.getElem?_take, if_pos (by omega)] at h2
      simpa [lastTok, Tok.cells] using h2

theorem cell_keep {X : Nat → Prop} {w w' : World} (h : Keep X w w') {b : Nat} (hb : b < w.heap.size) (hx : X b) (i : Nat) : w'.cell? ⟨b, i, none⟩ = w.cell? ⟨b, i, none⟩ := by
  simp only [World.cell?]; rw [h.block b hb hx]
/-- A row of the call's own that may be written. -/
def RowLeft (w : World) (base : Nat) (v : Value) (n : Nat) : Prop := n = 0 ∨ ∃ g c cur, v = .slice (some ⟨g, 0, none⟩) n c ∧ base ≤ g ∧ w.heap[g]? = some (.cells cur 27 (0, 0)) ∧ n * 5 ≤ cur.size
theorem row_left {w : World} {base : Nat} {v : Value} {l : List Tok} (h : w.ownsRow base 27 5 v l.length (Toks l)) : RowLeft w base v l.length := by
  rcases h.2 with ⟨_, h0⟩ | ⟨g, c, cur, hv, hb, hg, hn, _, hs, _⟩
  · exact Or.inl h0
  · exact Or.inr ⟨g, c, cur, hv, hb, hg, by rw [hs]; exact Nat.mul_le_mul_right 5 hn⟩

set_option maxRecDepth 1000000 in
set_option maxHeartbeats 8000000 in
theorem blocks_in (s o : ByteArray) (hs : (s.size : Int) ≤ 20000) (ho : (o.size : Int) ≤ 20000) (he : (refTokens s.data.toList).2.2 = 0) (hf : (refTokens o.data.toList).2.2 = 0) (w : World) :
    Calls Try.prog 3 #[.string s, .string o] w fun e w' => e = .returned (.bool true) ∧ Keep (fun k => k < w.heap.size) w w' := by
  have HL := Lib.hid (fun w => alive_any w)
  have HTs := Lib.hid (fun w => rtokens_small s w (by omega))
  have HTo := Lib.hid (fun w => rtokens_small o w (by omega))
  obtain ⟨hEl, hll⟩ := refTokens_ended _ he
  obtain ⟨hEm, hlm⟩ := refTokens_ended _ hf
  unfold TokPost at HTs HTo
  rw [he] at HTs
  rw [hf] at HTo
  generalize (refTokens s.data.toList).2.1 = z1 at *
  generalize (refTokens o.data.toList).2.1 = z2 at *
  generalize (refTokens s.data.toList).1 = l at *
  generalize (refTokens o.data.toList).1 = m at *
  clear he hf
  have HB : Hid (∀ w1 g c, InRow w1 g l → g < w1.heap.size → l.length ≤ c → (c : Int) ≤ 9223372036854775807 → Calls Try.prog 8 #[.slice (some ⟨g, 0, none⟩) l.length c] w1 (BkPost w1 (layBlocks l))) :=
    fun w1 g c hI hg hc hm => blocks_any hI hg hc hm hEl
  have HBm : Hid (∀ w1 v base, w1.ownsRow base 27 5 v m.length (Toks m) → Calls Try.prog 8 #[v] w1 (BkPost w1 (layBlocks m))) := by
    intro w1 v base hr
    obtain ⟨g, c, rfl, _, hg, hI, hc, hm⟩ := row_in hr hEm.pos (by omega)
    exact blocks_any hI hg hc hm hEm
  have HRb : Hid (∀ w1 v base, w1.ownsRow base 27 5 v l.length (Toks l) → Calls Try.prog 10 #[v] w1 (BkPost w1 (layBlocks l))) := by
    intro w1 v base hr
    obtain ⟨g, c, rfl, _, hg, hI, hc, hm⟩ := row_in hr hEl.pos (by omega)
    rw [blocks_same hEl (by omega)]
    exact rblocks_any hI hg hc hm hEl
  unfold BkPost at HB HBm HRb
  have HNum := Lib.hid (fun n w => num_any n w)
  have hln : l.length < 200000 := by omega
  have hln2 : l.length < 100000 := by omega
  have hpl := hEl.pos
  generalize layBlocks l = A at *
  generalize layBlocks m = B at *
  obtain ⟨A1, A2, A3⟩ := A
  obtain ⟨B1, B2, B3⟩ := B
  dsimp only at HB HBm HRb
  clear hEl hEm hll hlm
  have HLn := Lib.hid hln; have HLn2 := Lib.hid hln2; have HPl := Lib.hid hpl
  have hlI : (l.length : Int) + 1 ≤ 9223372036854775807 := by omega
  clear hln hln2 hpl
  have q1 : decide ((20000 : Int) < (s.size : Int)) = false := decide_eq_false (by omega)
  have q2 : decide ((20000 : Int) < (o.size : Int)) = false := decide_eq_false (by omega)
  have q3 : ¬ 20000 < s.size := by omega
  have q4 : ¬ 20000 < o.size := by omega
  clear hs ho
  go_enter Try.func3, Try.ntmps3
  go_upto_region 8 with (first
    | (go_at_call 6; go_must (refine (HL.out _).mono ?_; rintro e w1 ⟨rfl, hk⟩; have HK1 := Lib.hid hk; clear hk))
    | (go_at_call 7; go_must (first
        | ((with_reducible refine (HTs.out _).mono ?_); rintro e w2 ⟨v6, rfl, hr, hk⟩; have HR6 := Lib.hid hr; have HK2 := Lib.hid hk; clear hr hk)
        | ((with_reducible refine (HTo.out _).mono ?_); rintro e w3 ⟨v9, rfl, hr, hk⟩; have HR9 := Lib.hid hr; have HK3 := Lib.hid hk; clear hr hk))))
  have HR6' := Lib.hid (own_keep HR6.out HK3.out (fun _ _ => trivial))
  obtain ⟨g6, c6, hv6, hb6, hg6, hI6, hc6, hm6⟩ := row_in HR6'.out HPl.out HLn2.out
  subst hv6
  have HI6 := Lib.hid hI6; have HG6 := Lib.hid hg6
  clear hI6 hb6 hc6 hm6 q1 q2 q3 q4 HL HTs HTo
  go_upto_region 9 with (at_builtin; go_must (first
    | (refine wpList_append_row rfl _ _ rfl rfl g6 c6 l rfl HI6.out HLn.out ?_; intro v4 w4 hown hgr; have HR4 := Lib.hid hown; have HG4 := Lib.hid hgr; clear hown hgr)
    | (refine wpList_append_tok rfl _ _ rfl w3.heap.size _ l rfl (HR4.out.alloc (TokObj (-71) ⟨#[]⟩ 0 0 0)) w4.heap.size lastTok rfl (blk_new w4 (TokObj (-71) ⟨#[]⟩ 0 0 0)) HLn.out (Nat.le_trans HG4.out.size (by rw [size_alloc']; exact Nat.le_succ _)) ?_; intro v5 w5 hown hgr; have HR5 := Lib.hid hown; have HG5 : Hid ((w4.alloc (TokObj (-71) ⟨#[]⟩ 0 0 0)).grownBy w5 v4.ownBlock) := hgr; clear hown hgr)))
  have HK4 : Hid (Keep (fun _ => True) w3 w4) := Keep.old ((Keep.refl (fun k => k < w3.heap.size) w3).grown HG4.out (fun k h => by cases h))
  have HK5 : Hid (Keep (fun _ => True) w3 w5) := Keep.old (((HK4.out.mono (Y := fun k => k < w3.heap.size) (fun _ _ _ => trivial)).alloc (TokObj (-71) ⟨#[]⟩ 0 0 0)).grown HG5.out (fun k h => Or.inl (own_ge HR4.out k h)))
  obtain ⟨h5, c5, hv5⟩ : ∃ h c, v5 = .slice (some ⟨h, 0, none⟩) (l ++ [lastTok]).length c := by
    rcases HR5.out.2 with ⟨_, h0⟩ | ⟨g, c, _, hv, _⟩
    · simp at h0
    · exact ⟨g, c, hv⟩
  have hll : (l ++ [lastTok]).length = l.length + 1 := by simp
  rw [hll] at hv5
  subst hv5
  obtain ⟨hI5, hcell, hlt5, hge5, _, hcap5, hmax5⟩ := in_of_own HR5.out HLn2.out
  have HI5 := Lib.hid hI5; have HC5 := Lib.hid hcell; have HL5 := Lib.hid hlt5
  have HB5 := Lib.hid (HB.out w5 h5 c5 hI5 hlt5 (by omega) hmax5)
  have HI6' := Lib.hid (HI6.out.keep HK5.out trivial)
  have HG6' : Hid (g6 < w5.heap.size) := Nat.lt_of_lt_of_le HG6.out HK5.out.size
  have hcapI : (l.length : Int) + 1 ≤ (c5 : Int) := by omega
  have hcapI2 : (l.length : Int) ≤ (c5 : Int) := by omega
  have hcapI3 : (c5 : Int) ≤ 9223372036854775807 := hmax5
  have hlx : (l.length : Int) < (l.length : Int) + 1 := by omega
  clear hI5 hcell hge5 hcap5 hmax5 hll HB HG4 HG5 HR4 HR5 hg6 hlt5
  go_upto_region 12 with (first
    | (go_at_call 8; go_must (first
        | ((with_reducible refine HB5.out.mono ?_); rintro e w6 ⟨v13, rfl, hr, hk⟩; have HR13 := Lib.hid hr; have HK6 := Lib.hid (Keep.old hk); have HS1 := Lib.hid (same_true (holds_in (c := c5) (HI5.out.keep (Keep.old hk) trivial) (Nat.lt_of_lt_of_le HL5.out hk.size)) (holds_in (c := c6) (HI6'.out.keep (Keep.old hk) trivial) (Nat.lt_of_lt_of_le HG6'.out hk.size))); clear hr hk)
        | ((with_reducible refine HBm7.out.mono ?_); rintro e w8 ⟨v17, rfl, hr, hk⟩; have HR17 := Lib.hid hr; have HK8 := Lib.hid (Keep.old hk); clear hr hk)))
    | (go_at_call 9; go_must (refine HS1.out.mono ?_; rintro e w7 ⟨rfl, hk⟩; have HK7 := Lib.hid hk; have hcell7 := (cell_keep (HK6.out.trans hk) HL5.out trivial (l.length * 5)).trans HC5.out; have hl7 : h5 < w7.heap.size := Nat.lt_of_lt_of_le HL5.out (HK6.out.trans hk).size; have HBm7 := Lib.hid (HBm.out w7 v9 _ (own_keep HR9.out (HK5.out.trans (HK6.out.trans hk)) (fun _ _ => trivial))); clear hk)))
  have HR6w := Lib.hid (own_keep HR6'.out (HK5.out.trans (HK6.out.trans HK7.out)) (fun _ _ => trivial))
  have HR13w := Lib.hid (own_keep HR13.out HK7.out (fun _ _ => trivial))
  have HKall := Lib.hid (HK1.out.trans (HK2.out.trans (HK3.out.trans (HK5.out.trans (HK6.out.trans HK7.out)))))
  have HRL := Lib.hid (row_left HR17.out)
  have HSm := Lib.hid (holds_own HR17.out).small
  obtain ⟨p17, c17, hv17⟩ := own_form HR17.out
  subst hv17
  clear hcell7 hl7 HBm7 HBm HB5 HS1 hcapI hcapI2 hcapI3 hlx HC5 HL5 HI5 HI6' HG6' HI6 HG6 HR6 HR9
  go_wp2_with (fail)
  go_loopg [20] B1.length (fun k v wl => ∃ i : Nat, v = .int .i64 i ∧ i + k = B1.length ∧ Keep (fun _ => True) w7 wl ∧ RowLeft wl w7.heap.size (.slice p17 B1.length c17) B1.length)
  case atStart => exact ⟨0, rfl, by omega, HK8.out, HRL.out⟩
  case round =>
    obtain ⟨i, rfl, hik, hk, hrl⟩ := hrel
    have HKl := Lib.hid hk
    have HRLw := Lib.hid hrl
    have hsm := HSm.out
    clear hk hrl
    rcases Nat.eq_zero_or_pos gk with rfl | hgk
    · obtain rfl : i = B1.length := by omega
      have HRb9 := Lib.hid (HRb.out wr _ _ (own_keep HR6w.out HKl.out (fun _ _ => trivial)))
      go_wp2_with (first
        | (go_at_call 10; go_must (refine HRb9.out.mono ?_; rintro e w9 ⟨v21, rfl, hr, hk⟩; have HR21 := Lib.hid hr; have HK9 := Lib.hid (Keep.old hk); have HS2 := Lib.hid (same_true (holds_own (own_keep HR13w.out (HKl.out.trans (Keep.old hk)) (fun _ _ => trivial))) (holds_own hr)); clear hr hk))
        | (go_at_call 11; go_must (refine (HNum.out _ _).mono ?_; rintro e w10 ⟨rfl, rfl⟩))
        | (go_at_call 9; go_must (refine HS2.out.mono ?_; rintro e w11 ⟨rfl, hk⟩; have HK11 := Lib.hid hk; clear hk)))
      go_ret
      exact ⟨rfl, (HKall.out.trans (HKl.out.trans (HK9.out.trans HK11.out))).mono (fun _ _ _ => trivial)⟩
    · obtain ⟨q, rfl⟩ : ∃ q, gk = q + 1 := ⟨gk - 1, by omega⟩
      have hi : i < B1.length := by omega
      have hiI : (i : Int) < (B1.length : Int) := by omega
      obtain ⟨g, c, cur, hv, hge, hgb, hsz⟩ : ∃ g c cur, Value.slice p17 B1.length c17 = .slice (some ⟨g, 0, none⟩) B1.length c ∧ w7.heap.size ≤ g ∧ wr.heap[g]? = some (.cells cur 27 (0, 0)) ∧ B1.length * 5 ≤ cur.size := by
        rcases HRLw.out with h0 | h
        · omega
        · exact h
      cases hv
      have hcw := blk_cell hgb
      have hfw := blk_free hgb
      have hlw := blk_lt hgb
      have hx : ∀ j, j < 5 → ∃ x, wr.cell? ⟨g, i * 5 + j, none⟩ = some x := fun j hj => ⟨_, (hcw _).trans (Array.getElem?_eq_getElem (by omega))⟩
      obtain ⟨x0, h0⟩ := hx 0 (by decide); obtain ⟨x1, h1⟩ := hx 1 (by decide); obtain ⟨x2, h2⟩ := hx 2 (by decide); obtain ⟨x3, h3⟩ := hx 3 (by decide); obtain ⟨x4, h4⟩ := hx 4 (by decide)
      simp only [Nat.add_zero] at h0
      have HGb := Lib.hid hgb; have HGe := Lib.hid hge; have HSz := Lib.hid hsz
      clear hx hcw hgb hge hsz
      go_wp2_with (fail)
      go_roundg q
      case measure => omega
      case rel =>
        refine ⟨i + 1, rfl, by omega, ((((HKl.out.set _ (Or.inl HGe.out) _).set _ (Or.inl HGe.out) _).set _ (Or.inl HGe.out) _).set _ (Or.inl HGe.out) _).set _ (Or.inl HGe.out) _, Or.inr ⟨g, c17, _, rfl, HGe.out, blk_set (blk_set (blk_set (blk_set (blk_set HGb.out _ _) _ _) _ _) _ _) _ _, ?_⟩⟩
        simp only [Array.size_setIfInBounds]; exact HSz.out

set_option maxRecDepth 1000000 in
set_option maxHeartbeats 8000000 in
theorem blocks_long1 (s o : ByteArray) (hs : (20000 : Int) < (s.size : Int)) (w : World) :
    Calls Try.prog 3 #[.string s, .string o] w fun e w' => e = .returned (.bool true) ∧ Keep (fun k => k < w.heap.size) w w' := by
  have HL := Lib.hid (fun w => alive_any w)
  have q1 : decide ((20000 : Int) < (s.size : Int)) = true := decide_eq_true hs
  have q3 : 20000 < s.size := by omega
  clear hs
  go_enter Try.func3, Try.ntmps3
  go_wp2_with (go_at_call 6; go_must (refine (HL.out _).mono ?_; rintro e w1 ⟨rfl, hk⟩; have HK1 := Lib.hid hk; clear hk))
  go_ret
  exact ⟨rfl, HK1.out.mono (fun _ _ _ => trivial)⟩
set_option maxRecDepth 1000000 in
set_option maxHeartbeats 8000000 in
theorem blocks_long2 (s o : ByteArray) (hs : (s.size : Int) ≤ 20000) (ho : (20000 : Int) < (o.size : Int)) (w : World) :
    Calls Try.prog 3 #[.string s, .string o] w fun e w' => e = .returned (.bool true) ∧ Keep (fun k => k < w.heap.size) w w' := by
  have HL := Lib.hid (fun w => alive_any w)
  have q1 : decide ((20000 : Int) < (s.size : Int)) = false := decide_eq_false (by omega)
  have q2 : decide ((20000 : Int) < (o.size : Int)) = true := decide_eq_true ho
  have q3 : ¬ 20000 < s.size := by omega
  have q4 : 20000 < o.size := by omega
  clear hs ho
  go_enter Try.func3, Try.ntmps3
  go_wp2_with (go_at_call 6; go_must (refine (HL.out _).mono ?_; rintro e w1 ⟨rfl, hk⟩; have HK1 := Lib.hid hk; clear hk))
  go_ret
  exact ⟨rfl, HK1.out.mono (fun _ _ _ => trivial)⟩
set_option maxRecDepth 1000000 in
set_option maxHeartbeats 8000000 in
theorem blocks_bad (s o : ByteArray) (hs : (s.size : Int) ≤ 20000) (ho : (o.size : Int) ≤ 20000) (hb : ¬ ((refTokens s.data.toList).2.2 = 0 ∧ (refTokens o.data.toList).2.2 = 0)) (w : World) :
    Calls Try.prog 3 #[.string s, .string o] w fun e w' => e = .returned (.bool true) ∧ Keep (fun k => k < w.heap.size) w w' := by
  have HL := Lib.hid (fun w => alive_any w)
  have HTs := Lib.hid (fun w => rtokens_small s w (by omega))
  have HTo := Lib.hid (fun w => rtokens_small o w (by omega))
  unfold TokPost at HTs HTo
  generalize refTokens s.data.toList = R1 at *
  generalize refTokens o.data.toList = R2 at *
  obtain ⟨l, z1, e1⟩ := R1
  obtain ⟨m, z2, e2⟩ := R2
  dsimp only at HTs HTo hb
  have q1 : decide ((20000 : Int) < (s.size : Int)) = false := decide_eq_false (by omega)
  have q2 : decide ((20000 : Int) < (o.size : Int)) = false := decide_eq_false (by omega)
  have q3 : ¬ 20000 < s.size := by omega
  have q4 : ¬ 20000 < o.size := by omega
  clear hs ho
  by_cases h1 : e1 = 0
  · have h2 : ¬ e2 = 0 := fun h => hb ⟨h1, h⟩
    have h1' : (e1 != 0) = false := by rw [h1]; rfl
    have h2' : (e2 != 0) = true := bne_iff_ne.2 h2
    clear h1 h2 hb
    go_enter Try.func3, Try.ntmps3
    go_wp2_with (first
      | (go_at_call 6; go_must (refine (HL.out _).mono ?_; rintro e w1 ⟨rfl, hk⟩; have HK1 := Lib.hid hk; clear hk))
      | (go_at_call 7; go_must (first
          | ((with_reducible refine (HTs.out _).mono ?_); rintro e w2 ⟨v6, rfl, hr, hk⟩; have HK2 := Lib.hid hk; clear hr hk)
          | ((with_reducible refine (HTo.out _).mono ?_); rintro e w3 ⟨v9, rfl, hr, hk⟩; have HK3 := Lib.hid hk; clear hr hk))))
    go_ret
    exact ⟨rfl, (HK1.out.trans (HK2.out.trans HK3.out)).mono (fun _ _ _ => trivial)⟩
  · have h1' : (e1 != 0) = true := bne_iff_ne.2 h1
    clear h1 hb
    go_enter Try.func3, Try.ntmps3
    go_wp2_with (first
      | (go_at_call 6; go_must (refine (HL.out _).mono ?_; rintro e w1 ⟨rfl, hk⟩; have HK1 := Lib.hid hk; clear hk))
      | (go_at_call 7; go_must (first
          | ((with_reducible refine (HTs.out _).mono ?_); rintro e w2 ⟨v6, rfl, hr, hk⟩; have HK2 := Lib.hid hk; clear hr hk)
          | ((with_reducible refine (HTo.out _).mono ?_); rintro e w3 ⟨v9, rfl, hr, hk⟩; have HK3 := Lib.hid hk; clear hr hk))))
    go_ret
    exact ⟨rfl, (HK1.out.trans (HK2.out.trans HK3.out)).mono (fun _ _ _ => trivial)⟩

/-- LayoutBlocks, whole. -/
theorem blocks_law (s o : ByteArray) (w : World) : Calls Try.prog 3 #[.string s, .string o] w fun e w' => e = .returned (.bool true) ∧ Keep (fun k => k < w.heap.size) w w' := by
  by_cases hs : (20000 : Int) < (s.size : Int)
  · exact blocks_long1 s o hs w
  · by_cases ho : (20000 : Int) < (o.size : Int)
    · exact blocks_long2 s o (by omega) ho w
    · by_cases hb : (refTokens s.data.toList).2.2 = 0 ∧ (refTokens o.data.toList).2.2 = 0
      · exact blocks_in s o (by omega) (by omega) hb.1 hb.2 w
      · exact blocks_bad s o (by omega) (by omega) hb w
end Go.Proofs.Ytglkdhodpgnlgaa
