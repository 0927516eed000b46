/-
  The lexer of package lex: rune: the next rune, or what is wrong with it. Condition: the scanner's block is known whole, its place lies in the text; Go's decoder's tables lie as they are laid.
-/
import Derived.Test.YtglkdhodpgnlgaaDoorLxB
namespace Go.Proofs.YtglkdhodpgnlgaaDoor
open Go.RowKit Go.Tel

theorem keep_of {w w' : World} (h : Below w.heap.size w w') : Keep (fun _ => True) w w' := by
  obtain ⟨h1, h2, h3, h4, h5⟩ := h
  exact ⟨h1, h2, h3, h4, fun k hk _ => h5 k hk⟩
theorem cellk {X : Nat → Prop} {w w' : World} (h : Keep X w w') {b i : Nat} {v : Value} (hx : X b) (hc : w.cell? ⟨b, i, none⟩ = some v) : w'.cell? ⟨b, i, none⟩ = some v := by
  have hb : b < w.heap.size := by
    rcases Nat.lt_or_ge b w.heap.size with h' | h'
    · exact h'
    · simp [World.cell?, Array.getElem?_eq_none h'] at hc
  rw [← hc]
  simp only [World.cell?]; rw [h.block b hb hx]
theorem tabs_keep {X : Nat → Prop} {w w' : World} (h : Lib.Utf8Tabs 2 3 w) (hk : Keep X w w') (h2 : X 2) (h3 : X 3) : Lib.Utf8Tabs 2 3 w' :=
  ⟨fun c hc => cellk hk h2 (h.1 c hc), fun i hi => ⟨cellk hk h3 (h.2 i hi).1, cellk hk h3 (h.2 i hi).2⟩⟩

/-- The decoder, at a text from a place on. -/
theorem dec_any (s : ByteArray) (a : Nat) (c n : Nat) (ha : a < s.size) (hcn : decL (s.data.toList.drop a) = (c, n)) (w : World) (hT : Lib.Utf8Tabs 2 3 w) :
    Calls Tryd.prog 41 #[.string (s.extract a s.size)] w fun e w' => e = .returned (.tuple #[.int .i32 c, .int .i64 n]) ∧ Keep (fun _ => True) w w' := by
  refine (Tryd.utf8_DecodeRuneInString _ w hT).mono ?_
  rw [decGo_ext s a ha, hcn]
  exact fun _ _ h => ⟨h.1, keep_of h.2⟩

section
variable {w : World} {bp : Nat} {s : ByteArray} {mv vo : Value} {a l c : Nat} {pl : Int}
set_option maxRecDepth 100000 in
set_option maxHeartbeats 2000000 in
theorem rune_end (hb : w.heap[bp]? = some (SObj s mv vo a l c 0 pl)) (ha : (s.size : Int) ≤ (a : Int)) :
    Calls Tryd.prog 27 #[.pointer (some ⟨bp, 0, none⟩)] w (SPost bp (.tuple #[.int .i32 0, .int .i64 0, .bool false]) (SObj s mv vo a l c 0 pl) w) := by
  have hcell := blk_cell hb
  have hf := blk_free hb
  have hlt := blk_lt hb
  have HB := Lib.hid hb; clear hb
  go_enter Tryd.func27, Tryd.ntmps27
  go_wp2_with (fail)
  go_quiet (fail)
  go_wp2_with (fail)
  go_ret3
  exact s_close HB.out ((Keep.refl _ _).drewN _)

set_option maxRecDepth 100000 in
set_option maxHeartbeats 4000000 in
theorem rune_bad (hb : w.heap[bp]? = some (SObj s mv vo a l c 0 pl)) (ha : a < s.size) (hT : Lib.Utf8Tabs 2 3 w) (hd : decL (s.data.toList.drop a) = (65533, 1)) :
    Calls Tryd.prog 27 #[.pointer (some ⟨bp, 0, none⟩)] w (SPost bp (.tuple #[.int .i32 0, .int .i64 0, .bool false]) (SObj s mv vo a l c 40 a) w) := by
  have hcell := blk_cell hb
  have hf := blk_free hb
  have hlt := blk_lt hb
  have ha' : (a : Int) < (s.size : Int) := by omega
  have HB := Lib.hid hb; clear hb
  have HD := Lib.hid (fun n => dec_any s a 65533 1 ha hd (w.drewN n) hT)
  clear hd hT
  go_enter Tryd.func27, Tryd.ntmps27
  go_wp2_with (fail)
  go_quiet (fail)
  go_wp2_with (fail)
  go_region_with (go_at_call 41; refine (HD.out _).mono ?_; rintro e w1 ⟨rfl, hk⟩; have HK := Lib.hid hk; clear hk)
  all_goals
    have hb1 : w1.heap[bp]? = some (SObj s mv vo a l c 0 pl) := HK.out.blk HB.out trivial
    have hcell1 := blk_cell hb1
    have hlt1 := blk_lt hb1
    have HF := Lib.hid (sfail_any hb1 (a : Int) 40)
    clear hb1
    go_wp2_with (go_at_call 34; go_must (refine HF.out.mono ?_; rintro e w2 ⟨rfl, hb, hk⟩; have HB2 := Lib.hid hb; have HK2 := Lib.hid hk; clear hb hk))
    go_ret3
    exact s_close HB2.out (((((Keep.refl (fun _ => True) w).drewN _).trans HK.out).mono (fun _ _ _ => trivial)).trans HK2.out)

set_option maxRecDepth 100000 in
set_option maxHeartbeats 4000000 in
theorem rune_low (hb : w.heap[bp]? = some (SObj s mv vo a l c 0 pl)) (ha : a < s.size) (hT : Lib.Utf8Tabs 2 3 w) {r k : Nat} (hd : decL (s.data.toList.drop a) = (r, k)) (h1 : r < 32) (h2 : r ≠ 10) :
    Calls Tryd.prog 27 #[.pointer (some ⟨bp, 0, none⟩)] w (SPost bp (.tuple #[.int .i32 0, .int .i64 0, .bool false]) (SObj s mv vo a l c 41 a) w) := by
  have hcell := blk_cell hb
  have hf := blk_free hb
  have hlt := blk_lt hb
  have ha' : (a : Int) < (s.size : Int) := by omega
  have HB := Lib.hid hb; clear hb
  have HD := Lib.hid (fun n => dec_any s a r k ha hd (w.drewN n) hT)
  have f1 : ((r : Int) == 65533) = false := beq_eq_false_iff_ne.2 (by omega)
  have f2 : (r : Int) < 32 := by omega
  have f3 : ((r : Int) != 10) = true := by rw [bne_iff_ne]; omega
  clear h1 h2
  clear hd hT
  go_enter Tryd.func27, Tryd.ntmps27
  go_wp2_with (fail)
  go_quiet (fail)
  go_wp2_with (fail)
  go_region_with (go_at_call 41; refine (HD.out _).mono ?_; rintro e w1 ⟨rfl, hk⟩; have HK := Lib.hid hk; clear hk)
  all_goals
    have hb1 : w1.heap[bp]? = some (SObj s mv vo a l c 0 pl) := HK.out.blk HB.out trivial
    have hcell1 := blk_cell hb1
    have hlt1 := blk_lt hb1
    have HF := Lib.hid (sfail_any hb1 (a : Int) 41)
    clear hb1
    go_wp2_with (go_at_call 34; go_must (refine HF.out.mono ?_; rintro e w2 ⟨rfl, hb, hk⟩; have HB2 := Lib.hid hb; have HK2 := Lib.hid hk; clear hb hk))
    go_ret3
    exact s_close HB2.out (((((Keep.refl (fun _ => True) w).drewN _).trans HK.out).mono (fun _ _ _ => trivial)).trans HK2.out)

set_option maxRecDepth 100000 in
set_option maxHeartbeats 4000000 in
theorem rune_del (hb : w.heap[bp]? = some (SObj s mv vo a l c 0 pl)) (ha : a < s.size) (hT : Lib.Utf8Tabs 2 3 w) {r k : Nat} (hd : decL (s.data.toList.drop a) = (r, k)) (h1 : r = 127) :
    Calls Tryd.prog 27 #[.pointer (some ⟨bp, 0, none⟩)] w (SPost bp (.tuple #[.int .i32 0, .int .i64 0, .bool false]) (SObj s mv vo a l c 41 a) w) := by
  have hcell := blk_cell hb
  have hf := blk_free hb
  have hlt := blk_lt hb
  have ha' : (a : Int) < (s.size : Int) := by omega
  have HB := Lib.hid hb; clear hb
  have HD := Lib.hid (fun n => dec_any s a r k ha hd (w.drewN n) hT)
  have f1 : ((r : Int) == 65533) = false := beq_eq_false_iff_ne.2 (by omega)
  have f2 : ¬ (r : Int) < 32 := by omega
  have f4 : ((r : Int) == 127) = true := beq_iff_eq.2 (by omega)
  clear h1
  clear hd hT
  go_enter Tryd.func27, Tryd.ntmps27
  go_wp2_with (fail)
  go_quiet (fail)
  go_wp2_with (fail)
  go_region_with (go_at_call 41; refine (HD.out _).mono ?_; rintro e w1 ⟨rfl, hk⟩; have HK := Lib.hid hk; clear hk)
  all_goals
    have hb1 : w1.heap[bp]? = some (SObj s mv vo a l c 0 pl) := HK.out.blk HB.out trivial
    have hcell1 := blk_cell hb1
    have hlt1 := blk_lt hb1
    have HF := Lib.hid (sfail_any hb1 (a : Int) 41)
    clear hb1
    go_wp2_with (go_at_call 34; go_must (refine HF.out.mono ?_; rintro e w2 ⟨rfl, hb, hk⟩; have HB2 := Lib.hid hb; have HK2 := Lib.hid hk; clear hb hk))
    go_ret3
    exact s_close HB2.out (((((Keep.refl (fun _ => True) w).drewN _).trans HK.out).mono (fun _ _ _ => trivial)).trans HK2.out)

set_option maxRecDepth 100000 in
set_option maxHeartbeats 4000000 in
theorem rune_nl (hb : w.heap[bp]? = some (SObj s mv vo a l c 0 pl)) (ha : a < s.size) (hT : Lib.Utf8Tabs 2 3 w) {r k : Nat} (hd : decL (s.data.toList.drop a) = (r, k)) (h1 : r = 10) :
    Calls Tryd.prog 27 #[.pointer (some ⟨bp, 0, none⟩)] w (SPost bp (.tuple #[.int .i32 r, .int .i64 k, .bool true]) (SObj s mv vo a l c 0 pl) w) := by
  have hcell := blk_cell hb
  have hf := blk_free hb
  have hlt := blk_lt hb
  have ha' : (a : Int) < (s.size : Int) := by omega
  have HB := Lib.hid hb; clear hb
  have HD := Lib.hid (fun n => dec_any s a r k ha hd (w.drewN n) hT)
  have f1 : ((r : Int) == 65533) = false := beq_eq_false_iff_ne.2 (by omega)
  have f3 : ((r : Int) != 10) = false := by rw [h1]; rfl
  have f4 : ((r : Int) == 127) = false := beq_eq_false_iff_ne.2 (by omega)
  have f5 : (r : Int) < 32 := by omega
  clear h1
  clear hd hT
  go_enter Tryd.func27, Tryd.ntmps27
  go_wp2_with (fail)
  go_quiet (fail)
  go_wp2_with (fail)
  go_region_with (go_at_call 41; refine (HD.out _).mono ?_; rintro e w1 ⟨rfl, hk⟩; have HK := Lib.hid hk; clear hk)
  all_goals
    have hb1 : w1.heap[bp]? = some (SObj s mv vo a l c 0 pl) := HK.out.blk HB.out trivial
    have hcell1 := blk_cell hb1
    have hlt1 := blk_lt hb1
    clear hb1
    go_wp2_with (fail)
    go_ret3
    exact s_close (HK.out.blk HB.out trivial) ((((Keep.refl (fun _ => True) w).drewN _).trans HK.out).mono (fun _ _ _ => trivial))

set_option maxRecDepth 100000 in
set_option maxHeartbeats 4000000 in
theorem rune_go (hb : w.heap[bp]? = some (SObj s mv vo a l c 0 pl)) (ha : a < s.size) (hT : Lib.Utf8Tabs 2 3 w) {r k : Nat} (hd : decL (s.data.toList.drop a) = (r, k)) (h1 : 32 ≤ r) (h2 : r ≠ 127) (h3 : r ≠ 65533) :
    Calls Tryd.prog 27 #[.pointer (some ⟨bp, 0, none⟩)] w (SPost bp (.tuple #[.int .i32 r, .int .i64 k, .bool true]) (SObj s mv vo a l c 0 pl) w) := by
  have hcell := blk_cell hb
  have hf := blk_free hb
  have hlt := blk_lt hb
  have ha' : (a : Int) < (s.size : Int) := by omega
  have HB := Lib.hid hb; clear hb
  have HD := Lib.hid (fun n => dec_any s a r k ha hd (w.drewN n) hT)
  have f1 : ((r : Int) == 65533) = false := beq_eq_false_iff_ne.2 (by omega)
  have f4 : ((r : Int) == 127) = false := beq_eq_false_iff_ne.2 (by omega)
  have f5 : ¬ (r : Int) < 32 := by omega
  clear h1 h2 h3
  clear hd hT
  go_enter Tryd.func27, Tryd.ntmps27
  go_wp2_with (fail)
  go_quiet (fail)
  go_wp2_with (fail)
  go_region_with (go_at_call 41; refine (HD.out _).mono ?_; rintro e w1 ⟨rfl, hk⟩; have HK := Lib.hid hk; clear hk)
  all_goals
    have hb1 : w1.heap[bp]? = some (SObj s mv vo a l c 0 pl) := HK.out.blk HB.out trivial
    have hcell1 := blk_cell hb1
    have hlt1 := blk_lt hb1
    clear hb1
    go_wp2_with (fail)
    go_ret3
    exact s_close (HK.out.blk HB.out trivial) ((((Keep.refl (fun _ => True) w).drewN _).trans HK.out).mono (fun _ _ _ => trivial))

set_option maxRecDepth 100000 in
set_option maxHeartbeats 4000000 in
theorem rune_err (hb : w.heap[bp]? = some (SObj s mv vo a l c 0 pl)) (ha : a < s.size) (hT : Lib.Utf8Tabs 2 3 w) {r k : Nat} (hd : decL (s.data.toList.drop a) = (r, k)) (h1 : r = 65533) (h2 : 1 < k) :
    Calls Tryd.prog 27 #[.pointer (some ⟨bp, 0, none⟩)] w (SPost bp (.tuple #[.int .i32 r, .int .i64 k, .bool true]) (SObj s mv vo a l c 0 pl) w) := by
  have hcell := blk_cell hb
  have hf := blk_free hb
  have hlt := blk_lt hb
  have ha' : (a : Int) < (s.size : Int) := by omega
  have HB := Lib.hid hb; clear hb
  have HD := Lib.hid (fun n => dec_any s a r k ha hd (w.drewN n) hT)
  have f1 : ((r : Int) == 65533) = true := beq_iff_eq.2 (by omega)
  have f6 : ¬ (k : Int) ≤ 1 := by omega
  have f4 : ((r : Int) == 127) = false := beq_eq_false_iff_ne.2 (by omega)
  have f5 : ¬ (r : Int) < 32 := by omega
  clear h1 h2
  clear hd hT
  go_enter Tryd.func27, Tryd.ntmps27
  go_wp2_with (fail)
  go_quiet (fail)
  go_wp2_with (fail)
  go_region_with (go_at_call 41; refine (HD.out _).mono ?_; rintro e w1 ⟨rfl, hk⟩; have HK := Lib.hid hk; clear hk)
  all_goals
    have hb1 : w1.heap[bp]? = some (SObj s mv vo a l c 0 pl) := HK.out.blk HB.out trivial
    have hcell1 := blk_cell hb1
    have hlt1 := blk_lt hb1
    clear hb1
    go_wp2_with (fail)
    go_ret3
    exact s_close (HK.out.blk HB.out trivial) ((((Keep.refl (fun _ => True) w).drewN _).trans HK.out).mono (fun _ _ _ => trivial))

end

/-- The scanner stands at a place of the text. -/
def SAt (s : ByteArray) (mv vo : Value) (x : Lx) (bd pl : Int) : Obj := SObj s mv vo x.at_ x.line x.col bd pl
theorem pass_cases (c : UInt8) (r : List UInt8) (x : Lx) (hx : x.rest = c :: r) :
    (runeLen x.rest = 0 ∧ x.pass = { x with e := 40 }) ∨ (runeLen x.rest ≠ 0 ∧ isBad c = true ∧ x.pass = { x with e := 41 })
    ∨ (runeLen x.rest ≠ 0 ∧ isBad c = false ∧ x.pass = { rest := x.rest.drop (runeLen x.rest), at_ := x.at_ + runeLen x.rest, line := if c.toNat = 10 then x.line + 1 else x.line, col := if c.toNat = 10 then 1 else x.col + 1, e := x.e }) := by
  unfold Lx.pass
  rw [hx]
  simp only []
  rw [← hx]
  by_cases h0 : runeLen x.rest = 0
  · left; rw [if_pos h0]; exact ⟨h0, rfl⟩
  · right
    rw [if_neg h0]
    cases hb : isBad c with
    | true => left; rw [if_pos rfl]; exact ⟨h0, rfl, rfl⟩
    | false => right; rw [if_neg (by simp)]; exact ⟨h0, rfl, rfl⟩
end Go.Proofs.YtglkdhodpgnlgaaDoor
