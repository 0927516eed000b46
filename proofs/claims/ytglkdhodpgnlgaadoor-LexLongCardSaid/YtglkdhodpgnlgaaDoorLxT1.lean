/-
  The lexer of package lex: till, at its three predicates. Condition: the scanner stands at a place of the text; Go's decoder's tables lie as they are laid.
-/
import Derived.Test.YtglkdhodpgnlgaaDoorLxT
namespace Go.Proofs.YtglkdhodpgnlgaaDoor
open Go.RowKit Go.Tel
section
variable {w : World} {bp : Nat} {s : ByteArray} {mv vo : Value} {pl : Int} {x : Lx}

set_option maxRecDepth 100000 in
set_option maxHeartbeats 4000000 in
theorem till_solid (hx : x.ok s) (hs : s.size ≤ 65536) (he : x.e = 0) (hb : w.heap[bp]? = some (SObj s mv vo x.at_ x.line x.col 0 pl)) (hT : Lib.Utf8Tabs 2 3 w) (hbp : 3 < bp) :
    Calls Tryd.prog 23 #[.pointer (some ⟨bp, 0, none⟩), .func (.func 24) #[] #[]] w (TillPost bp s mv vo (Lx.till solidP (x.rest.length + 1) x) w) := by
  obtain ⟨z, hz⟩ : ∃ z, Lx.till solidP (x.rest.length + 1) x = z := ⟨_, rfl⟩
  rw [hz]
  have HZ := Lib.hid hz
  have HB := Lib.hid hb
  have HX := Lib.hid hx
  have HE := Lib.hid he
  have HS := Lib.hid hs
  have HT := Lib.hid hT
  have HBp := Lib.hid hbp
  clear hz hb hx he hs hT hbp
  go_enter Tryd.func23, Tryd.ntmps23
  go_wp2_with (fail)
  go_loopg [] (x.rest.length + 1) (fun k wc => ∃ (y : Lx) (ql : Int), y.ok s ∧ y.e = 0 ∧ wc.heap[bp]? = some (SObj s mv vo y.at_ y.line y.col 0 ql) ∧ Keep (fun k => k ≠ bp) w wc ∧ y.rest.length < k ∧ Lx.till solidP k y = z)
  case atStart => exact ⟨x, pl, HX.out, HE.out, HB.out, Keep.refl _ _, Nat.lt_succ_self _, HZ.out⟩
  case round =>
    clear HZ HB HX HE
    obtain ⟨y, ql, hy, he, hb, hk, hf, hz⟩ := hrel
    have hc := blk_cell hb
    have hlt := blk_lt hb
    have hTw := tabs_keep HT.out hk (by have := HBp.out; omega) (by have := HBp.out; omega)
    have HK := Lib.hid hk
    have HBy := Lib.hid hb
    have HF := Lib.hid hf
    have HEy := Lib.hid he
    by_cases ha : y.at_ < s.size
    · have ha' : (y.at_ : Int) < (s.size : Int) := by omega
      have hr := rest_cons hy ha
      obtain ⟨q, hq⟩ : ∃ q, gk = q + 1 := ⟨gk - 1, by omega⟩
      have HQ := Lib.hid hq
      rw [hq] at hz
      by_cases hp : y.pass.e = 0
      · have HR := Lib.hid (fun n => rune_yes (w := wr.drewN n) hy ha hp hb hTw)
        have hv := decL_valid s[y.at_] (s.data.toList.drop (y.at_ + 1))
        rw [← hr] at hv
        have HP := Lib.hid (fun w => (solid_any (decL y.rest).1 w).mono (R' := fun e w' => e = .returned (.bool (solidP (decL y.rest).1)) ∧ Keep (fun _ => True) w w') (fun e w' h => ⟨h.1, by rw [← h.2]; exact Keep.refl _ _⟩))
        have HSt := Lib.hid (fun (w1 : World) (h1 : w1.heap[bp]? = some (SObj s mv vo y.at_ y.line y.col 0 ql)) => step_any hy ha HS.out hp h1)
        have HOk := Lib.hid (Lx.pass_ok hy)
        have HSh := Lib.hid (Lx.pass_shorter y (by rw [hr]; simp))
        have HPe := Lib.hid hp
        cases hpc : solidP (decL y.rest).1 with
        | true =>
          have HZ : Hid (z = y) := by show _ = _; rw [← hz]; exact till_stop hr hp hpc
          rw [hpc] at HP
          generalize (decL y.rest).1 = rv at *
          clear hy he hb hk hf hz hTw hr hq hp hv hpc
          go_wp2_with (fail)
          go_quiet (fail)
          go_wp2_with (first
            | (go_at_call 27; go_must (refine (HR.out _).mono ?_; rintro e w1 ⟨rfl, hb1, hk1⟩; have HB1 := Lib.hid hb1; have HK1 := Lib.hid hk1; clear hb1 hk1))
            | (go_at_call 24; go_must (refine (HP.out _).mono ?_; rintro e w2 ⟨rfl, hk2⟩; have HK2 := Lib.hid hk2; clear hk2)))
          go_ret
          rw [HZ.out]
          refine till_close (by rw [HEy.out]; rfl) (pl := ql) ?_ (fun h => absurd HEy.out h) ((HK.out.drewN _).trans (HK1.out.trans (HK2.out.mono (fun _ _ _ => trivial))))
          rw [HEy.out]; exact HK2.out.blk HB1.out trivial
        | false =>
          have HZ : Hid (Lx.till solidP q y.pass = z) := by show _ = _; rw [← hz]; exact (till_go hr hp hpc).symm
          rw [hpc] at HP
          generalize (decL y.rest).1 = rv at *
          clear hy he hb hk hf hz hTw hr hq hp hv hpc
          go_wp2_with (fail)
          go_quiet (fail)
          go_wp2_with (first
            | (go_at_call 27; go_must (refine (HR.out _).mono ?_; rintro e w1 ⟨rfl, hb1, hk1⟩; have HB1 := Lib.hid hb1; have HK1 := Lib.hid hk1; clear hb1 hk1))
            | (go_at_call 24; go_must (refine (HP.out _).mono ?_; rintro e w2 ⟨rfl, hk2⟩; have HK2 := Lib.hid hk2; clear hk2))
            | (go_at_call 29; go_must (refine (HSt.out _ (HK2.out.blk HB1.out trivial)).mono ?_; rintro e w3 ⟨rfl, hb3, hk3⟩; have HB3 := Lib.hid hb3; have HK3 := Lib.hid hk3; clear hb3 hk3)))
          go_roundg q
          case measure => have := HQ.out; omega
          case rel => exact ⟨y.pass, ql, HOk.out, HPe.out, HB3.out, (HK.out.drewN _).trans (HK1.out.trans ((HK2.out.mono (fun _ _ _ => trivial)).trans HK3.out)), by
            have := HF.out; have := HQ.out
            rcases HSh.out with h | h
            · exact absurd HPe.out h
            · omega, HZ.out⟩
      · have HR := Lib.hid (fun n => rune_no (w := wr.drewN n) hy ha hp he hb hTw)
        have HZ : Hid (z = y.pass) := by show _ = _; rw [← hz]; exact till_bad hr hp
        have HPe := Lib.hid hp
        have HAt := Lib.hid (pass_at he hp)
        clear hy he hb hk hf hz hTw hr hq hp
        go_wp2_with (fail)
        go_quiet (fail)
        go_wp2_with (go_at_call 27; go_must (refine (HR.out _).mono ?_; rintro e w1 ⟨rfl, hb1, hk1⟩; have HB1 := Lib.hid hb1; have HK1 := Lib.hid hk1; clear hb1 hk1))
        go_ret
        rw [HZ.out]
        exact till_close (beq_eq_false_iff_ne.2 HPe.out).symm HB1.out (fun _ => by rw [HAt.out]) ((HK.out.drewN _).trans HK1.out)
    · have ha' : (s.size : Int) ≤ (y.at_ : Int) := by omega
      have HZ : Hid (z = y) := by show _ = _; rw [← hz]; exact till_nil _ (rest_nil hy ha)
      clear hy he hb hk hf hz hTw
      go_wp2_with (fail)
      go_quiet (fail)
      go_wp2_with (fail)
      go_ret
      rw [HZ.out]
      refine till_close (by rw [HEy.out]; rfl) (pl := ql) ?_ (fun h => absurd HEy.out h) (HK.out.drewN _)
      rw [HEy.out]; exact HBy.out
end
end Go.Proofs.YtglkdhodpgnlgaaDoor
