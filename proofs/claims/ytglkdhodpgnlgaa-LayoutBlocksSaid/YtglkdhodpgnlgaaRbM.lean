/-
  The reference's Blocks: it computes 'refBlocks'. Condition: the row of tokens lies in memory from its block's start; one token of the end, and it stands last.
-/
import Derived.Test.YtglkdhodpgnlgaaRbR
import Derived.StillTailTactics
namespace Go.Proofs.Ytglkdhodpgnlgaa
open Go.RowKit Go.Tel

set_option maxRecDepth 1000000 in
set_option maxHeartbeats 8000000 in
theorem rblocks_any {W : World} {bi ci : Nat} {inn : List Tok} (hI : InRow W bi inn) (hbi : bi < W.heap.size) (hcap : inn.length ≤ ci) (hci : (ci : Int) ≤ 9223372036854775807) (hE : Ended inn) :
    Calls Try.prog 10 #[.slice (some ⟨bi, 0, none⟩) inn.length ci] W (BkPost W (refBlocks inn)) := by
  obtain ⟨R, hR⟩ : ∃ R, R = refBlocks inn := ⟨_, rfl⟩
  rw [← hR]
  have hpos : (0 : Int) < (inn.length : Int) := by have := hE.pos; omega
  have hpos0 : ((inn.length : Int) == 0) = false := beq_eq_false_iff_ne.2 (by omega)
  have hln : (inn.length : Int) < 100000 := by have := hI.small; omega
  have hcap' : (inn.length : Int) ≤ (ci : Int) := by omega
  have hlast : inn[0]? = some (inn.getD 0 noTok) := by rw [List.getD_eq_getElem?_getD, List.getElem?_eq_getElem hE.pos]; rfl
  have htk := hI.tok hlast
  have t0 := htk 0 (by decide); have t1 := htk 1 (by decide); have t2 := htk 2 (by decide); have t3 := htk 3 (by decide); have t4 := htk 4 (by decide)
  simp only [Tok.cells, Nat.zero_mul, Nat.zero_add] at t0 t1 t2 t3 t4
  have HI := Lib.hid hI
  have HT0 := Lib.hid hlast
  have HE := Lib.hid hE
  have HBi := Lib.hid hbi
  have HR : Hid (RS.all inn (inn.length + 1) 0 true ((RS0.put 4 (inn.getD 0 noTok) false).push ⟨false, (inn.getD 0 noTok).col, false, 0⟩ (inn.getD 0 noTok)) = R) := hR.symm
  have HInv := Lib.hid (RS0_inv (inn.getD 0 noTok) (inn.getD 0 noTok).col)
  have HP0 := Lib.hid (rput_any (rl_new W) 4 (inn.getD 0 noTok) false)
  have hl0 : (RS0.put 4 (inn.getD 0 noTok) false).stk.length < 100000 := by rw [(RS.put_stk _ _ _ _).1]; decide
  have HPu := Lib.hid (fun w1 (h1 : Rl w1 W.heap.size (fun k => k < W.heap.size) (RS0.put 4 (inn.getD 0 noTok) false)) => rpush_any h1 ⟨false, (inn.getD 0 noTok).col, false, 0⟩ (inn.getD 0 noTok) hl0)
  have hbi1 : bi < W.heap.size + 1 := by omega
  clear hI hE hlast hR hl0
  generalize RS0.put 4 (inn.getD 0 noTok) false = Sp at *
  generalize RS.push ⟨false, (inn.getD 0 noTok).col, false, 0⟩ (inn.getD 0 noTok) Sp = S1 at *
  generalize inn.getD 0 noTok = t at *
  go_enter Try.func10, Try.ntmps10
  go_wp2_with (go_at_call 18; go_must (refine HP0.out.mono ?_; rintro e w1 ⟨rfl, hp1, hk1⟩; have HP1 := Lib.hid hp1; have HK1 := Lib.hid (((Keep.refl (fun k => k < W.heap.size) W).alloc _).trans hk1); clear hp1 hk1))
  have hIw := HI.out.keep HK1.out HBi.out
  have htk := hIw.tok HT0.out
  clear t0 t1 t2 t3 t4
  have t0 := htk 0 (by decide); have t1 := htk 1 (by decide); have t2 := htk 2 (by decide); have t3 := htk 3 (by decide); have t4 := htk 4 (by decide)
  simp only [Tok.cells, Nat.zero_mul, Nat.zero_add] at t0 t1 t2 t3 t4
  have hbi2 : bi < w1.heap.size := Nat.lt_of_lt_of_le HBi.out HK1.out.size
  have hIsz := HK1.out.size
  clear htk hIw
  have hpn : 0 < inn.length := by omega
  go_still_tail 9, (by kernel_rfl)
  change wpList _ _ _ _ _ w1.drew
  have HP2 := Lib.hid HP1.out.drew
  have HK2 := Lib.hid HK1.out.drew
  generalize w1.drew = wb at *
  clear t0 t1 t2 t3 t4 hbi2 hIsz HP1 HK1
  go_wp2_with (go_at_call 19; go_must (refine (HPu.out _ HP2.out).mono ?_; rintro e w2 ⟨rfl, hp1, hk1⟩; have HP3 := Lib.hid hp1; have HK3 := Lib.hid (HK2.out.trans hk1); clear hp1 hk1))
  clear HP0 HPu HP2 HK2 hbi1
  go_loopg [6, 7] (inn.length + 1) (fun k b v wl => ∃ (bg : Bool) (i : Nat) (S : RS), b = .bool bg ∧ v = .int .i64 i ∧ Rl wl W.heap.size (fun k => k < W.heap.size) S ∧ Keep (fun k => k < W.heap.size) W wl ∧ S.Inv ∧ inn.length < i + k ∧ i ≤ inn.length + 1 ∧ RS.all inn k i bg S = R)
  case atStart => exact ⟨true, 0, S1, rfl, rfl, HP3.out, HK3.out, HInv.out, by omega, Nat.zero_le _, HR.out⟩
  case round =>
    clear HP3 HK3 HInv HR HT0
    obtain ⟨bg, i, S, rfl, rfl, hp, hk, hinv, hfu, hi1, hall⟩ := hrel
    refine rround HI.out HBi.out hcap' hci HE.out hp hk hinv hfu hi1 hall _ _ _ _ _ _ _ _ _ _ _ _ _ _ _ _ _ _ _ _ _ _ _ _ _ _ _ _ _ _ _ _ _ _ _ _ _ _ _ _ _ _ _ _ _ _ _ _ _ _ _ _ _ _ _ _ _ _ _ _ _ _ _ _ _ _ _ _ _ _ _ _ _ _ _ _ _ _ _ _ _ _ _ _ _ _ _ _ _ _ _ _ _ _ _ _ _ _ _ _ _ _ _ _ _ _ _ _ _ _ _ _ _ _ _ _ _ _ _ _ _ _ _ _ _ _ _ _ _ _ _ _ _ _ _ _ _ _ _ _ _ _ _ _ _ _ _ _ _ _ _ _ _ _ _ _ _ _ _ _ _ _ _ _ _ _ _ _ _ _ _ _ _ _ _ _ _ _ _ _ _ _ _ _ _ _ _ _ _ _ _ _ _ _ _ _ _ _ _ _ _ _ _ _ _ _ _ _ _ _ _ _ _ _ _ _ _ _ _ _ _ _ _ _ _ _ _ _ _ _ _ _ _ _ _ _ _ _ _ _ _ _ _ _ _ _ _ _ _ _ _ _ _ _ _ _ _ _ _ _ _ _ _ _ _ _ _ _ _ _ _ _ _ _ _ _ _ _ _ _ _ _ _ _ _ _ _ _ _ _ _ _ _ _ _ _ _ _ _ _ _ _ _ _ _ _ _ _ _ _ _ _ _ _ _ _ _ _ _ _ _ _ _ _ _ _ _ _ _ _ _ _ _ _ _ _ _ _ _ _ _ _ _ _ _ _ _ _ _ _ _ _ _ _ _ _ _ _ _ _ _ _ _ _ _ _ _ _ _ _ _ _ ?_ ?_ ?_
    · intro _ _ _ _ _ _ _ _ _ _ _ _ _ _ _ _ _ _ _ _ _ _ _ _ _ _ _ _ _ _ _ _ _ _ _ _ _ _ _ _ _ _ _ _ _ _ _ _ _ _ _ _ _ _ _ _ _ _ _ _ _ _ _ _ _ _ _ _ _ _ _ _ _ _ _ _ _ _ _ _ _ _ _ _ _ _ _ _ _ _ _ _ _ _ _ _ _ _ _ _ _ _ _ _ _ _ _ _ _ _ _ _ _ _ _ _ _ _ _ _ _ _ _ _ _ _ _ _ _ _ _ _ _ _ _ _ _ _ _ _ _ _ _ _ _ _ _ _ _ _ _ _ _ _ _ _ _ _ _ _ _ _ _ _ _ _ _ _ _ _ _ _ _ _ _ _ _ _ _ _ _ _ _ _ _ _ _ _ _ _ _ _ _ _ _ _ _ _ _ _ _ _ _ _ _ _ _ _ _ _ _ _ _ _ _ _ _ _ _ _ _ _ _ _ _ _ _ _ _ _ _ _ _ _ _ _ _ _ _ _ _ _ _ _ _ _ _ _ _ _ _ _ _ _ _ _ _ _ _ _ _ _ _ _ _ _ _ _ _ _ _ _ _ _ _ _ _ _ _ _ _ _ _ _ _ _ _ _ _ _ _ _ _ _ _ _ _ _ _ _ _ _ _ _ _ _ _ _ _ _ _ _ _ _ _ _ _ _ _ _ _ _ _ _ _ _ _ _ _ _ _ _ _ w' bg' i' q S' hq hp' hk' hinv' hfu' hi1' hall'
      have H1 := Lib.hid hp'; have H2 := Lib.hid hk'; have H3 := Lib.hid hinv'; have H4 := Lib.hid hfu'; have H5 := Lib.hid hi1'; have H6 := Lib.hid hall'; have HQ := Lib.hid hq
      clear hp hk hinv hfu hi1 hall hp' hk' hinv' hfu' hi1' hall' hq
      go_wp2_with (fail)
      go_roundg q
      case measure => have := HQ.out; omega
      case rel => exact ⟨bg', i', S', rfl, rfl, H1.out, H2.out, H3.out, H4.out, H5.out, H6.out⟩
    · intro _ _ _ _ _ _ _ _ _ _ _ _ _ _ _ _ _ _ _ _ _ _ _ _ _ _ _ _ _ _ _ _ _ _ _ _ _ _ _ _ _ _ _ _ _ _ _ _ _ _ _ _ _ _ _ _ _ _ _ _ _ _ _ _ _ _ _ _ _ _ _ _ _ _ _ _ _ _ _ _ _ _ _ _ _ _ _ _ _ _ _ _ _ _ _ _ _ _ _ _ _ _ _ _ _ _ _ _ _ _ _ _ _ _ _ _ _ _ _ _ _ _ _ _ _ _ _ _ _ _ _ _ _ _ _ _ _ _ _ _ _ _ _ _ _ _ _ _ _ _ _ _ _ _ _ _ _ _ _ _ _ _ _ _ _ _ _ _ _ _ _ _ _ _ _ _ _ _ _ _ _ _ _ _ _ _ _ _ _ _ _ _ _ _ _ _ _ _ _ _ _ _ _ _ _ _ _ _ _ _ _ _ _ _ _ _ _ _ _ _ _ _ _ _ _ _ _ _ _ _ _ _ _ _ _ _ _ _ _ _ _ _ _ _ _ _ _ _ _ _ _ _ _ _ _ _ _ _ _ _ _ _ _ _ _ _ _ _ _ _ _ _ _ _ _ _ _ _ _ _ _ _ _ _ _ _ _ _ _ _ _ _ _ _ _ _ _ _ _ _ _ _ _ _ _ _ _ _ _ _ _ _ _ _ _ _ _ _ _ _ _ _ _ _ _ _ _ _ _ _ _ _ _ _ _ w' S' hr hk' hf
      clear hp hk hinv hfu hi1 hall
      obtain ⟨vs, vo, hU⟩ := hr
      have hc := blk_cell hU.blk
      have hbpl := blk_lt hU.blk
      have HU := Lib.hid hU
      have HK := Lib.hid hk'
      by_cases he : S'.e = 0
      · have he' : (S'.e != 0) = false := by rw [he]; rfl
        have HF : Hid (R = (S'.out, 0, 0)) := by show _ = _; rw [← hf]; unfold RS.final; rw [if_neg (by simp [he])]
        clear hU hk' hf he
        go_wp2_with (fail)
        go_ret3
        rw [HF.out]
        exact ⟨vo, rfl, own_mono HU.out.out (Nat.le_succ _), HK.out⟩
      · have he' : (S'.e != 0) = true := bne_iff_ne.2 he
        have HF : Hid (R = ([], S'.at_, S'.e)) := by show _ = _; rw [← hf]; unfold RS.final; rw [if_pos he]
        clear hU hk' hf he
        go_wp2_with (fail)
        go_quiet (fail)
        go_wp2_with (fail)
        go_ret3
        rw [HF.out]
        exact ⟨.slice none 0 0, rfl, World.ownsRow_nil _ _ _ _, HK.out.drewN _⟩
    · intro _ _ _ _ _ _ _ _ _ _ _ _ _ _ _ _ _ _ _ _ _ _ _ _ _ _ _ _ _ _ _ _ _ _ _ _ _ _ _ _ _ _ _ _ _ _ _ _ _ _ _ _ _ _ _ _ _ _ _ _ _ _ _ _ _ _ _ _ _ _ _ _ _ _ _ _ _ _ _ _ _ _ _ _ _ _ _ _ _ _ _ _ _ _ _ _ _ _ _ _ _ _ _ _ _ _ _ _ _ _ _ _ _ _ _ _ _ _ _ _ _ _ _ _ _ _ _ _ _ _ _ _ _ _ _ _ _ _ _ _ _ _ _ _ _ _ _ _ _ _ _ _ _ _ _ _ _ _ _ _ _ _ _ _ _ _ _ _ _ _ _ _ _ _ _ _ _ _ _ _ _ _ _ _ _ _ _ _ _ _ _ _ _ _ _ _ _ _ _ _ _ _ _ _ _ _ _ _ _ _ _ _ _ _ _ _ _ _ _ _ _ _ _ _ _ _ _ _ _ _ _ _ _ _ _ _ _ _ _ _ _ _ _ _ _ _ _ _ _ _ _ _ _ _ _ _ _ _ _ _ _ _ _ _ _ _ _ _ _ _ _ _ _ _ _ _ _ _ _ _ _ _ _ _ _ _ _ _ _ _ _ _ _ _ _ _ _ _ _ _ _ _ _ _ _ _ _ _ _ _ _ _ _ _ _ _ _ _ _ _ _ _ _ _ _ _ _ _ _ _ _ _ w' a e hR hk'
      have HF : Hid (R = ([], a, e)) := hR
      have HK := Lib.hid hk'
      clear hp hk hinv hfu hi1 hall hR hk'
      go_wp2_with (fail)
      go_ret3
      rw [HF.out]
      exact ⟨.slice none 0 0, rfl, World.ownsRow_nil _ _ _ _, HK.out⟩
end Go.Proofs.Ytglkdhodpgnlgaa
