/-
  Package layout's Blocks. Condition: the row of tokens lies in memory from its block's start; one token of the end, and it stands last.
-/
import Derived.Test.YtglkdhodpgnlgaaLayTi
import Derived.StillTailTactics
namespace Go.Proofs.Ytglkdhodpgnlgaa
open Go.RowKit Go.Tel

def S0 : PS := ⟨[], 0, [], 0, 0, false, false⟩
/-- What Blocks leaves: its three results, the row of tokens new, what lay there before untouched. -/
def BkPost (w : World) (q : List Tok × Int × Int) (e : Ending) (w' : World) : Prop :=
  ∃ vo, e = .returned (.tuple #[vo, .int .i64 q.2.1, .int .i64 q.2.2]) ∧ w'.ownsRow w.heap.size 27 5 vo q.1.length (Toks q.1) ∧ Keep (fun k => k < w.heap.size) w w'

/-- The placer, new. -/
theorem pl_new {w : World} {bi ci : Nat} {inn : List Tok} {n : Nat} (hn : n ≤ w.heap.size) (hbi : bi < n) (hI : InRow w bi inn) :
    PlV (w.alloc (PlObj (.slice none 0 0) (.slice none 0 0) bi ci inn S0)) w.heap.size bi ci (fun k => k < n) inn S0 (.slice none 0 0) (.slice none 0 0) where
  blk := blk_new _ _
  stk := World.ownsRow_nil _ _ _ _
  out := World.ownsRow_nil _ _ _ _
  two := fun k h => by cases h
  kept := fun k hk => ⟨by have : k < n := hk; omega, (fun h => by cases h), (fun h => by cases h), by rw [size_alloc']; have : k < n := hk; omega⟩
  xbi := hbi
  inn := hI.keep ((Keep.refl (fun k => k < n) w).alloc _) hbi

set_option maxRecDepth 100000 in
set_option maxHeartbeats 4000000 in
theorem blocks_any {w : World} {bi ci : Nat} {inn : List Tok} (hI : InRow w bi inn) (hbi : bi < w.heap.size) (hcap : inn.length ≤ ci) (hci : (ci : Int) ≤ 9223372036854775807) (hE : Ended inn) :
    Calls Try.prog 8 #[.slice (some ⟨bi, 0, none⟩) inn.length ci] w (BkPost w (layBlocks inn)) := by
  obtain ⟨Q, hQ⟩ : ∃ Q, Q = layBlocks inn := ⟨_, rfl⟩
  rw [← hQ]
  have HQ := Lib.hid hQ
  clear hQ
  have hpos : (0 : Int) < (inn.length : Int) := by have := hE.pos; omega
  have hpos0 : ((inn.length : Int) == 0) = false := beq_eq_false_iff_ne.2 (by omega)
  have hln : (inn.length : Int) < 100000 := by have := hI.small; omega
  have hge1 : (1 : Int) ≤ (inn.length : Int) := by omega
  have hcap' : (inn.length : Int) ≤ (ci : Int) := by omega
  obtain ⟨m, hm⟩ : ∃ m, inn.length = m + 1 := ⟨inn.length - 1, by have := hE.pos; omega⟩
  have hm1 : (inn.length : Int) - 1 = (m : Int) := by omega
  have hmc : (m : Int) ≤ (ci : Int) := by omega
  have hml : m < inn.length := by omega
  have hlast : inn[m]? = some (inn.getD m noTok) := by rw [List.getD_eq_getElem?_getD, List.getElem?_eq_getElem hml]; rfl
  have hl0 := hI.tok hlast 0 (by decide)
  have hk7 : (inn.getD m noTok).kind = 7 := by
    have := hE.at_ hml
    by_cases h : (inn.getD m noTok).kind = 7
    · exact h
    · have := this.1 h; omega
  simp only [Tok.cells, Nat.add_zero, List.getElem?_cons_zero, hk7] at hl0
  have HI := Lib.hid hI
  have HE := Lib.hid hE
  have HM := Lib.hid hm
  have HCi := Lib.hid hci
  clear hI hE hlast hk7 hml hm
  go_enter Try.func8, Try.ntmps8
  go_wp2_with (fail)
  clear hl0
  go_loopg [28] m (fun k v wr => ∃ i : Nat, v = .int .i64 i ∧ i + k = m ∧ Keep (fun k => k < w.heap.size) w wr)
  case atStart => exact ⟨0, rfl, by omega, Keep.refl _ _⟩
  case round =>
    obtain ⟨i, rfl, hik, hk⟩ := hrel
    have HK := Lib.hid hk
    have hI2 := HI.out.keep hk hbi
    have hb2 : bi < wr.heap.size := Nat.lt_of_lt_of_le hbi hk.size
    rcases Nat.eq_zero_or_pos gk with rfl | hgk
    · obtain rfl : i = m := by omega
      have hsz := hk.size
      clear hk hik
      have hlast : inn[0]? = some (inn.getD 0 noTok) := by rw [List.getD_eq_getElem?_getD, List.getElem?_eq_getElem (by have := HM.out; omega)]; rfl
      have HLast := Lib.hid hlast
      have HP0 := Lib.hid (pl_new (ci := ci) hsz hbi hI2)
      have HB := Lib.hid (fun w1 (hp : Pl w1 wr.heap.size bi ci (fun k => k < w.heap.size) inn S0) => lbegin_any hp ⟨false, (inn.getD 0 noTok).col, false, 0⟩ (inn.getD 0 noTok) (mkS []))
      rw [show mkS [] = (⟨#[]⟩ : ByteArray) from rfl] at HB
      obtain ⟨r, hr⟩ : ∃ r, r = PS.begin_ ⟨false, (inn.getD 0 noTok).col, false, 0⟩ (inn.getD 0 noTok) ⟨#[]⟩ S0 := ⟨_, rfl⟩
      rw [← hr] at HB
      have hr0 : r.2.at_ = 0 ∧ (r.1 = true → r.2.Inv) := by
        rw [hr]; unfold PS.begin_
        rw [if_neg (by decide)]
        exact ⟨(sign_keep _ _ _ _).2, fun _ => ⟨_, [], (sign_keep _ _ _ _).1, rfl, rfl⟩⟩
      have HR0 := Lib.hid hr0
      have HLay : Hid (Q = (if (if r.1 then PS.all inn (inn.length + 1) r.2 else r.2).bad ≠ 0 then ([], (if r.1 then PS.all inn (inn.length + 1) r.2 else r.2).place, (if r.1 then PS.all inn (inn.length + 1) r.2 else r.2).bad) else ((if r.1 then PS.all inn (inn.length + 1) r.2 else r.2).out, 0, 0))) := by
        show Q = _; rw [HQ.out, hr]; rfl
      generalize inn.getD 0 noTok = t at *
      clear hlast hr hr0
      have HBk := Lib.hid (show bi < wr.heap.size from hb2)
      clear hln hb2 hI2
      go_wp2_with (fail)
      generalize hwa : wr.alloc _ = wa
      have HP1 := Lib.hid (show PlV wa wr.heap.size bi ci (fun k => k < w.heap.size) inn S0 (.slice none 0 0) (.slice none 0 0) by rw [← hwa]; exact HP0.out)
      have HKa := Lib.hid (show Keep (fun k => k < w.heap.size) w wa by rw [← hwa]; exact HK.out.alloc _)
      have htk := HP1.out.inn.tok HLast.out
      have t0 := htk 0 (by decide); have t1 := htk 1 (by decide); have t2 := htk 2 (by decide); have t3 := htk 3 (by decide); have t4 := htk 4 (by decide)
      simp only [Tok.cells, Nat.zero_mul, Nat.zero_add] at t0 t1 t2 t3 t4
      have hbw : bi < wa.heap.size := (HP1.out.kept bi hbi).2.2.2
      clear htk hwa HP0
      have hbs : w.heap.size ≤ wr.heap.size := hsz
      generalize wr.heap.size = bp at *
      have HBpSz := Lib.hid hbs
      clear hbs
      have hpn : 0 < inn.length := by have := HM.out; omega
      have hpi : (0 : Int) < (inn.length : Int) := hpos
      go_still_tail 9, (by kernel_rfl)
      change wpList _ _ _ _ _ wa.drew
      have HP2 := Lib.hid HP1.out.drew
      have HKd := Lib.hid HKa.out.drew
      generalize wa.drew = wb at *
      clear t0 t1 t2 t3 t4 hbw HP1 HKa
      obtain ⟨b0, T0⟩ := r
      obtain ⟨R, hR⟩ : ∃ R, (if b0 then PS.all inn (inn.length + 1) T0 else T0) = R := ⟨_, rfl⟩
      have HL2 : Hid (Q = (if R.bad ≠ 0 then ([], R.place, R.bad) else (R.out, 0, 0))) := by show _ = _; rw [← hR]; exact HLay.out
      have HR := Lib.hid hR
      clear HLay hR HQ
      go_wp2_with (go_at_call 16; go_must (refine (HB.out _ (Pl.of HP2.out)).mono ?_; rintro e w1 ⟨rfl, hp1, hk1⟩; have HP3 := Lib.hid hp1; have HK3 := Lib.hid hk1; clear hp1 hk1))
      go_loopg [8] (inn.length + 1) (fun k v wl => ∃ (b : Bool) (T : PS), v = .bool b ∧ Pl wl bp bi ci (fun k => k < w.heap.size) inn T ∧ Keep (fun k => k < w.heap.size) w wl ∧ (b = true → T.at_ < inn.length → T.Inv) ∧ inn.length < T.at_ + k ∧ T.at_ ≤ inn.length + 1 ∧ (if b then PS.all inn k T else T) = R)
      case atStart => exact ⟨b0, T0, rfl, HP3.out, HKd.out.trans HK3.out, fun h _ => HR0.out.2 h, by have := HR0.out.1; omega, by have := HR0.out.1; omega, HR.out⟩
      case round =>
        clear hcap hcap' hpos0
        obtain ⟨b, T, rfl, hp, hk, hi, hfu, hat1, hT⟩ := hrel
        obtain ⟨vs, vo, hp⟩ := hp
        cases b
        · rw [if_neg Bool.false_ne_true] at hT
          have HRT : Hid (T = R) := hT
          have HL3 := Lib.hid (show Q = (if T.bad ≠ 0 then ([], T.place, T.bad) else (T.out, 0, 0)) by rw [HRT.out]; exact HL2.out)
          have HP4 := Lib.hid hp
          have HK4 := Lib.hid hk
          have hc := blk_cell hp.blk
          clear hp hk hi hfu hat1 hT
          by_cases hbz : T.bad = 0
          · have hbz' : (T.bad != 0) = false := by rw [hbz]; rfl
            have HL4 : Hid (Q = (T.out, 0, 0)) := by show _ = _; rw [HL3.out, if_neg (by simp [hbz])]
            clear hbz
            go_wp2_with (fail)
            go_ret3
            rw [HL4.out]
            exact ⟨vo, rfl, own_mono HP4.out.out (Nat.le_succ_of_le HBpSz.out), HK4.out⟩
          · have hbz' : (T.bad != 0) = true := bne_iff_ne.2 hbz
            have HL4 : Hid (Q = ([], T.place, T.bad)) := by show _ = _; rw [HL3.out, if_pos hbz]
            clear hbz
            go_wp2_with (fail)
            go_quiet (fail)
            go_wp2_with (fail)
            go_ret3
            rw [HL4.out]
            exact ⟨.slice none 0 0, rfl, World.ownsRow_nil _ _ _ _, HK4.out.drewN _⟩
        · rw [if_pos rfl] at hT
          by_cases hlt : T.at_ < inn.length
          · obtain ⟨q, rfl⟩ : ∃ q, gk = q + 1 := ⟨gk - 1, by omega⟩
            unfold PS.all at hT
            rw [if_pos hlt] at hT
            have hltI : (T.at_ : Int) < (inn.length : Int) := by omega
            have hTok := ltoken_any (Pl.of hp) hlt (hi rfl hlt) (fun h7 => (HE.out.at_ hlt).1 h7)
            have hKp := token_keep (inn := inn) (hi rfl hlt)
            obtain ⟨r2, hr2⟩ : ∃ r2, r2 = PS.token inn T := ⟨_, rfl⟩
            rw [← hr2] at hTok hKp hT
            have HTok := Lib.hid hTok
            have HInv : Hid (r2.1 = true → r2.2.at_ + 1 < inn.length → ({ r2.2 with at_ := r2.2.at_ + 1 } : PS).Inv) := fun _ h => inv_stk (hKp.2.2 ((HE.out.at_ hlt).2 (by have := hKp.1; omega))) rfl
            have HA : Hid (inn.length < r2.2.at_ + 1 + q) := by have := hKp.1; show _ < _; omega
            have HA2 : Hid (r2.2.at_ + 1 ≤ inn.length + 1) := by have := hKp.2.1; show _ ≤ _; omega
            have h0 : (0 : Int) ≤ (r2.2.at_ : Int) := by omega
            have hsm : (r2.2.at_ : Int) ≤ 200000 := by have := hKp.2.1; have := HI.out.small; omega
            obtain ⟨b2, T2⟩ := r2
            have HT2 : Hid ((if b2 then PS.all inn q { T2 with at_ := T2.at_ + 1 } else { T2 with at_ := T2.at_ + 1 }) = R) := hT
            have HK4 := Lib.hid hk
            have hc := blk_cell hp.blk
            clear hr2 hTok hKp hT hp hk hi hfu hat1 hlt
            dsimp only at h0 hsm
            go_wp2_with (go_at_call 17; go_must (refine HTok.out.mono ?_; rintro e w4 ⟨rfl, ⟨vs2, vo2, hp1⟩, hk1⟩; have HP4 := Lib.hid hp1; have HK5 := Lib.hid hk1; have hc4 := blk_cell hp1.blk; have hf4 := blk_free hp1.blk; have hbp4 := blk_lt hp1.blk; have HXn := Lib.hid (show ¬ bp < w.heap.size from fun h => (hp1.kept bp h).1 rfl); dsimp only at hc4; clear hp1 hk1))
            go_roundg q
            case measure => omega
            case rel => exact ⟨b2, { T2 with at_ := T2.at_ + 1 }, rfl, Pl.of HP4.out.setAt1, HK4.out.trans (HK5.out.trans (Keep.setX (X := fun k => k < w.heap.size) (Keep.refl _ _) HXn.out 2 _)), HInv.out, HA.out, HA2.out, HT2.out⟩
          · have hT : T = R := by
              rw [← hT]
              cases gk with
              | zero => rfl
              | succ q => unfold PS.all; rw [if_neg hlt]
            have hltI : ¬ (T.at_ : Int) < (inn.length : Int) := by omega
            have HRT : Hid (T = R) := hT
            have HL3 := Lib.hid (show Q = (if T.bad ≠ 0 then ([], T.place, T.bad) else (T.out, 0, 0)) by rw [HRT.out]; exact HL2.out)
            have HP4 := Lib.hid hp
            have HK4 := Lib.hid hk
            have hc := blk_cell hp.blk
            clear hp hk hi hfu hat1 hT
            by_cases hbz : T.bad = 0
            · have hbz' : (T.bad != 0) = false := by rw [hbz]; rfl
              have HL4 : Hid (Q = (T.out, 0, 0)) := by show _ = _; rw [HL3.out, if_neg (by simp [hbz])]
              clear hbz
              go_wp2_with (fail)
              go_ret3
              rw [HL4.out]
              exact ⟨vo, rfl, own_mono HP4.out.out (Nat.le_succ_of_le HBpSz.out), HK4.out⟩
            · have hbz' : (T.bad != 0) = true := bne_iff_ne.2 hbz
              have HL4 : Hid (Q = ([], T.place, T.bad)) := by show _ = _; rw [HL3.out, if_pos hbz]
              clear hbz
              go_wp2_with (fail)
              go_quiet (fail)
              go_wp2_with (fail)
              go_ret3
              rw [HL4.out]
              exact ⟨.slice none 0 0, rfl, World.ownsRow_nil _ _ _ _, HK4.out.drewN _⟩
    · obtain ⟨q, rfl⟩ : ∃ q, gk = q + 1 := ⟨gk - 1, by omega⟩
      have him : i < m := by omega
      have him' : (i : Int) < (m : Int) := by omega
      have hml := HM.out
      have hti : inn[i]? = some (inn.getD i noTok) := by rw [List.getD_eq_getElem?_getD, List.getElem?_eq_getElem (by omega)]; rfl
      have htk := hI2.tok hti
      have t0 := htk 0 (by decide); have t1 := htk 1 (by decide); have t2 := htk 2 (by decide); have t3 := htk 3 (by decide); have t4 := htk 4 (by decide)
      simp only [Tok.cells, Nat.add_zero] at t0 t1 t2 t3 t4
      have h7 : ((inn.getD i noTok).kind == 7) = false := beq_eq_false_iff_ne.2 ((HE.out.at_ (by omega)).2 (by omega))
      generalize inn.getD i noTok = t at *
      clear htk hti hk hml
      go_wp2_with (fail)
      go_roundg q
      case measure => omega
      case rel => exact ⟨i + 1, rfl, by omega, HK.out.alloc _⟩
end Go.Proofs.Ytglkdhodpgnlgaa
