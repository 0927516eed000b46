/-
  The lexer of package lex: token: one token, or what is wrong with it. Condition: the scanner stands behind what parts tokens; its memory lies as LS says.
-/
import Derived.Test.YtglkdhodpgnlgaaDoorLxW
namespace Go.Proofs.YtglkdhodpgnlgaaDoor
open Go.RowKit Go.Tel

theorem rune_here {bp : Nat} {s : ByteArray} {mv vo : Value} {pl : Int} {X : Lx} (hok : X.ok s) (he : X.pass.e = 0) :
    ∃ (r n : Nat) (ok : Bool), (∀ w : World, w.heap[bp]? = some (SObj s mv vo X.at_ X.line X.col 0 pl) → Lib.Utf8Tabs 2 3 w → Calls Tryd.prog 27 #[.pointer (some ⟨bp, 0, none⟩)] w (SPost bp (.tuple #[.int .i32 r, .int .i64 n, .bool ok]) (SObj s mv vo X.at_ X.line X.col 0 pl) w)) ∧
      (X.at_ < s.size → r = (decL X.rest).1 ∧ n = runeLen X.rest ∧ ok = true) := by
  by_cases h : X.at_ < s.size
  · exact ⟨_, _, _, fun w hb hT => rune_yes hok h he hb hT, fun _ => ⟨rfl, rfl, rfl⟩⟩
  · exact ⟨0, 0, false, fun w hb _ => rune_end hb (by omega), fun h' => absurd h' h⟩

def CutRel (s : ByteArray) (mb bp : Nat) (X : Lx) (out : List Tok) (v : Value) (w wc : World) : Prop :=
  ∃ (Y : Lx) (k : Int) (x : ByteArray) (pl : Int), Y.ok s ∧ Y.e = 0 ∧ wc.heap[bp]? = some (SObj s (.map (some mb)) v Y.at_ Y.line Y.col 0 pl) ∧
    wc.heap[w.heap.size]? = some (TokObj k x X.at_ X.line X.col) ∧ Keep (fun j => j < w.heap.size ∧ j ≠ bp) w wc ∧ stepOf X out = tailOf X Y k x out

def MethObj (bp : Nat) : Obj := .cells #[.func (.func 31) #[.pointer (some ⟨bp, 0, none⟩)] #[], .func (.func 32) #[.pointer (some ⟨bp, 0, none⟩)] #[], .func (.func 33) #[.pointer (some ⟨bp, 0, none⟩)] #[]] 59 (0, 0)
theorem app_done {s : ByteArray} {mb bp : Nat} {Y : Lx} {ql : Int} {p5 : Option Addr} {n5 c5 : Nat} {w wc w2 : World} {t : Tok} {l : List Tok} {g n cap : Nat} (hk : Keep (fun j => j < w.heap.size ∧ j ≠ bp) w wc)
    (hb : wc.heap[bp]? = some (SObj s (.map (some mb)) (.slice p5 n5 c5) Y.at_ Y.line Y.col 0 ql))
    (hv : (Value.slice p5 n5 c5).ownBlock ≠ some bp ∧ (Value.slice p5 n5 c5).ownBlock ≠ some w.heap.size) (hown : w2.ownsRow (bp + 1) 28 5 (.slice (some ⟨g, 0, none⟩) n cap) l.length (Toks l))
    (hg : ((wc.alloc (TokObj t.kind t.text t.at_ t.line t.col)).drew).grownBy w2 (Value.slice p5 n5 c5).ownBlock) (hge : ∀ k, (Value.slice p5 n5 c5).ownBlock = some k → bp + 1 ≤ k) :
    (w2.setCell ⟨bp, 5, none⟩ (.slice (some ⟨g, 0, none⟩) n cap)).heap[bp]? = some (SObj s (.map (some mb)) (.slice (some ⟨g, 0, none⟩) n cap) Y.at_ Y.line Y.col 0 ql) ∧
    (w2.setCell ⟨bp, 5, none⟩ (.slice (some ⟨g, 0, none⟩) n cap)).ownsRow (bp + 1) 28 5 (.slice (some ⟨g, 0, none⟩) n cap) l.length (Toks l) ∧
    Keep (fun j => j < bp) w (w2.setCell ⟨bp, 5, none⟩ (.slice (some ⟨g, 0, none⟩) n cap)) := by
  have hb1 := grown_old hg (blk_alloc hb _) hv.1
  have hk1 : Keep (fun k => k ≠ bp) w2 (w2.setCell ⟨bp, 5, none⟩ (.slice (some ⟨g, 0, none⟩) n cap)) := Keep.own (Keep.refl _ _) _ _
  refine ⟨blk_set hb1 5 _, own_keep hown hk1 (fun k e => by have := own_ge hown k e; omega), ?_⟩
  have hk2 : Keep (fun j => j < bp) w w2 := ((keep_low hk).alloc _).drew.grown hg (fun k e => Or.inr (by have := hge k e; omega))
  exact hk2.trans (hk1.mono (fun k _ h => by omega))

set_option maxRecDepth 100000 in
set_option maxHeartbeats 8000000 in
theorem token_any {s : ByteArray} {mb bp : Nat} {X : Lx} {out : List Tok} {v : Value} {w : World} (h : LS s mb bp X out v w) (hs : s.size ≤ 65536) (hp : X.pass.e = 0) (hn : X.at_ < s.size → ∀ c r, X.rest = c :: r → c.toNat ≠ 32 ∧ c.toNat ≠ 10) :
    Calls Tryd.prog 18 #[.pointer (some ⟨bp, 0, none⟩)] w (TkPost s mb bp w (stepOf X out)) := by
  obtain ⟨p5, c5, hv5⟩ := own_form h.own
  subst hv5
  obtain ⟨pl, hb⟩ := h.blk
  have HL := Lib.hid h
  have HS := Lib.hid hs
  have HP := Lib.hid hp
  have HN := Lib.hid hn
  have HB := Lib.hid hb
  have hc := blk_cell hb
  have hlt := blk_lt hb
  have HLt := Lib.hid hlt
  obtain ⟨st, HSt⟩ : ∃ st, Hid (stepOf X out = st) := ⟨_, rfl⟩
  rw [HSt.out]
  obtain ⟨r, n, okb, hru, hra⟩ := rune_here (bp := bp) (mv := .map (some mb)) (vo := .slice p5 out.length c5) (pl := pl) h.ok hp
  have HR := Lib.hid hru
  have HA := Lib.hid hra
  clear h hs hp hn hb hru hra
  go_enter Tryd.func18, Tryd.ntmps18
  go_wp2_with (fail)
  go_region
  clear hc hlt
  have HB0 : Hid (((w.alloc (TokObj 0 (mkS []) X.at_ X.line X.col)).drew).heap[bp]? = some (SObj s (.map (some mb)) (.slice p5 out.length c5) X.at_ X.line X.col 0 pl)) := blk_alloc HB.out _
  have HK0 : Hid (Keep (fun j => j < w.heap.size ∧ j ≠ bp) w ((w.alloc (TokObj 0 (mkS []) X.at_ X.line X.col)).drew)) := ((Keep.refl _ _).alloc _).drew
  have HT0 : Hid (((w.alloc (TokObj 0 (mkS []) X.at_ X.line X.col)).drew).heap[w.heap.size]? = some (TokObj 0 (mkS []) X.at_ X.line X.col)) := blk_new _ _
  have HU0 := Lib.hid (HL.out.tabsK HK0.out)
  go_upto_block 0 with (go_at_call 27; go_must (refine (HR.out _ HB0.out HU0.out).mono ?_; rintro e w1 ⟨rfl, hb1, hk1⟩; have HB1 := Lib.hid hb1; have HT1 := Lib.hid (hk1.blk HT0.out (Nat.ne_of_gt HLt.out)); have HK1 := Lib.hid (HK0.out.trans (hk1.mono (fun _ _ h => h.2))); clear hb1 hk1))
  clear HB0 HK0 HT0 HU0
  go_cut [] (fun wc => CutRel s mb bp X out (.slice p5 out.length c5) w wc)
  case first =>
    have hc := blk_cell HB1.out
    have hlt := blk_lt HB1.out
    have hcT := blk_cell HT1.out
    have hfT := blk_free HT1.out
    have hltT := blk_lt HT1.out
    by_cases hA : X.at_ < s.size
    · obtain ⟨hr1, hr2, hr3⟩ := HA.out hA
      have hA' : ((X.at_ : Int) == (s.size : Int)) = false := beq_eq_false_iff_ne.2 (by omega)
      have hrc := rest_cons HL.out.ok hA
      have hsi := single_any (decL X.rest).1 (by rw [hrc]; exact decL_valid _ _)
      have hsf := single_first (c := s[X.at_]) (r := s.data.toList.drop (X.at_ + 1))
      rw [← hrc] at hsf
      rw [hsf] at hsi
      cases hd : isDelim s[X.at_] with
      | true =>
        rw [hd] at hsi
        have HSi := Lib.hid hsi
        have HE := Lib.hid (step_delim (out := out) hrc hd HP.out)
        have HAt := Lib.hid hA
        subst hr1 hr2 hr3
        have HY := Lib.hid (Lx.pass_ok HL.out.ok)
        have hle := at_le HL.out.ok HY.out (Lx.pass_le X)
        have hpl : X.pass.at_ = X.at_ + runeLen X.rest := by
          have h0 := HP.out
          rcases pass_cases _ _ X hrc with ⟨_, h1⟩ | ⟨_, _, h1⟩ | ⟨_, _, h1⟩
          · rw [h1] at h0; exact absurd h0 (show ¬ (40 : Nat) = 0 by decide)
          · rw [h1] at h0; exact absurd h0 (show ¬ (41 : Nat) = 0 by decide)
          · rw [h1]
        have hEx := Lib.hid (show s.extract X.at_ X.pass.at_ = mkS (X.rest.take (X.pass.at_ - X.at_)) from by rw [← text_eq HL.out.ok]; cases (s.extract X.at_ X.pass.at_); rfl)
        have h1 : (X.at_ : Int) ≤ (X.at_ : Int) + (runeLen X.rest : Int) := by omega
        have h2 : (X.at_ : Int) + (runeLen X.rest : Int) ≤ (s.size : Int) := by have := HY.out.at_; omega
        have HPl := Lib.hid hpl
        clear hrc hsi hsf hd hA hle hpl
        have hw : IntKind.i64.wrap ((X.at_ : Int) + (runeLen X.rest : Int)) = (X.at_ : Int) + (runeLen X.rest : Int) := wrap_small _ (by have := HS.out; omega) (by have := HS.out; omega)
        go_wp2_with (fail)
        go_quiet (fail)
        go_wp2_with (go_at_call 28; go_must (refine (HSi.out _).mono ?_; rintro e w2 ⟨rfl, hk2⟩; have HB2 := Lib.hid (hk2.blk HB1.out trivial); have HT2 := Lib.hid (hk2.blk HT1.out trivial); have HK2 := Lib.hid ((HK1.out.drewN _).trans (hk2.mono (fun _ _ _ => trivial))); clear hk2))
        have hc2 := blk_cell HB2.out
        have hlt2 := blk_lt HB2.out
        have hcT2 := blk_cell HT2.out
        have hfT2 := blk_free HT2.out
        have hltT2 := blk_lt HT2.out
        have HStp := Lib.hid (fun (w3 : World) (h3 : w3.heap[bp]? = some (SObj s (.map (some mb)) (.slice p5 out.length c5) X.at_ X.line X.col 0 pl)) => step_any HL.out.ok HAt.out HS.out HP.out h3)
        have HB3 : Hid ((((w2.setCell ⟨w.heap.size, 0, none⟩ (.int .i64 2)).setCell ⟨w.heap.size, 1, none⟩ (.string (s.extract X.at_ (X.at_ + runeLen X.rest)))).drew).heap[bp]? = some (SObj s (.map (some mb)) (.slice p5 out.length c5) X.at_ X.line X.col 0 pl)) := blk_other (blk_other HB2.out _ (Nat.ne_of_lt HLt.out) _) _ (Nat.ne_of_lt HLt.out) _
        have HT3 : Hid ((((w2.setCell ⟨w.heap.size, 0, none⟩ (.int .i64 2)).setCell ⟨w.heap.size, 1, none⟩ (.string (s.extract X.at_ (X.at_ + runeLen X.rest)))).drew).heap[w.heap.size]? = some (TokObj 2 (s.extract X.at_ (X.at_ + runeLen X.rest)) X.at_ X.line X.col)) := blk_set (blk_set HT2.out 0 _) 1 _
        have HK3 := Lib.hid (((HK2.out.set ⟨w.heap.size, 0, none⟩ (Or.inl (Nat.le_refl _)) (.int .i64 2)).set ⟨w.heap.size, 1, none⟩ (Or.inl (Nat.le_refl _)) (.string (s.extract X.at_ (X.at_ + runeLen X.rest)))).drew)
        go_region
        clear hc2 hlt2 hcT2 hfT2 hltT2
        go_wp2_with (go_at_call 29; go_must (refine (HStp.out _ HB3.out).mono ?_; rintro e w4 ⟨rfl, hb4, hk4⟩; have HB4 := Lib.hid hb4; have HT4 := Lib.hid (hk4.blk HT3.out (Nat.ne_of_gt HLt.out)); have HK4 := Lib.hid (HK3.out.trans (hk4.mono (fun _ _ h => h.2))); clear hb4 hk4))
        go_meet
        case rel => exact ⟨X.pass, 2, mkS (X.rest.take (X.pass.at_ - X.at_)), pl, HY.out, HP.out, HB4.out, by rw [← hEx.out, HPl.out]; exact HT4.out, HK4.out, HE.out⟩
      | false =>
        rw [hd] at hsi
        have HSi := Lib.hid hsi
        obtain ⟨Y, hY⟩ : ∃ Y, Lx.run (X.rest.length + 1) X = Y := ⟨_, rfl⟩
        have hTill := fun (w2 : World) (h2 : w2.heap[bp]? = some (SObj s (.map (some mb)) (.slice p5 out.length c5) X.at_ X.line X.col 0 pl)) (hT2 : Lib.Utf8Tabs 2 3 w2) => till_ends HL.out.ok HS.out HL.out.e h2 hT2 HL.out.three
        rw [till_run _ X HL.out.e (Nat.lt_succ_self _), hY] at hTill
        have hYok : Y.ok s := by rw [← hY]; exact Lx.run_ok _ _ HL.out.ok
        have hYle : Y.rest.length ≤ X.rest.length := by rw [← hY]; exact Lx.run_le _ _
        have hsh := Lx.step_shorter (k := X.rest.length) hrc (HN.out hA _ _ hrc) HL.out.e
        rw [if_neg (by rw [hd]; simp), hY] at hsh
        subst hr1 hr2 hr3
        by_cases hYe : Y.e = 0
        · have HTi := Lib.hid (fun w2 h2 hT2 => (hTill w2 h2 hT2).mono (R' := fun e w' => e = .returned (.bool true) ∧ (∃ pl : Int, w'.heap[bp]? = some (SObj s (.map (some mb)) (.slice p5 out.length c5) Y.at_ Y.line Y.col 0 pl)) ∧ Keep (fun k => k ≠ bp) w2 w') (fun e w' h => post_true hYe h))
          have hle := at_le HL.out.ok hYok hYle
          have HSr := Lib.hid (fun (k : Int) (l : List UInt8) (q : Int) hk => step_run (out := out) hrc hd hY hYe (k := k) (l := l) (q := q) hk)
          have HYe := Lib.hid hYe
          have HYok := Lib.hid hYok
          have h1 : (X.at_ : Int) ≤ (Y.at_ : Int) := by omega
          have h2 : (Y.at_ : Int) ≤ (s.size : Int) := by have := hYok.at_; omega
          obtain ⟨xs, hxs⟩ : ∃ xs, s.extract X.at_ Y.at_ = xs := ⟨_, rfl⟩
          have hxl : xs.data.toList = X.rest.take (Y.at_ - X.at_) := by rw [← hxs]; exact text_eq HL.out.ok
          have hxm : mkS xs.data.toList = xs := by cases xs; rfl
          have hxz : xs.size ≤ 65536 := by rw [← hxs, ByteArray.size_extract]; have := HS.out; omega
          have hxn : xs.data.toList ≠ [] := by
            have h3 := Lx.rest_len HL.out.ok
            have h4 := Lx.rest_len hYok
            have h5 : Y.rest.length < X.rest.length := by
              rcases hsh with h | h
              · exact absurd hYe h
              · exact h
            rw [hxl]
            intro h6
            have h7 := congrArg List.length h6
            rw [List.length_take, List.length_nil] at h7
            have := HL.out.ok.at_; have := hYok.at_
            omega
          rw [← hxl] at HSr
          have HXs := Lib.hid hxs
          have HXm := Lib.hid hxm
          have HXz := Lib.hid hxz
          have HXn := Lib.hid hxn
          clear hrc hsi hsf hd hA hle hTill hY hYok hYle hsh hYe hxs hxl hxm hxz hxn
          go_wp2_with (fail)
          go_quiet (fail)
          go_wp2_with (first
            | (go_at_call 28; go_must (refine (HSi.out _).mono ?_; rintro e w2 ⟨rfl, hk2⟩; have HB2 := Lib.hid (hk2.blk HB1.out trivial); have HT2 := Lib.hid (hk2.blk HT1.out trivial); have HK2 := Lib.hid ((HK1.out.drewN _).trans (hk2.mono (fun _ _ _ => trivial))); clear hk2))
            | (go_at_call 23; go_must (refine (HTi.out _ HB2.out (HL.out.tabsK HK2.out)).mono ?_; rintro e w3 ⟨rfl, ⟨q3, hb3⟩, hk3⟩; have HB3 := Lib.hid hb3; have HT3 := Lib.hid (hk3.blk HT2.out (Nat.ne_of_gt HLt.out)); have HK3 := Lib.hid (HK2.out.trans (hk3.mono (fun _ _ h => h.2))); clear hb3 hk3)))
          clear hc hlt hcT hfT hltT
          have hc3 := blk_cell HB3.out
          have hlt3 := blk_lt HB3.out
          have hcT3 := blk_cell HT3.out
          have hfT3 := blk_free HT3.out
          have hltT3 := blk_lt HT3.out
          go_region
          clear hc3 hlt3 hcT3 hfT3 hltT3
          have HB4 : Hid (((w3.setCell ⟨w.heap.size, 1, none⟩ (.string (s.extract X.at_ Y.at_))).drew).heap[bp]? = some (SObj s (.map (some mb)) (.slice p5 out.length c5) Y.at_ Y.line Y.col 0 q3)) := blk_other HB3.out _ (Nat.ne_of_lt HLt.out) _
          have HT4 : Hid (((w3.setCell ⟨w.heap.size, 1, none⟩ (.string (s.extract X.at_ Y.at_))).drew).heap[w.heap.size]? = some (TokObj 0 xs X.at_ X.line X.col)) := by show _ = _; rw [← HXs.out]; exact blk_set HT3.out 1 _
          have HK4 := Lib.hid ((HK3.out.set ⟨w.heap.size, 1, none⟩ (Or.inl (Nat.le_refl _)) (.string (s.extract X.at_ Y.at_))).drew)
          have HF4 : Hid (((w3.setCell ⟨w.heap.size, 1, none⟩ (.string (s.extract X.at_ Y.at_))).alloc (MethObj bp)).heap[w3.heap.size]? = some (MethObj bp)) := by
            have h8 := blk_new (w3.setCell ⟨w.heap.size, 1, none⟩ (.string (s.extract X.at_ Y.at_))) (MethObj bp)
            rw [size_set] at h8; exact h8
          go_wp2_with (fail)
          go_loopg [53] 3 (fun k i wr => ∃ m : Nat, i = .int .i64 m ∧ m + k = 3 ∧ (m = 0 ∨ (m = 1 ∧ isWord xs.data.toList = false) ∨ (m = 2 ∧ isWord xs.data.toList = false ∧ isDigits xs.data.toList = false)) ∧
            wr.heap[bp]? = some (SObj s (.map (some mb)) (.slice p5 out.length c5) Y.at_ Y.line Y.col 0 q3) ∧ wr.heap[w.heap.size]? = some (TokObj 0 xs X.at_ X.line X.col) ∧
            wr.heap[w3.heap.size]? = some (MethObj bp) ∧ Keep (fun j => j < w.heap.size ∧ j ≠ bp) w wr)
          case atStart => exact ⟨0, rfl, rfl, Or.inl rfl, blk_alloc HB4.out _, blk_alloc HT4.out _, HF4.out, HK4.out.alloc _⟩
          case round =>
            obtain ⟨m, rfl, hmk, hm, hb, ht, hf, hk⟩ := hrel
            have hcm := blk_cell hf
            have hlm := blk_lt hf
            have HB5 := Lib.hid hb
            have HT5 := Lib.hid ht
            have HF5 := Lib.hid hf
            have HK5 := Lib.hid hk
            have HWm := Lib.hid (HL.out.wmK hk)
            have HMk := Lib.hid hmk
            clear HB4 HT4 HK4 HF4 hmk hf hk
            rcases hm with rfl | ⟨rfl, hw⟩ | ⟨rfl, hw, hd⟩
            · cases hw : isWord xs.data.toList with
              | true =>
                have HE := Lib.hid (HSr.out _ _ _ (kind_word' hw))
                have HC := Lib.hid (asWord_yes hb ht HWm.out HXz.out hw)
                clear hb ht hw
                go_wp2_with (go_at_call 31; go_must (refine HC.out.mono ?_; rintro e w6 ⟨rfl, ht6, hk6⟩; have HT6 := Lib.hid ht6; have HB6 := Lib.hid (hk6.blk HB5.out (Nat.ne_of_lt HLt.out)); have HK6 := Lib.hid (HK5.out.trans (hk6.mono (fun _ _ h => Nat.ne_of_lt h.1))); clear ht6 hk6))
                go_meet
                case rel => exact ⟨Y, 2, _, q3, HYok.out, HYe.out, HB6.out, HT6.out, HK6.out, by rw [HE.out, if_neg (by simp)]⟩
              | false =>
                have HC := Lib.hid (asWord_no hb ht HWm.out HXz.out hw)
                have HW := Lib.hid hw
                clear hb ht hw
                go_wp2_with (go_at_call 31; go_must (refine HC.out.mono ?_; rintro e w6 ⟨rfl, hk6⟩; have HT6 := Lib.hid (hk6.blk HT5.out trivial); have HB6 := Lib.hid (hk6.blk HB5.out trivial); have HF6 := Lib.hid (hk6.blk HF5.out trivial); have HK6 := Lib.hid (HK5.out.trans (hk6.mono (fun _ _ _ => trivial))); clear hk6))
                go_roundg 2
                case measure => have := HMk.out; omega
                case rel => exact ⟨1, rfl, rfl, Or.inr (Or.inl ⟨rfl, HW.out⟩), HB6.out, HT6.out, HF6.out, HK6.out⟩
            · cases hd : isDigits xs.data.toList with
              | true =>
                obtain ⟨q, hq⟩ : ∃ q : Int, (if xs.data.toList.length > 9 then (41 : Int) else 0) = q := ⟨_, rfl⟩
                have HC := Lib.hid (asNumber_yes (bp := bp) ht HXz.out hd)
                rw [hq] at HC
                have he := HSr.out _ _ _ (kind_num' hw hd)
                rw [hq, HXm.out] at he
                clear hb ht hw hd hq
                by_cases hq0 : q = 0
                · have hq1 : (q != 0) = false := by rw [hq0]; rfl
                  rw [if_neg (by simp [hq0])] at he
                  have HE := Lib.hid he
                  clear he hq0
                  go_wp2_with (go_at_call 32; go_must (refine HC.out.mono ?_; rintro e w6 ⟨rfl, ht6, hk6⟩; have HT6 := Lib.hid ht6; have HB6 := Lib.hid (hk6.blk HB5.out (Nat.ne_of_lt HLt.out)); have HK6 := Lib.hid (HK5.out.trans (hk6.mono (fun _ _ h => Nat.ne_of_lt h.1))); clear ht6 hk6))
                  go_meet
                  case rel => exact ⟨Y, 3, _, q3, HYok.out, HYe.out, HB6.out, HT6.out, HK6.out, HE.out⟩
                · have hq1 : (q != 0) = true := by rw [bne_iff_ne]; exact hq0
                  rw [if_pos hq0] at he
                  have HE := Lib.hid (HSt.out.symm.trans he)
                  clear he hq0
                  go_wp2_with (first
                    | (go_at_call 32; go_must (refine HC.out.mono ?_; rintro e w6 ⟨rfl, ht6, hk6⟩; have HT6 := Lib.hid ht6; have hc6 := blk_cell HT6.out; have hl6 := blk_lt HT6.out; have HB6 := Lib.hid (hk6.blk HB5.out (Nat.ne_of_lt HLt.out)); have HK6 := Lib.hid (HK5.out.trans (hk6.mono (fun _ _ h => Nat.ne_of_lt h.1))); clear ht6 hk6))
                    | (go_at_call 34; go_must (refine (sfail_any HB6.out (X.at_ : Int) q).mono ?_; rintro e w7 ⟨rfl, hb7, hk7⟩; have HB7 := Lib.hid hb7; have HK7 := Lib.hid (HK6.out.trans (hk7.mono (fun _ _ h => h.2))); clear hb7 hk7)))
                  go_ret
                  rw [HE.out]
                  exact ⟨keep_low HK7.out, rfl, _, _, _, _, HB7.out⟩
              | false =>
                have HC := Lib.hid (asNumber_no (bp := bp) ht HXz.out hd)
                have HW := Lib.hid hw
                have HD := Lib.hid hd
                clear hb ht hw hd
                go_wp2_with (go_at_call 32; go_must (refine HC.out.mono ?_; rintro e w6 ⟨rfl, hk6⟩; have HT6 := Lib.hid (hk6.blk HT5.out trivial); have HB6 := Lib.hid (hk6.blk HB5.out trivial); have HF6 := Lib.hid (hk6.blk HF5.out trivial); have HK6 := Lib.hid (HK5.out.trans (hk6.mono (fun _ _ _ => trivial))); clear hk6))
                go_roundg 1
                case measure => have := HMk.out; omega
                case rel => exact ⟨2, rfl, rfl, Or.inr (Or.inr ⟨rfl, HW.out, HD.out⟩), HB6.out, HT6.out, HF6.out, HK6.out⟩
            · obtain ⟨q, hq⟩ : ∃ q : Int, (if xs.data.toList.length > 60 then (2 : Int) else if dots xs.data.toList then 41 else 0) = q := ⟨_, rfl⟩
              have HC := Lib.hid (asName_any (bp := bp) ht HXn.out)
              rw [hq] at HC
              have he := HSr.out _ _ _ (kind_name' hw hd)
              rw [hq, HXm.out] at he
              clear hb ht hw hd hq
              by_cases hq0 : q = 0
              · have hq1 : (q != 0) = false := by rw [hq0]; rfl
                rw [if_neg (by simp [hq0])] at he
                have HE := Lib.hid he
                clear he hq0
                go_wp2_with (go_at_call 33; go_must (refine HC.out.mono ?_; rintro e w6 ⟨rfl, ht6, hk6⟩; have HT6 := Lib.hid ht6; have HB6 := Lib.hid (hk6.blk HB5.out (Nat.ne_of_lt HLt.out)); have HK6 := Lib.hid (HK5.out.trans (hk6.mono (fun _ _ h => Nat.ne_of_lt h.1))); clear ht6 hk6))
                go_meet
                case rel => exact ⟨Y, 1, _, q3, HYok.out, HYe.out, HB6.out, HT6.out, HK6.out, HE.out⟩
              · have hq1 : (q != 0) = true := by rw [bne_iff_ne]; exact hq0
                rw [if_pos hq0] at he
                have HE := Lib.hid (HSt.out.symm.trans he)
                clear he hq0
                go_wp2_with (first
                  | (go_at_call 33; go_must (refine HC.out.mono ?_; rintro e w6 ⟨rfl, ht6, hk6⟩; have HT6 := Lib.hid ht6; have hc6 := blk_cell HT6.out; have hl6 := blk_lt HT6.out; have HB6 := Lib.hid (hk6.blk HB5.out (Nat.ne_of_lt HLt.out)); have HK6 := Lib.hid (HK5.out.trans (hk6.mono (fun _ _ h => Nat.ne_of_lt h.1))); clear ht6 hk6))
                  | (go_at_call 34; go_must (refine (sfail_any HB6.out (X.at_ : Int) q).mono ?_; rintro e w7 ⟨rfl, hb7, hk7⟩; have HB7 := Lib.hid hb7; have HK7 := Lib.hid (HK6.out.trans (hk7.mono (fun _ _ h => h.2))); clear hb7 hk7)))
                go_ret
                rw [HE.out]
                exact ⟨keep_low HK7.out, rfl, _, _, _, _, HB7.out⟩
        · have HTi := Lib.hid (fun w2 h2 hT2 => (hTill w2 h2 hT2).mono (R' := fun e w' => e = .returned (.bool false) ∧ w'.heap[bp]? = some (SObj s (.map (some mb)) (.slice p5 out.length c5) Y.at_ Y.line Y.col Y.e Y.at_) ∧ Keep (fun k => k ≠ bp) w2 w') (fun e w' h => post_false hYe h))
          have HE : Hid (st = .err Y.at_ Y.e) := by show _ = _; rw [← HSt.out]; exact step_bad hrc hd hY hYe
          clear hrc hsi hsf hd hA hTill hY hYok hYle hsh hYe
          go_wp2_with (fail)
          go_quiet (fail)
          go_wp2_with (first
            | (go_at_call 28; go_must (refine (HSi.out _).mono ?_; rintro e w2 ⟨rfl, hk2⟩; have HB2 := Lib.hid (hk2.blk HB1.out trivial); have HK2 := Lib.hid ((HK1.out.drewN _).trans (hk2.mono (fun _ _ _ => trivial))); clear hk2))
            | (go_at_call 23; go_must (refine (HTi.out _ HB2.out (HL.out.tabsK HK2.out)).mono ?_; rintro e w3 ⟨rfl, hb3, hk3⟩; have HB3 := Lib.hid hb3; have HK3 := Lib.hid (HK2.out.trans (hk3.mono (fun _ _ h => h.2))); clear hb3 hk3)))
          go_ret
          rw [HE.out]
          exact ⟨keep_low HK3.out, rfl, _, _, _, _, HB3.out⟩
    · obtain hAe : X.at_ = s.size := by have := HL.out.ok.at_; omega
      have hA' : ((X.at_ : Int) == (s.size : Int)) = true := beq_iff_eq.2 (by omega)
      have HE := Lib.hid (step_end (out := out) (rest_nil HL.out.ok hA))
      clear hA hAe
      go_wp2_with (fail)
      go_quiet (fail)
      go_wp2_with (fail)
      go_meet
      case rel => exact ⟨X, 7, mkS [], pl, HL.out.ok, HL.out.e, blk_other HB1.out _ (Nat.ne_of_lt HLt.out) _, blk_set HT1.out 0 _, (HK1.out.drewN _).set _ (Or.inl (Nat.le_refl _)) _, HE.out⟩
  case rest =>
    obtain ⟨Y, k, x, ql, hYok, hYe, hb, ht, hk, hE⟩ := hcut
    have hc := blk_cell hb
    have hlt := blk_lt hb
    have hf := blk_free hb
    have hcT := blk_cell ht
    have hltT := blk_lt ht
    have HB := Lib.hid hb
    have HT := Lib.hid ht
    have HK := Lib.hid hk
    by_cases hl : 20000 ≤ out.length
    · have hl' : (out.length : Int) ≥ 20000 := by omega
      have HE : Hid (st = .err X.at_ 2) := by show _ = _; rw [← HSt.out, hE]; unfold tailOf; rw [if_pos hl]
      have HF := Lib.hid (sfail_any hb (X.at_ : Int) 2)
      clear hb ht hk hE hl
      go_wp2_with (go_at_call 34; go_must (refine HF.out.mono ?_; rintro e w2 ⟨rfl, hb2, hk2⟩; have HB2 := Lib.hid hb2; have HK2 := Lib.hid hk2; clear hb2 hk2))
      go_ret
      rw [HE.out]
      exact ⟨keep_low (HK.out.trans (HK2.out.mono (fun _ _ h => h.2))), rfl, _, _, _, _, HB2.out⟩
    · have hl' : ¬ (out.length : Int) ≥ 20000 := by omega
      have HO1 : Hid (((wc.alloc (TokObj k x X.at_ X.line X.col)).drew).ownsRow (bp + 1) 28 5 (.slice p5 out.length c5) out.length (Toks out)) := (HL.out.ownK hk).alloc _
      have HO2 : Hid (((wc.alloc (TokObj k x X.at_ X.line X.col)).drew).heap[wc.heap.size]? = some (TokObj k x X.at_ X.line X.col)) := blk_new _ _
      have HO3 : Hid (out.length < 200000) := by show _ < _; omega
      have HO4 : Hid (bp + 1 ≤ ((wc.alloc (TokObj k x X.at_ X.line X.col)).drew).heap.size) := by show _ ≤ _; have h1 : ((wc.alloc (TokObj k x X.at_ X.line X.col)).drew).heap.size = wc.heap.size + 1 := size_alloc' _ _; omega
      have HV : Hid ((Value.slice p5 out.length c5).ownBlock ≠ some bp ∧ (Value.slice p5 out.length c5).ownBlock ≠ some w.heap.size) := ⟨fun e => by have := own_ge HL.out.own bp e; omega, own_not HL.out.own (Nat.le_refl _)⟩
      by_cases h7 : k = 7
      · have h7' : (k != 7) = false := by rw [h7]; rfl
        have HE : Hid (st = .done (out ++ [⟨k, x, X.at_, X.line, X.col⟩])) := by show _ = _; rw [← HSt.out, hE]; unfold tailOf; rw [if_neg hl, if_pos h7]
        clear hb ht hk hE hl h7
        go_wp2_with (fail)
        clear hl'
        go_region_law (refine step_append_tok rfl _ _ rfl (bp + 1) _ out rfl HO1.out wc.heap.size ⟨k, x, X.at_, X.line, X.col⟩ rfl HO2.out HO3.out HO4.out ?_; intro g cap w2 hown hg hat; have HP := Lib.hid (app_done HK.out HB.out (t := ⟨k, x, X.at_, X.line, X.col⟩) HV.out hown hg (own_ge HL.out.own)); have hB2 := blk_cell (grown_old hg (blk_alloc HB.out _) HV.out.1); have hF2 := blk_free (grown_old hg (blk_alloc HB.out _) HV.out.1); have hL2 := blk_lt (grown_old hg (blk_alloc HB.out _) HV.out.1); have hT2 := blk_cell (grown_old hg (blk_alloc HT.out _) HV.out.2); have hT3 := blk_lt (grown_old hg (blk_alloc HT.out _) HV.out.2); clear hown hg hat)
        all_goals
          have HBf := Lib.hid HP.out.1
          have HOf := Lib.hid HP.out.2.1
          have HKf := Lib.hid HP.out.2.2
          go_wp2_with (fail)
          go_ret
          rw [HE.out]
          exact ⟨HKf.out, rfl, _, _, _, _, _, HBf.out, HOf.out⟩
      · have h7' : (k != 7) = true := by rw [bne_iff_ne]; exact h7
        have HE : Hid (st = .go Y (out ++ [⟨k, x, X.at_, X.line, X.col⟩])) := by show _ = _; rw [← HSt.out, hE]; unfold tailOf; rw [if_neg hl, if_neg h7]
        have HYok := Lib.hid hYok
        have HYe := Lib.hid hYe
        clear hb ht hk hE hl h7
        go_wp2_with (fail)
        clear hl'
        go_region_law (refine step_append_tok rfl _ _ rfl (bp + 1) _ out rfl HO1.out wc.heap.size ⟨k, x, X.at_, X.line, X.col⟩ rfl HO2.out HO3.out HO4.out ?_; intro g cap w2 hown hg hat; have HP := Lib.hid (app_done HK.out HB.out (t := ⟨k, x, X.at_, X.line, X.col⟩) HV.out hown hg (own_ge HL.out.own)); have hB2 := blk_cell (grown_old hg (blk_alloc HB.out _) HV.out.1); have hF2 := blk_free (grown_old hg (blk_alloc HB.out _) HV.out.1); have hL2 := blk_lt (grown_old hg (blk_alloc HB.out _) HV.out.1); have hT2 := blk_cell (grown_old hg (blk_alloc HT.out _) HV.out.2); have hT3 := blk_lt (grown_old hg (blk_alloc HT.out _) HV.out.2); clear hown hg hat)
        all_goals
          have HBf := Lib.hid HP.out.1
          have HOf := Lib.hid HP.out.2.1
          have HKf := Lib.hid HP.out.2.2
          go_wp2_with (fail)
          go_ret
          rw [HE.out]
          exact ⟨HKf.out, rfl, _, ⟨HYok.out, HYe.out, ⟨_, HBf.out⟩, HOf.out, HL.out.wm.keep HKf.out HL.out.mlt, HL.out.mlt, HL.out.three, tabs_keep HL.out.tabs HKf.out (by have := HL.out.three; omega) HL.out.three⟩⟩
end Go.Proofs.YtglkdhodpgnlgaaDoor
