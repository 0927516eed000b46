/-
  Package layout's token: the four rules, and what stands behind. Condition: the placer lies in memory as 'Pl' says, a token is looked at, the stack is not empty.
-/
import Derived.Test.YtglkdhodpgnlgaaLayLin2
import Derived.Test.YtglkdhodpgnlgaaLayBeh2
import Derived.Test.YtglkdhodpgnlgaaLayI
namespace Go.Proofs.Ytglkdhodpgnlgaa
open Go.RowKit Go.Tel

section
variable (inn : List Tok)
def PS.rule (i : Nat) (S : PS) : Bool × PS := if i = 0 then S.line inn else if i = 1 then S.inward inn else if i = 2 then S.last inn else S.brace inn
def PS.rules : Nat → Nat → PS → Bool × PS
  | 0, _, S => (true, S)
  | k + 1, i, S => if (PS.rule inn i S).1 then PS.rules k (i + 1) (PS.rule inn i S).2 else (false, (PS.rule inn i S).2)
def PS.after (S : PS) : Bool × PS :=
  if S.done = true then PS.behind inn S else if (PS.put (S.now inn) S).1 then PS.behind inn (PS.put (S.now inn) S).2 else (false, (PS.put (S.now inn) S).2)
def PS.rest (a : Bool × PS) : Bool × PS := if a.1 then PS.after inn { a.2 with first := false } else (false, a.2)
end
theorem PS.token_eq (inn : List Tok) (S : PS) : PS.token inn S = PS.rest inn (PS.rules inn 4 0 { S with done := false }) := by
  have e0 : ∀ T, PS.rule inn 0 T = T.line inn := fun _ => rfl
  have e1 : ∀ T, PS.rule inn (0 + 1) T = T.inward inn := fun _ => rfl
  have e2 : ∀ T, PS.rule inn (0 + 1 + 1) T = T.last inn := fun _ => rfl
  have e3 : ∀ T, PS.rule inn (0 + 1 + 1 + 1) T = T.brace inn := fun _ => rfl
  have fo : ∀ a : Bool × PS, a.1 = false → a = (false, a.2) := fun a h => Prod.ext h rfl
  unfold PS.token PS.rest
  simp only [PS.rules, e0, e1, e2, e3]
  cases h1 : (PS.line inn { S with done := false }).1
  · rw [if_pos rfl, if_neg Bool.false_ne_true, if_neg Bool.false_ne_true]; exact fo _ h1
  · rw [if_neg (by decide), if_pos rfl]
    cases h2 : (PS.inward inn (PS.line inn { S with done := false }).2).1
    · rw [if_pos rfl, if_neg Bool.false_ne_true, if_neg Bool.false_ne_true]; exact fo _ h2
    · rw [if_neg (by decide), if_pos rfl]
      cases h3 : (PS.last inn (PS.inward inn (PS.line inn { S with done := false }).2).2).1
      · rw [if_pos rfl, if_neg Bool.false_ne_true, if_neg Bool.false_ne_true]; exact fo _ h3
      · rw [if_neg (by decide), if_pos rfl]
        cases h4 : (PS.brace inn (PS.last inn (PS.inward inn (PS.line inn { S with done := false }).2).2).2).1
        · rw [if_pos rfl, if_neg Bool.false_ne_true, if_neg Bool.false_ne_true]; exact fo _ h4
        · rw [if_neg (by decide), if_pos rfl, if_pos rfl]; rfl

theorem isW_kind {t : Tok} {l : List UInt8} (h : isW t l = true) : t.kind = 2 := by
  unfold isW at h; rw [Bool.and_eq_true] at h; exact beq_iff_eq.1 h.1
theorem opener_kind {t : Tok} (h : isOpener t = true) : t.kind = 2 := by
  unfold isOpener at h
  simp only [Bool.or_eq_true] at h
  rcases h with ((h | h) | h) | h <;> exact isW_kind h

/-- What the rules ask of the state, ahead of rule i. -/
def PS.Good (inn : List Tok) (S : PS) (i : Nat) (T : PS) : Prop := T.at_ = S.at_ ∧ (i ≤ 2 → T.Inv) ∧ ((S.now inn).kind ≠ 7 → T.Inv)
theorem now_eq {inn : List Tok} {S T : PS} (h : T.at_ = S.at_) : T.now inn = S.now inn := by unfold PS.now; rw [h]
theorem PS.Good.step {inn : List Tok} {S T : PS} {i : Nat} (h : S.Good inn i T) : S.Good inn (i + 1) (T.rule inn i).2 := by
  obtain ⟨h1, h2, h3⟩ := h
  unfold PS.rule
  by_cases e0 : i = 0
  · rw [if_pos e0]; exact ⟨by rw [(line_keep T).1, h1], fun _ => (line_keep T).2 (h2 (by omega)), fun _ => (line_keep T).2 (h2 (by omega))⟩
  · rw [if_neg e0]
    by_cases e1 : i = 1
    · rw [if_pos e1]; exact ⟨by rw [(inward_keep T).1, h1], fun _ => (inward_keep T).2 (h2 (by omega)), fun _ => (inward_keep T).2 (h2 (by omega))⟩
    · rw [if_neg e1]
      by_cases e2 : i = 2
      · rw [if_pos e2]; exact ⟨by rw [(last_keep T).1, h1], fun _ => by omega, fun hk => (last_keep T).2 (by rw [now_eq h1]; exact hk) (h3 hk)⟩
      · rw [if_neg e2]; exact ⟨by rw [(brace_keep T).1, h1], fun _ => by omega, fun hk => (brace_keep T).2 (h3 hk)⟩

section
variable {w : World} {bp bi ci : Nat} {X : Nat → Prop} {inn : List Tok} {S : PS}
set_option maxRecDepth 100000 in
set_option maxHeartbeats 4000000 in
theorem ltoken_any (h : Pl w bp bi ci X inn S) (hat : S.at_ < inn.length) (hi : S.Inv) (hne : (S.now inn).kind ≠ 7 → S.at_ + 1 < inn.length) :
    Calls Try.prog 17 #[.pointer (some ⟨bp, 0, none⟩)] w (PlPost bp bi ci X inn (.bool (PS.token inn S).1) (PS.token inn S).2 w) := by
  rw [PS.token_eq]
  obtain ⟨vs, vo, h⟩ := h
  have HX := Lib.hid h.xbi
  have hc := blk_cell h.blk
  have hf := blk_free h.blk
  have hbp := blk_lt h.blk
  have HXb : Hid (¬ X bp) := fun hx => (h.kept bp hx).1 rfl
  have hP1 := Lib.hid (fun o => (h.setDone false).guard o)
  have HKA := Lib.hid (fun o => (Keep.setX (Keep.refl X w) HXb.out 7 (.bool false)).alloc o)
  have HBt := Lib.hid (fun o => blk_new (w.setCell ⟨bp, 7, none⟩ (.bool false)) o)
  rw [show (w.setCell ⟨bp, 7, none⟩ (.bool false)).heap.size = w.heap.size from by simp] at hP1 HBt
  have HG0 : Hid (S.Good inn 0 { S with done := false }) := ⟨rfl, fun _ => inv_stk hi rfl, fun _ => inv_stk hi rfl⟩
  have HRule : Hid (∀ (w1 : World) (T : PS) (i : Nat), Pl w1 bp bi ci (And1 X w.heap.size) inn T → S.Good inn i T → i < 4 → Calls Try.prog (30 + i) #[.pointer (some ⟨bp, 0, none⟩)] w1 (PlPost bp bi ci (And1 X w.heap.size) inn (.bool (PS.rule inn i T).1) (PS.rule inn i T).2 w1)) := by
    intro w1 T i hp hg hlt
    have ha : T.at_ < inn.length := by rw [hg.1]; exact hat
    unfold PS.rule
    rcases (by omega : i = 0 ∨ i = 1 ∨ i = 2 ∨ i = 3) with rfl | rfl | rfl | rfl
    · exact lline_any hp ha (hg.2.1 (by omega)).pos
    · exact linward_any hp ha (hg.2.1 (by omega)).pos
    · exact llast_any hp ha
    · exact lbrace_any hp ha
  have HNow : Hid (∀ (w1 : World) (T : PS), Pl w1 bp bi ci (And1 X w.heap.size) inn T → T.at_ = S.at_ → Calls Try.prog 35 #[.pointer (some ⟨bp, 0, none⟩)] w1 fun e w' => e = .returned (.agg #[.int .i64 (S.now inn).kind, .string (S.now inn).text, .int .i64 (S.now inn).at_, .int .i64 (S.now inn).line, .int .i64 (S.now inn).col]) ∧ (w1.alloc (tokObj (S.now inn))).drew = w') := by
    intro w1 T ⟨_, _, hp⟩ he
    have := lnow_any hp (by rw [he]; exact hat)
    rw [now_eq he] at this; exact this
  have HPut : Hid (∀ (w1 : World) (T : PS), Pl w1 bp bi ci (And1 X w.heap.size) inn T → Calls Try.prog 34 #[.pointer (some ⟨bp, 0, none⟩), .agg #[.int .i64 (S.now inn).kind, .string (S.now inn).text, .int .i64 (S.now inn).at_, .int .i64 (S.now inn).line, .int .i64 (S.now inn).col]] w1 (PlPost bp bi ci (And1 X w.heap.size) inn (.bool (PS.put (S.now inn) T).1) (PS.put (S.now inn) T).2 w1)) := fun w1 T hp => lput_any hp (S.now inn)
  have HBeh : Hid (∀ (w1 : World) (T : PS), Pl w1 bp bi ci (And1 X w.heap.size) inn T → T.at_ = S.at_ → ((S.now inn).kind ≠ 7 → T.Inv) → Calls Try.prog 36 #[.pointer (some ⟨bp, 0, none⟩)] w1 (PlPost bp bi ci (And1 X w.heap.size) inn (.bool (PS.behind inn T).1) (PS.behind inn T).2 w1)) := by
    intro w1 T hp he hq
    refine lbehind_any hp (by rw [he]; exact hat) (fun ho => ?_)
    rw [now_eq he] at ho
    have hk : (S.now inn).kind ≠ 7 := by rw [opener_kind ho]; decide
    exact ⟨by rw [he]; exact hne hk, (hq hk).pos⟩
  obtain ⟨R, hR⟩ : ∃ R, Hid (PS.rest inn (PS.rules inn 4 0 { S with done := false }) = R) := ⟨_, Lib.hid rfl⟩
  have HR1 := hR
  rw [HR1.out]; clear HR1
  clear h hat hi hne
  go_enter Try.func17, Try.ntmps17
  go_wp2_with (fail)
  go_loopg [20] 4 (fun k v wr => ∃ (i : Nat) (T : PS), v = .int .i64 i ∧ i + k = 4 ∧ Pl wr bp bi ci (And1 X w.heap.size) inn T ∧ Keep X w wr ∧ S.Good inn i T ∧ PS.rest inn (PS.rules inn k i T) = R ∧
    wr.heap[w.heap.size]? = some (.cells #[.func (.func 30) #[.pointer (some ⟨bp, 0, none⟩)] #[], .func (.func 31) #[.pointer (some ⟨bp, 0, none⟩)] #[], .func (.func 32) #[.pointer (some ⟨bp, 0, none⟩)] #[], .func (.func 33) #[.pointer (some ⟨bp, 0, none⟩)] #[]] 22 (0, 0)))
  case atStart => exact ⟨0, _, rfl, rfl, Pl.of (hP1.out _), HKA.out _, HG0.out, hR.out, HBt.out _⟩
  case round =>
    obtain ⟨i, T, rfl, hik, hp, hk, hg, hr, hb⟩ := hrel
    have hcb := blk_cell hb
    have hlb := blk_lt hb
    clear hc hf hbp
    obtain ⟨vs1, vo1, hp⟩ := hp
    have hc := blk_cell hp.blk
    have hf := blk_free hp.blk
    have hbp := blk_lt hp.blk
    have HP := Lib.hid hp
    have HK := Lib.hid hk
    have HG := Lib.hid hg
    have HB := Lib.hid hb
    have hgk : gk = 4 - i := by omega
    subst hgk
    have hi4 : i ≤ 4 := by omega
    rcases (by omega : i = 0 ∨ i = 1 ∨ i = 2 ∨ i = 3 ∨ i = 4) with rfl | rfl | rfl | rfl | rfl
    · obtain ⟨r, hr1⟩ : ∃ r, r = PS.rule inn 0 T := ⟨_, rfl⟩
      have HR1 : Hid (PS.rest inn (if r.1 then PS.rules inn 3 1 r.2 else (false, r.2)) = R) := by rw [hr1]; exact hr
      have HS : Hid (S.Good inn 1 r.2) := by rw [hr1]; exact hg.step
      have HL : Hid (Calls Try.prog 30 #[.pointer (some ⟨bp, 0, none⟩)] wr (PlPost bp bi ci (And1 X w.heap.size) inn (.bool r.1) r.2 wr)) := by rw [hr1]; exact HRule.out wr T 0 (Pl.of hp) hg (by decide)
      obtain ⟨b, T1⟩ := r
      clear hr1 hr hp hk hg hb hik hi4
      cases b
      all_goals
        go_wp2_with (go_at_call 30; go_must (refine HL.out.mono ?_; rintro e w1 ⟨rfl, hp1, hk1⟩; have HP1 := Lib.hid hp1; have HK1 := Lib.hid hk1; clear hp1 hk1))
      · go_ret
        have e : R = (false, T1) := HR1.out.symm
        rw [e]
        exact pl_close (HP1.out.back HX.out) (HK.out.trans (And1.keep HK1.out))
      · go_roundg 3
        case measure => decide
        case rel => exact ⟨1, T1, rfl, rfl, HP1.out, HK.out.trans (And1.keep HK1.out), HS.out, HR1.out, And1.blk HK1.out HB.out⟩
    · obtain ⟨r, hr1⟩ : ∃ r, r = PS.rule inn 1 T := ⟨_, rfl⟩
      have HR1 : Hid (PS.rest inn (if r.1 then PS.rules inn 2 2 r.2 else (false, r.2)) = R) := by rw [hr1]; exact hr
      have HS : Hid (S.Good inn 2 r.2) := by rw [hr1]; exact hg.step
      have HL : Hid (Calls Try.prog 31 #[.pointer (some ⟨bp, 0, none⟩)] wr (PlPost bp bi ci (And1 X w.heap.size) inn (.bool r.1) r.2 wr)) := by rw [hr1]; exact HRule.out wr T 1 (Pl.of hp) hg (by decide)
      obtain ⟨b, T1⟩ := r
      clear hr1 hr hp hk hg hb hik hi4
      cases b
      all_goals
        go_wp2_with (go_at_call 31; go_must (refine HL.out.mono ?_; rintro e w1 ⟨rfl, hp1, hk1⟩; have HP1 := Lib.hid hp1; have HK1 := Lib.hid hk1; clear hp1 hk1))
      · go_ret
        have e : R = (false, T1) := HR1.out.symm
        rw [e]
        exact pl_close (HP1.out.back HX.out) (HK.out.trans (And1.keep HK1.out))
      · go_roundg 2
        case measure => decide
        case rel => exact ⟨2, T1, rfl, rfl, HP1.out, HK.out.trans (And1.keep HK1.out), HS.out, HR1.out, And1.blk HK1.out HB.out⟩
    · obtain ⟨r, hr1⟩ : ∃ r, r = PS.rule inn 2 T := ⟨_, rfl⟩
      have HR1 : Hid (PS.rest inn (if r.1 then PS.rules inn 1 3 r.2 else (false, r.2)) = R) := by rw [hr1]; exact hr
      have HS : Hid (S.Good inn 3 r.2) := by rw [hr1]; exact hg.step
      have HL : Hid (Calls Try.prog 32 #[.pointer (some ⟨bp, 0, none⟩)] wr (PlPost bp bi ci (And1 X w.heap.size) inn (.bool r.1) r.2 wr)) := by rw [hr1]; exact HRule.out wr T 2 (Pl.of hp) hg (by decide)
      obtain ⟨b, T1⟩ := r
      clear hr1 hr hp hk hg hb hik hi4
      cases b
      all_goals
        go_wp2_with (go_at_call 32; go_must (refine HL.out.mono ?_; rintro e w1 ⟨rfl, hp1, hk1⟩; have HP1 := Lib.hid hp1; have HK1 := Lib.hid hk1; clear hp1 hk1))
      · go_ret
        have e : R = (false, T1) := HR1.out.symm
        rw [e]
        exact pl_close (HP1.out.back HX.out) (HK.out.trans (And1.keep HK1.out))
      · go_roundg 1
        case measure => decide
        case rel => exact ⟨3, T1, rfl, rfl, HP1.out, HK.out.trans (And1.keep HK1.out), HS.out, HR1.out, And1.blk HK1.out HB.out⟩
    · obtain ⟨r, hr1⟩ : ∃ r, r = PS.rule inn 3 T := ⟨_, rfl⟩
      have HR1 : Hid (PS.rest inn (if r.1 then PS.rules inn 0 4 r.2 else (false, r.2)) = R) := by rw [hr1]; exact hr
      have HS : Hid (S.Good inn 4 r.2) := by rw [hr1]; exact hg.step
      have HL : Hid (Calls Try.prog 33 #[.pointer (some ⟨bp, 0, none⟩)] wr (PlPost bp bi ci (And1 X w.heap.size) inn (.bool r.1) r.2 wr)) := by rw [hr1]; exact HRule.out wr T 3 (Pl.of hp) hg (by decide)
      obtain ⟨b, T1⟩ := r
      clear hr1 hr hp hk hg hb hik hi4
      cases b
      all_goals
        go_wp2_with (go_at_call 33; go_must (refine HL.out.mono ?_; rintro e w1 ⟨rfl, hp1, hk1⟩; have HP1 := Lib.hid hp1; have HK1 := Lib.hid hk1; clear hp1 hk1))
      · go_ret
        have e : R = (false, T1) := HR1.out.symm
        rw [e]
        exact pl_close (HP1.out.back HX.out) (HK.out.trans (And1.keep HK1.out))
      · go_roundg 0
        case measure => decide
        case rel => exact ⟨4, T1, rfl, rfl, HP1.out, HK.out.trans (And1.keep HK1.out), HS.out, HR1.out, And1.blk HK1.out HB.out⟩
    · have HR1 : Hid (PS.after inn { T with first := false } = R) := hr
      have HPf := Lib.hid (hp.setFirst false)
      have HNxb : Hid (¬ And1 X w.heap.size bp) := fun hx => (hp.kept bp hx).1 rfl
      have HKf := Lib.hid (Keep.setX (Keep.refl (And1 X w.heap.size) wr) HNxb.out 6 (.bool false))
      have HTa : Hid (T.at_ = S.at_) := hg.1
      have HTi : Hid ((S.now inn).kind ≠ 7 → ({ T with first := false } : PS).Inv) := fun h => inv_stk (hg.2.2 h) rfl
      clear hr hp hk hg hb hik hi4
      cases hd : T.done with
      | true =>
        have HR2 : Hid (PS.behind inn { T with first := false } = R) := by show _ = _; rw [← HR1.out]; unfold PS.after; rw [if_pos hd]
        rw [hd] at hc
        have HBe : Hid (∀ w1, Pl w1 bp bi ci (And1 X w.heap.size) inn { T with first := false } → Calls Try.prog 36 #[.pointer (some ⟨bp, 0, none⟩)] w1 (PlPost bp bi ci (And1 X w.heap.size) inn (.bool R.1) R.2 w1)) := fun w1 hp => by
          have := HBeh.out w1 _ hp HTa.out HTi.out
          rw [HR2.out] at this; exact this
        go_wp2_with (go_at_call 36; go_must (refine (HBe.out _ (Pl.of HPf.out)).mono ?_; rintro e w1 ⟨rfl, hp1, hk1⟩; have HP1 := Lib.hid hp1; have HK1 := Lib.hid hk1; clear hp1 hk1))
        go_ret
        exact pl_close (HP1.out.back HX.out) (HK.out.trans ((And1.keep HKf.out).trans (And1.keep HK1.out)))
      | false =>
        obtain ⟨r, hr1⟩ : ∃ r, r = PS.put (S.now inn) { T with first := false } := ⟨_, rfl⟩
        have hnow : PS.now inn { T with first := false } = S.now inn := now_eq HTa.out
        have HR2 : Hid ((if r.1 then PS.behind inn r.2 else (false, r.2)) = R) := by
          show _ = _; rw [← HR1.out]; unfold PS.after; rw [hnow, ← hr1]; dsimp only; rw [hd, if_neg Bool.false_ne_true]
        have HPu : Hid (∀ w1, Pl w1 bp bi ci (And1 X w.heap.size) inn { T with first := false } → Calls Try.prog 34 #[.pointer (some ⟨bp, 0, none⟩), .agg #[.int .i64 (S.now inn).kind, .string (S.now inn).text, .int .i64 (S.now inn).at_, .int .i64 (S.now inn).line, .int .i64 (S.now inn).col]] w1 (PlPost bp bi ci (And1 X w.heap.size) inn (.bool r.1) r.2 w1)) := fun w1 hp => by rw [hr1]; exact HPut.out w1 _ hp
        have HTa2 : Hid (r.2.at_ = S.at_) := by rw [hr1]; exact (put_keep _ _).2.trans HTa.out
        have HTi2 : Hid ((S.now inn).kind ≠ 7 → r.2.Inv) := fun h => by rw [hr1]; exact inv_stk (HTi.out h) (put_keep _ _).1
        have HBe : Hid (∀ w1, Pl w1 bp bi ci (And1 X w.heap.size) inn r.2 → Calls Try.prog 36 #[.pointer (some ⟨bp, 0, none⟩)] w1 (PlPost bp bi ci (And1 X w.heap.size) inn (.bool (PS.behind inn r.2).1) (PS.behind inn r.2).2 w1)) := fun w1 hp => HBeh.out w1 _ hp HTa2.out HTi2.out
        clear hr1 hnow
        obtain ⟨b, T1⟩ := r
        rw [hd] at hc
        generalize S.now inn = t at *
        cases b
        all_goals
          go_wp2_with (first
            | (go_at_call 35; go_must (refine (HNow.out _ _ (Pl.of HPf.out) HTa.out).mono ?_; rintro e w1 ⟨rfl, rfl⟩))
            | (go_at_call 34; go_must (refine (HPu.out _ (Pl.of ((HPf.out.alloc _).drew))).mono ?_; rintro e w1 ⟨rfl, hp1, hk1⟩; have HP1 := Lib.hid hp1; have HK1 := Lib.hid hk1; clear hp1 hk1))
            | (go_at_call 36; go_must (refine (HBe.out _ HP1.out).mono ?_; rintro e w2 ⟨rfl, hp2, hk2⟩; have HP2 := Lib.hid hp2; have HK2 := Lib.hid hk2; clear hp2 hk2)))
          go_ret
        · rw [show R = (false, T1) from HR2.out.symm]
          exact pl_close (HP1.out.back HX.out) (HK.out.trans ((((And1.keep HKf.out).alloc _).drew).trans (And1.keep HK1.out)))
        · rw [show R = PS.behind inn T1 from HR2.out.symm]
          exact pl_close (HP2.out.back HX.out) (HK.out.trans (((((And1.keep HKf.out).alloc _).drew).trans (And1.keep HK1.out)).trans (And1.keep HK2.out)))
end
end Go.Proofs.Ytglkdhodpgnlgaa
