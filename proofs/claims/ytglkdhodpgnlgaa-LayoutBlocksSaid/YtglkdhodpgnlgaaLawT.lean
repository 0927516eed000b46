/-
  The law's told and alive. Condition: the text is no longer than 65536 bytes; its tokens end by one token of the end.
-/
import Derived.Test.YtglkdhodpgnlgaaLawK
import Derived.Test.YtglkdhodpgnlgaaRTok
namespace Go.Proofs.Ytglkdhodpgnlgaa
open Go.RowKit Go.Tel

def toldP (l : List UInt8) : ByteArray :=
  if (refTokens l).2.2 ≠ 0 then ⟨#[63]⟩ else if (layBlocks (refTokens l).1).2.2 ≠ 0 then ⟨#[33]⟩ else kAll ⟨#[]⟩ (layBlocks (refTokens l).1).1

/-- The row that Tokens gives, as Blocks takes it. -/
theorem row_in {w : World} {base : Nat} {v : Value} {out : List Tok} (h : w.ownsRow base 27 5 v out.length (Toks out)) (hp : 0 < out.length) (hl : out.length < 100000) :
    ∃ g c, v = .slice (some ⟨g, 0, none⟩) out.length c ∧ base ≤ g ∧ g < w.heap.size ∧ InRow w g out ∧ out.length ≤ c ∧ (c : Int) ≤ 9223372036854775807 := by
  rcases h.2 with ⟨_, h0⟩ | ⟨g, c, cur, hv, hb, hg, hc, hm, _, ht⟩
  · omega
  · exact ⟨g, c, hv, hb, blk_lt hg, ⟨cur, hg, ht, hl⟩, hc, by unfold maxLen at hm; omega⟩

theorem Keep.old {w w' : World} (h : Keep (fun k => k < w.heap.size) w w') : Keep (fun _ => True) w w' := ⟨h.os, h.tape, h.output, h.size, fun k hk _ => h.block k hk hk⟩

set_option maxRecDepth 100000 in
set_option maxHeartbeats 2000000 in
theorem told_any (s : ByteArray) (w : World) (hs : (s.size : Int) ≤ 65536) (hE : (refTokens s.data.toList).2.2 = 0 → Ended (refTokens s.data.toList).1 ∧ (refTokens s.data.toList).1.length < 100000)
    (hZ : (kAll ⟨#[]⟩ (layBlocks (refTokens s.data.toList).1).1).size ≤ 9223372036854775807) :
    Calls Try.prog 12 #[.string s] w fun e w' => e = .returned (.string (toldP s.data.toList)) ∧ Keep (fun _ => True) w w' := by
  have HT := Lib.hid (rtokens_small s w hs)
  unfold toldP
  unfold TokPost at HT
  generalize refTokens s.data.toList = R at *
  obtain ⟨l, a, e⟩ := R
  dsimp only at hE hZ HT ⊢
  by_cases he : e = 0
  · obtain ⟨hEn, hlen⟩ := hE he
    rw [if_neg (by simp [he])]
    have he' : (e != 0) = false := by rw [he]; rfl
    clear he hE
    have HB : Hid (∀ w1 v base, w1.ownsRow base 27 5 v l.length (Toks l) → Calls Try.prog 8 #[v] w1 (BkPost w1 (layBlocks l))) := by
      intro w1 v base hr
      obtain ⟨g, c, rfl, _, hg, hI, hc, hm⟩ := row_in hr hEn.pos hlen
      exact blocks_any hI hg hc hm hEn
    unfold BkPost at HB
    generalize layBlocks l = Q at *
    obtain ⟨b, p, f⟩ := Q
    dsimp only at hZ HB ⊢
    have HNum := Lib.hid (fun w => num_any f w)
    have HKi := Lib.hid (fun w1 base v (h : World.ownsRow w1 base 27 5 v b.length (Toks b)) => kinds_any h hZ)
    generalize kAll ⟨#[]⟩ b = kb at *
    clear hEn hlen hZ
    by_cases hf : f = 0
    · have hf' : (f != 0) = false := by rw [hf]; rfl
      rw [if_neg (by simp [hf])]
      clear hf
      go_enter Try.func12, Try.ntmps12
      go_wp2_with (first
        | (go_at_call 7; go_must (refine HT.out.mono ?_; rintro en w1 ⟨v, rfl, hr, hk⟩; have HR1 := Lib.hid hr; have HK1 := Lib.hid hk; clear hr hk))
        | (go_at_call 8; go_must (refine (HB.out _ _ _ HR1.out).mono ?_; rintro en w2 ⟨v2, rfl, hr, hk⟩; have HR2 := Lib.hid hr; have HK2 := Lib.hid hk; clear hr hk))
        | (go_at_call 11; go_must (refine (HNum.out _).mono ?_; rintro en w3 ⟨rfl, rfl⟩))
        | (go_at_call 23; go_must (refine (HKi.out _ _ _ HR2.out).mono ?_; rintro en w3 ⟨rfl, rfl⟩)))
      go_ret
      exact ⟨rfl, HK1.out.trans (Keep.old HK2.out)⟩
    · have hf' : (f != 0) = true := bne_iff_ne.2 hf
      rw [if_pos (by simp [hf])]
      clear hf
      go_enter Try.func12, Try.ntmps12
      go_wp2_with (first
        | (go_at_call 7; go_must (refine HT.out.mono ?_; rintro en w1 ⟨v, rfl, hr, hk⟩; have HR1 := Lib.hid hr; have HK1 := Lib.hid hk; clear hr hk))
        | (go_at_call 8; go_must (refine (HB.out _ _ _ HR1.out).mono ?_; rintro en w2 ⟨v2, rfl, hr, hk⟩; have HR2 := Lib.hid hr; have HK2 := Lib.hid hk; clear hr hk))
        | (go_at_call 11; go_must (refine (HNum.out _).mono ?_; rintro en w3 ⟨rfl, rfl⟩)))
      go_ret
      exact ⟨rfl, HK1.out.trans (Keep.old HK2.out)⟩
  · have he' : (e != 0) = true := bne_iff_ne.2 he
    rw [if_pos (by simp [he])]
    clear he hE hZ
    go_enter Try.func12, Try.ntmps12
    go_wp2_with (first
      | (go_at_call 7; go_must (refine HT.out.mono ?_; rintro en w1 ⟨v, rfl, hr, hk⟩; have HR1 := Lib.hid hr; have HK1 := Lib.hid hk; clear hr hk)))
    go_ret
    exact ⟨rfl, HK1.out⟩
end Go.Proofs.Ytglkdhodpgnlgaa
