/-
  The laws' fill: one letter over and over. Condition: so many as 65600 at the most.
-/
import Derived.Test.YtglkdhodpgnlgaaDoorLfT
import Derived.Laws.BytesArg
import Derived.OwnWalk
namespace Go.Proofs.YtglkdhodpgnlgaaDoor
open Go.RowKit Go.Tel

theorem infoU8 : (Tryd.prog.info? 5).map (fun i => (i.zero, i.size, i.bytes)) = some (some (.int .u8 0), 1, 1) := by kernel_rfl
set_option maxRecDepth 100000 in
set_option maxHeartbeats 4000000 in
theorem fill_any (n : Nat) (hn : n ≤ 65600) (c : UInt8) (w : World) :
    Calls Tryd.prog 13 #[.int .i64 n, .int .u8 c.toNat] w fun e w' => e = .returned (.string (mkS (List.replicate n c))) ∧ Keep (fun _ => True) w w' := by
  obtain ⟨i0, hi, hz0, hz1, hz2⟩ := info_parts infoU8
  have hnI : (n : Int) ≤ 65600 := by omega
  have HNn := Lib.hid hn
  clear hn
  go_enter Tryd.func13, Tryd.ntmps13
  go_wp2_with (first
    | (at_make; refine wpList_make_full _ rfl _ _ 34 rfl w.heap.size 5 i0 _ 1 Tryd.underlying34 hi hz0 hz1 .i64 .i64 n n n rfl rfl rfl rfl (by rw [hz2]; have := HNn.out; omega) (by have := HNn.out; unfold maxLen; omega) (Nat.le_refl _) ?_; intro w1 hown hg; have HO := Lib.hid hown; have HK := Lib.hid ((Keep.refl (fun _ => True) w).grown hg (fun k hk => by cases hk)); clear hown hg)
    | go_in)
  go_loopg [6] n (fun k v wl => ∃ (i : Nat) (xs : List Value), v = .int .i64 i ∧ i + k = n ∧ wl.ownsRow w.heap.size 5 1 (.slice (some ⟨w.heap.size, 0, none⟩) n n) n xs ∧ (∀ j, j < i → xs[j]? = some (.int .u8 c.toNat)) ∧ Keep (fun _ => True) w wl)
  case atStart => exact ⟨0, _, rfl, by omega, HO.out, fun j hj => absurd hj (by omega), HK.out⟩
  case round =>
    obtain ⟨i, xs, rfl, hik, ho, hxs, hk⟩ := hrel
    have HO2 := Lib.hid ho
    have HK2 := Lib.hid hk
    have HX := Lib.hid hxs
    have hlen : xs.length = n * 1 := ho.1
    rcases Nat.eq_zero_or_pos gk with rfl | hgk
    · obtain rfl : i = n := by omega
      have hrun : (convert 34 9 (.slice (some ⟨w.heap.size, 0, none⟩) i i)).run Tryd.prog wr = .ok (.string (mkS (List.replicate i c))) wr := by
        have h := run_convert_bytes_arg (P := Tryd.prog) wr 34 5 Tryd.underlying34 Tryd.underlying5 w.heap.size 0 i i (List.replicate i (c.toNat : Int)) (by rw [List.length_replicate]) (fun j hj => by
          rw [Nat.zero_add, own_cell ho (hxs j hj), List.getD_eq_getElem?_getD, List.getElem?_replicate, if_pos hj]; rfl) 9 Tryd.underlying9
        rw [h]
        congr 2
        unfold strOfNums mkS
        rw [List.map_replicate]
        congr 3
        show UInt8.ofNat (Int.toNat (c.toNat : Int)) = c
        rw [Int.toNat_natCast, UInt8.ofNat_toNat]
      clear ho hxs hk hlen hik HX
      go_wp2_with (fail)
      go_ret
      exact ⟨rfl, HK2.out⟩
    · obtain ⟨q, rfl⟩ : ∃ q, gk = q + 1 := ⟨gk - 1, by omega⟩
      have hiI : (i : Int) < (n : Int) := by omega
      obtain ⟨u, hu⟩ : ∃ u, xs[i]? = some u := ⟨_, List.getElem?_eq_getElem (show i < xs.length by omega)⟩
      have hc := own_cell ho hu
      have hf := fun j => ho.frozenAt j
      have hgl := cell_lt' hc
      have HL := Lib.hid hlen
      clear ho hxs hk hlen hu
      go_wp2_with (fail)
      go_roundg q
      case measure => omega
      case rel =>
        refine ⟨i + 1, _, by go_num, by omega, (HO2.out.stored i _).1, fun j hj => ?_, HK2.out.grown (HO2.out.stored i _).2 (fun k hk => by cases hk; left; omega)⟩
        rw [List.getElem?_set]
        by_cases hji : i = j
        · subst hji; rw [if_pos rfl, if_pos (by have := HL.out; omega)]
        · rw [if_neg hji]; exact HX.out j (by omega)
end Go.Proofs.YtglkdhodpgnlgaaDoor
