/-
  From a row's list to Go's tables; a world that meets the list: the heap that the door's own run leaves, and the pinned table beside it.
-/
import Derived.Test.YtglkdhodpgnlgaaDoorCards
import Derived.Test.YtglkdhodpgnlgaaDoorTie
import Derived.Test.YtglkdhodpgnlgaaDoorLxL
import Derived.WalkKit
import Derived.ProofKit
import Derived.OpenShut
import Derived.ShutString
import Derived.LaidMore
import Derived.Lib.LaidU8
import Derived.Deep.DeepHandedRow
import Derived.Deep.DeepLaidRun
import Derived.Deep.DeepWitnessRowRef
namespace Go.Proofs.YtglkdhodpgnlgaaDoor
open Go.ChangeShapes Go.WideShapes Go.ChangeAt Go.RowKit Go.Lib

theorem first_eq : Rows.laid_unicode_utf8_first = firstData := by kernel_rfl
theorem accept_eq : (Rows.laid_unicode_utf8_acceptRanges : DataW Unit) = acceptData := by kernel_rfl
theorem blank_eq : (Rows.laid_strings_asciiSpace : DataW Unit) = tabData .u8 asciiSpaceTab := by kernel_rfl
theorem u8x : U8Extra Tryd.prog Tryd.lays260_ren where
  n3 := by kernel_rfl
  n4 := by kernel_rfl
  y3 := by kernel_rfl
  y4 := by kernel_rfl
  c5 := by kernel_rfl
  c119 := by kernel_rfl
  c138 := by kernel_rfl
abbrev theLaid : List (String × DataW Unit) := [("unicode/utf8.acceptRanges", Rows.laid_unicode_utf8_acceptRanges), ("unicode.White_Space", Rows.laid_unicode_White_Space), ("strings.asciiSpace", Rows.laid_strings_asciiSpace), ("unicode/utf8.first", Rows.laid_unicode_utf8_first)]
theorem tabs_of_laid {W : World} (h : laidMetH Tryd.prog theLaid W) : Tabs W := by
  have h' : laidMet Tryd.prog theLaid W := h
  have h1 := laidMet.reads h' (n := "unicode/utf8.first") (d := Rows.laid_unicode_utf8_first) (by simp)
  have h2 := laidMet.reads h' (n := "unicode/utf8.acceptRanges") (d := Rows.laid_unicode_utf8_acceptRanges) (by simp)
  have h3 := laidMet.reads h' (n := "strings.asciiSpace") (d := Rows.laid_strings_asciiSpace) (by simp)
  rw [first_eq] at h1
  rw [accept_eq] at h2
  rw [blank_eq] at h3
  refine ⟨utf8Tabs_of_reads Tryd.lays260 u8x h1 h2, ?_⟩
  obtain ⟨g, t, cs, fuel, p, hg, hty, hvar, hd⟩ := h3
  have hq : ((Tryd.prog.globalNamed "strings.asciiSpace").bind (fun g => Tryd.prog.globals[g]?)).map (·.type) = some 64 := by kernel_rfl
  rw [hg, Option.bind_some, hty] at hq
  obtain rfl := Option.some.inj hq
  unfold TabIs
  rw [hvar, ← cells_of_tab Tryd.underlying64 Tryd.underlying5 u8x.c5 u8x.c119 hd]

/-- A world for the witness. -/
noncomputable def laidWorld (os : Os) : World :=
  { World.doorLaid Tryd.prog 43 os with heap := (World.doorLaid Tryd.prog 43 os).heap.modify 2 fun
      | .cells _ t frozen => .cells ((List.range 256).map fun c => Value.int .u8 (firstT c)).toArray t frozen
      | o => o }
theorem laid_met (os : Os) (args : Array Value) : laidMetH Tryd.prog theLaid ((laidWorld os).forCall (fun _ _ => 0) ⟨#[], args, []⟩).memory :=
  laidMet_of_run3 8 (by kernel_rfl) (by kernel_rfl) (by kernel_rfl)
end Go.Proofs.YtglkdhodpgnlgaaDoor
