/-
  What the rows' listed variables give the walks, and a world that meets the list.
-/
import Derived.Test.YtkmdojghimfmeaaDoorCards
import Derived.Test.YtkmdojghimfmeaaDoorTie
import Derived.Test.YtkmdojghimfmeaaDoorCallees
import Derived.ProofKit
import Derived.OpenShut
import Derived.Deep.DeepHandedRow
import Derived.Deep.DeepWitnessRowRef
import Derived.Lib.LaidTab
import Derived.LaidMore
import Derived.Stop.LaidErr
namespace Go.Proofs.YtkmdojghimfmeaaDoor
open Go.ChangeShapes Go.WideShapes Go.ChangeAt Go.RowKit

theorem le_max {n : Nat} (h : n ≤ maxLen) : n ≤ 9223372036854775807 := by
  unfold maxLen at h
  omega
theorem own : ownKnob Tryd.prog.godebug = none := by kernel_rfl
theorem tPow : (Tryd.prog.globals[5]?).map (·.type) = some 108 := by kernel_rfl
theorem tErr : (Tryd.prog.globals[4]?).map (·.type) = some 64 := by kernel_rfl
theorem cells108 : Tryd.prog.cellsOf 108 = 20 := by kernel_rfl
theorem cells36 : Tryd.prog.cellsOf 36 = 1 := by kernel_rfl
theorem cells106 : Tryd.prog.cellsOf 106 = 1 := by kernel_rfl
theorem cells9 : Tryd.prog.cellsOf 9 = 1 := by kernel_rfl
/-- The list of the rows. -/
def laid7 : List (String × DataW Unit) := Rows.lexMatchesRow.laid
theorem laid7_plain : (laid7.all fun x => x.2.handleName?.isNone) = true := by kernel_rfl
theorem pow_data : (Rows.laid_internal_strconv_uint64pow10 : DataW Unit) = Lib.tabData .u64 Lib.pow10Tab := by kernel_rfl

theorem star : "*" ++ "errors.errorString" = "*errors.errorString" := by decide
theorem row104 (u : TypeId) (h : Tryd.prog.typeName? 3 u = some "*errors.errorString") : u = 104 :=
  typeName_ptr_named (nm := "errors.errorString") (by rw [star]; kernel_rfl) (by kernel_rfl) (by decide) u (by rw [star]; exact h)

/-- WHAT THE LIST GIVES: the table of powers of ten and the sentinel ErrRange. -/
theorem glob_of_laid {W : World} (h : laidMetH Tryd.prog laid7 W) : Glob W := by
  rw [MakeChecks.laidMetH_plain _ _ _ laid7_plain] at h
  have h5 : laidMet Tryd.prog (("internal/strconv.uint64pow10", Rows.laid_internal_strconv_uint64pow10) :: [("unicode/utf8.acceptRanges", Rows.laid_unicode_utf8_acceptRanges), ("strconv.ErrRange", Rows.laid_strconv_ErrRange), ("strconv.ErrSyntax", Rows.laid_strconv_ErrSyntax), ("unicode/utf8.first", Rows.laid_unicode_utf8_first)]) W := h.tail.tail
  have h3 := h5.tail.tail
  obtain ⟨a0, s0, hv0, _⟩ := laid_sentinel h3 gErr tErr Tryd.underlying64 row104 Tryd.underlying104 Tryd.underlying106 rfl rfl Tryd.underlying9 cells106 cells9
  refine ⟨?_, 104, .pointer (some a0), hv0⟩
  rw [pow_data] at h5
  exact Lib.tabIs_of_head gPow tPow Tryd.underlying108 Tryd.underlying36 cells36 cells108 h5

/-- A world that meets the list: what the initialisers' own run leaves, with Go's table utf8.first laid besides. -/
def cellOf : DataW Unit → Value
  | .lit (.int k n) => .int k n
  | _ => .bool false
def cellsOf : DataW Unit → Array Value
  | .agg l => (l.map cellOf).toArray
  | _ => #[]
noncomputable def laidWorld (os : Os) : World :=
  { World.doorLaid Tryd.prog 1000 os with heap := (World.doorLaid Tryd.prog 1000 os).heap.modify 0 fun
      | .cells _ t frozen => .cells (cellsOf Go.Pinned.utf8First) t frozen
      | o => o }
theorem laid_met (os : Os) (args : Array Value) : laidMetH Tryd.prog laid7 ((laidWorld os).forCall (fun _ _ => 0) ⟨#[], args, []⟩).memory := by
  rw [MakeChecks.laidMetH_plain _ _ _ laid7_plain]
  exact laidMet_of_run' 8 (by kernel_rfl) (by kernel_rfl)
end Go.Proofs.YtkmdojghimfmeaaDoor
