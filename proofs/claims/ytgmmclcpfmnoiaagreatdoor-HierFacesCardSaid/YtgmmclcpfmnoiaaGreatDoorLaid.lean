/-
  A world in which the listed package-level variables hold what the rows list: the witness of the rows.
-/
import Derived.Test.YtgmmclcpfmnoiaaGreatDoorRows
import Derived.Lay
import Derived.LaidHandle
import Derived.LaidLaws
import Derived.ProofKit
import Derived.Stop.Joined
import Derived.Deep.DeepHandedRow
namespace Go.Proofs.YtgmmclcpfmnoiaaGreatDoor
open Go

/-- The variables that hold plain data. -/
def laidPlain : List (String × DataW Unit) := [("unicode/utf8.acceptRanges", Rows.laid_unicode_utf8_acceptRanges), ("unicode/utf8.first", Rows.laid_unicode_utf8_first)]
def laidAll : List (String × DataW Unit) := [("unicode/utf8.acceptRanges", Rows.laid_unicode_utf8_acceptRanges), ("errors.errorType", Rows.laid_errors_errorType), ("unicode/utf8.first", Rows.laid_unicode_utf8_first)]
/-- The settled world, the handle laid. -/
noncomputable def handleWorld (os : Os) : World :=
  { World.holding Tryz.prog os ⟨#[], #[], []⟩ with heap := (World.holding Tryz.prog os ⟨#[], #[], []⟩).heap.modify ((Tryz.prog.globalNamed "errors.errorType").getD 0) fun
      | .cells _ t frozen => .cells #[.iface 207 (.agg #[typeHandle Tryz.prog 84])] t frozen
      | o => o }
noncomputable def laidWorld (os : Os) : World := (handleWorld os).layVars Tryz.prog laidPlain
theorem laidWorld_os (os : Os) : (laidWorld os).os = os := World.layVars_os _ _ _
set_option maxRecDepth 100000 in
theorem laidWorld_plain (os : Os) : laidMet Tryz.prog laidPlain (laidWorld os) :=
  laidMet_layVars (w0 := handleWorld os) ["unicode/utf8.acceptRanges", "unicode/utf8.first"] [] (by kernel_rfl) (by kernel_rfl) (by kernel_rfl) (by
    rw [show (laidPlain.filter fun x => !["unicode/utf8.acceptRanges", "unicode/utf8.first"].contains x.1) = [] from by kernel_rfl]
    exact LaidIn.none)
set_option maxRecDepth 100000 in
theorem laidWorld_met (os : Os) (args : Array Value) : laidMetH Tryz.prog laidAll ((laidWorld os).forCall (fun _ _ => 0) ⟨#[], args, []⟩).memory :=
  laidMetH_of_parts (by
    rw [show (laidAll.filter fun x => x.2.handleName?.isNone) = laidPlain from rfl]
    exact (laidWorld_plain os).of_heap (by simp [World.memory, World.forCall, Input.heap])) (by kernel_rfl)

end Go.Proofs.YtgmmclcpfmnoiaaGreatDoor
