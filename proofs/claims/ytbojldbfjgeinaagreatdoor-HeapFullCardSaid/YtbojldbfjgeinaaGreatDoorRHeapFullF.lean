/-
  The closed facts of the row of HeapFull, one by one: in one declaration the kernel outgrows its memory.
-/
import Derived.Test.YtbojldbfjgeinaaGreatDoorRows
import Derived.ProofKit
import Derived.JoinedOf
namespace Go.Proofs.YtbojldbfjgeinaaGreatDoor
open Go
theorem heapFull_fact0 : (Rows.heapFullRow.wf (OpenSpec.ofChange (OpenSpec.ofChange Rows.heapFullSpec).bare)) = true := by kernel_rfl
theorem heapFull_fact1 : (laidOutB Tryz.pinned.checked.prog) = true := by kernel_rfl
theorem heapFull_fact2 : (mapsRowed Tryz.pinned.checked.prog) = true := by kernel_rfl
theorem heapFull_fact3 : (Tryz.f5.params.all (Tryz.pinned.checked.prog.readableRec ·)) = true := by kernel_rfl
theorem heapFull_fact4 : (namedTie Tryz.pinned.checked.prog Rows.heapFullRow.named (OpenSpec.ofChange Rows.heapFullSpec).bare.vars) = true := by kernel_rfl
theorem heapFull_fact5 : ((Rows.heapFullRow.stops == [])) = true := by kernel_rfl
theorem heapFull_fact6 : ((Tryz.pinned.checked.prog.stops == [])) = true := by kernel_rfl
theorem heapFull_fact7 : ((Rows.heapFullRow.knobs == [])) = true := by kernel_rfl
theorem heapFull_fact8 : ((Tryz.pinned.checked.prog.stopKnobs == [])) = true := by kernel_rfl
theorem heapFull_fact9 : ((Rows.heapFullRow.inPlace == Tryz.pinned.checked.prog.inPlace 5)) = true := by kernel_rfl
theorem heapFull_fact10 : ((Rows.heapFullRow.unfollowed == Tryz.pinned.checked.prog.unfollowed 5)) = true := by kernel_rfl
theorem heapFull_fact11 : ((Rows.heapFullRow.recurses == Tryz.pinned.checked.prog.recurses 5)) = true := by kernel_rfl
theorem heapFull_fact12 : ((Rows.heapFullRow.named == Tryz.pinned.checked.prog.varsNamed 5)) = true := by kernel_rfl
theorem heapFull_fact13 : ((Rows.heapFullRow.maps == (Tryz.f5.params.toList ++ (OpenSpec.ofChange Rows.heapFullSpec).bare.plain.varTypes Tryz.pinned.checked.prog).any (Tryz.pinned.checked.prog.mapsRec ·))) = true := by kernel_rfl
theorem heapFull_fact14 : ((Rows.heapFullRow.ifaces == (Tryz.f5.params.toList ++ (OpenSpec.ofChange Rows.heapFullSpec).bare.plain.varTypes Tryz.pinned.checked.prog).any (Tryz.pinned.checked.prog.ifacesRec ·))) = true := by kernel_rfl
theorem heapFull_fact15 : ((Rows.heapFullRow.mapsOut == Tryz.pinned.checked.prog.mapsAmong Tryz.f5.resultTypes.toList)) = true := by kernel_rfl
theorem heapFull_fact16 : ((Rows.heapFullRow.loops == (Tryz.f5.params.toList ++ (OpenSpec.ofChange Rows.heapFullSpec).bare.plain.varTypes Tryz.pinned.checked.prog).any (Tryz.pinned.checked.prog.loopsFrom ·))) = true := by kernel_rfl
theorem heapFull_fact17 : ((Rows.heapFullRow.wideKeys == (Tryz.f5.params.toList ++ (OpenSpec.ofChange Rows.heapFullSpec).bare.plain.varTypes Tryz.pinned.checked.prog ++ Tryz.f5.resultTypes.toList).any (Tryz.pinned.checked.prog.wideKeysFrom ·))) = true := by kernel_rfl
theorem heapFull_fact18 : ((OpenSpec.ofChange Rows.heapFullSpec).bare.vars.all (Tryz.pinned.checked.prog.varReadable ·)) = true := by kernel_rfl
theorem heapFull_fact19 : (Tryz.f5.resultTypes.all (fun t => Tryz.pinned.checked.prog.readableRec t && decide (t < Tryz.pinned.checked.prog.types.size))) = true := by kernel_rfl
theorem heapFull_fact20 : ((Rows.heapFullRow.ifacesOut == Tryz.f5.resultTypes.toList.any (Tryz.pinned.checked.prog.ifacesRec ·))) = true := by kernel_rfl
theorem heapFull_fact21 : ((Rows.heapFullRow.loopsOut == Tryz.f5.resultTypes.toList.any (Tryz.pinned.checked.prog.loopsFrom ·))) = true := by kernel_rfl
theorem heapFull_fact22 : ((Rows.heapFullRow.plainKeys == Tryz.pinned.checked.prog.plainKeys)) = true := by kernel_rfl
theorem heapFull_fact23 : (Rows.heapFullRow.shortTexts.isNone) = true := by kernel_rfl
theorem heapFull_fact24 : (Tryz.pinned.checked.prog.stopsHeard) = true := by kernel_rfl
theorem heapFull_fact25 : (Tryz.pinned.checked.prog.mayEnter) = true := by kernel_rfl
theorem heapFull_fact26 : ((Rows.heapFullRow.lifted == Tryz.pinned.checked.prog.liftsFinal)) = true := by kernel_rfl
theorem heapFull_fact27 : ((Tryz.pinned.checked.prog.make == some Rows.heapFullRow.make)) = true := by kernel_rfl
theorem heapFull_fact28 : ((Rows.heapFullRow.kinds == (if Rows.heapFullRow.domain.isEmpty then [] else Tryz.f5.params.toList.map fun t => match Tryz.pinned.checked.prog.underlying t with | some (.int k) => some k | _ => none))) = true := by kernel_rfl
theorem heapFull_fact29 : ((Rows.heapFullRow.pinned == Rows.heapFullRow.pinnedBy)) = true := by kernel_rfl
theorem heapFull_fact30 : ((Rows.heapFullRow.veiled == (Tryz.f5.params.toList ++ (OpenSpec.ofChange Rows.heapFullSpec).bare.plain.varTypes Tryz.pinned.checked.prog ++ Tryz.f5.resultTypes.toList).any (Tryz.pinned.checked.prog.veiledRec ·))) = true := by kernel_rfl
theorem heapFull_fact31 : (Rows.heapFullRow.veiledFits Tryz.pinned.checked.prog Tryz.f5.params.toList (Tryz.f5.params.toList ++ (OpenSpec.ofChange Rows.heapFullSpec).bare.plain.varTypes Tryz.pinned.checked.prog ++ Tryz.f5.resultTypes.toList)) = true := by kernel_rfl
theorem heapFull_both {a b : Bool} (h : a = true) (k : b = true) : (a && b) = true := by rw [h, k]; rfl
set_option maxRecDepth 100000 in
theorem heapFull_facts : joinedFacts Tryz.pinned.checked.prog 5 Tryz.f5 (OpenSpec.ofChange Rows.heapFullSpec).bare Rows.heapFullRow = true := by
  unfold joinedFacts
  exact (heapFull_both (heapFull_both (heapFull_both (heapFull_both (heapFull_both (heapFull_both (heapFull_both (heapFull_both (heapFull_both (heapFull_both (heapFull_both (heapFull_both (heapFull_both (heapFull_both (heapFull_both (heapFull_both (heapFull_both (heapFull_both (heapFull_both (heapFull_both (heapFull_both (heapFull_both (heapFull_both (heapFull_both (heapFull_both (heapFull_both (heapFull_both (heapFull_both (heapFull_both (heapFull_both (heapFull_both heapFull_fact0 heapFull_fact1) heapFull_fact2) heapFull_fact3) heapFull_fact4) heapFull_fact5) heapFull_fact6) heapFull_fact7) heapFull_fact8) heapFull_fact9) heapFull_fact10) heapFull_fact11) heapFull_fact12) heapFull_fact13) heapFull_fact14) heapFull_fact15) heapFull_fact16) heapFull_fact17) heapFull_fact18) heapFull_fact19) heapFull_fact20) heapFull_fact21) heapFull_fact22) heapFull_fact23) heapFull_fact24) heapFull_fact25) heapFull_fact26) heapFull_fact27) heapFull_fact28) heapFull_fact29) heapFull_fact30) heapFull_fact31)

end Go.Proofs.YtbojldbfjgeinaaGreatDoor
