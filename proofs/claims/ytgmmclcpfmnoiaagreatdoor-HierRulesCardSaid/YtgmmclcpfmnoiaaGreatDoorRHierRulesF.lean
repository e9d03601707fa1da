/-
  The closed facts of the row of HierRules, one by one: in one declaration the kernel outgrows its memory.
-/
import Derived.Test.YtgmmclcpfmnoiaaGreatDoorRows
import Derived.ProofKit
import Derived.JoinedOf
namespace Go.Proofs.YtgmmclcpfmnoiaaGreatDoor
open Go
theorem hierRules_fact0 : (Rows.hierRulesRow.wf (OpenSpec.ofChange (OpenSpec.ofChange Rows.hierRulesSpec).bare)) = true := by kernel_rfl
theorem hierRules_fact1 : (laidOutB Tryz.pinned.checked.prog) = true := by kernel_rfl
theorem hierRules_fact2 : (mapsRowed Tryz.pinned.checked.prog) = true := by kernel_rfl
theorem hierRules_fact3 : (Tryz.f3.params.all (Tryz.pinned.checked.prog.readableRec ·)) = true := by kernel_rfl
theorem hierRules_fact4 : (namedTie Tryz.pinned.checked.prog Rows.hierRulesRow.named (OpenSpec.ofChange Rows.hierRulesSpec).bare.vars) = true := by kernel_rfl
theorem hierRules_fact5 : ((Rows.hierRulesRow.stops == [])) = true := by kernel_rfl
theorem hierRules_fact6 : ((Tryz.pinned.checked.prog.stops == [])) = true := by kernel_rfl
theorem hierRules_fact7 : ((Rows.hierRulesRow.knobs == [])) = true := by kernel_rfl
theorem hierRules_fact8 : ((Tryz.pinned.checked.prog.stopKnobs == [])) = true := by kernel_rfl
theorem hierRules_fact9 : ((Rows.hierRulesRow.inPlace == Tryz.pinned.checked.prog.inPlace 3)) = true := by kernel_rfl
theorem hierRules_fact10 : ((Rows.hierRulesRow.unfollowed == Tryz.pinned.checked.prog.unfollowed 3)) = true := by kernel_rfl
theorem hierRules_fact11 : ((Rows.hierRulesRow.recurses == Tryz.pinned.checked.prog.recurses 3)) = true := by kernel_rfl
theorem hierRules_fact12 : ((Rows.hierRulesRow.named == Tryz.pinned.checked.prog.varsNamed 3)) = true := by kernel_rfl
theorem hierRules_fact13 : ((Rows.hierRulesRow.maps == (Tryz.f3.params.toList ++ (OpenSpec.ofChange Rows.hierRulesSpec).bare.plain.varTypes Tryz.pinned.checked.prog).any (Tryz.pinned.checked.prog.mapsRec ·))) = true := by kernel_rfl
theorem hierRules_fact14 : ((Rows.hierRulesRow.ifaces == (Tryz.f3.params.toList ++ (OpenSpec.ofChange Rows.hierRulesSpec).bare.plain.varTypes Tryz.pinned.checked.prog).any (Tryz.pinned.checked.prog.ifacesRec ·))) = true := by kernel_rfl
theorem hierRules_fact15 : ((Rows.hierRulesRow.mapsOut == Tryz.pinned.checked.prog.mapsAmong Tryz.f3.resultTypes.toList)) = true := by kernel_rfl
theorem hierRules_fact16 : ((Rows.hierRulesRow.loops == (Tryz.f3.params.toList ++ (OpenSpec.ofChange Rows.hierRulesSpec).bare.plain.varTypes Tryz.pinned.checked.prog).any (Tryz.pinned.checked.prog.loopsFrom ·))) = true := by kernel_rfl
theorem hierRules_fact17 : ((Rows.hierRulesRow.wideKeys == (Tryz.f3.params.toList ++ (OpenSpec.ofChange Rows.hierRulesSpec).bare.plain.varTypes Tryz.pinned.checked.prog ++ Tryz.f3.resultTypes.toList).any (Tryz.pinned.checked.prog.wideKeysFrom ·))) = true := by kernel_rfl
theorem hierRules_fact18 : ((OpenSpec.ofChange Rows.hierRulesSpec).bare.vars.all (Tryz.pinned.checked.prog.varReadable ·)) = true := by kernel_rfl
theorem hierRules_fact19 : (Tryz.f3.resultTypes.all (fun t => Tryz.pinned.checked.prog.readableRec t && decide (t < Tryz.pinned.checked.prog.types.size))) = true := by kernel_rfl
theorem hierRules_fact20 : ((Rows.hierRulesRow.ifacesOut == Tryz.f3.resultTypes.toList.any (Tryz.pinned.checked.prog.ifacesRec ·))) = true := by kernel_rfl
theorem hierRules_fact21 : ((Rows.hierRulesRow.loopsOut == Tryz.f3.resultTypes.toList.any (Tryz.pinned.checked.prog.loopsFrom ·))) = true := by kernel_rfl
theorem hierRules_fact22 : ((Rows.hierRulesRow.plainKeys == Tryz.pinned.checked.prog.plainKeys)) = true := by kernel_rfl
theorem hierRules_fact23 : (Rows.hierRulesRow.shortTexts.isNone) = true := by kernel_rfl
theorem hierRules_fact24 : (Tryz.pinned.checked.prog.stopsHeard) = true := by kernel_rfl
theorem hierRules_fact25 : (Tryz.pinned.checked.prog.mayEnter) = true := by kernel_rfl
theorem hierRules_fact26 : ((Rows.hierRulesRow.lifted == Tryz.pinned.checked.prog.liftsFinal)) = true := by kernel_rfl
theorem hierRules_fact27 : ((Tryz.pinned.checked.prog.make == some Rows.hierRulesRow.make)) = true := by kernel_rfl
theorem hierRules_fact28 : ((Rows.hierRulesRow.kinds == (if Rows.hierRulesRow.domain.isEmpty then [] else Tryz.f3.params.toList.map fun t => match Tryz.pinned.checked.prog.underlying t with | some (.int k) => some k | _ => none))) = true := by kernel_rfl
theorem hierRules_fact29 : ((Rows.hierRulesRow.pinned == Rows.hierRulesRow.pinnedBy)) = true := by kernel_rfl
theorem hierRules_fact30 : ((Rows.hierRulesRow.veiled == (Tryz.f3.params.toList ++ (OpenSpec.ofChange Rows.hierRulesSpec).bare.plain.varTypes Tryz.pinned.checked.prog ++ Tryz.f3.resultTypes.toList).any (Tryz.pinned.checked.prog.veiledRec ·))) = true := by kernel_rfl
theorem hierRules_fact31 : (Rows.hierRulesRow.veiledFits Tryz.pinned.checked.prog Tryz.f3.params.toList (Tryz.f3.params.toList ++ (OpenSpec.ofChange Rows.hierRulesSpec).bare.plain.varTypes Tryz.pinned.checked.prog ++ Tryz.f3.resultTypes.toList)) = true := by kernel_rfl
theorem hierRules_both {a b : Bool} (h : a = true) (k : b = true) : (a && b) = true := by rw [h, k]; rfl
set_option maxRecDepth 100000 in
theorem hierRules_facts : joinedFacts Tryz.pinned.checked.prog 3 Tryz.f3 (OpenSpec.ofChange Rows.hierRulesSpec).bare Rows.hierRulesRow = true := by
  unfold joinedFacts
  exact (hierRules_both (hierRules_both (hierRules_both (hierRules_both (hierRules_both (hierRules_both (hierRules_both (hierRules_both (hierRules_both (hierRules_both (hierRules_both (hierRules_both (hierRules_both (hierRules_both (hierRules_both (hierRules_both (hierRules_both (hierRules_both (hierRules_both (hierRules_both (hierRules_both (hierRules_both (hierRules_both (hierRules_both (hierRules_both (hierRules_both (hierRules_both (hierRules_both (hierRules_both (hierRules_both (hierRules_both hierRules_fact0 hierRules_fact1) hierRules_fact2) hierRules_fact3) hierRules_fact4) hierRules_fact5) hierRules_fact6) hierRules_fact7) hierRules_fact8) hierRules_fact9) hierRules_fact10) hierRules_fact11) hierRules_fact12) hierRules_fact13) hierRules_fact14) hierRules_fact15) hierRules_fact16) hierRules_fact17) hierRules_fact18) hierRules_fact19) hierRules_fact20) hierRules_fact21) hierRules_fact22) hierRules_fact23) hierRules_fact24) hierRules_fact25) hierRules_fact26) hierRules_fact27) hierRules_fact28) hierRules_fact29) hierRules_fact30) hierRules_fact31)

end Go.Proofs.YtgmmclcpfmnoiaaGreatDoor
