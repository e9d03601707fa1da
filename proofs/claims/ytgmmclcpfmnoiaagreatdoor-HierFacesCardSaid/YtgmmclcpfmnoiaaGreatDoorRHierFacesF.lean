/-
  The closed facts of the row of HierFaces, one by one: in one declaration the kernel outgrows its memory.
-/
import Derived.Test.YtgmmclcpfmnoiaaGreatDoorRows
import Derived.ProofKit
import Derived.JoinedOf
namespace Go.Proofs.YtgmmclcpfmnoiaaGreatDoor
open Go
theorem hierFaces_fact0 : (Rows.hierFacesRow.wf (OpenSpec.ofChange (OpenSpec.ofChange Rows.hierFacesSpec).bare)) = true := by kernel_rfl
theorem hierFaces_fact1 : (laidOutB Tryz.pinned.checked.prog) = true := by kernel_rfl
theorem hierFaces_fact2 : (mapsRowed Tryz.pinned.checked.prog) = true := by kernel_rfl
theorem hierFaces_fact3 : (Tryz.f4.params.all (Tryz.pinned.checked.prog.readableRec ·)) = true := by kernel_rfl
theorem hierFaces_fact4 : (namedTie Tryz.pinned.checked.prog Rows.hierFacesRow.named (OpenSpec.ofChange Rows.hierFacesSpec).bare.vars) = true := by kernel_rfl
theorem hierFaces_fact5 : ((Rows.hierFacesRow.stops == [])) = true := by kernel_rfl
theorem hierFaces_fact6 : ((Tryz.pinned.checked.prog.stops == [])) = true := by kernel_rfl
theorem hierFaces_fact7 : ((Rows.hierFacesRow.knobs == [])) = true := by kernel_rfl
theorem hierFaces_fact8 : ((Tryz.pinned.checked.prog.stopKnobs == [])) = true := by kernel_rfl
theorem hierFaces_fact9 : ((Rows.hierFacesRow.inPlace == Tryz.pinned.checked.prog.inPlace 4)) = true := by kernel_rfl
theorem hierFaces_fact10 : ((Rows.hierFacesRow.unfollowed == Tryz.pinned.checked.prog.unfollowed 4)) = true := by kernel_rfl
theorem hierFaces_fact11 : ((Rows.hierFacesRow.recurses == Tryz.pinned.checked.prog.recurses 4)) = true := by kernel_rfl
theorem hierFaces_fact12 : ((Rows.hierFacesRow.named == Tryz.pinned.checked.prog.varsNamed 4)) = true := by kernel_rfl
theorem hierFaces_fact13 : ((Rows.hierFacesRow.maps == (Tryz.f4.params.toList ++ (OpenSpec.ofChange Rows.hierFacesSpec).bare.plain.varTypes Tryz.pinned.checked.prog).any (Tryz.pinned.checked.prog.mapsRec ·))) = true := by kernel_rfl
theorem hierFaces_fact14 : ((Rows.hierFacesRow.ifaces == (Tryz.f4.params.toList ++ (OpenSpec.ofChange Rows.hierFacesSpec).bare.plain.varTypes Tryz.pinned.checked.prog).any (Tryz.pinned.checked.prog.ifacesRec ·))) = true := by kernel_rfl
theorem hierFaces_fact15 : ((Rows.hierFacesRow.mapsOut == Tryz.pinned.checked.prog.mapsAmong Tryz.f4.resultTypes.toList)) = true := by kernel_rfl
theorem hierFaces_fact16 : ((Rows.hierFacesRow.loops == (Tryz.f4.params.toList ++ (OpenSpec.ofChange Rows.hierFacesSpec).bare.plain.varTypes Tryz.pinned.checked.prog).any (Tryz.pinned.checked.prog.loopsFrom ·))) = true := by kernel_rfl
theorem hierFaces_fact17 : ((Rows.hierFacesRow.wideKeys == (Tryz.f4.params.toList ++ (OpenSpec.ofChange Rows.hierFacesSpec).bare.plain.varTypes Tryz.pinned.checked.prog ++ Tryz.f4.resultTypes.toList).any (Tryz.pinned.checked.prog.wideKeysFrom ·))) = true := by kernel_rfl
theorem hierFaces_fact18 : ((OpenSpec.ofChange Rows.hierFacesSpec).bare.vars.all (Tryz.pinned.checked.prog.varReadable ·)) = true := by kernel_rfl
theorem hierFaces_fact19 : (Tryz.f4.resultTypes.all (fun t => Tryz.pinned.checked.prog.readableRec t && decide (t < Tryz.pinned.checked.prog.types.size))) = true := by kernel_rfl
theorem hierFaces_fact20 : ((Rows.hierFacesRow.ifacesOut == Tryz.f4.resultTypes.toList.any (Tryz.pinned.checked.prog.ifacesRec ·))) = true := by kernel_rfl
theorem hierFaces_fact21 : ((Rows.hierFacesRow.loopsOut == Tryz.f4.resultTypes.toList.any (Tryz.pinned.checked.prog.loopsFrom ·))) = true := by kernel_rfl
theorem hierFaces_fact22 : ((Rows.hierFacesRow.plainKeys == Tryz.pinned.checked.prog.plainKeys)) = true := by kernel_rfl
theorem hierFaces_fact23 : (Rows.hierFacesRow.shortTexts.isNone) = true := by kernel_rfl
theorem hierFaces_fact24 : (Tryz.pinned.checked.prog.stopsHeard) = true := by kernel_rfl
theorem hierFaces_fact25 : (Tryz.pinned.checked.prog.mayEnter) = true := by kernel_rfl
theorem hierFaces_fact26 : ((Rows.hierFacesRow.lifted == Tryz.pinned.checked.prog.liftsFinal)) = true := by kernel_rfl
theorem hierFaces_fact27 : ((Tryz.pinned.checked.prog.make == some Rows.hierFacesRow.make)) = true := by kernel_rfl
theorem hierFaces_fact28 : ((Rows.hierFacesRow.kinds == (if Rows.hierFacesRow.domain.isEmpty then [] else Tryz.f4.params.toList.map fun t => match Tryz.pinned.checked.prog.underlying t with | some (.int k) => some k | _ => none))) = true := by kernel_rfl
theorem hierFaces_fact29 : ((Rows.hierFacesRow.pinned == Rows.hierFacesRow.pinnedBy)) = true := by kernel_rfl
theorem hierFaces_fact30 : ((Rows.hierFacesRow.veiled == (Tryz.f4.params.toList ++ (OpenSpec.ofChange Rows.hierFacesSpec).bare.plain.varTypes Tryz.pinned.checked.prog ++ Tryz.f4.resultTypes.toList).any (Tryz.pinned.checked.prog.veiledRec ·))) = true := by kernel_rfl
theorem hierFaces_fact31 : (Rows.hierFacesRow.veiledFits Tryz.pinned.checked.prog Tryz.f4.params.toList (Tryz.f4.params.toList ++ (OpenSpec.ofChange Rows.hierFacesSpec).bare.plain.varTypes Tryz.pinned.checked.prog ++ Tryz.f4.resultTypes.toList)) = true := by kernel_rfl
theorem hierFaces_both {a b : Bool} (h : a = true) (k : b = true) : (a && b) = true := by rw [h, k]; rfl
set_option maxRecDepth 100000 in
theorem hierFaces_facts : joinedFacts Tryz.pinned.checked.prog 4 Tryz.f4 (OpenSpec.ofChange Rows.hierFacesSpec).bare Rows.hierFacesRow = true := by
  unfold joinedFacts
  exact (hierFaces_both (hierFaces_both (hierFaces_both (hierFaces_both (hierFaces_both (hierFaces_both (hierFaces_both (hierFaces_both (hierFaces_both (hierFaces_both (hierFaces_both (hierFaces_both (hierFaces_both (hierFaces_both (hierFaces_both (hierFaces_both (hierFaces_both (hierFaces_both (hierFaces_both (hierFaces_both (hierFaces_both (hierFaces_both (hierFaces_both (hierFaces_both (hierFaces_both (hierFaces_both (hierFaces_both (hierFaces_both (hierFaces_both (hierFaces_both (hierFaces_both hierFaces_fact0 hierFaces_fact1) hierFaces_fact2) hierFaces_fact3) hierFaces_fact4) hierFaces_fact5) hierFaces_fact6) hierFaces_fact7) hierFaces_fact8) hierFaces_fact9) hierFaces_fact10) hierFaces_fact11) hierFaces_fact12) hierFaces_fact13) hierFaces_fact14) hierFaces_fact15) hierFaces_fact16) hierFaces_fact17) hierFaces_fact18) hierFaces_fact19) hierFaces_fact20) hierFaces_fact21) hierFaces_fact22) hierFaces_fact23) hierFaces_fact24) hierFaces_fact25) hierFaces_fact26) hierFaces_fact27) hierFaces_fact28) hierFaces_fact29) hierFaces_fact30) hierFaces_fact31)

end Go.Proofs.YtgmmclcpfmnoiaaGreatDoor
