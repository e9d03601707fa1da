/-
  The closed facts of the row of HierNearest, one by one: in one declaration the kernel outgrows its memory.
-/
import Derived.Test.YtgmmclcpfmnoiaaGreatDoorRows
import Derived.ProofKit
import Derived.JoinedOf
namespace Go.Proofs.YtgmmclcpfmnoiaaGreatDoor
open Go
theorem hierNearest_fact0 : (Rows.hierNearestRow.wf (OpenSpec.ofChange (OpenSpec.ofChange Rows.hierNearestSpec).bare)) = true := by kernel_rfl
theorem hierNearest_fact1 : (laidOutB Tryz.pinned.checked.prog) = true := by kernel_rfl
theorem hierNearest_fact2 : (mapsRowed Tryz.pinned.checked.prog) = true := by kernel_rfl
theorem hierNearest_fact3 : (Tryz.f5.params.all (Tryz.pinned.checked.prog.readableRec ·)) = true := by kernel_rfl
theorem hierNearest_fact4 : (namedTie Tryz.pinned.checked.prog Rows.hierNearestRow.named (OpenSpec.ofChange Rows.hierNearestSpec).bare.vars) = true := by kernel_rfl
theorem hierNearest_fact5 : ((Rows.hierNearestRow.stops == [])) = true := by kernel_rfl
theorem hierNearest_fact6 : ((Tryz.pinned.checked.prog.stops == [])) = true := by kernel_rfl
theorem hierNearest_fact7 : ((Rows.hierNearestRow.knobs == [])) = true := by kernel_rfl
theorem hierNearest_fact8 : ((Tryz.pinned.checked.prog.stopKnobs == [])) = true := by kernel_rfl
theorem hierNearest_fact9 : ((Rows.hierNearestRow.inPlace == Tryz.pinned.checked.prog.inPlace 5)) = true := by kernel_rfl
theorem hierNearest_fact10 : ((Rows.hierNearestRow.unfollowed == Tryz.pinned.checked.prog.unfollowed 5)) = true := by kernel_rfl
theorem hierNearest_fact11 : ((Rows.hierNearestRow.recurses == Tryz.pinned.checked.prog.recurses 5)) = true := by kernel_rfl
theorem hierNearest_fact12 : ((Rows.hierNearestRow.named == Tryz.pinned.checked.prog.varsNamed 5)) = true := by kernel_rfl
theorem hierNearest_fact13 : ((Rows.hierNearestRow.maps == (Tryz.f5.params.toList ++ (OpenSpec.ofChange Rows.hierNearestSpec).bare.plain.varTypes Tryz.pinned.checked.prog).any (Tryz.pinned.checked.prog.mapsRec ·))) = true := by kernel_rfl
theorem hierNearest_fact14 : ((Rows.hierNearestRow.ifaces == (Tryz.f5.params.toList ++ (OpenSpec.ofChange Rows.hierNearestSpec).bare.plain.varTypes Tryz.pinned.checked.prog).any (Tryz.pinned.checked.prog.ifacesRec ·))) = true := by kernel_rfl
theorem hierNearest_fact15 : ((Rows.hierNearestRow.mapsOut == Tryz.pinned.checked.prog.mapsAmong Tryz.f5.resultTypes.toList)) = true := by kernel_rfl
theorem hierNearest_fact16 : ((Rows.hierNearestRow.loops == (Tryz.f5.params.toList ++ (OpenSpec.ofChange Rows.hierNearestSpec).bare.plain.varTypes Tryz.pinned.checked.prog).any (Tryz.pinned.checked.prog.loopsFrom ·))) = true := by kernel_rfl
theorem hierNearest_fact17 : ((Rows.hierNearestRow.wideKeys == (Tryz.f5.params.toList ++ (OpenSpec.ofChange Rows.hierNearestSpec).bare.plain.varTypes Tryz.pinned.checked.prog ++ Tryz.f5.resultTypes.toList).any (Tryz.pinned.checked.prog.wideKeysFrom ·))) = true := by kernel_rfl
theorem hierNearest_fact18 : ((OpenSpec.ofChange Rows.hierNearestSpec).bare.vars.all (Tryz.pinned.checked.prog.varReadable ·)) = true := by kernel_rfl
theorem hierNearest_fact19 : (Tryz.f5.resultTypes.all (fun t => Tryz.pinned.checked.prog.readableRec t && decide (t < Tryz.pinned.checked.prog.types.size))) = true := by kernel_rfl
theorem hierNearest_fact20 : ((Rows.hierNearestRow.ifacesOut == Tryz.f5.resultTypes.toList.any (Tryz.pinned.checked.prog.ifacesRec ·))) = true := by kernel_rfl
theorem hierNearest_fact21 : ((Rows.hierNearestRow.loopsOut == Tryz.f5.resultTypes.toList.any (Tryz.pinned.checked.prog.loopsFrom ·))) = true := by kernel_rfl
theorem hierNearest_fact22 : ((Rows.hierNearestRow.plainKeys == Tryz.pinned.checked.prog.plainKeys)) = true := by kernel_rfl
theorem hierNearest_fact23 : (Rows.hierNearestRow.shortTexts.isNone) = true := by kernel_rfl
theorem hierNearest_fact24 : (Tryz.pinned.checked.prog.stopsHeard) = true := by kernel_rfl
theorem hierNearest_fact25 : (Tryz.pinned.checked.prog.mayEnter) = true := by kernel_rfl
theorem hierNearest_fact26 : ((Rows.hierNearestRow.lifted == Tryz.pinned.checked.prog.liftsFinal)) = true := by kernel_rfl
theorem hierNearest_fact27 : ((Tryz.pinned.checked.prog.make == some Rows.hierNearestRow.make)) = true := by kernel_rfl
theorem hierNearest_fact28 : ((Rows.hierNearestRow.kinds == (if Rows.hierNearestRow.domain.isEmpty then [] else Tryz.f5.params.toList.map fun t => match Tryz.pinned.checked.prog.underlying t with | some (.int k) => some k | _ => none))) = true := by kernel_rfl
theorem hierNearest_fact29 : ((Rows.hierNearestRow.pinned == Rows.hierNearestRow.pinnedBy)) = true := by kernel_rfl
theorem hierNearest_fact30 : ((Rows.hierNearestRow.veiled == (Tryz.f5.params.toList ++ (OpenSpec.ofChange Rows.hierNearestSpec).bare.plain.varTypes Tryz.pinned.checked.prog ++ Tryz.f5.resultTypes.toList).any (Tryz.pinned.checked.prog.veiledRec ·))) = true := by kernel_rfl
theorem hierNearest_fact31 : (Rows.hierNearestRow.veiledFits Tryz.pinned.checked.prog Tryz.f5.params.toList (Tryz.f5.params.toList ++ (OpenSpec.ofChange Rows.hierNearestSpec).bare.plain.varTypes Tryz.pinned.checked.prog ++ Tryz.f5.resultTypes.toList)) = true := by kernel_rfl
theorem hierNearest_both {a b : Bool} (h : a = true) (k : b = true) : (a && b) = true := by rw [h, k]; rfl
set_option maxRecDepth 100000 in
theorem hierNearest_facts : joinedFacts Tryz.pinned.checked.prog 5 Tryz.f5 (OpenSpec.ofChange Rows.hierNearestSpec).bare Rows.hierNearestRow = true := by
  unfold joinedFacts
  exact (hierNearest_both (hierNearest_both (hierNearest_both (hierNearest_both (hierNearest_both (hierNearest_both (hierNearest_both (hierNearest_both (hierNearest_both (hierNearest_both (hierNearest_both (hierNearest_both (hierNearest_both (hierNearest_both (hierNearest_both (hierNearest_both (hierNearest_both (hierNearest_both (hierNearest_both (hierNearest_both (hierNearest_both (hierNearest_both (hierNearest_both (hierNearest_both (hierNearest_both (hierNearest_both (hierNearest_both (hierNearest_both (hierNearest_both (hierNearest_both (hierNearest_both hierNearest_fact0 hierNearest_fact1) hierNearest_fact2) hierNearest_fact3) hierNearest_fact4) hierNearest_fact5) hierNearest_fact6) hierNearest_fact7) hierNearest_fact8) hierNearest_fact9) hierNearest_fact10) hierNearest_fact11) hierNearest_fact12) hierNearest_fact13) hierNearest_fact14) hierNearest_fact15) hierNearest_fact16) hierNearest_fact17) hierNearest_fact18) hierNearest_fact19) hierNearest_fact20) hierNearest_fact21) hierNearest_fact22) hierNearest_fact23) hierNearest_fact24) hierNearest_fact25) hierNearest_fact26) hierNearest_fact27) hierNearest_fact28) hierNearest_fact29) hierNearest_fact30) hierNearest_fact31)

end Go.Proofs.YtgmmclcpfmnoiaaGreatDoor
