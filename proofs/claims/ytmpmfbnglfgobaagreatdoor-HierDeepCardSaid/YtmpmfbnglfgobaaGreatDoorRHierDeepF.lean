/-
  The closed facts of the row of HierDeep, one by one: in one declaration the kernel outgrows its memory.
-/
import Derived.Test.YtmpmfbnglfgobaaGreatDoorRows
import Derived.ProofKit
import Derived.JoinedOf
namespace Go.Proofs.YtmpmfbnglfgobaaGreatDoor
open Go
theorem hierDeep_fact0 : (Rows.hierDeepRow.wf (OpenSpec.ofChange (OpenSpec.ofChange Rows.hierDeepSpec).bare)) = true := by kernel_rfl
theorem hierDeep_fact1 : (laidOutB Tryz.pinned.checked.prog) = true := by kernel_rfl
theorem hierDeep_fact2 : (mapsRowed Tryz.pinned.checked.prog) = true := by kernel_rfl
theorem hierDeep_fact3 : (Tryz.f3.params.all (Tryz.pinned.checked.prog.readableRec ·)) = true := by kernel_rfl
theorem hierDeep_fact4 : (namedTie Tryz.pinned.checked.prog Rows.hierDeepRow.named (OpenSpec.ofChange Rows.hierDeepSpec).bare.vars) = true := by kernel_rfl
theorem hierDeep_fact5 : ((Rows.hierDeepRow.stops == [])) = true := by kernel_rfl
theorem hierDeep_fact6 : ((Tryz.pinned.checked.prog.stops == [])) = true := by kernel_rfl
theorem hierDeep_fact7 : ((Rows.hierDeepRow.knobs == [])) = true := by kernel_rfl
theorem hierDeep_fact8 : ((Tryz.pinned.checked.prog.stopKnobs == [])) = true := by kernel_rfl
theorem hierDeep_fact9 : ((Rows.hierDeepRow.inPlace == Tryz.pinned.checked.prog.inPlace 3)) = true := by kernel_rfl
theorem hierDeep_fact10 : ((Rows.hierDeepRow.unfollowed == Tryz.pinned.checked.prog.unfollowed 3)) = true := by kernel_rfl
theorem hierDeep_fact11 : ((Rows.hierDeepRow.recurses == Tryz.pinned.checked.prog.recurses 3)) = true := by kernel_rfl
theorem hierDeep_fact12 : ((Rows.hierDeepRow.named == Tryz.pinned.checked.prog.varsNamed 3)) = true := by kernel_rfl
theorem hierDeep_fact13 : ((Rows.hierDeepRow.maps == (Tryz.f3.params.toList ++ (OpenSpec.ofChange Rows.hierDeepSpec).bare.plain.varTypes Tryz.pinned.checked.prog).any (Tryz.pinned.checked.prog.mapsRec ·))) = true := by kernel_rfl
theorem hierDeep_fact14 : ((Rows.hierDeepRow.ifaces == (Tryz.f3.params.toList ++ (OpenSpec.ofChange Rows.hierDeepSpec).bare.plain.varTypes Tryz.pinned.checked.prog).any (Tryz.pinned.checked.prog.ifacesRec ·))) = true := by kernel_rfl
theorem hierDeep_fact15 : ((Rows.hierDeepRow.mapsOut == Tryz.pinned.checked.prog.mapsAmong Tryz.f3.resultTypes.toList)) = true := by kernel_rfl
theorem hierDeep_fact16 : ((Rows.hierDeepRow.loops == (Tryz.f3.params.toList ++ (OpenSpec.ofChange Rows.hierDeepSpec).bare.plain.varTypes Tryz.pinned.checked.prog).any (Tryz.pinned.checked.prog.loopsFrom ·))) = true := by kernel_rfl
theorem hierDeep_fact17 : ((Rows.hierDeepRow.wideKeys == (Tryz.f3.params.toList ++ (OpenSpec.ofChange Rows.hierDeepSpec).bare.plain.varTypes Tryz.pinned.checked.prog ++ Tryz.f3.resultTypes.toList).any (Tryz.pinned.checked.prog.wideKeysFrom ·))) = true := by kernel_rfl
theorem hierDeep_fact18 : ((OpenSpec.ofChange Rows.hierDeepSpec).bare.vars.all (Tryz.pinned.checked.prog.varReadable ·)) = true := by kernel_rfl
theorem hierDeep_fact19 : (Tryz.f3.resultTypes.all (fun t => Tryz.pinned.checked.prog.readableRec t && decide (t < Tryz.pinned.checked.prog.types.size))) = true := by kernel_rfl
theorem hierDeep_fact20 : ((Rows.hierDeepRow.ifacesOut == Tryz.f3.resultTypes.toList.any (Tryz.pinned.checked.prog.ifacesRec ·))) = true := by kernel_rfl
theorem hierDeep_fact21 : ((Rows.hierDeepRow.loopsOut == Tryz.f3.resultTypes.toList.any (Tryz.pinned.checked.prog.loopsFrom ·))) = true := by kernel_rfl
theorem hierDeep_fact22 : ((Rows.hierDeepRow.plainKeys == Tryz.pinned.checked.prog.plainKeys)) = true := by kernel_rfl
theorem hierDeep_fact23 : (Rows.hierDeepRow.shortTexts.isNone) = true := by kernel_rfl
theorem hierDeep_fact24 : (Tryz.pinned.checked.prog.stopsHeard) = true := by kernel_rfl
theorem hierDeep_fact25 : (Tryz.pinned.checked.prog.mayEnter) = true := by kernel_rfl
theorem hierDeep_fact26 : ((Rows.hierDeepRow.lifted == Tryz.pinned.checked.prog.liftsFinal)) = true := by kernel_rfl
theorem hierDeep_fact27 : ((Tryz.pinned.checked.prog.make == some Rows.hierDeepRow.make)) = true := by kernel_rfl
theorem hierDeep_fact28 : ((Rows.hierDeepRow.kinds == (if Rows.hierDeepRow.domain.isEmpty then [] else Tryz.f3.params.toList.map fun t => match Tryz.pinned.checked.prog.underlying t with | some (.int k) => some k | _ => none))) = true := by kernel_rfl
theorem hierDeep_fact29 : ((Rows.hierDeepRow.pinned == Rows.hierDeepRow.pinnedBy)) = true := by kernel_rfl
theorem hierDeep_fact30 : ((Rows.hierDeepRow.veiled == (Tryz.f3.params.toList ++ (OpenSpec.ofChange Rows.hierDeepSpec).bare.plain.varTypes Tryz.pinned.checked.prog ++ Tryz.f3.resultTypes.toList).any (Tryz.pinned.checked.prog.veiledRec ·))) = true := by kernel_rfl
theorem hierDeep_fact31 : (Rows.hierDeepRow.veiledFits Tryz.pinned.checked.prog Tryz.f3.params.toList (Tryz.f3.params.toList ++ (OpenSpec.ofChange Rows.hierDeepSpec).bare.plain.varTypes Tryz.pinned.checked.prog ++ Tryz.f3.resultTypes.toList)) = true := by kernel_rfl
theorem hierDeep_both {a b : Bool} (h : a = true) (k : b = true) : (a && b) = true := by rw [h, k]; rfl
set_option maxRecDepth 100000 in
theorem hierDeep_facts : joinedFacts Tryz.pinned.checked.prog 3 Tryz.f3 (OpenSpec.ofChange Rows.hierDeepSpec).bare Rows.hierDeepRow = true := by
  unfold joinedFacts
  exact (hierDeep_both (hierDeep_both (hierDeep_both (hierDeep_both (hierDeep_both (hierDeep_both (hierDeep_both (hierDeep_both (hierDeep_both (hierDeep_both (hierDeep_both (hierDeep_both (hierDeep_both (hierDeep_both (hierDeep_both (hierDeep_both (hierDeep_both (hierDeep_both (hierDeep_both (hierDeep_both (hierDeep_both (hierDeep_both (hierDeep_both (hierDeep_both (hierDeep_both (hierDeep_both (hierDeep_both (hierDeep_both (hierDeep_both (hierDeep_both (hierDeep_both hierDeep_fact0 hierDeep_fact1) hierDeep_fact2) hierDeep_fact3) hierDeep_fact4) hierDeep_fact5) hierDeep_fact6) hierDeep_fact7) hierDeep_fact8) hierDeep_fact9) hierDeep_fact10) hierDeep_fact11) hierDeep_fact12) hierDeep_fact13) hierDeep_fact14) hierDeep_fact15) hierDeep_fact16) hierDeep_fact17) hierDeep_fact18) hierDeep_fact19) hierDeep_fact20) hierDeep_fact21) hierDeep_fact22) hierDeep_fact23) hierDeep_fact24) hierDeep_fact25) hierDeep_fact26) hierDeep_fact27) hierDeep_fact28) hierDeep_fact29) hierDeep_fact30) hierDeep_fact31)

end Go.Proofs.YtmpmfbnglfgobaaGreatDoor
