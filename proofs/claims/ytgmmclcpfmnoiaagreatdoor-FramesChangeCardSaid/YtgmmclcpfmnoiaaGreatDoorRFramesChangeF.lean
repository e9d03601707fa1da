/-
  The closed facts of the row of FramesChange, one by one: in one declaration the kernel outgrows its memory.
-/
import Derived.Test.YtgmmclcpfmnoiaaGreatDoorRows
import Derived.ProofKit
import Derived.JoinedOf
namespace Go.Proofs.YtgmmclcpfmnoiaaGreatDoor
open Go
theorem framesChange_fact0 : (Rows.framesChangeRow.wf (OpenSpec.ofChange (OpenSpec.ofChange Rows.framesChangeSpec).bare)) = true := by kernel_rfl
theorem framesChange_fact1 : (laidOutB Tryz.pinned.checked.prog) = true := by kernel_rfl
theorem framesChange_fact2 : (mapsRowed Tryz.pinned.checked.prog) = true := by kernel_rfl
theorem framesChange_fact3 : (Tryz.f6.params.all (Tryz.pinned.checked.prog.readableRec ·)) = true := by kernel_rfl
theorem framesChange_fact4 : (namedTie Tryz.pinned.checked.prog Rows.framesChangeRow.named (OpenSpec.ofChange Rows.framesChangeSpec).bare.vars) = true := by kernel_rfl
theorem framesChange_fact5 : ((Rows.framesChangeRow.stops == [])) = true := by kernel_rfl
theorem framesChange_fact6 : ((Tryz.pinned.checked.prog.stops == [])) = true := by kernel_rfl
theorem framesChange_fact7 : ((Rows.framesChangeRow.knobs == [])) = true := by kernel_rfl
theorem framesChange_fact8 : ((Tryz.pinned.checked.prog.stopKnobs == [])) = true := by kernel_rfl
theorem framesChange_fact9 : ((Rows.framesChangeRow.inPlace == Tryz.pinned.checked.prog.inPlace 6)) = true := by kernel_rfl
theorem framesChange_fact10 : ((Rows.framesChangeRow.unfollowed == Tryz.pinned.checked.prog.unfollowed 6)) = true := by kernel_rfl
theorem framesChange_fact11 : ((Rows.framesChangeRow.recurses == Tryz.pinned.checked.prog.recurses 6)) = true := by kernel_rfl
theorem framesChange_fact12 : ((Rows.framesChangeRow.named == Tryz.pinned.checked.prog.varsNamed 6)) = true := by kernel_rfl
theorem framesChange_fact13 : ((Rows.framesChangeRow.maps == (Tryz.f6.params.toList ++ (OpenSpec.ofChange Rows.framesChangeSpec).bare.plain.varTypes Tryz.pinned.checked.prog).any (Tryz.pinned.checked.prog.mapsRec ·))) = true := by kernel_rfl
theorem framesChange_fact14 : ((Rows.framesChangeRow.ifaces == (Tryz.f6.params.toList ++ (OpenSpec.ofChange Rows.framesChangeSpec).bare.plain.varTypes Tryz.pinned.checked.prog).any (Tryz.pinned.checked.prog.ifacesRec ·))) = true := by kernel_rfl
theorem framesChange_fact15 : ((Rows.framesChangeRow.mapsOut == Tryz.pinned.checked.prog.mapsAmong Tryz.f6.resultTypes.toList)) = true := by kernel_rfl
theorem framesChange_fact16 : ((Rows.framesChangeRow.loops == (Tryz.f6.params.toList ++ (OpenSpec.ofChange Rows.framesChangeSpec).bare.plain.varTypes Tryz.pinned.checked.prog).any (Tryz.pinned.checked.prog.loopsFrom ·))) = true := by kernel_rfl
theorem framesChange_fact17 : ((Rows.framesChangeRow.wideKeys == (Tryz.f6.params.toList ++ (OpenSpec.ofChange Rows.framesChangeSpec).bare.plain.varTypes Tryz.pinned.checked.prog ++ Tryz.f6.resultTypes.toList).any (Tryz.pinned.checked.prog.wideKeysFrom ·))) = true := by kernel_rfl
theorem framesChange_fact18 : ((OpenSpec.ofChange Rows.framesChangeSpec).bare.vars.all (Tryz.pinned.checked.prog.varReadable ·)) = true := by kernel_rfl
theorem framesChange_fact19 : (Tryz.f6.resultTypes.all (fun t => Tryz.pinned.checked.prog.readableRec t && decide (t < Tryz.pinned.checked.prog.types.size))) = true := by kernel_rfl
theorem framesChange_fact20 : ((Rows.framesChangeRow.ifacesOut == Tryz.f6.resultTypes.toList.any (Tryz.pinned.checked.prog.ifacesRec ·))) = true := by kernel_rfl
theorem framesChange_fact21 : ((Rows.framesChangeRow.loopsOut == Tryz.f6.resultTypes.toList.any (Tryz.pinned.checked.prog.loopsFrom ·))) = true := by kernel_rfl
theorem framesChange_fact22 : ((Rows.framesChangeRow.plainKeys == Tryz.pinned.checked.prog.plainKeys)) = true := by kernel_rfl
theorem framesChange_fact23 : (Rows.framesChangeRow.shortTexts.isNone) = true := by kernel_rfl
theorem framesChange_fact24 : (Tryz.pinned.checked.prog.stopsHeard) = true := by kernel_rfl
theorem framesChange_fact25 : (Tryz.pinned.checked.prog.mayEnter) = true := by kernel_rfl
theorem framesChange_fact26 : ((Rows.framesChangeRow.lifted == Tryz.pinned.checked.prog.liftsFinal)) = true := by kernel_rfl
theorem framesChange_fact27 : ((Tryz.pinned.checked.prog.make == some Rows.framesChangeRow.make)) = true := by kernel_rfl
theorem framesChange_fact28 : ((Rows.framesChangeRow.kinds == (if Rows.framesChangeRow.domain.isEmpty then [] else Tryz.f6.params.toList.map fun t => match Tryz.pinned.checked.prog.underlying t with | some (.int k) => some k | _ => none))) = true := by kernel_rfl
theorem framesChange_fact29 : ((Rows.framesChangeRow.pinned == Rows.framesChangeRow.pinnedBy)) = true := by kernel_rfl
theorem framesChange_fact30 : ((Rows.framesChangeRow.veiled == (Tryz.f6.params.toList ++ (OpenSpec.ofChange Rows.framesChangeSpec).bare.plain.varTypes Tryz.pinned.checked.prog ++ Tryz.f6.resultTypes.toList).any (Tryz.pinned.checked.prog.veiledRec ·))) = true := by kernel_rfl
theorem framesChange_fact31 : (Rows.framesChangeRow.veiledFits Tryz.pinned.checked.prog Tryz.f6.params.toList (Tryz.f6.params.toList ++ (OpenSpec.ofChange Rows.framesChangeSpec).bare.plain.varTypes Tryz.pinned.checked.prog ++ Tryz.f6.resultTypes.toList)) = true := by kernel_rfl
theorem framesChange_both {a b : Bool} (h : a = true) (k : b = true) : (a && b) = true := by rw [h, k]; rfl
set_option maxRecDepth 100000 in
theorem framesChange_facts : joinedFacts Tryz.pinned.checked.prog 6 Tryz.f6 (OpenSpec.ofChange Rows.framesChangeSpec).bare Rows.framesChangeRow = true := by
  unfold joinedFacts
  exact (framesChange_both (framesChange_both (framesChange_both (framesChange_both (framesChange_both (framesChange_both (framesChange_both (framesChange_both (framesChange_both (framesChange_both (framesChange_both (framesChange_both (framesChange_both (framesChange_both (framesChange_both (framesChange_both (framesChange_both (framesChange_both (framesChange_both (framesChange_both (framesChange_both (framesChange_both (framesChange_both (framesChange_both (framesChange_both (framesChange_both (framesChange_both (framesChange_both (framesChange_both (framesChange_both (framesChange_both framesChange_fact0 framesChange_fact1) framesChange_fact2) framesChange_fact3) framesChange_fact4) framesChange_fact5) framesChange_fact6) framesChange_fact7) framesChange_fact8) framesChange_fact9) framesChange_fact10) framesChange_fact11) framesChange_fact12) framesChange_fact13) framesChange_fact14) framesChange_fact15) framesChange_fact16) framesChange_fact17) framesChange_fact18) framesChange_fact19) framesChange_fact20) framesChange_fact21) framesChange_fact22) framesChange_fact23) framesChange_fact24) framesChange_fact25) framesChange_fact26) framesChange_fact27) framesChange_fact28) framesChange_fact29) framesChange_fact30) framesChange_fact31)

end Go.Proofs.YtgmmclcpfmnoiaaGreatDoor
