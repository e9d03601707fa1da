/-
  DERIVED. GIVEN WITH THE SEED: THE CARDS: each row of YtgmmclcpfmnoiaaGreatDoorRows.lean that lists a variable, with what it lists TIED to the program's text (the seventh form; the later family's looks); each row that meets fmt, with fmt's text TOLD by the authors' own Lean function (tested against real Go, not proved from fmt's source: count such statements apart). THE CARD IS WHAT COUNTS. Prove the row's statement (the work); the ties are given (YtgmmclcpfmnoiaaGreatDoorTie.lean); close each card by the builder's one call (the guide's Derived/Test/ToyasCard.lean, 'card_holds'). Laid BY PROGRAM, IN A SANDBOX (cutbox-door.mjs). By AI agents, Wed Nov 11 2026. No macro, syntax, notation, axiom, sorry.
-/
import Derived.Test.YtgmmclcpfmnoiaaGreatDoorRows
import GoSem.ClaimSeven
namespace Go.Proofs.YtgmmclcpfmnoiaaGreatDoor
namespace Rows

/-- THE TIED CARD OF 'keystonelaw6.HierRules'. -/
def hierRulesCard : Claim7 := { stood := { row := hierRulesRow, standIns := [], harness := (true, "63f8a83e29a0ca66f8474bd151359a998f9bc3465973590ce8b4e9d8040f1c0e"), looks := true }, kinds := [], alts := [], laidByText := true, laidKinds := [.data, .handle, .pinned], laidTests := true, laidLooks := .later }
def HierRulesCardSaid : Prop := Claim7.holds Tryz.pinned (.plain (OpenSpec.ofChange hierRulesSpec)) hierRulesCard

/-- THE TIED CARD OF 'keystonelaw6.HierFaces'. -/
def hierFacesCard : Claim7 := { stood := { row := hierFacesRow, standIns := [], harness := (true, "63f8a83e29a0ca66f8474bd151359a998f9bc3465973590ce8b4e9d8040f1c0e"), looks := true }, kinds := [], alts := [], laidByText := true, laidKinds := [.data, .handle, .pinned], laidTests := true, laidLooks := .later }
def HierFacesCardSaid : Prop := Claim7.holds Tryz.pinned (.plain (OpenSpec.ofChange hierFacesSpec)) hierFacesCard

/-- THE TIED CARD OF 'keystonelaw6.HierNearest'. -/
def hierNearestCard : Claim7 := { stood := { row := hierNearestRow, standIns := [], harness := (true, "63f8a83e29a0ca66f8474bd151359a998f9bc3465973590ce8b4e9d8040f1c0e"), looks := true }, kinds := [], alts := [], laidByText := true, laidKinds := [.data, .handle, .pinned], laidTests := true, laidLooks := .later }
def HierNearestCardSaid : Prop := Claim7.holds Tryz.pinned (.plain (OpenSpec.ofChange hierNearestSpec)) hierNearestCard

/-- THE TIED CARD OF 'keystonelaw8.FramesChange'. -/
def framesChangeCard : Claim7 := { stood := { row := framesChangeRow, standIns := [], harness := (true, "63f8a83e29a0ca66f8474bd151359a998f9bc3465973590ce8b4e9d8040f1c0e"), looks := true }, kinds := [], alts := [], laidByText := true, laidKinds := [.data, .handle, .pinned], laidTests := true, laidLooks := .later }
def FramesChangeCardSaid : Prop := Claim7.holds Tryz.pinned (.plain (OpenSpec.ofChange framesChangeSpec)) framesChangeCard

/-- THE SECOND FORM's CARD OF 'keystonelaw6.HierRules'. -/
def hierRulesUptoCard : Claim7 := { stood := { row := hierRulesUptoRow, standIns := [], harness := (true, "63f8a83e29a0ca66f8474bd151359a998f9bc3465973590ce8b4e9d8040f1c0e"), looks := true }, kinds := [], alts := [], laidByText := true, laidKinds := [.data, .handle, .pinned], laidTests := true, laidLooks := .later }
def HierRulesUptoCardSaid : Prop := Claim7.holds Tryz.pinned (.plain (OpenSpec.upto hierRulesSpec)) hierRulesUptoCard

/-- THE SECOND FORM's CARD OF 'keystonelaw6.HierFaces'. -/
def hierFacesUptoCard : Claim7 := { stood := { row := hierFacesUptoRow, standIns := [], harness := (true, "63f8a83e29a0ca66f8474bd151359a998f9bc3465973590ce8b4e9d8040f1c0e"), looks := true }, kinds := [], alts := [], laidByText := true, laidKinds := [.data, .handle, .pinned], laidTests := true, laidLooks := .later }
def HierFacesUptoCardSaid : Prop := Claim7.holds Tryz.pinned (.plain (OpenSpec.upto hierFacesSpec)) hierFacesUptoCard

/-- THE SECOND FORM's CARD OF 'keystonelaw6.HierNearest'. -/
def hierNearestUptoCard : Claim7 := { stood := { row := hierNearestUptoRow, standIns := [], harness := (true, "63f8a83e29a0ca66f8474bd151359a998f9bc3465973590ce8b4e9d8040f1c0e"), looks := true }, kinds := [], alts := [], laidByText := true, laidKinds := [.data, .handle, .pinned], laidTests := true, laidLooks := .later }
def HierNearestUptoCardSaid : Prop := Claim7.holds Tryz.pinned (.plain (OpenSpec.upto hierNearestSpec)) hierNearestUptoCard

/-- THE SECOND FORM's CARD OF 'keystonelaw8.FramesChange'. -/
def framesChangeUptoCard : Claim7 := { stood := { row := framesChangeUptoRow, standIns := [], harness := (true, "63f8a83e29a0ca66f8474bd151359a998f9bc3465973590ce8b4e9d8040f1c0e"), looks := true }, kinds := [], alts := [], laidByText := true, laidKinds := [.data, .handle, .pinned], laidTests := true, laidLooks := .later }
def FramesChangeUptoCardSaid : Prop := Claim7.holds Tryz.pinned (.plain (OpenSpec.upto framesChangeSpec)) framesChangeUptoCard
end Rows
end Go.Proofs.YtgmmclcpfmnoiaaGreatDoor
