/-
  DERIVED. GIVEN WITH THE SEED: THE CARDS: each row of YtbojldbfjgeinaaGreatDoorRows.lean that lists a variable, with what it lists TIED to the program's text (the seventh form; the later family's looks); each row that meets fmt, with fmt's text TOLD by the authors' own Lean function (tested against real Go, not proved from fmt's source: count such statements apart). THE CARD IS WHAT COUNTS. Prove the row's statement (the work); the ties are given (YtbojldbfjgeinaaGreatDoorTie.lean); close each card by the builder's one call (the guide's Derived/Test/ToyasCard.lean, 'card_holds'). Laid BY PROGRAM, IN A SANDBOX (cutbox-door.mjs). By AI agents, Wed Nov 11 2026. No macro, syntax, notation, axiom, sorry.
-/
import Derived.Test.YtbojldbfjgeinaaGreatDoorRows
import GoSem.ClaimSeven
namespace Go.Proofs.YtbojldbfjgeinaaGreatDoor
namespace Rows

/-- THE TIED CARD OF 'keystonelaw6.HierLinks'. -/
def hierLinksCard : Claim7 := { stood := { row := hierLinksRow, standIns := [], harness := (true, "9cddb9c53e812c43b83f6cece61fdba739e24326c0be789b1dcb81801a25b7c3"), looks := true }, kinds := [], alts := [], laidByText := true, laidKinds := [.data, .handle, .pinned], laidTests := true, laidLooks := .later }
def HierLinksCardSaid : Prop := Claim7.holds Tryz.pinned (.plain (OpenSpec.ofChange hierLinksSpec)) hierLinksCard

/-- THE TIED CARD OF 'keystonelaw6.HierOrder'. -/
def hierOrderCard : Claim7 := { stood := { row := hierOrderRow, standIns := [], harness := (true, "9cddb9c53e812c43b83f6cece61fdba739e24326c0be789b1dcb81801a25b7c3"), looks := true }, kinds := [], alts := [], laidByText := true, laidKinds := [.data, .handle, .pinned], laidTests := true, laidLooks := .later }
def HierOrderCardSaid : Prop := Claim7.holds Tryz.pinned (.plain (OpenSpec.ofChange hierOrderSpec)) hierOrderCard

/-- THE TIED CARD OF 'keystonelaw13.HeapFull'. -/
def heapFullCard : Claim7 := { stood := { row := heapFullRow, standIns := [], harness := (true, "9cddb9c53e812c43b83f6cece61fdba739e24326c0be789b1dcb81801a25b7c3"), looks := true }, kinds := [], alts := [], laidByText := true, laidKinds := [.data, .handle, .pinned], laidTests := true, laidLooks := .later }
def HeapFullCardSaid : Prop := Claim7.holds Tryz.pinned (.plain (OpenSpec.ofChange heapFullSpec)) heapFullCard

/-- THE TIED CARD OF 'keystonelaw8.FramesChange'. -/
def framesChangeCard : Claim7 := { stood := { row := framesChangeRow, standIns := [], harness := (true, "9cddb9c53e812c43b83f6cece61fdba739e24326c0be789b1dcb81801a25b7c3"), looks := true }, kinds := [], alts := [], laidByText := true, laidKinds := [.data, .handle, .pinned], laidTests := true, laidLooks := .later }
def FramesChangeCardSaid : Prop := Claim7.holds Tryz.pinned (.plain (OpenSpec.ofChange framesChangeSpec)) framesChangeCard

/-- THE SECOND FORM's CARD OF 'keystonelaw6.HierLinks'. -/
def hierLinksUptoCard : Claim7 := { stood := { row := hierLinksUptoRow, standIns := [], harness := (true, "9cddb9c53e812c43b83f6cece61fdba739e24326c0be789b1dcb81801a25b7c3"), looks := true }, kinds := [], alts := [], laidByText := true, laidKinds := [.data, .handle, .pinned], laidTests := true, laidLooks := .later }
def HierLinksUptoCardSaid : Prop := Claim7.holds Tryz.pinned (.plain (OpenSpec.upto hierLinksSpec)) hierLinksUptoCard

/-- THE SECOND FORM's CARD OF 'keystonelaw6.HierOrder'. -/
def hierOrderUptoCard : Claim7 := { stood := { row := hierOrderUptoRow, standIns := [], harness := (true, "9cddb9c53e812c43b83f6cece61fdba739e24326c0be789b1dcb81801a25b7c3"), looks := true }, kinds := [], alts := [], laidByText := true, laidKinds := [.data, .handle, .pinned], laidTests := true, laidLooks := .later }
def HierOrderUptoCardSaid : Prop := Claim7.holds Tryz.pinned (.plain (OpenSpec.upto hierOrderSpec)) hierOrderUptoCard

/-- THE SECOND FORM's CARD OF 'keystonelaw13.HeapFull'. -/
def heapFullUptoCard : Claim7 := { stood := { row := heapFullUptoRow, standIns := [], harness := (true, "9cddb9c53e812c43b83f6cece61fdba739e24326c0be789b1dcb81801a25b7c3"), looks := true }, kinds := [], alts := [], laidByText := true, laidKinds := [.data, .handle, .pinned], laidTests := true, laidLooks := .later }
def HeapFullUptoCardSaid : Prop := Claim7.holds Tryz.pinned (.plain (OpenSpec.upto heapFullSpec)) heapFullUptoCard

/-- THE SECOND FORM's CARD OF 'keystonelaw8.FramesChange'. -/
def framesChangeUptoCard : Claim7 := { stood := { row := framesChangeUptoRow, standIns := [], harness := (true, "9cddb9c53e812c43b83f6cece61fdba739e24326c0be789b1dcb81801a25b7c3"), looks := true }, kinds := [], alts := [], laidByText := true, laidKinds := [.data, .handle, .pinned], laidTests := true, laidLooks := .later }
def FramesChangeUptoCardSaid : Prop := Claim7.holds Tryz.pinned (.plain (OpenSpec.upto framesChangeSpec)) framesChangeUptoCard
end Rows
end Go.Proofs.YtbojldbfjgeinaaGreatDoor
