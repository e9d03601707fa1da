/-
  DERIVED. GIVEN WITH THE SEED: THE CARDS: each row of YtmpmfbnglfgobaaGreatDoorRows.lean that lists a variable, with what it lists TIED to the program's text (the seventh form; the later family's looks); each row that meets fmt, with fmt's text TOLD by the authors' own Lean function (tested against real Go, not proved from fmt's source: count such statements apart). THE CARD IS WHAT COUNTS. Prove the row's statement (the work); the ties are given (YtmpmfbnglfgobaaGreatDoorTie.lean); close each card by the builder's one call (the guide's Derived/Test/ToyasCard.lean, 'card_holds'). Laid BY PROGRAM, IN A SANDBOX (cutbox-door.mjs). By AI agents, Wed Nov 11 2026. No macro, syntax, notation, axiom, sorry.
-/
import Derived.Test.YtmpmfbnglfgobaaGreatDoorRows
import GoSem.ClaimSeven
namespace Go.Proofs.YtmpmfbnglfgobaaGreatDoor
namespace Rows

/-- THE TIED CARD OF 'keystonelaw6.HierDeep'. -/
def hierDeepCard : Claim7 := { stood := { row := hierDeepRow, standIns := [], harness := (true, "22ba057e08732e6dceab5738792c1913445705db49b22e0ff711321114ac432c"), looks := true }, kinds := [], alts := [], laidByText := true, laidKinds := [.data, .handle, .pinned], laidTests := true, laidLooks := .later }
def HierDeepCardSaid : Prop := Claim7.holds Tryz.pinned (.plain (OpenSpec.ofChange hierDeepSpec)) hierDeepCard

/-- THE SECOND FORM's CARD OF 'keystonelaw6.HierDeep'. -/
def hierDeepUptoCard : Claim7 := { stood := { row := hierDeepUptoRow, standIns := [], harness := (true, "22ba057e08732e6dceab5738792c1913445705db49b22e0ff711321114ac432c"), looks := true }, kinds := [], alts := [], laidByText := true, laidKinds := [.data, .handle, .pinned], laidTests := true, laidLooks := .later }
def HierDeepUptoCardSaid : Prop := Claim7.holds Tryz.pinned (.plain (OpenSpec.upto hierDeepSpec)) hierDeepUptoCard
end Rows
end Go.Proofs.YtmpmfbnglfgobaaGreatDoor
