/-
  No cell of these rows narrows 'for every input' (looked for: loops, veiled, ifaces, maps, wideKeys, modest, calm, conditions, laid).
  DERIVED. THE GIVEN ROWS OF THIS SEAT. 9 by the template 'for every input the law returns true; each argument reads behind the call as it read before'; 0 by the template 'total and deterministic' (their statements: YtidjeehjojajmaaTotals.lean).
  GIVEN WITH THE SEED: the statements are not yours to turn. If you find one false, say at which input.
  Laid BY PROGRAM, IN A SANDBOX (cutbox-rows.mjs): the forced cells as the released guide's own fill.sh prints them over the translation 89733c2a960ff44e… (all of the seat's roots in one cut). By AI agents, Wed Nov 11 2026. No macro, syntax, notation, axiom, sorry.
-/
import Derived.Test.YtidjeehjojajmaaChecked
import GoSem.Claim
import GoSem.ClaimJoined
import GoSem.ClaimMapViews
import Derived.JoinedTies
import Derived.KernelRfl
namespace Go.Proofs.Ytidjeehjojajmaa
/- THE CELL 'sum', in the pinned program and in every row, IS THE sha256 OF THE DUMP (.gsa) THAT YtidjeehjojajmaaProg.lean LOADS. Nothing in Lean hashes anything: it is a label: what it is worth is what the hold of that sum in a sandbox is worth. -/
noncomputable def Try.pinned : Pinned := { name := "ytidjeehjojajmaa", sum := "89733c2a960ff44eafe15958d83c509af26187046ded8dbf661ee1bed7a47059", checked := Try.checked }
namespace Rows
def none {H : Type} : Left H := { results := [], args := [] }

/-- 'keystonelaw1.CursorNumbers': WHATEVER THE INPUT: true; the input reads as it did. -/
def cursorNumbersSpec : ChangeSpec := { name := "cursorNumbers", fn := fun _ => fun
  | [d] => { results := [.lit (.bool true)], args := [d] }
  | _ => none }
def cursorNumbersRow : OpenClaim := { program := "ytidjeehjojajmaa", sum := "89733c2a960ff44eafe15958d83c509af26187046ded8dbf661ee1bed7a47059", func := "keystone/keystonelaw1.CursorNumbers", spec := "cursorNumbers", apart := false }
def CursorNumbersSaid : Prop := cursorNumbersRow.holds Try.pinned (OpenSpec.ofChange cursorNumbersSpec)

/-- ITS FALSE NEIGHBOUR: 'it returns false'. Refute it at one input. -/
def cursorNumbersWrong : ChangeSpec := { name := "cursorNumbers", fn := fun _ => fun
  | [d] => { results := [.lit (.bool false)], args := [d] }
  | _ => none }
def CursorNumbersWrongFalsely : Prop := cursorNumbersRow.holds Try.pinned (OpenSpec.ofChange cursorNumbersWrong)

/-- 'keystonelaw1.CursorPieces': WHATEVER THE INPUT: true; the input reads as it did. -/
def cursorPiecesSpec : ChangeSpec := { name := "cursorPieces", fn := fun _ => fun
  | [d1, d2] => { results := [.lit (.bool true)], args := [d1, d2] }
  | _ => none }
def cursorPiecesRow : OpenClaim := { program := "ytidjeehjojajmaa", sum := "89733c2a960ff44eafe15958d83c509af26187046ded8dbf661ee1bed7a47059", func := "keystone/keystonelaw1.CursorPieces", spec := "cursorPieces", apart := false }
def CursorPiecesSaid : Prop := cursorPiecesRow.holds Try.pinned (OpenSpec.ofChange cursorPiecesSpec)

/-- ITS FALSE NEIGHBOUR: 'it returns false'. Refute it at one input. -/
def cursorPiecesWrong : ChangeSpec := { name := "cursorPieces", fn := fun _ => fun
  | [d1, d2] => { results := [.lit (.bool false)], args := [d1, d2] }
  | _ => none }
def CursorPiecesWrongFalsely : Prop := cursorPiecesRow.holds Try.pinned (OpenSpec.ofChange cursorPiecesWrong)

/-- 'keystonelaw1.CursorOwn': WHATEVER THE INPUT: true; the input reads as it did. -/
def cursorOwnSpec : ChangeSpec := { name := "cursorOwn", fn := fun _ => fun
  | [d1, d2] => { results := [.lit (.bool true)], args := [d1, d2] }
  | _ => none }
def cursorOwnRow : OpenClaim := { program := "ytidjeehjojajmaa", sum := "89733c2a960ff44eafe15958d83c509af26187046ded8dbf661ee1bed7a47059", func := "keystone/keystonelaw1.CursorOwn", spec := "cursorOwn", apart := false }
def CursorOwnSaid : Prop := cursorOwnRow.holds Try.pinned (OpenSpec.ofChange cursorOwnSpec)

/-- ITS FALSE NEIGHBOUR: 'it returns false'. Refute it at one input. -/
def cursorOwnWrong : ChangeSpec := { name := "cursorOwn", fn := fun _ => fun
  | [d1, d2] => { results := [.lit (.bool false)], args := [d1, d2] }
  | _ => none }
def CursorOwnWrongFalsely : Prop := cursorOwnRow.holds Try.pinned (OpenSpec.ofChange cursorOwnWrong)

/-- 'keystonelaw1.CursorReads': WHATEVER THE INPUT: true; the input reads as it did. -/
def cursorReadsSpec : ChangeSpec := { name := "cursorReads", fn := fun _ => fun
  | [d1, d2] => { results := [.lit (.bool true)], args := [d1, d2] }
  | _ => none }
def cursorReadsRow : OpenClaim := { program := "ytidjeehjojajmaa", sum := "89733c2a960ff44eafe15958d83c509af26187046ded8dbf661ee1bed7a47059", func := "keystone/keystonelaw1.CursorReads", spec := "cursorReads", apart := false }
def CursorReadsSaid : Prop := cursorReadsRow.holds Try.pinned (OpenSpec.ofChange cursorReadsSpec)

/-- ITS FALSE NEIGHBOUR: 'it returns false'. Refute it at one input. -/
def cursorReadsWrong : ChangeSpec := { name := "cursorReads", fn := fun _ => fun
  | [d1, d2] => { results := [.lit (.bool false)], args := [d1, d2] }
  | _ => none }
def CursorReadsWrongFalsely : Prop := cursorReadsRow.holds Try.pinned (OpenSpec.ofChange cursorReadsWrong)

/-- 'keystonelaw1.CursorStays': WHATEVER THE INPUT: true; the input reads as it did. -/
def cursorStaysSpec : ChangeSpec := { name := "cursorStays", fn := fun _ => fun
  | [d1, d2, d3] => { results := [.lit (.bool true)], args := [d1, d2, d3] }
  | _ => none }
def cursorStaysRow : OpenClaim := { program := "ytidjeehjojajmaa", sum := "89733c2a960ff44eafe15958d83c509af26187046ded8dbf661ee1bed7a47059", func := "keystone/keystonelaw1.CursorStays", spec := "cursorStays", apart := false }
def CursorStaysSaid : Prop := cursorStaysRow.holds Try.pinned (OpenSpec.ofChange cursorStaysSpec)

/-- ITS FALSE NEIGHBOUR: 'it returns false'. Refute it at one input. -/
def cursorStaysWrong : ChangeSpec := { name := "cursorStays", fn := fun _ => fun
  | [d1, d2, d3] => { results := [.lit (.bool false)], args := [d1, d2, d3] }
  | _ => none }
def CursorStaysWrongFalsely : Prop := cursorStaysRow.holds Try.pinned (OpenSpec.ofChange cursorStaysWrong)

/-- 'keystonelaw1.CursorGrows': WHATEVER THE INPUT: true; the input reads as it did. -/
def cursorGrowsSpec : ChangeSpec := { name := "cursorGrows", fn := fun _ => fun
  | [d1, d2, d3] => { results := [.lit (.bool true)], args := [d1, d2, d3] }
  | _ => none }
def cursorGrowsRow : OpenClaim := { program := "ytidjeehjojajmaa", sum := "89733c2a960ff44eafe15958d83c509af26187046ded8dbf661ee1bed7a47059", func := "keystone/keystonelaw1.CursorGrows", spec := "cursorGrows", apart := false }
def CursorGrowsSaid : Prop := cursorGrowsRow.holds Try.pinned (OpenSpec.ofChange cursorGrowsSpec)

/-- ITS FALSE NEIGHBOUR: 'it returns false'. Refute it at one input. -/
def cursorGrowsWrong : ChangeSpec := { name := "cursorGrows", fn := fun _ => fun
  | [d1, d2, d3] => { results := [.lit (.bool false)], args := [d1, d2, d3] }
  | _ => none }
def CursorGrowsWrongFalsely : Prop := cursorGrowsRow.holds Try.pinned (OpenSpec.ofChange cursorGrowsWrong)

/-- 'keystonelaw1.CursorRows': WHATEVER THE INPUT: true; the input reads as it did. -/
def cursorRowsSpec : ChangeSpec := { name := "cursorRows", fn := fun _ => fun
  | [d1, d2, d3, d4] => { results := [.lit (.bool true)], args := [d1, d2, d3, d4] }
  | _ => none }
def cursorRowsRow : OpenClaim := { program := "ytidjeehjojajmaa", sum := "89733c2a960ff44eafe15958d83c509af26187046ded8dbf661ee1bed7a47059", func := "keystone/keystonelaw1.CursorRows", spec := "cursorRows", apart := false }
def CursorRowsSaid : Prop := cursorRowsRow.holds Try.pinned (OpenSpec.ofChange cursorRowsSpec)

/-- ITS FALSE NEIGHBOUR: 'it returns false'. Refute it at one input. -/
def cursorRowsWrong : ChangeSpec := { name := "cursorRows", fn := fun _ => fun
  | [d1, d2, d3, d4] => { results := [.lit (.bool false)], args := [d1, d2, d3, d4] }
  | _ => none }
def CursorRowsWrongFalsely : Prop := cursorRowsRow.holds Try.pinned (OpenSpec.ofChange cursorRowsWrong)

/-- 'keystonelaw1.CursorWrites': WHATEVER THE INPUT: true; the input reads as it did. -/
def cursorWritesSpec : ChangeSpec := { name := "cursorWrites", fn := fun _ => fun
  | [d] => { results := [.lit (.bool true)], args := [d] }
  | _ => none }
def cursorWritesRow : OpenClaim := { program := "ytidjeehjojajmaa", sum := "89733c2a960ff44eafe15958d83c509af26187046ded8dbf661ee1bed7a47059", func := "keystone/keystonelaw1.CursorWrites", spec := "cursorWrites", apart := false }
def CursorWritesSaid : Prop := cursorWritesRow.holds Try.pinned (OpenSpec.ofChange cursorWritesSpec)

/-- ITS FALSE NEIGHBOUR: 'it returns false'. Refute it at one input. -/
def cursorWritesWrong : ChangeSpec := { name := "cursorWrites", fn := fun _ => fun
  | [d] => { results := [.lit (.bool false)], args := [d] }
  | _ => none }
def CursorWritesWrongFalsely : Prop := cursorWritesRow.holds Try.pinned (OpenSpec.ofChange cursorWritesWrong)

/-- 'keystonelaw1.CursorBack': WHATEVER THE INPUT: true; the input reads as it did. -/
def cursorBackSpec : ChangeSpec := { name := "cursorBack", fn := fun _ => fun
  | [d] => { results := [.lit (.bool true)], args := [d] }
  | _ => none }
def cursorBackRow : OpenClaim := { program := "ytidjeehjojajmaa", sum := "89733c2a960ff44eafe15958d83c509af26187046ded8dbf661ee1bed7a47059", func := "keystone/keystonelaw1.CursorBack", spec := "cursorBack", apart := false }
def CursorBackSaid : Prop := cursorBackRow.holds Try.pinned (OpenSpec.ofChange cursorBackSpec)

/-- ITS FALSE NEIGHBOUR: 'it returns false'. Refute it at one input. -/
def cursorBackWrong : ChangeSpec := { name := "cursorBack", fn := fun _ => fun
  | [d] => { results := [.lit (.bool false)], args := [d] }
  | _ => none }
def CursorBackWrongFalsely : Prop := cursorBackRow.holds Try.pinned (OpenSpec.ofChange cursorBackWrong)

/- THE SECOND FORM. 'bulk': how many values and letters a reading holds, each counted each time it is reached (what is shared counts as often as it is met; a slice's spare places count too). A statement '..UptoSaid' is the law's where the arguments, and the package variables that the reading takes, are together of bulk at most 1048576: NARROWER than '..Said'. Prove '..Said' where nothing that the law and all that it calls make is longer than what came in: it says more and counts as full. Else prove '..UptoSaid'. A law counts once. -/
mutual
def uptoBulk {H : Type} : DataW H → Nat
  | .lit (.string bytes) => bytes.length + 1
  | .lit _ => 1
  | .nil => 1
  | .ptr d => uptoBulk d + 1
  | .slice elems spare => uptoBulkAll elems + uptoBulkAll spare + 1
  | .agg parts => uptoBulkAll parts + 1
  | .iface _ d => uptoBulk d + 1
  | .map entries => uptoBulkEntries entries + 1
  | .held _ => 1
def uptoBulkAll {H : Type} : List (DataW H) → Nat
  | [] => 0
  | d :: r => uptoBulk d + uptoBulkAll r
def uptoBulkEntries {H : Type} : List (Lit × DataW H) → Nat
  | [] => 0
  | x :: r => uptoBulkEntry x + uptoBulkEntries r
def uptoBulkEntry {H : Type} : Lit × DataW H → Nat
  | (.string bytes, d) => bytes.length + uptoBulk d + 1
  | (_, d) => uptoBulk d + 1
 end
def uptoSmall : (H : Type) → List (DataW H) → Bool := fun _ ds => decide (uptoBulkAll ds ≤ 1048576)
def OpenSpec.upto (s : _root_.Go.ChangeSpec) : _root_.Go.OpenSpec := { _root_.Go.OpenSpec.ofChange s with cond := some uptoSmall }

/-- 'keystonelaw1.CursorNumbers', WHERE WHAT IT READS IS OF BULK AT MOST 1048576: true; the input reads as it did. -/
def cursorNumbersUptoRow : OpenClaim := { program := "ytidjeehjojajmaa", sum := "89733c2a960ff44eafe15958d83c509af26187046ded8dbf661ee1bed7a47059", func := "keystone/keystonelaw1.CursorNumbers", spec := "cursorNumbers", apart := false, narrowed := true }
def CursorNumbersUptoSaid : Prop := cursorNumbersUptoRow.holds Try.pinned (OpenSpec.upto cursorNumbersSpec)

/-- 'keystonelaw1.CursorPieces', WHERE WHAT IT READS IS OF BULK AT MOST 1048576: true; the input reads as it did. -/
def cursorPiecesUptoRow : OpenClaim := { program := "ytidjeehjojajmaa", sum := "89733c2a960ff44eafe15958d83c509af26187046ded8dbf661ee1bed7a47059", func := "keystone/keystonelaw1.CursorPieces", spec := "cursorPieces", apart := false, narrowed := true }
def CursorPiecesUptoSaid : Prop := cursorPiecesUptoRow.holds Try.pinned (OpenSpec.upto cursorPiecesSpec)

/-- 'keystonelaw1.CursorOwn', WHERE WHAT IT READS IS OF BULK AT MOST 1048576: true; the input reads as it did. -/
def cursorOwnUptoRow : OpenClaim := { program := "ytidjeehjojajmaa", sum := "89733c2a960ff44eafe15958d83c509af26187046ded8dbf661ee1bed7a47059", func := "keystone/keystonelaw1.CursorOwn", spec := "cursorOwn", apart := false, narrowed := true }
def CursorOwnUptoSaid : Prop := cursorOwnUptoRow.holds Try.pinned (OpenSpec.upto cursorOwnSpec)

/-- 'keystonelaw1.CursorReads', WHERE WHAT IT READS IS OF BULK AT MOST 1048576: true; the input reads as it did. -/
def cursorReadsUptoRow : OpenClaim := { program := "ytidjeehjojajmaa", sum := "89733c2a960ff44eafe15958d83c509af26187046ded8dbf661ee1bed7a47059", func := "keystone/keystonelaw1.CursorReads", spec := "cursorReads", apart := false, narrowed := true }
def CursorReadsUptoSaid : Prop := cursorReadsUptoRow.holds Try.pinned (OpenSpec.upto cursorReadsSpec)

/-- 'keystonelaw1.CursorStays', WHERE WHAT IT READS IS OF BULK AT MOST 1048576: true; the input reads as it did. -/
def cursorStaysUptoRow : OpenClaim := { program := "ytidjeehjojajmaa", sum := "89733c2a960ff44eafe15958d83c509af26187046ded8dbf661ee1bed7a47059", func := "keystone/keystonelaw1.CursorStays", spec := "cursorStays", apart := false, narrowed := true }
def CursorStaysUptoSaid : Prop := cursorStaysUptoRow.holds Try.pinned (OpenSpec.upto cursorStaysSpec)

/-- 'keystonelaw1.CursorGrows', WHERE WHAT IT READS IS OF BULK AT MOST 1048576: true; the input reads as it did. -/
def cursorGrowsUptoRow : OpenClaim := { program := "ytidjeehjojajmaa", sum := "89733c2a960ff44eafe15958d83c509af26187046ded8dbf661ee1bed7a47059", func := "keystone/keystonelaw1.CursorGrows", spec := "cursorGrows", apart := false, narrowed := true }
def CursorGrowsUptoSaid : Prop := cursorGrowsUptoRow.holds Try.pinned (OpenSpec.upto cursorGrowsSpec)

/-- 'keystonelaw1.CursorRows', WHERE WHAT IT READS IS OF BULK AT MOST 1048576: true; the input reads as it did. -/
def cursorRowsUptoRow : OpenClaim := { program := "ytidjeehjojajmaa", sum := "89733c2a960ff44eafe15958d83c509af26187046ded8dbf661ee1bed7a47059", func := "keystone/keystonelaw1.CursorRows", spec := "cursorRows", apart := false, narrowed := true }
def CursorRowsUptoSaid : Prop := cursorRowsUptoRow.holds Try.pinned (OpenSpec.upto cursorRowsSpec)

/-- 'keystonelaw1.CursorWrites', WHERE WHAT IT READS IS OF BULK AT MOST 1048576: true; the input reads as it did. -/
def cursorWritesUptoRow : OpenClaim := { program := "ytidjeehjojajmaa", sum := "89733c2a960ff44eafe15958d83c509af26187046ded8dbf661ee1bed7a47059", func := "keystone/keystonelaw1.CursorWrites", spec := "cursorWrites", apart := false, narrowed := true }
def CursorWritesUptoSaid : Prop := cursorWritesUptoRow.holds Try.pinned (OpenSpec.upto cursorWritesSpec)

/-- 'keystonelaw1.CursorBack', WHERE WHAT IT READS IS OF BULK AT MOST 1048576: true; the input reads as it did. -/
def cursorBackUptoRow : OpenClaim := { program := "ytidjeehjojajmaa", sum := "89733c2a960ff44eafe15958d83c509af26187046ded8dbf661ee1bed7a47059", func := "keystone/keystonelaw1.CursorBack", spec := "cursorBack", apart := false, narrowed := true }
def CursorBackUptoSaid : Prop := cursorBackUptoRow.holds Try.pinned (OpenSpec.upto cursorBackSpec)

end Rows
end Go.Proofs.Ytidjeehjojajmaa
