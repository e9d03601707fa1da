/-
  Instructions as bytes, and what is wrong with code: no program in sight.
-/
import Derived.Test.YtbojldbfjgeinaaGreatDoorPoolSpec
namespace Go.Proofs.YtbojldbfjgeinaaGreatDoor
open Go.RowKit

/-- An instruction: its place, its operation, its number, how many bytes it has. -/
structure In where
  at_ : Int
  op : Int
  n : Int
  size : Int
deriving DecidableEq, Inhabited
def RIn : Reading In := fun _ _ x cs => cs = [.int .i64 x.at_, .int .i64 x.op, .int .i64 x.n, .int .i64 x.size]
theorem goodIn : Good RIn := ⟨fun h _ _ => h, fun h _ => h, fun h u hu => by rw [h] at hu; simp only [List.mem_cons, List.not_mem_nil, or_false] at hu; (repeat' (first | (rcases hu with rfl | hu) | (subst hu))) <;> rfl⟩
abbrev zIn : In := ⟨0, 0, 0, 0⟩
def jumpsB (op : Int) : Bool := decide (19 ≤ op ∧ op ≤ 24)
def wideB (op : Int) : Bool := decide (op = 1 ∨ 25 ≤ op ∧ op ≤ 30 ∨ 36 ≤ op ∧ op ≤ 41) || jumpsB op
def sizeZ (op : Int) : Int := if op < 0 ∨ 45 < op then 0 else if wideB op = true then 3 else if op = 3 ∨ op = 4 then 2 else 1
def byteAt (code : Bs) (i : Nat) : Int := ((code.getD i 0).toNat : Int)
/-- The number behind an operation. -/
def numAt (code : Bs) (at_ : Nat) (size : Int) : Int := if size = 3 then 256 * byteAt code (at_ + 1) + byteAt code (at_ + 2) else if size = 2 then byteAt code (at_ + 1) else 0
/-- The instruction at a place; an error. -/
def decodeZ (code : Bs) (at_ : Nat) : In × Int :=
  if code.length ≤ at_ then (zIn, 11)
  else if sizeZ (byteAt code at_) = 0 then (zIn, 17)
  else if (code.length : Int) - at_ < sizeZ (byteAt code at_) then (zIn, 11)
  else (⟨at_, byteAt code at_, numAt code at_ (sizeZ (byteAt code at_)), sizeZ (byteAt code at_)⟩, 0)
/-- All instructions from a place on; where it can't be read, and why. -/
def allFrom : Nat → Bs → Nat → List In × Int × Int
  | 0, _, _ => ([], 0, 0)
  | n + 1, code, at_ => if code.length ≤ at_ then ([], 0, 0)
    else if (decodeZ code at_).2 ≠ 0 then ([], at_, (decodeZ code at_).2)
    else match allFrom n code (at_ + (decodeZ code at_).1.size.toNat) with
      | (l, p, e) => if e ≠ 0 then ([], p, e) else ((decodeZ code at_).1 :: l, 0, 0)
def allZ (code : Bs) : List In × Int × Int := allFrom (code.length + 1) code 0
def beginsB (l : List In) (at_ : Int) : Bool := l.any fun i => i.at_ == at_
/-- What is wrong with an instruction's entry. -/
def askE (l : List En) (i : In) : Int :=
  if i.op = 1 then (poolNumber l i.n).2
  else if i.op = 25 then (poolClass l i.n).2
  else if i.op = 26 ∨ i.op = 27 ∨ i.op = 28 ∨ i.op = 29 then (poolField l i.n).2
  else if i.op = 30 then (if (poolType l i.n).2 ≠ 0 then (poolType l i.n).2 else if (poolType l i.n).1.dims = 8 then 15 else 0)
  else if i.op = 36 ∨ i.op = 37 then (if (poolType l i.n).2 ≠ 0 then (poolType l i.n).2 else if (poolType l i.n).1 = zTy then 15 else 0)
  else 0
def callE (l : List En) (i : In) : Int :=
  if (poolMethod l i.n).2 ≠ 0 then (poolMethod l i.n).2
  else if ((poolMethod l i.n).1.2.1 == [60, 105, 110, 105, 116, 62]) ≠ (i.op == 41) then 14
  else if i.op = 41 ∧ (poolMethod l i.n).1.2.2.void = false then 15
  else 0
/-- What is wrong with an instruction of some code. -/
def insE (l : List En) (all : List In) (locals_ : Int) (i : In) : Int :=
  if i.op = 3 ∨ i.op = 4 then (if locals_ ≤ i.n then 43 else 0)
  else if jumpsB i.op = true then (if beginsB all i.n = true then 0 else 18)
  else if 38 ≤ i.op ∧ i.op ≤ 41 then callE l i
  else askE l i
def firstI (l : List En) (all : List In) (locals_ : Int) : List In → Int × Int
  | [] => (0, 0)
  | i :: r => if insE l all locals_ i ≠ 0 then (i.at_, insE l all locals_ i) else firstI l all locals_ r
/-- What is wrong with code, and where. -/
def codeE (code : Bs) (l : List En) (locals_ : Int) : Int × Int :=
  if code.length = 0 then (0, 46)
  else if 1024 < code.length then (0, 5)
  else match allZ code with
    | (all, p, e) => if e ≠ 0 then (p, e) else firstI l all locals_ all

end Go.Proofs.YtbojldbfjgeinaaGreatDoor
