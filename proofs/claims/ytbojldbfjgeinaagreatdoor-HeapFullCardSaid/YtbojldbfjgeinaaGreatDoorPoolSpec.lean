/-
  What a pool is, and what its entries say: no program in sight.
-/
import Derived.Test.YtbojldbfjgeinaaGreatDoorTextSpec
namespace Go.Proofs.YtbojldbfjgeinaaGreatDoor
open Go.RowKit

abbrev zEn : En := ⟨0, [], 0, 0, 0, 0⟩
/-- The entry of a number, if it is of a kind. -/
def entK (l : List En) (i k : Int) : Option En := if 0 ≤ i ∧ i < l.length then (if (l.getD i.toNat zEn).kind = k then some (l.getD i.toNat zEn) else none) else none
def namedE (l : List En) (i : Int) (p : Bs → Bool) : Int := match entK l i 1 with
  | none => 16
  | some x => if p x.text = true then 0 else 14
def typedE (l : List En) (i : Int) : Int := match entK l i 1 with
  | none => 16
  | some x => (typeRead x.text).2
def signedE (l : List En) (i : Int) : Int := match entK l i 1 with
  | none => 16
  | some x => (sigRead x.text).2
/-- What is wrong with the entries that an entry uses. -/
def usesE (l : List En) (x : En) : Int :=
  if x.kind = 1 then (if 255 < x.text.length then 5 else 0)
  else if x.kind = 2 then 0
  else if x.kind = 3 then namedE l x.a nameB
  else if x.kind = 4 then typedE l x.a
  else match entK l x.a 3 with
    | none => 16
    | some _ => if x.kind = 6 then (if namedE l x.b methB ≠ 0 then namedE l x.b methB else signedE l x.c) else (if namedE l x.b nameB ≠ 0 then namedE l x.b nameB else typedE l x.c)
/-- An entry with what its kind may bear alone. -/
def plainE (x : En) : En :=
  if x.kind = 1 then ⟨x.kind, x.text, 0, 0, 0, 0⟩
  else if x.kind = 2 then ⟨x.kind, [], x.n, 0, 0, 0⟩
  else if x.kind = 3 ∨ x.kind = 4 then ⟨x.kind, [], 0, x.a, 0, 0⟩
  else ⟨x.kind, [], 0, x.a, x.b, x.c⟩
/-- What is wrong with an entry. -/
def entE (l : List En) (x : En) : Int := if x.kind < 1 ∨ 6 < x.kind then 3 else if x ≠ plainE x then 1 else usesE l x
/-- The first entry with which something is wrong. -/
def firstE (l : List En) : Nat → List En → Int × Int
  | _, [] => (0, 0)
  | i, x :: r => if entE l x ≠ 0 then ((i : Int), entE l x) else firstE l (i + 1) r
def poolE (l : List En) : Int × Int := if 4096 < l.length then (4096, 4) else firstE l 0 l
/-- An entry of a kind with which nothing is wrong. -/
def rightE (l : List En) (i k : Int) : En × Int := match entK l i k with
  | none => (zEn, 16)
  | some x => if entE l x ≠ 0 then (zEn, entE l x) else (x, 0)
def txt (l : List En) (i : Int) : Bs := (l.getD i.toNat zEn).text
def poolNumber (l : List En) (i : Int) : Int × Int := ((rightE l i 2).1.n, (rightE l i 2).2)
def poolClass (l : List En) (i : Int) : Bs × Int := if (rightE l i 3).2 ≠ 0 then ([], (rightE l i 3).2) else (txt l (rightE l i 3).1.a, 0)
def poolType (l : List En) (i : Int) : Ty × Int := if (rightE l i 4).2 ≠ 0 then (zTy, (rightE l i 4).2) else typeRead (txt l (rightE l i 4).1.a)
def poolField (l : List En) (i : Int) : (Bs × Bs × Ty) × Int :=
  if (rightE l i 5).2 ≠ 0 then (([], [], zTy), (rightE l i 5).2)
  else if (poolClass l (rightE l i 5).1.a).2 ≠ 0 then (([], [], zTy), (poolClass l (rightE l i 5).1.a).2)
  else (((poolClass l (rightE l i 5).1.a).1, txt l (rightE l i 5).1.b, (typeRead (txt l (rightE l i 5).1.c)).1), (typeRead (txt l (rightE l i 5).1.c)).2)
def poolMethod (l : List En) (i : Int) : (Bs × Bs × Sg) × Int :=
  if (rightE l i 6).2 ≠ 0 then (([], [], zSg), (rightE l i 6).2)
  else if (poolClass l (rightE l i 6).1.a).2 ≠ 0 then (([], [], zSg), (poolClass l (rightE l i 6).1.a).2)
  else (((poolClass l (rightE l i 6).1.a).1, txt l (rightE l i 6).1.b, (sigRead (txt l (rightE l i 6).1.c)).1), (sigRead (txt l (rightE l i 6).1.c)).2)

end Go.Proofs.YtbojldbfjgeinaaGreatDoor
