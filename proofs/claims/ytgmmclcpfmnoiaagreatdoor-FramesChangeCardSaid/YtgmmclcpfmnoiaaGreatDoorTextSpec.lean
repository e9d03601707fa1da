/-
  What package desc tells of types and signatures and their texts: no program in sight.
-/
import Derived.Test.YtgmmclcpfmnoiaaGreatDoorDescSpec
namespace Go.Proofs.YtgmmclcpfmnoiaaGreatDoor
open Go.RowKit

abbrev zTy : Ty := ⟨0, []⟩
abbrev zSg : Sg := ⟨[], false, zTy⟩
/-- What is wrong with a type. -/
def tyErr (t : Ty) : Int := if t.dims < 0 ∨ 8 < t.dims then 1 else if t.name ≠ [] ∧ nameB t.name = false then 14 else 0
/-- How many brackets a text begins with. -/
def brk : Bs → Nat
  | [] => 0
  | c :: r => if c = 91 then brk r + 1 else 0
/-- A text ahead of a byte, and behind it. -/
def cutAt (c : UInt8) : Bs → Option (Bs × Bs)
  | [] => none
  | x :: r => if x = c then some ([], r) else match cutAt c r with
    | none => none
    | some (a, b) => some (x :: a, b)
/-- The type at the beginning of a text, and what is left. -/
def firstTy (s : Bs) : Option (Ty × Bs) :=
  if 8 < brk s then none else match s.drop (brk s) with
    | [] => none
    | c :: q => if c = 73 then some (⟨(brk s : Int), []⟩, q) else if c = 76 then (match cutAt 59 q with
      | none => none
      | some (nm, rest) => if nameB nm = true then some (⟨(brk s : Int), nm⟩, rest) else none) else none
def typeRead (s : Bs) : Ty × Int := match firstTy s with
  | some (t, []) => (t, 0)
  | _ => (zTy, 15)
def tyTail (n : Bs) : Bs := if n = [] then [73] else 76 :: (n ++ [59])
def tyBody (t : Ty) : Bs := List.replicate t.dims.toNat 91 ++ tyTail t.name
def typeText (t : Ty) : Bs × Int := if tyErr t = 0 then (tyBody t, 0) else ([], tyErr t)
/-- The parameters of a signature, up to the bracket that closes them. -/
def sigPs : Nat → Bs → Option (List Ty × Bs)
  | 0, _ => none
  | n + 1, s => match s with
    | 41 :: q => some ([], q)
    | _ => match firstTy s with
      | none => none
      | some (t, r) => match sigPs n r with
        | none => none
        | some (l, q) => some (t :: l, q)
/-- What stands behind the parameters. -/
def sigEnd (ps : List Ty) (q : Bs) : Sg × Int :=
  if q = [86] then (if 16 < ps.length then (zSg, 4) else (⟨ps, true, zTy⟩, 0))
  else match firstTy q with
    | some (t, []) => if 16 < ps.length then (zSg, 4) else (⟨ps, false, t⟩, 0)
    | _ => (zSg, 15)
def sigRead (s : Bs) : Sg × Int := match s with
  | 40 :: r => match sigPs (r.length + 1) r with
    | none => (zSg, 15)
    | some (ps, q) => sigEnd ps q
  | _ => (zSg, 15)
/-- The parameters' texts, one behind the other; the first error. -/
def parText : List Ty → Bs × Int
  | [] => ([], 0)
  | t :: l => if tyErr t = 0 then (match parText l with
    | (s, e) => if e = 0 then (tyBody t ++ s, 0) else ([], e)) else ([], tyErr t)
def sigText (g : Sg) : Bs × Int :=
  if 16 < g.params.length then ([], 4)
  else if (parText g.params).2 ≠ 0 then ([], (parText g.params).2)
  else if g.void = true ∧ g.result ≠ zTy then ([], 1)
  else if tyErr g.result ≠ 0 then ([], tyErr g.result)
  else (40 :: ((parText g.params).1 ++ (41 :: (if g.void = true then [86] else tyBody g.result))), 0)
/-- A method's name: "<init>", or a name. -/
def methB (s : Bs) : Bool := s == [60, 105, 110, 105, 116, 62] || nameB s

theorem brk_le (s : Bs) : brk s ≤ s.length := by
  induction s with
  | nil => exact Nat.le_refl _
  | cons c r ih => unfold brk; split <;> simp; omega
theorem cutAt_len {c : UInt8} {s a b : Bs} (h : cutAt c s = some (a, b)) : s = a ++ c :: b := by
  induction s generalizing a b with
  | nil => cases h
  | cons x r ih =>
    unfold cutAt at h
    split at h
    · rename_i hx; cases h; rw [hx]; rfl
    · cases hr : cutAt c r with
      | none => rw [hr] at h; cases h
      | some p => obtain ⟨a', b'⟩ := p; rw [hr] at h; cases h; rw [ih hr]; rfl
theorem firstTy_lt {s : Bs} {t : Ty} {r : Bs} (h : firstTy s = some (t, r)) : r.length < s.length := by
  have hb := brk_le s
  unfold firstTy at h
  split at h
  · cases h
  · cases hd : s.drop (brk s) with
    | nil => rw [hd] at h; cases h
    | cons c q =>
      rw [hd] at h
      have hl := congrArg List.length hd
      rw [List.length_drop, List.length_cons] at hl
      simp only at h
      split at h
      · cases h; omega
      · split at h
        · cases hc : cutAt 59 q with
          | none => rw [hc] at h; cases h
          | some p =>
            obtain ⟨a, b⟩ := p
            rw [hc] at h
            have := congrArg List.length (cutAt_len hc)
            rw [List.length_append, List.length_cons] at this
            simp only at h
            split at h
            · cases h; omega
            · cases h
        · cases h

end Go.Proofs.YtgmmclcpfmnoiaaGreatDoor

namespace Go.Proofs.YtgmmclcpfmnoiaaGreatDoor
open Go.RowKit

abbrev zEn : En := ⟨0, [], 0, 0, 0, 0⟩
/-- The entry of a number, if it is of a kind. -/
def entK (l : List En) (i k : Int) : Option En := if 0 ≤ i ∧ i < l.length then (if (l.getD i.toNat zEn).kind = k then some (l.getD i.toNat zEn) else none) else none
def namedE (l : List En) (i : Int) (p : Bs → Bool) : Int := match entK l i 1 with
  | none => 16
  | some x => if p x.text = true then 0 else 14
def typedE (l : List En) (i : Int) : Int := match entK l i 1 with
  | none => 16
  | some x => (typeRead x.text).2
def signedE (l : List En) (i : Int) : Int := match entK l i 1 with
  | none => 16
  | some x => (sigRead x.text).2
/-- What is wrong with the entries that an entry uses. -/
def usesE (l : List En) (x : En) : Int :=
  if x.kind = 1 then (if 255 < x.text.length then 5 else 0)
  else if x.kind = 2 then 0
  else if x.kind = 3 then namedE l x.a nameB
  else if x.kind = 4 then typedE l x.a
  else match entK l x.a 3 with
    | none => 16
    | some _ => if x.kind = 6 then (if namedE l x.b methB ≠ 0 then namedE l x.b methB else signedE l x.c) else (if namedE l x.b nameB ≠ 0 then namedE l x.b nameB else typedE l x.c)
/-- An entry with what its kind may bear alone. -/
def plainE (x : En) : En :=
  if x.kind = 1 then ⟨x.kind, x.text, 0, 0, 0, 0⟩
  else if x.kind = 2 then ⟨x.kind, [], x.n, 0, 0, 0⟩
  else if x.kind = 3 ∨ x.kind = 4 then ⟨x.kind, [], 0, x.a, 0, 0⟩
  else ⟨x.kind, [], 0, x.a, x.b, x.c⟩
/-- What is wrong with an entry. -/
def entE (l : List En) (x : En) : Int := if x.kind < 1 ∨ 6 < x.kind then 3 else if x ≠ plainE x then 1 else usesE l x
/-- The first entry with which something is wrong. -/
def firstE (l : List En) : Nat → List En → Int × Int
  | _, [] => (0, 0)
  | i, x :: r => if entE l x ≠ 0 then ((i : Int), entE l x) else firstE l (i + 1) r
def poolE (l : List En) : Int × Int := if 4096 < l.length then (4096, 4) else firstE l 0 l
/-- An entry of a kind with which nothing is wrong. -/
def rightE (l : List En) (i k : Int) : En × Int := match entK l i k with
  | none => (zEn, 16)
  | some x => if entE l x ≠ 0 then (zEn, entE l x) else (x, 0)
def txt (l : List En) (i : Int) : Bs := (l.getD i.toNat zEn).text
def poolNumber (l : List En) (i : Int) : Int × Int := ((rightE l i 2).1.n, (rightE l i 2).2)
def poolClass (l : List En) (i : Int) : Bs × Int := if (rightE l i 3).2 ≠ 0 then ([], (rightE l i 3).2) else (txt l (rightE l i 3).1.a, 0)
def poolType (l : List En) (i : Int) : Ty × Int := if (rightE l i 4).2 ≠ 0 then (zTy, (rightE l i 4).2) else typeRead (txt l (rightE l i 4).1.a)
def poolField (l : List En) (i : Int) : (Bs × Bs × Ty) × Int :=
  if (rightE l i 5).2 ≠ 0 then (([], [], zTy), (rightE l i 5).2)
  else if (poolClass l (rightE l i 5).1.a).2 ≠ 0 then (([], [], zTy), (poolClass l (rightE l i 5).1.a).2)
  else (((poolClass l (rightE l i 5).1.a).1, txt l (rightE l i 5).1.b, (typeRead (txt l (rightE l i 5).1.c)).1), (typeRead (txt l (rightE l i 5).1.c)).2)
def poolMethod (l : List En) (i : Int) : (Bs × Bs × Sg) × Int :=
  if (rightE l i 6).2 ≠ 0 then (([], [], zSg), (rightE l i 6).2)
  else if (poolClass l (rightE l i 6).1.a).2 ≠ 0 then (([], [], zSg), (poolClass l (rightE l i 6).1.a).2)
  else (((poolClass l (rightE l i 6).1.a).1, txt l (rightE l i 6).1.b, (sigRead (txt l (rightE l i 6).1.c)).1), (sigRead (txt l (rightE l i 6).1.c)).2)

end Go.Proofs.YtgmmclcpfmnoiaaGreatDoor

namespace Go.Proofs.YtgmmclcpfmnoiaaGreatDoor
open Go.RowKit

/-- An instruction: its place, its operation, its number, how many bytes it has. -/
structure In where
  at_ : Int
  op : Int
  n : Int
  size : Int
deriving DecidableEq, Inhabited
def RIn : Reading In := fun _ _ x cs => cs = [.int .i64 x.at_, .int .i64 x.op, .int .i64 x.n, .int .i64 x.size]
theorem goodIn : Good RIn := ⟨fun h _ _ => h, fun h _ => h, fun h u hu => by rw [h] at hu; simp only [List.mem_cons, List.not_mem_nil, or_false] at hu; (repeat' (first | (rcases hu with rfl | hu) | (subst hu))) <;> rfl⟩
abbrev zIn : In := ⟨0, 0, 0, 0⟩
def jumpsB (op : Int) : Bool := decide (19 ≤ op ∧ op ≤ 24)
def wideB (op : Int) : Bool := decide (op = 1 ∨ 25 ≤ op ∧ op ≤ 30 ∨ 36 ≤ op ∧ op ≤ 41) || jumpsB op
def sizeZ (op : Int) : Int := if op < 0 ∨ 45 < op then 0 else if wideB op = true then 3 else if op = 3 ∨ op = 4 then 2 else 1
def byteAt (code : Bs) (i : Nat) : Int := ((code.getD i 0).toNat : Int)
/-- The number behind an operation. -/
def numAt (code : Bs) (at_ : Nat) (size : Int) : Int := if size = 3 then 256 * byteAt code (at_ + 1) + byteAt code (at_ + 2) else if size = 2 then byteAt code (at_ + 1) else 0
/-- The instruction at a place; an error. -/
def decodeZ (code : Bs) (at_ : Nat) : In × Int :=
  if code.length ≤ at_ then (zIn, 11)
  else if sizeZ (byteAt code at_) = 0 then (zIn, 17)
  else if (code.length : Int) - at_ < sizeZ (byteAt code at_) then (zIn, 11)
  else (⟨at_, byteAt code at_, numAt code at_ (sizeZ (byteAt code at_)), sizeZ (byteAt code at_)⟩, 0)
/-- All instructions from a place on; where it can't be read, and why. -/
def allFrom : Nat → Bs → Nat → List In × Int × Int
  | 0, _, _ => ([], 0, 0)
  | n + 1, code, at_ => if code.length ≤ at_ then ([], 0, 0)
    else if (decodeZ code at_).2 ≠ 0 then ([], at_, (decodeZ code at_).2)
    else match allFrom n code (at_ + (decodeZ code at_).1.size.toNat) with
      | (l, p, e) => if e ≠ 0 then ([], p, e) else ((decodeZ code at_).1 :: l, 0, 0)
def allZ (code : Bs) : List In × Int × Int := allFrom (code.length + 1) code 0
def beginsB (l : List In) (at_ : Int) : Bool := l.any fun i => i.at_ == at_
/-- What is wrong with an instruction's entry. -/
def askE (l : List En) (i : In) : Int :=
  if i.op = 1 then (poolNumber l i.n).2
  else if i.op = 25 then (poolClass l i.n).2
  else if i.op = 26 ∨ i.op = 27 ∨ i.op = 28 ∨ i.op = 29 then (poolField l i.n).2
  else if i.op = 30 then (if (poolType l i.n).2 ≠ 0 then (poolType l i.n).2 else if (poolType l i.n).1.dims = 8 then 15 else 0)
  else if i.op = 36 ∨ i.op = 37 then (if (poolType l i.n).2 ≠ 0 then (poolType l i.n).2 else if (poolType l i.n).1 = zTy then 15 else 0)
  else 0
def callE (l : List En) (i : In) : Int :=
  if (poolMethod l i.n).2 ≠ 0 then (poolMethod l i.n).2
  else if ((poolMethod l i.n).1.2.1 == [60, 105, 110, 105, 116, 62]) ≠ (i.op == 41) then 14
  else if i.op = 41 ∧ (poolMethod l i.n).1.2.2.void = false then 15
  else 0
/-- What is wrong with an instruction of some code. -/
def insE (l : List En) (all : List In) (locals_ : Int) (i : In) : Int :=
  if i.op = 3 ∨ i.op = 4 then (if locals_ ≤ i.n then 43 else 0)
  else if jumpsB i.op = true then (if beginsB all i.n = true then 0 else 18)
  else if 38 ≤ i.op ∧ i.op ≤ 41 then callE l i
  else askE l i
def firstI (l : List En) (all : List In) (locals_ : Int) : List In → Int × Int
  | [] => (0, 0)
  | i :: r => if insE l all locals_ i ≠ 0 then (i.at_, insE l all locals_ i) else firstI l all locals_ r
/-- What is wrong with code, and where. -/
def codeE (code : Bs) (l : List En) (locals_ : Int) : Int × Int :=
  if code.length = 0 then (0, 46)
  else if 1024 < code.length then (0, 5)
  else match allZ code with
    | (all, p, e) => if e ≠ 0 then (p, e) else firstI l all locals_ all

end Go.Proofs.YtgmmclcpfmnoiaaGreatDoor
