/-
  What package desc tells of types and signatures and their texts: no program in sight.
-/
import Derived.Test.YtbojldbfjgeinaaGreatDoorDescSpec
namespace Go.Proofs.YtbojldbfjgeinaaGreatDoor
open Go.RowKit

abbrev zTy : Ty := ⟨0, []⟩
abbrev zSg : Sg := ⟨[], false, zTy⟩
/-- What is wrong with a type. -/
def tyErr (t : Ty) : Int := if t.dims < 0 ∨ 8 < t.dims then 1 else if t.name ≠ [] ∧ nameB t.name = false then 14 else 0
/-- How many brackets a text begins with. -/
def brk : Bs → Nat
  | [] => 0
  | c :: r => if c = 91 then brk r + 1 else 0
/-- A text ahead of a byte, and behind it. -/
def cutAt (c : UInt8) : Bs → Option (Bs × Bs)
  | [] => none
  | x :: r => if x = c then some ([], r) else match cutAt c r with
    | none => none
    | some (a, b) => some (x :: a, b)
/-- The type at the beginning of a text, and what is left. -/
def firstTy (s : Bs) : Option (Ty × Bs) :=
  if 8 < brk s then none else match s.drop (brk s) with
    | [] => none
    | c :: q => if c = 73 then some (⟨(brk s : Int), []⟩, q) else if c = 76 then (match cutAt 59 q with
      | none => none
      | some (nm, rest) => if nameB nm = true then some (⟨(brk s : Int), nm⟩, rest) else none) else none
def typeRead (s : Bs) : Ty × Int := match firstTy s with
  | some (t, []) => (t, 0)
  | _ => (zTy, 15)
def tyTail (n : Bs) : Bs := if n = [] then [73] else 76 :: (n ++ [59])
def tyBody (t : Ty) : Bs := List.replicate t.dims.toNat 91 ++ tyTail t.name
def typeText (t : Ty) : Bs × Int := if tyErr t = 0 then (tyBody t, 0) else ([], tyErr t)
/-- The parameters of a signature, up to the bracket that closes them. -/
def sigPs : Nat → Bs → Option (List Ty × Bs)
  | 0, _ => none
  | n + 1, s => match s with
    | 41 :: q => some ([], q)
    | _ => match firstTy s with
      | none => none
      | some (t, r) => match sigPs n r with
        | none => none
        | some (l, q) => some (t :: l, q)
/-- What stands behind the parameters. -/
def sigEnd (ps : List Ty) (q : Bs) : Sg × Int :=
  if q = [86] then (if 16 < ps.length then (zSg, 4) else (⟨ps, true, zTy⟩, 0))
  else match firstTy q with
    | some (t, []) => if 16 < ps.length then (zSg, 4) else (⟨ps, false, t⟩, 0)
    | _ => (zSg, 15)
def sigRead (s : Bs) : Sg × Int := match s with
  | 40 :: r => match sigPs (r.length + 1) r with
    | none => (zSg, 15)
    | some (ps, q) => sigEnd ps q
  | _ => (zSg, 15)
/-- The parameters' texts, one behind the other; the first error. -/
def parText : List Ty → Bs × Int
  | [] => ([], 0)
  | t :: l => if tyErr t = 0 then (match parText l with
    | (s, e) => if e = 0 then (tyBody t ++ s, 0) else ([], e)) else ([], tyErr t)
def sigText (g : Sg) : Bs × Int :=
  if 16 < g.params.length then ([], 4)
  else if (parText g.params).2 ≠ 0 then ([], (parText g.params).2)
  else if g.void = true ∧ g.result ≠ zTy then ([], 1)
  else if tyErr g.result ≠ 0 then ([], tyErr g.result)
  else (40 :: ((parText g.params).1 ++ (41 :: (if g.void = true then [86] else tyBody g.result))), 0)
/-- A method's name: "<init>", or a name. -/
def methB (s : Bs) : Bool := s == [60, 105, 110, 105, 116, 62] || nameB s

theorem brk_le (s : Bs) : brk s ≤ s.length := by
  induction s with
  | nil => exact Nat.le_refl _
  | cons c r ih => unfold brk; split <;> simp; omega
theorem cutAt_len {c : UInt8} {s a b : Bs} (h : cutAt c s = some (a, b)) : s = a ++ c :: b := by
  induction s generalizing a b with
  | nil => cases h
  | cons x r ih =>
    unfold cutAt at h
    split at h
    · rename_i hx; cases h; rw [hx]; rfl
    · cases hr : cutAt c r with
      | none => rw [hr] at h; cases h
      | some p => obtain ⟨a', b'⟩ := p; rw [hr] at h; cases h; rw [ih hr]; rfl
theorem firstTy_lt {s : Bs} {t : Ty} {r : Bs} (h : firstTy s = some (t, r)) : r.length < s.length := by
  have hb := brk_le s
  unfold firstTy at h
  split at h
  · cases h
  · cases hd : s.drop (brk s) with
    | nil => rw [hd] at h; cases h
    | cons c q =>
      rw [hd] at h
      have hl := congrArg List.length hd
      rw [List.length_drop, List.length_cons] at hl
      simp only at h
      split at h
      · cases h; omega
      · split at h
        · cases hc : cutAt 59 q with
          | none => rw [hc] at h; cases h
          | some p =>
            obtain ⟨a, b⟩ := p
            rw [hc] at h
            have := congrArg List.length (cutAt_len hc)
            rw [List.length_append, List.length_cons] at this
            simp only at h
            split at h
            · cases h; omega
            · cases h
        · cases h

end Go.Proofs.YtbojldbfjgeinaaGreatDoor
