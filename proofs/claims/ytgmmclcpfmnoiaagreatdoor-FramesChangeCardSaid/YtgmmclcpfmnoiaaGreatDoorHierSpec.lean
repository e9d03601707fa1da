/-
  What a world of classes is: who stands there, who leads to whom, chains, the walk over interfaces, the nearest method, the seven rules; no program in sight.
-/
import Derived.Test.YtgmmclcpfmnoiaaGreatDoorDescSpec
namespace Go.Proofs.YtgmmclcpfmnoiaaGreatDoor
open Go.RowKit


/-- "<init>". -/
def initName : Bs := [60, 105, 110, 105, 116, 62]
def objectName : Bs := [79, 98, 106, 101, 99, 116]
/-- The class of a name. -/
def fnd (cs : List Cl) (s : Bs) : Option Cl := cs.find? fun c => c.name == s
def isFaceB (c : Cl) : Bool := c.flags == 1
def thereB (cs : List Cl) (s : Bs) : Bool := (fnd cs s).isSome
def faceAtB (cs : List Cl) (s : Bs) : Bool := match fnd cs s with | some c => isFaceB c | none => false
def classAtB (cs : List Cl) (s : Bs) : Bool := match fnd cs s with | some c => !isFaceB c | none => false
def standsB (cs : List Cl) (x : Cl) : Bool := thereB cs x.super && x.faces.all (thereB cs)
def kindsB (cs : List Cl) (x : Cl) : Bool := classAtB cs x.super && x.faces.all (faceAtB cs)

/-- From one class to one just above. -/
def Up (cs : List Cl) (s t : Bs) : Prop := ∃ c, fnd cs s = some c ∧ t ∈ c.super :: c.faces ∧ t ≠ []
/-- From one class to one above. -/
inductive Reach (cs : List Cl) : Bs → Bs → Prop
  | one {s t : Bs} : Up cs s t → Reach cs s t
  | more {s t u : Bs} : Reach cs s t → Up cs t u → Reach cs s u

/-- A class and those above it. -/
inductive IsChain (cs : List Cl) : Bs → List Bs → Prop
  | nil : IsChain cs [] []
  | cons {s : Bs} {c : Cl} {l : List Bs} : s ≠ [] → fnd cs s = some c → IsChain cs c.super l → IsChain cs s (s :: l)
/-- Interfaces, each followed by its own, put behind a list, each once. -/
inductive Into (cs : List Cl) : List Bs → List Bs → List Bs → Prop
  | nil {out : List Bs} : Into cs out [] out
  | seen {s : Bs} {out l o : List Bs} : s ∈ out → Into cs out l o → Into cs out (s :: l) o
  | new {s : Bs} {c : Cl} {out o1 l o : List Bs} : s ∉ out → fnd cs s = some c → Into cs (out ++ [s]) c.faces o1 → Into cs o1 l o → Into cs out (s :: l) o
/-- That, of all of a chain. -/
inductive Walks (cs : List Cl) : List Bs → List Bs → List Bs → Prop
  | nil {out : List Bs} : Walks cs out [] out
  | cons {s : Bs} {c : Cl} {out o1 l o : List Bs} : fnd cs s = some c → Into cs out c.faces o1 → Walks cs o1 l o → Walks cs out (s :: l) o

theorem IsChain.one {cs : List Cl} {s : Bs} {l m : List Bs} (h : IsChain cs s l) (k : IsChain cs s m) : l = m := by
  induction h generalizing m with
  | nil => cases k with
    | nil => rfl
    | cons h => exact absurd rfl h
  | cons hs hf _ ih => cases k with
    | nil => exact absurd rfl hs
    | cons _ hf' hc => rw [hf] at hf'; cases hf'; rw [ih hc]
theorem Into.one {cs : List Cl} {out l o p : List Bs} (h : Into cs out l o) (k : Into cs out l p) : o = p := by
  induction h generalizing p with
  | nil => cases k; rfl
  | seen hs _ ih => cases k with
    | seen _ k => exact ih k
    | new hn => exact absurd hs hn
  | new hn hf _ _ ih1 ih2 => cases k with
    | seen hs => exact absurd hs hn
    | new _ hf' k1 k2 => rw [hf] at hf'; cases hf'; rw [ih1 k1] at ih2; exact ih2 k2
theorem Walks.one {cs : List Cl} {out l o p : List Bs} (h : Walks cs out l o) (k : Walks cs out l p) : o = p := by
  induction h generalizing p with
  | nil => cases k; rfl
  | cons hf hi _ ih => cases k with
    | cons hf' hi' k => rw [hf] at hf'; cases hf'; rw [hi.one hi'] at ih; exact ih k

/-- The class's own method. -/
def methIx (c : Cl) (n : Bs) (g : Sg) : Option Nat := c.methods.findIdx? fun m => m.name == n && m.sig == g
/-- The nearest one of a chain. -/
def nearestM (cs : List Cl) : List Bs → Bs → Sg → Option (Cl × Nat)
  | [], _, _ => none
  | s :: l, n, g => match fnd cs s with
    | none => none
    | some c => match methIx c n g with
      | some i => some (c, i)
      | none => nearestM cs l n g

open Classical in
noncomputable def chainOf (cs : List Cl) (s : Bs) : List Bs := if h : ∃ l, IsChain cs s l then Classical.choose h else []
theorem IsChain.of {cs : List Cl} {s : Bs} {l : List Bs} (h : IsChain cs s l) : chainOf cs s = l := by
  have hx : ∃ l, IsChain cs s l := ⟨l, h⟩
  unfold chainOf
  rw [dif_pos hx]
  exact (Classical.choose_spec hx).one h
open Classical in
noncomputable def walkOf (cs : List Cl) (s : Bs) : List Bs := if h : ∃ o, Walks cs [] (chainOf cs s) o then Classical.choose h else []
theorem Walks.of {cs : List Cl} {s : Bs} {l o : List Bs} (h : Walks cs [] l o) (k : IsChain cs s l) : walkOf cs s = o := by
  rw [← k.of] at h
  have hx : ∃ o, Walks cs [] (chainOf cs s) o := ⟨o, h⟩
  unfold walkOf
  rw [dif_pos hx]
  exact (Classical.choose_spec hx).one h

/-- What a method's code may not do to the one above. -/
def clashB (cs : List Cl) (up : List Bs) (m : Mt) : Bool :=
  !(m.name == initName) && match nearestM cs up m.name m.sig with
    | none => false
    | some (c, i) => m.flags == 4 || (match c.methods[i]? with | some y => y.flags == 4 | none => false)
def overridesB (cs : List Cl) (x : Cl) (up : List Bs) : Bool := isFaceB x || !(x.methods.any (clashB cs up))
/-- Is a method abstract, and lacks the chain one with code? -/
def lacksB (cs : List Cl) (chain : List Bs) (m : Mt) : Bool :=
  m.flags == 2 && match nearestM cs chain m.name m.sig with
    | none => true
    | some (c, i) => !(match c.methods[i]? with | some y => y.flags == 0 | none => false)
/-- Does a class have such a method? -/
def lackAt (cs : List Cl) (chain : List Bs) (s : Bs) : Bool := match fnd cs s with | some c => c.methods.any (lacksB cs chain) | none => false
def owesB (cs : List Cl) (x : Cl) (chain walk : List Bs) : Bool := !(x.flags == 0) || !((walk ++ chain).any (lackAt cs chain))

end Go.Proofs.YtgmmclcpfmnoiaaGreatDoor
