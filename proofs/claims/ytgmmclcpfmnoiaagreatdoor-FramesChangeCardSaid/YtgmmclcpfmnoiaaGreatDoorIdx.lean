/-
  The first place of a list at which a test holds, as a number; plainly. What is asked of a function value that tests.
-/
import Derived.Test.YtgmmclcpfmnoiaaGreatDoorApp
import Derived.Shelf.Abstract
namespace Go.Proofs.YtgmmclcpfmnoiaaGreatDoor
open Go.RowKit

def idxZ {α : Type} (p : α → Bool) (xs : List α) : Int := match xs.findIdx? p with | some i => (i : Int) | none => -1
section
variable {α : Type} {p : α → Bool} {xs : List α}
theorem idxZ_hit {k : Nat} (hk : k < xs.length) (h : p xs[k] = true) (hb : ∀ (j : Nat) (hj : j < xs.length), j < k → p xs[j] = false) : idxZ p xs = k := by
  have : xs.findIdx? p = some k := by
    rw [List.findIdx?_eq_some_iff_getElem]
    exact ⟨hk, h, fun j hj => by simp [hb j (by omega) hj]⟩
  unfold idxZ; rw [this]
theorem idxZ_miss (hb : ∀ (j : Nat) (hj : j < xs.length), p xs[j] = false) : idxZ p xs = -1 := by
  have : xs.findIdx? p = none := by
    rw [List.findIdx?_eq_none_iff]
    intro x hx
    obtain ⟨j, hj, rfl⟩ := List.getElem_of_mem hx
    exact hb j hj
  unfold idxZ; rw [this]
theorem idxZ_any : decide (0 ≤ idxZ p xs) = xs.any p := by
  unfold idxZ
  cases h : xs.findIdx? p with
  | none =>
    rw [List.findIdx?_eq_none_iff] at h
    have : xs.any p = false := List.any_eq_false.2 (fun x hx => by simp [h x hx])
    rw [this]; rfl
  | some i =>
    rw [List.findIdx?_eq_some_iff_getElem] at h
    obtain ⟨hi, hp, -⟩ := h
    have : xs.any p = true := List.any_eq_true.2 ⟨xs[i], List.getElem_mem hi, hp⟩
    rw [this]; simp
theorem idxZ_range : -1 ≤ idxZ p xs ∧ idxZ p xs < xs.length + 1 := by
  unfold idxZ
  cases h : xs.findIdx? p with
  | none => simp; omega
  | some i =>
    rw [List.findIdx?_eq_some_iff_getElem] at h
    obtain ⟨hi, -⟩ := h
    simp; omega
end
/-- A function value that tests elements as p does. -/
def Tests {α : Type} (P : Program) (R : Reading α) (arg : List Value → Value) (S : Blocks) (w : World) (g : Nat) (lb : Array Value) (p : α → Bool) (xs : List α) : Prop :=
  ∀ (W : World) (x : α) (cs : List Value), x ∈ xs → Chg No w W → R S W x cs → Calls P g (#[arg cs] ++ lb) W fun e w' => e = .returned (.bool (p x)) ∧ Chg No W w'
/-- One cell, as a value; several. -/
def one1 (cs : List Value) : Value := cs.headD undef
def aggN (cs : List Value) : Value := .agg cs.toArray
/-- A function of the program enters. -/
abbrev Ent1 (P : Program) (g : Nat) : Prop := ∀ (args : Array Value) (w : World), (callFunc g args).run P w = .ok (.enter g args) w

end Go.Proofs.YtgmmclcpfmnoiaaGreatDoor
