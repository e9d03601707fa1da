/-
  What package desc tells of names: no program in sight.
-/
import Derived.Test.YtgmmclcpfmnoiaaGreatDoorApi
namespace Go.Proofs.YtgmmclcpfmnoiaaGreatDoor
open Go.RowKit

/-- May a byte stand in a name: as its first one, too? -/
def letterZ (n : Int) (first : Bool) : Bool :=
  decide (97 ≤ n ∧ n ≤ 122 ∨ 65 ≤ n ∧ n ≤ 90 ∨ n = 95) || (!first && decide (48 ≤ n ∧ n ≤ 57))
/-- Place i of a text. -/
def okAt (s : List UInt8) (i : Nat) : Bool := letterZ ((s.getD i 0).toNat : Int) (i == 0)
/-- Is it a name? -/
def nameB (s : List UInt8) : Bool := (List.range s.length).all (okAt s) && !s.isEmpty && decide (s.length ≤ 32)
theorem nameB_bad {s : List UInt8} {k : Nat} (h : k < s.length) (hk : okAt s k = false) : nameB s = false := by
  unfold nameB
  have : (List.range s.length).all (okAt s) = false := by
    rw [List.all_eq_false]
    exact ⟨k, List.mem_range.2 h, by simp [hk]⟩
  simp [this]
theorem nameB_all {s : List UInt8} (h : ∀ k, k < s.length → okAt s k = true) : nameB s = (!s.isEmpty && decide (s.length ≤ 32)) := by
  unfold nameB
  have : (List.range s.length).all (okAt s) = true := List.all_eq_true.2 fun k hk => h k (List.mem_range.1 hk)
  simp [this]

end Go.Proofs.YtgmmclcpfmnoiaaGreatDoor
