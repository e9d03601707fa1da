/-
  Numbers among the arguments: what a slice of them reads as.
-/
import Derived.Test.YtgmmclcpfmnoiaaGreatDoorOpen0
namespace Go.Proofs.YtgmmclcpfmnoiaaGreatDoor
open Go.ChangeShapes Go.WideShapes Go.ChangeAt Go.RowKit Go.Deep
section
variable {H : Type} {enc : TypeId × Value → H} {W : World} {base : Nat} {v : Value} {d : DataW H} {p : List MemPlace}
set_option maxRecDepth 100000 in
theorem open_intsQ (hok : Value.okWide Tryz.prog W .any base 53 v) (h : DataW.Trod enc Tryz.prog W 0 (fun _ => true) true 53 v d p) : ∃ l : List Int, SQ 1 RInt Any W v l ∧ l.length ≤ maxLen := by
  obtain ⟨a, len, cap, rfl⟩ := okWide_slice Tryz.underlying53 hok
  obtain ⟨l, ⟨v', he, h1⟩, w⟩ := open_G (opens_slice 1 Tryz.underlying53 (by kernel_rfl) (by decide) (opens_int Tryz.underlying3)) h
  have hc : ([.slice a len cap] : List Value) = [v'] := he
  cases hc
  exact ⟨l, h1, w.1⟩
end
end Go.Proofs.YtgmmclcpfmnoiaaGreatDoor
