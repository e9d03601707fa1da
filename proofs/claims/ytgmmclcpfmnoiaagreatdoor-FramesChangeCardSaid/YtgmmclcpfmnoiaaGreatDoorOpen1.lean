/-
  Whole numbers among the arguments: what a slice of them reads as.
-/
import Derived.Test.YtgmmclcpfmnoiaaGreatDoorOpen0
namespace Go.Proofs.YtgmmclcpfmnoiaaGreatDoor
open Go.ChangeShapes Go.WideShapes Go.ChangeAt Go.RowKit Go.Deep
section
variable {H : Type} {enc : TypeId × Value → H} {W : World} {base : Nat} {v : Value} {d : DataW H} {p : List MemPlace}
set_option maxRecDepth 100000 in
theorem open_is {t e : TypeId} (ht : Tryz.prog.underlying t = some (.slice e)) (he : Tryz.prog.underlying e = some (.int .i64)) (hc : Tryz.prog.cellsOf e = 1) (hok : Value.okWide Tryz.prog W .any base t v) (h : DataW.Trod enc Tryz.prog W 0 (fun _ => true) true t v d p) :
    ∃ ns, SL iv W v ns ∧ SliceOf d ns.length ∧ ∀ n ∈ ns, -9223372036854775808 ≤ n ∧ n ≤ 9223372036854775807 := by
  obtain ⟨xs, h1, h2, h3⟩ := open_ints_SL iv .i64 (fun n => n) (fun n hn => rfl) ht he hc hok h
  exact ⟨xs, h1, h2, fun n hn => by obtain ⟨m, hm, rfl⟩ := h3 n hn; exact wf_i64 hm⟩
end
theorem SL.cellAt {α : Type} {enc : α → Value} {W w : World} {a : Option Addr} {n cap : Nat} {xs : List α} (h : SL enc W (.slice a n cap) xs) (c : Chg No W w) (k : Nat) (hk : k < xs.length) : ∃ b o, a = some ⟨b, o, none⟩ ∧ w.cell? ⟨b, o + k, none⟩ = some (enc xs[k]) := by
  obtain ⟨a', cap', he, h1, h2, h3⟩ := h.new c
  cases he
  exact SL.cell h3 h2 h1 k hk
theorem ret_true {b : Bool} (h : b = true) : Ending.returned (.bool b) = .returned (.bool true) := by rw [h]
theorem tmod_lt (n : Int) (m : Nat) (h : 0 < m) : -(m : Int) < n.tmod m ∧ n.tmod m < m := by
  have hm : (0 : Int) < m := by omega
  exact ⟨by have := Int.lt_tmod_of_pos n hm; omega, Int.tmod_lt_of_pos n hm⟩
end Go.Proofs.YtgmmclcpfmnoiaaGreatDoor
