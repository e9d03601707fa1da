/-
  What the arguments of the laws read as: slices of bytes, of whole numbers, of strings, in this seat's words.
-/
import Derived.Test.YtgmmclcpfmnoiaaGreatDoorBase
import Derived.Test.YtgmmclcpfmnoiaaGreatDoorRows
import Derived.ProofKit
import Derived.OpenShut
import Derived.ShutString
import Derived.ChangeOld
import Derived.SliceStrings
import Derived.SizedLaws
import Derived.Deep.Slices
namespace Go.Proofs.YtgmmclcpfmnoiaaGreatDoor
open Go.ChangeShapes Go.WideShapes Go.ChangeAt Go.RowKit Go.Deep

theorem own_knob : ownKnob Tryz.prog.godebug = none := by kernel_rfl
theorem laid_out : laidOutB Tryz.prog = true := by kernel_rfl

/-- A datum that is a slice of so many elements. -/
def SliceOf {H : Type} (d : DataW H) (n : Nat) : Prop := (d = .nil ∧ n = 0) ∨ ∃ elems spare, d = .slice elems spare ∧ elems.length = n

theorem sliceOf_sized {H : Type} {P : Program} {ts : List TypeId} {ds : List (DataW H)} {d : DataW H} {n : Nat} (hd : SliceOf d n) (h : (DataW.weightsEach P ts ds).all (· ≤ reachBytes) = true) {j : Nat} {t e : TypeId} (ht : ts[j]? = some t) (hj : ds[j]? = some d) (hu : P.underlying t = some (.slice e)) :
    n * P.bytesOf e ≤ 140737488351232 := by
  rcases hd with ⟨_, rfl⟩ | ⟨elems, spare, rfl, rfl⟩
  · omega
  · have := sized_slice h ht hj hu
    have h2 : elems.length * P.bytesOf e ≤ (elems.length + spare.length) * P.bytesOf e := Nat.mul_le_mul_right _ (by omega)
    simp only [reachBytes] at this
    omega

theorem slice_has {P : Program} {W : World} {base : Nat} {t e : TypeId} {p : Addr} {n cap : Nat} (ht : P.underlying t = some (.slice e)) (h : Value.okWide P W .any base t (.slice (some p) n cap)) : p.spot = none ∧ p.block < W.heap.size := by
  simp only [Value.okWide, ht, Cell.okWide, Cell.ok] at h
  obtain ⟨_, _, _, h1, row, cells, h2, _⟩ := h
  refine ⟨h1, ?_⟩
  rcases Nat.lt_or_ge p.block W.heap.size with h' | h'
  · exact h'
  · simp [World.shape?, Array.getElem?_eq_none h'] at h2

section
variable {H : Type} {enc : TypeId × Value → H} {W : World} {base : Nat} {v : Value} {d : DataW H} {p : List MemPlace}

set_option maxRecDepth 100000 in
theorem open_ints_SL {α : Type} (en : α → Value) (k : IntKind) (of : Int → α) (hen : ∀ n, (Lit.int k n).wf = true → en (of n) = .int k n) {t e : TypeId} (ht : Tryz.prog.underlying t = some (.slice e)) (he : Tryz.prog.underlying e = some (.int k)) (hc : Tryz.prog.cellsOf e = 1)
    (hok : Value.okWide Tryz.prog W .any base t v) (h : DataW.Trod enc Tryz.prog W 0 (fun _ => true) true t v d p) :
    ∃ xs, SL en W v xs ∧ SliceOf d xs.length ∧ ∀ x ∈ xs, ∃ n, (Lit.int k n).wf = true ∧ x = of n := by
  obtain ⟨a, len, cap, rfl⟩ := okWide_slice ht hok
  obtain ⟨fuel, hf⟩ := h
  rcases open_ints ht he hc hf with ⟨hcs, hx⟩ | ⟨x, l, c, zs, hcs, _, hl, hm, hz, hx, hcell, hwz⟩
  · simp [Value.cells] at hcs
    obtain ⟨rfl, rfl, rfl⟩ := hcs
    exact ⟨[], SL.nil W, .inl ⟨by cases hx; rfl, rfl⟩, fun x hx => by cases hx⟩
  · simp [Value.cells] at hcs
    obtain ⟨rfl, rfl, rfl⟩ := hcs
    simp only [if_true] at hz
    obtain ⟨h1, h2⟩ := slice_has ht hok
    have hlen : ((zs.take len).map of).length = len := by rw [List.length_map, List.length_take]; omega
    refine ⟨(zs.take len).map of, ⟨some x, cap, by rw [hlen], by omega, (fun h => by cases h), fun p hp => ?_⟩, .inr ⟨_, _, by cases hx; rfl, by simp [lits]⟩, fun y hy => ?_⟩
    · cases hp
      refine ⟨h1, h2, fun j u hj => ?_⟩
      rw [List.getElem?_map, List.getElem?_map, List.getElem?_take] at hj
      split at hj
      · have hj2 : j < zs.length := by omega
        rw [List.getElem?_eq_getElem hj2] at hj
        simp only [Option.map_some, Option.some.injEq] at hj
        rw [← hj, hen _ (hwz _ (List.getElem_mem hj2)), hcell j hj2]
        simp [hj2]
      · simp at hj
    · obtain ⟨n, hn, rfl⟩ := List.mem_map.1 hy
      exact ⟨n, hwz n (List.mem_of_mem_take hn), rfl⟩

theorem wf_u8 {n : Int} (h : (Lit.int .u8 n).wf = true) : 0 ≤ n ∧ n ≤ 255 := by simpa [Lit.wf, IntKind.min, IntKind.max, IntKind.signed, IntKind.bits] using h
theorem wf_i64 {n : Int} (h : (Lit.int .i64 n).wf = true) : -9223372036854775808 ≤ n ∧ n ≤ 9223372036854775807 := by simpa [Lit.wf, IntKind.min, IntKind.max, IntKind.signed, IntKind.bits] using h

end

end Go.Proofs.YtgmmclcpfmnoiaaGreatDoor
