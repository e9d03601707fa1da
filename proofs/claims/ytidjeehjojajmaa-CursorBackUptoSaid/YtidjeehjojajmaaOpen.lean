/-
  What the arguments of the laws read as: slices of bytes, of whole numbers, of strings, in this seat's words.
-/
import Derived.Test.YtidjeehjojajmaaBase
import Derived.Test.YtidjeehjojajmaaRows
import Derived.ProofKit
import Derived.OpenShut
import Derived.ShutString
import Derived.ChangeOld
import Derived.SliceStrings
import Derived.SizedLaws
import Derived.Deep.Slices
namespace Go.Proofs.Ytidjeehjojajmaa
open Go.ChangeShapes Go.WideShapes Go.ChangeAt Go.RowKit Go.Deep

theorem own_knob : ownKnob Try.prog.godebug = none := by kernel_rfl
theorem laid_out : laidOutB Try.prog = true := by kernel_rfl

/-- A datum that is a slice of so many elements. -/
def SliceOf {H : Type} (d : DataW H) (n : Nat) : Prop := (d = .nil ∧ n = 0) ∨ ∃ elems spare, d = .slice elems spare ∧ elems.length = n

theorem sliceOf_sized {H : Type} {P : Program} {ts : List TypeId} {ds : List (DataW H)} {d : DataW H} {n : Nat} (hd : SliceOf d n) (h : (DataW.weightsEach P ts ds).all (· ≤ reachBytes) = true) {j : Nat} {t e : TypeId} (ht : ts[j]? = some t) (hj : ds[j]? = some d) (hu : P.underlying t = some (.slice e)) :
    n * P.bytesOf e ≤ 140737488351232 := by
  rcases hd with ⟨_, rfl⟩ | ⟨elems, spare, rfl, rfl⟩
  · omega
  · have := sized_slice h ht hj hu
    have h2 : elems.length * P.bytesOf e ≤ (elems.length + spare.length) * P.bytesOf e := Nat.mul_le_mul_right _ (by omega)
    simp only [reachBytes] at this
    omega

theorem slice_has {P : Program} {W : World} {base : Nat} {t e : TypeId} {p : Addr} {n cap : Nat} (ht : P.underlying t = some (.slice e)) (h : Value.okWide P W .any base t (.slice (some p) n cap)) : p.spot = none ∧ p.block < W.heap.size := by
  simp only [Value.okWide, ht, Cell.okWide, Cell.ok] at h
  obtain ⟨_, _, _, h1, row, cells, h2, _⟩ := h
  refine ⟨h1, ?_⟩
  rcases Nat.lt_or_ge p.block W.heap.size with h' | h'
  · exact h'
  · simp [World.shape?, Array.getElem?_eq_none h'] at h2

section
variable {H : Type} {enc : TypeId × Value → H} {W : World} {base : Nat} {v : Value} {d : DataW H} {p : List MemPlace}

theorem open_ints_SL {α : Type} (en : α → Value) (k : IntKind) (of : Int → α) (hen : ∀ n, (Lit.int k n).wf = true → en (of n) = .int k n) {t e : TypeId} (ht : Try.prog.underlying t = some (.slice e)) (he : Try.prog.underlying e = some (.int k)) (hc : Try.prog.cellsOf e = 1)
    (hok : Value.okWide Try.prog W .any base t v) (h : DataW.Trod enc Try.prog W 0 (fun _ => true) true t v d p) :
    ∃ xs, SL en W v xs ∧ SliceOf d xs.length ∧ ∀ x ∈ xs, ∃ n, (Lit.int k n).wf = true ∧ x = of n := by
  obtain ⟨a, len, cap, rfl⟩ := okWide_slice ht hok
  obtain ⟨fuel, hf⟩ := h
  rcases open_ints ht he hc hf with ⟨hcs, hx⟩ | ⟨x, l, c, zs, hcs, _, hl, hm, hz, hx, hcell, hwz⟩
  · simp [Value.cells] at hcs
    obtain ⟨rfl, rfl, rfl⟩ := hcs
    exact ⟨[], SL.nil W, .inl ⟨by cases hx; rfl, rfl⟩, fun x hx => by cases hx⟩
  · simp [Value.cells] at hcs
    obtain ⟨rfl, rfl, rfl⟩ := hcs
    simp only [if_true] at hz
    obtain ⟨h1, h2⟩ := slice_has ht hok
    have hlen : ((zs.take len).map of).length = len := by rw [List.length_map, List.length_take]; omega
    refine ⟨(zs.take len).map of, ⟨some x, cap, by rw [hlen], by omega, (fun h => by cases h), fun p hp => ?_⟩, .inr ⟨_, _, by cases hx; rfl, by simp [lits]⟩, fun y hy => ?_⟩
    · cases hp
      refine ⟨h1, h2, fun j u hj => ?_⟩
      rw [List.getElem?_map, List.getElem?_map, List.getElem?_take] at hj
      split at hj
      · have hj2 : j < zs.length := by omega
        rw [List.getElem?_eq_getElem hj2] at hj
        simp only [Option.map_some, Option.some.injEq] at hj
        rw [← hj, hen _ (hwz _ (List.getElem_mem hj2)), hcell j hj2]
        simp [hj2]
      · simp at hj
    · obtain ⟨n, hn, rfl⟩ := List.mem_map.1 hy
      exact ⟨n, hwz n (List.mem_of_mem_take hn), rfl⟩

theorem wf_u8 {n : Int} (h : (Lit.int .u8 n).wf = true) : 0 ≤ n ∧ n ≤ 255 := by simpa [Lit.wf, IntKind.min, IntKind.max, IntKind.signed, IntKind.bits] using h
theorem wf_i64 {n : Int} (h : (Lit.int .i64 n).wf = true) : -9223372036854775808 ≤ n ∧ n ≤ 9223372036854775807 := by simpa [Lit.wf, IntKind.min, IntKind.max, IntKind.signed, IntKind.bits] using h

theorem open_bytes (hok : Value.okWide Try.prog W .any base 22 v) (h : DataW.Trod enc Try.prog W 0 (fun _ => true) true 22 v d p) :
    ∃ bs, BS W v bs ∧ SliceOf d bs.length := by
  obtain ⟨xs, h1, h2, _⟩ := open_ints_SL bv .u8 (fun n => UInt8.ofNat n.toNat) (fun n hn => by have := wf_u8 hn; simp [bv]; omega) Try.underlying22 Try.underlying5 (by kernel_rfl) hok h
  exact ⟨xs, h1, h2⟩
theorem open_is {t e : TypeId} (ht : Try.prog.underlying t = some (.slice e)) (he : Try.prog.underlying e = some (.int .i64)) (hc : Try.prog.cellsOf e = 1) (hok : Value.okWide Try.prog W .any base t v) (h : DataW.Trod enc Try.prog W 0 (fun _ => true) true t v d p) :
    ∃ ns, SL iv W v ns ∧ SliceOf d ns.length ∧ ∀ n ∈ ns, -9223372036854775808 ≤ n ∧ n ≤ 9223372036854775807 := by
  obtain ⟨xs, h1, h2, h3⟩ := open_ints_SL iv .i64 (fun n => n) (fun n hn => rfl) ht he hc hok h
  exact ⟨xs, h1, h2, fun n hn => by obtain ⟨m, hm, rfl⟩ := h3 n hn; exact wf_i64 hm⟩

/-- Of a slice of whatever: its length. -/
theorem open_any {t e : TypeId} (ht : Try.prog.underlying t = some (.slice e)) (hok : Value.okWide Try.prog W .any base t v) (h : DataW.Trod enc Try.prog W 0 (fun _ => true) true t v d p) :
    ∃ a len cap, v = .slice a len cap ∧ SliceOf d len := by
  obtain ⟨a, len, cap, rfl⟩ := okWide_slice ht hok
  obtain ⟨fuel, hf⟩ := h
  rcases open_slice ht hf with ⟨hcs, hx⟩ | ⟨x, l, c, m, n, D, Pl, hcs, _, _, _, _, hx, _⟩
  · simp [Value.cells] at hcs
    obtain ⟨rfl, rfl, rfl⟩ := hcs
    exact ⟨_, _, _, rfl, .inl ⟨by cases hx; rfl, rfl⟩⟩
  · simp [Value.cells] at hcs
    obtain ⟨rfl, rfl, rfl⟩ := hcs
    exact ⟨_, _, _, rfl, .inr ⟨_, _, by cases hx; rfl, by simp⟩⟩

theorem open_strs (hok : Value.okWide Try.prog W .any base 55 v) (h : DataW.Trod enc Try.prog W 0 (fun _ => true) true 55 v d p) :
    ∃ ss, SL sv W v ss ∧ SliceOf d ss.length ∧ ∀ s ∈ ss, s.length ≤ maxLen := by
  obtain ⟨a, len, cap, rfl⟩ := okWide_slice Try.underlying55 hok
  obtain ⟨fuel, hf⟩ := h
  rcases open_strings Try.underlying55 Try.underlying9 (by kernel_rfl) hf with ⟨hcs, hx⟩ | ⟨x, l, c, zs, hcs, _, hl, hm, hz, hx, hcell, hwz⟩
  · simp [Value.cells] at hcs
    obtain ⟨rfl, rfl, rfl⟩ := hcs
    exact ⟨[], SL.nil W, .inl ⟨by cases hx; rfl, rfl⟩, fun x hx => by cases hx⟩
  · simp [Value.cells] at hcs
    obtain ⟨rfl, rfl, rfl⟩ := hcs
    simp only [if_true] at hz
    obtain ⟨h1, h2⟩ := slice_has Try.underlying55 hok
    have hlen : ((zs.take len).map (·.data.toList)).length = len := by rw [List.length_map, List.length_take]; omega
    refine ⟨(zs.take len).map (·.data.toList), ⟨some x, cap, by rw [hlen], by omega, (fun h => by cases h), fun p hp => ?_⟩, .inr ⟨_, _, by cases hx; rfl, by simp [strs]⟩, fun y hy => ?_⟩
    · cases hp
      refine ⟨h1, h2, fun j u hj => ?_⟩
      rw [List.getElem?_map, List.getElem?_map, List.getElem?_take] at hj
      split at hj
      · have hj2 : j < zs.length := by omega
        rw [List.getElem?_eq_getElem hj2] at hj
        simp only [Option.map_some, Option.some.injEq] at hj
        rw [← hj, hcell j hj2]
        have hg : zs.getD j ByteArray.empty = zs[j] := by simp [hj2]
        rw [hg]
        rfl
      · simp at hj
    · obtain ⟨n, hn, rfl⟩ := List.mem_map.1 hy
      have := hwz n (List.mem_of_mem_take hn)
      rw [Array.length_toList]
      exact this

theorem u8_back {n : Int} (h : 0 ≤ n ∧ n ≤ 255) : bv (UInt8.ofNat n.toNat) = .int .u8 n := by simp [bv]; omega
/-- A slice of bytes that lies in a cell. -/
theorem inner_bytes {n : Nat} {V : Value} {y : DataW H × List MemPlace} (h : DataW.trod enc Try.prog W 0 (fun _ => true) true n 22 [V] = some y) : ∃ bs, BW W V bs ∧ SliceOf y.1 bs.length := by
  rcases open_ints Try.underlying22 Try.underlying5 (by kernel_rfl) h with ⟨hcs, rfl⟩ | ⟨x, len, cap, zs, hcs, _, hl, hm, hz, rfl, hcell, hwz⟩
  · cases hcs
    exact ⟨[], .inl (SL.nil W), .inl ⟨rfl, rfl⟩⟩
  · cases hcs
    simp only [if_true] at hz
    have hlen : ((zs.take len).map fun n => UInt8.ofNat n.toNat).length = len := by rw [List.length_map, List.length_take]; omega
    refine ⟨(zs.take len).map fun n => UInt8.ofNat n.toNat, ?_, .inr ⟨_, _, rfl, by simp [lits]⟩⟩
    by_cases h0 : len = 0
    · subst h0; exact .inr ⟨by simp, _, _, rfl⟩
    · refine .inl ⟨some x, cap, by rw [hlen], by omega, (fun h => by cases h), fun p hp => ?_⟩
      cases hp
      have hc0 := hcell 0 (by omega)
      have hx0 : x.add 0 = x := by unfold Addr.add; rw [if_pos rfl]
      rw [hx0] at hc0
      refine ⟨?_, World.block_lt_of_cell? W x hc0, fun j u hj => ?_⟩
      · unfold World.cell? at hc0
        split at hc0
        · split at hc0
          · cases hc0
          · rename_i hs; simpa using hs
        · cases hc0
      · rw [List.getElem?_map, List.getElem?_map, List.getElem?_take] at hj
        split at hj
        · have hj2 : j < zs.length := by omega
          rw [List.getElem?_eq_getElem hj2] at hj
          simp only [Option.map_some, Option.some.injEq] at hj
          have hw := wf_u8 (hwz _ (List.getElem_mem hj2))
          rw [← hj, hcell j hj2]
          have hg : zs.getD j 0 = zs[j] := by simp [hj2]
          rw [hg]
          rw [u8_back hw]
        · simp at hj

/-- A datum that is an item: a struct whose third part is a slice of so many. -/
def ItemOf (d : DataW H) (x : Item) : Prop := ∃ a b c, d = .agg [a, b, c] ∧ SliceOf c x.b.length
theorem open_items (hok : Value.okWide Try.prog W .any base 42 v) (h : DataW.Trod enc Try.prog W 0 (fun _ => true) true 42 v d p) :
    ∃ xs, IS W v xs ∧ SliceOf d xs.length ∧ (∀ x ∈ xs, -9223372036854775808 ≤ x.n ∧ x.n ≤ 9223372036854775807) ∧ (∀ elems spare, d = .slice elems spare → ∀ (i : Nat) (x : Item), xs[i]? = some x → ∃ y, elems[i]? = some y ∧ ItemOf y x) := by
  obtain ⟨a, len, cap, rfl⟩ := okWide_slice Try.underlying42 hok
  obtain ⟨fuel, hf⟩ := h
  have hsz : Try.prog.cellsOf 48 = 3 := by kernel_rfl
  rcases open_slice Try.underlying42 hf with ⟨hcs, hx⟩ | ⟨x, l, c, m, n, D, Pl, hcs, _, hl, hm, hmm, hx, hel⟩
  · simp [Value.cells] at hcs
    obtain ⟨rfl, rfl, rfl⟩ := hcs
    exact ⟨[], ⟨none, 0, rfl, Nat.le_refl _, fun _ => rfl, fun p h => by cases h⟩, .inl ⟨by cases hx; rfl, rfl⟩, (fun x hx => by cases hx), fun e s hd i x hi => by simp at hi⟩
  · simp [Value.cells] at hcs
    obtain ⟨rfl, rfl, rfl⟩ := hcs
    simp only [if_true] at hmm
    subst hmm
    obtain ⟨h1, h2⟩ := slice_has Try.underlying42 hok
    have each : ∀ i, i < len → ∃ it : Item, (∃ cs, cs.length = 3 ∧ RItem W it cs ∧ At W (x.add (i * 3)) cs) ∧ (-9223372036854775808 ≤ it.n ∧ it.n ≤ 9223372036854775807) ∧ ItemOf (D i) it := by
      intro i hi
      obtain ⟨cs', g1, g2⟩ := hel i (by omega)
      rw [hsz] at g1
      obtain ⟨_, hlen, hcell⟩ := World.cells?_some g1
      obtain ⟨ys, k, hk, hxy, _, hxl, hfl⟩ := DataW.trod_struct Try.underlying48 g2
      match ys, hxl, cs', hlen with
      | [y0, y1, y2], _, [u0, u1, u2], _ =>
        have e0 := hfl 0 _ rfl
        have e1 := hfl 1 _ rfl
        have e2 := hfl 2 _ rfl
        have c0 : Try.prog.cellsOf 3 = 1 := by kernel_rfl
        have c1 : Try.prog.cellsOf 2 = 1 := by kernel_rfl
        have c2 : Try.prog.cellsOf 22 = 1 := by kernel_rfl
        simp [c0, c1, c2] at e0 e1 e2
        obtain ⟨a0, q0, _, w0⟩ := DataW.trod_int Try.underlying3 e0
        obtain ⟨a1, q1, _, w1⟩ := DataW.trod_int Try.underlying2 e1
        obtain ⟨bs, hbs, hso⟩ := inner_bytes e2
        simp only [List.cons.injEq, and_true] at q0 q1
        subst q0; subst q1
        simp only [Prod.mk.injEq] at hxy
        refine ⟨⟨a0, a1, bs⟩, ⟨[.int .i64 a0, .int .i64 a1, u2], rfl, ⟨u2, rfl, hbs⟩, fun j u hj => ?_⟩, wf_i64 w1, ⟨_, _, _, by simpa using hxy.1, hso⟩⟩
        have hj3 : j < 3 := by have := (List.getElem?_eq_some_iff.1 hj).1; simpa using this
        rw [hcell j hj3, hj]
    obtain ⟨q, hq⟩ := choose_lt each
    have hlen : ((List.range len).map q).length = len := by simp
    refine ⟨(List.range len).map q, ⟨some x, m, by rw [hlen], by omega, (fun h => by cases h), fun p hp => ?_⟩, .inr ⟨_, _, by cases hx; rfl, by simp⟩, fun y hy => ?_, fun es sp hd i y hy => ?_⟩
    · cases hp
      refine ⟨h1, h2, fun i y hy => ?_⟩
      rw [List.getElem?_map] at hy
      obtain ⟨i', hi', rfl⟩ := Option.map_eq_some_iff.1 hy
      obtain ⟨hlt, rfl⟩ := List.getElem?_eq_some_iff.1 hi'
      simp only [List.length_range] at hlt
      simp only [List.getElem_range]
      exact (hq i hlt).1
    · obtain ⟨i, hi, rfl⟩ := List.mem_map.1 hy
      exact (hq i (List.mem_range.1 hi)).2.1
    · rw [List.getElem?_map] at hy
      obtain ⟨i', hi', rfl⟩ := Option.map_eq_some_iff.1 hy
      obtain ⟨hlt, rfl⟩ := List.getElem?_eq_some_iff.1 hi'
      simp only [List.length_range] at hlt
      simp only [Prod.mk.injEq] at hx
      rw [hx.1] at hd
      cases hd
      simp only [List.getElem_range]
      exact ⟨D i, by rw [List.getElem?_map, List.getElem?_range hlt]; rfl, (hq i hlt).2.2⟩
end
end Go.Proofs.Ytidjeehjojajmaa
