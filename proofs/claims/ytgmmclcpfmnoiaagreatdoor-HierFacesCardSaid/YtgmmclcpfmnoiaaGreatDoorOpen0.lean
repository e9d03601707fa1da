/-
  What the arguments of the laws read as: slices of bytes, of whole numbers, of strings, in this seat's words.
-/
import Derived.Test.YtgmmclcpfmnoiaaGreatDoorBase
import Derived.Test.YtgmmclcpfmnoiaaGreatDoorRows
import Derived.ProofKit
import Derived.OpenShut
import Derived.ShutString
import Derived.ChangeOld
import Derived.SliceStrings
import Derived.SizedLaws
import Derived.Deep.Slices
import Derived.Test.YtgmmclcpfmnoiaaGreatDoorApi
namespace Go.Proofs.YtgmmclcpfmnoiaaGreatDoor
open Go.ChangeShapes Go.WideShapes Go.ChangeAt Go.RowKit Go.Deep

theorem own_knob : ownKnob Tryz.prog.godebug = none := by kernel_rfl
theorem laid_out : laidOutB Tryz.prog = true := by kernel_rfl

/-- A datum that is a slice of so many elements. -/
def SliceOf {H : Type} (d : DataW H) (n : Nat) : Prop := (d = .nil ∧ n = 0) ∨ ∃ elems spare, d = .slice elems spare ∧ elems.length = n

theorem sliceOf_sized {H : Type} {P : Program} {ts : List TypeId} {ds : List (DataW H)} {d : DataW H} {n : Nat} (hd : SliceOf d n) (h : (DataW.weightsEach P ts ds).all (· ≤ reachBytes) = true) {j : Nat} {t e : TypeId} (ht : ts[j]? = some t) (hj : ds[j]? = some d) (hu : P.underlying t = some (.slice e)) :
    n * P.bytesOf e ≤ 140737488351232 := by
  rcases hd with ⟨_, rfl⟩ | ⟨elems, spare, rfl, rfl⟩
  · omega
  · have := sized_slice h ht hj hu
    have h2 : elems.length * P.bytesOf e ≤ (elems.length + spare.length) * P.bytesOf e := Nat.mul_le_mul_right _ (by omega)
    simp only [reachBytes] at this
    omega

theorem slice_has {P : Program} {W : World} {base : Nat} {t e : TypeId} {p : Addr} {n cap : Nat} (ht : P.underlying t = some (.slice e)) (h : Value.okWide P W .any base t (.slice (some p) n cap)) : p.spot = none ∧ p.block < W.heap.size := by
  simp only [Value.okWide, ht, Cell.okWide, Cell.ok] at h
  obtain ⟨_, _, _, h1, row, cells, h2, _⟩ := h
  refine ⟨h1, ?_⟩
  rcases Nat.lt_or_ge p.block W.heap.size with h' | h'
  · exact h'
  · simp [World.shape?, Array.getElem?_eq_none h'] at h2

section
variable {H : Type} {enc : TypeId × Value → H} {W : World} {base : Nat} {v : Value} {d : DataW H} {p : List MemPlace}

set_option maxRecDepth 100000 in
theorem open_ints_SL {α : Type} (en : α → Value) (k : IntKind) (of : Int → α) (hen : ∀ n, (Lit.int k n).wf = true → en (of n) = .int k n) {t e : TypeId} (ht : Tryz.prog.underlying t = some (.slice e)) (he : Tryz.prog.underlying e = some (.int k)) (hc : Tryz.prog.cellsOf e = 1)
    (hok : Value.okWide Tryz.prog W .any base t v) (h : DataW.Trod enc Tryz.prog W 0 (fun _ => true) true t v d p) :
    ∃ xs, SL en W v xs ∧ SliceOf d xs.length ∧ ∀ x ∈ xs, ∃ n, (Lit.int k n).wf = true ∧ x = of n := by
  obtain ⟨a, len, cap, rfl⟩ := okWide_slice ht hok
  obtain ⟨fuel, hf⟩ := h
  rcases open_ints ht he hc hf with ⟨hcs, hx⟩ | ⟨x, l, c, zs, hcs, _, hl, hm, hz, hx, hcell, hwz⟩
  · simp [Value.cells] at hcs
    obtain ⟨rfl, rfl, rfl⟩ := hcs
    exact ⟨[], SL.nil W, .inl ⟨by cases hx; rfl, rfl⟩, fun x hx => by cases hx⟩
  · simp [Value.cells] at hcs
    obtain ⟨rfl, rfl, rfl⟩ := hcs
    simp only [if_true] at hz
    obtain ⟨h1, h2⟩ := slice_has ht hok
    have hlen : ((zs.take len).map of).length = len := by rw [List.length_map, List.length_take]; omega
    refine ⟨(zs.take len).map of, ⟨some x, cap, by rw [hlen], by omega, (fun h => by cases h), fun p hp => ?_⟩, .inr ⟨_, _, by cases hx; rfl, by simp [lits]⟩, fun y hy => ?_⟩
    · cases hp
      refine ⟨h1, h2, fun j u hj => ?_⟩
      rw [List.getElem?_map, List.getElem?_map, List.getElem?_take] at hj
      split at hj
      · have hj2 : j < zs.length := by omega
        rw [List.getElem?_eq_getElem hj2] at hj
        simp only [Option.map_some, Option.some.injEq] at hj
        rw [← hj, hen _ (hwz _ (List.getElem_mem hj2)), hcell j hj2]
        simp [hj2]
      · simp at hj
    · obtain ⟨n, hn, rfl⟩ := List.mem_map.1 hy
      exact ⟨n, hwz n (List.mem_of_mem_take hn), rfl⟩

theorem wf_u8 {n : Int} (h : (Lit.int .u8 n).wf = true) : 0 ≤ n ∧ n ≤ 255 := by simpa [Lit.wf, IntKind.min, IntKind.max, IntKind.signed, IntKind.bits] using h
theorem wf_i64 {n : Int} (h : (Lit.int .i64 n).wf = true) : -9223372036854775808 ≤ n ∧ n ≤ 9223372036854775807 := by simpa [Lit.wf, IntKind.min, IntKind.max, IntKind.signed, IntKind.bits] using h

end

end Go.Proofs.YtgmmclcpfmnoiaaGreatDoor

namespace Go.Proofs.YtgmmclcpfmnoiaaGreatDoor
open Go.ChangeShapes Go.WideShapes Go.ChangeAt Go.RowKit Go.Deep
section
variable {H : Type} {enc : TypeId × Value → H} {W : World} {base : Nat} {v : Value} {d : DataW H} {p : List MemPlace}
set_option maxRecDepth 100000 in
theorem open_is {t e : TypeId} (ht : Tryz.prog.underlying t = some (.slice e)) (he : Tryz.prog.underlying e = some (.int .i64)) (hc : Tryz.prog.cellsOf e = 1) (hok : Value.okWide Tryz.prog W .any base t v) (h : DataW.Trod enc Tryz.prog W 0 (fun _ => true) true t v d p) :
    ∃ ns, SL iv W v ns ∧ SliceOf d ns.length ∧ ∀ n ∈ ns, -9223372036854775808 ≤ n ∧ n ≤ 9223372036854775807 := by
  obtain ⟨xs, h1, h2, h3⟩ := open_ints_SL iv .i64 (fun n => n) (fun n hn => rfl) ht he hc hok h
  exact ⟨xs, h1, h2, fun n hn => by obtain ⟨m, hm, rfl⟩ := h3 n hn; exact wf_i64 hm⟩
end
theorem SL.cellAt {α : Type} {enc : α → Value} {W w : World} {a : Option Addr} {n cap : Nat} {xs : List α} (h : SL enc W (.slice a n cap) xs) (c : Chg No W w) (k : Nat) (hk : k < xs.length) : ∃ b o, a = some ⟨b, o, none⟩ ∧ w.cell? ⟨b, o + k, none⟩ = some (enc xs[k]) := by
  obtain ⟨a', cap', he, h1, h2, h3⟩ := h.new c
  cases he
  exact SL.cell h3 h2 h1 k hk
theorem ret_true {b : Bool} (h : b = true) : Ending.returned (.bool b) = .returned (.bool true) := by rw [h]
theorem tmod_lt (n : Int) (m : Nat) (h : 0 < m) : -(m : Int) < n.tmod m ∧ n.tmod m < m := by
  have hm : (0 : Int) < m := by omega
  exact ⟨by have := Int.lt_tmod_of_pos n hm; omega, Int.tmod_lt_of_pos n hm⟩
end Go.Proofs.YtgmmclcpfmnoiaaGreatDoor

namespace Go.Proofs.YtgmmclcpfmnoiaaGreatDoor
open Go.ChangeShapes Go.WideShapes Go.ChangeAt Go.RowKit Go.Deep

def Any : Blocks := fun _ => True
/-- Cells of this type read as something. -/
def Opens {α : Type} (T : TypeId) (R : Reading α) (Wf : α → Prop) : Prop :=
  ∀ (H : Type) (enc : TypeId × Value → H) (W : World) (n : Nat) (cs : List Value) (y : DataW H × List MemPlace), DataW.trod enc Tryz.prog W 0 (fun _ => true) true n T cs = some y → ∃ x, R Any W x cs ∧ Wf x
def I64 (n : Int) : Prop := -9223372036854775808 ≤ n ∧ n ≤ 9223372036854775807
def WfS (s : Bs) : Prop := s.length ≤ maxLen
def Wfs {α : Type} (Wf : α → Prop) (xs : List α) : Prop := xs.length ≤ maxLen ∧ ∀ x ∈ xs, Wf x
def RSl {α : Type} (n : Nat) (R : Reading α) : Reading (List α) := fun S w xs cs => ∃ v, cs = [v] ∧ SQ n R S w v xs

theorem opens_int {T : TypeId} (ht : Tryz.prog.underlying T = some (.int .i64)) : Opens T RInt I64 := fun H enc W n cs y h => by
  obtain ⟨a, rfl, _, w⟩ := DataW.trod_int ht h
  exact ⟨a, rfl, wf_i64 w⟩
theorem opens_byte {T : TypeId} (ht : Tryz.prog.underlying T = some (.int .u8)) : Opens T RByte (fun _ => True) := fun H enc W n cs y h => by
  obtain ⟨a, rfl, _, w⟩ := DataW.trod_int ht h
  have := wf_u8 w
  exact ⟨UInt8.ofNat a.toNat, by simp [RByte, bv]; omega, trivial⟩
theorem opens_str {T : TypeId} (ht : Tryz.prog.underlying T = some .string) : Opens T RStr WfS := fun H enc W n cs y h => by
  obtain ⟨a, rfl, _, w⟩ := DataW.trod_string ht h
  exact ⟨a.data.toList, by simp [RStr, strV], by unfold WfS; rw [Array.length_toList]; exact w⟩
theorem opens_bool {T : TypeId} (ht : Tryz.prog.underlying T = some .bool) : Opens T (fun _ _ (b : Bool) cs => cs = [.bool b]) (fun _ => True) := fun H enc W n cs y h => by
  obtain ⟨a, rfl, _⟩ := DataW.trod_bool ht h
  exact ⟨a, rfl, trivial⟩

theorem opens_slice {α : Type} [Inhabited α] {R : Reading α} {Wf : α → Prop} {t e : TypeId} (m : Nat) (ht : Tryz.prog.underlying t = some (.slice e)) (hm : Tryz.prog.cellsOf e = m) (h0 : 0 < m) (he : Opens e R Wf) : Opens t (RSl m R) (Wfs Wf) := fun H enc W n cs y h => by
  rcases open_slice ht h with ⟨rfl, _⟩ | ⟨x, l, c, m', n', D, Pl, rfl, _, hl, hmx, hmm, _, hel⟩
  · exact ⟨[], ⟨_, rfl, SQ.nil⟩, by simp, fun x hx => by cases hx⟩
  · simp only [if_true] at hmm
    subst hmm
    rw [hm] at hel
    have each : ∀ i, i < l → ∃ a : α, (∃ cs, cs.length = m ∧ R Any W a cs ∧ At W (x.add (i * m)) cs) ∧ Wf a := by
      intro i hi
      obtain ⟨cs', g1, g2⟩ := hel i (by omega)
      obtain ⟨_, hlen, hcell⟩ := World.cells?_some g1
      obtain ⟨a, h1, h2⟩ := he _ _ _ _ _ _ g2
      exact ⟨a, ⟨cs', hlen, h1, fun j u hj => by
        have hj3 : j < m := by have := (List.getElem?_eq_some_iff.1 hj).1; omega
        rw [hcell j hj3, hj]⟩, h2⟩
    have first : 0 < l → x.spot = none ∧ x.block < W.heap.size := fun hpos => by
      obtain ⟨cs', g1, g2⟩ := hel 0 (by omega)
      obtain ⟨_, hlen, hcell⟩ := World.cells?_some g1
      have hc0 := hcell 0 h0
      have hx0 : (x.add (0 * m)).add 0 = x := by unfold Addr.add; simp
      rw [hx0, List.getElem?_eq_getElem (by omega)] at hc0
      refine ⟨?_, World.block_lt_of_cell? W x hc0⟩
      unfold World.cell? at hc0
      split at hc0
      · split at hc0
        · cases hc0
        · rename_i hs; simpa using hs
      · cases hc0
    obtain ⟨q, hq⟩ : ∃ q : Nat → α, ∀ i, i < l → (∃ cs, cs.length = m ∧ R Any W (q i) cs ∧ At W (x.add (i * m)) cs) ∧ Wf (q i) := by
      rcases Nat.eq_zero_or_pos l with rfl | hp
      · exact ⟨fun _ => default, fun i hi => by omega⟩
      · exact choose_lt each
    have hlen : ((List.range l).map q).length = l := by simp
    refine ⟨(List.range l).map q, ⟨_, rfl, some x, m', by rw [hlen], by omega, (fun h => by cases h), fun p hp hne => ?_⟩, by rw [hlen]; omega, fun y hy => ?_⟩
    · cases hp
      obtain ⟨h1, h2⟩ := first (Nat.pos_of_ne_zero (fun e => hne (by rw [e]; rfl)))
      refine ⟨h1, h2, trivial, fun i y hy => ?_⟩
      rw [List.getElem?_map] at hy
      obtain ⟨i', hi', rfl⟩ := Option.map_eq_some_iff.1 hy
      obtain ⟨hlt, rfl⟩ := List.getElem?_eq_some_iff.1 hi'
      simp only [List.length_range] at hlt
      simp only [List.getElem_range]
      exact (hq i hlt).1
    · obtain ⟨i, hi, rfl⟩ := List.mem_map.1 hy
      exact (hq i (List.mem_range.1 hi)).2
theorem open_G {α : Type} {R : Reading α} {Wf : α → Prop} {t : TypeId} (ho : Opens t R Wf) {H : Type} {enc : TypeId × Value → H} {W : World} {v : Value} {d : DataW H} {p : List MemPlace} (h : DataW.Trod enc Tryz.prog W 0 (fun _ => true) true t v d p) : ∃ x, R Any W x v.cells.toList ∧ Wf x := by
  obtain ⟨fuel, hf⟩ := h
  exact ho _ _ _ _ _ _ hf

def WTy (t : Ty) : Prop := I64 t.dims ∧ WfS t.name
set_option maxRecDepth 100000 in
theorem opens_ty : Opens 26 RTy WTy := fun H enc W n cs y h => by
  obtain ⟨ys, k, rfl, hxy, hl, hxl, hfl⟩ := DataW.trod_struct Tryz.underlying26 h
  rw [show Tryz.prog.cellsOf 26 = 2 from by kernel_rfl] at hl
  match ys, hxl, cs, hl with
  | [y0, y1], _, [u0, u1], _ =>
    have e0 := hfl 0 _ rfl
    have e1 := hfl 1 _ rfl
    simp [show Tryz.prog.cellsOf 3 = 1 from by kernel_rfl, show Tryz.prog.cellsOf 9 = 1 from by kernel_rfl] at e0 e1
    obtain ⟨a0, q0, w0⟩ := opens_int Tryz.underlying3 _ _ _ _ _ _ e0
    obtain ⟨a1, q1, w1⟩ := opens_str Tryz.underlying9 _ _ _ _ _ _ e1
    unfold RInt at q0; unfold RStr at q1
    simp only [List.cons.injEq, and_true] at q0 q1
    subst q0; subst q1
    exact ⟨⟨a0, a1⟩, rfl, w0, w1⟩

/-- What is known of a value. -/
structure Vt where
  kind : Int
  type : Ty
  at_ : Int
deriving DecidableEq, Inhabited
def RVt : Reading Vt := fun _ _ x cs => cs = [.int .i64 x.kind, .int .i64 x.type.dims, strV x.type.name, .int .i64 x.at_]
theorem goodVt : Good RVt := ⟨fun h _ _ => h, fun h _ => h, fun h u hu => by rw [h] at hu; simp only [List.mem_cons, List.not_mem_nil, or_false] at hu; (repeat' (first | (rcases hu with rfl | hu) | (subst hu))) <;> rfl⟩
def WVt (t : Vt) : Prop := I64 t.kind ∧ WTy t.type ∧ I64 t.at_
set_option maxRecDepth 100000 in
theorem opens_vt : Opens 65 RVt WVt := fun H enc W n cs y h => by
  obtain ⟨ys, k, rfl, hxy, hl, hxl, hfl⟩ := DataW.trod_struct Tryz.underlying65 h
  rw [show Tryz.prog.cellsOf 65 = 4 from by kernel_rfl] at hl
  match ys, hxl, cs, hl with
  | [y0, y1, y2], _, [u0, u1, u2, u3], _ =>
    have e0 := hfl 0 _ rfl
    have e1 := hfl 1 _ rfl
    have e2 := hfl 2 _ rfl
    simp [show Tryz.prog.cellsOf 3 = 1 from by kernel_rfl, show Tryz.prog.cellsOf 26 = 2 from by kernel_rfl] at e0 e1 e2
    obtain ⟨a0, q0, w0⟩ := opens_int Tryz.underlying3 _ _ _ _ _ _ e0
    obtain ⟨a1, q1, w1⟩ := opens_ty _ _ _ _ _ _ e1
    obtain ⟨a2, q2, w2⟩ := opens_int Tryz.underlying3 _ _ _ _ _ _ e2
    unfold RInt at q0 q2; unfold RTy at q1
    simp only [List.cons.injEq, and_true] at q0 q1 q2
    obtain ⟨q1, q3⟩ := q1
    subst q0; subst q1; subst q2; subst q3
    exact ⟨⟨a0, a1, a2⟩, rfl, w0, w1, w2⟩
/-- What is known ahead of an instruction. -/
structure Fr where
  self_ : Vt
  locals_ : List Vt
  stack : List Vt
deriving DecidableEq, Inhabited
def RFr : Reading Fr := fun S w x cs => ∃ v u, cs = [.int .i64 x.self_.kind, .int .i64 x.self_.type.dims, strV x.self_.type.name, .int .i64 x.self_.at_, v, u] ∧ SQ 4 RVt S w v x.locals_ ∧ SQ 4 RVt S w u x.stack
theorem goodFr : Good RFr := ⟨fun ⟨v, u, h1, h2, h3⟩ c hn => ⟨v, u, h1, h2.keep goodVt c hn, h3.keep goodVt c hn⟩, fun ⟨v, u, h1, h2, h3⟩ hn => ⟨v, u, h1, h2.mono goodVt hn, h3.mono goodVt hn⟩,
  fun ⟨v, u, h1, h2, h3⟩ z hu => by obtain ⟨_, _, rfl, -⟩ := h2.form; obtain ⟨_, _, rfl, -⟩ := h3.form; rw [h1] at hu; simp only [List.mem_cons, List.not_mem_nil, or_false] at hu; (repeat' (first | (rcases hu with rfl | hu) | (subst hu))) <;> rfl⟩
def WFr (t : Fr) : Prop := WVt t.self_ ∧ Wfs WVt t.locals_ ∧ Wfs WVt t.stack
set_option maxRecDepth 100000 in
theorem opens_fr : Opens 68 RFr WFr := fun H enc W n cs y h => by
  obtain ⟨ys, k, rfl, hxy, hl, hxl, hfl⟩ := DataW.trod_struct Tryz.underlying68 h
  rw [show Tryz.prog.cellsOf 68 = 6 from by kernel_rfl] at hl
  match ys, hxl, cs, hl with
  | [y0, y1, y2], _, [u0, u1, u2, u3, u4, u5], _ =>
    have e0 := hfl 0 _ rfl
    have e1 := hfl 1 _ rfl
    have e2 := hfl 2 _ rfl
    simp [show Tryz.prog.cellsOf 65 = 4 from by kernel_rfl, show Tryz.prog.cellsOf 66 = 1 from by kernel_rfl] at e0 e1 e2
    obtain ⟨a0, q0, w0⟩ := opens_vt _ _ _ _ _ _ e0
    obtain ⟨a1, ⟨v1, q1, s1⟩, w1⟩ := opens_slice 4 Tryz.underlying66 (by kernel_rfl) (by decide) opens_vt _ _ _ _ _ _ e1
    obtain ⟨a2, ⟨v2, q2, s2⟩, w2⟩ := opens_slice 4 Tryz.underlying66 (by kernel_rfl) (by decide) opens_vt _ _ _ _ _ _ e2
    unfold RVt at q0
    simp only [List.cons.injEq, and_true] at q0 q1 q2
    obtain ⟨q0, q3, q4, q5⟩ := q0
    subst q0; subst q1; subst q2; subst q3; subst q4; subst q5
    exact ⟨⟨a0, a1, a2⟩, ⟨_, _, rfl, s1, s2⟩, w0, w1, w2⟩

end Go.Proofs.YtgmmclcpfmnoiaaGreatDoor
