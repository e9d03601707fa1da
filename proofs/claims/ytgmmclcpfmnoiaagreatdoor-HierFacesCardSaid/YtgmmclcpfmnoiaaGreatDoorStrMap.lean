/-
  A map with string keys and pointers as elements: what a look-up answers, what a store leaves.
-/
import Derived.ProofKit
import Derived.StringKeys
import Derived.Maps.Own
import Derived.Maps.OwnSet
import Derived.Maps.Views
import Derived.Maps.OwnOps
namespace Go.Proofs.YtgmmclcpfmnoiaaGreatDoor
open Go.Maps Go.RowKit Go.WideAt Go.ChangeMaps Go.MapKept

/-- A pointer to a block's first cell reads as the block's number, nil as nil. -/
def ptrR : Value → Option (DataW Unit × List MemPlace)
  | .pointer (some ⟨b, 0, none⟩) => some (.lit (.int .i64 b), [])
  | .pointer none => some (.nil, [])
  | _ => none
def ptrD : Option Nat → DataW Unit
  | some b => .lit (.int .i64 b)
  | none => .nil
def ptrV : Option Nat → Value
  | some b => .pointer (some ⟨b, 0, none⟩)
  | none => .pointer none
theorem ptrR_mk (o : Option Nat) : ptrR (ptrV o) = some (ptrD o, []) := by cases o <;> rfl
theorem ptrR_inv {v : Value} {o : Option Nat} {ps : List MemPlace} (h : ptrR v = some (ptrD o, ps)) : v = ptrV o := by
  unfold ptrR at h
  split at h
  · cases o with
    | none => simp [ptrD] at h
    | some c => simp only [ptrD, Option.some.injEq, Prod.mk.injEq, DataW.lit.injEq, Lit.int.injEq] at h; obtain ⟨⟨_, h⟩, _⟩ := h; have : _ = c := Int.ofNat_inj.1 h; subst this; rfl
  · cases o with
    | none => rfl
    | some c => simp [ptrD] at h
  · cases h
/-- Block b is a map with string keys, of n entries at most: at each key that pointer, nil where there is none. -/
def StrMap (P : Program) (k : TypeId) (w : World) (b n : Nat) (f : List UInt8 → Option Nat) : Prop :=
  ∃ D, w.ownsMap P k ptrR b n D ∧ ∀ s : List UInt8, s.length ≤ maxLen → D.atKey (.string s) .nil = ptrD (f s)
variable {P : Program} {k : TypeId} {w w' : World} {b n : Nat} {f : List UInt8 → Option Nat}
theorem StrMap.made (w : World) : StrMap P k (w.alloc (.map #[] 0)) w.heap.size 0 (fun _ => none) :=
  ⟨_, World.ownsMap_made _ _ _ _, fun _ _ => rfl⟩
theorem StrMap.lt (h : StrMap P k w b n f) : b < w.heap.size := let ⟨_, h, _⟩ := h; h.lt
theorem StrMap.kept {row : Option Nat} (h : StrMap P k w b n f) (hg : w.grownBy w' row) (hne : some b ≠ row) : StrMap P k w' b n f := let ⟨D, h1, h2⟩ := h; ⟨D, h1.kept hg hne, h2⟩
theorem StrMap.at_block (h : StrMap P k w b n f) (hb : w'.heap[b]? = w.heap[b]?) : StrMap P k w' b n f := by
  obtain ⟨D, ⟨es, clock, h1, h2, h3, h4⟩, h5⟩ := h
  exact ⟨D, ⟨es, clock, hb.trans h1, h2, h3, h4⟩, h5⟩
theorem str_key (hk : P.underlying k = some .string) (s : List UInt8) (hs : s.length ≤ maxLen) : keyOf P k (.string ⟨s.toArray⟩) = some (.string s) := by
  have := Go.WideMaps.keyOf_string_mk (P := P) hk (s := ⟨s.toArray⟩) (by simpa [ByteArray.size] using hs)
  simpa using this
theorem StrMap.look (h : StrMap P k w b n f) {t e : TypeId} (hk : P.underlying k = some .string) (ht : P.underlying t = some (.map k e)) (hz : (zeroValue e).run P w = .ok (.pointer none) w) (s : List UInt8) (hs : s.length ≤ maxLen) :
    (Instr.lookup t (.map (some b)) (.string ⟨s.toArray⟩) false).run P w = .ok (ptrV (f s)) w := by
  obtain ⟨D, h1, h2⟩ := h
  obtain ⟨v, ps, hrun, hv⟩ := h1.lookup (string_keyed hk) ht hz (zd := .nil) (zp := []) rfl (str_key hk s hs)
  rw [h2 s hs] at hv
  rw [hrun, ptrR_inv hv]

/-- 'm[k] = p'. -/
theorem wpList_put_str {ops : Array Oper} {rest : List Oper} {o : Oper} {a : Act} {Q : Exit → Act → World → Prop} (hg : o.guard = none) (m x v : Operand) (t : TypeId) (hop : o.op = Op.mapUpdate t m x v)
    (k e : TypeId) (hk : P.underlying k = some .string) (ht : P.underlying t = some (.map k e)) (b n : Nat) (f : List UInt8 → Option Nat)
    (hm : a.eval m = .map (some b)) (h : StrMap P k w b n f) (hn : n < maxLen) (s : List UInt8) (hs : s.length ≤ maxLen) (hx : a.eval x = .string ⟨s.toArray⟩) (p : Option Nat) (hv : a.eval v = ptrV p)
    (hK : ∀ w', StrMap P k w' b (n + 1) (fun y => if y = s then p else f y) → w.grownBy w' (some b) → wpList P ops Q rest (a.put o.dst undef) w') :
    wpList P ops Q (o :: rest) a w := by
  obtain ⟨D, h1, h2⟩ := h
  refine wpList_mapUpdate_own w hg m x v t hop k e (string_keyed hk) ht ptrR b n D hm h1 hn _ _ _ hx hv (str_key hk s hs) _ _ (ptrR_mk p) fun w' h3 h4 => hK w' ⟨_, h3, fun y hy => ?_⟩ h4
  show _ = ptrD (if y = s then p else f y)
  by_cases e : y = s
  · subst e
    rw [if_pos rfl]
    exact atKey_put_same (h1.tidy (string_keyed hk)).isMap (by exact trivial) _ _
  · rw [if_neg e, atKey_put_other (by intro e'; cases e'; exact e rfl)]
    exact h2 y hy

end Go.Proofs.YtgmmclcpfmnoiaaGreatDoor

namespace Go.Proofs.YtgmmclcpfmnoiaaGreatDoor
open Go.Maps Go.RowKit Go.WideAt Go.ChangeMaps Go.MapKept

/-- Block b is a map with string keys and ints, of n entries at most, whose keys are those of f. -/
def StrSet (P : Program) (k e : TypeId) (w : World) (b n : Nat) (f : List UInt8 → Bool) : Prop :=
  ∃ D : DataW Unit, w.ownsMap P k (plainElem P e) b n D ∧ ∀ s : List UInt8, s.length ≤ maxLen → Maps.has D (.string s) = f s
section
variable {P : Program} {k e : TypeId} {w w' : World} {b n : Nat} {f : List UInt8 → Bool}
theorem StrSet.made (w : World) : StrSet P k e (w.alloc (.map #[] 0)) w.heap.size 0 (fun _ => false) :=
  ⟨_, World.ownsMap_made _ _ _ _, fun _ _ => rfl⟩
theorem StrSet.lt (h : StrSet P k e w b n f) : b < w.heap.size := let ⟨_, h, _⟩ := h; h.lt
theorem StrSet.at_block (h : StrSet P k e w b n f) (hb : w'.heap[b]? = w.heap[b]?) : StrSet P k e w' b n f := by
  obtain ⟨D, ⟨es, clock, h1, h2, h3, h4⟩, h5⟩ := h
  exact ⟨D, ⟨es, clock, hb.trans h1, h2, h3, h4⟩, h5⟩
theorem StrSet.mono (h : StrSet P k e w b n f) {m : Nat} (hm : n ≤ m) : StrSet P k e w b m f := let ⟨D, h1, h2⟩ := h; ⟨D, h1.mono hm, h2⟩

/-- '_, ok := m[k]'. -/
theorem wpList_look_set {ops : Array Oper} {rest : List Oper} {o : Oper} {a : Act} {Q : Exit → Act → World → Prop} (hg : o.guard = none) (m x : Operand) (t : TypeId) (hop : o.op = Op.lookup t m x true)
    (k e : TypeId) (hk : P.underlying k = some .string) (ht : P.underlying t = some (.map k e)) (he : P.underlying e = some (.int .i64)) (hz : (zeroValue e).run P w = .ok (.int .i64 0) w) (b n : Nat) (f : List UInt8 → Bool)
    (hm : a.eval m = .map (some b)) (h : StrSet P k e w b n f) (s : List UInt8) (hs : s.length ≤ maxLen) (hx : a.eval x = .string ⟨s.toArray⟩)
    (hK : ∀ c : Int, wpList P ops Q rest (a.put o.dst (.tuple #[.int .i64 c, .bool (f s)])) w) :
    wpList P ops Q (o :: rest) a w := by
  obtain ⟨D, h1, h2⟩ := h
  refine wpList_lookup_own_ok_int w hg m x t hop k e .i64 (string_keyed hk) ht he hz b n D hm h1 _ _ hx (str_key hk s hs) fun c _ _ => ?_
  rw [h2 s hs]
  exact hK c

/-- 'm[k] = n'. -/
theorem wpList_put_set {ops : Array Oper} {rest : List Oper} {o : Oper} {a : Act} {Q : Exit → Act → World → Prop} (hg : o.guard = none) (m x v : Operand) (t : TypeId) (hop : o.op = Op.mapUpdate t m x v)
    (k e : TypeId) (hk : P.underlying k = some .string) (ht : P.underlying t = some (.map k e)) (he : P.underlying e = some (.int .i64)) (b n : Nat) (f : List UInt8 → Bool)
    (hm : a.eval m = .map (some b)) (h : StrSet P k e w b n f) (hn : n < maxLen) (s : List UInt8) (hs : s.length ≤ maxLen) (hx : a.eval x = .string ⟨s.toArray⟩) (c : Int) (hc : (Lit.int .i64 c).wf = true) (hv : a.eval v = .int .i64 c)
    (hK : ∀ w', StrSet P k e w' b (n + 1) (fun y => y == s || f y) → w.grownBy w' (some b) → wpList P ops Q rest (a.put o.dst undef) w') :
    wpList P ops Q (o :: rest) a w := by
  obtain ⟨D, h1, h2⟩ := h
  refine wpList_mapUpdate_own w hg m x v t hop k e (string_keyed hk) ht (plainElem P e) b n D hm h1 hn _ _ _ hx hv (str_key hk s hs) _ _ (plainElem_int he hc) fun w' h3 h4 => hK w' ⟨_, h3, fun y hy => ?_⟩ h4
  show _ = (y == s || f y)
  by_cases e : y = s
  · subst e
    rw [has_put_same (h1.tidy (string_keyed hk)).isMap (by exact trivial)]
    simp
  · rw [has_put_other (by intro e'; cases e'; exact e rfl), h2 y hy, beq_eq_false_iff_ne.2 e, Bool.false_or]
end

end Go.Proofs.YtgmmclcpfmnoiaaGreatDoor
