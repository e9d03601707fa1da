/-
  A map with string keys and ints as elements, as the set of its keys: what a look-up with ok answers, what a store leaves.
-/
import Derived.Test.YtgmmclcpfmnoiaaGreatDoorStrMap
namespace Go.Proofs.YtgmmclcpfmnoiaaGreatDoor
open Go.Maps Go.RowKit Go.WideAt Go.ChangeMaps Go.MapKept

/-- Block b is a map with string keys and ints, of n entries at most, whose keys are those of f. -/
def StrSet (P : Program) (k e : TypeId) (w : World) (b n : Nat) (f : List UInt8 → Bool) : Prop :=
  ∃ D : DataW Unit, w.ownsMap P k (plainElem P e) b n D ∧ ∀ s : List UInt8, s.length ≤ maxLen → Maps.has D (.string s) = f s
section
variable {P : Program} {k e : TypeId} {w w' : World} {b n : Nat} {f : List UInt8 → Bool}
theorem StrSet.made (w : World) : StrSet P k e (w.alloc (.map #[] 0)) w.heap.size 0 (fun _ => false) :=
  ⟨_, World.ownsMap_made _ _ _ _, fun _ _ => rfl⟩
theorem StrSet.lt (h : StrSet P k e w b n f) : b < w.heap.size := let ⟨_, h, _⟩ := h; h.lt
theorem StrSet.at_block (h : StrSet P k e w b n f) (hb : w'.heap[b]? = w.heap[b]?) : StrSet P k e w' b n f := by
  obtain ⟨D, ⟨es, clock, h1, h2, h3, h4⟩, h5⟩ := h
  exact ⟨D, ⟨es, clock, hb.trans h1, h2, h3, h4⟩, h5⟩
theorem StrSet.mono (h : StrSet P k e w b n f) {m : Nat} (hm : n ≤ m) : StrSet P k e w b m f := let ⟨D, h1, h2⟩ := h; ⟨D, h1.mono hm, h2⟩

/-- '_, ok := m[k]'. -/
theorem wpList_look_set {ops : Array Oper} {rest : List Oper} {o : Oper} {a : Act} {Q : Exit → Act → World → Prop} (hg : o.guard = none) (m x : Operand) (t : TypeId) (hop : o.op = Op.lookup t m x true)
    (k e : TypeId) (hk : P.underlying k = some .string) (ht : P.underlying t = some (.map k e)) (he : P.underlying e = some (.int .i64)) (hz : (zeroValue e).run P w = .ok (.int .i64 0) w) (b n : Nat) (f : List UInt8 → Bool)
    (hm : a.eval m = .map (some b)) (h : StrSet P k e w b n f) (s : List UInt8) (hs : s.length ≤ maxLen) (hx : a.eval x = .string ⟨s.toArray⟩)
    (hK : ∀ c : Int, wpList P ops Q rest (a.put o.dst (.tuple #[.int .i64 c, .bool (f s)])) w) :
    wpList P ops Q (o :: rest) a w := by
  obtain ⟨D, h1, h2⟩ := h
  refine wpList_lookup_own_ok_int w hg m x t hop k e .i64 (string_keyed hk) ht he hz b n D hm h1 _ _ hx (str_key hk s hs) fun c _ _ => ?_
  rw [h2 s hs]
  exact hK c

/-- 'm[k] = n'. -/
theorem wpList_put_set {ops : Array Oper} {rest : List Oper} {o : Oper} {a : Act} {Q : Exit → Act → World → Prop} (hg : o.guard = none) (m x v : Operand) (t : TypeId) (hop : o.op = Op.mapUpdate t m x v)
    (k e : TypeId) (hk : P.underlying k = some .string) (ht : P.underlying t = some (.map k e)) (he : P.underlying e = some (.int .i64)) (b n : Nat) (f : List UInt8 → Bool)
    (hm : a.eval m = .map (some b)) (h : StrSet P k e w b n f) (hn : n < maxLen) (s : List UInt8) (hs : s.length ≤ maxLen) (hx : a.eval x = .string ⟨s.toArray⟩) (c : Int) (hc : (Lit.int .i64 c).wf = true) (hv : a.eval v = .int .i64 c)
    (hK : ∀ w', StrSet P k e w' b (n + 1) (fun y => y == s || f y) → w.grownBy w' (some b) → wpList P ops Q rest (a.put o.dst undef) w') :
    wpList P ops Q (o :: rest) a w := by
  obtain ⟨D, h1, h2⟩ := h
  refine wpList_mapUpdate_own w hg m x v t hop k e (string_keyed hk) ht (plainElem P e) b n D hm h1 hn _ _ _ hx hv (str_key hk s hs) _ _ (plainElem_int he hc) fun w' h3 h4 => hK w' ⟨_, h3, fun y hy => ?_⟩ h4
  show _ = (y == s || f y)
  by_cases e : y = s
  · subst e
    rw [has_put_same (h1.tidy (string_keyed hk)).isMap (by exact trivial)]
    simp
  · rw [has_put_other (by intro e'; cases e'; exact e rfl), h2 y hy, beq_eq_false_iff_ne.2 e, Bool.false_or]
end

end Go.Proofs.YtgmmclcpfmnoiaaGreatDoor
