/-
  A slice's elements cell by cell, as an append takes them, and a row of one's own that holds such elements.
-/
import Derived.Test.YtgmmclcpfmnoiaaGreatDoorApi
namespace Go.Proofs.YtgmmclcpfmnoiaaGreatDoor
open Go.RowKit

/-- The elements' cells, one list each. -/
def Els {α : Type} (n : Nat) (R : Reading α) (S : Blocks) (w : World) (xs : List α) (css : List (List Value)) : Prop :=
  css.length = xs.length ∧ ∀ (i : Nat) (x : α) (cs : List Value), xs[i]? = some x → css[i]? = some cs → cs.length = n ∧ R S w x cs
section
variable {α : Type} {n : Nat} {R : Reading α} {S T : Blocks} {w w' : World} {v : Value} {xs : List α} {css : List (List Value)}
theorem Els.flat_len (h : Els n R S w xs css) : css.flatten.length = xs.length * n := by
  induction css generalizing xs with
  | nil =>
    have := h.1
    simp only [List.length_nil] at this
    simp [← this]
  | cons c r ih =>
    cases xs with
    | nil => have := h.1; simp at this
    | cons x xr =>
      have h0 := (h.2 0 x c rfl rfl).1
      have hr : Els n R S w xr r := ⟨by have := h.1; simpa using this, fun i y cs hi hc => h.2 (i + 1) y cs (by simpa using hi) (by simpa using hc)⟩
      rw [List.flatten_cons, List.length_append, h0, ih hr, List.length_cons, Nat.add_mul, Nat.one_mul, Nat.add_comm]
/-- Cell j of element i. -/
theorem flat_at {css : List (List Value)} {n : Nat} (hn : ∀ cs ∈ css, cs.length = n) (i j : Nat) {cs : List Value} (hi : css[i]? = some cs) (hj : j < n) : css.flatten[i * n + j]? = cs[j]? := by
  induction css generalizing i with
  | nil => simp at hi
  | cons c r ih =>
    have hc : c.length = n := hn c (List.mem_cons_self ..)
    rw [List.flatten_cons]
    cases i with
    | zero =>
      simp only [List.getElem?_cons_zero, Option.some.injEq] at hi
      subst hi
      rw [Nat.zero_mul, Nat.zero_add, List.getElem?_append_left (by omega)]
    | succ i =>
      have hlt : c.length ≤ (i + 1) * n + j := by rw [hc, Nat.add_mul]; omega
      rw [List.getElem?_append_right hlt, show (i + 1) * n + j - c.length = i * n + j from by rw [hc, Nat.add_mul]; omega]
      exact ih (fun cs h => hn cs (List.mem_cons_of_mem _ h)) i (by simpa using hi)
theorem Els.lens (h : Els n R S w xs css) : ∀ cs ∈ css, cs.length = n := fun cs hcs => by
  obtain ⟨i, hi, he⟩ := List.getElem_of_mem hcs
  exact (h.2 i (xs[i]'(by have := h.1; omega)) cs (List.getElem?_eq_getElem _) (by rw [← he]; exact List.getElem?_eq_getElem hi)).1
theorem Els.keep (g : Good R) (h : Els n R S w xs css) (c : Chg T w w') (hn : ∀ k, S k → ¬ T k) : Els n R S w' xs css := ⟨h.1, fun i x cs hi hc => ⟨(h.2 i x cs hi hc).1, g.keep (h.2 i x cs hi hc).2 c hn⟩⟩
theorem Els.mono (g : Good R) (h : Els n R S w xs css) (hn : ∀ k, S k → T k) : Els n R T w xs css := ⟨h.1, fun i x cs hi hc => ⟨(h.2 i x cs hi hc).1, g.mono (h.2 i x cs hi hc).2 hn⟩⟩
theorem Els.nil : Els n R S w ([] : List α) [] := ⟨rfl, fun i x cs hi => by simp at hi⟩
theorem Els.append {ys : List α} {ds : List (List Value)} (h : Els n R S w xs css) (k : Els n R S w ys ds) : Els n R S w (xs ++ ys) (css ++ ds) := by
  refine ⟨by rw [List.length_append, List.length_append, h.1, k.1], fun i x cs hi hc => ?_⟩
  by_cases hl : i < xs.length
  · rw [List.getElem?_append_left hl] at hi
    rw [List.getElem?_append_left (by rw [h.1]; exact hl)] at hc
    exact h.2 i x cs hi hc
  · rw [List.getElem?_append_right (by omega)] at hi
    rw [List.getElem?_append_right (by rw [h.1]; omega), h.1] at hc
    exact k.2 _ x cs hi hc
theorem Els.one (g : Good R) (h : Els n R S w xs css) : ∀ u ∈ css.flatten, u.oneCell' = true := fun u hu => by
  obtain ⟨cs, hcs, hu⟩ := List.mem_flatten.1 hu
  obtain ⟨i, hi, he⟩ := List.getElem_of_mem hcs
  exact g.one (h.2 i (xs[i]'(by have := h.1; omega)) cs (List.getElem?_eq_getElem _) (by rw [← he]; exact List.getElem?_eq_getElem hi)).2 u hu
/-- A slice as an append's source. -/
theorem SQ.src (g : Good R) {P : Program} (h : SQ n R S w v xs) (hn : 0 < n) {tx e' : TypeId} (hk : P.underlying tx = some (.slice e')) : ∃ css, Els n R S w xs css ∧ Src P n tx v xs.length css.flatten w := by
  obtain ⟨a, cap, rfl, h1, h2, h3⟩ := h
  by_cases hx : xs = []
  · subst hx
    refine ⟨[], Els.nil, ?_⟩
    cases a with
    | none => exact Src.ofNil w hk cap
    | some p => exact Src.ofSlice w hk p 0 cap [] (by simp) (fun j u hj => by simp at hj) (fun u hu => by cases hu)
  · cases a with
    | none => have := h2 rfl; have : xs.length ≠ 0 := fun e => hx (List.eq_nil_of_length_eq_zero e); omega
    | some p =>
      obtain ⟨h4, h5, h6, h7⟩ := h3 p rfl hx
      obtain ⟨b, o, sp⟩ := p
      cases h4
      have hch : ∀ m, m ≤ xs.length → ∃ css, Els n R S w (xs.take m) css ∧ ∀ (i : Nat) (cs : List Value), css[i]? = some cs → At w (⟨b, o + i * n, none⟩ : Addr) cs := by
        intro m
        induction m with
        | zero => intro _; exact ⟨[], by rw [List.take_zero]; exact Els.nil, fun i cs hi => by simp at hi⟩
        | succ m ih =>
          intro hm
          obtain ⟨css, e1, e2⟩ := ih (by omega)
          obtain ⟨cs, c1, c2, c3⟩ := h7 m xs[m] (List.getElem?_eq_getElem (by omega))
          refine ⟨css ++ [cs], ?_, fun i ds hi => ?_⟩
          · rw [List.take_succ_eq_append_getElem (by omega)]
            exact e1.append ⟨rfl, fun i x ds hi hd => by
              cases i with
              | zero => simp only [List.getElem?_cons_zero, Option.some.injEq] at hi hd; subst hi; subst hd; exact ⟨c1, c2⟩
              | succ i => simp at hi⟩
          · have hl : css.length = m := by rw [e1.1, List.length_take]; omega
            by_cases hlt : i < css.length
            · rw [List.getElem?_append_left hlt] at hi; exact e2 i ds hi
            · rw [List.getElem?_append_right (by omega)] at hi
              have : i - css.length = 0 := by
                by_cases e0 : i - css.length = 0
                · exact e0
                · rw [List.getElem?_eq_none (by simp; omega)] at hi; cases hi
              rw [this] at hi
              simp only [List.getElem?_cons_zero, Option.some.injEq] at hi
              subst hi
              have hi' : i = m := by omega
              subst hi'
              rw [add_mk] at c3
              exact c3
      obtain ⟨css, e1, e2⟩ := hch xs.length (Nat.le_refl _)
      rw [List.take_length] at e1
      refine ⟨css, e1, Src.ofSlice w hk ⟨b, o, none⟩ xs.length cap css.flatten (e1.flat_len) (fun j u hj => ?_) (e1.one g)⟩
      have hjl : j < css.flatten.length := (List.getElem?_eq_some_iff.1 hj).1
      rw [e1.flat_len] at hjl
      have hi : j / n < css.length := by rw [e1.1]; exact Nat.div_lt_of_lt_mul (by rw [Nat.mul_comm]; exact hjl)
      have hcs := List.getElem?_eq_getElem hi
      have hmod : j % n < n := Nat.mod_lt _ hn
      have hjj : j / n * n + j % n = j := by rw [Nat.mul_comm]; exact Nat.div_add_mod j n
      have h9 := flat_at e1.lens (j / n) (j % n) hcs hmod
      rw [hjj, hj] at h9
      have h10 := e2 (j / n) _ hcs (j % n) u h9.symm
      rw [add_mk] at h10
      rw [add_mk]
      rw [show o + j = o + j / n * n + j % n from by omega]
      exact h10
/-- A row of one's own that holds such elements. -/
def OQ {α : Type} (e n : Nat) (R : Reading α) (S : Blocks) (w : World) (v : Value) (xs : List α) : Prop := ∃ css, w.ownsRow 0 e n v xs.length css.flatten ∧ Els n R S w xs css
theorem OQ.nil (e : TypeId) (R : Reading α) (S : Blocks) (w : World) : OQ e n R S w (.slice none 0 0) [] := ⟨[], World.ownsRow_nil w 0 e n, Els.nil⟩
theorem OQ.lt {e : TypeId} (h : OQ e n R S w v xs) : ∀ k, v.ownBlock = some k → k < w.heap.size := fun k hk => by
  obtain ⟨css, ⟨_, h⟩, _⟩ := h
  rcases h with ⟨rfl, _⟩ | ⟨g, cap, cur, rfl, _, h2, _⟩
  · cases hk
  · cases hk; exact heap_lt h2
theorem OQ.keep {e : TypeId} (g : Good R) (h : OQ e n R S w v xs) (c : Chg T w w') (hv : ∀ k, v.ownBlock = some k → ¬ T k) (hn : ∀ k, S k → ¬ T k) : OQ e n R S w' v xs := by
  obtain ⟨css, ⟨h0, h⟩, h1⟩ := h
  refine ⟨css, ⟨h0, ?_⟩, h1.keep g c hn⟩
  rcases h with h | ⟨b, cap, cur, rfl, h2, h3, h4⟩
  · exact .inl h
  · exact .inr ⟨b, cap, cur, rfl, h2, (c.block b (heap_lt h3) (hv b rfl)).trans h3, h4⟩
theorem OQ.new {e : TypeId} (g : Good R) (h : OQ e n R S w v xs) (c : Chg No w w') : OQ e n R S w' v xs := h.keep g c (fun _ _ h => h) (fun _ _ h => h)
theorem OQ.mono {e : TypeId} (g : Good R) (h : OQ e n R S w v xs) (hn : ∀ k, S k → T k) : OQ e n R T w v xs := let ⟨css, h1, h2⟩ := h; ⟨css, h1, h2.mono g hn⟩
/-- It reads as a slice whose memory lies in T. -/
theorem OQ.sq {e : TypeId} (g : Good R) (h : OQ e n R S w v xs) (hb : ∀ k, v.ownBlock = some k → T k) (hn : ∀ k, S k → T k) : SQ n R T w v xs := by
  obtain ⟨css, ho, h1⟩ := h
  have hc := ho
  obtain ⟨h0, ho⟩ := ho
  rcases ho with ⟨rfl, h2⟩ | ⟨b, cap, cur, rfl, h2, h3, h4, h5⟩
  · rw [List.eq_nil_of_length_eq_zero h2]; exact SQ.nil
  · refine ⟨_, cap, rfl, h4, (fun h => by cases h), fun p hp _ => ?_⟩
    cases hp
    refine ⟨rfl, heap_lt h3, hb b rfl, fun i x hi => ?_⟩
    have hil : i < css.length := by rw [h1.1]; exact (List.getElem?_eq_some_iff.1 hi).1
    have hcs := List.getElem?_eq_getElem hil
    obtain ⟨c1, c2⟩ := h1.2 i x _ hi hcs
    refine ⟨css[i], c1, g.mono c2 hn, fun j u hj => ?_⟩
    have hjn : j < n := by rw [← c1]; exact (List.getElem?_eq_some_iff.1 hj).1
    have := World.ownsRow.cells (g := b) hc rfl (i * n + j) u (by rw [flat_at h1.lens i j hcs hjn]; exact hj)
    rw [add_mk] at this
    rw [add_mk, add_mk]
    rw [← Nat.add_assoc] at this
    exact this
/-- What an append of such elements leaves. -/
theorem OQ.append {e : TypeId} {m : Nat} {ys : List α} {ds : List (List Value)} (h : w.ownsRow 0 e n v m (css.flatten ++ ds.flatten)) (hm : m = xs.length + ys.length) (h1 : Els n R S w xs css) (h2 : Els n R S w ys ds) : OQ e n R S w v (xs ++ ys) :=
  ⟨css ++ ds, by rw [List.flatten_append, List.length_append, ← hm]; exact h, h1.append h2⟩
end

end Go.Proofs.YtgmmclcpfmnoiaaGreatDoor
