/-
  What the bound of the second form's statements gives: so many elements at the most.
-/
import Derived.Test.YtidjeehjojajmaaOpen
namespace Go.Proofs.Ytidjeehjojajmaa.bulks
open Go.Proofs.Ytidjeehjojajmaa

theorem one_le {H : Type} (d : DataW H) : 1 ≤ Rows.uptoBulk d := by
  cases d with
  | lit l => cases l <;> simp [Rows.uptoBulk]
  | nil => simp [Rows.uptoBulk]
  | ptr d => simp [Rows.uptoBulk]
  | slice elems spare => simp [Rows.uptoBulk]
  | agg parts => simp [Rows.uptoBulk]
  | iface t d => simp [Rows.uptoBulk]
  | map entries => simp [Rows.uptoBulk]
  | held h => simp [Rows.uptoBulk]
theorem part_le {H : Type} {d : DataW H} {l : List (DataW H)} (h : d ∈ l) : Rows.uptoBulk d ≤ Rows.uptoBulkAll l := by
  induction l with
  | nil => cases h
  | cons x r ih =>
    simp only [Rows.uptoBulkAll]
    cases List.mem_cons.1 h with
    | inl e => subst e; omega
    | inr e => have := ih e; omega
theorem length_le {H : Type} (l : List (DataW H)) : l.length ≤ Rows.uptoBulkAll l := by
  induction l with
  | nil => simp [Rows.uptoBulkAll]
  | cons x r ih => have := one_le x; simp only [Rows.uptoBulkAll, List.length_cons]; omega
theorem sliceOf_bulk {H : Type} {d : DataW H} {n : Nat} (h : SliceOf d n) : n ≤ Rows.uptoBulk d := by
  rcases h with ⟨_, rfl⟩ | ⟨elems, spare, rfl, rfl⟩
  · omega
  · have := length_le elems
    simp only [Rows.uptoBulk]
    omega
theorem small {H : Type} {l : List (DataW H)} (hk : Rows.uptoSmall H l = true) : Rows.uptoBulkAll l ≤ 1048576 := by
  have h : Rows.uptoBulkAll l ≤ 1048576 := of_decide_eq_true hk
  exact h
theorem slice_bulk {H : Type} {d : DataW H} {n : Nat} {l : List (DataW H)} (h : SliceOf d n) (hk : Rows.uptoSmall H l = true) (hd : d ∈ l) : n ≤ 1048576 :=
  Nat.le_trans (sliceOf_bulk h) (Nat.le_trans (part_le hd) (small hk))
/-- All of the items' bytes together. -/
theorem items_bulk {H : Type} : ∀ (elems : List (DataW H)) (xs : List Item), (∀ (i : Nat) (x : Item), xs[i]? = some x → ∃ y, elems[i]? = some y ∧ ItemOf y x) → (xs.map fun x => x.b.length).sum ≤ Rows.uptoBulkAll elems
  | elems, [], _ => by simp
  | [], x :: xs, h => by obtain ⟨y, hy, _⟩ := h 0 x rfl; simp at hy
  | e :: elems, x :: xs, h => by
    obtain ⟨y, hy, a, b, c, rfl, hc⟩ := h 0 x rfl
    simp only [List.getElem?_cons_zero, Option.some.injEq] at hy
    subst hy
    have ih := items_bulk elems xs (fun i z hz => by simpa using h (i + 1) z (by simpa using hz))
    have h1 := sliceOf_bulk hc
    simp only [List.map_cons, List.sum_cons, Rows.uptoBulkAll, Rows.uptoBulk]
    omega
theorem items_small {H : Type} {d : DataW H} {l : List (DataW H)} {xs : List Item} (hk : Rows.uptoSmall H l = true) (hd : d ∈ l) (hs : SliceOf d xs.length) (h : ∀ elems spare, d = .slice elems spare → ∀ (i : Nat) (x : Item), xs[i]? = some x → ∃ y, elems[i]? = some y ∧ ItemOf y x) :
    (xs.map fun x => x.b.length).sum ≤ 1048576 := by
  rcases hs with ⟨_, h0⟩ | ⟨elems, spare, rfl, _⟩
  · rw [List.eq_nil_of_length_eq_zero h0]; simp
  · have h1 := items_bulk elems xs (h elems spare rfl)
    have h2 := part_le hd
    have h3 := small hk
    simp only [Rows.uptoBulk] at h2
    omega

end Go.Proofs.Ytidjeehjojajmaa.bulks
