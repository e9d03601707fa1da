/-
  The law's classes, plainly: what they are, and which rule is broken.
-/
import Derived.Test.YtmpmfbnglfgobaaGreatDoorLDeepA
namespace Go.Proofs.YtmpmfbnglfgobaaGreatDoor
open Go.RowKit

abbrev dpTl (n : Nat) (c : Bool) : List Cl := (List.range n).map (cClass n c)
theorem cName_ok : ∀ i, i < 45 → nameB (cName i) = true := by decide
theorem object_ok : nameB objectName = true := by decide
theorem dp_mem {n : Nat} {c : Bool} {x : Cl} (h : x ∈ dpTl n c) : ∃ i, i < n ∧ x = cClass n c i := by
  obtain ⟨i, hi, rfl⟩ := List.mem_map.1 h
  exact ⟨i, List.mem_range.1 hi, rfl⟩
theorem dp_in {n : Nat} {c : Bool} {i : Nat} (h : i < n) : cClass n c i ∈ dpTl n c := List.mem_map_of_mem (List.mem_range.2 h)
theorem dp_super {n : Nat} (c : Bool) {i : Nat} (hi : i < n) : (cClass n c i).super = objectName ∨ ∃ j, j < n ∧ (cClass n c i).super = cName j := by
  unfold cClass
  by_cases h0 : i = 0
  · cases c
    · left; simp [h0]
    · right; exact ⟨n - 1, by omega, by simp [h0]⟩
  · right; exact ⟨i - 1, by omega, by simp [h0]⟩
theorem dp_plain {n : Nat} (hn : n ≤ 45) (c : Bool) : ∀ x ∈ dpTl n c, PlainCl x := fun x hx => by
  obtain ⟨i, hi, rfl⟩ := dp_mem hx
  refine ⟨rfl, cName_ok i (by omega), ?_, rfl, rfl, rfl⟩
  rcases dp_super c hi with h | ⟨j, hj, h⟩
  · rw [h]; exact object_ok
  · rw [h]; exact cName_ok j (by omega)
theorem dp_nodup {n : Nat} (hn : n ≤ 45) (c : Bool) : ((dpTl n c).map (·.name)).Nodup := by
  rw [List.map_map]
  have : ∀ l : List Nat, (∀ i ∈ l, i < 45) → l.Nodup → (l.map ((fun x : Cl => x.name) ∘ cClass n c)).Nodup := by
    intro l
    induction l with
    | nil => intro _ _; simp
    | cons a r ih =>
      intro h1 h2
      rw [List.nodup_cons] at h2
      rw [List.map_cons, List.nodup_cons]
      refine ⟨fun hm => ?_, ih (fun i hi => h1 i (List.mem_cons_of_mem _ hi)) h2.2⟩
      obtain ⟨i, hi, he⟩ := List.mem_map.1 hm
      have := cName_inj (h1 i (List.mem_cons_of_mem _ hi)) (h1 a (List.mem_cons_self ..)) he
      subst this
      exact h2.1 hi
  exact this _ (fun i hi => by have := List.mem_range.1 hi; omega) List.nodup_range
theorem dp_new {n : Nat} (c : Bool) : ∀ x ∈ dpTl n c, ∀ d ∈ firsts, d.name ≠ x.name := fun x hx d hd e => by
  obtain ⟨i, hi, rfl⟩ := dp_mem hx
  have := firsts_names d hd
  rw [e] at this
  simp [cClass, cName] at this
theorem dp_fst' : ∀ c ∈ firsts, firsts.find? (fun x => x.name == c.name) = some c := by decide
theorem dp_fst (n : Nat) (c : Bool) : ∀ x ∈ firsts, fnd (firsts ++ dpTl n c) x.name = some x := fun x hx => by
  unfold fnd
  rw [List.find?_append, dp_fst' x hx]
  rfl
theorem dp_sup {n : Nat} (hn : n ≤ 45) (c : Bool) : ∀ x ∈ dpTl n c, ∃ d, fnd (firsts ++ dpTl n c) x.super = some d := fun x hx => by
  obtain ⟨i, hi, rfl⟩ := dp_mem hx
  rcases dp_super c hi with h | ⟨j, hj, h⟩
  · rw [h]; exact ⟨_, fnd_object n c⟩
  · rw [h]; exact ⟨_, fnd_c hn hj⟩
theorem dp_chain {n : Nat} (hn : n ≤ 45) (c : Bool) : ∀ x ∈ dpTl n c, (∀ x ∈ dpTl n c, ¬ Reach (firsts ++ dpTl n c) x.name x.name) → ∃ l, IsChain (firsts ++ dpTl n c) x.name l ∧ l.length ≤ 1000 ∧ ∀ t ∈ l, ∃ d, fnd (firsts ++ dpTl n c) t = some d := fun x hx hr => by
  obtain ⟨i, hi, rfl⟩ := dp_mem hx
  cases c with
  | true => exact absurd (circle_c hn (by omega)) (hr (cClass n true 0) (dp_in (by omega)))
  | false =>
    refine ⟨chainL i, chainL_is hn hi, by rw [chainL_len]; omega, fun t ht => ?_⟩
    rcases chainL_mem ht with rfl | ⟨j, hj, rfl⟩
    · exact ⟨_, fnd_object n false⟩
    · exact ⟨_, fnd_c hn (by omega)⟩
theorem dp_world {n : Nat} (hn : n ≤ 45) (h0 : 0 < n) (c : Bool) {es : List Ent} (hcl : cls es = firsts ++ dpTl n c) (hp : ∀ x ∈ es, x.pool = []) : PlainWorld es (chainOf (cls es)) :=
  plainWorld hcl (by simp; omega) (by simp; omega) hp (dp_plain hn c) (dp_sup hn c) (dp_fst n c) (dp_chain hn c)
theorem dp_at {n : Nat} {c : Bool} {es : List Ent} (hcl : cls es = firsts ++ dpTl n c) {j : Nat} {x : Ent} (h : (es.drop 8)[j]? = some x) : j < n ∧ x.cl = cClass n c j := by
  have h1 : ((es.drop 8).map (·.cl))[j]? = some x.cl := by rw [List.getElem?_map, h]; rfl
  have h2 : (es.drop 8).map (·.cl) = dpTl n c := by
    have : (cls es).drop 8 = dpTl n c := by rw [hcl]; exact List.drop_left' (by rfl)
    unfold cls at this
    rw [← List.map_drop] at this
    exact this
  rw [h2, List.getElem?_map] at h1
  obtain ⟨i, hi, he⟩ := Option.map_eq_some_iff.1 h1
  have hjn : j < n := by
    have := (List.getElem?_eq_some_iff.1 hi).1
    simpa using this
  rw [List.getElem?_range hjn] at hi
  cases hi
  exact ⟨hjn, he.symm⟩
theorem dp_there {n : Nat} {c : Bool} {es : List Ent} (hcl : cls es = firsts ++ dpTl n c) {j : Nat} (hj : j < n) : ∃ x, (es.drop 8)[j]? = some x ∧ x.cl = cClass n c j := by
  have hlen : es.length = 8 + n := by
    have := congrArg List.length hcl
    rw [List.length_append] at this
    simp only [cls, List.length_map, List.length_range] at this
    rw [this]; rfl
  have : j < (es.drop 8).length := by rw [List.length_drop]; omega
  exact ⟨_, List.getElem?_eq_getElem this, (dp_at hcl (List.getElem?_eq_getElem this)).2⟩
/-- In a circle it is the rule of circles, at the first class. -/
theorem dp_circle {n : Nat} (hn : n ≤ 45) (h0 : 0 < n) {es : List Ent} (hcl : cls es = firsts ++ dpTl n true) : ∃ x, (es.drop 8)[0]? = some x ∧ x.cl = cClass n true 0 ∧ RBp es (chainOf (cls es)) 2 x = false := by
  obtain ⟨x, hx, hc⟩ := dp_there hcl h0
  refine ⟨x, hx, hc, ?_⟩
  unfold RBp
  rw [if_pos rfl, hc, hcl]
  have := circle_c hn h0
  rw [decide_eq_false_iff_not]
  exact fun h => h this
theorem dp_circle_at {n : Nat} (hn : n ≤ 45) (h0 : 0 < n) {es : List Ent} (hcl : cls es = firsts ++ dpTl n true) {i j : Nat} (h : Broken (es.drop 8) (RBp es (chainOf (cls es))) i j) : i = 2 ∧ j = 0 := by
  obtain ⟨x, hx, -, hr⟩ := dp_circle hn h0 hcl
  obtain ⟨h1, h2, h3, y, hy, hf⟩ := h
  have hi : ¬ 2 < i := fun hlt => by rw [h2 2 hlt x (List.mem_of_getElem? hx)] at hr; cases hr
  have hi2 : i = 2 := by
    by_cases e : i = 2
    · exact e
    · unfold RBp at hf
      rw [if_neg e, if_neg (by omega)] at hf
      cases hf
  subst hi2
  refine ⟨rfl, ?_⟩
  by_cases e : j = 0
  · exact e
  · rw [h3 0 (by omega) x hx] at hr; cases hr
theorem dp_len {n : Nat} (hn : n ≤ 45) {es : List Ent} (hcl : cls es = firsts ++ dpTl n false) {j : Nat} {x : Ent} (h : (es.drop 8)[j]? = some x) (i : Nat) : RBp es (chainOf (cls es)) i x = decide (i = 3 → j + 2 ≤ 32) := by
  obtain ⟨hj, hc⟩ := dp_at hcl h
  unfold RBp
  rw [hc, hcl]
  by_cases h2 : i = 2
  · rw [if_pos h2]
    have := no_circle hn hj
    simp only [h2, show ¬ (2 = 3) from by omega, false_implies, decide_true, decide_eq_true_eq]
    exact this
  · rw [if_neg h2]
    by_cases h3 : i = 3
    · rw [if_pos h3]
      have : chainOf (deepCls n false) (cName j) = chainL j := (chainL_is hn hj).of
      rw [show (cClass n false j).name = cName j from rfl, show firsts ++ dpTl n false = deepCls n false from rfl, this, chainL_len]
      simp [h3]
    · rw [if_neg h3]; simp [h3]
theorem dp_long {n : Nat} (hn : n ≤ 45) {es : List Ent} (hcl : cls es = firsts ++ dpTl n false) {i j : Nat} (h : Broken (es.drop 8) (RBp es (chainOf (cls es))) i j) : i = 3 ∧ j = 31 := by
  obtain ⟨h1, h2, h3, y, hy, hf⟩ := h
  obtain ⟨hj, -⟩ := dp_at hcl hy
  rw [dp_len hn hcl hy] at hf
  simp only [decide_eq_false_iff_not, Classical.not_imp] at hf
  obtain ⟨rfl, hf⟩ := hf
  refine ⟨rfl, ?_⟩
  by_cases e : j = 31
  · exact e
  · obtain ⟨x, hx, -⟩ := dp_there hcl (show 31 < n by omega)
    have := h3 31 (by omega) x hx
    rw [dp_len hn hcl hx] at this
    simp at this
theorem dp_ok {n : Nat} (hn : n ≤ 45) {es : List Ent} (hcl : cls es = firsts ++ dpTl n false) (h : ∀ x ∈ es.drop 8, RBp es (chainOf (cls es)) 3 x = true) : n ≤ 31 := by
  apply Classical.byContradiction
  intro hlt
  obtain ⟨x, hx, -⟩ := dp_there hcl (show 31 < n by omega)
  have := h x (List.mem_of_getElem? hx)
  rw [dp_len hn hcl hx] at this
  simp at this
theorem dp_chOf {n : Nat} (hn : n ≤ 45) {j : Nat} (hj : j < n) : (chainOf (firsts ++ dpTl n false) (cName j)).length = j + 2 := by
  rw [show firsts ++ dpTl n false = deepCls n false from rfl, (chainL_is hn hj).of, chainL_len]
theorem deep_name {M : Blocks} {W : World} {g n nc : Nat} {c : Bool} (h : SQ 6 RCl M W (.slice (some ⟨g, 0, none⟩) n nc) (dpTl n c)) {j : Nat} (hj : j < n) : W.cell? ⟨g, j * 6 + 1, none⟩ = some (strV (cName j)) := by
  obtain ⟨b, o, cs, hb, -, hR, -, -, hc⟩ := h.cells j (by simp; exact hj)
  cases hb
  obtain ⟨x, y, z, rfl, -⟩ := hR
  have := hc 1 _ rfl
  rw [Nat.zero_add] at this
  rw [this]
  simp [cClass]

end Go.Proofs.YtmpmfbnglfgobaaGreatDoor
