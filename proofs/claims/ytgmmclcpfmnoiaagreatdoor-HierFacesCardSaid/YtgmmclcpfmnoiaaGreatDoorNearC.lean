/-
  The law HierNearest's module may be; its world links; what is asked of it: plainly.
-/
import Derived.Test.YtgmmclcpfmnoiaaGreatDoorNearA
import Derived.Test.YtgmmclcpfmnoiaaGreatDoorCallG
import Derived.Test.YtgmmclcpfmnoiaaGreatDoorAddG
import Derived.Test.YtgmmclcpfmnoiaaGreatDoorInsF
namespace Go.Proofs.YtgmmclcpfmnoiaaGreatDoor
open Go.RowKit

section
variable {own : List Bool} {n : Nat}
theorem n_ok (i : Nat) : okClB (nCl own i) = true := by
  unfold nCl
  by_cases h0 : i = 0
  · rw [if_pos h0]
    by_cases ho : ownB own i = true
    · rw [if_pos ho]; rfl
    · rw [if_neg ho]; rfl
  · rw [if_neg h0]
    by_cases ho : ownB own i = true
    · rw [if_pos ho]; rfl
    · rw [if_neg ho]; rfl
theorem firsts_ok : ∀ c ∈ firsts, okClB c = true := by decide
theorem n_okAll : ∀ c ∈ nCs own n, okClB c = true := fun c hc => by
  rcases List.mem_append.1 hc with h | h
  · exact firsts_ok c h
  · obtain ⟨i, -, rfl⟩ := n_mem h
    exact n_ok i
theorem n_meths {i : Nat} : ∀ x ∈ (nCl own i).methods, x = mM := fun x hx => by
  unfold nCl at hx
  simp only at hx
  split at hx
  · simpa using hx
  · cases hx
theorem retM_m : RetM mM := ⟨.inl ⟨rfl, rfl⟩, rfl, rfl, rfl, rfl⟩
theorem n_head (hn : n ≤ 26) {i : Nat} (hi : i < n) : headE (nCl own i) = zBd := by
  have h1 : nameB (nCl own i).name = true := nm_name i (by omega)
  have h2 : nameB (nCl own i).super = true := by
    rcases n_super (own := own) (i := i) with h | ⟨h0, h⟩
    · rw [h]; decide
    · rw [h]; exact nm_name _ (by omega)
  rw [headE_rest (by simp [nCl]) (by simp [h1, h2]) (by simp [nCl]) (by simp [nCl]) (by simp [nCl])]
  rfl
theorem n_fields (i : Nat) : fieldsE (nCl own i) = zBd := rfl
theorem n_methods (i : Nat) : methodsE [] (nCl own i) = zBd := by
  unfold nCl
  by_cases ho : ownB own i = true
  · rw [if_pos ho]; rfl
  · rw [if_neg ho]; rfl
theorem n_class (hn : n ≤ 26) {i : Nat} (hi : i < n) : classE [] (nCl own i) = zBd := by
  rw [classE_methods (by rw [n_head hn hi]; simp) (by rw [n_fields]; simp), n_methods]
theorem n_at {i : Nat} (hi : i < n) : (nTl own n).getD i zCl = nCl own i := by
  rw [List.getD_eq_getElem?_getD, List.getElem?_map, List.getElem?_range hi]; rfl
theorem n_names (hn : n ≤ 26) : ((nTl own n).map (·.name)).Nodup := by
  rw [List.map_map]
  have : ∀ l : List Nat, (∀ i ∈ l, i < 26) → l.Nodup → (l.map ((fun x : Cl => x.name) ∘ nCl own)).Nodup := by
    intro l
    induction l with
    | nil => intro _ _; simp
    | cons a r ih =>
      intro h1 h2
      rw [List.nodup_cons] at h2
      rw [List.map_cons, List.nodup_cons]
      refine ⟨fun hm => ?_, ih (fun i hi => h1 i (List.mem_cons_of_mem _ hi)) h2.2⟩
      obtain ⟨i, hi, he⟩ := List.mem_map.1 hm
      have := nm_inj (h1 i (List.mem_cons_of_mem _ hi)) (h1 a (List.mem_cons_self ..)) he
      subst this
      exact h2.1 hi
  exact this _ (fun i hi => by have := List.mem_range.1 hi; omega) List.nodup_range
theorem n_twice (hn : n ≤ 26) {i : Nat} (hi : i < n) : twiceE ⟨[], nTl own n⟩ i = 0 := by
  have hl : (nTl own n).length = n := by simp
  rw [twiceE_at (m := ⟨[], nTl own n⟩) (by rw [hl]; exact hi)]
  rw [show ((nTl own n).take i).any (fun x => x.name == (nTl own n)[i].name) = false from by
    rw [List.any_eq_false]
    intro x hx
    obtain ⟨j, hj, hxj⟩ := List.getElem_of_mem hx
    rw [List.length_take] at hj
    rw [List.getElem_take] at hxj
    subst hxj
    have hN := List.pairwise_iff_getElem.1 (n_names (own := own) hn) j i (by rw [List.length_map]; omega) (by rw [List.length_map]; omega) (by omega)
    rw [List.getElem_map, List.getElem_map] at hN
    simpa using hN]
  rfl
theorem n_module (hn : n ≤ 26) : (moduleE ⟨[], nTl own n⟩).err = 0 := by
  have hl : (nTl own n).length = n := by simp
  rw [moduleE_ok (m := ⟨[], nTl own n⟩) (by show ¬ (poolE []).2 ≠ 0; decide) (by show ¬ 64 < (nTl own n).length; omega)
    (firstN_none fun j hj => by
      have hj' : j < n := by rw [← hl]; exact hj
      show (classE [] ((nTl own n).getD j zCl)).err = 0
      rw [n_at hj', n_class hn hj'])
    (firstN_none fun j hj => n_twice hn (by rw [← hl]; exact hj))]
theorem n_new {c : Cl} (hc : c ∈ nTl own n) : ∀ d ∈ firsts, d.name ≠ c.name := fun d hd e => by
  obtain ⟨i, -, rfl⟩ := n_mem hc
  have := firsts_six d hd
  rw [e] at this
  simp [nCl, nm] at this
theorem n_named (i : Nat) : namedB0 (nCs own n) (nCl own i) = true := by
  unfold namedB0
  rw [List.all_eq_true]
  intro t ht
  have : t.name = [] := by
    unfold clTys at ht
    rw [show (nCl own i).fields = [] from rfl, List.map_nil, List.nil_append, List.mem_flatMap] at ht
    obtain ⟨m, hm, ht⟩ := ht
    rw [n_meths m hm] at ht
    unfold mtTys mM vSig at ht
    simp at ht
    rw [ht]
  rw [this]; rfl
theorem n_chain (hn : n ≤ 26) {i : Nat} (hi : i < n) : chainOf (nCs own n) (nm i) = nCh i := (nCh_is hn i hi).of
theorem n_all (hn : n ≤ 26) {es : List Ent} (g : WG es (nTl own n)) : ∀ i, i < 7 → ∀ x ∈ es.drop 8, RBg es (fun x => namedB0 (cls es) x.cl) i x = true :=
  flat_all g (by rw [g.cl]; exact fun c hc => ⟨(n_flat hc).1, (n_flat hc).2.1, fun m hm => ((n_flat hc).2.2.2 m hm).1⟩)
    (fun c hc => by obtain ⟨i, hi, rfl⟩ := n_mem hc; exact n_stands hn hi) (fun c _ => n_free hn _)
    (fun c hc => by
      obtain ⟨i, hi, rfl⟩ := n_mem hc
      show (chainOf (nCs own n) (nm i)).length ≤ 32
      rw [n_chain hn hi, nCh_len]; omega)
    (fun x hx => by
      obtain ⟨i, -, hi⟩ := n_mem (g.mem hx)
      rw [g.cl, hi]
      exact n_named i)
/-- A linked world's classes: the same, with chains. -/
theorem cls_link {es : List Ent} : cls (es.map (linkE es)) = cls es := by unfold cls; rw [List.map_map]; rfl
theorem n_ent (hn : n ≤ 26) {es : List Ent} (hcl : cls es = nCs own n) {i : Nat} (hi : i < n) : ∃ x ∈ es.map (linkE es), x.cl = nCl own i ∧ x.chain = nCh i := by
  have h := fnd_n (own := own) hn hi
  rw [← hcl] at h
  obtain ⟨x, hx, hxc, -, -⟩ := fnd_some h
  refine ⟨linkE es x, List.mem_map_of_mem hx, hxc, ?_⟩
  show chainOf (cls es) x.cl.name = _
  rw [hcl, hxc]
  exact n_chain hn hi
theorem n_there (hn : n ≤ 26) {es : List Ent} (hcl : cls es = nCs own n) {i : Nat} (hi : i < n) : ∀ s ∈ nCh i, ∃ k, atf es s = some k := fun s hs => by
  obtain ⟨c, hc⟩ := chain_mem (nCh_is (own := own) hn i hi) s hs
  rw [← hcl] at hc
  obtain ⟨y, -, -, -, hy⟩ := fnd_some hc
  exact ⟨_, hy⟩
/-- What Pick and Method tell. -/
theorem n_asked (hn : n ≤ 26) {es : List Ent} (hcl : cls es = nCs own n) {i : Nat} (hi : i < n) {x : Ent} (hx : x.cl = nCl own i) (hxc : x.chain = nCh i) : match lastO own i with
    | none => pickX es x mName vSig = none ∧ callX es x mName vSig = none
    | some j => ∃ y, y.cl = nCl own j ∧ pickX es x mName vSig = some (y, 0) ∧ callX es x mName vSig = some (y, 0) := by
  have h := near_n (own := own) hn hcl i hi
  have hf : (isFaceB x.cl || mName == initName) = false := by rw [hx]; rfl
  unfold pickX callX
  rw [hf, hxc]
  cases hl : lastO own i with
  | none =>
    rw [hl] at h
    simp only at h ⊢
    rw [h]
    exact ⟨rfl, rfl⟩
  | some j =>
    rw [hl] at h
    simp only at h ⊢
    obtain ⟨y, -, hy, h⟩ := h
    rw [h]
    have hm : (y.cl.methods.getD 0 zMt).flags = 0 := by
      rw [hy]
      unfold nCl
      by_cases ho : ownB own j = true
      · rw [if_pos ho]; rfl
      · rw [if_neg ho]; rfl
    refine ⟨y, hy, ?_, ?_⟩
    · simp only [hm]; rfl
    · simp only [hm]; rfl
end

end Go.Proofs.YtgmmclcpfmnoiaaGreatDoor
