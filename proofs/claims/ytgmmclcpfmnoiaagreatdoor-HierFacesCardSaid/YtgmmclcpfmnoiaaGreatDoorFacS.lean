/-
  The law HierFaces's classes, plainly: interfaces, each below some of those ahead of it, and a class below the last.
-/
import Derived.Test.YtgmmclcpfmnoiaaGreatDoorRulX
import Derived.Test.YtgmmclcpfmnoiaaGreatDoorChain
import Derived.Test.YtgmmclcpfmnoiaaGreatDoorSub2
import Derived.Laws.MakeOwn
namespace Go.Proofs.YtgmmclcpfmnoiaaGreatDoor
open Go.RowKit

def fcl (F : Nat → List Nat) (i : Nat) : Cl := ⟨1, nm i, objectName, (F i).map nm, [], []⟩
def fcA (n : Nat) : Cl := ⟨0, [65], objectName, [nm (n - 1)], [], []⟩
abbrev fTl (F : Nat → List Nat) (n : Nat) : List Cl := (List.range n).map (fcl F) ++ [fcA n]
abbrev fCs (F : Nat → List Nat) (n : Nat) : List Cl := firsts ++ fTl F n
structure FOk (F : Nat → List Nat) (n : Nat) : Prop where
  lo : 2 ≤ n
  hi : n ≤ 9
  lt : ∀ i, i < n → ∀ j ∈ F i, j < i
  nd : ∀ i, i < n → (F i).Nodup
section
variable {F : Nat → List Nat} {n : Nat}
theorem FOk.len (h : FOk F n) {i : Nat} (hi : i < n) : (F i).length ≤ 9 := by
  have := nodup_le (h.nd i hi) (m := List.range i) (fun a ha => List.mem_range.2 (h.lt i hi a ha))
  rw [List.length_range] at this
  have := h.hi
  omega
theorem nm_A (i : Nat) : nm i ≠ [65] := by simp [nm]
theorem fnd_f (h : FOk F n) {i : Nat} (hi : i < n) : fnd (fCs F n) (nm i) = some (fcl F i) := by
  have hn := h.hi
  unfold fnd fCs fTl
  rw [List.find?_append, first_nm, Option.none_or, List.find?_append]
  have : ((List.range n).map (fcl F)).find? (fun c => c.name == nm i) = some (fcl F i) := by
    rw [List.find?_map, Option.map_eq_some_iff]
    refine ⟨i, ?_, rfl⟩
    rw [List.find?_range_eq_some]
    refine ⟨by simp [fcl], List.mem_range.2 hi, fun j hj => ?_⟩
    simp only [Function.comp, fcl, Bool.not_eq_true', beq_eq_false_iff_ne]
    intro e
    have := nm_inj (by omega) (by omega) e
    omega
  rw [this]; rfl
theorem fnd_fA : fnd (fCs F n) [65] = some (fcA n) := by
  unfold fnd fCs fTl
  rw [List.find?_append, show firsts.find? (fun c => c.name == [65]) = none from by decide, Option.none_or, List.find?_append]
  have : ((List.range n).map (fcl F)).find? (fun c => c.name == [65]) = none := by
    rw [List.find?_eq_none]
    intro c hc
    obtain ⟨i, -, rfl⟩ := List.mem_map.1 hc
    simp only [fcl, beq_iff_eq]
    exact nm_A i
  rw [this]
  rfl
theorem fnd_fo : fnd (fCs F n) objectName = some ⟨0, objectName, [], [], [], [initM]⟩ := first_fnd ⟨0, objectName, [], [], [], [initM]⟩ (by decide)
theorem f_mem {x : Cl} (h : x ∈ fTl F n) : (∃ i, i < n ∧ x = fcl F i) ∨ x = fcA n := by
  rcases List.mem_append.1 h with h | h
  · obtain ⟨i, hi, rfl⟩ := List.mem_map.1 h
    exact .inl ⟨i, List.mem_range.1 hi, rfl⟩
  · exact .inr (List.mem_singleton.1 h)
theorem f_ok (h : FOk F n) {c : Cl} (hc : c ∈ fTl F n) : okClB c = true := by
  rcases f_mem hc with ⟨i, hi, rfl⟩ | rfl
  · have := h.len hi
    unfold okClB fcl
    have h9 : (F i).length ≤ 1000 := by omega
    simp [nm, objectName, h9]
  · rfl
theorem f_okAll (h : FOk F n) : ∀ c ∈ fCs F n, okClB c = true := fun c hc => by
  rcases List.mem_append.1 hc with hc | hc
  · exact firsts_ok c hc
  · exact f_ok h hc
theorem f_noM : ∀ c ∈ fCs F n, ∀ m ∈ c.methods, m.flags = 0 := fun c hc => by
  rcases List.mem_append.1 hc with hc | hc
  · exact (by decide : ∀ c ∈ firsts, ∀ m ∈ c.methods, m.flags = 0) c hc
  · rcases f_mem hc with ⟨i, -, rfl⟩ | rfl
    · intro m hm; cases hm
    · intro m hm; cases hm
/-- Is a module of classes, each right, with names of their own, right? -/
theorem module_ok {l : List Cl} (hl : l.length ≤ 64) (hc : ∀ c ∈ l, classE [] c = zBd) (hn : (l.map (·.name)).Nodup) : (moduleE ⟨[], l⟩).err = 0 := by
  have hat : ∀ j (hj : j < l.length), l.getD j zCl = l[j] := fun j hj => by rw [List.getD_eq_getElem?_getD, List.getElem?_eq_getElem hj]; rfl
  rw [moduleE_ok (m := ⟨[], l⟩) (by show ¬ (poolE []).2 ≠ 0; decide) (by show ¬ 64 < l.length; omega)
    (firstN_none fun j hj => by
      show (classE [] (l.getD j zCl)).err = 0
      rw [hat j hj, hc _ (List.getElem_mem hj)])
    (firstN_none fun j hj => by
      rw [twiceE_at (m := ⟨[], l⟩) hj]
      rw [show (l.take j).any (fun x => x.name == l[j].name) = false from by
        rw [List.any_eq_false]
        intro x hx
        obtain ⟨k, hk, hxk⟩ := List.getElem_of_mem hx
        rw [List.length_take] at hk
        rw [List.getElem_take] at hxk
        subst hxk
        have hN := List.pairwise_iff_getElem.1 hn k j (by rw [List.length_map]; omega) (by rw [List.length_map]; omega) (by omega)
        rw [List.getElem_map, List.getElem_map] at hN
        simpa using hN]
      rfl)]
theorem faces_ok {c : Cl} (hn : ∀ s ∈ c.faces, nameB s = true) (hd : c.faces.Nodup) : firstN (faceE c) c.faces.length = none :=
  firstN_none fun j hj => by
    rw [faceE_twice hj (hn _ (List.getElem_mem hj))]
    rw [show (c.faces.take j).any (fun x => x == c.faces[j]) = false from by
      rw [List.any_eq_false]
      intro x hx
      obtain ⟨k, hk, hxk⟩ := List.getElem_of_mem hx
      rw [List.length_take] at hk
      rw [List.getElem_take] at hxk
      subst hxk
      have hN := List.pairwise_iff_getElem.1 hd k j (by omega) (by omega) (by omega)
      simpa using hN]
    rfl
theorem nodup_nm : ∀ {l : List Nat}, (∀ i ∈ l, i < 26) → l.Nodup → (l.map nm).Nodup
  | [], _, _ => by simp
  | a :: r, h1, h2 => by
    rw [List.nodup_cons] at h2
    rw [List.map_cons, List.nodup_cons]
    refine ⟨fun hm => ?_, nodup_nm (fun i hi => h1 i (List.mem_cons_of_mem _ hi)) h2.2⟩
    obtain ⟨i, hi, he⟩ := List.mem_map.1 hm
    have := nm_inj (h1 i (List.mem_cons_of_mem _ hi)) (h1 a (List.mem_cons_self ..)) he
    subst this
    exact h2.1 hi
theorem f_class (h : FOk F n) {c : Cl} (hc : c ∈ fTl F n) : classE [] c = zBd := by
  have hn9 := h.hi
  have hlo := h.lo
  rcases f_mem hc with ⟨i, hi, rfl⟩ | rfl
  · have hl := h.len hi
    have hhd : headE (fcl F i) = zBd := by
      rw [headE_rest (by simp [fcl]) (by simp [fcl, nm_name i (by omega), show nameB objectName = true from by decide]) (by simp [fcl]; omega) (by simp [fcl, objectName]) (by simp [fcl]),
        faces_ok (fun s hs => by
          obtain ⟨j, hj, rfl⟩ := List.mem_map.1 hs
          exact nm_name j (by have := h.lt i hi j hj; omega)) (nodup_nm (fun j hj => by have := h.lt i hi j hj; omega) (h.nd i hi))]
    rw [classE_methods (by rw [hhd]; simp) (by simp [fcl, fieldsE, firstN, zBd]), show methodsE [] (fcl F i) = zBd from rfl]
  · have hhd : headE (fcA n) = zBd := by
      rw [headE_rest (by simp [fcA]) (by simp [fcA, show nameB objectName = true from by decide, show nameB [65] = true from by decide]) (by simp [fcA]) (by simp [fcA]) (by simp [fcA]),
        faces_ok (fun s hs => by
          rw [List.mem_singleton.1 hs]
          exact nm_name _ (by omega)) (by simp [fcA])]
    rw [classE_methods (by rw [hhd]; simp) (by simp [fcA, fieldsE, firstN, zBd]), show methodsE [] (fcA n) = zBd from rfl]
theorem f_names (h : FOk F n) : ((fTl F n).map (·.name)).Nodup := by
  have hn9 := h.hi
  rw [List.map_append, List.map_map, show ((fun x : Cl => x.name) ∘ fcl F) = nm from rfl, List.nodup_append]
  refine ⟨nodup_nm (fun i hi => by have := List.mem_range.1 hi; omega) List.nodup_range, by simp, fun a ha b hb e => ?_⟩
  obtain ⟨i, -, rfl⟩ := List.mem_map.1 ha
  simp only [List.map_cons, List.map_nil, List.mem_singleton] at hb
  exact nm_A i (by rw [e, hb]; rfl)
theorem f_module (h : FOk F n) : (moduleE ⟨[], fTl F n⟩).err = 0 := by
  have := h.hi
  exact module_ok (by simp; omega) (fun c hc => f_class h hc) (f_names h)
theorem f_new {c : Cl} (hc : c ∈ fTl F n) : ∀ d ∈ firsts, d.name ≠ c.name := fun d hd e => by
  have := firsts_six d hd
  rw [e] at this
  rcases f_mem hc with ⟨i, -, rfl⟩ | rfl
  · simp [fcl, nm] at this
  · simp [fcA] at this

/-- Above is earlier. -/
def rkA (s : Bs) : Nat := if s = [65] then 400 else rkN s
theorem rkA_first : ∀ c ∈ firsts, ∀ t ∈ c.super :: c.faces, t ≠ [] → rkA t < rkA c.name := by decide
theorem rkA_nm {i : Nat} (hi : i < 26) : rkA (nm i) = 100 + i := by
  unfold rkA
  rw [if_neg (nm_A i)]
  show 3 + (UInt8.ofNat (97 + i)).toNat = _
  rw [UInt8.toNat_ofNat']
  omega
theorem f_free (h : FOk F n) (s : Bs) : ¬ Reach (fCs F n) s s := no_reach rkA (fun c hc t ht hne => by
  have hn9 := h.hi
  have hlo := h.lo
  have ho : rkA objectName = 0 := by decide
  rcases List.mem_append.1 hc with hc | hc
  · exact rkA_first c hc t ht hne
  · rcases f_mem hc with ⟨i, hi, rfl⟩ | rfl
    · show _ < rkA (nm i)
      rw [rkA_nm (by omega)]
      rcases List.mem_cons.1 ht with rfl | ht
      · show rkA objectName < _; omega
      · obtain ⟨j, hj, rfl⟩ := List.mem_map.1 ht
        have := h.lt i hi j hj
        rw [rkA_nm (by omega)]; omega
    · show _ < rkA [65]
      rw [show rkA [65] = 400 from by decide]
      rcases List.mem_cons.1 ht with rfl | ht
      · show rkA objectName < _; omega
      · rw [List.mem_singleton.1 ht, rkA_nm (by omega)]; omega) s
theorem f_chain (h : FOk F n) {i : Nat} (hi : i < n) : IsChain (fCs F n) (nm i) [nm i, objectName] :=
  .cons (nm_ne i) (fnd_f h hi) (by
    show IsChain (fCs F n) objectName [objectName]
    exact .cons (by decide) fnd_fo .nil)
theorem f_chainA : IsChain (fCs F n) [65] [[65], objectName] :=
  .cons (by decide) fnd_fA (by
    show IsChain (fCs F n) objectName [objectName]
    exact .cons (by decide) fnd_fo .nil)
theorem f_all (h : FOk F n) {es : List Ent} (g : WG es (fTl F n)) : ∀ i, i < 7 → ∀ x ∈ es.drop 8, RBg es (NBn es) i x = true := by
  intro i hi x hx
  have hn9 := h.hi
  have hlo := h.lo
  have hm := g.mem hx
  unfold RBg
  rw [g.cl]
  rcases (by omega : i = 0 ∨ i = 1 ∨ i = 2 ∨ i = 3 ∨ i = 4 ∨ i = 5 ∨ i = 6) with rfl | rfl | rfl | rfl | rfl | rfl | rfl
  · rw [if_pos rfl]
    unfold standsB
    rw [Bool.and_eq_true, List.all_eq_true]
    rcases f_mem hm with ⟨i, hi, e⟩ | e
    · rw [e]
      refine ⟨thereB_some.2 ⟨_, fnd_fo⟩, fun s hs => ?_⟩
      obtain ⟨j, hj, rfl⟩ := List.mem_map.1 hs
      have := h.lt i hi j hj
      exact thereB_some.2 ⟨_, fnd_f h (by omega)⟩
    · rw [e]
      refine ⟨thereB_some.2 ⟨_, fnd_fo⟩, fun s hs => ?_⟩
      rw [List.mem_singleton.1 hs]
      exact thereB_some.2 ⟨_, fnd_f h (by omega)⟩
  · rw [if_neg (by omega), if_pos rfl]
    unfold kindsB
    rw [Bool.and_eq_true, List.all_eq_true]
    rcases f_mem hm with ⟨i, hi, e⟩ | e
    · rw [e]
      refine ⟨by show classAtB _ objectName = true; unfold classAtB; rw [fnd_fo]; rfl, fun s hs => ?_⟩
      obtain ⟨j, hj, rfl⟩ := List.mem_map.1 hs
      have := h.lt i hi j hj
      unfold faceAtB
      rw [fnd_f h (by omega)]; rfl
    · rw [e]
      refine ⟨by show classAtB _ objectName = true; unfold classAtB; rw [fnd_fo]; rfl, fun s hs => ?_⟩
      rw [List.mem_singleton.1 hs]
      unfold faceAtB
      rw [fnd_f h (by omega)]; rfl
  · rw [if_neg (by omega), if_neg (by omega), if_pos rfl]
    simp only [decide_eq_true_eq]
    exact f_free h _
  · rw [if_neg (by omega), if_neg (by omega), if_neg (by omega), if_pos rfl, decide_eq_true_eq]
    rcases f_mem hm with ⟨i, hi, e⟩ | e
    · rw [e, show (fcl F i).name = nm i from rfl, (f_chain h hi).of]; simp
    · rw [e, show (fcA n).name = [65] from rfl, f_chainA.of]; simp
  · rw [if_neg (by omega), if_neg (by omega), if_neg (by omega), if_neg (by omega), if_pos rfl]
    show namedB0 (cls es) x.cl = true
    rcases f_mem hm with ⟨i, hi, e⟩ | e
    · rw [e]; rfl
    · rw [e]; rfl
  · rw [if_neg (by omega), if_neg (by omega), if_neg (by omega), if_neg (by omega), if_neg (by omega), if_pos rfl]
    exact flat_over f_noM (List.mem_append_right _ hm) _
  · rw [if_neg (by omega), if_neg (by omega), if_neg (by omega), if_neg (by omega), if_neg (by omega), if_neg (by omega)]
    exact flat_owes f_noM _ _ _
end

section
variable {cs : List Cl}
theorem Into.sup {out l o : List Bs} (h : Into cs out l o) : (∀ s ∈ out, s ∈ o) ∧ ∀ s ∈ l, s ∈ o := by
  induction h with
  | nil => exact ⟨fun s hs => hs, fun s hs => by cases hs⟩
  | seen hs _ ih =>
    refine ⟨ih.1, fun t ht => ?_⟩
    rcases List.mem_cons.1 ht with rfl | ht
    · exact ih.1 _ hs
    · exact ih.2 _ ht
  | new _ _ _ _ ih1 ih2 =>
    refine ⟨fun t ht => ih2.1 _ (ih1.1 _ (List.mem_append_left _ ht)), fun t ht => ?_⟩
    rcases List.mem_cons.1 ht with rfl | ht
    · exact ih2.1 _ (ih1.1 _ (List.mem_append_right _ (List.mem_singleton.2 rfl)))
    · exact ih2.2 _ ht
/-- What is put has its own interfaces behind it, but for those that are under way. -/
theorem Into.closed {out l o : List Bs} (h : Into cs out l o) : ∀ (P : Bs → Prop), (∀ s ∈ out, P s ∨ ∀ c, fnd cs s = some c → ∀ t ∈ c.faces, t ∈ out) → ∀ s ∈ o, P s ∨ ∀ c, fnd cs s = some c → ∀ t ∈ c.faces, t ∈ o := by
  induction h with
  | nil => exact fun P h => h
  | seen _ _ ih => exact ih
  | @new s c out o1 l o hn hf hi hr ih1 ih2 =>
    intro P hP
    have s1 := hi.sup
    have k1 := ih1 (fun t => P t ∨ t = s) (fun t ht => by
      rcases List.mem_append.1 ht with ht | ht
      · rcases hP t ht with h | h
        · exact .inl (.inl h)
        · exact .inr fun d hd u hu => List.mem_append_left _ (h d hd u hu)
      · exact .inl (.inr (List.mem_singleton.1 ht)))
    refine ih2 P (fun t ht => ?_)
    rcases k1 t ht with (h | h) | h
    · exact .inl h
    · subst h
      right
      intro d hd u hu
      rw [hf] at hd; cases hd
      exact s1.2 u hu
    · exact .inr h
theorem Into.only {out l o : List Bs} (h : Into cs out l o) (Q : Bs → Prop) (hQ : ∀ s, Q s → ∀ c, fnd cs s = some c → ∀ t ∈ c.faces, Q t) : (∀ s ∈ out, Q s) → (∀ s ∈ l, Q s) → ∀ s ∈ o, Q s := by
  induction h with
  | nil => exact fun h _ => h
  | seen _ _ ih => exact fun h1 h2 => ih h1 (fun t ht => h2 t (List.mem_cons_of_mem _ ht))
  | @new s c out o1 l o hn hf hi hr ih1 ih2 =>
    intro h1 h2
    have hs := h2 s (List.mem_cons_self ..)
    exact ih2 (ih1 (fun t ht => by
      rcases List.mem_append.1 ht with ht | ht
      · exact h1 t ht
      · rw [List.mem_singleton.1 ht]; exact hs) (fun t ht => hQ s hs c hf t ht)) (fun t ht => h2 t (List.mem_cons_of_mem _ ht))
end

/-- Which stand above which. -/
structure Rows (F : Nat → List Nat) (R : Nat → Nat → Bool) (n : Nat) : Prop where
  row : ∀ i, i < n → ∀ z, z < n → R i z = ((i == z) || (F i).any fun j => R j z)
section
variable {F : Nat → List Nat} {R : Nat → Nat → Bool} {n : Nat}
theorem Rows.self (h : Rows F R n) {i : Nat} (hi : i < n) : R i i = true := by rw [h.row i hi i hi]; simp
theorem Rows.step (h : FOk F n) (k : Rows F R n) : ∀ j, j < n → ∀ z, z < n → R j z = true → ∀ t ∈ F z, R j t = true := by
  intro j
  induction j using Nat.strongRecOn with
  | ind j ih =>
    intro hj z hz hr t ht
    have htz := h.lt z hz t ht
    rw [k.row j hj z hz, Bool.or_eq_true] at hr
    rw [k.row j hj t (by omega), Bool.or_eq_true]
    right
    rw [List.any_eq_true]
    rcases hr with hr | hr
    · have : j = z := by simpa using hr
      subst this
      exact ⟨t, ht, k.self (by omega)⟩
    · obtain ⟨u, hu, hr⟩ := List.any_eq_true.1 hr
      have huj := h.lt j hj u hu
      exact ⟨u, hu, ih u huj (by omega) z hz hr t ht⟩
theorem Rows.into (h : FOk F n) (k : Rows F R n) {l : List Nat} (hl : ∀ j ∈ l, j < n) {o : List Bs} (ho : Into (fCs F n) [] (l.map nm) o) {z : Nat} (hz : z < n) : (o.any fun s => s == nm z) = l.any fun j => R j z := by
  have hn9 := h.hi
  have hs := ho.sup
  have hc := ho.closed (fun _ => False) (fun s hs => by cases hs)
  have hq := ho.only (fun s => ∃ z, z < n ∧ s = nm z ∧ ∃ j ∈ l, R j z = true) (by
    rintro s ⟨z, hz, rfl, j, hj, hr⟩ c hcf t ht
    rw [fnd_f h hz] at hcf; cases hcf
    obtain ⟨u, hu, rfl⟩ := List.mem_map.1 ht
    have := h.lt z hz u hu
    exact ⟨u, by omega, rfl, j, hj, k.step h j (hl j hj) z hz hr u hu⟩) (fun s hs => by cases hs) (fun s hs => by
    obtain ⟨j, hj, rfl⟩ := List.mem_map.1 hs
    exact ⟨j, hl j hj, rfl, j, hj, k.self (hl j hj)⟩)
  have key : ∀ j, j < n → nm j ∈ o → ∀ z, z < n → R j z = true → nm z ∈ o := by
    intro j
    induction j using Nat.strongRecOn with
    | ind j ih =>
      intro hj hjo z hz hr
      rw [k.row j hj z hz, Bool.or_eq_true] at hr
      rcases hr with hr | hr
      · have : j = z := by simpa using hr
        subst this; exact hjo
      · obtain ⟨u, hu, hr⟩ := List.any_eq_true.1 hr
        have huj := h.lt j hj u hu
        refine ih u huj (by omega) ?_ z hz hr
        rcases hc (nm j) hjo with e | e
        · exact e.elim
        · exact e _ (fnd_f h hj) _ (List.mem_map_of_mem hu)
  rw [Bool.eq_iff_iff, List.any_eq_true, List.any_eq_true]
  constructor
  · rintro ⟨s, hso, hsz⟩
    have : s = nm z := by simpa using hsz
    subst this
    obtain ⟨z', hz', e, j, hj, hr⟩ := hq _ hso
    have := nm_inj (by omega) (by omega) e
    subst this
    exact ⟨j, hj, hr⟩
  · rintro ⟨j, hj, hr⟩
    exact ⟨nm z, key j (hl j hj) (hs.2 _ (List.mem_map_of_mem hj)) z hz hr, by simp⟩
/-- All that is walked are these interfaces. -/
theorem Rows.into_len (h : FOk F n) {l : List Nat} (hl : ∀ j ∈ l, j < n) {o : List Bs} (ho : Into (fCs F n) [] (l.map nm) o) : o.length ≤ n := by
  have hq := ho.only (fun s => ∃ z, z < n ∧ s = nm z) (by
    rintro s ⟨z, hz, rfl⟩ c hcf t ht
    rw [fnd_f h hz] at hcf; cases hcf
    obtain ⟨u, hu, rfl⟩ := List.mem_map.1 ht
    have := h.lt z hz u hu
    exact ⟨u, by omega, rfl⟩) (fun s hs => by cases hs) (fun s hs => by
    obtain ⟨j, hj, rfl⟩ := List.mem_map.1 hs
    exact ⟨j, hl j hj, rfl⟩)
  have := nodup_le (into_mem ho ⟨List.nodup_nil, fun s hs => by cases hs⟩).1 (m := (List.range n).map nm) (fun s hs => by
    obtain ⟨z, hz, rfl⟩ := hq s hs
    exact List.mem_map_of_mem (List.mem_range.2 hz))
  simpa using this
/-- What is walked of a chain of two, the second without interfaces. -/
theorem walks_two {cs : List Cl} {s t : Bs} {c d : Cl} {o : List Bs} (h : Walks cs [] [s, t] o) (hc : fnd cs s = some c) (hd : fnd cs t = some d) (hf : d.faces = []) : Into cs [] c.faces o := by
  obtain ⟨c', o1, h1, h2, h3⟩ := h.inv
  rw [hc] at h1; cases h1
  obtain ⟨d', o2, h4, h5, h6⟩ := h3.inv
  rw [hd] at h4; cases h4
  rw [hf] at h5
  cases h5
  rw [← h6.end_]
  exact h2
end

end Go.Proofs.YtgmmclcpfmnoiaaGreatDoor

namespace Go.Proofs.YtgmmclcpfmnoiaaGreatDoor
open Go.RowKit

section
variable {S O : Blocks} {w : World} {b mb : Nat} {nv : Value} {es : List Ent} {lk : Bool}
set_option maxHeartbeats 1600000 in
theorem facesE_c (h : HW S O w b mb nv es true) (x : Ent) (hx : x ∈ es) (hc : x.faces.length ≤ 1000) :
    Calls Tryz.prog 15 #[.pointer (some ⟨b, 0, none⟩), strV x.cl.name] w (Cloned 9 1 RStr S w x.faces) := by
  have hat := (atf_mem h.uniq hx).1
  have HO := Lib.hid (of_c h x.cl.name (h.short x hx).name)
  rw [hat] at HO
  obtain ⟨f, g, m, p, c, q, ⟨-, -, -, -, -, -, -, -, e8⟩, -, -, -, -, -, q6⟩ := h.cells hx
  have Q := Lib.hid (And.intro q6 h.s_lt)
  obtain ⟨ca, cc, rfl, -, -⟩ := q6.form
  clear q6 hat h
  go_enter Tryz.func15, Tryz.ntmps15
  go_wp2_with fail
  refine HO.out.mono ?_
  rintro e w1 ⟨rfl, rfl⟩
  have kp : ptrV (some x.at_) = .pointer (some ⟨x.at_, 0, none⟩) := rfl
  rw [kp]
  go_wp2_with fail
  refine (clone_str S _ _ x.faces Q.out.1 Q.out.2 (by omega)).mono ?_
  rintro e w1 ⟨v, rfl, ho, d, hv⟩
  go_wp2
  go_ret
  exact ⟨v, rfl, ho, d, hv⟩
end

end Go.Proofs.YtgmmclcpfmnoiaaGreatDoor

namespace Go.Proofs.YtgmmclcpfmnoiaaGreatDoor
open Go.RowKit

abbrev rowC (n : Nat) (f : Nat → Bool) : Array Value := ((List.range n).map fun z => Value.bool (f z)).toArray
abbrev upC (n k : Nat) (r : Nat → Nat) : Array Value := ((List.range n).map fun j => if j < k then Value.slice (some ⟨r j, 0, none⟩) n n else zNil).toArray
def upd {α : Type} (f : Nat → α) (k : Nat) (a : α) : Nat → α := fun x => if x = k then a else f x
theorem upd_at {α : Type} (f : Nat → α) (k : Nat) (a : α) : upd f k a k = a := by simp [upd]
theorem upd_ne {α : Type} (f : Nat → α) (k : Nat) (a : α) {x : Nat} (h : x ≠ k) : upd f k a x = f x := by simp [upd, h]
theorem rangeC_at (n : Nat) (g : Nat → Value) {z : Nat} (hz : z < n) : ((List.range n).map g).toArray[z]? = some (g z) := by
  rw [List.getElem?_toArray, List.getElem?_map, List.getElem?_range hz]; rfl
theorem rangeC_set (n : Nat) (g h : Nat → Value) {z : Nat} {v : Value} (hv : h z = v) (ho : ∀ y, y ≠ z → h y = g y) : ((List.range n).map g).toArray.setIfInBounds z v = ((List.range n).map h).toArray := by
  apply Array.ext_getElem?
  intro i
  rw [Array.getElem?_setIfInBounds]
  simp only [List.getElem?_toArray, List.getElem?_map, List.size_toArray, List.length_map, List.length_range]
  by_cases hi : i < n
  · rw [List.getElem?_range hi]
    by_cases he : z = i
    · subst he; rw [if_pos rfl, if_pos hi, ← hv]; rfl
    · rw [if_neg he]; simp only [Option.map_some]; rw [ho i (fun e => he e.symm)]
  · rw [List.getElem?_eq_none (by rw [List.length_range]; omega)]
    by_cases he : z = i
    · subst he; rw [if_pos rfl, if_neg hi]; rfl
    · rw [if_neg he]; rfl
theorem made_one (v : Value) (n : Nat) : madeCells #[v] n = ((List.range n).map fun _ => v).toArray := by
  apply Array.ext_getElem?
  intro i
  unfold madeCells
  by_cases hi : i < n
  · simp [hi, Nat.mod_one]
  · simp [hi]
theorem info_bool : (Tryz.prog.info? 4).map (fun i => (i.zero, i.size, i.bytes)) = some (some (.bool false), 1, 1) := by kernel_rfl
theorem info_bools : (Tryz.prog.info? 56).map (fun i => (i.zero, i.size, i.bytes)) = some (some zNil, 1, 24) := by kernel_rfl
theorem mk_row (n : Nat) (hn : n ≤ 1000) (W : World) : (Instr.makeSlice 56 (.int .i64 n) (.int .i64 n)).run Tryz.prog W = .ok (.slice (some ⟨W.heap.size, 0, none⟩) n n) (W.alloc (.cells (rowC n fun _ => false) 4)) := by
  obtain ⟨i0, hi, hz0, hz1, hz2⟩ := info_parts info_bool
  have := run_make (P := Tryz.prog) W 56 4 i0 _ Tryz.underlying56 hi hz0 .i64 .i64 n n (by omega) (Int.le_refl _) (by rw [hz2]; omega) (by omega)
  rw [Int.toNat_natCast, hz1, Nat.mul_one] at this
  rw [this, show (Value.bool false).cells = #[.bool false] from rfl, made_one]
theorem mk_up (n : Nat) (hn : n ≤ 1000) (r : Nat → Nat) (W : World) : (Instr.makeSlice 54 (.int .i64 n) (.int .i64 n)).run Tryz.prog W = .ok (.slice (some ⟨W.heap.size, 0, none⟩) n n) (W.alloc (.cells (upC n 0 r) 56)) := by
  obtain ⟨i0, hi, hz0, hz1, hz2⟩ := info_parts info_bools
  have := run_make (P := Tryz.prog) W 54 56 i0 _ Tryz.underlying54 hi hz0 .i64 .i64 n n (by omega) (Int.le_refl _) (by rw [hz2]; omega) (by omega)
  rw [Int.toNat_natCast, hz1, Nat.mul_one] at this
  rw [this, show zNil.cells = #[zNil] from rfl, made_one]
  rfl

/-- What holds ahead of a round of the first loop. -/
structure FI (w : World) (M U n k : Nat) (F : Nat → List Nat) (R : Nat → Nat → Bool) (r : Nat → Nat) (wr : World) (v : Value) (T : Blocks) : Prop where
  chg : Chg No w wr
  box : wr.heap[M]? = some (.cells #[zNil, v] 47 (0, 0))
  own : OQ 37 6 RCl T wr v ((List.range k).map (fcl F))
  tin : ∀ j, T j → U < j ∧ j < wr.heap.size
  tout : ∀ j, T j → v.ownBlock ≠ some j
  new : ∀ j, v.ownBlock = some j → U < j
  up : wr.heap[U]? = some (.cells (upC n k r) 56 (0, 0))
  rows : ∀ j, j < k → wr.heap[r j]? = some (.cells (rowC n (R j)) 4 (0, 0))
  rin : ∀ j, j < k → U < r j ∧ ¬ T (r j) ∧ v.ownBlock ≠ some (r j)
  lt : ∀ i, i < k → ∀ j ∈ F i, j < i
  nd : ∀ i, i < k → (F i).Nodup
  row : ∀ i, i < k → ∀ z, z < n → R i z = ((i == z) || (F i).any fun j => R j z)
section
variable {w wr wc wk w5 : World} {M U n k i C ri : Nat} {F : Nat → List Nat} {R : Nat → Nat → Bool} {r : Nat → Nat} {v v' fv : Value} {T T' : Blocks} {Fi : List Nat} {Ri : Nat → Bool}
theorem FI.step (h : FI w M U n k F R r wr v T) (hM : w.heap.size ≤ M) (hMU : M < U) (D : Chg (· = U) wr wc) (hup : wc.heap[U]? = some (.cells (upC n (k + 1) (upd r k ri)) 56 (0, 0))) (hrow : wc.heap[ri]? = some (.cells (rowC n Ri) 4 (0, 0))) (hri : wr.heap.size ≤ ri)
    (hT : ∀ j, T' j → T j ∨ (wr.heap.size ≤ j ∧ j < wc.heap.size ∧ j ≠ ri)) (flt : ∀ j ∈ Fi, j < k) (fnd : Fi.Nodup) (frow : ∀ z, z < n → Ri z = ((k == z) || Fi.any fun j => R j z)) {o : Obj}
    (g1 : OQ 37 6 RCl T' w5 v' ((List.range k).map (fcl F) ++ [⟨1, nm k, objectName, Fi.map nm, [], []⟩])) (g2 : Chg (fun j => some j = v.ownBlock) (wc.alloc o) w5) (g3 : v'.ownBlock = v.ownBlock ∨ ∃ b, v'.ownBlock = some b ∧ (wc.alloc o).heap.size ≤ b) :
    (w5.frozen? ⟨M, 1, none⟩ = false ∧ w5.cell? ⟨M, 1, none⟩ = some v) ∧ FI w M U n (k + 1) (upd F k Fi) (upd R k Ri) (upd r k ri) (w5.setCell ⟨M, 1, none⟩ v') v' T' := by
  have hMl := heap_lt h.box
  have hUl := heap_lt h.up
  have hsz := D.size
  have hz5 := g2.size
  rw [size_al1] at hz5
  have hrl := heap_lt hrow
  have hown : ∀ j, v.ownBlock = some j → j < wr.heap.size := h.own.lt
  have keep : ∀ {q : Nat} {o' : Obj}, wc.heap[q]? = some o' → v.ownBlock ≠ some q → w5.heap[q]? = some o' := fun {q o'} hq hne =>
    (g2.block q (by rw [size_al1]; have := heap_lt hq; omega) (fun e => hne e.symm)).trans (alloc_blk hq)
  have hbox5 : w5.heap[M]? = some (.cells #[zNil, v] 47 (0, 0)) := keep ((D.block M hMl (by omega)).trans h.box) (fun e => by have := h.new M e; omega)
  have hup5 := keep hup (fun e => by have := h.new U e; omega)
  have hrow5 := keep hrow (fun e => by have := hown ri e; omega)
  have hr5 : ∀ j, j < k → w5.heap[r j]? = some (.cells (rowC n (R j)) 4 (0, 0)) := fun j hj => keep ((D.block _ (heap_lt (h.rows j hj)) (by have := (h.rin j hj).1; omega)).trans (h.rows j hj)) (h.rin j hj).2.2
  have c := chg_setCell w5 M 1 v'
  have hnew : ∀ j, v'.ownBlock = some j → U < j ∧ (j = ri → False) ∧ ∀ q, q < k → j ≠ r q := fun j hj => by
    rcases g3 with e | ⟨b, e, hb⟩
    · rw [e] at hj
      exact ⟨h.new j hj, fun e' => by have := hown j hj; omega, fun q hq e' => (h.rin q hq).2.2 (by rw [← e']; exact hj)⟩
    · rw [e] at hj; cases hj
      rw [size_al1] at hb
      exact ⟨by omega, fun e' => by omega, fun q hq e' => by have := heap_lt (h.rows q hq); omega⟩
  have hTU : ∀ j, T' j → U < j := fun j hj => by
    rcases hT j hj with h1 | h1
    · exact (h.tin j h1).1
    · omega
  have hC : Chg No w w5 := (((h.chg.trans D (fun j hj e => by omega)).alloc o).trans g2 (fun j hj e => by have := h.new j e.symm; omega))
  have hlow : ∀ i, i < k → ∀ j ∈ F i, j ≠ k := fun i hi j hj => by have := h.lt i hi j hj; omega
  refine ⟨⟨blk_frozen hbox5 1, blk_cell hbox5 rfl⟩, hC.set_new hM _ _, setCell_at (o := 1) hbox5 v', ?_, fun j hj => ⟨hTU j hj, ?_⟩, fun j hj e => ?_, fun j hj => (hnew j hj).1, (c.block U (heap_lt hup5) (by omega)).trans hup5, fun j hj => ?_, fun j hj => ?_, fun i hi j hj => ?_, fun i hi => ?_, fun i hi z hz => ?_⟩
  · rw [show (List.range (k + 1)).map (fcl (upd F k Fi)) = (List.range k).map (fcl F) ++ [⟨1, nm k, objectName, Fi.map nm, [], []⟩] from by
      rw [List.range_succ, List.map_append]
      congr 1
      · refine List.map_congr_left fun i hi => ?_
        have := List.mem_range.1 hi
        unfold fcl
        rw [upd_ne _ _ _ (by omega)]
      · simp only [List.map_cons, List.map_nil, fcl, upd_at]]
    exact g1.keep goodCl c (fun j hj e => by have := (hnew j hj).1; omega) (fun j hj e => by have := hTU j hj; omega)
  · have : j < wc.heap.size := by
      rcases hT j hj with h1 | h1
      · have := (h.tin j h1).2; omega
      · exact h1.2.1
    rw [size_setC]; omega
  · rcases g3 with e3 | ⟨b, e3, hb⟩
    · rw [e3] at e
      rcases hT j hj with h1 | h1
      · exact h.tout j h1 e
      · have := hown j e; omega
    · rw [e3] at e; cases e
      rw [size_al1] at hb
      rcases hT j hj with h1 | h1
      · have := (h.tin j h1).2; omega
      · omega
  · by_cases hk : j = k
    · subst hk
      rw [upd_at, upd_at]
      exact (c.block _ (heap_lt hrow5) (by omega)).trans hrow5
    · rw [upd_ne _ _ _ hk, upd_ne _ _ _ hk]
      have := (h.rin j (by omega)).1
      exact (c.block _ (heap_lt (hr5 j (by omega))) (by omega)).trans (hr5 j (by omega))
  · by_cases hk : j = k
    · subst hk
      rw [upd_at]
      refine ⟨by omega, fun ht => ?_, fun e => (hnew _ e).2.1 rfl⟩
      rcases hT _ ht with h1 | h1
      · have := (h.tin _ h1).2; omega
      · exact h1.2.2 rfl
    · rw [upd_ne _ _ _ hk]
      have hr := h.rin j (by omega)
      refine ⟨hr.1, fun ht => ?_, fun e => (hnew _ e).2.2 j (by omega) rfl⟩
      rcases hT _ ht with h1 | h1
      · exact hr.2.1 h1
      · have := heap_lt (h.rows j (by omega)); omega
  · by_cases hk : i = k
    · subst hk; rw [upd_at] at hj; exact flt j hj
    · rw [upd_ne _ _ _ hk] at hj; exact h.lt i (by omega) j hj
  · by_cases hk : i = k
    · subst hk; rw [upd_at]; exact fnd
    · rw [upd_ne _ _ _ hk]; exact h.nd i (by omega)
  · have hany : ∀ l : List Nat, (∀ j ∈ l, j ≠ k) → (l.any fun j => upd R k Ri j z) = l.any fun j => R j z := fun l hl => by
      rw [Bool.eq_iff_iff, List.any_eq_true, List.any_eq_true]
      constructor
      · rintro ⟨j, hj, e⟩; rw [upd_ne _ _ _ (hl j hj)] at e; exact ⟨j, hj, e⟩
      · rintro ⟨j, hj, e⟩; exact ⟨j, hj, by rw [upd_ne _ _ _ (hl j hj)]; exact e⟩
    by_cases hk : i = k
    · subst hk
      rw [upd_at, upd_at, hany _ (fun j hj => by have := flt j hj; omega)]
      exact frow z hz
    · rw [upd_ne _ _ _ hk, upd_ne _ _ _ hk, hany _ (hlow i (by omega))]
      exact h.row i (by omega) z hz

/-- What holds while one interface is made. -/
structure BI (wr : World) (U n i C ri : Nat) (r : Nat → Nat) (Fi : List Nat) (Ri : Nat → Bool) (wk : World) (fv : Value) : Prop where
  chg : Chg (· = U) wr wk
  up : wk.heap[U]? = some (.cells (upC n (i + 1) (upd r i ri)) 56 (0, 0))
  row : wk.heap[ri]? = some (.cells (rowC n Ri) 4 (0, 0))
  box : wk.heap[C]? = some (.cells #[.int .i64 1, strV (nm i), strV objectName, fv, zNil, zNil] 37 (0, 0))
  fo : OQ 9 1 RStr No wk fv (Fi.map nm)
  fnew : ∀ q, fv.ownBlock = some q → wr.heap.size ≤ q ∧ q ≠ ri ∧ q ≠ C
  ne : ri ≠ C ∧ wr.heap.size ≤ ri ∧ wr.heap.size ≤ C
theorem BI.new {w1 : World} (h : BI wr U n i C ri r Fi Ri wk fv) (d : Chg No wk w1) : BI wr U n i C ri r Fi Ri w1 fv :=
  ⟨h.chg.trans d (fun _ _ h => h.elim), d.blk h.up, d.blk h.row, d.blk h.box, h.fo.new goodStr d, h.fnew, h.ne⟩
theorem BI.put (h : BI wr U n i C ri r Fi Ri wk fv) (hU : U < wr.heap.size) {z : Nat} (hz : z < n) (b : Bool) : (wk.frozen? ⟨ri, z, none⟩ = false ∧ wk.cell? ⟨ri, z, none⟩ = some (.bool (Ri z))) ∧ BI wr U n i C ri r Fi (upd Ri z b) (wk.setCell ⟨ri, z, none⟩ (.bool b)) fv := by
  have c := chg_setCell wk ri z (.bool b)
  have hne := h.ne
  refine ⟨⟨blk_frozen h.row z, blk_cell h.row (rangeC_at n _ hz)⟩, h.chg.trans c (fun q hq e => by omega), (c.block U (heap_lt h.up) (by omega)).trans h.up, ?_, (c.block C (heap_lt h.box) (fun e => hne.1 e.symm)).trans h.box, h.fo.keep goodStr c (fun q hq e => (h.fnew q hq).2.1 e) (fun _ h => h.elim), h.fnew, hne⟩
  rw [setCell_at (o := z) h.row, rangeC_set n _ (fun y => Value.bool (upd Ri z b y)) (by rw [upd_at]) (fun y hy => by rw [upd_ne _ _ _ hy])]
theorem BI.app (h : BI wr U n i C ri r Fi Ri wk fv) (hU : U < wr.heap.size) (d : Chg No wk wc) {j : Nat} (g1 : OQ 9 1 RStr No w5 v' (Fi.map nm ++ [nm j])) (g2 : Chg (fun q => some q = fv.ownBlock) wc w5) (g3 : v'.ownBlock = fv.ownBlock ∨ ∃ b, v'.ownBlock = some b ∧ wc.heap.size ≤ b) :
    (w5.frozen? ⟨C, 3, none⟩ = false ∧ w5.cell? ⟨C, 3, none⟩ = some fv) ∧ BI wr U n i C ri r (Fi ++ [j]) Ri (w5.setCell ⟨C, 3, none⟩ v') v' := by
  have hne := h.ne
  have hsz := d.size
  have hcs := h.chg.size
  have keep : ∀ {q : Nat} {o' : Obj}, wk.heap[q]? = some o' → fv.ownBlock ≠ some q → w5.heap[q]? = some o' := fun {q o'} hq hn =>
    (g2.block q (by have := heap_lt hq; omega) (fun e => hn e.symm)).trans (d.blk hq)
  have hbox5 := keep h.box (fun e => (h.fnew C e).2.2 rfl)
  have hrow5 := keep h.row (fun e => (h.fnew ri e).2.1 rfl)
  have hup5 := keep h.up (fun e => by have := (h.fnew U e).1; omega)
  have c := chg_setCell w5 C 3 v'
  have hnew : ∀ q, v'.ownBlock = some q → wr.heap.size ≤ q ∧ q ≠ ri ∧ q ≠ C := fun q hq => by
    rcases g3 with e | ⟨b, e, hb⟩
    · rw [e] at hq; exact h.fnew q hq
    · rw [e] at hq; cases hq
      have := heap_lt h.row
      have := heap_lt h.box
      exact ⟨by omega, by omega, by omega⟩
  refine ⟨⟨blk_frozen hbox5 3, blk_cell hbox5 rfl⟩, ((h.chg.trans d (fun _ _ h => h.elim)).trans g2 (fun q hq e => by have := (h.fnew q e.symm).1; omega)).trans c (fun q hq e => by omega), (c.block U (heap_lt hup5) (by omega)).trans hup5, (c.block ri (heap_lt hrow5) (fun e => hne.1 e)).trans hrow5, ?_, ?_, hnew, hne⟩
  · rw [setCell_at (o := 3) hbox5]; rfl
  · rw [List.map_append]
    exact g1.keep goodStr c (fun q hq e => (hnew q hq).2.2 e) (fun _ h => h.elim)
end

/-- What holds when the module is made. -/
structure GI (w : World) (M U n : Nat) (F : Nat → List Nat) (R : Nat → Nat → Bool) (r : Nat → Nat) (wg : World) (v : Value) : Prop where
  chg : Chg No w wg
  box : wg.heap[M]? = some (.cells #[zNil, v] 47 (0, 0))
  sq : SQ 6 RCl (fun j => j < wg.heap.size) wg v (fTl F n)
  up : wg.heap[U]? = some (.cells (upC n n r) 56 (0, 0))
  rows : ∀ j, j < n → wg.heap[r j]? = some (.cells (rowC n (R j)) 4 (0, 0))
theorem FI.last {w wr wc w5 : World} {M U n : Nat} {F : Nat → List Nat} {R : Nat → Nat → Bool} {r : Nat → Nat} {v v' : Value} {T T' : Blocks} (h : FI w M U n n F R r wr v T) (hM : w.heap.size ≤ M) (hMU : M < U) (D : Chg No wr wc)
    (hT : ∀ j, T' j → T j ∨ (wr.heap.size ≤ j ∧ j < wc.heap.size))
    (g1 : OQ 37 6 RCl T' w5 v' ((List.range n).map (fcl F) ++ [fcA n])) (g2 : Chg (fun j => some j = v.ownBlock) wc w5) (g3 : v'.ownBlock = v.ownBlock ∨ ∃ b, v'.ownBlock = some b ∧ wc.heap.size ≤ b) :
    (w5.frozen? ⟨M, 1, none⟩ = false ∧ w5.cell? ⟨M, 1, none⟩ = some v) ∧ GI w M U n F R r (w5.setCell ⟨M, 1, none⟩ v') v' := by
  have hMl := heap_lt h.box
  have hsz := D.size
  have hz5 := g2.size
  have hown : ∀ j, v.ownBlock = some j → j < wr.heap.size := h.own.lt
  have keep : ∀ {q : Nat} {o' : Obj}, wr.heap[q]? = some o' → v.ownBlock ≠ some q → w5.heap[q]? = some o' := fun {q o'} hq hne =>
    (g2.block q (by have := heap_lt hq; omega) (fun e => hne e.symm)).trans (D.blk hq)
  have hbox5 := keep h.box (fun e => by have := h.new M e; omega)
  have hup5 := keep h.up (fun e => by have := h.new U e; omega)
  have hr5 : ∀ j, j < n → w5.heap[r j]? = some (.cells (rowC n (R j)) 4 (0, 0)) := fun j hj => keep (h.rows j hj) (h.rin j hj).2.2
  have c := chg_setCell w5 M 1 v'
  have hnew : ∀ j, v'.ownBlock = some j → U < j := fun j hj => by
    rcases g3 with e | ⟨b, e, hb⟩
    · rw [e] at hj; exact h.new j hj
    · rw [e] at hj; cases hj
      have := heap_lt h.up; omega
  have hTU : ∀ j, T' j → U < j ∧ j < w5.heap.size := fun j hj => by
    rcases hT j hj with h1 | h1
    · have := h.tin j h1; exact ⟨this.1, by omega⟩
    · have := heap_lt h.up; exact ⟨by omega, by omega⟩
  refine ⟨⟨blk_frozen hbox5 1, blk_cell hbox5 rfl⟩, ((h.chg.trans D (fun _ _ h => h)).trans g2 (fun j hj e => by have := h.new j e.symm; omega)).set_new hM _ _, setCell_at (o := 1) hbox5 v', ?_, (c.block U (heap_lt hup5) (by omega)).trans hup5, fun j hj => (c.block _ (heap_lt (hr5 j hj)) (by have := (h.rin j hj).1; omega)).trans (hr5 j hj)⟩
  have g4 := g1.keep goodCl c (fun j hj e => by have := hnew j hj; omega) (fun j hj e => by have := (hTU j hj).1; omega)
  exact g4.sq goodCl (fun j hj => by rw [size_setC]; exact g1.lt j hj) (fun j hj => by rw [size_setC]; exact (hTU j hj).2)

abbrev fcAc (_n q : Nat) : List Value := [.int .i64 0, .string ⟨#[65]⟩, .string ⟨#[79, 98, 106, 101, 99, 116]⟩, .slice (some ⟨q, 0, none⟩) 1 1, zNil, zNil]
/-- The last class's cells, just laid behind its interface's name. -/
theorem FI.lastly {w wr y1 : World} {M U n : Nat} {F : Nat → List Nat} {R : Nat → Nat → Bool} {r : Nat → Nat} {g : Option Addr} {cap : Nat} {T : Blocks} (h : FI w M U n n F R r wr (.slice g n cap) T) (d : Chg No wr y1) :
    OQ 37 6 RCl (fun q => T q ∨ q = y1.heap.size) ((y1.alloc (.cells #[strV (nm (n - 1))] 9)).alloc (.cells (fcAc n y1.heap.size).toArray 37)) (.slice g n cap) ((List.range n).map (fcl F)) ∧
    (∀ q, (T q ∨ q = y1.heap.size) → (Value.slice g n cap).ownBlock ≠ some q) ∧
    RCl (fun q => T q ∨ q = y1.heap.size) ((y1.alloc (.cells #[strV (nm (n - 1))] 9)).alloc (.cells (fcAc n y1.heap.size).toArray 37)) (fcA n) (fcAc n y1.heap.size) ∧
    ((y1.alloc (.cells #[strV (nm (n - 1))] 9)).alloc (.cells (fcAc n y1.heap.size).toArray 37)).heap[y1.heap.size + 1]? = some (.cells (fcAc n y1.heap.size).toArray 37 (0, 0)) ∧
    ∀ q, (T q ∨ q = y1.heap.size) → T q ∨ (wr.heap.size ≤ q ∧ q < ((y1.alloc (.cells #[strV (nm (n - 1))] 9)).alloc (.cells (fcAc n y1.heap.size).toArray 37)).heap.size) := by
  have hs := d.size
  refine ⟨(h.own.mono goodCl (fun q hq => .inl hq)).new goodCl ((d.alloc _).alloc _), fun q hq e => ?_, ⟨_, zNil, zNil, rfl, ?_, SQ.nil, SQ.nil⟩, alloc_at _ _ (by rw [size_al1]), fun q hq => ?_⟩
  · rcases hq with hq | hq
    · exact h.tout q hq e
    · have := h.own.lt q e; omega
  · exact sq_lit (T := 9) [nm (n - 1)] [[strV (nm (n - 1))]] (alloc_blk (heap_alloc_new y1 _)) (Els.single rfl rfl) (.inr rfl)
  · rcases hq with hq | hq
    · exact .inl hq
    · exact .inr ⟨by omega, by rw [size_al1, size_al1]; omega⟩

end Go.Proofs.YtgmmclcpfmnoiaaGreatDoor

namespace Go.Proofs.YtgmmclcpfmnoiaaGreatDoor
open Go.RowKit

section
variable {F : Nat → List Nat} {R : Nat → Nat → Bool} {n : Nat} {es : List Ent}
theorem f_ent (h : FOk F n) (hu : (es.map fun x => x.cl.name).Nodup) (g : WG es (fTl F n)) {s : Bs} {c : Cl} (hs : fnd (fCs F n) s = some c) :
    ∃ x ∈ es.map (linkE es), (es.map (linkE es)).find? (fun x => x.cl.name == s) = some x ∧ x.cl = c ∧ x.cl.name = s ∧ x.chain = chainOf (fCs F n) s ∧ x.faces = walkOf (fCs F n) s ∧ IsChain (fCs F n) s (chainOf (fCs F n) s) ∧ Walks (fCs F n) [] (chainOf (fCs F n) s) (walkOf (fCs F n) s) := by
  have hcl3 : cls (es.map (linkE es)) = fCs F n := by rw [cls_link]; exact g.cl
  obtain ⟨x, h1, h2, h3, h4, -⟩ := find_at (es := es.map (linkE es)) (s := s) (c := c) (by rw [hcl3]; exact hs)
  obtain ⟨y, hy, rfl⟩ := List.mem_map.1 h2
  have hyn : y.cl.name = s := h4
  have hall := f_all h g
  have hsnd := g.sound (hall 0 (by omega)) (hall 2 (by omega))
  obtain ⟨k1, k2, -⟩ := g.cw hu hsnd hy
  rw [g.cl, hyn] at k1 k2
  refine ⟨linkE es y, h2, h1, h3, h4, ?_, ?_, k1, k2⟩
  · show chainOf (cls es) y.cl.name = _; rw [g.cl, hyn]
  · show walkOf (cls es) y.cl.name = _; rw [g.cl, hyn]
theorem f_right (h : FOk F n) {i : Nat} (hi : i < n) : rightT (fCs F n) ⟨0, nm i⟩ = true := by
  have := h.hi
  unfold rightT tyErr
  rw [if_neg (by simp), if_neg (by simp [nm_name i (by omega)]), fnd_f h hi]
  simp
theorem f_rightA : rightT (fCs F n) ⟨0, [65]⟩ = true := by
  unfold rightT tyErr
  rw [if_neg (by simp), if_neg (by simp [show nameB [65] = true from by decide]), fnd_fA]
  simp
theorem nm_obj (i : Nat) : nm i ≠ objectName := by simp [nm, objectName]
theorem f_sub (h : FOk F n) (k : Rows F R n) (hu : (es.map fun x => x.cl.name).Nodup) (g : WG es (fTl F n)) {i z : Nat} (hi : i < n) (hz : z < n) : subB (es.map (linkE es)) ⟨0, nm i⟩ ⟨0, nm z⟩ = R i z := by
  have hcl3 : cls (es.map (linkE es)) = fCs F n := by rw [cls_link]; exact g.cl
  have hn9 := h.hi
  unfold subB
  rw [hcl3, if_neg (by rw [f_right h hi, f_right h hz]; simp)]
  by_cases hiz : i = z
  · subst hiz; rw [if_pos rfl, k.self hi]
  · have hne : nm i ≠ nm z := fun e => hiz (nm_inj (by omega) (by omega) e)
    rw [if_neg (by simpa using hne), if_neg (by simp [nm]), if_neg (by simpa using nm_obj z), if_neg (by simp)]
    obtain ⟨x, hx, hfx, -, -, h6, h7, h8, h9⟩ := f_ent h hu g (fnd_f h hi)
    rw [hfx]
    simp only
    rw [h6, h7, (f_chain h hi).of]
    rw [(f_chain h hi).of] at h9
    have hw := walks_two h9 (fnd_f h hi) fnd_fo rfl
    rw [k.into h (fun j hj => by have := h.lt i hi j hj; omega) hw hz, k.row i hi z hz]
    have e1 : (nm i == nm z) = false := by simpa using hne
    have e2 : (objectName == nm z) = false := by simpa using fun e => nm_obj z e.symm
    have e3 : (i == z) = false := by simpa using hiz
    simp only [List.any_cons, List.any_nil, e1, e2, e3, Bool.or_false, Bool.false_or]
theorem f_subA (h : FOk F n) (k : Rows F R n) (hu : (es.map fun x => x.cl.name).Nodup) (g : WG es (fTl F n)) {z : Nat} (hz : z < n) : subB (es.map (linkE es)) ⟨0, [65]⟩ ⟨0, nm z⟩ = R (n - 1) z := by
  have hcl3 : cls (es.map (linkE es)) = fCs F n := by rw [cls_link]; exact g.cl
  have hn9 := h.hi
  have hlo := h.lo
  unfold subB
  rw [hcl3, if_neg (by rw [f_rightA, f_right h hz]; simp)]
  rw [if_neg (by simpa using fun e => nm_A z e.symm), if_neg (by simp [nm]), if_neg (by simpa using nm_obj z), if_neg (by simp)]
  obtain ⟨x, hx, hfx, -, -, h6, h7, h8, h9⟩ := f_ent h hu g fnd_fA
  rw [hfx]
  simp only
  rw [h6, h7, f_chainA.of]
  rw [f_chainA.of] at h9
  have hw := walks_two h9 fnd_fA fnd_fo rfl
  rw [k.into h (l := [n - 1]) (fun j hj => by rw [List.mem_singleton.1 hj]; omega) hw hz]
  have e1 : (([65] : Bs) == nm z) = false := by simpa using fun e => nm_A z e.symm
  have e2 : (objectName == nm z) = false := by simpa using fun e => nm_obj z e.symm
  simp only [List.any_cons, List.any_nil, e1, e2, Bool.or_false, Bool.false_or]
/-- How many interfaces the class has; that its chain is short. -/
theorem f_lenA (h : FOk F n) (hu : (es.map fun x => x.cl.name).Nodup) (g : WG es (fTl F n)) : ∃ x ∈ es.map (linkE es), x.cl.name = [65] ∧ x.faces.length ≤ n := by
  have hlo := h.lo
  obtain ⟨x, hx, -, -, h5, -, h7, -, h9⟩ := f_ent h hu g fnd_fA
  rw [f_chainA.of] at h9
  have hw := walks_two h9 fnd_fA fnd_fo rfl
  refine ⟨x, hx, h5, ?_⟩
  rw [h7]
  exact Rows.into_len h (l := [n - 1]) (fun j hj => by rw [List.mem_singleton.1 hj]; omega) hw
theorem f_above (h : FOk F n) (hu : (es.map fun x => x.cl.name).Nodup) (g : WG es (fTl F n)) {i : Nat} (hi : i < n) : ∃ x ∈ es.map (linkE es), x.cl.name = nm i ∧ x.chain.length ≤ 1000 ∧ ∀ z, z < n → (x.chain.any fun s => s == nm z) = decide (i = z) := by
  have hn9 := h.hi
  obtain ⟨x, hx, -, -, h5, h6, -, -, -⟩ := f_ent h hu g (fnd_f h hi)
  rw [(f_chain h hi).of] at h6
  refine ⟨x, hx, h5, by rw [h6]; simp, fun z hz => ?_⟩
  rw [h6]
  have e2 : (objectName == nm z) = false := by simpa using fun e => nm_obj z e.symm
  simp only [List.any_cons, List.any_nil, e2, Bool.or_false]
  rw [Bool.eq_iff_iff, beq_iff_eq, decide_eq_true_eq]
  exact ⟨fun e => nm_inj (by omega) (by omega) e, fun e => by rw [e]⟩
theorem f_lens (h : FOk F n) (hu : (es.map fun x => x.cl.name).Nodup) (g : WG es (fTl F n)) : ∀ x ∈ es.map (linkE es), x.chain.length ≤ 1000 ∧ x.faces.length ≤ 1000 := fun x hx => by
  obtain ⟨y, hy, rfl⟩ := List.mem_map.1 hx
  have hall := f_all h g
  have hsnd := g.sound (hall 0 (by omega)) (hall 2 (by omega))
  obtain ⟨-, -, k3, k4, -⟩ := g.cw hu hsnd hy
  exact ⟨k3, k4⟩
end

end Go.Proofs.YtgmmclcpfmnoiaaGreatDoor
