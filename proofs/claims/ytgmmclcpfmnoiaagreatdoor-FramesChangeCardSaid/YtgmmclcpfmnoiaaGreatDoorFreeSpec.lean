/-
  Gathering all that a class leads to, plainly: what holds while it goes on, and what it tells.
-/
import Derived.Test.YtgmmclcpfmnoiaaGreatDoorHierPlain
namespace Go.Proofs.YtgmmclcpfmnoiaaGreatDoor
open Go.RowKit

theorem nodup_le {α : Type} [DecidableEq α] {l m : List α} (h : l.Nodup) (hs : ∀ a ∈ l, a ∈ m) : l.length ≤ m.length := by
  induction l generalizing m with
  | nil => simp
  | cons a l ih =>
    rw [List.nodup_cons] at h
    have ha := hs a (List.mem_cons_self ..)
    have := ih (m := m.erase a) h.2 (fun b hb => (List.mem_erase_of_ne (fun (e : b = a) => h.1 (by rw [← e]; exact hb))).2 (hs b (List.mem_cons_of_mem _ hb)))
    rw [List.length_erase_of_mem ha] at this
    have hpos : 0 < m.length := List.length_pos_of_mem ha
    simp only [List.length_cons]
    omega

/-- x and what came of it so far: T; all up to place i are gone through. -/
structure FreeP (cs : List Cl) (x : Bs) (T : List Bs) (i : Nat) : Prop where
  reach : ∀ t ∈ T, Reach cs x t ∧ ∃ c, fnd cs t = some c
  nodup : (x :: T).Nodup
  done : ∀ (j : Nat) (s : Bs) (c : Cl), j < i → (x :: T)[j]? = some s → fnd cs s = some c → ∀ u ∈ c.super :: c.faces, u ≠ x ∧ (u ≠ [] → u ∈ T)
/-- The class at place i, of whose names j are gone through. -/
structure FreeQ (cs : List Cl) (x : Bs) (T : List Bs) (i : Nat) (y : Bs) (c : Cl) (j : Nat) : Prop where
  p : FreeP cs x T i
  at_ : (x :: T)[i]? = some y
  cl : fnd cs y = some c
  part : ∀ u ∈ (c.super :: c.faces).take j, u ≠ x ∧ (u ≠ [] → u ∈ T)

section
variable {cs : List Cl} {x y : Bs} {T : List Bs} {i j : Nat} {c : Cl}
theorem FreeP.start (cs : List Cl) (x : Bs) : FreeP cs x [] 0 := ⟨fun t ht => (nomatch ht), by simp, fun j s c hj => by omega⟩
theorem FreeP.begin (h : FreeP cs x T i) (ha : (x :: T)[i]? = some y) (hc : fnd cs y = some c) : FreeQ cs x T i y c 0 := ⟨h, ha, hc, fun u hu => by simp at hu⟩
theorem FreeQ.from_ (h : FreeQ cs x T i y c j) {u : Bs} (hu : (c.super :: c.faces)[j]? = some u) (hne : u ≠ []) : Reach cs x u := by
  have hup : Up cs y u := ⟨c, h.cl, List.mem_of_getElem? hu, hne⟩
  have hm := List.mem_of_getElem? h.at_
  rcases List.mem_cons.1 hm with e | hm
  · subst e; exact .one hup
  · exact .more (h.p.reach y hm).1 hup
theorem take_snoc {α : Type} {l : List α} {j : Nat} {u : α} (h : l[j]? = some u) : l.take (j + 1) = l.take j ++ [u] := by
  obtain ⟨hj, rfl⟩ := List.getElem?_eq_some_iff.1 h
  exact List.take_succ_eq_append_getElem hj
theorem FreeQ.skip (h : FreeQ cs x T i y c j) {u : Bs} (hu : (c.super :: c.faces)[j]? = some u) (hx : u ≠ x) (ht : u ≠ [] → u ∈ T) : FreeQ cs x T i y c (j + 1) := by
  refine ⟨h.p, h.at_, h.cl, fun v hv => ?_⟩
  rw [take_snoc hu] at hv
  rcases List.mem_append.1 hv with hv | hv
  · exact h.part v hv
  · simp only [List.mem_singleton] at hv; subst hv; exact ⟨hx, ht⟩
theorem FreeQ.add (h : FreeQ cs x T i y c j) {u : Bs} {d : Cl} (hu : (c.super :: c.faces)[j]? = some u) (hx : u ≠ x) (hne : u ≠ []) (hn : u ∉ T) (hd : fnd cs u = some d) : FreeQ cs x (T ++ [u]) i y c (j + 1) := by
  have hi : i < (x :: T).length := (List.getElem?_eq_some_iff.1 h.at_).1
  have hget : ∀ (k : Nat) (s : Bs), k ≤ i → (x :: (T ++ [u]))[k]? = some s → (x :: T)[k]? = some s := fun k s hk hs => by
    rw [show x :: (T ++ [u]) = (x :: T) ++ [u] from rfl, List.getElem?_append_left (by omega)] at hs
    exact hs
  refine ⟨⟨?_, ?_, ?_⟩, ?_, h.cl, ?_⟩
  · intro t ht
    rcases List.mem_append.1 ht with ht | ht
    · exact h.p.reach t ht
    · simp only [List.mem_singleton] at ht; subst ht; exact ⟨h.from_ hu hne, d, hd⟩
  · rw [show x :: (T ++ [u]) = (x :: T) ++ [u] from rfl, List.nodup_append]
    refine ⟨h.p.nodup, by simp, fun a ha b hb => ?_⟩
    simp only [List.mem_singleton] at hb
    subst hb
    rcases List.mem_cons.1 ha with e | ha
    · subst e; exact fun e => hx e.symm
    · exact fun e => hn (e ▸ ha)
  · intro k s e hk hs he v hv
    obtain ⟨h1, h2⟩ := h.p.done k s e hk (hget k s (by omega) hs) he v hv
    exact ⟨h1, fun hv => List.mem_append_left _ (h2 hv)⟩
  · rw [show x :: (T ++ [u]) = (x :: T) ++ [u] from rfl, List.getElem?_append_left hi]
    exact h.at_
  · intro v hv
    rw [take_snoc hu] at hv
    rcases List.mem_append.1 hv with hv | hv
    · obtain ⟨h1, h2⟩ := h.part v hv
      exact ⟨h1, fun hv => List.mem_append_left _ (h2 hv)⟩
    · simp only [List.mem_singleton] at hv; subst hv; exact ⟨hx, fun _ => List.mem_append_right _ (by simp)⟩
theorem FreeQ.next (h : FreeQ cs x T i y c j) (hj : (c.super :: c.faces).length ≤ j) : FreeP cs x T (i + 1) := by
  refine ⟨h.p.reach, h.p.nodup, fun k s e hk hs he => ?_⟩
  by_cases hki : k = i
  · subst hki
    rw [h.at_] at hs
    cases hs
    rw [h.cl] at he
    cases he
    have := h.part
    rwa [List.take_of_length_le hj] at this
  · exact h.p.done k s e (by omega) hs he
/-- Gone through to the end: x is not reached. -/
theorem FreeP.end_ (h : FreeP cs x T i) (hi : (x :: T).length ≤ i) : ¬ Reach cs x x := by
  have key : ∀ {t : Bs}, Reach cs x t → t ∈ T := by
    intro t ht
    have one : ∀ {s u : Bs}, s ∈ x :: T → Up cs s u → u ∈ T := by
      rintro s u hs ⟨e, he, hu, hne⟩
      obtain ⟨k, hk⟩ := List.getElem?_of_mem hs
      have hlt := (List.getElem?_eq_some_iff.1 hk).1
      exact (h.done k s e (by omega) hk he u hu).2 hne
    induction ht with
    | one hu => exact one (List.mem_cons_self ..) hu
    | more _ hu ih => exact one (List.mem_cons_of_mem _ ih) hu
  intro hr
  have hn := h.nodup
  rw [List.nodup_cons] at hn
  exact hn.1 (key hr)
theorem FreeP.len (h : FreeP cs x T i) (hx : ∃ c, fnd cs x = some c) : (x :: T).length ≤ cs.length := by
  have := nodup_le (m := cs.map (·.name)) h.nodup (fun a ha => by
    have key : ∀ {s : Bs} {d : Cl}, fnd cs s = some d → s ∈ cs.map (·.name) := fun {s d} hd => by
      have hm := fnd_mem hd
      rw [← hm.2]; exact List.mem_map_of_mem hm.1
    rcases List.mem_cons.1 ha with e | ha
    · subst e; exact key hx.choose_spec
    · exact key (h.reach a ha).2.choose_spec)
  rwa [List.length_map] at this
end

end Go.Proofs.YtgmmclcpfmnoiaaGreatDoor
