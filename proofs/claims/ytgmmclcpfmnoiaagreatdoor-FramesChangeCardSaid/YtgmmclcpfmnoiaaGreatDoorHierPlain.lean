/-
  Where nobody comes from itself to itself there are chains and walks: plainly.
-/
import Derived.Test.YtgmmclcpfmnoiaaGreatDoorHierSpec
namespace Go.Proofs.YtgmmclcpfmnoiaaGreatDoor
open Go.RowKit

section
variable {cs : List Cl}
theorem Reach.trans {s t u : Bs} (h : Reach cs s t) (k : Reach cs t u) : Reach cs s u := by
  induction k with
  | one k => exact .more h k
  | more _ k ih => exact .more ih k
theorem Up.reach {s t u : Bs} (h : Up cs s t) (k : Reach cs t u) : Reach cs s u := Reach.trans (.one h) k

/-- All that a class leads to is there; no one reaches itself. -/
structure Sound (cs : List Cl) : Prop where
  there : ∀ c ∈ cs, (c.super = [] ∨ ∃ d, fnd cs c.super = some d) ∧ ∀ s ∈ c.faces, ∃ d, fnd cs s = some d
  names : ∀ c ∈ cs, c.name ≠ []
  free : ∀ c ∈ cs, ¬ Reach cs c.name c.name

theorem fnd_mem {s : Bs} {c : Cl} (h : fnd cs s = some c) : c ∈ cs ∧ c.name = s := ⟨List.mem_of_find?_eq_some h, by have := List.find?_some h; simpa using this⟩

open Classical in
/-- How many classes are reached. -/
noncomputable def rank (cs : List Cl) (s : Bs) : Nat := (cs.filter fun c => decide (Reach cs s c.name)).length
theorem filter_lt {α : Type} {p q : α → Bool} {l : List α} (h : ∀ x ∈ l, p x = true → q x = true) {a : α} (ha : a ∈ l) (hp : p a = false) (hq : q a = true) : (l.filter p).length < (l.filter q).length := by
  induction l with
  | nil => cases ha
  | cons x r ih =>
    have hle : (r.filter p).length ≤ (r.filter q).length := by
      have : ∀ (m : List α), (∀ x ∈ m, p x = true → q x = true) → (m.filter p).length ≤ (m.filter q).length := by
        intro m
        induction m with
        | nil => intro _; exact Nat.le_refl _
        | cons y m ih2 =>
          intro hm
          have h2 := ih2 (fun x hx => hm x (List.mem_cons_of_mem _ hx))
          have h3 := hm y (List.mem_cons_self ..)
          cases hpy : p y <;> cases hqy : q y <;> simp_all <;> omega
      exact this r (fun x hx => h x (List.mem_cons_of_mem _ hx))
    rcases List.mem_cons.1 ha with rfl | hr
    · simp [hp, hq]; omega
    · have h2 := ih (fun x hx => h x (List.mem_cons_of_mem _ hx)) hr
      have h3 := h x (List.mem_cons_self ..)
      cases hpy : p x <;> cases hqy : q x <;> simp_all <;> omega
theorem rank_lt (h : Sound cs) {s t : Bs} {d : Cl} (hu : Up cs s t) (ht : fnd cs t = some d) : rank cs t < rank cs s := by
  unfold rank
  have hd := fnd_mem ht
  refine filter_lt (a := d) (fun x _ hx => ?_) hd.1 ?_ ?_
  · simp only [decide_eq_true_eq] at hx ⊢; exact hu.reach hx
  · simp only [decide_eq_false_iff_not]; rw [← hd.2]; exact h.free d hd.1
  · simp only [decide_eq_true_eq]; rw [hd.2]; exact .one hu

theorem chain_exists (h : Sound cs) : ∀ (n : Nat) (s : Bs) (c : Cl), rank cs s < n → s ≠ [] → fnd cs s = some c → ∃ l, IsChain cs s l := by
  intro n
  induction n with
  | zero => intro s c hn; omega
  | succ n ih =>
    intro s c hn hs hc
    have hm := fnd_mem hc
    rcases (h.there c hm.1).1 with h0 | ⟨d, hd⟩
    · exact ⟨[s], .cons hs hc (by rw [h0]; exact .nil)⟩
    · by_cases h0 : c.super = []
      · exact ⟨[s], .cons hs hc (by rw [h0]; exact .nil)⟩
      · have hlt := rank_lt h (s := s) ⟨c, hc, List.mem_cons_self .., h0⟩ hd
        obtain ⟨l, hl⟩ := ih c.super d (by omega) h0 hd
        exact ⟨s :: l, .cons hs hc hl⟩
theorem into_list {l : List Bs} (h : ∀ s ∈ l, ∃ c, fnd cs s = some c ∧ ∀ out, ∃ o, Into cs out c.faces o) (out : List Bs) : ∃ o, Into cs out l o := by
  induction l generalizing out with
  | nil => exact ⟨out, .nil⟩
  | cons s l ih =>
    have hl := fun s' hs' => h s' (List.mem_cons_of_mem _ hs')
    by_cases hm : s ∈ out
    · obtain ⟨o, ho⟩ := ih hl out
      exact ⟨o, .seen hm ho⟩
    · obtain ⟨c, hc, hi⟩ := h s (List.mem_cons_self ..)
      obtain ⟨o1, ho1⟩ := hi (out ++ [s])
      obtain ⟨o, ho⟩ := ih hl o1
      exact ⟨o, .new hm hc ho1 ho⟩
theorem into_exists (h : Sound cs) : ∀ (n : Nat) (s : Bs) (c : Cl), rank cs s < n → fnd cs s = some c → ∀ out, ∃ o, Into cs out c.faces o := by
  intro n
  induction n with
  | zero => intro s c hn; omega
  | succ n ih =>
    intro s c hn hc out
    have hm := fnd_mem hc
    refine into_list (fun t ht => ?_) out
    obtain ⟨d, hd⟩ := (h.there c hm.1).2 t ht
    have hne : t ≠ [] := by
      have := fnd_mem hd
      rw [← this.2]; exact h.names d this.1
    have hlt := rank_lt h (s := s) ⟨c, hc, List.mem_cons_of_mem _ ht, hne⟩ hd
    exact ⟨d, hd, ih t d (by omega) hd⟩
theorem walks_exists (h : Sound cs) {s : Bs} {l : List Bs} (hl : IsChain cs s l) (out : List Bs) : ∃ o, Walks cs out l o := by
  induction hl generalizing out with
  | nil => exact ⟨out, .nil⟩
  | cons hs hc _ ih =>
    obtain ⟨o1, h1⟩ := into_exists h _ _ _ (Nat.lt_succ_self _) hc out
    obtain ⟨o, ho⟩ := ih o1
    exact ⟨o, .cons hc h1 ho⟩
end

end Go.Proofs.YtgmmclcpfmnoiaaGreatDoor
