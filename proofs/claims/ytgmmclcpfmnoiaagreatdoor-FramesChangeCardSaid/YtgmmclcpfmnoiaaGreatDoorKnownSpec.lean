/-
  The chapter's first example, plainly: A below Object, B and C below A.
-/
import Derived.Test.YtgmmclcpfmnoiaaGreatDoorDeepSpec
import Derived.Test.YtgmmclcpfmnoiaaGreatDoorHierPlain
namespace Go.Proofs.YtgmmclcpfmnoiaaGreatDoor
open Go.RowKit

/-- A number that falls from each class to those above: nobody reaches itself. -/
theorem no_reach {cs : List Cl} (r : Bs → Nat) (h : ∀ c ∈ cs, ∀ t ∈ c.super :: c.faces, t ≠ [] → r t < r c.name) (s : Bs) : ¬ Reach cs s s := by
  have up : ∀ {s t : Bs}, Up cs s t → r t < r s := by
    rintro s t ⟨c, hc, ht, hne⟩
    have hm := fnd_mem hc
    have := h c hm.1 t ht hne
    rwa [hm.2] at this
  have key : ∀ {s t : Bs}, Reach cs s t → r t < r s := by
    intro s t h
    induction h with
    | one h => exact up h
    | more _ h ih => exact Nat.lt_trans (up h) ih
  intro h
  exact Nat.lt_irrefl _ (key h)

def kA : Bs := [65]
def kB : Bs := [66]
def kC : Bs := [67]
def kn (i : Nat) : Cl := if i = 0 then ⟨0, kA, objectName, [], [], []⟩ else if i = 1 then ⟨0, kB, kA, [], [], []⟩ else ⟨0, kC, kA, [], [], []⟩
def knCls : List Cl := firsts ++ [kn 0, kn 1, kn 2]
def knRank (s : Bs) : Nat := if s = objectName then 0 else if s = kA ∨ s = throwableName then 1 else 2
theorem kn_free (s : Bs) : ¬ Reach knCls s s := no_reach knRank (by decide) s
theorem kn_obj : fnd knCls objectName = some ⟨0, objectName, [], [], [], [initM]⟩ := by decide
theorem kn_a : fnd knCls kA = some (kn 0) := by decide
theorem kn_b : fnd knCls kB = some (kn 1) := by decide
theorem kn_c : fnd knCls kC = some (kn 2) := by decide
theorem kn_chain_a : IsChain knCls kA [kA, objectName] := .cons (by decide) kn_a (.cons (by decide) kn_obj .nil)
theorem kn_chain_b : IsChain knCls kB [kB, kA, objectName] := .cons (by decide) kn_b kn_chain_a
theorem kn_chain_c : IsChain knCls kC [kC, kA, objectName] := .cons (by decide) kn_c kn_chain_a
/-- The chains of those that are there from the beginning. -/
theorem first_chain {cs : List Cl} (i : Nat) (hi : i < 8) (h : ∀ c ∈ firsts, fnd cs c.name = some c) : ∃ l, IsChain cs (firstNames[i]?.getD []) l ∧ l.length ≤ 3 ∧ ∀ s ∈ l, ∃ c ∈ firsts, fnd cs s = some c := by
  have h0 := h ⟨0, objectName, [], [], [], [initM]⟩ (by decide)
  have h1 := h ⟨0, throwableName, objectName, [], [], [initM]⟩ (by decide)
  have c0 : IsChain cs objectName [objectName] := .cons (by decide) h0 .nil
  have c1 : IsChain cs throwableName [throwableName, objectName] := .cons (by decide) h1 c0
  have m0 : ∀ s ∈ [objectName], ∃ c ∈ firsts, fnd cs s = some c := fun s hs => by
    simp only [List.mem_singleton] at hs; subst hs; exact ⟨_, by decide, h0⟩
  have m1 : ∀ s ∈ [throwableName, objectName], ∃ c ∈ firsts, fnd cs s = some c := fun s hs => by
    rcases List.mem_cons.1 hs with rfl | hs
    · exact ⟨_, by decide, h1⟩
    · exact m0 s hs
  by_cases i0 : i = 0
  · subst i0; exact ⟨_, c0, by decide, m0⟩
  by_cases i1 : i = 1
  · subst i1; exact ⟨_, c1, by decide, m1⟩
  have hx : firstNames[i]?.getD [] ≠ [] ∧ (⟨0, firstNames[i]?.getD [], throwableName, [], [], [initM]⟩ : Cl) ∈ firsts := by
    have : i = 2 ∨ i = 3 ∨ i = 4 ∨ i = 5 ∨ i = 6 ∨ i = 7 := by omega
    rcases this with rfl | rfl | rfl | rfl | rfl | rfl <;> decide
  have h2 := h _ hx.2
  exact ⟨_, .cons hx.1 h2 c1, Nat.le_refl 3, fun s hs => by
    rcases List.mem_cons.1 hs with rfl | hs
    · exact ⟨_, hx.2, h2⟩
    · exact m1 s hs⟩
theorem firsts_faces : ∀ c ∈ firsts, c.faces = [] := by decide

end Go.Proofs.YtgmmclcpfmnoiaaGreatDoor
