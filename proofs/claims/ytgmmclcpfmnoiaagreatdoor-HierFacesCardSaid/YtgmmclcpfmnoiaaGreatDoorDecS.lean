/-
  Chains, walks, rules of a world that is spelt out: computed, so that they may be decided.
-/
import Derived.Test.YtgmmclcpfmnoiaaGreatDoorNearC
namespace Go.Proofs.YtgmmclcpfmnoiaaGreatDoor
open Go.RowKit

def chF (cs : List Cl) : Nat → Bs → Option (List Bs)
  | 0, _ => none
  | n + 1, s => if s = [] then some [] else match fnd cs s with
    | none => none
    | some c => match chF cs n c.super with
      | none => none
      | some l => some (s :: l)
def inF (cs : List Cl) : Nat → List Bs → List Bs → Option (List Bs)
  | 0, _, _ => none
  | _ + 1, out, [] => some out
  | n + 1, out, s :: l => if s ∈ out then inF cs n out l else match fnd cs s with
    | none => none
    | some c => match inF cs n (out ++ [s]) c.faces with
      | none => none
      | some o1 => inF cs n o1 l
def wkF (cs : List Cl) (n : Nat) : List Bs → List Bs → Option (List Bs)
  | out, [] => some out
  | out, s :: l => match fnd cs s with
    | none => none
    | some c => match inF cs n out c.faces with
      | none => none
      | some o1 => wkF cs n o1 l
section
variable {cs : List Cl}
theorem chF_is : ∀ {n : Nat} {s : Bs} {l : List Bs}, chF cs n s = some l → IsChain cs s l
  | 0, _, _, h => by cases h
  | n + 1, s, l, h => by
    unfold chF at h
    by_cases h0 : s = []
    · rw [if_pos h0] at h; cases h; rw [h0]; exact .nil
    · rw [if_neg h0] at h
      cases hf : fnd cs s with
      | none => rw [hf] at h; cases h
      | some c =>
        rw [hf] at h
        simp only at h
        cases hc : chF cs n c.super with
        | none => rw [hc] at h; cases h
        | some l' => rw [hc] at h; cases h; exact .cons h0 hf (chF_is hc)
theorem inF_is : ∀ {n : Nat} {out l o : List Bs}, inF cs n out l = some o → Into cs out l o
  | 0, _, _, _, h => by cases h
  | n + 1, out, [], o, h => by unfold inF at h; cases h; exact .nil
  | n + 1, out, s :: l, o, h => by
    unfold inF at h
    by_cases hs : s ∈ out
    · rw [if_pos hs] at h; exact .seen hs (inF_is h)
    · rw [if_neg hs] at h
      cases hf : fnd cs s with
      | none => rw [hf] at h; cases h
      | some c =>
        rw [hf] at h
        simp only at h
        cases hc : inF cs n (out ++ [s]) c.faces with
        | none => rw [hc] at h; cases h
        | some o1 => rw [hc] at h; exact .new hs hf (inF_is hc) (inF_is h)
theorem wkF_is {n : Nat} : ∀ {out l o : List Bs}, wkF cs n out l = some o → Walks cs out l o
  | out, [], o, h => by unfold wkF at h; cases h; exact .nil
  | out, s :: l, o, h => by
    unfold wkF at h
    cases hf : fnd cs s with
    | none => rw [hf] at h; cases h
    | some c =>
      rw [hf] at h
      simp only at h
      cases hc : inF cs n out c.faces with
      | none => rw [hc] at h; cases h
      | some o1 => rw [hc] at h; exact .cons hf (inF_is hc) (wkF_is h)
def chD (cs : List Cl) (c : Cl) : List Bs := (chF cs 40 c.name).getD []
def wkD (cs : List Cl) (c : Cl) : List Bs := (wkF cs 40 [] (chD cs c)).getD []
theorem chD_of {c : Cl} (h : (chF cs 40 c.name).isSome = true) : chainOf cs c.name = chD cs c := by
  obtain ⟨l, hl⟩ := Option.isSome_iff_exists.1 h
  unfold chD
  rw [hl]
  exact (chF_is hl).of
theorem wkD_of {c : Cl} (h : (chF cs 40 c.name).isSome = true) (h2 : (wkF cs 40 [] (chD cs c)).isSome = true) : walkOf cs c.name = wkD cs c := by
  obtain ⟨l, hl⟩ := Option.isSome_iff_exists.1 h
  obtain ⟨o, ho⟩ := Option.isSome_iff_exists.1 h2
  have hc : chD cs c = l := by unfold chD; rw [hl]; rfl
  unfold wkD
  rw [ho]
  rw [hc] at ho
  exact (wkF_is ho).of (chF_is hl)
/-- Nobody of these reaches itself. -/
theorem no_reach_of (p : Bs → Bool) (r : Bs → Nat) (h : ∀ c ∈ cs, p c.name = true → ∀ t ∈ c.super :: c.faces, t ≠ [] → p t = true ∧ r t < r c.name) {s : Bs} (hs : p s = true) : ¬ Reach cs s s := by
  have up : ∀ {s t : Bs}, Up cs s t → p s = true → p t = true ∧ r t < r s := by
    rintro s t ⟨c, hc, ht, hne⟩ hp
    have hm := fnd_mem hc
    have := h c hm.1 (by rw [hm.2]; exact hp) t ht hne
    rwa [hm.2] at this
  have key : ∀ {s t : Bs}, Reach cs s t → p s = true → p t = true ∧ r t < r s := by
    intro s t h hp
    induction h with
    | one h => exact up h hp
    | more _ h ih => exact ⟨(up h ih.1).1, Nat.lt_trans (up h ih.1).2 ih.2⟩
  intro h
  exact Nat.lt_irrefl _ (key h hs).2
/-- The rules but that of circles, computed. -/
def RBd (cs : List Cl) (i : Nat) (c : Cl) : Bool :=
  if i = 0 then standsB cs c
  else if i = 1 then kindsB cs c
  else if i = 3 then (chF cs 40 c.name).isSome && decide ((chD cs c).length ≤ 32)
  else if i = 4 then namedB0 cs c
  else if i = 5 then (chF cs 40 c.name).isSome && overridesB cs c (chD cs c).tail
  else (chF cs 40 c.name).isSome && (wkF cs 40 [] (chD cs c)).isSome && owesB cs c (chD cs c) (wkD cs c)
theorem RBd_of {es : List Ent} {x : Ent} (hd : (chF (cls es) 40 x.cl.name).isSome = true ∧ (wkF (cls es) 40 [] (chD (cls es) x.cl)).isSome = true) {i : Nat} (h2 : i ≠ 2) (hi : 1 < i) : RBg es (fun x => namedB0 (cls es) x.cl) i x = RBd (cls es) i x.cl := by
  unfold RBg RBd
  rw [if_neg (by omega), if_neg (by omega), if_neg h2, if_neg (show ¬ i = 0 by omega), if_neg (show ¬ i = 1 by omega), chD_of hd.1, wkD_of hd.1 hd.2, hd.1, hd.2]
  simp only [Bool.true_and]
theorem RBd_of01 {es : List Ent} {x : Ent} {i : Nat} (hi : i < 2) : RBg es (fun x => namedB0 (cls es) x.cl) i x = RBd (cls es) i x.cl := by
  unfold RBg RBd
  rcases (by omega : i = 0 ∨ i = 1) with rfl | rfl
  · rfl
  · rfl
end

/-- The law HierRules's classes. -/
def aM : Mt := ⟨2, mName, vSig, 0, 0, [], []⟩
def sM : Mt := ⟨4, mName, vSig, 1, 0, [42], []⟩
def rA : Cl := ⟨0, [65], objectName, [], [], [mM]⟩
def rI : Cl := ⟨1, [73], objectName, [], [], [aM]⟩
def noneN : Bs := [78, 111, 110, 101]
def xCl : Nat → Cl
  | 0 => ⟨0, [88], noneN, [], [], []⟩
  | 1 => ⟨0, [88], [65], [noneN], [], []⟩
  | 2 => ⟨0, [88], [73], [], [], []⟩
  | 3 => ⟨0, [88], [65], [[65]], [], []⟩
  | 4 => ⟨0, [88], [88], [], [], []⟩
  | 5 => ⟨0, [88], [65], [], [⟨0, [113], ⟨0, noneN⟩⟩], []⟩
  | 6 => ⟨0, [88], [65], [], [], [sM]⟩
  | 7 => ⟨0, [88], objectName, [[73]], [], []⟩
  | _ => ⟨0, [88], [65], [[73]], [], []⟩
def rWant : Nat → Int
  | 0 => 31 | 1 => 31 | 2 => 33 | 3 => 33 | 4 => 32 | 5 => 2 | 6 => 34 | 7 => 35 | _ => 0
def rIx : Nat → Nat
  | 0 => 0 | 1 => 0 | 2 => 1 | 3 => 1 | 4 => 2 | 5 => 4 | 6 => 5 | 7 => 6 | _ => 7
abbrev rGood : List Cl := [rA, rI]
abbrev rCs (k : Nat) : List Cl := firsts ++ [rA, rI, xCl k]
def nCl' : Cl := ⟨0, noneN, objectName, [], [], []⟩
abbrev rCs2 (k : Nat) : List Cl := firsts ++ [rA, rI, xCl k, nCl']
theorem r_ok : ∀ k, k < 9 → ∀ c ∈ rCs2 k, okClB c = true := by decide
theorem r_module : (moduleE ⟨[], rGood⟩).err = 0 := by decide
theorem r_moduleX : ∀ k, k < 9 → (moduleE ⟨[], [xCl k]⟩).err = 0 := by decide
theorem r_moduleN : (moduleE ⟨[], [nCl']⟩).err = 0 := by decide
theorem r_before : ∀ k, k < 9 → ∀ i, i < rIx k → i ≠ 2 → ∀ c ∈ [rA, rI, xCl k], RBd (rCs k) i c = true := by decide
theorem r_at : ∀ k, k < 8 → k ≠ 4 → RBd (rCs k) (rIx k) rA = true ∧ RBd (rCs k) (rIx k) rI = true ∧ RBd (rCs k) (rIx k) (xCl k) = false := by decide
theorem r_chains : ∀ k, k < 9 → 4 < k → ∀ c ∈ [rA, rI, xCl k], (chF (rCs k) 40 c.name).isSome = true ∧ (wkF (rCs k) 40 [] (chD (rCs k) c)).isSome = true := by decide
def rkR (s : Bs) : Nat := if s = objectName then 0 else if s = throwableName then 1 else if s = [88] then 4 else if s = noneN then 2 else 3
theorem r_rank : ∀ k, k < 9 → 4 < k → ∀ c ∈ rCs k, ∀ t ∈ c.super :: c.faces, t ≠ [] → rkR t < rkR c.name := by decide
theorem r_rank4 : ∀ c ∈ rCs 4, (!(c.name == [88])) = true → ∀ t ∈ c.super :: c.faces, t ≠ [] → (!(t == [88])) = true ∧ rkR t < rkR c.name := by decide
/-- Mended, all rules hold. -/
theorem m_all : ∀ k, k < 9 → (k = 0 ∨ k = 5) → ∀ i, i < 7 → i ≠ 2 → ∀ c ∈ [rA, rI, xCl k, nCl'], RBd (rCs2 k) i c = true := by decide
theorem m_chains : ∀ k, k < 9 → (k = 0 ∨ k = 5) → ∀ c ∈ [rA, rI, xCl k, nCl'], (chF (rCs2 k) 40 c.name).isSome = true ∧ (wkF (rCs2 k) 40 [] (chD (rCs2 k) c)).isSome = true := by decide
theorem m_rank : ∀ k, k < 9 → (k = 0 ∨ k = 5) → ∀ c ∈ rCs2 k, ∀ t ∈ c.super :: c.faces, t ≠ [] → rkR t < rkR c.name := by decide

end Go.Proofs.YtgmmclcpfmnoiaaGreatDoor
