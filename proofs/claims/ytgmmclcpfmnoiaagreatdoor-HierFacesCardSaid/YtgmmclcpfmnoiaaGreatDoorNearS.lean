/-
  The law HierNearest's classes, plainly: one above the other, some with a method of their own.
-/
import Derived.Test.YtgmmclcpfmnoiaaGreatDoorApi
import Derived.Test.YtgmmclcpfmnoiaaGreatDoorMethG
import Derived.Test.YtgmmclcpfmnoiaaGreatDoorNamG
namespace Go.Proofs.YtgmmclcpfmnoiaaGreatDoor
open Go.RowKit

def nm (i : Nat) : Bs := [67, 97, UInt8.ofNat (97 + i)]
def ownB (own : List Bool) (i : Nat) : Bool := own.getD i false
def vSig : Sg := ⟨[], true, ⟨0, []⟩⟩
def mName : Bs := [109]
def mM : Mt := ⟨0, mName, vSig, 1, 1, [42], []⟩
def nCl (own : List Bool) (i : Nat) : Cl := ⟨0, nm i, if i = 0 then objectName else nm (i - 1), [], [], if ownB own i = true then [mM] else []⟩
abbrev nTl (own : List Bool) (n : Nat) : List Cl := (List.range n).map (nCl own)
abbrev nCs (own : List Bool) (n : Nat) : List Cl := firsts ++ nTl own n

theorem nm_inj {i j : Nat} (hi : i < 26) (hj : j < 26) (h : nm i = nm j) : i = j := by
  unfold nm at h
  simp only [List.cons.injEq, and_true, true_and] at h
  have e1 := congrArg UInt8.toNat h
  simp only [UInt8.toNat_ofNat'] at e1
  omega
theorem nm_ne (i : Nat) : nm i ≠ [] := by simp [nm]
theorem nm_name : ∀ i, i < 26 → nameB (nm i) = true := by decide
theorem firsts_six : ∀ c ∈ firsts, 6 ≤ c.name.length := by decide
theorem first_nm (i : Nat) : firsts.find? (fun c => c.name == nm i) = none := by
  rw [List.find?_eq_none]
  intro c hc
  have := firsts_six c hc
  simp only [beq_iff_eq]
  intro e
  rw [e] at this
  simp [nm] at this
section
variable {own : List Bool} {n : Nat}
theorem fnd_n (hn : n ≤ 26) {i : Nat} (hi : i < n) : fnd (nCs own n) (nm i) = some (nCl own i) := by
  unfold fnd nCs nTl
  rw [List.find?_append, first_nm, Option.none_or, List.find?_map, Option.map_eq_some_iff]
  refine ⟨i, ?_, rfl⟩
  rw [List.find?_range_eq_some]
  refine ⟨by simp [nCl], List.mem_range.2 hi, fun j hj => ?_⟩
  simp only [Function.comp, nCl, Bool.not_eq_true', beq_eq_false_iff_ne]
  intro e
  have := nm_inj (by omega) (by omega) e
  omega
theorem fnd_o : fnd (nCs own n) objectName = some ⟨0, objectName, [], [], [], [initM]⟩ := first_fnd ⟨0, objectName, [], [], [], [initM]⟩ (by decide)
theorem n_mem {x : Cl} (h : x ∈ nTl own n) : ∃ i, i < n ∧ x = nCl own i := by
  obtain ⟨i, hi, rfl⟩ := List.mem_map.1 h
  exact ⟨i, List.mem_range.1 hi, rfl⟩
theorem n_super {i : Nat} : (nCl own i).super = objectName ∨ (0 < i ∧ (nCl own i).super = nm (i - 1)) := by
  unfold nCl
  by_cases h0 : i = 0
  · left; simp [h0]
  · right; exact ⟨by omega, by simp [h0]⟩
/-- All classes are classes, without interfaces; all methods have code. -/
theorem n_flat {c : Cl} (hc : c ∈ nCs own n) : c.flags = 0 ∧ c.faces = [] ∧ c.fields = [] ∧ ∀ m ∈ c.methods, m.flags = 0 ∧ m.sig = vSig ∧ m.handlers = [] := by
  rcases List.mem_append.1 hc with h | h
  · have : ∀ c ∈ firsts, c.flags = 0 ∧ c.faces = [] ∧ c.fields = [] ∧ ∀ m ∈ c.methods, m.flags = 0 ∧ m.sig = vSig ∧ m.handlers = [] := by decide
    exact this c h
  · obtain ⟨i, -, rfl⟩ := n_mem h
    refine ⟨rfl, rfl, rfl, fun m hm => ?_⟩
    unfold nCl at hm
    simp only at hm
    split at hm
    · simp only [List.mem_singleton] at hm; subst hm; exact ⟨rfl, rfl, rfl⟩
    · cases hm
theorem n_stands (hn : n ≤ 26) {i : Nat} (hi : i < n) : standsB (nCs own n) (nCl own i) = true := by
  unfold standsB
  rw [show (nCl own i).faces = [] from rfl, List.all_nil, Bool.and_true, thereB_some]
  rcases n_super (own := own) (i := i) with h | ⟨h0, h⟩
  · rw [h]; exact ⟨_, fnd_o⟩
  · rw [h]; exact ⟨_, fnd_n hn (by omega)⟩
theorem n_kinds (hn : n ≤ 26) {i : Nat} (hi : i < n) : kindsB (nCs own n) (nCl own i) = true := by
  unfold kindsB classAtB
  rw [show (nCl own i).faces = [] from rfl, List.all_nil, Bool.and_true]
  rcases n_super (own := own) (i := i) with h | ⟨h0, h⟩
  · rw [h, fnd_o]; rfl
  · rw [h, fnd_n hn (by omega)]; rfl
def rkN : Bs → Nat
  | [67, 97, b] => 3 + b.toNat
  | s => rkF s
theorem rkN_first : ∀ c ∈ firsts, ∀ t ∈ c.super :: c.faces, t ≠ [] → rkN t < rkN c.name := by decide
theorem n_free (hn : n ≤ 26) (s : Bs) : ¬ Reach (nCs own n) s s := no_reach rkN (fun c hc t ht hne => by
  rcases List.mem_append.1 hc with h | h
  · exact rkN_first c h t ht hne
  · obtain ⟨i, hi, rfl⟩ := n_mem h
    rw [show (nCl own i).faces = [] from rfl, List.mem_singleton] at ht
    subst ht
    have h97 : (97 + i) % 256 = 97 + i := by omega
    have hr : rkN (nCl own i).name = 3 + (97 + i) := by
      show 3 + (UInt8.ofNat (97 + i)).toNat = _
      rw [UInt8.toNat_ofNat']; omega
    rw [hr]
    rcases n_super (own := own) (i := i) with h | ⟨h0, h⟩
    · rw [h]; show rkN objectName < _; rw [show rkN objectName = 0 from by decide]; omega
    · rw [h]
      show 3 + (UInt8.ofNat (97 + (i - 1))).toNat < _
      rw [UInt8.toNat_ofNat']; omega) s
/-- The chain of class i. -/
def nCh : Nat → List Bs
  | 0 => [nm 0, objectName]
  | i + 1 => nm (i + 1) :: nCh i
theorem nCh_is (hn : n ≤ 26) : ∀ i, i < n → IsChain (nCs own n) (nm i) (nCh i)
  | 0, h => .cons (nm_ne 0) (fnd_n hn h) (by
      show IsChain (nCs own n) objectName [objectName]
      exact .cons (by decide) fnd_o .nil)
  | i + 1, h => .cons (nm_ne _) (fnd_n hn h) (by
      show IsChain (nCs own n) (nm i) (nCh i)
      exact nCh_is hn i (by omega))
theorem nCh_len : ∀ i, (nCh i).length = i + 2
  | 0 => rfl
  | i + 1 => by show (nCh i).length + 1 = _; rw [nCh_len i]
theorem nCh_mem0 (name : Bs) : ∀ i, nm 0 ∈ nCh i
  | 0 => by simp [nCh]
  | i + 1 => List.mem_cons_of_mem _ (nCh_mem0 name i)
end

/-- Where no class has interfaces there is nothing to walk. -/
theorem walks_bare {cs : List Cl} {l : List Bs} (h : ∀ s ∈ l, ∃ c, fnd cs s = some c ∧ c.faces = []) : Walks cs [] l [] := by
  induction l with
  | nil => exact .nil
  | cons s l ih =>
    obtain ⟨c, hc, hf⟩ := h s (List.mem_cons_self ..)
    exact .cons hc (by rw [hf]; exact .nil) (ih fun s hs => h s (List.mem_cons_of_mem _ hs))
/-- Where all methods have code, and none is static, nothing clashes, nothing lacks. -/
theorem near_mem {cs : List Cl} {n : Bs} {g : Sg} : ∀ {l : List Bs} {c : Cl} {i : Nat}, nearestM cs l n g = some (c, i) → c ∈ cs
  | [], _, _, h => by cases h
  | s :: l, c, i, h => by
    unfold nearestM at h
    cases hf : fnd cs s with
    | none => rw [hf] at h; cases h
    | some d =>
      rw [hf] at h
      simp only at h
      cases hi : methIx d n g with
      | none => rw [hi] at h; exact near_mem h
      | some j =>
        rw [hi] at h
        simp only [Option.some.injEq, Prod.mk.injEq] at h
        obtain ⟨rfl, rfl⟩ := h
        exact (fnd_mem hf).1
theorem flat_clash {cs : List Cl} (h : ∀ c ∈ cs, ∀ m ∈ c.methods, m.flags = 0) {m : Mt} (hm : m.flags = 0) (up : List Bs) : clashB cs up m = false := by
  unfold clashB
  cases hr : nearestM cs up m.name m.sig with
  | none => simp
  | some p =>
    obtain ⟨c, i⟩ := p
    simp only [hm]
    cases hi : c.methods[i]? with
    | none => simp
    | some y =>
      have := h c (near_mem hr) y (List.mem_of_getElem? hi)
      simp [this]
theorem flat_over {cs : List Cl} (h : ∀ c ∈ cs, ∀ m ∈ c.methods, m.flags = 0) {x : Cl} (hx : x ∈ cs) (up : List Bs) : overridesB cs x up = true := by
  unfold overridesB
  rw [show x.methods.any (clashB cs up) = false from List.any_eq_false.2 (fun m hm => by rw [flat_clash h (h x hx m hm)]; simp)]
  simp
theorem flat_owes {cs : List Cl} (h : ∀ c ∈ cs, ∀ m ∈ c.methods, m.flags = 0) (x : Cl) (l o : List Bs) : owesB cs x l o = true := by
  unfold owesB
  rw [show (o ++ l).any (lackAt cs l) = false from List.any_eq_false.2 (fun s _ => by
    unfold lackAt
    cases hf : fnd cs s with
    | none => simp
    | some c =>
      simp only
      rw [List.any_eq_true]
      rintro ⟨m, hm, hl⟩
      unfold lacksB at hl
      rw [h c (fnd_mem hf).1 m hm] at hl
      simp at hl)]
  simp

/-- The nearest class with a method of its own. -/
def lastO (own : List Bool) : Nat → Option Nat
  | 0 => if ownB own 0 = true then some 0 else none
  | i + 1 => if ownB own (i + 1) = true then some (i + 1) else lastO own i
def lz (own : List Bool) (at_ : Nat) : Nat → Int
  | 0 => -1
  | k + 1 => if ownB own k = true ∧ k ≤ at_ then (k : Int) else lz own at_ k
def toZ : Option Nat → Int
  | none => -1
  | some j => j
theorem lz_at (own : List Bool) (at_ : Nat) : ∀ i, i ≤ at_ → lz own at_ (i + 1) = toZ (lastO own i)
  | 0, _ => by
    unfold lz lastO lz
    by_cases h : ownB own 0 = true <;> simp [h, toZ]
  | i + 1, hi => by
    have ih := lz_at own at_ i (by omega)
    unfold lz lastO
    by_cases h : ownB own (i + 1) = true
    · simp [h, hi, toZ]
    · simp [h, ih]
theorem lz_past (own : List Bool) (at_ : Nat) : ∀ k, lz own at_ (at_ + 1 + k) = toZ (lastO own at_)
  | 0 => lz_at own at_ at_ (Nat.le_refl _)
  | k + 1 => by
    rw [show at_ + 1 + (k + 1) = (at_ + 1 + k) + 1 from by omega]
    unfold lz
    rw [if_neg (by omega)]
    exact lz_past own at_ k
theorem lastO_le {own : List Bool} : ∀ {i j : Nat}, lastO own i = some j → j ≤ i
  | 0, j, h => by
    unfold lastO at h
    split at h
    · cases h; exact Nat.le_refl _
    · cases h
  | i + 1, j, h => by
    unfold lastO at h
    split at h
    · cases h; exact Nat.le_refl _
    · have := lastO_le h; omega
/-- What nearest finds. -/
theorem near_n {own : List Bool} {n : Nat} (hn : n ≤ 26) {es : List Ent} (hcl : cls es = nCs own n) : ∀ i, i < n → match lastO own i with
    | none => nearX es mName vSig (nCh i) = none
    | some j => ∃ y, es.find? (fun x => x.cl.name == nm j) = some y ∧ y.cl = nCl own j ∧ nearX es mName vSig (nCh i) = some (y, 0) := by
  have hfind : ∀ {s : Bs} {c : Cl}, fnd (nCs own n) s = some c → ∃ y, es.find? (fun x => x.cl.name == s) = some y ∧ y.cl = c := fun {s c} h => by
    rw [← hcl, find_cls, Option.map_eq_some_iff] at h
    exact h
  have hobj : nearX es mName vSig [objectName] = none := by
    obtain ⟨y, h1, h2⟩ := hfind (s := objectName) fnd_o
    unfold nearX
    rw [h1]
    simp only [h2]
    rfl
  have hyes : ∀ {j : Nat} {y : Ent} {l : List Bs}, ownB own j = true → es.find? (fun x => x.cl.name == nm j) = some y → y.cl = nCl own j → nearX es mName vSig (nm j :: l) = some (y, 0) := fun {j y l} ho h1 h2 => by
    unfold nearX
    rw [h1]
    simp only [h2]
    unfold nCl
    rw [if_pos ho]
    rfl
  have hno : ∀ {j : Nat} {y : Ent} {l : List Bs}, ¬ ownB own j = true → es.find? (fun x => x.cl.name == nm j) = some y → y.cl = nCl own j → nearX es mName vSig (nm j :: l) = nearX es mName vSig l := fun {j y l} ho h1 h2 => by
    conv => lhs; unfold nearX
    rw [h1]
    simp only [h2]
    unfold nCl
    rw [if_neg ho]
    rfl
  intro i
  induction i with
  | zero =>
    intro hi
    obtain ⟨y, h1, h2⟩ := hfind (fnd_n (own := own) hn hi)
    unfold lastO nCh
    by_cases ho : ownB own 0 = true
    · rw [if_pos ho]; exact ⟨y, h1, h2, hyes ho h1 h2⟩
    · rw [if_neg ho]; show nearX es mName vSig (nm 0 :: [objectName]) = none; rw [hno ho h1 h2]; exact hobj
  | succ i ih =>
    intro hi
    have ih := ih (by omega)
    obtain ⟨y, h1, h2⟩ := hfind (fnd_n (own := own) hn hi)
    unfold lastO nCh
    by_cases ho : ownB own (i + 1) = true
    · rw [if_pos ho]; exact ⟨y, h1, h2, hyes ho h1 h2⟩
    · rw [if_neg ho, hno ho h1 h2]; exact ih

end Go.Proofs.YtgmmclcpfmnoiaaGreatDoor
