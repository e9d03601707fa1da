/-
  Classes one above the other, plainly: who reaches whom, their chains.
-/
import Derived.Test.YtgmmclcpfmnoiaaGreatDoorHierSpec
namespace Go.Proofs.YtgmmclcpfmnoiaaGreatDoor
open Go.RowKit

def throwableName : Bs := [84, 104, 114, 111, 119, 97, 98, 108, 101]
def firstNames : List Bs := [objectName, throwableName, [78, 105, 108, 69, 114, 114, 111, 114], [66, 111, 117, 110, 100, 115, 69, 114, 114, 111, 114], [67, 97, 115, 116, 69, 114, 114, 111, 114], [68, 105, 118, 69, 114, 114, 111, 114], [68, 101, 112, 116, 104, 69, 114, 114, 111, 114], [72, 101, 97, 112, 69, 114, 114, 111, 114]]
def initM : Mt := ⟨0, initName, ⟨[], true, ⟨0, []⟩⟩, 0, 0, [], []⟩
def firstSuper : Nat → Bs
  | 0 => []
  | 1 => objectName
  | _ + 2 => throwableName
/-- The classes that are there from the beginning. -/
def firsts : List Cl := (List.range 8).map fun i => ⟨0, firstNames[i]?.getD [], firstSuper i, [], [], [initM]⟩

/-- The i-th name. -/
def cName (i : Nat) : Bs := [67, UInt8.ofNat (65 + i / 26), UInt8.ofNat (97 + i % 26)]
def cClass (n : Nat) (circle : Bool) (i : Nat) : Cl :=
  ⟨0, cName i, if i = 0 then (if circle then cName (n - 1) else objectName) else cName (i - 1), [], [], []⟩
def deepCls (n : Nat) (circle : Bool) : List Cl := firsts ++ (List.range n).map (cClass n circle)

theorem cName_inj {i j : Nat} (hi : i < 45) (hj : j < 45) (h : cName i = cName j) : i = j := by
  unfold cName at h
  simp only [List.cons.injEq, and_true, true_and] at h
  obtain ⟨h1, h2⟩ := h
  have e1 := congrArg UInt8.toNat h1
  have e2 := congrArg UInt8.toNat h2
  simp only [UInt8.toNat_ofNat'] at e1 e2
  omega
theorem cName_ne_nil (i : Nat) : cName i ≠ [] := by simp [cName]
theorem firsts_names : ∀ c ∈ firsts, 6 ≤ c.name.length := by decide
theorem fnd_first_c (i : Nat) : firsts.find? (fun c => c.name == cName i) = none := by
  rw [List.find?_eq_none]
  intro c hc
  have := firsts_names c hc
  simp only [beq_iff_eq]
  intro e
  rw [e] at this
  simp [cName] at this
theorem fnd_c {n i : Nat} {circle : Bool} (hn : n ≤ 45) (hi : i < n) : fnd (deepCls n circle) (cName i) = some (cClass n circle i) := by
  unfold fnd deepCls
  rw [List.find?_append, fnd_first_c, Option.none_or, List.find?_map, Option.map_eq_some_iff]
  refine ⟨i, ?_, rfl⟩
  rw [List.find?_range_eq_some]
  refine ⟨by simp [cClass], List.mem_range.2 hi, fun j hj => ?_⟩
  simp only [Function.comp, cClass, Bool.not_eq_true', beq_eq_false_iff_ne]
  intro e
  have := cName_inj (by omega) (by omega) e
  omega
theorem fnd_object (n : Nat) (circle : Bool) : fnd (deepCls n circle) objectName = some ⟨0, objectName, [], [], [], [initM]⟩ := by
  unfold fnd deepCls
  rw [List.find?_append]
  rfl

/-- Without a circle nothing but what stands ahead is reached. -/
theorem reach_c {n i : Nat} (hn : n ≤ 45) (hi : i < n) {t : Bs} (h : Reach (deepCls n false) (cName i) t) : t = objectName ∨ ∃ j, j < i ∧ t = cName j := by
  have up : ∀ {k : Nat} {u : Bs}, k < n → Up (deepCls n false) (cName k) u → u = objectName ∨ ∃ j, j < k ∧ u = cName j := by
    rintro k u hk ⟨c, hc, hu, -⟩
    rw [fnd_c hn hk] at hc
    cases hc
    simp only [cClass, List.mem_singleton] at hu
    subst hu
    by_cases h0 : k = 0
    · left; simp [h0]
    · right; exact ⟨k - 1, by omega, by simp [h0]⟩
  induction h with
  | one h => exact up hi h
  | more _ h ih =>
    rcases ih with rfl | ⟨j, hj, rfl⟩
    · obtain ⟨c, hc, hu, hne⟩ := h
      rw [fnd_object] at hc
      cases hc
      simp only [List.mem_singleton] at hu
      exact absurd hu hne
    · rcases up (by omega) h with h | ⟨m, hm, h⟩
      · exact .inl h
      · exact .inr ⟨m, by omega, h⟩
theorem no_circle {n i : Nat} (hn : n ≤ 45) (hi : i < n) : ¬ Reach (deepCls n false) (cName i) (cName i) := fun h => by
  rcases reach_c hn hi h with h | ⟨j, hj, h⟩
  · have := congrArg List.length h; simp [cName, objectName] at this
  · have := cName_inj (by omega) (by omega) h; omega
/-- In a circle the first class reaches itself. -/
theorem circle_c {n : Nat} (hn : n ≤ 45) (h0 : 0 < n) : Reach (deepCls n true) (cName 0) (cName 0) := by
  have key : ∀ d, d < n → Reach (deepCls n true) (cName 0) (cName (n - 1 - d)) := by
    intro d
    induction d with
    | zero => intro _; exact .one ⟨_, fnd_c hn h0, by simp [cClass], cName_ne_nil _⟩
    | succ d ih =>
      intro hd
      refine .more (ih (by omega)) ⟨_, fnd_c hn (by omega), ?_, cName_ne_nil _⟩
      have : n - 1 - d ≠ 0 := by omega
      simp only [cClass, this, ↓reduceIte, List.mem_singleton]
      rw [show n - 1 - (d + 1) = n - 1 - d - 1 from by omega]
  have := key (n - 1) (by omega)
  rwa [Nat.sub_self] at this

def chainL : Nat → List Bs
  | 0 => [cName 0, objectName]
  | i + 1 => cName (i + 1) :: chainL i
theorem chainL_len (i : Nat) : (chainL i).length = i + 2 := by
  induction i with
  | zero => rfl
  | succ i ih => simp [chainL, ih]
theorem chainL_is {n i : Nat} (hn : n ≤ 45) (hi : i < n) : IsChain (deepCls n false) (cName i) (chainL i) := by
  induction i with
  | zero =>
    refine .cons (cName_ne_nil _) (fnd_c hn hi) ?_
    simp only [cClass, ↓reduceIte, Bool.false_eq_true]
    exact .cons (by decide) (fnd_object _ _) .nil
  | succ i ih =>
    refine .cons (cName_ne_nil _) (fnd_c hn hi) ?_
    simp only [cClass, Nat.add_one_ne_zero, ↓reduceIte, Nat.add_sub_cancel]
    exact ih (by omega)
theorem chainL_mem {i : Nat} {s : Bs} (h : s ∈ chainL i) : s = objectName ∨ ∃ j, j ≤ i ∧ s = cName j := by
  induction i with
  | zero => simp only [chainL, List.mem_cons, List.not_mem_nil, or_false] at h; rcases h with h | h; exact .inr ⟨0, Nat.le_refl _, h⟩; exact .inl h
  | succ i ih =>
    rcases List.mem_cons.1 h with h | h
    · exact .inr ⟨i + 1, Nat.le_refl _, h⟩
    · rcases ih h with h | ⟨j, hj, h⟩
      · exact .inl h
      · exact .inr ⟨j, by omega, h⟩
/-- Classes without interfaces have none. -/
theorem walks_none {cs : List Cl} {l : List Bs} (h : ∀ s ∈ l, ∃ c, fnd cs s = some c ∧ c.faces = []) : Walks cs [] l [] := by
  induction l with
  | nil => exact .nil
  | cons s l ih =>
    obtain ⟨c, hc, hf⟩ := h s (List.mem_cons_self ..)
    exact .cons hc (by rw [hf]; exact .nil) (ih fun s hs => h s (List.mem_cons_of_mem _ hs))
theorem chainL_walks {n i : Nat} (hn : n ≤ 45) (hi : i < n) : Walks (deepCls n false) [] (chainL i) [] := by
  refine walks_none fun s hs => ?_
  rcases chainL_mem hs with rfl | ⟨j, hj, rfl⟩
  · exact ⟨_, fnd_object _ _, rfl⟩
  · exact ⟨_, fnd_c hn (by omega), rfl⟩
theorem chainL_owes {n i : Nat} (hn : n ≤ 45) (hi : i < n) (x : Cl) : owesB (deepCls n false) x (chainL i) [] = true := by
  unfold owesB
  have : (([] : List Bs) ++ chainL i).any (lackAt (deepCls n false) (chainL i)) = false := by
    rw [List.nil_append, List.any_eq_false]
    intro s hs
    rcases chainL_mem hs with rfl | ⟨j, hj, rfl⟩
    · unfold lackAt; rw [fnd_object]; simp [initM, lacksB]
    · unfold lackAt; rw [fnd_c hn (by omega)]; simp [cClass]
  rw [this]; simp

end Go.Proofs.YtgmmclcpfmnoiaaGreatDoor
