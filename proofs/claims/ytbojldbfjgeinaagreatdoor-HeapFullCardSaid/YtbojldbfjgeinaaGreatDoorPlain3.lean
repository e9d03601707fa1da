/-
  Package module's Twin, walked at an empty pool and classes without interfaces, fields, methods.
-/
import Derived.Test.YtbojldbfjgeinaaGreatDoorPlain2
import Derived.Test.YtbojldbfjgeinaaGreatDoorClones
import Derived.Test.YtbojldbfjgeinaaGreatDoorWorld2
namespace Go.Proofs.YtbojldbfjgeinaaGreatDoor
open Go.RowKit

/-- Only blocks that are there. -/
def Below' (S : Blocks) (w : World) : Blocks := fun k => S k ∧ k < w.heap.size
abbrev Bounds {α : Type} (R : Reading α) : Prop := ∀ (S : Blocks) (w : World) (x : α) (cs : List Value), R S w x cs → R (Below' S w) w x cs
theorem SQ.bound {α : Type} {n : Nat} {R : Reading α} {S : Blocks} {w : World} {v : Value} {xs : List α} (b : Bounds R) (h : SQ n R S w v xs) : SQ n R (Below' S w) w v xs := by
  obtain ⟨a, cap, rfl, h1, h2, h3⟩ := h
  refine ⟨a, cap, rfl, h1, h2, fun p hp hx => ?_⟩
  obtain ⟨h4, h5, h6, h7⟩ := h3 p hp hx
  refine ⟨h4, h5, ⟨h6, h5⟩, fun i x hi => ?_⟩
  obtain ⟨cs, h8, h9, h10⟩ := h7 i x hi
  exact ⟨cs, h8, b S w x cs h9, h10⟩
theorem bStr : Bounds RStr := fun _ _ _ _ h => h
theorem bByte : Bounds RByte := fun _ _ _ _ h => h
theorem bTy : Bounds RTy := fun _ _ _ _ h => h
theorem bFd : Bounds RFd := fun _ _ _ _ h => h
theorem bHd : Bounds RHd := fun _ _ _ _ h => h
theorem bEn : Bounds REn := fun _ _ _ _ h => h
theorem bMt : Bounds RMt := fun _ _ _ _ ⟨v, c, h, h1, h2, h3, h4⟩ => ⟨v, c, h, h1, h2.bound bTy, h3.bound bByte, h4.bound bHd⟩
theorem bCl : Bounds RCl := fun _ _ _ _ ⟨f, g, m, h1, h2, h3, h4⟩ => ⟨f, g, m, h1, h2.bound bStr, h3.bound bFd, h4.bound bMt⟩

/-- Block g holds classes without interfaces, fields, methods. -/
def PRow (w : World) (g : Nat) (cs : List Cl) : Prop :=
  ∃ cur : Array Value, w.heap[g]? = some (.cells cur 40 (0, 0)) ∧ ∀ (i : Nat) (hi : i < cs.length), (∃ a1 c1 a2 c2 a3 c3, cur[i * 6]? = some (.int .i64 cs[i].flags) ∧ cur[i * 6 + 1]? = some (strV cs[i].name) ∧ cur[i * 6 + 2]? = some (strV cs[i].super) ∧
    cur[i * 6 + 3]? = some (.slice a1 0 c1) ∧ cur[i * 6 + 4]? = some (.slice a2 0 c2) ∧ cur[i * 6 + 5]? = some (.slice a3 0 c3) ∧ (a1 = none → c1 = 0) ∧ (a2 = none → c2 = 0) ∧ (a3 = none → c3 = 0)) ∧ cs[i].faces = [] ∧ cs[i].fields = [] ∧ cs[i].methods = []
section
variable {w w' : World} {g : Nat} {cs : List Cl}
theorem PRow.lt (h : PRow w g cs) : g < w.heap.size := let ⟨_, h, _⟩ := h; heap_lt h
theorem PRow.keep {T : Blocks} (h : PRow w g cs) (c : Chg T w w') (hn : ¬ T g) : PRow w' g cs := let ⟨cur, h1, h2⟩ := h; ⟨cur, (c.block g (heap_lt h1) hn).trans h1, h2⟩
theorem PRow.at_ (h : PRow w g cs) (i : Nat) (hi : i < cs.length) : ∃ a1 c1 a2 c2 a3 c3, w.cell? ⟨g, i * 6 + 3, none⟩ = some (.slice a1 0 c1) ∧ w.cell? ⟨g, i * 6 + 4, none⟩ = some (.slice a2 0 c2) ∧ w.cell? ⟨g, i * 6 + 5, none⟩ = some (.slice a3 0 c3) ∧ (a1 = none → c1 = 0) ∧ (a2 = none → c2 = 0) ∧ (a3 = none → c3 = 0) := by
  obtain ⟨cur, h1, h2⟩ := h
  obtain ⟨⟨a1, c1, a2, c2, a3, c3, -, -, -, k3, k4, k5, z1, z2, z3⟩, -⟩ := h2 i hi
  exact ⟨a1, c1, a2, c2, a3, c3, by simp [World.cell?, h1, k3], by simp [World.cell?, h1, k4], by simp [World.cell?, h1, k5], z1, z2, z3⟩
theorem PRow.frozen (h : PRow w g cs) (j : Nat) : w.frozen? ⟨g, j, none⟩ = false := by
  obtain ⟨cur, h1, h2⟩ := h
  simp [World.frozen?, h1]
theorem PRow.set (h : PRow w g cs) (i j : Nat) (hj : j = 3 ∨ j = 4 ∨ j = 5) (a : Option Addr) (c : Nat) (ha : a = none → c = 0) : PRow (w.setCell ⟨g, i * 6 + j, none⟩ (.slice a 0 c)) g cs := by
  obtain ⟨cur, h1, h2⟩ := h
  refine ⟨cur.setIfInBounds (i * 6 + j) (.slice a 0 c), setCell_at h1 _, fun m hm => ?_⟩
  obtain ⟨⟨a1, c1, a2, c2, a3, c3, k0, k1, k2, k3, k4, k5, z1, z2, z3⟩, k6⟩ := h2 m hm
  have key : ∀ (p : Nat) (u : Value), cur[p]? = some u → i * 6 + j ≠ p → (cur.setIfInBounds (i * 6 + j) (.slice a 0 c))[p]? = some u := fun p u hp hne => by
    rw [Array.getElem?_setIfInBounds_ne hne]; exact hp
  have key2 : ∀ (p : Nat) (u : Value), cur[p]? = some u → i * 6 + j = p → (cur.setIfInBounds (i * 6 + j) (.slice a 0 c))[p]? = some (.slice a 0 c) := fun p u hp he => by
    subst he
    have := (Array.getElem?_eq_some_iff.1 hp).1
    rw [Array.getElem?_setIfInBounds_self_of_lt this]
  refine ⟨?_, k6⟩
  by_cases e3 : i * 6 + j = m * 6 + 3
  · exact ⟨a, c, a2, c2, a3, c3, key _ _ k0 (by omega), key _ _ k1 (by omega), key _ _ k2 (by omega), key2 _ _ k3 e3, key _ _ k4 (by omega), key _ _ k5 (by omega), ha, z2, z3⟩
  · by_cases e4 : i * 6 + j = m * 6 + 4
    · exact ⟨a1, c1, a, c, a3, c3, key _ _ k0 (by omega), key _ _ k1 (by omega), key _ _ k2 (by omega), key _ _ k3 (by omega), key2 _ _ k4 e4, key _ _ k5 (by omega), z1, ha, z3⟩
    · by_cases e5 : i * 6 + j = m * 6 + 5
      · exact ⟨a1, c1, a2, c2, a, c, key _ _ k0 (by omega), key _ _ k1 (by omega), key _ _ k2 (by omega), key _ _ k3 (by omega), key _ _ k4 (by omega), key2 _ _ k5 e5, z1, z2, ha⟩
      · exact ⟨a1, c1, a2, c2, a3, c3, key _ _ k0 (by omega), key _ _ k1 (by omega), key _ _ k2 (by omega), key _ _ k3 e3, key _ _ k4 e4, key _ _ k5 e5, z1, z2, z3⟩
theorem SQ.empty {α : Type} {n : Nat} {R : Reading α} {S : Blocks} (a : Option Addr) (c : Nat) (h : a = none → c = 0) : SQ n R S w (.slice a 0 c) ([] : List α) := ⟨a, c, rfl, Nat.zero_le _, h, fun _ _ h => absurd rfl h⟩
theorem PRow.sq (h : PRow w g cs) {T : Blocks} (hg : T g) (n cap : Nat) (hn : n = cs.length) (hc : cs.length ≤ cap) : SQ 6 RCl T w (.slice (some ⟨g, 0, none⟩) n cap) cs := by
  have hlt := h.lt
  obtain ⟨cur, h1, h2⟩ := h
  subst hn
  refine ⟨_, cap, rfl, hc, (fun h => by cases h), fun p hp hx => ?_⟩
  cases hp
  refine ⟨rfl, hlt, hg, fun i x hi => ?_⟩
  obtain ⟨hil, rfl⟩ := List.getElem?_eq_some_iff.1 hi
  obtain ⟨⟨a1, c1, a2, c2, a3, c3, k0, k1, k2, k3, k4, k5, z1, z2, z3⟩, y1, y2, y3⟩ := h2 i hil
  refine ⟨[.int .i64 cs[i].flags, strV cs[i].name, strV cs[i].super, .slice a1 0 c1, .slice a2 0 c2, .slice a3 0 c3], rfl, ⟨_, _, _, rfl, ?_, ?_, ?_⟩, fun j u hj => ?_⟩
  · rw [y1]; exact SQ.empty a1 c1 z1
  · rw [y2]; exact SQ.empty a2 c2 z2
  · rw [y3]; exact SQ.empty a3 c3 z3
  · rw [add_mk, add_mk, Nat.zero_add]
    simp only [World.cell?, h1]
    rcases j with _ | _ | _ | _ | _ | _ | j
    · simp only [List.getElem?_cons_zero, Option.some.injEq] at hj; subst hj; simpa using k0
    · simp only [List.getElem?_cons_succ, List.getElem?_cons_zero, Option.some.injEq] at hj; subst hj; simpa using k1
    · simp only [List.getElem?_cons_succ, List.getElem?_cons_zero, Option.some.injEq] at hj; subst hj; simpa using k2
    · simp only [List.getElem?_cons_succ, List.getElem?_cons_zero, Option.some.injEq] at hj; subst hj; simpa using k3
    · simp only [List.getElem?_cons_succ, List.getElem?_cons_zero, Option.some.injEq] at hj; subst hj; simpa using k4
    · simp only [List.getElem?_cons_succ, List.getElem?_cons_zero, Option.some.injEq] at hj; subst hj; simpa using k5
    · simp at hj
/-- A row of one's own of such classes. -/
theorem OQ.prow {S : Blocks} {v : Value} (h : OQ 40 6 RCl S w v cs) (hne : cs ≠ []) (hp : ∀ c ∈ cs, c.faces = [] ∧ c.fields = [] ∧ c.methods = []) : ∃ g cap, v = .slice (some ⟨g, 0, none⟩) cs.length cap ∧ cs.length ≤ cap ∧ PRow w g cs := by
  obtain ⟨css, ho, hE⟩ := h
  obtain ⟨h0, ho⟩ := ho
  rcases ho with ⟨_, h2⟩ | ⟨g, cap, cur, rfl, _, h3, h4, _, h5, h6⟩
  · exact absurd (List.eq_nil_of_length_eq_zero h2) hne
  · refine ⟨g, cap, rfl, h4, cur, h3, fun i hi => ?_⟩
    have hil : i < css.length := by rw [hE.1]; exact hi
    obtain ⟨c1, c2⟩ := hE.2 i cs[i] css[i] (List.getElem?_eq_getElem hi) (List.getElem?_eq_getElem hil)
    obtain ⟨y1, y2, y3⟩ := hp cs[i] (List.getElem_mem hi)
    refine ⟨?_, y1, y2, y3⟩
    obtain ⟨f, g', m, hcs, q1, q2, q3⟩ := c2
    rw [y1] at q1; rw [y2] at q2; rw [y3] at q3
    obtain ⟨a1, d1, rfl, -, z1⟩ := q1.form
    obtain ⟨a2, d2, rfl, -, z2⟩ := q2.form
    obtain ⟨a3, d3, rfl, -, z3⟩ := q3.form
    have hat : ∀ j, j < 6 → cur[i * 6 + j]? = css[i][j]? := fun j hj => by
      rw [← flat_at hE.lens i j (List.getElem?_eq_getElem hil) hj, ← h6]
      have hlt : i * 6 + j < css.flatten.length := by rw [hE.flat_len]; omega
      rw [List.getElem?_take, if_pos (by rw [← hE.flat_len]; exact hlt)]
      simp
    refine ⟨a1, d1, a2, d2, a3, d3, ?_, ?_, ?_, ?_, ?_, ?_, z1, z2, z3⟩
    · have := hat 0 (by omega); rw [hcs] at this; simpa using this
    · have := hat 1 (by omega); rw [hcs] at this; simpa using this
    · have := hat 2 (by omega); rw [hcs] at this; simpa using this
    · have := hat 3 (by omega); rw [hcs] at this; simpa using this
    · have := hat 4 (by omega); rw [hcs] at this; simpa using this
    · have := hat 5 (by omega); rw [hcs] at this; simpa using this
end

end Go.Proofs.YtbojldbfjgeinaaGreatDoor
