/-
  Rows of one's own: a store of an element's cells, rows that are made.
-/
import Derived.Test.YtgmmclcpfmnoiaaGreatDoorExt
import Derived.Test.YtgmmclcpfmnoiaaGreatDoorTextW1
import Derived.Test.YtgmmclcpfmnoiaaGreatDoorMore
import Derived.Laws.OwnMore
import Derived.IntWalk
import Derived.Test.YtgmmclcpfmnoiaaGreatDoorWorld2
import Derived.Test.YtgmmclcpfmnoiaaGreatDoorTwin
import Derived.BigRegion
import Derived.Deep.RegionHeld3
namespace Go.Proofs.YtgmmclcpfmnoiaaGreatDoor
open Go.RowKit

/-- Cells written one behind the other. -/
def setCs (w : World) (g : Nat) : Nat → List Value → World
  | _, [] => w
  | o, u :: us => setCs (w.setCell ⟨g, o, none⟩ u) g (o + 1) us
def setLs (l : List Value) : Nat → List Value → List Value
  | _, [] => l
  | o, u :: us => setLs (l.set o u) (o + 1) us
theorem setLs_app (a b us : List Value) (o : Nat) : setLs (a ++ b) (a.length + o) us = a ++ setLs b o us := by
  induction us generalizing b o with
  | nil => rfl
  | cons u us ih =>
    show setLs ((a ++ b).set (a.length + o) u) (a.length + o + 1) us = a ++ setLs (b.set o u) (o + 1) us
    rw [List.set_append_right _ _ (by omega), Nat.add_sub_cancel_left, Nat.add_assoc]
    exact ih _ _
theorem setLs_head (c b us : List Value) (h : c.length = us.length) : setLs (c ++ b) 0 us = us ++ b := by
  induction us generalizing c b with
  | nil =>
    have : c = [] := List.eq_nil_of_length_eq_zero h
    subst this; rfl
  | cons u us ih =>
    cases c with
    | nil => simp at h
    | cons x c =>
      show setLs ((x :: c ++ b).set 0 u) 1 us = u :: us ++ b
      have := setLs_app [u] (c ++ b) us 0
      simp only [List.length_singleton, List.singleton_append, Nat.add_zero] at this
      rw [show (x :: c ++ b).set 0 u = u :: (c ++ b) from rfl, this, ih c b (by simpa using h)]
      rfl
theorem setLs_flat {css : List (List Value)} {n : Nat} (hn : ∀ cs ∈ css, cs.length = n) (i : Nat) (hi : i < css.length) (us : List Value) (hu : us.length = n) : setLs css.flatten (i * n) us = (css.set i us).flatten := by
  induction css generalizing i with
  | nil => simp at hi
  | cons c r ih =>
    have hc := hn c (List.mem_cons_self ..)
    cases i with
    | zero => rw [Nat.zero_mul, List.flatten_cons, setLs_head c _ us (by omega)]; rfl
    | succ i =>
      rw [List.flatten_cons, show (i + 1) * n = c.length + i * n from by rw [hc, Nat.add_mul]; omega, setLs_app, ih (fun cs h => hn cs (List.mem_cons_of_mem _ h)) i (by simpa using hi)]
      rfl
theorem setCs_own {w : World} {g : Nat} {e : TypeId} {size m cap : Nat} {xs : List Value} (us : List Value) (o : Nat) (h : w.ownsRow 0 e size (.slice (some ⟨g, 0, none⟩) m cap) m xs) :
    (setCs w g o us).ownsRow 0 e size (.slice (some ⟨g, 0, none⟩) m cap) m (setLs xs o us) ∧ Chg (· = g) w (setCs w g o us) := by
  induction us generalizing w o xs with
  | nil => exact ⟨h, Chg.refl _ _⟩
  | cons u us ih =>
    obtain ⟨h1, h2⟩ := h.stored o u
    obtain ⟨h3, h4⟩ := ih (o + 1) h1
    exact ⟨h3, (chg_setCell w g o u).trans h4 (fun _ _ h => h)⟩
section
variable {α : Type} {n : Nat} {R : Reading α} {S : Blocks} {w : World} {xs : List α}
/-- Element i written anew. -/
theorem OQ.store {e g m cap : Nat} (gd : Good R) (h : OQ e n R S w (.slice (some ⟨g, 0, none⟩) m cap) xs) (hS : ∀ k, S k → ¬ k = g) (i : Nat) (hi : i < xs.length) {x : α} {cs : List Value} (hR : R S w x cs) (hl : cs.length = n) :
    OQ e n R S (setCs w g (i * n) cs) (.slice (some ⟨g, 0, none⟩) m cap) (xs.set i x) ∧ Chg (· = g) w (setCs w g (i * n) cs) := by
  obtain ⟨css, ho, hE⟩ := h
  have hm : m = xs.length := by
    rcases ho.2 with ⟨h1, -⟩ | ⟨b, cap', cur, h1, -⟩
    · cases h1
    · cases h1; rfl
  subst hm
  obtain ⟨h1, h2⟩ := setCs_own cs (i * n) ho
  rw [setLs_flat hE.lens i (by rw [hE.1]; exact hi) cs hl] at h1
  refine ⟨⟨css.set i cs, by rw [List.length_set]; exact h1, by rw [List.length_set, List.length_set]; exact hE.1, fun j y ds hj hd => ?_⟩, h2⟩
  rw [List.getElem?_set] at hj hd
  by_cases hij : i = j
  · subst hij
    rw [if_pos rfl] at hj hd
    rw [if_pos hi] at hj
    rw [if_pos (by rw [hE.1]; exact hi)] at hd
    cases hj
    cases hd
    exact ⟨hl, gd.keep hR h2 hS⟩
  · rw [if_neg hij] at hj hd
    exact ⟨(hE.2 j y ds hj hd).1, gd.keep (hE.2 j y ds hj hd).2 h2 hS⟩
/-- What the walk reads of element i. -/
theorem OQ.at_ {e g m cap : Nat} (h : OQ e n R S w (.slice (some ⟨g, 0, none⟩) m cap) xs) (i : Nat) (hi : i < xs.length) : ∃ cs cur, cs.length = n ∧ R S w xs[i] cs ∧ w.heap[g]? = some (.cells cur e (0, 0)) ∧ ∀ j u, cs[j]? = some u → w.cell? ⟨g, i * n + j, none⟩ = some u := by
  have hb := h.block (k := g) rfl
  obtain ⟨css, ho, hE⟩ := h
  obtain ⟨cur, hcur⟩ := hb
  have hil : i < css.length := by rw [hE.1]; exact hi
  obtain ⟨c1, c2⟩ := hE.2 i xs[i] css[i] (List.getElem?_eq_getElem hi) (List.getElem?_eq_getElem hil)
  refine ⟨css[i], cur, c1, c2, hcur, fun j u hj => ?_⟩
  have hjn : j < n := by rw [← c1]; exact (List.getElem?_eq_some_iff.1 hj).1
  have := World.ownsRow.cells (g := g) ho rfl (i * n + j) u (by rw [flat_at hE.lens i j (List.getElem?_eq_getElem hil) hjn]; exact hj)
  rwa [add_mk, Nat.zero_add] at this
end

/-- n zero elements, as make lays them. -/
theorem madeCells_flat (z : List Value) (n : Nat) (hz : 0 < z.length) : (madeCells z.toArray (n * z.length)).toList = (List.replicate n z).flatten := by
  apply List.ext_getElem?
  intro j
  by_cases hj : j < n * z.length
  · have hq : j / z.length < n := (Nat.div_lt_iff_lt_mul hz).2 hj
    have hr : j % z.length < z.length := Nat.mod_lt _ hz
    have e1 : (List.replicate n z).flatten[j / z.length * z.length + j % z.length]? = z[j % z.length]? :=
      flat_at (css := List.replicate n z) (n := z.length) (fun cs h => by rw [List.eq_of_mem_replicate h]) (j / z.length) (j % z.length) (by rw [List.getElem?_replicate, if_pos hq]) hr
    rw [show j / z.length * z.length + j % z.length = j from by rw [Nat.mul_comm]; exact Nat.div_add_mod j z.length] at e1
    rw [e1]
    simp only [madeCells, Array.toList_map, Array.toList_range, List.getElem?_map, List.getElem?_range hj, Option.map_some, List.size_toArray]
    rw [List.getElem?_eq_getElem hr]
    congr 1
    exact getElem!_pos z.toArray (j % z.length) (by simpa using hr)
  · rw [List.getElem?_eq_none (by simp [madeCells]; omega), List.getElem?_eq_none (by rw [List.length_flatten, List.map_replicate, List.sum_replicate_nat]; omega)]
theorem OQ.made {α : Type} {R : Reading α} {S : Blocks} (w : World) (e : TypeId) (x : α) (cs : List Value) (n : Nat) (hc : 0 < cs.length) (hR : ∀ W, R S W x cs) (hn : n ≤ maxLen) :
    OQ e cs.length R S (w.alloc (.cells (madeCells cs.toArray (n * cs.length)) e)) (.slice (some ⟨w.heap.size, 0, none⟩) n n) (List.replicate n x) := by
  refine ⟨List.replicate n cs, ?_, by simp, fun i y ds hi hd => ?_⟩
  · rw [List.length_replicate, ← madeCells_flat cs n hc]
    refine ⟨by simp [madeCells], .inr ⟨w.heap.size, n, madeCells cs.toArray (n * cs.length), rfl, Nat.zero_le _, heap_alloc_new _ _, Nat.le_refl _, hn, size_madeCells _ _, ?_⟩⟩
    rw [List.take_of_length_le (by simp [madeCells])]
  · rw [List.getElem?_replicate] at hi hd
    split at hi
    · split at hd
      · cases hi; cases hd; exact ⟨rfl, hR _⟩
      · contradiction
    · cases hi
/-- The second of two cells, behind a store of the first. -/
theorem second_cell {w : World} {g e i : Nat} {cur : Array Value} {v x : Value} (h : w.heap[g]? = some (.cells cur e (0, 0))) (hv : w.cell? ⟨g, i + 1, none⟩ = some v) :
    (w.setCell ⟨g, i, none⟩ x).cell? ⟨g, i + 1, none⟩ = some v ∧ (w.setCell ⟨g, i, none⟩ x).frozen? ⟨g, i + 1, none⟩ = false := by
  have hc : cur[i + 1]? = some v := by simpa [World.cell?, h] using hv
  have hs := setCell_at (o := i) h x
  refine ⟨blk_cell hs ?_, blk_frozen hs _⟩
  rw [Array.getElem?_setIfInBounds_ne (by omega)]; exact hc

theorem cell_far {w : World} {g k : Nat} (i : Nat) (hk : ¬ g = k) (u v : Value) {o : Nat} : ((w.setCell ⟨g, i, none⟩ u).setCell ⟨g, i + 1, none⟩ v).cell? ⟨k, o, none⟩ = w.cell? ⟨k, o, none⟩ :=
  (World.cell?_setCell_far _ _ _ _ hk).trans (World.cell?_setCell_far _ _ _ _ hk)

end Go.Proofs.YtgmmclcpfmnoiaaGreatDoor
