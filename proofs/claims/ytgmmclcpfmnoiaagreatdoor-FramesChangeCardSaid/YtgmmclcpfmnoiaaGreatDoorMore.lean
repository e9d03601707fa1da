/-
  Small words on rows of one's own, on boxes behind a call.
-/
import Derived.Test.YtgmmclcpfmnoiaaGreatDoorChain
import Derived.Test.YtgmmclcpfmnoiaaGreatDoorPlain1
import Derived.Test.YtgmmclcpfmnoiaaGreatDoorStrSet
namespace Go.Proofs.YtgmmclcpfmnoiaaGreatDoor
open Go.RowKit

theorem OQ.form1 {α : Type} {e n : Nat} {R : Reading α} {S : Blocks} {w : World} {v : Value} {xs : List α} (h : OQ e n R S w v xs) (hne : xs ≠ []) : ∃ g c, v = .slice (some ⟨g, 0, none⟩) xs.length c ∧ xs.length ≤ c := by
  obtain ⟨css, ho, _⟩ := h
  rcases ho.2 with ⟨h1, h2⟩ | ⟨g, cap, cur, h1, _, _, h4, _⟩
  · exact absurd (List.eq_nil_of_length_eq_zero h2) hne
  · exact ⟨g, cap, h1, h4⟩


theorem chg_a (w : World) (o : Obj) : Chg No w (w.alloc o).drew := ((Chg.refl _ _).alloc _).drew
theorem chg_b (w : World) (o o2 : Obj) : Chg No w ((w.alloc o).alloc o2).drew := (((Chg.refl _ _).alloc _).alloc _).drew
theorem two_cell {w w1 : World} {o : Obj} {c : Array Value} {T : Nat} (d : Chg No ((w.alloc o).alloc (.cells c T)).drew w1) {u : Value} {j : Nat} (h : c[j]? = some u) : w1.cell? ⟨w.heap.size + 1, j, none⟩ = some u := by
  rw [d.cell (p := ⟨w.heap.size + 1, j, none⟩) (by show _ < ((w.alloc o).alloc (.cells c T)).heap.size; simp) (fun h => h)]
  show ((w.alloc o).alloc (.cells c T)).cell? _ = _
  have := box_keep (Chg.refl No ((w.alloc o).alloc (.cells c T))) h
  rwa [size_alloc1] at this
theorem two_frozen {w w1 : World} {o : Obj} {c : Array Value} {T : Nat} (d : Chg No ((w.alloc o).alloc (.cells c T)).drew w1) (j : Nat) : w1.frozen? ⟨w.heap.size + 1, j, none⟩ = false := by
  rw [d.frozen (p := ⟨w.heap.size + 1, j, none⟩) (by show _ < ((w.alloc o).alloc (.cells c T)).heap.size; simp) (fun h => h)]
  show ((w.alloc o).alloc (.cells c T)).frozen? _ = _
  have := heap_alloc_new (w.alloc o) (.cells c T)
  rw [size_alloc1] at this
  exact blk_frozen this j
theorem IsChain.ne {cs : List Cl} {s : Bs} {l : List Bs} (h : IsChain cs s l) (hs : s ≠ []) : l ≠ [] := by
  rintro rfl
  cases h
  exact hs rfl
theorem HW.drew' {S O : Blocks} {w : World} {b mb : Nat} {nv : Value} {es : List Ent} {lk : Bool} (h : HW S O w b mb nv es lk) : HW S O w.drew b mb nv es lk := h.new (Chg.refl _ _).drew

theorem zero_int (w : World) : (zeroValue 3).run Tryz.prog w = .ok (.int .i64 0) w := by kernel_rfl


theorem owns_lit (w : World) (e : TypeId) (cs : List Value) (hm : cs.length ≤ maxLen) : (w.alloc (.cells cs.toArray e)).ownsRow 0 e 1 (.slice (some ⟨w.heap.size, 0, none⟩) cs.length cs.length) cs.length cs :=
  ⟨by simp, .inr ⟨w.heap.size, cs.length, cs.toArray, rfl, Nat.zero_le _, heap_alloc_new _ _, Nat.le_refl _, hm, by simp, by simp⟩⟩
theorem oq_lit (w : World) (s : Bs) : OQ 9 1 RStr No (w.alloc (.cells #[strV s] 9)) (.slice (some ⟨w.heap.size, 0, none⟩) 1 1) [s] :=
  ⟨[[strV s]], owns_lit w _ [strV s] (by unfold maxLen; simp), Els.single rfl rfl⟩
theorem str_els {S : Blocks} {w : World} {xs : List Bs} {css : List (List Value)} (h : Els 1 RStr S w xs css) : Els 1 RStr No w xs css := ⟨h.1, fun i x cs hi hc => h.2 i x cs hi hc⟩
theorem ub_of {ub n c q : Nat} {W : World} (h : (Value.slice (some ⟨ub, 0, none⟩) n c).ownBlock = (Value.slice (some ⟨q, 0, none⟩) 1 1).ownBlock ∨ ∃ b, (Value.slice (some ⟨ub, 0, none⟩) n c).ownBlock = some b ∧ W.heap.size ≤ b) (hq : q ≤ W.heap.size) : q ≤ ub := by
  rcases h with h | ⟨b, h, hb⟩
  · simp [Value.ownBlock] at h; omega
  · simp [Value.ownBlock] at h; omega
theorem size_al (w : World) (o : Obj) : w.heap.size ≤ ((w.alloc o).drew).heap.size := by
  show w.heap.size ≤ (w.alloc o).heap.size
  simp

theorem two_block {w w1 : World} {o : Obj} {c : Array Value} {T : Nat} (d : Chg No ((w.alloc o).alloc (.cells c T)).drew w1) : w1.heap[w.heap.size + 1]? = some (.cells c T (0, 0)) := by
  rw [d.block _ (by show _ < ((w.alloc o).alloc (.cells c T)).heap.size; simp) (fun h => h)]
  have := heap_alloc_new (w.alloc o) (.cells c T)
  rw [size_alloc1] at this
  exact this
theorem one_blockA {w w1 : World} {c : Array Value} {T : Nat} (d : Chg No (w.alloc (.cells c T)).drew w1) : w1.heap[w.heap.size]? = some (.cells c T (0, 0)) := by
  rw [d.block _ (by show _ < (w.alloc (.cells c T)).heap.size; simp) (fun h => h)]
  exact heap_alloc_new _ _
theorem one_blockB {w w1 : World} {c : Array Value} {T : Nat} {o : Obj} (d : Chg No ((w.alloc (.cells c T)).alloc o).drew w1) : w1.heap[w.heap.size]? = some (.cells c T (0, 0)) := by
  rw [d.block _ (by show _ < ((w.alloc (.cells c T)).alloc o).heap.size; simp; omega) (fun h => h)]
  show ((w.alloc (.cells c T)).alloc o).heap[w.heap.size]? = _
  rw [Below.heap_alloc _ _ _ (by simp)]
  exact heap_alloc_new _ _
theorem past_two {w : World} {o o2 : Obj} {k : Nat} (h : ((w.alloc o).alloc o2).drew.heap.size ≤ k) : k ≠ w.heap.size + 1 := by
  have h : ((w.alloc o).alloc o2).heap.size ≤ k := h
  simp at h
  omega

end Go.Proofs.YtgmmclcpfmnoiaaGreatDoor
