/-
  The law HierRules's rows, laid in new blocks.
-/
import Derived.Test.YtgmmclcpfmnoiaaGreatDoorDecS
namespace Go.Proofs.YtgmmclcpfmnoiaaGreatDoor
open Go.RowKit

/-- A literal row. -/
theorem sq_lit {α : Type} {n : Nat} {R : Reading α} {S : Blocks} {W : World} {g T : Nat} (xs : List α) (css : List (List Value)) (hb : W.heap[g]? = some (.cells css.flatten.toArray T (0, 0))) (hE : Els n R S W xs css) (hg : S g) : SQ n R S W (.slice (some ⟨g, 0, none⟩) xs.length xs.length) xs := by
  refine ⟨_, _, rfl, Nat.le_refl _, (fun h => by cases h), fun p hp _ => ?_⟩
  cases hp
  refine ⟨rfl, heap_lt hb, hg, fun i x hi => ?_⟩
  have hil : i < css.length := by rw [hE.1]; exact (List.getElem?_eq_some_iff.1 hi).1
  have hcs := List.getElem?_eq_getElem hil
  obtain ⟨c1, c2⟩ := hE.2 i x _ hi hcs
  refine ⟨css[i], c1, c2, fun j u hj => ?_⟩
  have hjn : j < n := by rw [← c1]; exact (List.getElem?_eq_some_iff.1 hj).1
  rw [add_mk, add_mk, Nat.zero_add]
  exact blk_cell hb (by rw [List.getElem?_toArray, flat_at hE.lens i j hcs hjn]; exact hj)
theorem els_two {α : Type} {n : Nat} {R : Reading α} {S : Blocks} {W : World} {x y : α} {cs ds : List Value} (h1 : R S W x cs) (l1 : cs.length = n) (h2 : R S W y ds) (l2 : ds.length = n) : Els n R S W [x, y] [cs, ds] := (Els.single h1 l1).append (Els.single h2 l2)
/-- Blocks laid one behind the other. -/
theorem alloc_all : ∀ (objs : List Obj) (w : World), Chg No w (objs.foldl World.alloc w) ∧ (objs.foldl World.alloc w).heap.size = w.heap.size + objs.length ∧ ∀ (k : Nat) (o : Obj), objs[k]? = some o → (objs.foldl World.alloc w).heap[w.heap.size + k]? = some o
  | [], w => ⟨Chg.refl _ _, rfl, fun k o h => by simp at h⟩
  | a :: r, w => by
    obtain ⟨h1, h2, h3⟩ := alloc_all r (w.alloc a)
    have hs := size_al1 w a
    refine ⟨((Chg.refl No w).alloc a).trans h1 (fun _ _ h => h), by show (r.foldl World.alloc (w.alloc a)).heap.size = _; rw [h2, hs, List.length_cons]; omega, fun k o hk => ?_⟩
    cases k with
    | zero =>
      simp only [List.getElem?_cons_zero, Option.some.injEq] at hk
      subst hk
      exact h1.blk (heap_alloc_new w a)
    | succ k =>
      simp only [List.getElem?_cons_succ] at hk
      have := h3 k o hk
      rw [hs] at this
      rw [show w.heap.size + (k + 1) = w.heap.size + 1 + k from by omega]
      exact this
abbrev mMc (n : Nat) : List Value := [.int .i64 0, strV mName, zNil, .bool true, .int .i64 0, strV [], .int .i64 1, .int .i64 1, .slice (some ⟨n, 0, none⟩) 1 1, zNil]
abbrev sMc (n : Nat) : List Value := [.int .i64 4, strV mName, zNil, .bool true, .int .i64 0, strV [], .int .i64 1, .int .i64 0, .slice (some ⟨n, 0, none⟩) 1 1, zNil]
abbrev aMc : List Value := [.int .i64 2, strV mName, zNil, .bool true, .int .i64 0, strV [], .int .i64 0, .int .i64 0, zNil, zNil]
abbrev rAc (n : Nat) : List Value := [.int .i64 0, strV [65], strV objectName, zNil, zNil, .slice (some ⟨n, 0, none⟩) 1 1]
abbrev rIc (n : Nat) : List Value := [.int .i64 1, strV [73], strV objectName, zNil, zNil, .slice (some ⟨n, 0, none⟩) 1 1]
abbrev xC0 : List Value := [.int .i64 0, strV [88], strV [65], zNil, zNil, zNil]
def rObjs (n : Nat) : List Obj := [.cells sigC 28, .cells #[.int .u8 42] 5, .cells (mMc (n + 1)).toArray 32, .cells #[.int .u8 42] 5, .cells (sMc (n + 3)).toArray 32, .cells aMc.toArray 32, .cells (mMc (n + 1)).toArray 32, .cells aMc.toArray 32, .cells (rAc (n + 6) ++ rIc (n + 7)).toArray 37, .cells xC0.toArray 37]
section
variable {S : Blocks} {W : World} {n : Nat}
theorem byte42 {g : Nat} (h : W.heap[g]? = some (.cells #[.int .u8 42] 5 (0, 0))) (hg : S g) : SQ 1 RByte S W (.slice (some ⟨g, 0, none⟩) 1 1) [42] :=
  sq_lit [42] [[.int .u8 42]] h (Els.single (x := (42 : UInt8)) rfl rfl) hg
theorem mM_read (h : SQ 1 RByte S W (.slice (some ⟨n, 0, none⟩) 1 1) [42]) : RMt S W mM (mMc n) := ⟨zNil, _, zNil, rfl, SQ.nil, h, SQ.nil⟩
theorem sM_read (h : SQ 1 RByte S W (.slice (some ⟨n, 0, none⟩) 1 1) [42]) : RMt S W sM (sMc n) := ⟨zNil, _, zNil, rfl, SQ.nil, h, SQ.nil⟩
theorem aM_read : RMt S W aM aMc := ⟨zNil, zNil, zNil, rfl, SQ.nil, SQ.nil, SQ.nil⟩
/-- The two classes that are right. -/
theorem good_read (w : World) {W : World} (d : Chg (· = w.heap.size + 9) ((rObjs w.heap.size).foldl World.alloc w) W) (hS : ∀ k, w.heap.size ≤ k → k < w.heap.size + 9 → S k) : SQ 6 RCl S W (.slice (some ⟨w.heap.size + 8, 0, none⟩) 2 2) rGood := by
  obtain ⟨-, hs, hb⟩ := alloc_all (rObjs w.heap.size) w
  have blk : ∀ (k : Nat) (o : Obj), k < 9 → (rObjs w.heap.size)[k]? = some o → W.heap[w.heap.size + k]? = some o := fun k o hk ho => (d.block _ (heap_lt (hb k o ho)) (by omega)).trans (hb k o ho)
  have m1 := sq_lit (S := S) [mM] [mMc (w.heap.size + 1)] (blk 6 _ (by omega) rfl) (Els.single (mM_read (byte42 (blk 1 _ (by omega) rfl) (hS _ (by omega) (by omega)))) rfl) (hS _ (by omega) (by omega))
  have m2 := sq_lit (S := S) [aM] [aMc] (blk 7 _ (by omega) rfl) (Els.single aM_read rfl) (hS _ (by omega) (by omega))
  exact sq_lit (S := S) rGood [rAc (w.heap.size + 6), rIc (w.heap.size + 7)] (blk 8 _ (by omega) rfl) (els_two ⟨zNil, zNil, _, rfl, SQ.nil, SQ.nil, m1⟩ rfl ⟨zNil, zNil, _, rfl, SQ.nil, SQ.nil, m2⟩ rfl) (hS _ (by omega) (by omega))
end

end Go.Proofs.YtgmmclcpfmnoiaaGreatDoor
