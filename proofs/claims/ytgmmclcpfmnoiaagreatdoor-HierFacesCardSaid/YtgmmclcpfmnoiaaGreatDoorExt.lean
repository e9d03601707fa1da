/-
  A region that draws its order, whose operations read, and whose calls may make new blocks: one walk in the order of the text (over the kit's law for any class of worlds).
-/
import Derived.Test.YtgmmclcpfmnoiaaGreatDoorBase
namespace Go.Proofs.YtgmmclcpfmnoiaaGreatDoor
open Go.RowKit

/-- A later world: no old block has changed. -/
structure Ext (w : World) where
  v : World
  c : Chg No w v
instance extHas (w : World) : Nonempty (Ext w) := ⟨⟨w, Chg.refl _ _⟩⟩
theorem wp_region_ext {P : Program} {id : Nat} {Q : Exit → Act → World → Prop} {a : Act} {w : World} {l : List Oper} (hm : P.follows .mixedOrders = true) (hB : Region.lexB .any l.toArray = true)
    (h : wpQuiet P l.toArray (fun w' => ∃ x : Ext w, w' = x.v) (fun a' => ∀ w', (∃ x : Ext w, w' = x.v) → Q .normal a' w') l a) : (Code.region id l.toArray true).wp P Q a w := by
  refine wp_region_quiet (C := fun w' => ∃ x : Ext w, w' = x.v) hm hB ⟨⟨w.drew, (Chg.refl No w).drew⟩, rfl⟩ ?_
  simpa using h
theorem Calls.ext_of {P : Program} {f : FuncId} {args : Array Value} {w : World} {x : Ext w} {v : Value} (h : Calls P f args x.v fun e w' => e = .returned v ∧ Chg No x.v w') :
    Calls P f args x.v fun e w'' => e = .returned v ∧ ∃ y : Ext w, w'' = y.v :=
  h.mono fun _ w' ⟨he, hc⟩ => ⟨he, ⟨w', x.c.trans hc (fun _ _ h => h)⟩, rfl⟩
theorem Calls.ext_same {P : Program} {f : FuncId} {args : Array Value} {w : World} {x : Ext w} {v : Value} (h : Calls P f args x.v fun e w' => e = .returned v ∧ w' = x.v) :
    Calls P f args x.v fun e w'' => e = .returned v ∧ ∃ y : Ext w, w'' = y.v :=
  h.mono fun _ _w' ⟨he, hc⟩ => ⟨he, x, hc⟩
theorem Ext.cell {w : World} (x : Ext w) {p : Addr} {v : Value} (h : w.cell? p = some v) : x.v.cell? p = some v := by
  have hl : p.block < w.heap.size := World.block_lt_of_cell? w p h
  rw [x.c.cell hl (fun h => h)]; exact h
theorem Ext.frozen {w : World} (x : Ext w) {p : Addr} (h : p.block < w.heap.size) : x.v.frozen? p = w.frozen? p := x.c.frozen h (fun h => h)
theorem Chg.blk {w w1 : World} (d : Chg No w w1) {k : Nat} {o : Obj} (h : w.heap[k]? = some o) : w1.heap[k]? = some o := (d.block k (heap_lt h) (fun h => h)).trans h
theorem alloc_blk {w : World} {k : Nat} {o o2 : Obj} (h : w.heap[k]? = some o) : (w.alloc o2).heap[k]? = some o := (Below.heap_alloc w o2 k (heap_lt h)).trans h
theorem alloc_at (w : World) (o : Obj) {k : Nat} (hk : k = w.heap.size) : (w.alloc o).heap[k]? = some o := by subst hk; exact heap_alloc_new _ _

end Go.Proofs.YtgmmclcpfmnoiaaGreatDoor
