/-
  (*World).walk, walked at classes without interfaces.
-/
import Derived.Test.YtmpmfbnglfgobaaGreatDoorMethod
namespace Go.Proofs.YtmpmfbnglfgobaaGreatDoor
open Go.RowKit

theorem into_nil (w : World) (a : Option Addr) (c : Nat) (p1 p2 p3 p4 : Value) :
    Calls Tryz.prog 54 #[.slice a 0 c, p1, p2, p3, p4] w fun en w' => en = .returned (.tuple #[]) ∧ w' = w := by
  go_enter Tryz.func54, Tryz.ntmps54
  go_wp2
  refine wp_loop_rounds 1 ?_
  rw [rounds_succ]
  go_wp2
  go_end0
  exact ⟨rfl, rfl⟩

/-- The function that gathers, with what it captures. -/
def intoV (n : Nat) : Value := .func (.func 54) #[] #[.pointer (some ⟨n + 1 + 1 + 1, 0, none⟩), .pointer (some ⟨n + 1, 0, none⟩), .pointer (some ⟨n + 1 + 1 + 1 + 1, 0, none⟩), .pointer (some ⟨n, 0, none⟩)]
/-- walk's own variables. -/
def walkW (w : World) (b : Nat) : World := ((((w.alloc (.cells #[.pointer (some ⟨b, 0, none⟩)] 34)).alloc (.cells #[zNil] 29)).alloc (.map #[] 0)).alloc (.cells #[.map (some (w.heap.size + 1 + 1))] 95)).alloc (.cells #[intoV w.heap.size] 110)
structure WalkI (w : World) (b : Nat) (wr : World) : Prop where
  chg : Chg No w wr
  b0 : wr.heap[w.heap.size]? = some (.cells #[.pointer (some ⟨b, 0, none⟩)] 34 (0, 0))
  b1 : wr.heap[w.heap.size + 1]? = some (.cells #[zNil] 29 (0, 0))
  b4 : wr.heap[w.heap.size + 1 + 1 + 1 + 1]? = some (.cells #[intoV w.heap.size] 110 (0, 0))
theorem WalkI.start (w : World) (b : Nat) : WalkI w b (walkW w b) := by
  unfold walkW
  refine ⟨((((Chg.refl _ w).alloc _).alloc _).alloc _).alloc _ |>.alloc _, ?_, ?_, ?_⟩
  · rw [Below.heap_alloc _ _ _ (by first | (simp; done) | (simp; omega)), Below.heap_alloc _ _ _ (by first | (simp; done) | (simp; omega)), Below.heap_alloc _ _ _ (by first | (simp; done) | (simp; omega)), Below.heap_alloc _ _ _ (by first | (simp; done) | (simp; omega))]
    exact heap_alloc_new _ _
  · rw [Below.heap_alloc _ _ _ (by first | (simp; done) | (simp; omega)), Below.heap_alloc _ _ _ (by first | (simp; done) | (simp; omega)), Below.heap_alloc _ _ _ (by first | (simp; done) | (simp; omega))]
    have := heap_alloc_new (w.alloc (.cells #[.pointer (some ⟨b, 0, none⟩)] 34)) (.cells #[zNil] 29)
    rwa [size_alloc1] at this
  · have := heap_alloc_new ((((w.alloc (.cells #[.pointer (some ⟨b, 0, none⟩)] 34)).alloc (.cells #[zNil] 29)).alloc (.map #[] 0)).alloc (.cells #[.map (some (w.heap.size + 1 + 1))] 95)) (.cells #[intoV w.heap.size] 110)
    rwa [size_alloc1, size_alloc1, size_alloc1, size_alloc1] at this
theorem WalkI.new {w wr w1 : World} {b : Nat} (h : WalkI w b wr) (d : Chg No wr w1) : WalkI w b w1 :=
  ⟨h.chg.trans d (fun _ _ h => h), (d.block _ (heap_lt h.b0) (fun h => h)).trans h.b0, (d.block _ (heap_lt h.b1) (fun h => h)).trans h.b1, (d.block _ (heap_lt h.b4) (fun h => h)).trans h.b4⟩
section
variable {S O : Blocks} {w : World} {b mb : Nat} {nv : Value} {es : List Ent} {lk : Bool}
set_option maxRecDepth 100000 in
set_option maxHeartbeats 3200000 in
theorem walk_plain (h : HW S O w b mb nv es lk) (s : Bs) (l : List Bs) (hc : IsChain (cls es) s l) (hl : l.length ≤ 1000) (hall : ∀ t ∈ l, ∃ x ∈ es, atf es t = some x.at_ ∧ x.cl.faces = []) :
    Calls Tryz.prog 25 #[.pointer (some ⟨b, 0, none⟩), strV s] w fun en w' => en = .returned (.slice none 0 0) ∧ Chg No w w' := by
  have hmm := @run_makeMap Tryz.prog
  have hmf : ∀ (fn : Fn) (first cap : Array Value) (w : World), (Instr.makeFunc fn first cap).run Tryz.prog w = .ok (.func fn first cap) w := fun _ _ _ _ => rfl
  have hst : ∀ (w : World) (a : Addr) (f : Fn) (g h : Array Value) (m : Mode), (store a (.func f g h) m).run Tryz.prog w = stored Tryz.prog w a (.func f g h) m := fun w a f g h m => run_store Tryz.prog w a _ m rfl
  have hbl := h.o_lt b h.own_b
  have H := Lib.hid (And.intro h (And.intro hc hall))
  clear h hc hall
  go_enter Tryz.func25, Tryz.ntmps25
  go_wp2_with fail
  refine (chain_c (w := walkW w b) (H.out.1.new (WalkI.start w b).chg) s l H.out.2.1 hl).mono ?_
  rintro e w1 ⟨v, rfl, ho, d, -⟩
  have I1 := Lib.hid ((WalkI.start w b).new d)
  have hsq : SQ 1 RStr (fun _ => True) w1 v l := ho.sq goodStr (fun _ _ => trivial) (fun _ _ => trivial)
  obtain ⟨va, vc, rfl, -, -⟩ := hsq.form
  have HS := Lib.hid hsq
  clear d ho hsq
  go_wp2
  go_loopw [16] (fun i wr => ∃ k : Nat, k ≤ l.length ∧ i = .int .i64 k ∧ RowKit.Hid (WalkI w b wr ∧ Chg No w1 wr)) (fun i _ => l.length - (intOf i).toNat)
  case atStart => exact ⟨0, Nat.zero_le _, rfl, Lib.hid ⟨I1.out, Chg.refl _ _⟩⟩
  case round =>
    obtain ⟨k, hk, rfl, hI⟩ := hrel
    have z1 : wr.cell? ⟨w.heap.size + 1, 0, none⟩ = some zNil := blk_cell hI.out.1.b1 rfl
    by_cases hlt : k < l.length
    · obtain ⟨b', o, ds, rfl, hcl, hR, hbl', hsb, hcell⟩ := SQ.cells (HS.out.new goodStr hI.out.2) k hlt
      obtain rfl := hR
      have g0 := hcell 0 _ rfl
      rw [Nat.mul_one, Nat.add_zero] at g0
      clear hcell hcl
      obtain ⟨x, hx, hat, hf⟩ := H.out.2.2 l[k] (List.getElem_mem hlt)
      have hW := H.out.1.new hI.out.1.chg
      have k1 := hW.c1
      have hsh : Short l[k] := by
        obtain ⟨y, hy, hy2, hy3, -⟩ := atf_some hat
        rw [← hy3]; exact (H.out.1.short y hy).name
      have kL := fun n => hW.lookEN hsh hat n
      obtain ⟨f, g, m, p, c', q, ⟨e0, e1, e2, e3, e4, e5, e6, -⟩, q1, -⟩ := hW.cells hx
      rw [hf] at q1
      obtain ⟨a3, d3, rfl, -, -⟩ := q1.form
      have z0 : wr.cell? ⟨w.heap.size, 0, none⟩ = some (.pointer (some ⟨b, 0, none⟩)) := blk_cell hI.out.1.b0 rfl
      have z4 : wr.cell? ⟨w.heap.size + 1 + 1 + 1 + 1, 0, none⟩ = some (.func (.func 54) #[] #[.pointer (some ⟨w.heap.size + 1 + 1 + 1, 0, none⟩), .pointer (some ⟨w.heap.size + 1, 0, none⟩), .pointer (some ⟨w.heap.size + 1 + 1 + 1 + 1, 0, none⟩), .pointer (some ⟨w.heap.size, 0, none⟩)]) := blk_cell hI.out.1.b4 rfl
      clear hW hf hsh hat q1
      go_wp2_with fail
      go_quiet (first
        | (go_at_call 54; exact Calls.quiet_of_same (into_nil _ _ _ _ _ _ _)))
      go_wp2
      go_roundw
      case rel => exact ⟨k + 1, by omega, by go_num, Lib.hid ⟨hI.out.1.new ((Chg.refl _ _).drewN _), hI.out.2.drewN _⟩⟩
      case measure => simp [intOf]; omega
    · go_wp2
      go_ret
      exact ⟨rfl, hI.out.1.chg⟩
end

end Go.Proofs.YtmpmfbnglfgobaaGreatDoor
