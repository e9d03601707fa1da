/-
  The laws' names (func0) and numbers (within), walked.
-/
import Derived.Test.YtgmmclcpfmnoiaaGreatDoorKnownG
namespace Go.Proofs.YtgmmclcpfmnoiaaGreatDoor
open Go.RowKit

set_option maxRecDepth 100000 in
set_option maxHeartbeats 1600000 in
theorem withinG_c (w : World) (a : Int) (m : Nat) (hm0 : 0 < m) (hm1 : m ≤ 1000) (_h1 : -9223372036854775808 ≤ a) (_h2 : a ≤ 9223372036854775807) :
    Calls Tryz.prog 8 #[.int .i64 a, .int .i64 m] w fun e w' => ∃ k : Nat, k < m ∧ e = .returned (.int .i64 k) ∧ w' = w := by
  have hmp : (0 : Int) < m := by omega
  have hm := Int.tmod_lt_of_pos a hmp
  have hm2 : -(m : Int) < a.tmod m := by have := Int.lt_tmod_of_pos a hmp; omega
  have hz : ((m : Int) == 0) = false := by simp; omega
  have hz2 : ¬ ((m : Int) = 0) := by omega
  have hz3 : ¬ ((m : Int) = -1) := by omega
  by_cases h0 : a.tmod m < 0
  · go_enter Tryz.func8, Tryz.ntmps8
    go_wp2
    go_ret
    exact ⟨(a.tmod m + m).toNat, by omega, ret_int (by omega), rfl⟩
  · go_enter Tryz.func8, Tryz.ntmps8
    go_wp2
    go_ret
    exact ⟨(a.tmod m).toNat, by omega, ret_int (by omega), rfl⟩

def nm2 (i : Nat) : Bs := [97, UInt8.ofNat (97 + i)]
theorem nm2_cells (i : Nat) (hi : i < 26) : (nm2 i).map bv = [.int .u8 97, .int .u8 (97 + (i : Int))] := by
  have h1 : (97 + i) % 2 ^ 8 = 97 + i := Nat.mod_eq_of_lt (by omega)
  unfold nm2 bv
  simp only [List.map_cons, List.map_nil, UInt8.toNat_ofNat', h1]
  have e2 : ((97 + i : Nat) : Int) = 97 + (i : Int) := by push_cast; rfl
  rw [e2]
  rfl
theorem nm2_bs (W : World) (i : Nat) (hi : i < 26) : BS (W.alloc (.cells #[.int .u8 97, .int .u8 (97 + (i : Int))] 5)) (.slice (some ⟨W.heap.size, 0, none⟩) 2 2) (nm2 i) := by
  refine ⟨_, _, rfl, by simp [nm2], (fun h => by cases h), fun p hp => ?_⟩
  cases hp
  refine ⟨rfl, by simp, fun j u hj => ?_⟩
  rw [nm2_cells i hi] at hj
  rw [add_mk, Nat.zero_add]
  exact box_keep (Chg.refl No _) (by rw [List.getElem?_toArray]; exact hj)
theorem nm2_conv (W : World) (i : Nat) (hi : i < 26) :
    (convert 29 9 (.slice (some ⟨W.heap.size, 0, none⟩) 2 2)).run Tryz.prog (W.alloc (.cells #[.int .u8 97, .int .u8 (97 + (i : Int))] 5)) = .ok (.string ⟨(nm2 i).toArray⟩) (W.alloc (.cells #[.int .u8 97, .int .u8 (97 + (i : Int))] 5)) :=
  (nm2_bs W i hi).str 29 9 5 Tryz.underlying29 Tryz.underlying5 Tryz.underlying9
theorem nm2_add (W : World) (i : Nat) : (Op.stringOp .add ⟨#[67]⟩ ⟨(nm2 i).toArray⟩).run Tryz.prog W = .ok (strV (nm i)) W := by
  have := run_string_add_lists (P := Tryz.prog) W [67] (nm2 i) (by simp) (by simp [nm2])
  exact this
set_option maxRecDepth 100000 in
set_option maxHeartbeats 1600000 in
theorem func0_c (w : World) (i : Nat) (hi : i < 26) : Calls Tryz.prog 14 #[.int .i64 i] w fun e w' => e = .returned (strV (nm i)) ∧ Chg No w w' := by
  have hq : (i : Int).tdiv 26 = 0 := by rw [Int.tdiv_eq_ediv_of_nonneg (by omega)]; omega
  have hr : (i : Int).tmod 26 = i := by rw [Int.tmod_eq_emod_of_nonneg (by omega)]; omega
  have hq' : (i : Int) / 26 = 0 := by omega
  have hr' : (i : Int) % 26 = i := by omega
  have hw : ((97 + (i : Int)) : Int) % 256 = 97 + i := by omega
  have q1 := nm2_conv w i hi
  have q2 := fun W => nm2_add W i
  go_enter Tryz.func14, Tryz.ntmps14
  go_wp2
  go_ret
  exact ⟨rfl, (Chg.refl No w).alloc _⟩

end Go.Proofs.YtgmmclcpfmnoiaaGreatDoor

namespace Go.Proofs.YtgmmclcpfmnoiaaGreatDoor
open Go.RowKit

/-- Truth values among the arguments. -/
def RBool : Reading Bool := fun _ _ x cs => cs = [.bool x]
theorem goodBool : Good RBool := ⟨fun h _ _ => h, fun h _ => h, fun h u hu => by rw [h] at hu; simp only [List.mem_cons, List.not_mem_nil, or_false] at hu; subst hu; rfl⟩
abbrev sigC : Array Value := #[zNil, .bool true, .int .i64 0, strV []]
structure NI (w : World) (own : List Bool) (b7 M k : Nat) (wr : World) (v : Value) (T : Blocks) : Prop where
  chg : Chg No w wr
  sig : wr.heap[b7]? = some (.cells sigC 28 (0, 0))
  box : wr.heap[M]? = some (.cells #[zNil, v] 47 (0, 0))
  own : OQ 37 6 RCl T wr v (nTl own k)
  tin : ∀ j, T j → M < j ∧ j < wr.heap.size
  tout : ∀ j, T j → v.ownBlock ≠ some j
  new : ∀ j, v.ownBlock = some j → M < j
section
variable {w wr wy w5 : World} {own : List Bool} {b7 M k : Nat} {v v' : Value} {T T' : Blocks}
theorem NI.step (h : NI w own b7 M k wr v T) (h7 : w.heap.size ≤ b7) (h7M : b7 < M) (D : Chg No wr wy) (hT : ∀ j, T' j → T j ∨ (wr.heap.size ≤ j ∧ j < wy.heap.size)) {o : Obj} (g1 : OQ 37 6 RCl T' w5 v' (nTl own k ++ [nCl own k])) (g2 : Chg (fun j => some j = v.ownBlock) (wy.alloc o) w5)
    (g3 : v'.ownBlock = v.ownBlock ∨ ∃ b, v'.ownBlock = some b ∧ (wy.alloc o).heap.size ≤ b) : (w5.frozen? ⟨M, 1, none⟩ = false ∧ w5.cell? ⟨M, 1, none⟩ = some v) ∧ NI w own b7 M (k + 1) (w5.setCell ⟨M, 1, none⟩ v') v' T' := by
  have hMl := heap_lt h.box
  have hsz := D.size
  have hz5 := g2.size
  rw [size_al1] at hz5
  have hown : ∀ j, v.ownBlock = some j → j < wr.heap.size := h.own.lt
  have hbox5 : w5.heap[M]? = some (.cells #[zNil, v] 47 (0, 0)) := (g2.block M (by rw [size_al1]; omega) (fun e => by have := h.new M e.symm; omega)).trans (alloc_blk (D.blk h.box))
  have hsig5 : w5.heap[b7]? = some (.cells sigC 28 (0, 0)) := (g2.block b7 (by rw [size_al1]; have := heap_lt h.sig; omega) (fun e => by have := h.new b7 e.symm; omega)).trans (alloc_blk (D.blk h.sig))
  have c := chg_setCell w5 M 1 v'
  have hnew : ∀ j, v'.ownBlock = some j → M < j := fun j hj => by
    rcases g3 with e | ⟨b, e, hb⟩
    · rw [e] at hj; exact h.new j hj
    · rw [e] at hj; cases hj; rw [size_al1] at hb; omega
  have hTM : ∀ j, T' j → M < j := fun j hj => by
    rcases hT j hj with h1 | h1
    · exact (h.tin j h1).1
    · omega
  have hC : Chg No w w5 := ((h.chg.trans D (fun _ _ h => h)).alloc o).trans g2 (fun j hj e => by have := h.new j e.symm; have := h.chg.size; have h0 := heap_lt h.sig; omega)
  have hMw : w.heap.size ≤ M := by omega
  refine ⟨⟨blk_frozen hbox5 1, blk_cell hbox5 rfl⟩, hC.set_new hMw _ _, (c.block b7 (heap_lt hsig5) (by omega)).trans hsig5, setCell_at (o := 1) hbox5 v', ?_, fun j hj => ⟨hTM j hj, ?_⟩, fun j hj e => ?_, hnew⟩
  · rw [show nTl own (k + 1) = nTl own k ++ [nCl own k] from by unfold nTl; rw [List.range_succ, List.map_append]; rfl]
    exact g1.keep goodCl c (fun j hj e => by have := hnew j hj; omega) (fun j hj e => by have := hTM j hj; omega)
  · have : j < wy.heap.size := by
      rcases hT j hj with h1 | h1
      · have := (h.tin j h1).2; omega
      · exact h1.2
    simp [World.setCell]; omega
  · rcases g3 with e3 | ⟨b, e3, hb⟩
    · rw [e3] at e
      rcases hT j hj with h1 | h1
      · exact h.tout j h1 e
      · have := hown j e; omega
    · rw [e3] at e; cases e
      rw [size_al1] at hb
      rcases hT j hj with h1 | h1
      · have := (h.tin j h1).2; omega
      · omega
/-- A class's cells with a method of its own, or none. -/
abbrev clC (own : List Bool) (k : Nat) (mv : Value) : List Value := [.int .i64 0, strV (nm k), strV (nCl own k).super, zNil, zNil, mv]
theorem nCl_read (hm : SQ 10 RMt T wr v (nCl own k).methods) : RCl T wr (nCl own k) (clC own k v) := ⟨zNil, zNil, v, rfl, SQ.nil, SQ.nil, hm⟩
theorem RCl.keepCl {w w1 : World} {S : Blocks} {c : Cl} {cs : List Value} (h : RCl S w c cs) (d : Chg No w w1) : RCl S w1 c cs := goodCl.keep h d (fun _ _ h => h)
/-- The method's row, laid in two new blocks. -/
theorem m_read (w : World) (n : Nat) (hn : n = w.heap.size) : SQ 10 RMt (fun j => j = n ∨ j = n + 1) ((w.alloc (.cells #[.int .u8 42] 5)).alloc (.cells #[.int .i64 0, strV mName, zNil, .bool true, .int .i64 0, strV [], .int .i64 1, .int .i64 1, .slice (some ⟨n, 0, none⟩) 1 1, zNil] 32)) (.slice (some ⟨n + 1, 0, none⟩) 1 1) [mM] := by
  subst hn
  refine ⟨_, 1, rfl, Nat.le_refl _, (fun h => by cases h), fun p hp _ => ?_⟩
  cases hp
  refine ⟨rfl, by simp, .inr rfl, fun i x hi => ?_⟩
  cases i with
  | succ i => simp at hi
  | zero =>
    simp only [List.getElem?_cons_zero, Option.some.injEq] at hi
    subst hi
    refine ⟨[.int .i64 0, strV mName, zNil, .bool true, .int .i64 0, strV [], .int .i64 1, .int .i64 1, .slice (some ⟨w.heap.size, 0, none⟩) 1 1, zNil], rfl, ⟨zNil, _, zNil, rfl, SQ.nil, ?_, SQ.nil⟩, ?_⟩
    · refine ⟨_, 1, rfl, Nat.le_refl _, (fun h => by cases h), fun p hp _ => ?_⟩
      cases hp
      refine ⟨rfl, by simp; omega, .inl rfl, fun i x hi => ?_⟩
      cases i with
      | succ i => have hi' : ([42] : List UInt8)[i + 1]? = some x := hi; simp at hi'
      | zero =>
        have hi' : ([42] : List UInt8)[0]? = some x := hi
        simp only [List.getElem?_cons_zero, Option.some.injEq] at hi'
        subst hi'
        refine ⟨[.int .u8 42], rfl, rfl, ?_⟩
        rw [add_mk]
        exact At.of_block (cs := [.int .u8 42]) (alloc_blk (heap_alloc_new w _))
    · rw [add_mk]
      exact At.of_block (cs := [.int .i64 0, strV mName, zNil, .bool true, .int .i64 0, strV [], .int .i64 1, .int .i64 1, .slice (some ⟨w.heap.size, 0, none⟩) 1 1, zNil]) (by
        have := heap_alloc_new (w.alloc (.cells #[.int .u8 42] 5)) (.cells #[.int .i64 0, strV mName, zNil, .bool true, .int .i64 0, strV [], .int .i64 1, .int .i64 1, .slice (some ⟨w.heap.size, 0, none⟩) 1 1, zNil] 32)
        rw [size_al1] at this
        exact this)
end

end Go.Proofs.YtgmmclcpfmnoiaaGreatDoor
