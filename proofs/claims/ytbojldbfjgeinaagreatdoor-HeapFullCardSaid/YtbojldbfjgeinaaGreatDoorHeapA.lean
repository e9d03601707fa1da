/-
  Package heap: arrays of numbers, walked.
-/
import Derived.Test.YtbojldbfjgeinaaGreatDoorSub1
import Derived.Test.YtbojldbfjgeinaaGreatDoorBase0
import Derived.Laws.OwnMore
namespace Go.Proofs.YtbojldbfjgeinaaGreatDoor
open Go.RowKit
attribute [local go_sem high] eqTy_run

/-- A value: is it an object's, its number. -/
structure Vl where
  ref : Bool
  n : Int
deriving DecidableEq, Inhabited
def RVl : Reading Vl := fun _ _ x cs => cs = [.bool x.ref, .int .i64 x.n]
theorem goodVl : Good RVl := ⟨fun h _ _ => h, fun h _ => h, fun h u hu => by rw [h] at hu; simp only [List.mem_cons, List.not_mem_nil, or_false] at hu; (repeat' (first | (rcases hu with rfl | hu) | (subst hu))) <;> rfl⟩
theorem info_vl : (Tryz.prog.info? 118).map (fun i => (i.zero, i.size, i.bytes)) = some (some (.agg #[.bool false, zInt]), 2, 16) := by kernel_rfl
theorem info_th : (Tryz.prog.info? 195).map (fun i => (i.zero, i.size, i.bytes)) = some (some .nilIface, 1, 16) := by kernel_rfl

section
variable {S O : Blocks} {w : World} {b mb : Nat} {nv : Value} {es : List Ent}
theorem HW.ext2 {lk : Bool} (h : HW S O w b mb nv es lk) (x : Ext w) : x.v.cell? ⟨b, 2, none⟩ = some (.bool lk) := x.cell h.c2
theorem tyEq_self (d : Int) (n : Bs) : tyEq d ⟨n.toArray⟩ d ⟨n.toArray⟩ = true := by rw [tyEq_mk]; simp
set_option maxHeartbeats 1600000 in
theorem sub_same (h : HW S O w b mb nv es true) (d : Int) (n : Bs) (hl : Short n) :
    Calls Tryz.prog 22 #[.pointer (some ⟨b, 0, none⟩), .agg #[.int .i64 d, strV n], .agg #[.int .i64 d, strV n]] w fun e w' => e = .returned (.bool (rightT (cls es) ⟨d, n⟩)) ∧ Chg No w w' := by
  have c2 := h.c2
  have hbl := h.o_lt b h.own_b
  have hq := tyEq_self d n
  obtain ⟨r, hr⟩ : ∃ r, r = rightT (cls es) ⟨d, n⟩ := ⟨_, rfl⟩
  obtain ⟨wa, hwa⟩ : ∃ wa, wa = (w.alloc (.cells #[.int .i64 d, strV n] 55)).alloc (.cells #[.int .i64 d, strV n] 55) := ⟨_, rfl⟩
  have HW := Lib.hid hwa
  have cA : Chg No w wa := by rw [hwa]; exact ((Chg.refl No w).alloc _).alloc _
  have B0 : wa.heap[w.heap.size]? = some (.cells #[.int .i64 d, strV n] 55 (0, 0)) := by rw [hwa]; exact alloc_blk (heap_alloc_new _ _)
  have B1 : wa.heap[w.heap.size + 1]? = some (.cells #[.int .i64 d, strV n] 55 (0, 0)) := by rw [hwa]; exact alloc_at _ _ (by simp)
  have HT := Lib.hid (fun (W : World) (c : Chg No w W) => by have := there_c (h.new c) d n hl; rwa [← hr] at this)
  rw [← hr]
  have HA := Lib.hid (And.intro cA (And.intro B0 B1))
  clear h hl hr hwa cA B0 B1
  cases r with
  | false =>
    go_enter Tryz.func22, Tryz.ntmps22
    go_wp2_with fail
    rw [← HW.out]
    refine (HT.out _ HA.out.1).mono ?_
    rintro e w1 ⟨rfl, d1⟩
    have D1 := Lib.hid (HA.out.1.trans d1 (fun _ _ h => h)); clear d1
    go_wp2
    go_ret
    exact ⟨rfl, D1.out⟩
  | true =>
    go_enter Tryz.func22, Tryz.ntmps22
    go_wp2_with fail
    rw [← HW.out]
    refine (HT.out _ HA.out.1).mono ?_
    rintro e w1 ⟨rfl, d1⟩
    have D1 := Lib.hid (And.intro (HA.out.1.trans d1 (fun _ _ h => h)) (And.intro (d1.blk HA.out.2.1) (d1.blk HA.out.2.2))); clear d1
    have y0 := blk_cell (j := 0) D1.out.2.2 rfl
    have y1 := blk_cell (j := 1) D1.out.2.2 rfl
    go_wp2_with fail
    refine (HT.out _ D1.out.1).mono ?_
    rintro e w2 ⟨rfl, d2⟩
    have D2 := Lib.hid (And.intro (D1.out.1.trans d2 (fun _ _ h => h)) (And.intro (d2.blk D1.out.2.1) (d2.blk D1.out.2.2))); clear d2
    clear y0 y1
    have y0 := blk_cell (j := 0) D2.out.2.1 rfl
    have y1 := blk_cell (j := 1) D2.out.2.1 rfl
    have u0 := blk_cell (j := 0) D2.out.2.2 rfl
    have u1 := blk_cell (j := 1) D2.out.2.2 rfl
    go_wp2
    go_ret
    exact ⟨rfl, D2.out.1⟩

/-- An array among the things. -/
def RTg : Reading Nat := fun _ _ x cs => cs = [.iface 127 (.pointer (some ⟨x, 0, none⟩))]
theorem goodTg : Good RTg := ⟨fun h _ _ => h, fun h _ => h, fun h u hu => by rw [h] at hu; simp only [List.mem_cons, List.not_mem_nil, or_false] at hu; subst hu; rfl⟩
structure HF (O : Blocks) (w : World) (h wp lm : Nat) (most given : Int) (tv : Value) (ks : List Nat) : Prop where
  wc : w.heap[h]? = some (.cells #[.pointer (some ⟨wp, 0, none⟩), .int .i64 most, .int .i64 given, tv, .map (some lm)] 125 (0, 0))
  th : OQ 195 1 RTg No w tv ks
  own_h : O h
  own_t : ∀ k, tv.ownBlock = some k → O k
  o_lt : ∀ k, O k → k < w.heap.size
variable {O2 T : Blocks} {w' w1 : World} {h wp lm : Nat} {most given : Int} {tv tv' : Value} {ks : List Nat}
theorem HF.keep (H : HF O2 w h wp lm most given tv ks) (c : Chg T w w') (hO : ∀ k, O2 k → ¬ T k) : HF O2 w' h wp lm most given tv ks where
  wc := (c.block h (H.o_lt h H.own_h) (hO h H.own_h)).trans H.wc
  th := H.th.keep goodTg c (fun k hk => hO k (H.own_t k hk)) (fun k hk => hk.elim)
  own_h := H.own_h
  own_t := H.own_t
  o_lt := fun k hk => Nat.lt_of_lt_of_le (H.o_lt k hk) c.size
theorem HF.new (H : HF O2 w h wp lm most given tv ks) (c : Chg No w w') : HF O2 w' h wp lm most given tv ks := H.keep c (fun _ _ h => h)
theorem HF.ne_t (H : HF O2 w h wp lm most given tv ks) : tv.ownBlock ≠ some h := fun e => by
  obtain ⟨cur, h2⟩ := H.th.block e
  rw [H.wc] at h2; simp at h2
theorem HF.x (H : HF O2 w h wp lm most given tv ks) (j : Nat) {u : Value} (hj : (#[.pointer (some ⟨wp, 0, none⟩), .int .i64 most, .int .i64 given, tv, .map (some lm)] : Array Value)[j]? = some u) (x : Ext w) : x.v.cell? ⟨h, j, none⟩ = some u := x.cell (blk_cell H.wc hj)

theorem heapNew_c (w : World) (wp : Nat) (most : Int) : Calls Tryz.prog 26 #[.pointer (some ⟨wp, 0, none⟩), .int .i64 most] w fun e w' => e = .returned (.pointer (some ⟨w.heap.size + 1, 0, none⟩)) ∧ HF (fun k => k = w.heap.size + 1) w' (w.heap.size + 1) wp w.heap.size most 0 zNil [] ∧ Chg No w w' := by
  have hmm := @run_makeMap Tryz.prog
  go_enter Tryz.func26, Tryz.ntmps26
  go_wp2
  go_ret
  refine ⟨rfl, ⟨?_, OQ.nil _ _ _ _, rfl, (fun k hk => by cases hk), fun k hk => by simp; omega⟩, ((Chg.refl _ _).alloc _).alloc _⟩
  have := heap_alloc_new (w.alloc (.map #[] 0)) (.cells #[.pointer (some ⟨wp, 0, none⟩), .int .i64 most, .int .i64 0, zNil, .map (some w.heap.size)] 125)
  rwa [size_alloc1] at this
theorem bytes_c (H : HF O2 w h wp lm most given tv ks) : Calls Tryz.prog 28 #[.pointer (some ⟨h, 0, none⟩)] w fun e w' => e = .returned (.int .i64 given) ∧ w' = w := by
  have c2 := blk_cell (j := 2) H.wc rfl
  go_enter Tryz.func28, Tryz.ntmps28
  go_wp2
  go_ret
  exact ⟨rfl, rfl⟩
theorem count_c (H : HF O2 w h wp lm most given tv ks) : Calls Tryz.prog 29 #[.pointer (some ⟨h, 0, none⟩)] w fun e w' => e = .returned (.int .i64 ks.length) ∧ w' = w := by
  obtain ⟨ta, tc, rfl⟩ := H.th.form
  have c3 := blk_cell (j := 3) H.wc rfl
  go_enter Tryz.func29, Tryz.ntmps29
  go_wp2
  go_ret
  exact ⟨rfl, rfl⟩
theorem room_c (H : HF O2 w h wp lm most given tv ks) (n : Int) (h0 : 0 ≤ n) (h1 : n ≤ 65536) (m0 : -1000000000000 ≤ most) (m1 : most ≤ 1000000000000) (g0 : 0 ≤ given) (g1 : given ≤ 1000000000000) :
    Calls Tryz.prog 72 #[.pointer (some ⟨h, 0, none⟩), .int .i64 n] w fun e w' => e = .returned (.bool (decide (16 + 8 * n ≤ most - given))) ∧ Chg No w w' := by
  have c1 := fun x => H.x 1 rfl x
  have c2 := fun x => H.x 2 rfl x
  clear H
  go_enter Tryz.func72, Tryz.ntmps72
  go_wp2_with fail
  refine wp_region_ext (by kernel_rfl) (by kernel_rfl) ?_
  repeat (first | go_big_quiet_step ((fail)) | quiet_step ((fail)))
  refine wpQuiet_nil ?_
  rintro _ ⟨x, rfl⟩
  go_wp2
  go_ret
  exact ⟨rfl, x.c⟩
theorem size_m (w : World) (k : Nat) (n c : Nat) (a : Option Addr) (h : w.cell? ⟨k, 0, none⟩ = some (.slice a n c)) (hn : n ≤ 65536) : Calls Tryz.prog 295 #[.pointer (some ⟨k, 0, none⟩)] w fun e w' => e = .returned (.int .i64 (16 + 8 * n)) ∧ w' = w := by
  go_enter Tryz.func295, Tryz.ntmps295
  go_wp2
  go_ret
  exact ⟨ret_int (by omega), rfl⟩
end
end Go.Proofs.YtbojldbfjgeinaaGreatDoor
