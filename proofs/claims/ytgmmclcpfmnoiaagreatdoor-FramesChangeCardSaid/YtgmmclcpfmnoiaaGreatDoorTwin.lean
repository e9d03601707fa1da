/-
  Package module's Twin, walked at an empty pool and classes without interfaces, fields, methods.
-/
import Derived.Test.YtgmmclcpfmnoiaaGreatDoorPlain1
namespace Go.Proofs.YtgmmclcpfmnoiaaGreatDoor
open Go.RowKit

theorem OQ.empty_form {α : Type} {e n : Nat} {R : Reading α} {S : Blocks} {w : World} {v : Value} (h : OQ e n R S w v ([] : List α)) : ∃ a c, v = .slice a 0 c ∧ (a = none → c = 0) := by
  obtain ⟨css, ⟨_, ho⟩, _⟩ := h
  rcases ho with ⟨rfl, _⟩ | ⟨g, cap, cur, rfl, _⟩
  · exact ⟨none, 0, rfl, fun _ => rfl⟩
  · exact ⟨_, cap, rfl, fun h => by cases h⟩

theorem blk_cell {w : World} {b T j : Nat} {c : Array Value} {u : Value} (h : w.heap[b]? = some (.cells c T (0, 0))) (hj : c[j]? = some u) : w.cell? ⟨b, j, none⟩ = some u := by simp [World.cell?, h, hj]
theorem blk_frozen {w : World} {b T : Nat} {c : Array Value} (h : w.heap[b]? = some (.cells c T (0, 0))) (j : Nat) : w.frozen? ⟨b, j, none⟩ = false := by simp [World.frozen?, h]
theorem Chg.set_new {w w' : World} (h : Chg No w w') {b : Nat} (hb : w.heap.size ≤ b) (j : Nat) (v : Value) : Chg No w (w'.setCell ⟨b, j, none⟩ v) :=
  h.trans (chg_setCell w' b j v) (fun n hn e => by omega)

/-- What holds while the classes are gone over. -/
structure TwI (w : World) (g : Nat) (cs : List Cl) (x y : Value) (wr : World) : Prop where
  chg : Chg No w wr
  row : PRow wr g cs
  mod : wr.heap[w.heap.size]? = some (.cells #[x, y] 47 (0, 0))
  res : wr.heap[w.heap.size + 1]? = some (.cells #[zNil, zNil] 47 (0, 0))
theorem TwI.new {w wr w1 : World} {g : Nat} {cs : List Cl} {x y : Value} (h : TwI w g cs x y wr) (d : Chg No wr w1) : TwI w g cs x y w1 :=
  ⟨h.chg.trans d (fun _ _ h => h), h.row.keep d (fun h => h), (d.block _ (heap_lt h.mod) (fun h => h)).trans h.mod, (d.block _ (heap_lt h.res) (fun h => h)).trans h.res⟩
theorem TwI.set {w wr : World} {g : Nat} {cs : List Cl} {x y : Value} (h : TwI w g cs x y wr) (hg : w.heap.size + 2 ≤ g) (k j : Nat) (hj : j = 3 ∨ j = 4 ∨ j = 5) (a : Option Addr) (c : Nat) (ha : a = none → c = 0) : TwI w g cs x y (wr.setCell ⟨g, k * 6 + j, none⟩ (.slice a 0 c)) := by
  have d := chg_setCell wr g (k * 6 + j) (.slice a 0 c)
  exact ⟨h.chg.set_new (by omega) _ _, h.row.set k j hj a c ha, (d.block _ (heap_lt h.mod) (by omega)).trans h.mod, (d.block _ (heap_lt h.res) (by omega)).trans h.res⟩
theorem TwI.m1 {w wr : World} {g : Nat} {cs : List Cl} {x y : Value} (h : TwI w g cs x y wr) : wr.cell? ⟨w.heap.size, 1, none⟩ = some y := blk_cell h.mod rfl
theorem TwI.m0 {w wr : World} {g : Nat} {cs : List Cl} {x y : Value} (h : TwI w g cs x y wr) : wr.cell? ⟨w.heap.size, 0, none⟩ = some x := blk_cell h.mod rfl

def Twinned (w : World) (cs : List Cl) (e : Ending) (w' : World) : Prop :=
  ∃ pa pc g cap, e = .returned (.agg #[.slice pa 0 pc, .slice (some ⟨g, 0, none⟩) cs.length cap]) ∧ (pa = none → pc = 0) ∧ PRow w' g cs ∧ cs.length ≤ cap ∧ w.heap.size ≤ g ∧ Chg No w w'

set_option maxRecDepth 100000 in
set_option maxHeartbeats 6400000 in
theorem twin_plain (S : Blocks) (w : World) (pa : Option Addr) (pc : Nat) (hpa : pa = none → pc = 0) (cv : Value) (cs : List Cl) (h : SQ 6 RCl S w cv cs) (hS : ∀ k, S k → k < w.heap.size) (hp : ∀ c ∈ cs, c.faces = [] ∧ c.fields = [] ∧ c.methods = []) (hne : cs ≠ []) (hl : cs.length ≤ 64) :
    Calls Tryz.prog 35 #[.agg #[.slice pa 0 pc, cv]] w (Twinned w cs) := by
  obtain ⟨a, cap, hv, hcap, hnil⟩ := h.form
  have H := Lib.hid (And.intro h (And.intro hp hne)); clear h hp hne
  subst hv
  go_enter Tryz.func35, Tryz.ntmps35
  go_wp2_with fail
  refine (clone_en No _ _ [] (SQ.empty pa pc hpa) (fun k hk => hk.elim) (by simp)).mono ?_
  rintro e w1 ⟨v1, rfl, ho1, d, -⟩
  obtain ⟨pa1, pc1, rfl, hpa1⟩ := ho1.empty_form
  have D1 := Lib.hid d; clear d ho1
  have B1 : w1.heap[w.heap.size]? = some (.cells #[.slice pa 0 pc, .slice a cs.length cap] 47 (0, 0)) := by
    rw [D1.out.block w.heap.size (by simp; omega) (fun h => h), Below.heap_alloc _ _ _ (by simp)]
    exact heap_alloc_new _ _
  have R1 : w1.heap[w.heap.size + 1]? = some (.cells #[zNil, zNil] 47 (0, 0)) := by
    rw [D1.out.block (w.heap.size + 1) (by simp) (fun h => h)]
    have := heap_alloc_new (w.alloc (.cells #[.slice pa 0 pc, .slice a cs.length cap] 47)) (.cells #[zNil, zNil] 47)
    simpa using this
  have C1 := Lib.hid ((((Chg.refl No w).alloc _).alloc _).trans D1.out (fun _ _ h => h))
  have HB := Lib.hid (And.intro B1 R1)
  clear B1 R1
  have c0 := blk_cell HB.out.1 (j := 0) rfl
  have c1 := blk_cell HB.out.1 (j := 1) rfl
  have f0 := blk_frozen HB.out.1 0
  go_wp2_with fail
  have C2 := Lib.hid (C1.out.set_new (Nat.le_refl _) 0 (.slice pa1 0 pc1))
  have HB2 := Lib.hid (And.intro (setCell_at (o := 0) HB.out.1 (.slice pa1 0 pc1)) (((chg_setCell w1 w.heap.size 0 (.slice pa1 0 pc1)).block (w.heap.size + 1) (heap_lt HB.out.2) (by omega)).trans HB.out.2))
  refine (clone_cl S _ _ cs (H.out.1.new goodCl C2.out) (fun k hk => Nat.lt_of_lt_of_le (hS k hk) C2.out.size) (by omega)).mono ?_
  rintro e w2 ⟨v2, rfl, ho2, d, hv2⟩
  obtain ⟨g, cap2, rfl, hcap2, hp2⟩ := ho2.prow H.out.2.2 H.out.2.1
  have hg : w1.heap.size ≤ g := by simpa using hv2 g rfl
  have hs1 := C1.out.size
  have hlt1 := heap_lt HB.out.1
  have hlt1' := heap_lt HB.out.2
  have C3 := Lib.hid (C2.out.trans d (fun _ _ h => h))
  have HB3 := Lib.hid (And.intro ((d.block w.heap.size (heap_lt HB2.out.1) (fun h => h)).trans HB2.out.1) ((d.block (w.heap.size + 1) (heap_lt HB2.out.2) (fun h => h)).trans HB2.out.2))
  have HP := Lib.hid hp2
  clear d ho2 hp2 hv2 c0 c1 f0
  have c1 := blk_cell HB3.out.1 (j := 1) rfl
  have f1 := blk_frozen HB3.out.1 1
  have HB4 := Lib.hid (And.intro (setCell_at (o := 1) HB3.out.1 (.slice (some ⟨g, 0, none⟩) cs.length cap2)) (((chg_setCell w2 w.heap.size 1 (.slice (some ⟨g, 0, none⟩) cs.length cap2)).block (w.heap.size + 1) (heap_lt HB3.out.2) (by omega)).trans HB3.out.2))
  have HP4 := Lib.hid (HP.out.keep (chg_setCell w2 w.heap.size 1 (.slice (some ⟨g, 0, none⟩) cs.length cap2)) (by omega))
  have C4 := Lib.hid (C3.out.set_new (Nat.le_refl _) 1 (.slice (some ⟨g, 0, none⟩) cs.length cap2))
  go_wp2
  clear c1 f1
  have I4 : RowKit.Hid (TwI w g cs (.slice pa1 0 pc1) (.slice (some ⟨g, 0, none⟩) cs.length cap2) _) := Lib.hid ⟨C4.out, HP4.out, HB4.out.1, HB4.out.2⟩
  go_loopw [18] (fun i wr => ∃ k : Nat, k ≤ cs.length ∧ i = .int .i64 k ∧ RowKit.Hid (TwI w g cs (.slice pa1 0 pc1) (.slice (some ⟨g, 0, none⟩) cs.length cap2) wr)) (fun i _ => cs.length - (intOf i).toNat)
  case atStart => exact ⟨0, Nat.zero_le _, rfl, I4⟩
  case round =>
    obtain ⟨k, hk, rfl, hI⟩ := hrel
    have m1 := hI.out.m1
    by_cases hlt : k < cs.length
    · obtain ⟨a1, d1, a2, d2, a3, d3, k3, k4, k5, y1, y2, y3⟩ := hI.out.row.at_ k hlt
      go_wp2_with fail
      refine (clone_str No _ _ [] (SQ.empty a1 d1 y1) (fun k hk => hk.elim) (by simp)).mono ?_
      rintro e x1 ⟨v, rfl, ho, d, -⟩
      obtain ⟨b1, e1, rfl, n1⟩ := ho.empty_form
      have J1 := Lib.hid (hI.out.new d)
      have J2 := Lib.hid (J1.out.set (by omega) k 3 (.inl rfl) b1 e1 n1)
      clear d ho k3 k4 k5 m1
      obtain ⟨i1, l1, i2, l2, i3, l3, k3, k4, k5, t1, t2, t3⟩ := J1.out.row.at_ k hlt
      have z3 := J1.out.row.frozen (k * 6 + 3)
      go_wp2_with fail
      refine (clone_fd No _ _ [] (SQ.empty i2 l2 t2) (fun k hk => hk.elim) (by simp)).mono ?_
      rintro e x2 ⟨v, rfl, ho, d, -⟩
      obtain ⟨b2, e2, rfl, n2⟩ := ho.empty_form
      have K2 := Lib.hid (J2.out.new d)
      have L2 := Lib.hid (K2.out.set (by omega) k 4 (.inr (.inl rfl)) b2 e2 n2)
      clear d ho k3 k4 k5 z3
      obtain ⟨i1, l1, i2, l2, i3, l3, k3, k4, k5, t1, t2, t3⟩ := K2.out.row.at_ k hlt
      have z3 := K2.out.row.frozen (k * 6 + 4)
      go_wp2_with fail
      refine (clone_mt No _ _ [] (SQ.empty i3 l3 t3) (fun k hk => hk.elim) (by simp)).mono ?_
      rintro e x3 ⟨v, rfl, ho, d, -⟩
      obtain ⟨b3, e3, rfl, n3⟩ := ho.empty_form
      have K3 := Lib.hid (L2.out.new d)
      have L3 := Lib.hid (K3.out.set (by omega) k 5 (.inr (.inr rfl)) b3 e3 n3)
      clear d ho k3 k4 k5 z3
      obtain ⟨i1, l1, i2, l2, i3, l3, k3, k4, k5, t1, t2, t3⟩ := K3.out.row.at_ k hlt
      have z3 := K3.out.row.frozen (k * 6 + 5)
      have m1 := K3.out.m1
      go_wp2
      refine wp_loop_rounds 1 ?_
      rw [rounds_succ]
      go_wp2
      go_roundw
      case rel => exact ⟨k + 1, by omega, by go_num, L3⟩
      case measure => simp [intOf]; omega
    · have m0 := hI.out.m0
      have r0 := blk_frozen hI.out.res 0
      have r1 := blk_frozen hI.out.res 1
      have r2 : wr.cell? ⟨w.heap.size + 1, 0, none⟩ = some zNil := blk_cell hI.out.res rfl
      have r3 : wr.cell? ⟨w.heap.size + 1, 1, none⟩ = some zNil := blk_cell hI.out.res rfl
      go_wp2
      refine bodyPost_ret (v := .agg #[.slice pa1 0 pc1, .slice (some ⟨g, 0, none⟩) cs.length cap2]) (by simp [results, Tryz.results35, go_sem, r2, r3]) rfl ?_
      refine ⟨pa1, pc1, g, cap2, rfl, hpa1, ?_, hcap2, by omega, ?_⟩
      · exact (hI.out.row.keep (chg_setCell wr (w.heap.size + 1) 0 _) (by omega)).keep (chg_setCell _ (w.heap.size + 1) 1 _) (by omega)
      · exact (hI.out.chg.set_new (by omega) _ _).set_new (by omega) _ _

end Go.Proofs.YtgmmclcpfmnoiaaGreatDoor
