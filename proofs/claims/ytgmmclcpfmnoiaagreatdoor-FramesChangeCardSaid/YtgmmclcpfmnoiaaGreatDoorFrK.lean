/-
  Frames: the chapter's example, walked: lattice.
-/
import Derived.Test.YtgmmclcpfmnoiaaGreatDoorFrE
import Derived.Test.YtgmmclcpfmnoiaaGreatDoorBase0
import Derived.Test.YtgmmclcpfmnoiaaGreatDoorDesc
import Derived.Test.YtgmmclcpfmnoiaaGreatDoorTwin
namespace Go.Proofs.YtgmmclcpfmnoiaaGreatDoor
open Go.RowKit
attribute [local go_sem high] eqVt_run eqTy_run

/-- A kind alone. -/
abbrev kV (n : Int) : Vt := ⟨n, zTy, 0⟩
theorem kV_ne {m n : Int} (h : m ≠ n) : vtEq (kV m) (kV n) = false := by rw [vtEq_iff]; simp [h]
set_option maxRecDepth 100000 in
theorem below_same (w : World) (p : Value) (x : Vt) : Calls Tryz.prog 146 #[p, vtV x, vtV x] w fun e w' => e = .returned (.bool true) ∧ Chg No w w' := by
  have hp : vtEq x x = true := by rw [vtEq_iff]; simp
  go_enter Tryz.func146, Tryz.ntmps146
  go_wp2
  go_ret
  exact ⟨rfl, ((Chg.refl _ _).alloc _).alloc _⟩
set_option maxRecDepth 100000 in
theorem below_no (w : World) (p : Value) (m n : Int) (h : m ≠ n) (h6 : (n == 6) = false) (h3 : (n == 3) = false) : Calls Tryz.prog 146 #[p, vtV (kV m), vtV (kV n)] w fun e w' => e = .returned (.bool false) ∧ Chg No w w' := by
  have hp : vtEq (kV m) (kV n) = false := kV_ne h
  clear h
  go_enter Tryz.func146, Tryz.ntmps146
  go_wp2
  go_ret
  exact ⟨rfl, ((Chg.refl _ _).alloc _).alloc _⟩
/-- Two types, a result. -/
theorem two_box (w : World) (x y : Vt) : Chg No w (((w.alloc (.cells (bx x) 65)).alloc (.cells (bx y) 65)).alloc (.cells #[zInt, zInt, zStr, zInt] 65)) := (((Chg.refl _ _).alloc _).alloc _).alloc _
theorem two_box_blk {w wr : World} {x y : Vt} (c : Chg No (((w.alloc (.cells (bx x) 65)).alloc (.cells (bx y) 65)).alloc (.cells #[zInt, zInt, zStr, zInt] 65)) wr) :
    wr.heap[w.heap.size]? = some (.cells (bx x) 65 (0, 0)) ∧ wr.heap[w.heap.size + 1]? = some (.cells (bx y) 65 (0, 0)) ∧ wr.heap[w.heap.size + 1 + 1]? = some (.cells #[zInt, zInt, zStr, zInt] 65 (0, 0)) :=
  ⟨c.blk (alloc_blk (alloc_blk (alloc_at _ _ rfl))), c.blk (alloc_blk (alloc_at _ _ (by simp))), c.blk (alloc_at _ _ (by simp))⟩
theorem r4 {w : World} {r : Nat} {T : TypeId} (h : w.heap[r]? = some (.cells #[zInt, zInt, zStr, zInt] T (0, 0))) :
    (w.cell? ⟨r, 0, none⟩ = some zInt ∧ w.cell? ⟨r, 1, none⟩ = some zInt ∧ w.cell? ⟨r, 2, none⟩ = some zStr ∧ w.cell? ⟨r, 3, none⟩ = some zInt) ∧ w.frozen? ⟨r, 0, none⟩ = false ∧ w.frozen? ⟨r, 1, none⟩ = false ∧ w.frozen? ⟨r, 2, none⟩ = false ∧ w.frozen? ⟨r, 3, none⟩ = false :=
  ⟨⟨blk_cell h rfl, blk_cell h rfl, blk_cell h rfl, blk_cell h rfl⟩, blk_frozen h 0, blk_frozen h 1, blk_frozen h 2, blk_frozen h 3⟩
theorem Chg.four {w w' : World} (h : Chg No w w') {b : Nat} (hb : w.heap.size ≤ b) (u0 u1 u2 u3 : Value) : Chg No w ((((w'.setCell ⟨b, 0, none⟩ u0).setCell ⟨b, 1, none⟩ u1).setCell ⟨b, 2, none⟩ u2).setCell ⟨b, 3, none⟩ u3) :=
  (((h.set_new hb _ _).set_new hb _ _).set_new hb _ _).set_new hb _ _
set_option maxRecDepth 100000 in
set_option maxHeartbeats 800000 in
theorem two_same (w : World) (p : Value) (x : Vt) : Calls Tryz.prog 119 #[p, vtV x, vtV x] w fun e w' => e = .returned (vtV x) ∧ Chg No w w' := by
  have CW := Lib.hid (two_box w x x)
  go_enter Tryz.func119, Tryz.ntmps119
  go_wp2_with fail
  refine (below_same _ p x).mono ?_
  rintro e w1 ⟨rfl, d1⟩
  obtain ⟨-, h2, h3⟩ := two_box_blk d1
  obtain ⟨q0, q1, q2, q3⟩ := b4 (x := x) h2
  obtain ⟨⟨r0, r1, r2, r3⟩, y0, y1, y2, y3⟩ := r4 h3
  have D1 := Lib.hid d1
  clear h2 h3 d1
  go_wp2
  refine bodyPost_ret (v := vtV x) (by simp [results, Tryz.results119, go_sem, r0, r1, r2, r3]) rfl ⟨rfl, ?_⟩
  exact Chg.four (CW.out.trans D1.out (fun _ _ h => h)) (by omega) _ _ _ _
set_option maxRecDepth 100000 in
set_option maxHeartbeats 800000 in
theorem two_12 (w : World) (p : Value) : Calls Tryz.prog 119 #[p, vtV (kV 1), vtV (kV 2)] w fun e w' => e = .returned (vtV (kV 6)) ∧ Chg No w w' := by
  have CW := Lib.hid (two_box w (kV 1) (kV 2))
  go_enter Tryz.func119, Tryz.ntmps119
  go_wp2_with fail
  refine (below_no _ p 1 2 (by decide) rfl rfl).mono ?_
  rintro e w1 ⟨rfl, d1⟩
  obtain ⟨h1, h2, h3⟩ := two_box_blk (w := w) (x := kV 1) (y := kV 2) d1
  obtain ⟨q0, q1, q2, q3⟩ := b4 (x := kV 1) h1
  obtain ⟨p0, p1, p2, p3⟩ := b4 (x := kV 2) h2
  have D1 : RowKit.Hid (Chg No (((w.alloc (.cells (bx (kV 1)) 65)).alloc (.cells (bx (kV 2)) 65)).alloc (.cells #[zInt, zInt, zStr, zInt] 65)) w1) := Lib.hid d1
  clear h1 h2 h3 d1
  go_wp2_with fail
  refine (below_no w1 p 2 1 (by decide) rfl rfl).mono ?_
  rintro e w2 ⟨rfl, d2⟩
  have D2 := Lib.hid (D1.out.trans d2 (fun _ _ h => h))
  clear q0 q1 q2 q3 p0 p1 p2 p3 d2
  obtain ⟨h1, h2, h3⟩ := two_box_blk (w := w) (x := kV 1) (y := kV 2) D2.out
  obtain ⟨q0, q1, q2, q3⟩ := b4 (x := kV 1) h1
  obtain ⟨p0, p1, p2, p3⟩ := b4 (x := kV 2) h2
  obtain ⟨⟨r0, r1, r2, r3⟩, y0, y1, y2, y3⟩ := r4 h3
  clear h1 h2 h3
  go_wp2
  refine bodyPost_ret (v := vtV (kV 6)) (by simp [results, Tryz.results119, go_sem, r0, r1, r2, r3]) rfl ⟨rfl, ?_⟩
  exact Chg.four (CW.out.trans D2.out (fun _ _ h => h)) (by omega) _ _ _ _

set_option maxRecDepth 100000 in
set_option maxHeartbeats 1600000 in
theorem join_pair (w : World) (p : Value) (r : Nat) (x y z : Vt) (hr : w.heap[r]? = some (.cells #[.int .i64 x.kind, .int .i64 x.type.dims, strV x.type.name, .int .i64 x.at_, .int .i64 y.kind, .int .i64 y.type.dims, strV y.type.name, .int .i64 y.at_] 65 (0, 0)))
    (ht : ∀ w', Chg No w w' → Calls Tryz.prog 119 #[p, vtV x, vtV y] w' fun e w'' => e = .returned (vtV z) ∧ Chg No w' w'') :
    Calls Tryz.prog 94 #[p, .slice (some ⟨r, 0, none⟩) 2 2] w fun e w' => e = .returned (vtV z) ∧ Chg No w w' := by
  have HT := Lib.hid ht; clear ht
  have q0 : w.cell? ⟨r, 0, none⟩ = some (.int .i64 x.kind) := blk_cell hr rfl
  have q1 : w.cell? ⟨r, 1, none⟩ = some (.int .i64 x.type.dims) := blk_cell hr rfl
  have q2 : w.cell? ⟨r, 2, none⟩ = some (strV x.type.name) := blk_cell hr rfl
  have q3 : w.cell? ⟨r, 3, none⟩ = some (.int .i64 x.at_) := blk_cell hr rfl
  have q4 : w.cell? ⟨r, 4, none⟩ = some (.int .i64 y.kind) := blk_cell hr rfl
  have q5 : w.cell? ⟨r, 5, none⟩ = some (.int .i64 y.type.dims) := blk_cell hr rfl
  have q6 : w.cell? ⟨r, 6, none⟩ = some (strV y.type.name) := blk_cell hr rfl
  have q7 : w.cell? ⟨r, 7, none⟩ = some (.int .i64 y.at_) := blk_cell hr rfl
  have hl := heap_lt hr
  have al : ∀ (j : Nat) (u : Value), w.cell? ⟨r, j, none⟩ = some u → ∀ o o2 o3, (((w.alloc o).alloc o2).alloc o3).cell? ⟨r, j, none⟩ = some u := fun j u h o o2 o3 => (((((Chg.refl No w).alloc o).alloc o2).alloc o3).cell (p := ⟨r, j, none⟩) hl (fun h => h)).trans h
  have m4 := al _ _ q4
  have m5 := al _ _ q5
  have m6 := al _ _ q6
  have m7 := al _ _ q7
  clear al
  clear hr
  go_enter Tryz.func94, Tryz.ntmps94
  go_wp2
  refine wp_loop_rounds 3 ?_
  rw [rounds_succ]
  go_wp2
  rw [rounds_succ]
  go_wp2_with fail
  refine (HT.out _ (((((Chg.refl No w).alloc (.cells #[zInt, zInt, zStr, zInt] 65)).alloc (.cells (bx x) 65)).alloc (.cells (bx x) 65)).alloc (.cells (bx y) 65))).mono ?_
  rintro e w1 ⟨rfl, d1⟩
  have hR : w1.heap[w.heap.size]? = some (.cells #[zInt, zInt, zStr, zInt] 65 (0, 0)) := d1.blk (alloc_blk (alloc_blk (alloc_blk (alloc_at _ _ rfl))))
  have hB : w1.heap[w.heap.size + 1]? = some (.cells (bx x) 65 (0, 0)) := d1.blk (alloc_blk (alloc_blk (alloc_at _ _ (by simp))))
  obtain ⟨⟨r0, r1, r2, r3⟩, y0, y1, y2, y3⟩ := r4 hR
  obtain ⟨p0, p1, p2, p3⟩ := b4 (x := x) hB
  have g0 := blk_frozen hB 0
  have g1 := blk_frozen hB 1
  have g2 := blk_frozen hB 2
  have g3 := blk_frozen hB 3
  have D1 : RowKit.Hid (Chg No w w1) := Lib.hid ((((((Chg.refl No w).alloc (.cells #[zInt, zInt, zStr, zInt] 65)).alloc (.cells (bx x) 65)).alloc (.cells (bx x) 65)).alloc (.cells (bx y) 65)).trans d1 (fun _ _ h => h))
  clear d1 hR hB q0 q1 q2 q3 q4 q5 q6 q7 m4 m5 m6 m7
  go_wp2
  rw [rounds_succ]
  go_wp2
  refine bodyPost_ret (v := vtV z) (by simp [results, Tryz.results94, go_sem, r0, r1, r2, r3]) rfl ⟨rfl, ?_⟩
  exact Chg.four (Chg.four D1.out (by omega) _ _ _ _) (Nat.le_refl _) _ _ _ _
end Go.Proofs.YtgmmclcpfmnoiaaGreatDoor

namespace Go.Proofs.YtgmmclcpfmnoiaaGreatDoor
open Go.RowKit
attribute [local go_sem high] eqVt_run

theorem shape_c (w : World) (x y : Vt) (a1 a2 a3 a4 : Option Addr) (n1 n2 n3 n4 c1 c2 c3 c4 : Nat) :
    Calls Tryz.prog 93 #[frV x (.slice a1 n1 c1) (.slice a2 n2 c2), frV y (.slice a3 n3 c3) (.slice a4 n4 c4)] w fun e w' => e = .returned (.bool (decide (n1 = n3 ∧ n2 = n4))) ∧ Chg No w w' := by
  by_cases h1 : n1 = n3
  · by_cases h2 : n2 = n4
    · have e1 : ((n1 : Int) == (n3 : Int)) = true := by rw [h1]; simp
      have e2 : ((n2 : Int) == (n4 : Int)) = true := by rw [h2]; simp
      have H := Lib.hid (And.intro h1 h2); clear h1 h2
      go_enter Tryz.func93, Tryz.ntmps93
      go_wp2
      go_ret
      exact ⟨ret_b (by simp [H.out]), ((Chg.refl _ _).alloc _).alloc _⟩
    · have e1 : ((n1 : Int) == (n3 : Int)) = true := by rw [h1]; simp
      have e2 : ((n2 : Int) == (n4 : Int)) = false := by rw [beq_eq_false_iff_ne]; omega
      have H := Lib.hid h2; clear h1 h2
      go_enter Tryz.func93, Tryz.ntmps93
      go_wp2
      go_ret
      exact ⟨ret_b (by simp [H.out]), ((Chg.refl _ _).alloc _).alloc _⟩
  · have e1 : ((n1 : Int) == (n3 : Int)) = false := by rw [beq_eq_false_iff_ne]; omega
    have H := Lib.hid h1; clear h1
    go_enter Tryz.func93, Tryz.ntmps93
    go_wp2
    go_ret
    exact ⟨ret_b (by simp [H.out]), ((Chg.refl _ _).alloc _).alloc _⟩

abbrev row12 (x : Vt) (lv sv : Value) (y : Vt) (lv' sv' : Value) : Array Value := #[.int .i64 x.kind, .int .i64 x.type.dims, strV x.type.name, .int .i64 x.at_, lv, sv, .int .i64 y.kind, .int .i64 y.type.dims, strV y.type.name, .int .i64 y.at_, lv', sv']
theorem c12 {w : World} {r : Nat} {T : TypeId} {x y : Vt} {lv sv lv' sv' : Value} (h : w.heap[r]? = some (.cells (row12 x lv sv y lv' sv') T (0, 0))) :
    (w.cell? ⟨r, 0, none⟩ = some (.int .i64 x.kind) ∧ w.cell? ⟨r, 1, none⟩ = some (.int .i64 x.type.dims) ∧ w.cell? ⟨r, 2, none⟩ = some (strV x.type.name) ∧ w.cell? ⟨r, 3, none⟩ = some (.int .i64 x.at_) ∧ w.cell? ⟨r, 4, none⟩ = some lv ∧ w.cell? ⟨r, 5, none⟩ = some sv) ∧
    w.cell? ⟨r, 6, none⟩ = some (.int .i64 y.kind) ∧ w.cell? ⟨r, 7, none⟩ = some (.int .i64 y.type.dims) ∧ w.cell? ⟨r, 8, none⟩ = some (strV y.type.name) ∧ w.cell? ⟨r, 9, none⟩ = some (.int .i64 y.at_) ∧ w.cell? ⟨r, 10, none⟩ = some lv' ∧ w.cell? ⟨r, 11, none⟩ = some sv' :=
  ⟨⟨blk_cell h rfl, blk_cell h rfl, blk_cell h rfl, blk_cell h rfl, blk_cell h rfl, blk_cell h rfl⟩, blk_cell h rfl, blk_cell h rfl, blk_cell h rfl, blk_cell h rfl, blk_cell h rfl, blk_cell h rfl⟩
abbrev z6 : Array Value := #[zInt, zInt, zStr, zInt, zNil, zNil]

theorem j1_blk {w wr : World} {x : Vt} {lv sv : Value} (c : Chg No ((((w.alloc (.cells z6 68)).alloc (.cells z6 107)).alloc (.cells (frA x lv sv) 68)).alloc (.cells (frA x lv sv) 107)) wr) :
    wr.heap[w.heap.size]? = some (.cells z6 68 (0, 0)) ∧ wr.heap[w.heap.size + 1]? = some (.cells z6 107 (0, 0)) ∧ wr.heap[w.heap.size + 1 + 1]? = some (.cells (frA x lv sv) 68 (0, 0)) ∧ wr.heap[w.heap.size + 1 + 1 + 1]? = some (.cells (frA x lv sv) 107 (0, 0)) :=
  ⟨c.blk (alloc_blk (alloc_blk (alloc_blk (alloc_at _ _ rfl)))), c.blk (alloc_blk (alloc_blk (alloc_at _ _ (by simp)))), c.blk (alloc_blk (alloc_at _ _ (by simp))), c.blk (alloc_at _ _ (by simp))⟩
theorem VS.chg {S : Blocks} {w w' : World} {v : Value} {xs : List Vt} (h : VS w v xs) (c : Chg S w w') (hn : xs ≠ [] → ∀ k, v.ownBlock = some k → ¬ S k) : VS w' v xs := by
  obtain ⟨a, cap, rfl, h1, h2, h3⟩ := h
  refine ⟨a, cap, rfl, h1, h2, fun p hp hx => ?_⟩
  obtain ⟨h4, h5, h6, h7⟩ := h3 p hp hx
  refine ⟨h4, Nat.lt_of_lt_of_le h5 c.size, Nat.lt_of_lt_of_le h5 c.size, fun i x hi => ?_⟩
  obtain ⟨cs, h8, h9, h10⟩ := h7 i x hi
  have hs := hn hx p.block (by rw [hp]; rfl)
  exact ⟨cs, h8, h9, h10.chg c (by rw [add_block]; exact hs) (by rw [add_block]; exact h5)⟩
/-- Two rows joined, up to a place. -/
def zipUp (jn : Vt → Vt → Vt) (xs ys : List Vt) (k : Nat) : List Vt := (List.zipWith jn xs ys).take k ++ xs.drop k
theorem zipUp_len {jn : Vt → Vt → Vt} {xs ys : List Vt} {k : Nat} (h : xs.length = ys.length) (hk : k ≤ xs.length) : (zipUp jn xs ys k).length = xs.length := by
  unfold zipUp; rw [List.length_append, List.length_take, List.length_zipWith, List.length_drop]; omega
theorem zipUp_get {jn : Vt → Vt → Vt} {xs ys : List Vt} {k : Nat} (h : xs.length = ys.length) (hk : k < xs.length) (hl : k < (zipUp jn xs ys k).length) : (zipUp jn xs ys k)[k] = xs[k] := by
  have ht : ((List.zipWith jn xs ys).take k).length = k := by rw [List.length_take, List.length_zipWith]; omega
  have h0 : (zipUp jn xs ys k)[k]? = some xs[k] := by
    unfold zipUp
    rw [List.getElem?_append_right (by omega), ht, Nat.sub_self, List.getElem?_drop, Nat.add_zero, List.getElem?_eq_getElem hk]
  rw [List.getElem?_eq_getElem hl] at h0
  exact Option.some.inj h0
theorem zipUp_set {jn : Vt → Vt → Vt} {xs ys : List Vt} {k : Nat} (h : xs.length = ys.length) (hk : k < xs.length) (hk' : k < ys.length) : (zipUp jn xs ys k).set k (jn xs[k] ys[k]) = zipUp jn xs ys (k + 1) := by
  unfold zipUp
  have ht : ((List.zipWith jn xs ys).take k).length = k := by rw [List.length_take, List.length_zipWith]; omega
  have hz : k < (List.zipWith jn xs ys).length := by rw [List.length_zipWith]; omega
  rw [List.set_append_right _ _ (by omega), ht, Nat.sub_self, List.drop_eq_getElem_cons hk, List.set_cons_zero, List.take_succ_eq_append_getElem hz, List.getElem_zipWith, List.append_assoc]
  rfl
theorem zipUp_all {jn : Vt → Vt → Vt} {x y : Vt} {a b c d : List Vt} (h1 : a.length = c.length) (h2 : b.length = d.length) : zipUp jn (x :: (a ++ b)) (y :: (c ++ d)) (a.length + b.length + 1) = jn x y :: (List.zipWith jn a c ++ List.zipWith jn b d) := by
  unfold zipUp
  have e : (List.zipWith jn (x :: (a ++ b)) (y :: (c ++ d))).length = a.length + b.length + 1 := by rw [List.length_zipWith]; simp <;> omega
  rw [← e, List.take_length, e, List.drop_of_length_le (by simp), List.append_nil, List.zipWith_cons_cons, List.zipWith_append h1]
/-- What Join tells of two frames that are reached. -/
def JPost (w : World) (f g : Fr) (jn : Vt → Vt → Vt) (e : Ending) (w' : World) : Prop :=
  Chg No w w' ∧ ((¬ (f.locals_.length = g.locals_.length ∧ f.stack.length = g.stack.length) ∧ e = .returned (.tuple #[frV zV zNil zNil, .int .i64 45])) ∨
    ((f.locals_.length = g.locals_.length ∧ f.stack.length = g.stack.length) ∧ ∃ lv sv, e = .returned (.tuple #[frV (jn f.self_ g.self_) lv sv, .int .i64 0]) ∧ VO w' lv (List.zipWith jn f.locals_ g.locals_) ∧ VO w' sv (List.zipWith jn f.stack g.stack)))
/-- What holds behind the first frame. -/
def JS (w wz : World) (r : Nat) (fs gs : Vt) (u1 u2 v1 v2 v3 v4 : Value) (fl fk gl gk : List Vt) : Prop :=
  Chg No w wz ∧ wz.heap[w.heap.size]? = some (.cells z6 68 (0, 0)) ∧ wz.heap[w.heap.size + 1]? = some (.cells (frA fs v1 v2) 107 (0, 0)) ∧ wz.heap[r]? = some (.cells (row12 fs u1 u2 gs v3 v4) 68 (0, 0)) ∧ VS wz v1 fl ∧ VS wz v2 fk ∧ VS wz v3 gl ∧ VS wz v4 gk
theorem js_of {w w3 : World} {r : Nat} {fs gs : Vt} {u1 u2 v1 v2 v3 v4 : Value} {fl fk gl gk : List Vt} (c : Chg No w w3) (hR : w3.heap[w.heap.size]? = some (.cells z6 68 (0, 0))) (hO : w3.heap[w.heap.size + 1]? = some (.cells z6 107 (0, 0))) (hr : w.heap[r]? = some (.cells (row12 fs u1 u2 gs v3 v4) 68 (0, 0)))
    (o1 : VO w3 v1 fl) (o2 : VO w3 v2 fk) (m1 : ∀ k, v1.ownBlock = some k → w.heap.size + 2 ≤ k) (m2 : ∀ k, v2.ownBlock = some k → w.heap.size + 2 ≤ k) (h3 : VS w v3 gl) (h4 : VS w v4 gk) :
    JS w ((((((w3.setCell ⟨w.heap.size + 1, 0, none⟩ (.int .i64 fs.kind)).setCell ⟨w.heap.size + 1, 1, none⟩ (.int .i64 fs.type.dims)).setCell ⟨w.heap.size + 1, 2, none⟩ (strV fs.type.name)).setCell ⟨w.heap.size + 1, 3, none⟩ (.int .i64 fs.at_)).setCell ⟨w.heap.size + 1, 4, none⟩ v1).setCell ⟨w.heap.size + 1, 5, none⟩ v2) r fs gs u1 u2 v1 v2 v3 v4 fl fk gl gk := by
  have C := Chg.six c (b := w.heap.size + 1) (by omega) (.int .i64 fs.kind) (.int .i64 fs.type.dims) (strV fs.type.name) (.int .i64 fs.at_) v1 v2
  have hne : w.heap.size ≠ w.heap.size + 1 := by omega
  exact ⟨C, blk_other (blk_other (blk_other (blk_other (blk_other (blk_other hR hne _ _) hne _ _) hne _ _) hne _ _) hne _ _) hne _ _, setCell_at (setCell_at (setCell_at (setCell_at (setCell_at (setCell_at hO _) _) _) _) _) _, C.blk hr,
    VO.vs (o1.six (fun k hk => by have := m1 k hk; omega) _ _ _ _ _ _), VO.vs (o2.six (fun k hk => by have := m2 k hk; omega) _ _ _ _ _ _), h3.new C, h4.new C⟩
theorem z6_size {w wr : World} {x : Vt} {lv sv : Value} (c : Chg No ((((w.alloc (.cells z6 68)).alloc (.cells z6 107)).alloc (.cells (frA x lv sv) 68)).alloc (.cells (frA x lv sv) 107)) wr) : w.heap.size + 4 ≤ wr.heap.size := by
  have := c.size
  simpa using this
set_option maxRecDepth 100000 in
set_option maxHeartbeats 3200000 in
theorem join2 (w : World) (p : Value) (r : Nat) (f g : Fr) (lv sv lv' sv' : Value) (hr : w.heap[r]? = some (.cells (row12 f.self_ lv sv g.self_ lv' sv') 68 (0, 0)))
    (h1 : VS w lv f.locals_) (h2 : VS w sv f.stack) (h3 : VS w lv' g.locals_) (h4 : VS w sv' g.stack) (l1 : f.locals_.length ≤ 1000) (l2 : f.stack.length ≤ 1000) (l3 : g.locals_.length ≤ 1000) (l4 : g.stack.length ≤ 1000) (k1 : (f.self_.kind == 0) = false) (k2 : (g.self_.kind == 0) = false) (jn : Vt → Vt → Vt)
    (ht : f.locals_.length = g.locals_.length ∧ f.stack.length = g.stack.length → ∀ w', Chg No w w' → ∀ (i : Nat) (x y : Vt), (f.self_ :: (f.locals_ ++ f.stack))[i]? = some x → (g.self_ :: (g.locals_ ++ g.stack))[i]? = some y → Calls Tryz.prog 119 #[p, vtV x, vtV y] w' fun e w'' => e = .returned (vtV (jn x y)) ∧ Chg No w' w'') :
    Calls Tryz.prog 53 #[p, .slice (some ⟨r, 0, none⟩) 2 2] w (JPost w f g jn) := by
  obtain ⟨fs, fl, fk⟩ := f
  obtain ⟨gs, gl, gk⟩ := g
  simp only at hr h1 h2 h3 h4 l1 l2 l3 l4 k1 k2 ht
  obtain ⟨a1, c1, hv1, -, -⟩ := h1.form
  obtain ⟨a2, c2, hv2, -, -⟩ := h2.form
  obtain ⟨a3, c3, hv3, -, -⟩ := h3.form
  obtain ⟨a4, c4, hv4, -, -⟩ := h4.form
  have H := Lib.hid (And.intro h1 (And.intro h2 (And.intro h3 h4))); clear h1 h2 h3 h4
  subst hv1; subst hv2; subst hv3; subst hv4
  obtain ⟨⟨q0, q1, q2, q3, q4, q5⟩, -⟩ := c12 hr
  have hrl := heap_lt hr
  have HR := Lib.hid hr; clear hr
  have HN := Lib.hid ht; clear ht
  go_enter Tryz.func53, Tryz.ntmps53
  go_wp2
  refine wp_loop_rounds 3 ?_
  rw [rounds_succ]
  go_wp2_with fail
  have hr1 := reached_c ((((w.alloc (.cells z6 68)).alloc (.cells z6 107)).alloc (.cells (frA fs (.slice a1 fl.length c1) (.slice a2 fk.length c2)) 68)).alloc (.cells (frA fs (.slice a1 fl.length c1) (.slice a2 fk.length c2)) 107)) fs (.slice a1 fl.length c1) (.slice a2 fk.length c2)
  rw [k1] at hr1
  refine hr1.mono ?_
  rintro e w1 ⟨rfl, d1⟩
  have B1 := Lib.hid (j1_blk d1)
  have Z1 := Lib.hid (z6_size d1)
  have C1 : RowKit.Hid (Chg No w w1) := Lib.hid (((((Chg.refl No w).alloc _).alloc _).alloc _).alloc _ |>.trans d1 (fun _ _ h => h))
  obtain ⟨⟨o0, o1, o2, o3, o4, o5⟩, -⟩ := r6 B1.out.2.1
  clear hr1 d1 q0 q1 q2 q3 q4 q5
  go_wp2_with fail
  refine (reached_c w1 zV zNil zNil).mono ?_
  rintro e w2 ⟨rfl, d2⟩
  have B2 := Lib.hid (And.intro (d2.blk B1.out.1) (And.intro (d2.blk B1.out.2.1) (And.intro (d2.blk B1.out.2.2.1) (d2.blk B1.out.2.2.2))))
  have C2 := Lib.hid (C1.out.trans d2 (fun _ _ h => h))
  have S2 := Lib.hid d2.size
  obtain ⟨⟨b0, b1, b2, b3, b4, b5⟩, -⟩ := f6 B2.out.2.2.1
  clear d2 o0 o1 o2 o3 o4 o5
  go_wp2_with fail
  refine (twin_fr w2 ⟨fs, fl, fk⟩ (.slice a1 fl.length c1) (.slice a2 fk.length c2) (H.out.1.new C2.out) (H.out.2.1.new C2.out) (by simp only; omega) (by simp only; omega)).mono ?_
  rintro e w3 ⟨lv, sv, rfl, o1, o2, d3, m1, m2⟩
  obtain ⟨na, nc, hl⟩ := OQ.form o1
  obtain ⟨ma, mc, hs⟩ := OQ.form o2
  simp only at hl hs
  subst hl; subst hs
  have B3 := Lib.hid (And.intro (d3.blk B2.out.1) (d3.blk B2.out.2.1))
  have C3 := Lib.hid (C2.out.trans d3 (fun _ _ h => h))
  have Z2 : w.heap.size + 2 ≤ w2.heap.size := by have h8 := Z1.out; have h9 := S2.out; omega
  have O3 := Lib.hid (And.intro o1 (And.intro o2 (And.intro (fun k hk => Nat.le_trans Z2 (m1 k hk)) (fun k hk => Nat.le_trans Z2 (m2 k hk)))))
  clear Z2
  obtain ⟨⟨p0, p1, p2, p3, p4, p5⟩, y0, y1, y2, y3, y4, y5⟩ := r6 B3.out.2
  clear d3 o1 o2 m1 m2 b0 b1 b2 b3 b4 b5
  go_wp2
  rw [rounds_succ]
  refine (fun (key : ∀ wz, JS w wz r fs gs (.slice a1 fl.length c1) (.slice a2 fk.length c2) (.slice na fl.length nc) (.slice ma fk.length mc) (.slice a3 gl.length c3) (.slice a4 gk.length c4) fl fk gl gk → Code.wp _ _ _ _ wz) => key _ (js_of C3.out B3.out.1 B3.out.2 HR.out O3.out.1 O3.out.2.1 O3.out.2.2.1 O3.out.2.2.2 H.out.2.2.1 H.out.2.2.2)) ?_
  clear p0 p1 p2 p3 p4 p5 y0 y1 y2 y3 y4 y5 B3 C3 O3 B2 C2 S2 B1 C1 Z1 HR
  intro wz js
  obtain ⟨⟨-, -, -, -, -, -⟩, q6, q7, q8, q9, q10, q11⟩ := c12 js.2.2.2.1
  have hrz := heap_lt js.2.2.2.1
  have J := Lib.hid js
  clear js
  go_wp2_with fail
  have hr1 := reached_c ((wz.alloc (.cells (frA gs (.slice a3 gl.length c3) (.slice a4 gk.length c4)) 68)).alloc (.cells (frA gs (.slice a3 gl.length c3) (.slice a4 gk.length c4)) 107)) gs (.slice a3 gl.length c3) (.slice a4 gk.length c4)
  rw [k2] at hr1
  refine hr1.mono ?_
  rintro e w4 ⟨rfl, d4⟩
  have D4 : RowKit.Hid (Chg No wz w4) := Lib.hid ((((Chg.refl No wz).alloc _).alloc _).trans d4 (fun _ _ h => h))
  have G4 : RowKit.Hid (w4.heap[wz.heap.size + 1]? = some (.cells (frA gs (.slice a3 gl.length c3) (.slice a4 gk.length c4)) 107 (0, 0))) := Lib.hid (d4.blk (alloc_at _ _ (by simp)))
  obtain ⟨⟨o0, o1, o2, o3, o4, o5⟩, -⟩ := f6 (D4.out.blk J.out.2.2.1)
  clear d4 hr1 q6 q7 q8 q9 q10 q11
  go_wp2_with fail
  have hr2 := reached_c w4 fs (.slice na fl.length nc) (.slice ma fk.length mc)
  rw [k1] at hr2
  refine hr2.mono ?_
  rintro e w5 ⟨rfl, d5⟩
  have D5 := Lib.hid (D4.out.trans d5 (fun _ _ h => h))
  have G5 := Lib.hid (d5.blk G4.out)
  clear o0 o1 o2 o3 o4 o5 d5 hr2
  obtain ⟨⟨o0, o1, o2, o3, o4, o5⟩, -⟩ := f6 (D5.out.blk J.out.2.2.1)
  obtain ⟨⟨t0, t1, t2, t3, t4, t5⟩, -⟩ := f6 G5.out
  go_wp2_with fail
  have hsh := shape_c w5 fs gs na ma a3 a4 fl.length fk.length gl.length gk.length nc mc c3 c4
  by_cases hne : fl.length = gl.length ∧ fk.length = gk.length
  · rw [decide_eq_true hne] at hsh
    refine hsh.mono ?_
    rintro e w6 ⟨rfl, d6⟩
    obtain ⟨e1, e2⟩ := hne
    have HX := Lib.hid (And.intro e1 e2)
    have D6 := Lib.hid (D5.out.trans d6 (fun _ _ h => h))
    have G6 := Lib.hid (d6.blk G5.out)
    clear hsh d6 e1 e2 o0 o1 o2 o3 o4 o5 t0 t1 t2 t3 t4 t5 D4 G4 G5
    obtain ⟨⟨o0, o1, o2, o3, o4, o5⟩, -⟩ := f6 (D6.out.blk J.out.2.2.1)
    go_wp2_with fail
    refine (values_c w6 ⟨fs, fl, fk⟩ (.slice na fl.length nc) (.slice ma fk.length mc) (J.out.2.2.2.2.1.new D6.out) (J.out.2.2.2.2.2.1.new D6.out) l1 l2).mono ?_
    rintro e w7 ⟨v7, rfl, x1, d7, m7⟩
    obtain ⟨g, gc, hv, -⟩ := OQ.form1 x1 (by simp)
    rw [show (fs :: (fl ++ fk)).length = fl.length + fk.length + 1 from by simp] at hv
    subst hv
    have E7 := Lib.hid (And.intro x1 (And.intro (D6.out.trans d7 (fun _ _ h => h)) (And.intro d7.size (m7 g rfl))))
    have G7 := Lib.hid (d7.blk G6.out)
    clear x1 d7 m7 o0 o1 o2 o3 o4 o5
    obtain ⟨⟨t0, t1, t2, t3, t4, t5⟩, -⟩ := f6 G7.out
    go_wp2_with fail
    refine (values_c w7 ⟨gs, gl, gk⟩ (.slice a3 gl.length c3) (.slice a4 gk.length c4) (J.out.2.2.2.2.2.2.1.new E7.out.2.1) (J.out.2.2.2.2.2.2.2.new E7.out.2.1) l3 l4).mono ?_
    rintro e w8 ⟨v8, rfl, x1, d8, m8⟩
    obtain ⟨g', gc', hv, -⟩ := OQ.form1 x1 (by simp)
    have hyl : (gs :: (gl ++ gk)).length = fl.length + fk.length + 1 := by have := HX.out.1; have := HX.out.2; simp; omega
    rw [hyl] at hv
    subst hv
    have hgg : w7.heap.size ≤ g' := m8 g' rfl
    have hgl := E7.out.1.lt g rfl
    obtain ⟨xs, hxs⟩ : ∃ xs, xs = fs :: (fl ++ fk) := ⟨_, rfl⟩
    obtain ⟨ys, hys⟩ : ∃ ys, ys = gs :: (gl ++ gk) := ⟨_, rfl⟩
    have hxl : xs.length = fl.length + fk.length + 1 := by rw [hxs]; simp
    rw [← hys] at x1 hyl
    have E8 := Lib.hid (And.intro (show VO w8 _ xs by rw [hxs]; exact OQ.new goodVt E7.out.1 d8) (And.intro (VO.vs x1) (E7.out.2.1.trans d8 (fun _ _ h => h))))
    have HN' := Lib.hid (HN.out HX.out)
    rw [← hxs, ← hys] at HN'
    have HXY := Lib.hid (And.intro hxs hys)
    have HG := Lib.hid (And.intro E7.out.2.2.1 (And.intro E7.out.2.2.2 (And.intro hgg hgl)))
    have HM := Lib.hid (And.intro hxl hyl)
    clear x1 d8 m8 t0 t1 t2 t3 t4 t5 hxs hys hyl hgg hgl G7 G6 E7 hxl
    go_wp2
    go_loopw [26] (fun i wr => ∃ k : Nat, k ≤ fl.length + fk.length + 1 ∧ i = .int .i64 k ∧ RowKit.Hid (VO wr (.slice (some ⟨g, 0, none⟩) (fl.length + fk.length + 1) gc) (zipUp jn xs ys k) ∧ Chg (· = g) w8 wr)) (fun i _ => fl.length + fk.length + 1 - (intOf i).toNat)
    case atStart => exact ⟨0, Nat.zero_le _, rfl, Lib.hid ⟨by unfold zipUp; simpa using E8.out.1, Chg.refl _ _⟩⟩
    case round =>
      obtain ⟨k, hk, rfl, hI⟩ := hrel
      by_cases hlt : k < fl.length + fk.length + 1
      · have hkx : k < xs.length := by rw [HM.out.1]; exact hlt
        have hky : k < ys.length := by rw [HM.out.2]; exact hlt
        have hxy : xs.length = ys.length := by rw [HM.out.1, HM.out.2]
        obtain ⟨b', o', hbo, hbl, g0, g1, g2, g3⟩ := (VO.vs hI.out.1).cells k (by rw [zipUp_len hxy (Nat.le_of_lt hkx)]; exact hkx)
        cases hbo
        rw [zipUp_get hxy hkx, Nat.zero_add] at g0 g1 g2 g3
        have hys' : VS wr (.slice (some ⟨g', 0, none⟩) (fl.length + fk.length + 1) gc') ys := E8.out.2.1.chg hI.out.2 (fun _ k hk e => by simp [Value.ownBlock] at hk; have := HG.out.2.2.1; have := HG.out.2.2.2; omega)
        obtain ⟨b2, o2, hbo2, hbl2, j0, j1, j2, j3⟩ := hys'.cells k hky
        cases hbo2
        rw [Nat.zero_add] at j0 j1 j2 j3
        obtain ⟨cur, hcur⟩ := OQ.block hI.out.1 (k := g) rfl
        have HC := Lib.hid (And.intro hcur (And.intro (zipUp_set (jn := jn) hxy hkx hky) (zipUp_len (jn := jn) hxy (Nat.le_of_lt hkx))))
        have HTW := Lib.hid (fun (w' : World) (c : Chg No wr w') => HN'.out w' (((J.out.1.trans E8.out.2.2 (fun _ _ h => h)).trans hI.out.2 (fun n hn e => by have z1 := HG.out.2.1; have z2 := D6.out.size; have z3 := J.out.1.size; omega)).trans c (fun _ _ h => h)) k xs[k] ys[k] (List.getElem?_eq_getElem hkx) (List.getElem?_eq_getElem hky))
        clear hcur hys'
        go_wp2_with fail
        obtain ⟨x, hx⟩ : ∃ x, x = xs[k] := ⟨_, rfl⟩
        obtain ⟨y, hy⟩ : ∃ y, y = ys[k] := ⟨_, rfl⟩
        rw [← hx] at g0 g1 g2 g3 HC HTW
        rw [← hy] at HC HTW ⊢
        clear hx hy j0 j1 j2 j3
        obtain ⟨W, hW⟩ : ∃ W, W = wr.alloc (.cells (bx y) 65) := ⟨_, rfl⟩
        change Code.wp _ _ _ _ (wr.alloc (.cells (bx y) 65))
        rw [← hW]
        have cW : Chg No wr W := by rw [hW]; exact (Chg.refl _ _).alloc _
        have hbW : W.heap[wr.heap.size]? = some (.cells (bx y) 65 (0, 0)) := by rw [hW]; exact alloc_at _ _ rfl
        have g0' := (cW.cell (p := ⟨g, k * 4, none⟩) hbl (fun h => h)).trans g0
        have g1' := (cW.cell (p := ⟨g, k * 4 + 1, none⟩) hbl (fun h => h)).trans g1
        have g2' := (cW.cell (p := ⟨g, k * 4 + 2, none⟩) hbl (fun h => h)).trans g2
        have g3' := (cW.cell (p := ⟨g, k * 4 + 3, none⟩) hbl (fun h => h)).trans g3
        have SB : RowKit.Hid (∀ w', Chg (· = g) W w' → w'.cell? ⟨wr.heap.size, 0, none⟩ = some (.int .i64 y.kind) ∧ w'.cell? ⟨wr.heap.size, 1, none⟩ = some (.int .i64 y.type.dims) ∧ w'.cell? ⟨wr.heap.size, 2, none⟩ = some (strV y.type.name) ∧ w'.cell? ⟨wr.heap.size, 3, none⟩ = some (.int .i64 y.at_)) := Lib.hid (fun w' hc => b4 (x := y) ((hc.block _ (heap_lt hbW) (by omega)).trans hbW))
        have CU := Lib.hid (Chg.refl (· = g) W)
        have CN := Lib.hid (Chg.refl No W)
        have GW := Lib.hid (And.intro cW (And.intro g0' (And.intro g1' (And.intro g2' (And.intro g3' hbl)))))
        clear hW cW hbW g0 g1 g2 g3 hbl2
        obtain ⟨v0, v1, v2, v3⟩ := SB.out _ CU.out
        go_region_with (first
          | (go_at_call 94; refine (join_pair _ p W.heap.size x y (jn x y) (blk_drew (alloc_at _ _ rfl)) (fun w' c => HTW.out w' ((GW.out.1.alloc _).drew.trans c (fun _ _ h => h)))).mono ?_; rintro e w11 ⟨rfl, d⟩; have D11 : RowKit.Hid (Chg No W w11) := Lib.hid (((Chg.refl No W).alloc _).drew.trans d (fun _ _ h => h)); have u0 := (D11.out.cell (p := ⟨g, k * 4, none⟩) (Nat.lt_of_lt_of_le GW.out.2.2.2.2.2 GW.out.1.size) (fun h => h)).trans GW.out.2.1; have u1 := (D11.out.cell (p := ⟨g, k * 4 + 1, none⟩) (Nat.lt_of_lt_of_le GW.out.2.2.2.2.2 GW.out.1.size) (fun h => h)).trans GW.out.2.2.1; have u2 := (D11.out.cell (p := ⟨g, k * 4 + 2, none⟩) (Nat.lt_of_lt_of_le GW.out.2.2.2.2.2 GW.out.1.size) (fun h => h)).trans GW.out.2.2.2.1; have u3 := (D11.out.cell (p := ⟨g, k * 4 + 3, none⟩) (Nat.lt_of_lt_of_le GW.out.2.2.2.2.2 GW.out.1.size) (fun h => h)).trans GW.out.2.2.2.2.1; have hc11 := (GW.out.1.trans D11.out (fun _ _ h => h)).blk HC.out.1; obtain ⟨t1, t2, t3, t4, t5, t6, t7⟩ := four_cells hc11 u0 u1 u2 u3 (.int .i64 (jn x y).kind) (.int .i64 (jn x y).type.dims) (strV (jn x y).type.name); have tf1 := blk_frozen hc11 (k * 4 + 1); have tf2 := blk_frozen hc11 (k * 4 + 2); have tf3 := blk_frozen hc11 (k * 4 + 3); have CU := Lib.hid (D11.out.mono (S' := (· = g)) (fun _ _ h => h.elim)); have CS := Lib.hid (fun q0 q1 q2 q3 => ((((CU.out.setCell (p := ⟨g, k * 4, none⟩) (fun _ => rfl) q0).setCell (p := ⟨g, k * 4 + 1, none⟩) (fun _ => rfl) q1).setCell (p := ⟨g, k * 4 + 2, none⟩) (fun _ => rfl) q2).setCell (p := ⟨g, k * 4 + 3, none⟩) (fun _ => rfl) q3)); clear d hc11))
        all_goals
          go_wp2
          go_roundw
          case measure => simp [intOf]; omega
          case rel =>
            obtain ⟨s1, s2⟩ := OQ.store goodVt (OQ.new goodVt hI.out.1 (GW.out.1.trans D11.out (fun _ _ h => h))) (fun _ h => False.elim h) k (by rw [HC.out.2.2]; exact hkx) (x := jn x y) (cs := vtC (jn x y)) rfl rfl
            rw [HC.out.2.1] at s1
            exact ⟨k + 1, by omega, by go_num, Lib.hid ⟨s1, (hI.out.2.then (GW.out.1.trans D11.out (fun _ _ h => h))).trans s2 (fun _ _ h => h)⟩⟩
      · have hkn : k = fl.length + fk.length + 1 := by omega
        have hz : zipUp jn xs ys k = jn fs gs :: (List.zipWith jn fl gl ++ List.zipWith jn fk gk) := by rw [HXY.out.1, HXY.out.2, hkn]; exact zipUp_all HX.out.1 HX.out.2
        have hv := VO.vs hI.out.1
        rw [hz] at hv
        have zl : (List.zipWith jn fl gl).length = fl.length := by have := HX.out.1; rw [List.length_zipWith]; omega
        have zk : (List.zipWith jn fk gk).length = fk.length := by have := HX.out.2; rw [List.length_zipWith]; omega
        have hO8 := E8.out.2.2.blk J.out.2.2.1
        have hR8 := E8.out.2.2.blk J.out.2.1
        have hOl := heap_lt J.out.2.2.1
        have hgz : wz.heap.size ≤ g := Nat.le_trans D6.out.size HG.out.2.1
        have hO : wr.heap[w.heap.size + 1]? = some (.cells (frA fs (.slice na fl.length nc) (.slice ma fk.length mc)) 107 (0, 0)) := (hI.out.2.block _ (heap_lt hO8) (by omega)).trans hO8
        have hR : wr.heap[w.heap.size]? = some (.cells z6 68 (0, 0)) := (hI.out.2.block _ (heap_lt hR8) (by omega)).trans hR8
        have cz : Chg No w wr := (J.out.1.trans E8.out.2.2 (fun _ _ h => h)).trans hI.out.2 (fun n hn e => by have := J.out.1.size; omega)
        obtain ⟨⟨o0, o1, o2, o3, o4, o5⟩, -⟩ := f6 hO
        have HF := Lib.hid (And.intro hO (And.intro hR (And.intro cz (And.intro zl zk))))
        have hw := with_c wr fs na nc (.slice ma fk.length mc) (.slice (some ⟨g, 0, none⟩) (fl.length + fk.length + 1) gc) (jn fs gs) (List.zipWith jn fl gl) (List.zipWith jn fk gk) hv (by rw [zl]; exact l1) (by rw [zk]; exact l2)
        rw [zl] at hw
        clear hO hR hO8 hR8 hz hv hkn zl zk cz
        go_wp2_with fail
        refine hw.mono ?_
        rintro e w12 ⟨lv, sv, rfl, x1, x2, d12, m1, m2⟩
        obtain ⟨pa, pc, hl⟩ := OQ.form x1
        obtain ⟨qa, qc, hs⟩ := OQ.form x2
        rw [HF.out.2.2.2.1] at hl
        rw [HF.out.2.2.2.2] at hs
        subst hl; subst hs
        clear hw o0 o1 o2 o3 o4 o5
        obtain ⟨⟨o0, o1, o2, o3, o4, o5⟩, f0, f1, f2, f3, f4, f5⟩ := f6 (d12.blk HF.out.1)
        obtain ⟨⟨r0, r1, r2, r3, r4, r5⟩, y0, y1, y2, y3, y4, y5⟩ := r6 (d12.blk HF.out.2.1)
        have E12 := Lib.hid (And.intro x1 (And.intro x2 (And.intro d12 (And.intro m1 m2))))
        clear x1 x2 d12 m1 m2
        go_wp2
        rw [rounds_succ]
        go_wp2
        have zw : w.heap.size + 1 < wr.heap.size := heap_lt HF.out.1
        refine bodyPost_ret (v := .tuple #[frV (jn fs gs) (.slice pa fl.length pc) (.slice qa fk.length qc), .int .i64 0]) (by simp [results, Tryz.results53, go_sem, r0, r1, r2, r3, r4, r5]) rfl ⟨?_, .inr ⟨HX.out, _, _, rfl, ?_, ?_⟩⟩
        · exact Chg.six (Chg.six (HF.out.2.2.1.trans E12.out.2.2.1 (fun _ _ h => h)) (by omega) _ _ _ _ _ _) (Nat.le_refl _) _ _ _ _ _ _
        · exact VO.six (VO.six E12.out.1 (b := w.heap.size + 1) (fun k hk => by have := E12.out.2.2.2.1 k hk; omega) _ _ _ _ _ _) (b := w.heap.size) (fun k hk => by have := E12.out.2.2.2.1 k hk; omega) _ _ _ _ _ _
        · exact VO.six (VO.six E12.out.2.1 (b := w.heap.size + 1) (fun k hk => by have := E12.out.2.2.2.2 k hk; omega) _ _ _ _ _ _) (b := w.heap.size) (fun k hk => by have := E12.out.2.2.2.2 k hk; omega) _ _ _ _ _ _
  · rw [decide_eq_false hne] at hsh
    refine hsh.mono ?_
    rintro e w6 ⟨rfl, d6⟩
    obtain ⟨⟨r0, r1, r2, r3, r4, r5⟩, y0, y1, y2, y3, y4, y5⟩ := r6 (d6.blk (D5.out.blk J.out.2.1))
    have D6 := Lib.hid (D5.out.trans d6 (fun _ _ h => h))
    have HX := Lib.hid hne
    clear hsh d6 hne o0 o1 o2 o3 o4 o5 t0 t1 t2 t3 t4 t5
    go_wp2
    refine bodyPost_ret (v := .tuple #[frV zV zNil zNil, .int .i64 45]) (by simp [results, Tryz.results53, go_sem, r0, r1, r2, r3, r4, r5]) rfl ⟨?_, .inl ⟨HX.out, rfl⟩⟩
    exact Chg.six (J.out.1.trans D6.out (fun _ _ h => h)) (Nat.le_refl _) _ _ _ _ _ _
end Go.Proofs.YtgmmclcpfmnoiaaGreatDoor

namespace Go.Proofs.YtgmmclcpfmnoiaaGreatDoor
open Go.RowKit
attribute [local go_sem high] eqVt_run

/-- Of two kinds: the same, or nothing known. -/
def jnK (x y : Vt) : Vt := if x = y then x else kV 6
theorem jnK_66 : jnK (kV 6) (kV 6) = kV 6 := by unfold jnK; simp
theorem jnK_12 : jnK (kV 1) (kV 2) = kV 6 := by unfold jnK; simp
theorem jnK_two (w : World) (p : Value) (i : Nat) (x y : Vt) (h1 : (kV 6 :: ([] ++ [kV 1]))[i]? = some x) (h2 : (kV 6 :: ([] ++ [kV 2]))[i]? = some y) : Calls Tryz.prog 119 #[p, vtV x, vtV y] w fun e w'' => e = .returned (vtV (jnK x y)) ∧ Chg No w w'' := by
  match i with
  | 0 => cases h1; cases h2; rw [jnK_66]; exact two_same w p (kV 6)
  | 1 => cases h1; cases h2; rw [jnK_12]; exact two_12 w p
  | i + 2 => simp at h1
theorem vs_nil (w : World) : VS w zNil [] := SQ.nil
/-- Two frames are made, and a row of them. -/
abbrev K4 (w : World) : World := (((w.alloc (.cells (bx (kV 1)) 65)).alloc (.cells (frA (kV 6) zNil (.slice (some ⟨w.heap.size, 0, none⟩) 1 1)) 68)).alloc (.cells (bx (kV 2)) 65)).alloc (.cells (frA (kV 6) zNil (.slice (some ⟨w.heap.size + 1 + 1, 0, none⟩) 1 1)) 68)
abbrev K5 (w : World) : World := (K4 w).alloc (.cells (row12 (kV 6) zNil (.slice (some ⟨w.heap.size, 0, none⟩) 1 1) (kV 6) zNil (.slice (some ⟨w.heap.size + 1 + 1, 0, none⟩) 1 1)) 68)
theorem k4_chg (w : World) : Chg No w (K4 w) := ((((Chg.refl _ _).alloc _).alloc _).alloc _).alloc _
theorem k4_vs1 (w : World) : VS (K4 w) (.slice (some ⟨w.heap.size, 0, none⟩) 1 1) [kV 1] := (vs_one w (kV 1)).new ((((Chg.refl No _).alloc _).alloc _).alloc _)
theorem k4_vs2 (w : World) : VS (K4 w) (.slice (some ⟨w.heap.size + 1 + 1, 0, none⟩) 1 1) [kV 2] := by
  have h := (vs_one ((w.alloc (.cells (bx (kV 1)) 65)).alloc (.cells (frA (kV 6) zNil (.slice (some ⟨w.heap.size, 0, none⟩) 1 1)) 68)) (kV 2)).new ((Chg.refl No _).alloc (.cells (frA (kV 6) zNil (.slice (some ⟨w.heap.size + 1 + 1, 0, none⟩) 1 1)) 68))
  rwa [size_alloc1, size_alloc1] at h
theorem k4_a {w wr : World} (c : Chg No (K4 w) wr) : wr.heap[w.heap.size + 1]? = some (.cells (frA (kV 6) zNil (.slice (some ⟨w.heap.size, 0, none⟩) 1 1)) 68 (0, 0)) := c.blk (alloc_blk (alloc_blk (alloc_at _ _ (by simp))))
theorem k5_row (w : World) : (K5 w).heap[w.heap.size + 1 + 1 + 1 + 1]? = some (.cells (row12 (kV 6) zNil (.slice (some ⟨w.heap.size, 0, none⟩) 1 1) (kV 6) zNil (.slice (some ⟨w.heap.size + 1 + 1, 0, none⟩) 1 1)) 68 (0, 0)) := alloc_at _ _ (by simp)
set_option maxRecDepth 100000 in
set_option maxHeartbeats 3200000 in
theorem known8 (w : World) : Calls Tryz.prog 19 #[] w fun e w' => e = .returned (.bool true) ∧ Chg No w w' := by
  go_enter Tryz.func19, Tryz.ntmps19
  go_wp2_with fail
  refine (built_nil w).mono ?_
  rintro e w1 ⟨S, O, b, mb, nv, es, S2, O2, b2, cv, pv, rfl, hB, -⟩
  have C1 := Lib.hid hB.chg; clear hB
  go_wp2_with fail
  have c5 : Chg No (K4 w1) (K5 w1) := (Chg.refl _ _).alloc _
  have hj := join2 (K5 w1) (.pointer (some ⟨b, 0, none⟩)) (w1.heap.size + 1 + 1 + 1 + 1) ⟨kV 6, [], [kV 1]⟩ ⟨kV 6, [], [kV 2]⟩ zNil (.slice (some ⟨w1.heap.size, 0, none⟩) 1 1) zNil (.slice (some ⟨w1.heap.size + 1 + 1, 0, none⟩) 1 1) (k5_row w1) (vs_nil _) ((k4_vs1 w1).new c5) (vs_nil _) ((k4_vs2 w1).new c5) (by simp) (by simp) (by simp) (by simp) rfl rfl jnK (fun _ w' _ i x y h1 h2 => jnK_two w' _ i x y h1 h2)
  refine hj.mono ?_
  rintro e w2 ⟨d2, ⟨hn, -⟩ | ⟨-, lv, sv, rfl, o1, o2⟩⟩
  · exact absurd ⟨rfl, rfl⟩ hn
  simp only [List.zipWith_cons_cons, List.zipWith_nil_left, jnK_12] at o1 o2
  obtain ⟨la, lc, hl⟩ := OQ.form o1
  obtain ⟨g, gc, hs, -⟩ := OQ.form1 o2 (by simp)
  simp only [List.length_nil, List.length_cons, Nat.zero_add] at hl hs
  subst hl; subst hs
  have D2 : RowKit.Hid (Chg No (K4 w1) w2) := Lib.hid (c5.trans d2 (fun _ _ h => h))
  have O2' := Lib.hid (VO.vs o2)
  obtain ⟨⟨a0, a1, a2, a3, a4, a5⟩, -⟩ := f6 (k4_a D2.out)
  have hsz := heap_lt (k4_a D2.out)
  clear hj c5 d2 o1 o2
  go_wp2_with fail
  have d5 : Chg No w2 ((w2.alloc (.cells (frA (jnK (kV 6) (kV 6)) (.slice la 0 lc) (.slice (some ⟨g, 0, none⟩) 1 gc)) 68)).alloc (.cells (row12 (kV 6) zNil (.slice (some ⟨w1.heap.size, 0, none⟩) 1 1) (kV 6) zNil zNil) 68)) := ((Chg.refl _ _).alloc _).alloc _
  have hj := join2 ((w2.alloc (.cells (frA (jnK (kV 6) (kV 6)) (.slice la 0 lc) (.slice (some ⟨g, 0, none⟩) 1 gc)) 68)).alloc (.cells (row12 (kV 6) zNil (.slice (some ⟨w1.heap.size, 0, none⟩) 1 1) (kV 6) zNil zNil) 68)) (.pointer (some ⟨b, 0, none⟩)) (w2.heap.size + 1) ⟨kV 6, [], [kV 1]⟩ ⟨kV 6, [], []⟩ zNil (.slice (some ⟨w1.heap.size, 0, none⟩) 1 1) zNil zNil (alloc_at _ _ (by simp)) (vs_nil _) (((k4_vs1 w1).new D2.out).new d5) (vs_nil _) (vs_nil _) (by simp) (by simp) (by simp) (by simp) rfl rfl jnK (fun hn => by simp at hn)
  refine hj.mono ?_
  rintro e w3 ⟨d3, ⟨-, rfl⟩ | ⟨hn, -⟩⟩
  · have C3 := Lib.hid (((C1.out.trans (k4_chg w1) (fun _ _ h => h)).trans D2.out (fun _ _ h => h)).trans (d5.trans d3 (fun _ _ h => h)) (fun _ _ h => h))
    have hF : w3.heap[w2.heap.size]? = some (.cells (frA (jnK (kV 6) (kV 6)) (.slice la 0 lc) (.slice (some ⟨g, 0, none⟩) 1 gc)) 68 (0, 0)) := d3.blk (alloc_blk (alloc_at _ _ rfl))
    obtain ⟨⟨-, -, -, -, -, m5⟩, -⟩ := f6 hF
    have hl3 := heap_lt hF
    obtain ⟨b', o', hbo, hbl, g0, -, -, -⟩ := (O2'.out.new (d5.trans d3 (fun _ _ h => h))).cells 0 (by simp)
    cases hbo
    simp only [List.getElem_cons_zero, Nat.zero_mul, Nat.add_zero] at g0
    clear hj d5 d3 a0 a1 a2 a3 a4 a5 hF
    go_wp2
    go_ret
    exact ⟨rfl, C3.out.alloc _⟩
  · simp at hn
end Go.Proofs.YtgmmclcpfmnoiaaGreatDoor

namespace Go.Proofs.YtgmmclcpfmnoiaaGreatDoor
open Go.RowKit
theorem okAt_ref (s : Bs) (k : Nat) (hk : k < s.length) : okAt s k = letterZ (s[k].toNat : Int) ((k : Int) == 0) := by
  unfold okAt
  rw [show s.getD k 0 = s[k] from by simp [hk]]
  congr 1
  cases k <;> simp
  omega
set_option maxRecDepth 100000 in
set_option maxHeartbeats 1600000 in
theorem name_ref (w : World) (s : Bs) (hl : s.length ≤ 9223372036854775807) :
    Calls Tryz.prog 29 #[strV s] w fun e w' => e = .returned (.bool (nameB s)) ∧ w' = w := by
  by_cases h1 : s.length < 1
  · have hs : s = [] := List.eq_nil_of_length_eq_zero (by omega)
    subst hs
    go_enter Tryz.func29, Tryz.ntmps29
    go_wp2
    go_ret
    exact ⟨ret_b (by unfold nameB; simp), rfl⟩
  by_cases h2 : 32 < s.length
  · go_enter Tryz.func29, Tryz.ntmps29
    go_wp2
    go_ret
    exact ⟨ret_b (by unfold nameB; simp; try omega), rfl⟩
  · have g1 : ¬ ((s.length : Int) < 1) := by omega
    have g2 : ¬ ((32 : Int) < (s.length : Int)) := by omega
    go_enter Tryz.func29, Tryz.ntmps29
    go_wp2
    go_loopw [3] (fun i wr => ∃ k : Nat, k ≤ s.length ∧ i = .int .i64 k ∧ wr = w ∧ RowKit.Hid (∀ j, j < k → okAt s j = true)) (fun i _ => s.length - (intOf i).toNat)
    case atStart => exact ⟨0, Nat.zero_le _, rfl, rfl, Lib.hid (fun j hj => absurd hj (Nat.not_lt_zero _))⟩
    case round =>
      obtain ⟨k, hk, rfl, rfl, hb⟩ := hrel
      by_cases hlt : k < s.length
      · obtain ⟨n, hn⟩ : ∃ n, n = s[k].toNat := ⟨_, rfl⟩
        have hE : ∀ hx : k < (ByteArray.mk s.toArray).size, ((ByteArray.mk s.toArray)[k]'hx).toNat = n := fun hx => by rw [hn]; rfl
        have HO := Lib.hid (okAt_ref s k hlt)
        rw [← hn] at HO
        clear hn
        go_wp2
        all_goals
          first
          | (refine ⟨⟨k + 1, by omega, by go_num, trivial, Lib.hid (fun j hj => ?_)⟩, by simp [intOf]; omega⟩
             by_cases e : j = k
             · subst e; rw [HO.out]; unfold letterZ; simp_all; omega
             · exact hb.out j (by omega))
          | (refine ⟨⟨k + 1, by omega, by go_num, trivial, Lib.hid (fun j hj => ?_)⟩, by simp [intOf]; omega⟩
             by_cases e : j = k
             · subst e; rw [HO.out]; unfold letterZ; simp_all
             · exact hb.out j (by omega))
          | (go_ret
             exact ⟨ret_b (nameB_bad hlt (by rw [HO.out]; unfold letterZ; simp_all; omega)), rfl⟩)
          | (go_ret
             exact ⟨ret_b (nameB_bad hlt (by rw [HO.out]; unfold letterZ; simp_all)), rfl⟩)
          | skip
      · go_wp2
        go_ret
        exact ⟨ret_b (by rw [nameB_all (fun j hj => hb.out j (by omega))]; cases s with
          | nil => simp at h1
          | cons => simp at h2 ⊢; omega), rfl⟩
end Go.Proofs.YtgmmclcpfmnoiaaGreatDoor
