/-
  Frames: same, twin, catch, swap, walked.
-/
import Derived.Test.YtgmmclcpfmnoiaaGreatDoorFrD
import Derived.Test.YtgmmclcpfmnoiaaGreatDoorTextW1
import Derived.Test.YtgmmclcpfmnoiaaGreatDoorOpenG
import Derived.Test.YtgmmclcpfmnoiaaGreatDoorFrA
namespace Go.Proofs.YtgmmclcpfmnoiaaGreatDoor
open Go.RowKit
attribute [local go_sem high] eqVt_run

theorem fr_eq {f g : Fr} : decide (f = g) = (vtEq f.self_ g.self_ && (decide (f.locals_ = g.locals_) && decide (f.stack = g.stack))) := by
  obtain ⟨a, b, c⟩ := f
  obtain ⟨a', b', c'⟩ := g
  rw [vtEq_iff, Bool.eq_iff_iff]
  simp
set_option maxRecDepth 100000 in
set_option maxHeartbeats 1600000 in
theorem same_ref (w : World) (f g : Fr) (lv sv lv' sv' : Value) (h1 : VS w lv f.locals_) (h2 : VS w sv f.stack) (h3 : VS w lv' g.locals_) (h4 : VS w sv' g.stack) (l1 : f.locals_.length ≤ maxLen) (l2 : f.stack.length ≤ maxLen) (l3 : g.locals_.length ≤ maxLen) (l4 : g.stack.length ≤ maxLen) :
    Calls Tryz.prog 24 #[frV f.self_ lv sv, frV g.self_ lv' sv'] w fun e w' => e = .returned (.bool (decide (f = g))) ∧ Chg No w w' := by
  have HE0 := @fr_eq f g
  obtain ⟨fs, fl, fk⟩ := f
  obtain ⟨gs, gl, gk⟩ := g
  simp only at h1 h2 h3 h4 l1 l2 l3 l4
  have HE : RowKit.Hid (decide ((⟨fs, fl, fk⟩ : Fr) = ⟨gs, gl, gk⟩) = (vtEq fs gs && (decide (fl = gl) && decide (fk = gk)))) := Lib.hid HE0
  clear HE0
  have HV := Lib.hid (vtEq_iff fs gs)
  unfold maxLen at l1 l2 l3 l4
  obtain ⟨a1, c1, hv1, -, -⟩ := h1.form
  obtain ⟨a2, c2, hv2, -, -⟩ := h2.form
  obtain ⟨a3, c3, hv3, -, -⟩ := h3.form
  obtain ⟨a4, c4, hv4, -, -⟩ := h4.form
  have H := Lib.hid (And.intro h1 (And.intro h2 (And.intro h3 h4))); clear h1 h2 h3 h4
  subst hv1; subst hv2; subst hv3; subst hv4
  cases hs : vtEq fs gs with
  | false =>
    have HS := Lib.hid hs
    go_enter Tryz.func24, Tryz.ntmps24
    go_wp2
    go_ret
    exact ⟨ret_b (by first | (rw [HE.out, HS.out]; rfl) | (rw [← HV.out, HS.out]; rfl)), ((Chg.refl _ _).alloc _).alloc _⟩
  | true =>
    have HS := Lib.hid hs
    have CW := Lib.hid (show Chg No w _ from ((Chg.refl No w).alloc (.cells (frA fs (.slice a1 fl.length c1) (.slice a2 fk.length c2)) 68)).alloc (.cells (frA gs (.slice a3 gl.length c3) (.slice a4 gk.length c4)) 68))
    go_enter Tryz.func24, Tryz.ntmps24
    go_wp2_with fail
    have h := same_vt _ _ _ fl gl (H.out.1.new CW.out) (H.out.2.2.1.new CW.out) l1 l3
    cases hb : decide (fl = gl) with
    | false =>
      have HB := Lib.hid hb
      rw [hb] at h
      refine h.mono ?_
      rintro e w1 ⟨rfl, d1⟩
      have D1 := Lib.hid (CW.out.trans d1 (fun _ _ h => h))
      clear h hb d1
      go_wp2
      go_ret
      exact ⟨ret_b (by first | (rw [HE.out, HS.out, HB.out]; rfl) | (rw [← HV.out, HS.out, HB.out]; rfl)), D1.out⟩
    | true =>
      have HB := Lib.hid hb
      rw [hb] at h
      refine h.mono ?_
      rintro e w1 ⟨rfl, d1⟩
      have D1 := Lib.hid (And.intro (CW.out.trans d1 (fun _ _ h => h)) d1)
      have q1 : w1.cell? ⟨w.heap.size, 5, none⟩ = some (.slice a2 fk.length c2) := blk_cell (D1.out.2.blk (alloc_blk (alloc_at w (.cells (frA fs (.slice a1 fl.length c1) (.slice a2 fk.length c2)) 68) rfl))) rfl
      have q2 : w1.cell? ⟨w.heap.size + 1, 5, none⟩ = some (.slice a4 gk.length c4) := blk_cell (D1.out.2.blk (alloc_at _ (.cells (frA gs (.slice a3 gl.length c3) (.slice a4 gk.length c4)) 68) (by simp))) rfl
      clear h hb d1
      go_wp2_with fail
      refine (same_vt _ _ _ fk gk (H.out.2.1.new D1.out.1) (H.out.2.2.2.new D1.out.1) l2 l4).mono ?_
      rintro e w2 ⟨rfl, d2⟩
      have D2 := Lib.hid (D1.out.1.trans d2 (fun _ _ h => h))
      clear d2
      go_wp2
      go_ret
      exact ⟨ret_b (by first | (rw [HE.out, HS.out, HB.out]; rfl) | (rw [← HV.out, HS.out, HB.out]; rfl)), D2.out⟩
set_option maxRecDepth 100000 in
set_option maxHeartbeats 1600000 in
theorem same_fr (w : World) (f g : Fr) (lv sv lv' sv' : Value) (h1 : VS w lv f.locals_) (h2 : VS w sv f.stack) (h3 : VS w lv' g.locals_) (h4 : VS w sv' g.stack) (l1 : f.locals_.length ≤ maxLen) (l2 : f.stack.length ≤ maxLen) (l3 : g.locals_.length ≤ maxLen) (l4 : g.stack.length ≤ maxLen) :
    Calls Tryz.prog 23 #[frV f.self_ lv sv, frV g.self_ lv' sv'] w fun e w' => e = .returned (.bool (decide (f = g))) ∧ Chg No w w' := by
  have HE0 := @fr_eq f g
  obtain ⟨fs, fl, fk⟩ := f
  obtain ⟨gs, gl, gk⟩ := g
  simp only at h1 h2 h3 h4 l1 l2 l3 l4
  have HE : RowKit.Hid (decide ((⟨fs, fl, fk⟩ : Fr) = ⟨gs, gl, gk⟩) = (vtEq fs gs && (decide (fl = gl) && decide (fk = gk)))) := Lib.hid HE0
  clear HE0
  have HV := Lib.hid (vtEq_iff fs gs)
  unfold maxLen at l1 l2 l3 l4
  obtain ⟨a1, c1, hv1, -, -⟩ := h1.form
  obtain ⟨a2, c2, hv2, -, -⟩ := h2.form
  obtain ⟨a3, c3, hv3, -, -⟩ := h3.form
  obtain ⟨a4, c4, hv4, -, -⟩ := h4.form
  have H := Lib.hid (And.intro h1 (And.intro h2 (And.intro h3 h4))); clear h1 h2 h3 h4
  subst hv1; subst hv2; subst hv3; subst hv4
  cases hs : vtEq fs gs with
  | false =>
    have HS := Lib.hid hs
    go_enter Tryz.func23, Tryz.ntmps23
    go_wp2
    go_ret
    exact ⟨ret_b (by first | (rw [HE.out, HS.out]; rfl) | (rw [← HV.out, HS.out]; rfl)), ((Chg.refl _ _).alloc _).alloc _⟩
  | true =>
    have HS := Lib.hid hs
    have CW := Lib.hid (show Chg No w _ from ((Chg.refl No w).alloc (.cells (frA fs (.slice a1 fl.length c1) (.slice a2 fk.length c2)) 68)).alloc (.cells (frA gs (.slice a3 gl.length c3) (.slice a4 gk.length c4)) 68))
    go_enter Tryz.func23, Tryz.ntmps23
    go_wp2_with fail
    have h := equal_vt _ _ _ fl gl (H.out.1.new CW.out) (H.out.2.2.1.new CW.out) l1 l3
    cases hb : decide (fl = gl) with
    | false =>
      have HB := Lib.hid hb
      rw [hb] at h
      refine h.mono ?_
      rintro e w1 ⟨rfl, d1⟩
      have D1 := Lib.hid (CW.out.trans d1 (fun _ _ h => h))
      clear h hb d1
      go_wp2
      go_ret
      exact ⟨ret_b (by first | (rw [HE.out, HS.out, HB.out]; rfl) | (rw [← HV.out, HS.out, HB.out]; rfl)), D1.out⟩
    | true =>
      have HB := Lib.hid hb
      rw [hb] at h
      refine h.mono ?_
      rintro e w1 ⟨rfl, d1⟩
      have D1 := Lib.hid (And.intro (CW.out.trans d1 (fun _ _ h => h)) d1)
      have q1 : w1.cell? ⟨w.heap.size, 5, none⟩ = some (.slice a2 fk.length c2) := blk_cell (D1.out.2.blk (alloc_blk (alloc_at w (.cells (frA fs (.slice a1 fl.length c1) (.slice a2 fk.length c2)) 68) rfl))) rfl
      have q2 : w1.cell? ⟨w.heap.size + 1, 5, none⟩ = some (.slice a4 gk.length c4) := blk_cell (D1.out.2.blk (alloc_at _ (.cells (frA gs (.slice a3 gl.length c3) (.slice a4 gk.length c4)) 68) (by simp))) rfl
      clear h hb d1
      go_wp2_with fail
      refine (equal_vt _ _ _ fk gk (H.out.2.1.new D1.out.1) (H.out.2.2.2.new D1.out.1) l2 l4).mono ?_
      rintro e w2 ⟨rfl, d2⟩
      have D2 := Lib.hid (D1.out.1.trans d2 (fun _ _ h => h))
      clear d2
      go_wp2
      go_ret
      exact ⟨ret_b (by first | (rw [HE.out, HS.out, HB.out]; rfl) | (rw [← HV.out, HS.out, HB.out]; rfl)), D2.out⟩

def ofT (t : Ty) : Vt := if t = zTy then ⟨1, zTy, 0⟩ else ⟨3, t, 0⟩
theorem of_ty (w : World) (d : Int) (n : Bs) : Calls Tryz.prog 60 #[.agg #[.int .i64 d, strV n]] w fun e w' => e = .returned (vtV (ofT ⟨d, n⟩)) ∧ Chg No w w' := by
  by_cases hz : (⟨d, n⟩ : Ty) = zTy
  · have hd : decide ((⟨d, n⟩ : Ty) = zTy) = true := by simp [hz]
    have HD := Lib.hid (And.intro hz hd); clear hd hz
    go_enter Tryz.func60, Tryz.ntmps60
    go_wp2_with fail
    have h := number_c ((w.alloc (.cells #[.int .i64 d, strV n] 26)).alloc (.cells #[zInt, zInt, zStr, zInt] 65)) d n
    rw [HD.out.2] at h
    refine h.mono ?_
    rintro e w1 ⟨rfl, rfl⟩
    clear h
    go_wp2
    refine bodyPost_ret (v := vtV ⟨1, zTy, 0⟩) (by simp [results, Tryz.results60, go_sem]) rfl ⟨?_, ?_⟩
    · unfold ofT; rw [if_pos HD.out.1]
    · exact (((Chg.refl _ _).alloc _).alloc _).alloc _
  · have hd : decide ((⟨d, n⟩ : Ty) = zTy) = false := by simp [hz]
    have HD := Lib.hid (And.intro hz hd); clear hd hz
    go_enter Tryz.func60, Tryz.ntmps60
    go_wp2_with fail
    have h := number_c ((w.alloc (.cells #[.int .i64 d, strV n] 26)).alloc (.cells #[zInt, zInt, zStr, zInt] 65)) d n
    rw [HD.out.2] at h
    refine h.mono ?_
    rintro e w1 ⟨rfl, rfl⟩
    clear h
    go_wp2
    refine bodyPost_ret (v := vtV ⟨3, ⟨d, n⟩, 0⟩) (by simp [results, Tryz.results60, go_sem]) rfl ⟨?_, ?_⟩
    · unfold ofT; rw [if_neg HD.out.1]
    · exact (((Chg.refl _ _).alloc _).alloc _).alloc _
end Go.Proofs.YtgmmclcpfmnoiaaGreatDoor

namespace Go.Proofs.YtgmmclcpfmnoiaaGreatDoor
open Go.RowKit
attribute [local go_sem high] eqVt_run

/-- A frame, a result. -/
theorem two6 (w : World) (x : Vt) (lv sv : Value) : Chg No w ((w.alloc (.cells (frA x lv sv) 68)).alloc (.cells #[zInt, zInt, zStr, zInt, zNil, zNil] 68)) := ((Chg.refl _ _).alloc _).alloc _
theorem two6_0 {w wr : World} {x : Vt} {lv sv : Value} (c : Chg No ((w.alloc (.cells (frA x lv sv) 68)).alloc (.cells #[zInt, zInt, zStr, zInt, zNil, zNil] 68)) wr) : wr.heap[w.heap.size]? = some (.cells (frA x lv sv) 68 (0, 0)) :=
  c.blk (alloc_blk (alloc_at _ _ rfl))
theorem two6_1 {w wr : World} {x : Vt} {lv sv : Value} (c : Chg No ((w.alloc (.cells (frA x lv sv) 68)).alloc (.cells #[zInt, zInt, zStr, zInt, zNil, zNil] 68)) wr) : wr.heap[w.heap.size + 1]? = some (.cells #[zInt, zInt, zStr, zInt, zNil, zNil] 68 (0, 0)) :=
  c.blk (alloc_at _ _ (by simp))
theorem two6_size (w : World) (x : Vt) (lv sv : Value) : ((w.alloc (.cells (frA x lv sv) 68)).alloc (.cells #[zInt, zInt, zStr, zInt, zNil, zNil] 68)).heap.size = w.heap.size + 2 := by simp
theorem f6 {w : World} {r : Nat} {T : TypeId} {x : Vt} {lv sv : Value} (h : w.heap[r]? = some (.cells (frA x lv sv) T (0, 0))) :
    (w.cell? ⟨r, 0, none⟩ = some (.int .i64 x.kind) ∧ w.cell? ⟨r, 1, none⟩ = some (.int .i64 x.type.dims) ∧ w.cell? ⟨r, 2, none⟩ = some (strV x.type.name) ∧ w.cell? ⟨r, 3, none⟩ = some (.int .i64 x.at_) ∧ w.cell? ⟨r, 4, none⟩ = some lv ∧ w.cell? ⟨r, 5, none⟩ = some sv) ∧
    w.frozen? ⟨r, 0, none⟩ = false ∧ w.frozen? ⟨r, 1, none⟩ = false ∧ w.frozen? ⟨r, 2, none⟩ = false ∧ w.frozen? ⟨r, 3, none⟩ = false ∧ w.frozen? ⟨r, 4, none⟩ = false ∧ w.frozen? ⟨r, 5, none⟩ = false :=
  ⟨⟨blk_cell h rfl, blk_cell h rfl, blk_cell h rfl, blk_cell h rfl, blk_cell h rfl, blk_cell h rfl⟩, blk_frozen h 0, blk_frozen h 1, blk_frozen h 2, blk_frozen h 3, blk_frozen h 4, blk_frozen h 5⟩

set_option maxRecDepth 100000 in
set_option maxHeartbeats 1600000 in
theorem twin_fr (w : World) (f : Fr) (lv sv : Value) (h1 : VS w lv f.locals_) (h2 : VS w sv f.stack) (l1 : f.locals_.length ≤ 1000000) (l2 : f.stack.length ≤ 1000000) :
    Calls Tryz.prog 22 #[frV f.self_ lv sv] w (FrPost w f) := by
  obtain ⟨fs, fl, fk⟩ := f
  simp only at h1 h2 l1 l2
  obtain ⟨a1, c1, hv1, -, -⟩ := h1.form
  obtain ⟨a2, c2, hv2, -, -⟩ := h2.form
  have H := Lib.hid (And.intro h1 h2); clear h1 h2
  subst hv1; subst hv2
  have CW := Lib.hid (two6 w fs (.slice a1 fl.length c1) (.slice a2 fk.length c2))
  go_enter Tryz.func22, Tryz.ntmps22
  go_wp2_with fail
  go_region_with (first
    | (go_at_call 56; refine (clone_vt _ (.slice a1 fl.length c1) fl (H.out.1.new CW.out.drew) (by omega)).mono ?_; rintro e w1 ⟨v1, rfl, o1, d1, n1⟩; obtain ⟨na, nc, rfl⟩ := o1.form; have D1 := Lib.hid (show Chg No ((w.alloc (.cells (frA fs (.slice a1 fl.length c1) (.slice a2 fk.length c2)) 68)).alloc (.cells #[zInt, zInt, zStr, zInt, zNil, zNil] 68)) w1 from (Chg.refl No _).drew.trans d1 (fun _ _ h => h)); have q5 : w1.cell? ⟨w.heap.size, 5, none⟩ = some (.slice a2 fk.length c2) := blk_cell (two6_0 D1.out) rfl; have O1 := Lib.hid (And.intro o1 n1); clear o1 d1 n1)
    | (go_at_call 56; refine (clone_vt _ (.slice a2 fk.length c2) fk (H.out.2.new (CW.out.trans D1.out (fun _ _ h => h))) (by omega)).mono ?_; rintro e w2 ⟨v2, rfl, o1, d1, n1⟩; obtain ⟨ma, mc, rfl⟩ := o1.form; have D2 := Lib.hid (And.intro (D1.out.trans d1 (fun _ _ h => h)) d1); clear q5; obtain ⟨⟨b0, b1, b2, b3, b4, b5⟩, g0, g1, g2, g3, g4, g5⟩ := f6 (two6_0 D2.out.1); obtain ⟨⟨r0, r1, r2, r3, r4, r5⟩, y0, y1, y2, y3, y4, y5⟩ := r6 (two6_1 D2.out.1); have O2 := Lib.hid (And.intro o1 n1); clear o1 d1 n1))
  all_goals
    go_wp2
    have z0 := D1.out.size
    have z1 : ∀ k, (Value.slice na fl.length nc).ownBlock = some k → w.heap.size + 2 ≤ k := fun k hk => by
      have h9 := O1.out.2 k hk
      have h8 : ((w.alloc (.cells (frA fs (.slice a1 fl.length c1) (.slice a2 fk.length c2)) 68)).alloc (.cells #[zInt, zInt, zStr, zInt, zNil, zNil] 68)).heap.size ≤ k := h9
      rwa [two6_size] at h8
    have z2 : ∀ k, (Value.slice ma fk.length mc).ownBlock = some k → w.heap.size + 2 ≤ k := fun k hk => by
      have h9 := O2.out.2 k hk
      rw [two6_size] at z0
      omega
    refine bodyPost_ret (v := frV fs (.slice na fl.length nc) (.slice ma fk.length mc)) (by simp [results, Tryz.results22, go_sem, r0, r1, r2, r3, r4, r5]) rfl ⟨_, _, rfl, ?_, ?_, ?_, ?_, ?_⟩
    · exact VO.six (VO.set (VO.set (OQ.new goodVt O1.out.1 D2.out.2) (b := w.heap.size) (fun k hk => by have := z1 k hk; omega) _ _) (b := w.heap.size) (fun k hk => by have := z1 k hk; omega) _ _) (b := w.heap.size + 1) (fun k hk => by have := z1 k hk; omega) _ _ _ _ _ _
    · exact VO.six (VO.set (VO.set O2.out.1 (b := w.heap.size) (fun k hk => by have := z2 k hk; omega) _ _) (b := w.heap.size) (fun k hk => by have := z2 k hk; omega) _ _) (b := w.heap.size + 1) (fun k hk => by have := z2 k hk; omega) _ _ _ _ _ _
    · exact Chg.six (((CW.out.trans D2.out.1 (fun _ _ h => h)).set_new (by omega) _ _).set_new (by omega) _ _) (by omega) _ _ _ _ _ _
    · intro k hk; have := z1 k hk; omega
    · intro k hk; have := z2 k hk; omega
end Go.Proofs.YtgmmclcpfmnoiaaGreatDoor

namespace Go.Proofs.YtgmmclcpfmnoiaaGreatDoor
open Go.RowKit
attribute [local go_sem high] eqVt_run

theorem r6a {w : World} {r : Nat} {T : TypeId} (h : w.heap[r]? = some (.cells #[zInt, zInt, zStr, zInt, zNil, zNil] T (0, 0))) :
    ((∀ o, (w.alloc o).cell? ⟨r, 0, none⟩ = some zInt) ∧ (∀ o, (w.alloc o).cell? ⟨r, 1, none⟩ = some zInt) ∧ (∀ o, (w.alloc o).cell? ⟨r, 2, none⟩ = some zStr) ∧ (∀ o, (w.alloc o).cell? ⟨r, 3, none⟩ = some zInt) ∧ (∀ o, (w.alloc o).cell? ⟨r, 4, none⟩ = some zNil) ∧ (∀ o, (w.alloc o).cell? ⟨r, 5, none⟩ = some zNil)) ∧
    (∀ o, (w.alloc o).frozen? ⟨r, 0, none⟩ = false) ∧ (∀ o, (w.alloc o).frozen? ⟨r, 1, none⟩ = false) ∧ (∀ o, (w.alloc o).frozen? ⟨r, 2, none⟩ = false) ∧ (∀ o, (w.alloc o).frozen? ⟨r, 3, none⟩ = false) ∧ (∀ o, (w.alloc o).frozen? ⟨r, 4, none⟩ = false) ∧ (∀ o, (w.alloc o).frozen? ⟨r, 5, none⟩ = false) :=
  ⟨⟨fun o => (r6 (alloc_blk (o2 := o) h)).1.1, fun o => (r6 (alloc_blk (o2 := o) h)).1.2.1, fun o => (r6 (alloc_blk (o2 := o) h)).1.2.2.1, fun o => (r6 (alloc_blk (o2 := o) h)).1.2.2.2.1, fun o => (r6 (alloc_blk (o2 := o) h)).1.2.2.2.2.1, fun o => (r6 (alloc_blk (o2 := o) h)).1.2.2.2.2.2⟩,
    fun o => blk_frozen (alloc_blk (o2 := o) h) 0, fun o => blk_frozen (alloc_blk (o2 := o) h) 1, fun o => blk_frozen (alloc_blk (o2 := o) h) 2, fun o => blk_frozen (alloc_blk (o2 := o) h) 3, fun o => blk_frozen (alloc_blk (o2 := o) h) 4, fun o => blk_frozen (alloc_blk (o2 := o) h) 5⟩
theorem Chg.sixS {S : Blocks} {w w' : World} (h : Chg S w w') {b : Nat} (hb : S b) (u0 u1 u2 u3 u4 u5 : Value) :
    Chg S w ((((((w'.setCell ⟨b, 0, none⟩ u0).setCell ⟨b, 1, none⟩ u1).setCell ⟨b, 2, none⟩ u2).setCell ⟨b, 3, none⟩ u3).setCell ⟨b, 4, none⟩ u4).setCell ⟨b, 5, none⟩ u5) :=
  (((((h.setCell (p := ⟨b, 0, none⟩) (fun _ => hb) _).setCell (p := ⟨b, 1, none⟩) (fun _ => hb) _).setCell (p := ⟨b, 2, none⟩) (fun _ => hb) _).setCell (p := ⟨b, 3, none⟩) (fun _ => hb) _).setCell (p := ⟨b, 4, none⟩) (fun _ => hb) _).setCell (p := ⟨b, 5, none⟩) (fun _ => hb) _
abbrev zV : Vt := ⟨0, zTy, 0⟩
abbrev zFr : Fr := ⟨zV, [], []⟩
/-- What a handler begins with. -/
def catchF (f : Fr) (s : Bs) : Fr := if f.self_.kind = 0 then zFr else ⟨f.self_, f.locals_, [ofT ⟨0, s⟩]⟩
theorem vo_one (w : World) (x : Vt) : VO (w.alloc (.cells #[.int .i64 x.kind, .int .i64 x.type.dims, strV x.type.name, .int .i64 x.at_] 65)) (.slice (some ⟨w.heap.size, 0, none⟩) 1 1) [x] :=
  ⟨[vtC x], ⟨rfl, .inr ⟨w.heap.size, 1, (vtC x).toArray, rfl, Nat.zero_le _, heap_alloc_new _ _, Nat.le_refl _, by unfold maxLen; omega, rfl, rfl⟩⟩, Els.single rfl rfl⟩
set_option maxRecDepth 100000 in
set_option maxHeartbeats 1600000 in
theorem catch_fr (w : World) (f : Fr) (lv sv : Value) (s : Bs) (h1 : VS w lv f.locals_) (h2 : VS w sv f.stack) (l1 : f.locals_.length ≤ 1000000) :
    Calls Tryz.prog 28 #[frV f.self_ lv sv, strV s] w (FrPost w (catchF f s)) := by
  obtain ⟨fs, fl, fk⟩ := f
  simp only at h1 h2 l1
  obtain ⟨a1, c1, hv1, -, -⟩ := h1.form
  obtain ⟨a2, c2, hv2, -, -⟩ := h2.form
  have H := Lib.hid (And.intro h1 h2); clear h1 h2
  subst hv1; subst hv2
  have CW := Lib.hid (two6 w fs (.slice a1 fl.length c1) (.slice a2 fk.length c2))
  go_enter Tryz.func28, Tryz.ntmps28
  go_wp2_with fail
  have hr := reached_c ((w.alloc (.cells (frA fs (.slice a1 fl.length c1) (.slice a2 fk.length c2)) 68)).alloc (.cells #[zInt, zInt, zStr, zInt, zNil, zNil] 68)) fs (.slice a1 fl.length c1) (.slice a2 fk.length c2)
  cases hz : fs.kind == 0 with
  | true =>
    have HZ := Lib.hid hz
    rw [hz] at hr
    refine hr.mono ?_
    rintro e w1 ⟨rfl, d1⟩
    obtain ⟨⟨r0, r1, r2, r3, r4, r5⟩, y0, y1, y2, y3, y4, y5⟩ := r6 (two6_1 d1)
    have D1 := Lib.hid (CW.out.trans d1 (fun _ _ h => h))
    clear hr hz d1
    go_wp2
    have hf : catchF ⟨fs, fl, fk⟩ s = zFr := by unfold catchF; rw [if_pos (by simpa using HZ.out)]
    rw [hf]
    refine bodyPost_ret (v := frV zV zNil zNil) (by simp [results, Tryz.results28, go_sem, r0, r1, r2, r3, r4, r5]) rfl ⟨_, _, rfl, vo_nil _, vo_nil _, ?_, (fun k hk => by cases hk), (fun k hk => by cases hk)⟩
    exact Chg.six D1.out (by omega) _ _ _ _ _ _
  | false =>
    have HZ := Lib.hid hz
    rw [hz] at hr
    refine hr.mono ?_
    rintro e w1 ⟨rfl, d1⟩
    have CUR := Lib.hid (show Chg No w w1 from CW.out.trans d1 (fun _ _ h => h))
    have E1 := Lib.hid d1
    clear hr hz d1
    have S5 : RowKit.Hid (∀ w', Chg (· = w.heap.size + 1) w1 w' → w'.cell? ⟨w.heap.size, 0, none⟩ = some (.int .i64 fs.kind) ∧ w'.cell? ⟨w.heap.size, 1, none⟩ = some (.int .i64 fs.type.dims) ∧ w'.cell? ⟨w.heap.size, 2, none⟩ = some (strV fs.type.name) ∧ w'.cell? ⟨w.heap.size, 3, none⟩ = some (.int .i64 fs.at_) ∧ w'.cell? ⟨w.heap.size, 4, none⟩ = some (.slice a1 fl.length c1)) := Lib.hid (fun w' hc => by
      have hB := two6_0 E1.out
      obtain ⟨⟨b0, b1, b2, b3, b4, b5⟩, -⟩ := f6 ((hc.block w.heap.size (heap_lt hB) (by omega)).trans hB)
      exact ⟨b0, b1, b2, b3, b4⟩)
    have CU1 := Lib.hid (Chg.refl (· = w.heap.size + 1) w1)
    have CN1 := Lib.hid (Chg.refl No w1)
    go_wp2_with fail
    go_region_held3 (fun w' => w'.cell? ⟨w.heap.size, 0, none⟩ = some (.int .i64 fs.kind) ∧ w'.cell? ⟨w.heap.size, 1, none⟩ = some (.int .i64 fs.type.dims) ∧ w'.cell? ⟨w.heap.size, 2, none⟩ = some (strV fs.type.name) ∧ w'.cell? ⟨w.heap.size, 3, none⟩ = some (.int .i64 fs.at_) ∧ w'.cell? ⟨w.heap.size, 4, none⟩ = some (.slice a1 fl.length c1)) (first | (with_reducible exact S5.out _ CU1.out.drew) | (with_reducible exact S5.out _ CU1.out) | (with_reducible exact S5.out _ (CU1.out.alloc _)) | (with_reducible exact S5.out _ ((CU1.out.alloc _).sixS rfl _ _ _ _ _ _))) (first
      | (go_at_call 56; refine (clone_vt _ (.slice a1 fl.length c1) fl (H.out.1.new CUR.out.drew) (by omega)).mono ?_; rintro e w2 ⟨v1, rfl, o1, d1, n1⟩; obtain ⟨na, nc, rfl⟩ := o1.form; have CUR := Lib.hid (CUR.out.drew.trans d1 (fun _ _ h => h)); have CU1 := Lib.hid (CU1.out.drew.then d1); have CN1 := Lib.hid (CN1.out.drew.then d1); have O1 := Lib.hid (And.intro o1 n1); clear o1 d1 n1)
      | (go_at_call 60; refine (of_ty _ 0 s).mono ?_; rintro e w3 ⟨rfl, d1⟩; have CUR := Lib.hid (CUR.out.trans d1 (fun _ _ h => h)); have CU1 := Lib.hid (CU1.out.then d1); have CN1 := Lib.hid (CN1.out.then d1); obtain ⟨⟨r0, r1, r2, r3, r4, r5⟩, y0, y1, y2, y3, y4, y5⟩ := r6a (two6_1 (E1.out.trans CN1.out (fun _ _ h => h))); have D3 := Lib.hid d1; clear d1))
    go_wp2
    have hf : catchF ⟨fs, fl, fk⟩ s = ⟨fs, fl, [ofT ⟨0, s⟩]⟩ := by unfold catchF; rw [if_neg (by simpa using HZ.out)]
    rw [hf]
    have z0 := E1.out.size
    rw [two6_size] at z0
    have z3 := CN1.out.size
    have z1 : ∀ k, (Value.slice na fl.length nc).ownBlock = some k → w.heap.size + 2 ≤ k := fun k hk => by
      have h9 : w1.heap.size ≤ k := O1.out.2 k hk
      omega
    refine bodyPost_ret (v := frV fs (.slice na fl.length nc) (.slice (some ⟨w3.heap.size, 0, none⟩) 1 1)) (by simp [results, Tryz.results28, go_sem, r0, r1, r2, r3, r4, r5]) rfl ⟨_, _, rfl, ?_, ?_, ?_, ?_, ?_⟩
    · exact VO.six (OQ.new goodVt O1.out.1 (D3.out.alloc _)) (b := w.heap.size + 1) (fun k hk => by have := z1 k hk; omega) _ _ _ _ _ _
    · exact VO.six (vo_one w3 (ofT ⟨0, s⟩)) (b := w.heap.size + 1) (fun k hk => by simp [Value.ownBlock] at hk; omega) _ _ _ _ _ _
    · exact Chg.six (CUR.out.alloc _) (by omega) _ _ _ _ _ _
    · intro k hk; have := z1 k hk; omega
    · intro k hk; simp [Value.ownBlock] at hk; omega
end Go.Proofs.YtgmmclcpfmnoiaaGreatDoor

namespace Go.Proofs.YtgmmclcpfmnoiaaGreatDoor
open Go.RowKit
attribute [local go_sem high] eqVt_run

/-- Four cells in a row that are written, one by one. -/
theorem four_cells {w : World} {g e i : Nat} {cur : Array Value} {a b c d : Value} (h : w.heap[g]? = some (.cells cur e (0, 0))) (h0 : w.cell? ⟨g, i, none⟩ = some a) (h1 : w.cell? ⟨g, i + 1, none⟩ = some b) (h2 : w.cell? ⟨g, i + 2, none⟩ = some c) (h3 : w.cell? ⟨g, i + 3, none⟩ = some d) (u0 u1 u2 : Value) :
    (w.setCell ⟨g, i, none⟩ u0).cell? ⟨g, i + 1, none⟩ = some b ∧ ((w.setCell ⟨g, i, none⟩ u0).setCell ⟨g, i + 1, none⟩ u1).cell? ⟨g, i + 2, none⟩ = some c ∧ (((w.setCell ⟨g, i, none⟩ u0).setCell ⟨g, i + 1, none⟩ u1).setCell ⟨g, i + 2, none⟩ u2).cell? ⟨g, i + 3, none⟩ = some d ∧
    w.frozen? ⟨g, i, none⟩ = false ∧ (w.setCell ⟨g, i, none⟩ u0).frozen? ⟨g, i + 1, none⟩ = false ∧ ((w.setCell ⟨g, i, none⟩ u0).setCell ⟨g, i + 1, none⟩ u1).frozen? ⟨g, i + 2, none⟩ = false ∧ (((w.setCell ⟨g, i, none⟩ u0).setCell ⟨g, i + 1, none⟩ u1).setCell ⟨g, i + 2, none⟩ u2).frozen? ⟨g, i + 3, none⟩ = false := by
  have c1 : cur[i + 1]? = some b := by simpa [World.cell?, h] using h1
  have c2 : cur[i + 2]? = some c := by simpa [World.cell?, h] using h2
  have c3 : cur[i + 3]? = some d := by simpa [World.cell?, h] using h3
  have s0 := setCell_at (o := i) h u0
  have s1 := setCell_at (o := i + 1) s0 u1
  have s2 := setCell_at (o := i + 2) s1 u2
  refine ⟨blk_cell s0 ?_, blk_cell s1 ?_, blk_cell s2 ?_, blk_frozen h _, blk_frozen s0 _, blk_frozen s1 _, blk_frozen s2 _⟩
  · rw [Array.getElem?_setIfInBounds_ne (by omega)]; exact c1
  · rw [Array.getElem?_setIfInBounds_ne (by omega), Array.getElem?_setIfInBounds_ne (by omega)]; exact c2
  · rw [Array.getElem?_setIfInBounds_ne (by omega), Array.getElem?_setIfInBounds_ne (by omega), Array.getElem?_setIfInBounds_ne (by omega)]; exact c3
theorem b4 {w : World} {r : Nat} {T : TypeId} {x : Vt} (h : w.heap[r]? = some (.cells #[.int .i64 x.kind, .int .i64 x.type.dims, strV x.type.name, .int .i64 x.at_] T (0, 0))) :
    w.cell? ⟨r, 0, none⟩ = some (.int .i64 x.kind) ∧ w.cell? ⟨r, 1, none⟩ = some (.int .i64 x.type.dims) ∧ w.cell? ⟨r, 2, none⟩ = some (strV x.type.name) ∧ w.cell? ⟨r, 3, none⟩ = some (.int .i64 x.at_) :=
  ⟨blk_cell h rfl, blk_cell h rfl, blk_cell h rfl, blk_cell h rfl⟩
/-- A frame with one in the place of another one. -/
def swapF (f : Fr) (a b : Vt) : Fr := ⟨if f.self_ = a then b else f.self_, swapL f.locals_ a b, swapL f.stack a b⟩
abbrev bx (x : Vt) : Array Value := #[.int .i64 x.kind, .int .i64 x.type.dims, strV x.type.name, .int .i64 x.at_]
/-- A frame, two types, a result. -/
abbrev four6 (w : World) (x : Vt) (lv sv : Value) (a b : Vt) : World := (((w.alloc (.cells (frA x lv sv) 68)).alloc (.cells (bx a) 65)).alloc (.cells (bx b) 65)).alloc (.cells #[zInt, zInt, zStr, zInt, zNil, zNil] 68)
theorem four6_chg (w : World) (x : Vt) (lv sv : Value) (a b : Vt) : Chg No w (four6 w x lv sv a b) := ((((Chg.refl _ _).alloc _).alloc _).alloc _).alloc _
theorem four6_size (w : World) (x : Vt) (lv sv : Value) (a b : Vt) : (four6 w x lv sv a b).heap.size = w.heap.size + 4 := by simp
theorem four6_blk {S : Blocks} {w wr : World} {x : Vt} {lv sv : Value} {a b : Vt} (c : Chg S (four6 w x lv sv a b) wr) (hS : ∀ k, k < w.heap.size + 4 → ¬ S k) :
    wr.heap[w.heap.size]? = some (.cells (frA x lv sv) 68 (0, 0)) ∧ wr.heap[w.heap.size + 1]? = some (.cells (bx a) 65 (0, 0)) ∧ wr.heap[w.heap.size + 1 + 1]? = some (.cells (bx b) 65 (0, 0)) ∧ wr.heap[w.heap.size + 1 + 1 + 1]? = some (.cells #[zInt, zInt, zStr, zInt, zNil, zNil] 68 (0, 0)) := by
  have hb : ∀ {k : Nat} {o : Obj}, (four6 w x lv sv a b).heap[k]? = some o → wr.heap[k]? = some o := fun {k o} h => (c.block k (heap_lt h) (hS k (by have := heap_lt h; rwa [four6_size] at this))).trans h
  exact ⟨hb (alloc_blk (alloc_blk (alloc_blk (alloc_at _ _ rfl)))), hb (alloc_blk (alloc_blk (alloc_at _ _ (by simp)))), hb (alloc_blk (alloc_at _ _ (by simp))), hb (alloc_at _ _ (by simp))⟩
theorem swapL_app (xs ys : List Vt) (a b : Vt) : swapL (xs ++ ys) a b = swapL xs a b ++ swapL ys a b := by simp [swapL]
theorem swap_set {xs : List Vt} {a b : Vt} {k : Nat} (hk : k < xs.length) : (swapL (xs.take k) a b ++ xs.drop k).set k (if xs[k] = a then b else xs[k]) = swapL (xs.take (k + 1)) a b ++ xs.drop (k + 1) := by
  rw [swapL_take hk]
  have hl : (swapL (xs.take k) a b).length = k := by rw [swapL_len, List.length_take]; omega
  rw [List.set_append_right _ _ (by omega), hl, Nat.sub_self, List.drop_eq_getElem_cons hk, List.set_cons_zero, List.append_assoc]
  rfl
theorem swap_same {xs : List Vt} {a b : Vt} {k : Nat} (hk : k < xs.length) (h : xs[k] ≠ a) : swapL (xs.take k) a b ++ xs.drop k = swapL (xs.take (k + 1)) a b ++ xs.drop (k + 1) := by
  rw [swapL_take hk, if_neg h, List.append_assoc, List.drop_eq_getElem_cons hk]; rfl
set_option maxRecDepth 100000 in
set_option maxHeartbeats 1600000 in
theorem swap_fr (w : World) (f : Fr) (lv sv : Value) (a b : Vt) (h1 : VS w lv f.locals_) (h2 : VS w sv f.stack) (l1 : f.locals_.length ≤ 1000) (l2 : f.stack.length ≤ 1000) :
    Calls Tryz.prog 21 #[frV f.self_ lv sv, vtV a, vtV b] w (FrPost w (swapF f a b)) := by
  obtain ⟨fs, fl, fk⟩ := f
  simp only at h1 h2 l1 l2
  obtain ⟨a1, c1, hv1, -, -⟩ := h1.form
  obtain ⟨a2, c2, hv2, -, -⟩ := h2.form
  have H := Lib.hid (And.intro h1 h2); clear h1 h2
  subst hv1; subst hv2
  obtain ⟨W, hW⟩ : ∃ W, W = (four6 w fs (.slice a1 fl.length c1) (.slice a2 fk.length c2) a b).alloc (.cells (frA fs (.slice a1 fl.length c1) (.slice a2 fk.length c2)) 107) := ⟨_, rfl⟩
  have CW : RowKit.Hid (Chg No w W) := Lib.hid (by rw [hW]; exact (four6_chg w fs (.slice a1 fl.length c1) (.slice a2 fk.length c2) a b).alloc _)
  have HW := Lib.hid hW
  clear hW
  go_enter Tryz.func21, Tryz.ntmps21
  go_wp2_with fail
  refine (values_c _ ⟨fs, fl, fk⟩ (.slice a1 fl.length c1) (.slice a2 fk.length c2) (H.out.1.new (by rw [HW.out] at CW; exact CW.out)) (H.out.2.new (by rw [HW.out] at CW; exact CW.out)) l1 l2).mono ?_
  rintro e w1 ⟨v, rfl, o1, d1, n1⟩
  obtain ⟨g, gc, hv, hgc⟩ := OQ.form1 o1 (by simp)
  subst hv
  have E1 := Lib.hid (And.intro o1 (And.intro d1 n1))
  clear o1 d1 n1 hgc
  have hgW : W.heap.size ≤ g := by rw [HW.out]; exact E1.out.2.2 g rfl
  have hWs : W.heap.size = w.heap.size + 5 := by rw [HW.out]; simp
  have d1' : Chg No W w1 := by rw [HW.out]; exact E1.out.2.1
  have B1 : RowKit.Hid (∀ wr, Chg (· = g) w1 wr → wr.heap[w.heap.size + 1]? = some (.cells (bx a) 65 (0, 0)) ∧ wr.heap[w.heap.size + 1 + 1]? = some (.cells (bx b) 65 (0, 0)) ∧ wr.heap[w.heap.size + 1 + 1 + 1]? = some (.cells #[zInt, zInt, zStr, zInt, zNil, zNil] 68 (0, 0)) ∧ wr.heap[w.heap.size + 1 + 1 + 1 + 1]? = some (.cells (frA fs (.slice a1 fl.length c1) (.slice a2 fk.length c2)) 107 (0, 0))) := Lib.hid (fun wr c => by
    have c4 : Chg (fun k => w.heap.size + 5 ≤ k) (four6 w fs (.slice a1 fl.length c1) (.slice a2 fk.length c2) a b) wr := by
      have h0 : Chg No (four6 w fs (.slice a1 fl.length c1) (.slice a2 fk.length c2) a b) W := by rw [HW.out]; exact (Chg.refl _ _).alloc _
      exact ((h0.trans d1' (fun _ _ h => h)).mono (S' := fun k => w.heap.size + 5 ≤ k) (fun _ _ h => h.elim)).trans c (fun k _ e => by rw [e]; omega)
    obtain ⟨-, h1, h2, h3⟩ := four6_blk c4 (fun k hk h => by omega)
    have h4 : W.heap[w.heap.size + 1 + 1 + 1 + 1]? = some (.cells (frA fs (.slice a1 fl.length c1) (.slice a2 fk.length c2)) 107 (0, 0)) := by rw [HW.out]; exact alloc_at _ _ (by simp)
    exact ⟨h1, h2, h3, (c.block _ (Nat.lt_of_lt_of_le (heap_lt h4) d1'.size) (by omega)).trans (d1'.blk h4)⟩)
  obtain ⟨xs, hxs⟩ : ∃ xs, xs = fs :: (fl ++ fk) := ⟨_, rfl⟩
  have hn : xs.length = fl.length + fk.length + 1 := by rw [hxs]; simp
  rw [← hxs, hn] at E1
  have HX := Lib.hid (And.intro hxs (And.intro d1' (And.intro hgW hWs)))
  clear d1' hgW hxs
  go_wp2
  go_loopw [17] (fun i wr => ∃ k : Nat, k ≤ fl.length + fk.length + 1 ∧ i = .int .i64 k ∧ RowKit.Hid (VO wr (.slice (some ⟨g, 0, none⟩) (fl.length + fk.length + 1) gc) (swapL (xs.take k) a b ++ xs.drop k) ∧ Chg (· = g) w1 wr)) (fun i _ => fl.length + fk.length + 1 - (intOf i).toNat)
  case atStart => exact ⟨0, Nat.zero_le _, rfl, Lib.hid ⟨E1.out.1, Chg.refl _ _⟩⟩
  case round =>
    obtain ⟨k, hk, rfl, hI⟩ := hrel
    obtain ⟨h1, h2, h3, h4⟩ := B1.out wr hI.out.2
    by_cases hlt : k < fl.length + fk.length + 1
    · have hkx : k < xs.length := by omega
      have hln : (swapL (xs.take k) a b ++ xs.drop k).length = fl.length + fk.length + 1 := by rw [List.length_append, swapL_len, List.length_take, List.length_drop]; omega
      have hek : (swapL (xs.take k) a b ++ xs.drop k)[k]'(by omega) = xs[k] := by
        rw [List.getElem_append_right (by rw [swapL_len, List.length_take]; omega)]
        simp [swapL_len, Nat.min_eq_left (Nat.le_of_lt hkx)]
      obtain ⟨b', o', hbo, hbl, g0, g1, g2, g3⟩ := (VO.vs hI.out.1).cells k (by omega)
      cases hbo
      rw [hek, Nat.zero_add] at g0 g1 g2 g3
      obtain ⟨cur, hcur⟩ := OQ.block hI.out.1 (k := g) rfl
      obtain ⟨p0, p1, p2, p3⟩ := b4 (x := a) h1
      obtain ⟨q0, q1, q2, q3⟩ := b4 (x := b) h2
      have z1 := heap_lt h1
      have z2 := heap_lt h2
      have HF := Lib.hid (vtEq_iff xs[k] a)
      have HT := Lib.hid (And.intro (swap_set (a := a) (b := b) hkx) (swap_same (a := a) (b := b) hkx))
      have HL := Lib.hid hln
      clear h1 h2 h3 h4 hek hln
      cases hp : vtEq xs[k] a with
      | false =>
        have HP := Lib.hid hp
        go_wp2
        go_roundw
        case rel =>
          have hd := HF.out; rw [HP.out] at hd
          exact ⟨k + 1, by omega, by go_num, Lib.hid ⟨by rw [← HT.out.2 (of_decide_eq_false hd.symm)]; exact OQ.new goodVt hI.out.1 ((Chg.refl No wr).alloc _), hI.out.2.alloc _⟩⟩
        case measure => simp [intOf]; omega
      | true =>
        have HP := Lib.hid hp
        have F4 := four_cells hcur g0 g1 g2 g3 (.int .i64 b.kind) (.int .i64 b.type.dims) (strV b.type.name)
        obtain ⟨t1, t2, t3, t4, t5, t6, t7⟩ := F4
        have tf1 := blk_frozen hcur (k * 4 + 1)
        have tf2 := blk_frozen hcur (k * 4 + 2)
        have tf3 := blk_frozen hcur (k * 4 + 3)
        go_wp2
        go_roundw
        case rel =>
          have hd := HF.out; rw [HP.out] at hd
          have hx := of_decide_eq_true hd.symm
          obtain ⟨s1, s2⟩ := OQ.store goodVt hI.out.1 (fun _ h => False.elim h) k (by rw [HL.out]; omega) (x := b) (cs := vtC b) rfl rfl
          have ht := HT.out.1
          rw [if_pos hx] at ht
          rw [ht] at s1
          exact ⟨k + 1, by omega, by go_num, Lib.hid ⟨OQ.new goodVt s1 ((Chg.refl No _).alloc _), (hI.out.2.trans s2 (fun _ _ h => h)).alloc _⟩⟩
        case measure => simp [intOf]; omega
    · have hkn : k = fl.length + fk.length + 1 := by omega
      obtain ⟨z, hz⟩ : ∃ z, z = if fs = a then b else fs := ⟨_, rfl⟩
      have hfin : swapL (xs.take k) a b ++ xs.drop k = z :: (swapL fl a b ++ swapL fk a b) := by
        rw [hkn, ← hn, List.take_length, List.drop_length, List.append_nil, HX.out.1, ← swapL_app, hz]; rfl
      have hsw : swapF ⟨fs, fl, fk⟩ a b = ⟨z, swapL fl a b, swapL fk a b⟩ := by rw [hz]; rfl
      have HSW := Lib.hid hsw
      clear hz hsw
      have HG := Lib.hid (And.intro h3 (And.intro hkn hfin))
      obtain ⟨⟨b0, b1, b2, b3, b4', b5⟩, -⟩ := f6 h4
      clear h1 h2 h3 h4 hfin
      go_wp2_with fail
      have hv := VO.vs hI.out.1
      rw [HG.out.2.2] at hv
      have hw := with_c wr fs a1 c1 (.slice a2 fk.length c2) (.slice (some ⟨g, 0, none⟩) (fl.length + fk.length + 1) gc) z (swapL fl a b) (swapL fk a b) hv (by rw [swapL_len]; exact l1) (by rw [swapL_len]; exact l2)
      rw [swapL_len] at hw
      refine hw.mono ?_
      rintro e w2 ⟨lv, sv, rfl, o1, o2, d2, m1, m2⟩
      obtain ⟨na, nc, hl⟩ := OQ.form o1
      obtain ⟨ma, mc, hs⟩ := OQ.form o2
      rw [swapL_len] at hl hs
      subst hl; subst hs
      obtain ⟨⟨r0, r1, r2, r3, r4, r5⟩, y0, y1, y2, y3, y4, y5⟩ := r6 (d2.blk HG.out.1)
      have E2 := Lib.hid (And.intro o1 (And.intro o2 (And.intro d2 (And.intro m1 m2))))
      clear hw o1 o2 d2 m1 m2 hv b0 b1 b2 b3 b4' b5
      go_wp2
      have zs := HX.out.2.2.2
      have zw : W.heap.size ≤ wr.heap.size := Nat.le_trans HX.out.2.1.size hI.out.2.size
      rw [HSW.out]
      refine bodyPost_ret (v := frV z (.slice na fl.length nc) (.slice ma fk.length mc)) (by simp [results, Tryz.results21, go_sem, r0, r1, r2, r3, r4, r5]) rfl ⟨_, _, rfl, ?_, ?_, ?_, ?_, ?_⟩
      · exact VO.six E2.out.1 (b := w.heap.size + 1 + 1 + 1) (fun k hk => by have := E2.out.2.2.2.1 k hk; omega) _ _ _ _ _ _
      · exact VO.six E2.out.2.1 (b := w.heap.size + 1 + 1 + 1) (fun k hk => by have := E2.out.2.2.2.2 k hk; omega) _ _ _ _ _ _
      · have c3 : Chg No w wr := (CW.out.trans HX.out.2.1 (fun _ _ h => h)).trans hI.out.2 (fun k hk e => by have := HX.out.2.2.1; omega)
        exact Chg.six (c3.trans E2.out.2.2.1 (fun _ _ h => h)) (by omega) _ _ _ _ _ _
      · intro k hk; have := E2.out.2.2.2.1 k hk; omega
      · intro k hk; have := E2.out.2.2.2.2 k hk; omega
end Go.Proofs.YtgmmclcpfmnoiaaGreatDoor

namespace Go.Proofs.YtgmmclcpfmnoiaaGreatDoor
open Go.RowKit
attribute [local go_sem high] eqVt_run

theorem r6b {w : World} {r : Nat} {T : TypeId} (h : w.heap[r]? = some (.cells #[zInt, zInt, zStr, zInt, zNil, zNil] T (0, 0))) :
    ((∀ o o2, ((w.alloc o).alloc o2).cell? ⟨r, 0, none⟩ = some zInt) ∧ (∀ o o2, ((w.alloc o).alloc o2).cell? ⟨r, 1, none⟩ = some zInt) ∧ (∀ o o2, ((w.alloc o).alloc o2).cell? ⟨r, 2, none⟩ = some zStr) ∧ (∀ o o2, ((w.alloc o).alloc o2).cell? ⟨r, 3, none⟩ = some zInt) ∧ (∀ o o2, ((w.alloc o).alloc o2).cell? ⟨r, 4, none⟩ = some zNil) ∧ (∀ o o2, ((w.alloc o).alloc o2).cell? ⟨r, 5, none⟩ = some zNil)) ∧
    (∀ o o2, ((w.alloc o).alloc o2).frozen? ⟨r, 0, none⟩ = false) ∧ (∀ o o2, ((w.alloc o).alloc o2).frozen? ⟨r, 1, none⟩ = false) ∧ (∀ o o2, ((w.alloc o).alloc o2).frozen? ⟨r, 2, none⟩ = false) ∧ (∀ o o2, ((w.alloc o).alloc o2).frozen? ⟨r, 3, none⟩ = false) ∧ (∀ o o2, ((w.alloc o).alloc o2).frozen? ⟨r, 4, none⟩ = false) ∧ (∀ o o2, ((w.alloc o).alloc o2).frozen? ⟨r, 5, none⟩ = false) :=
  ⟨⟨fun o o2 => (r6 (alloc_blk (o2 := o2) (alloc_blk (o2 := o) h))).1.1, fun o o2 => (r6 (alloc_blk (o2 := o2) (alloc_blk (o2 := o) h))).1.2.1, fun o o2 => (r6 (alloc_blk (o2 := o2) (alloc_blk (o2 := o) h))).1.2.2.1, fun o o2 => (r6 (alloc_blk (o2 := o2) (alloc_blk (o2 := o) h))).1.2.2.2.1, fun o o2 => (r6 (alloc_blk (o2 := o2) (alloc_blk (o2 := o) h))).1.2.2.2.2.1, fun o o2 => (r6 (alloc_blk (o2 := o2) (alloc_blk (o2 := o) h))).1.2.2.2.2.2⟩,
    fun o o2 => blk_frozen (alloc_blk (o2 := o2) (alloc_blk (o2 := o) h)) 0, fun o o2 => blk_frozen (alloc_blk (o2 := o2) (alloc_blk (o2 := o) h)) 1, fun o o2 => blk_frozen (alloc_blk (o2 := o2) (alloc_blk (o2 := o) h)) 2, fun o o2 => blk_frozen (alloc_blk (o2 := o2) (alloc_blk (o2 := o) h)) 3, fun o o2 => blk_frozen (alloc_blk (o2 := o2) (alloc_blk (o2 := o) h)) 4, fun o o2 => blk_frozen (alloc_blk (o2 := o2) (alloc_blk (o2 := o) h)) 5⟩
set_option maxRecDepth 100000 in
set_option maxHeartbeats 1600000 in
theorem catch_ref (w : World) (f : Fr) (lv sv : Value) (s : Bs) (h1 : VS w lv f.locals_) (h2 : VS w sv f.stack) (l1 : f.locals_.length ≤ 1000000) (l2 : f.stack.length ≤ 1000000) (hz : (f.self_.kind == 0) = false) :
    Calls Tryz.prog 30 #[frV f.self_ lv sv, strV s] w (FrPost w ⟨f.self_, f.locals_, [⟨3, ⟨0, s⟩, 0⟩]⟩) := by
  obtain ⟨fs, fl, fk⟩ := f
  simp only at h1 h2 l1 l2 hz
  obtain ⟨a1, c1, hv1, -, -⟩ := h1.form
  obtain ⟨a2, c2, hv2, -, -⟩ := h2.form
  have H := Lib.hid (And.intro h1 h2); clear h1 h2
  subst hv1; subst hv2
  have CW := Lib.hid (two6 w fs (.slice a1 fl.length c1) (.slice a2 fk.length c2))
  go_enter Tryz.func30, Tryz.ntmps30
  go_wp2_with fail
  have hr := reached_ref ((w.alloc (.cells (frA fs (.slice a1 fl.length c1) (.slice a2 fk.length c2)) 68)).alloc (.cells #[zInt, zInt, zStr, zInt, zNil, zNil] 68)) fs (.slice a1 fl.length c1) (.slice a2 fk.length c2)
  rw [hz] at hr
  refine hr.mono ?_
  rintro e w1 ⟨rfl, d1⟩
  obtain ⟨⟨b0, b1, b2, b3, b4, b5⟩, -⟩ := f6 (two6_0 d1)
  have D1 := Lib.hid d1
  clear hr hz d1
  go_wp2_with fail
  refine (twin_ref w1 ⟨fs, fl, fk⟩ (.slice a1 fl.length c1) (.slice a2 fk.length c2) (H.out.1.new (CW.out.trans D1.out (fun _ _ h => h))) (H.out.2.new (CW.out.trans D1.out (fun _ _ h => h))) l1 l2).mono ?_
  rintro e w2 ⟨lv, sv, rfl, o1, o2, d2, m1, -⟩
  obtain ⟨na, nc, rfl⟩ := o1.form
  obtain ⟨ma, mc, rfl⟩ := o2.form
  have D2 := Lib.hid (D1.out.trans d2 (fun _ _ h => h))
  have KR := Lib.hid (two6_1 D2.out)
  have O1 := Lib.hid (And.intro o1 m1)
  clear o1 o2 m1 d2 b0 b1 b2 b3 b4 b5
  have hrl := heap_lt KR.out
  obtain ⟨⟨r0, r1, r2, r3, r4, r5⟩, y0, y1, y2, y3, y4, y5⟩ := r6b KR.out
  go_wp2
  have z0 := D2.out.size
  rw [two6_size] at z0
  have z1 := O1.out.2
  have z2 := D1.out.size
  rw [two6_size] at z2
  refine bodyPost_ret (v := frV fs (.slice na fl.length nc) (.slice (some ⟨w2.heap.size + 1, 0, none⟩) 1 1)) (by simp [results, Tryz.results30, go_sem, r0, r1, r2, r3, r4, r5]) rfl ⟨_, _, rfl, ?_, ?_, ?_, ?_, ?_⟩
  · exact VO.six (OQ.new goodVt O1.out.1 (((Chg.refl No w2).alloc _).alloc _)) (b := w.heap.size + 1) (fun k hk => by have := z1 k hk; omega) _ _ _ _ _ _
  · have h1 := vo_one (w2.alloc (.cells #[.int .i64 fs.kind, .int .i64 fs.type.dims, strV fs.type.name, .int .i64 fs.at_, .slice na fl.length nc, .slice (some ⟨w2.heap.size + 1, 0, none⟩) 1 1] 68)) ⟨3, ⟨0, s⟩, 0⟩
    rw [size_alloc1] at h1
    exact VO.six h1 (b := w.heap.size + 1) (fun k hk => by simp [Value.ownBlock] at hk; omega) _ _ _ _ _ _
  · exact Chg.six (((CW.out.trans D2.out (fun _ _ h => h)).alloc _).alloc _) (by omega) _ _ _ _ _ _
  · intro k hk; have := z1 k hk; omega
  · intro k hk; simp [Value.ownBlock] at hk; omega
end Go.Proofs.YtgmmclcpfmnoiaaGreatDoor

namespace Go.Proofs.YtgmmclcpfmnoiaaGreatDoor
open Go.RowKit
attribute [local go_sem high] eqVt_run

/-- What the loads read. -/
abbrev S14 (w : World) (x : Vt) (lv sv : Value) (a b : Vt) (w' : World) : Prop :=
  w'.cell? ⟨w.heap.size, 0, none⟩ = some (.int .i64 x.kind) ∧ w'.cell? ⟨w.heap.size, 1, none⟩ = some (.int .i64 x.type.dims) ∧ w'.cell? ⟨w.heap.size, 2, none⟩ = some (strV x.type.name) ∧ w'.cell? ⟨w.heap.size, 3, none⟩ = some (.int .i64 x.at_) ∧ w'.cell? ⟨w.heap.size, 4, none⟩ = some lv ∧ w'.cell? ⟨w.heap.size, 5, none⟩ = some sv ∧
  w'.cell? ⟨w.heap.size + 1, 0, none⟩ = some (.int .i64 a.kind) ∧ w'.cell? ⟨w.heap.size + 1, 1, none⟩ = some (.int .i64 a.type.dims) ∧ w'.cell? ⟨w.heap.size + 1, 2, none⟩ = some (strV a.type.name) ∧ w'.cell? ⟨w.heap.size + 1, 3, none⟩ = some (.int .i64 a.at_) ∧
  w'.cell? ⟨w.heap.size + 1 + 1, 0, none⟩ = some (.int .i64 b.kind) ∧ w'.cell? ⟨w.heap.size + 1 + 1, 1, none⟩ = some (.int .i64 b.type.dims) ∧ w'.cell? ⟨w.heap.size + 1 + 1, 2, none⟩ = some (strV b.type.name) ∧ w'.cell? ⟨w.heap.size + 1 + 1, 3, none⟩ = some (.int .i64 b.at_)
theorem s14_of {S : Blocks} {w wr : World} {x : Vt} {lv sv : Value} {a b : Vt} (c : Chg S (four6 w x lv sv a b) wr) (hS : ∀ k, k < w.heap.size + 4 → ¬ S k) : S14 w x lv sv a b wr := by
  obtain ⟨h0, h1, h2, -⟩ := four6_blk c hS
  exact ⟨blk_cell h0 rfl, blk_cell h0 rfl, blk_cell h0 rfl, blk_cell h0 rfl, blk_cell h0 rfl, blk_cell h0 rfl, blk_cell h1 rfl, blk_cell h1 rfl, blk_cell h1 rfl, blk_cell h1 rfl, blk_cell h2 rfl, blk_cell h2 rfl, blk_cell h2 rfl, blk_cell h2 rfl⟩
theorem s14_no {w wr : World} {x : Vt} {lv sv : Value} {a b : Vt} (c : Chg No (four6 w x lv sv a b) wr) : S14 w x lv sv a b wr := s14_of c (fun _ _ h => h)

/-- A frame that was made: where it lies. -/
def FZ (W wz : World) (X : Nat) (x : Vt) (v1 v2 : Value) (l1 l2 : List Vt) : Prop :=
  wz.heap[X]? = some (.cells (frA x v1 v2) 68 (0, 0)) ∧ Chg No W wz ∧ W.heap.size ≤ X ∧ VO wz v1 l1 ∧ VO wz v2 l2 ∧ (∀ k, v1.ownBlock = some k → W.heap.size ≤ k ∧ k ≠ X) ∧ ∀ k, v2.ownBlock = some k → W.heap.size ≤ k ∧ k ≠ X
theorem fz_alloc {W w2 : World} {x : Vt} {v1 v2 : Value} {l1 l2 : List Vt} (c : Chg No W w2) (o1 : VO w2 v1 l1) (o2 : VO w2 v2 l2) (n1 : ∀ k, v1.ownBlock = some k → W.heap.size ≤ k) (n2 : ∀ k, v2.ownBlock = some k → W.heap.size ≤ k) : FZ W (w2.alloc (.cells (frA x v1 v2) 68)) w2.heap.size x v1 v2 l1 l2 :=
  ⟨alloc_at _ _ rfl, c.alloc _, c.size, OQ.new goodVt o1 ((Chg.refl _ _).alloc _), OQ.new goodVt o2 ((Chg.refl _ _).alloc _), fun k hk => ⟨n1 k hk, Nat.ne_of_lt (o1.lt k hk)⟩, fun k hk => ⟨n2 k hk, Nat.ne_of_lt (o2.lt k hk)⟩⟩
theorem fz_six {W w2 : World} {X : Nat} {x : Vt} {v1 v2 : Value} {l1 l2 : List Vt} (c : Chg No W w2) (hX : W.heap.size ≤ X) (hb : w2.heap[X]? = some (.cells #[zInt, zInt, zStr, zInt, zNil, zNil] 68 (0, 0))) (o1 : VO w2 v1 l1) (o2 : VO w2 v2 l2) (n1 : ∀ k, v1.ownBlock = some k → W.heap.size ≤ k ∧ k ≠ X) (n2 : ∀ k, v2.ownBlock = some k → W.heap.size ≤ k ∧ k ≠ X) :
    FZ W ((((((w2.setCell ⟨X, 0, none⟩ (.int .i64 x.kind)).setCell ⟨X, 1, none⟩ (.int .i64 x.type.dims)).setCell ⟨X, 2, none⟩ (strV x.type.name)).setCell ⟨X, 3, none⟩ (.int .i64 x.at_)).setCell ⟨X, 4, none⟩ v1).setCell ⟨X, 5, none⟩ v2) X x v1 v2 l1 l2 :=
  ⟨setCell_at (setCell_at (setCell_at (setCell_at (setCell_at (setCell_at hb _) _) _) _) _) _, c.six hX _ _ _ _ _ _, hX, o1.six (fun k hk => (n1 k hk).2) _ _ _ _ _ _, o2.six (fun k hk => (n2 k hk).2) _ _ _ _ _ _, n1, n2⟩
theorem swap_own {W w1 : World} {v : Value} (h : W.heap.size ≤ w1.heap.size) (n : ∀ k, v.ownBlock = some k → w1.heap.size ≤ k) : ∀ k, v.ownBlock = some k → W.heap.size ≤ k := fun k hk => Nat.le_trans h (n k hk)
theorem zero_at (w : World) : (w.alloc (.cells #[zInt, zInt, zStr, zInt, zNil, zNil] 68)).drew.heap[w.heap.size]? = some (.cells #[zInt, zInt, zStr, zInt, zNil, zNil] 68 (0, 0)) := alloc_at _ _ rfl
theorem zero_at2 (w : World) : (w.alloc (.cells #[zInt, zInt, zStr, zInt, zNil, zNil] 68)).heap[w.heap.size]? = some (.cells #[zInt, zInt, zStr, zInt, zNil, zNil] 68 (0, 0)) := alloc_at _ _ rfl
set_option maxRecDepth 100000 in
set_option maxHeartbeats 1600000 in
theorem swap_ref (w : World) (f : Fr) (lv sv : Value) (a b : Vt) (h1 : VS w lv f.locals_) (h2 : VS w sv f.stack) (l1 : f.locals_.length ≤ 1000) (l2 : f.stack.length ≤ 1000) :
    Calls Tryz.prog 27 #[frV f.self_ lv sv, vtV a, vtV b] w (FrPost w (swapF f a b)) := by
  obtain ⟨fs, fl, fk⟩ := f
  simp only at h1 h2 l1 l2
  obtain ⟨a1, c1, hv1, -, -⟩ := h1.form
  obtain ⟨a2, c2, hv2, -, -⟩ := h2.form
  have H := Lib.hid (And.intro h1 h2); clear h1 h2
  subst hv1; subst hv2
  have CW := Lib.hid (four6_chg w fs (.slice a1 fl.length c1) (.slice a2 fk.length c2) a b)
  obtain ⟨W, hW⟩ : ∃ W, W = four6 w fs (.slice a1 fl.length c1) (.slice a2 fk.length c2) a b := ⟨_, rfl⟩
  have HW := Lib.hid hW
  rw [← hW] at CW
  have SW : RowKit.Hid (∀ wr, Chg No W wr → S14 w fs (.slice a1 fl.length c1) (.slice a2 fk.length c2) a b wr) := Lib.hid (fun wr c => s14_no (by rw [← hW]; exact c))
  have RZ : RowKit.Hid (∀ wr, Chg No W wr → wr.heap[w.heap.size + 1 + 1 + 1]? = some (.cells #[zInt, zInt, zStr, zInt, zNil, zNil] 68 (0, 0))) := Lib.hid (fun wr c => (four6_blk (S := No) (by rw [← hW]; exact c) (fun _ _ h => h)).2.2.2)
  have hWs : W.heap.size = w.heap.size + 4 := by rw [hW]; exact four6_size ..
  have HZ := Lib.hid hWs
  clear hW hWs
  have CU := Lib.hid (Chg.refl No W)
  have HF := Lib.hid (vtEq_iff fs a)
  go_enter Tryz.func27, Tryz.ntmps27
  go_wp2_with fail
  change Code.wp _ _ _ _ (four6 w fs (.slice a1 fl.length c1) (.slice a2 fk.length c2) a b)
  rw [← HW.out]
  have tok1 : True := trivial
  go_region_held3 (fun w' => S14 w fs (.slice a1 fl.length c1) (.slice a2 fk.length c2) a b w') (first | (with_reducible exact SW.out _ CU.out.drew) | (with_reducible exact SW.out _ CU.out) | (with_reducible exact SW.out _ (CU.out.alloc _)) | (with_reducible exact SW.out _ (CU.out.alloc _).drew) | (with_reducible exact SW.out _ (CS.out _ _ _ _ _ _)) | (trace_state; fail)) (first
    | (go_at_call 59; have _t := tok1; clear tok1; refine (swapped_c _ (.slice a1 fl.length c1) fl a b (H.out.1.new (CW.out.trans (by first | (with_reducible exact CU.out.drew) | (with_reducible exact (CU.out.alloc _).drew)) (fun _ _ h => h))) (by omega)).mono ?_; rintro e w1 ⟨v1, rfl, o1, d1, n1⟩; obtain ⟨na, nc, hv1⟩ := o1.form; rw [swapL_len] at hv1; subst hv1; have O1 := Lib.hid (And.intro o1 (swap_own (by first | (with_reducible exact CU.out.drew.size) | (with_reducible exact (CU.out.alloc _).drew.size)) n1)); have N1 := Lib.hid n1; (first | (with_reducible have K1 := Lib.hid (d1.blk (zero_at W)); have D1 := Lib.hid d1; have CU := Lib.hid (show Chg No W w1 from (CU.out.alloc _).drew.trans d1 (fun _ _ h => h))) | (have CU := Lib.hid (show Chg No W w1 from CU.out.drew.trans d1 (fun _ _ h => h)))); have Z1 := Lib.hid CU.out.size; clear o1 d1 n1)
    | (go_at_call 59; refine (swapped_c _ (.slice a2 fk.length c2) fk a b (H.out.2.new (CW.out.trans (by first | (with_reducible exact CU.out) | (with_reducible exact CU.out.alloc _)) (fun _ _ h => h))) (by omega)).mono ?_; rintro e w2 ⟨v2, rfl, o1, d1, n1⟩; obtain ⟨ma, mc, hv2⟩ := o1.form; rw [swapL_len] at hv2; subst hv2; have O2 := Lib.hid (And.intro o1 (swap_own (by first | (with_reducible exact CU.out.size) | (with_reducible exact (CU.out.alloc _).size)) n1)); have N2 := Lib.hid n1; (first | (with_reducible have K2 := Lib.hid (d1.blk (zero_at2 w1)); have D2 := Lib.hid (show Chg No w1 w2 from ((Chg.refl No w1).alloc _).trans d1 (fun _ _ h => h)); obtain ⟨⟨x0, x1, x2, x3, x4, x5⟩, f0, f1, f2, f3, f4, f5⟩ := r6 K2.out; have CS := Lib.hid (fun u0 u1 u2 u3 u4 u5 => (CU.out.trans D2.out (fun _ _ h => h)).six (b := w1.heap.size) Z1.out u0 u1 u2 u3 u4 u5)) | (have K2 := Lib.hid (d1.blk K1.out); have D2 := Lib.hid (show Chg No w1 w2 from d1); obtain ⟨⟨x0, x1, x2, x3, x4, x5⟩, f0, f1, f2, f3, f4, f5⟩ := r6 K2.out; have CS := Lib.hid (fun u0 u1 u2 u3 u4 u5 => (CU.out.trans D2.out (fun _ _ h => h)).six (b := W.heap.size) (Nat.le_refl _) u0 u1 u2 u3 u4 u5)) | (have D2 := Lib.hid (show Chg No w1 w2 from d1))); have CU := Lib.hid (CU.out.trans D2.out (fun _ _ h => h)); clear o1 d1 n1))
  all_goals
    first
    | (have F0 := Lib.hid (fz_six (x := fs) (CU.out) Z1.out K2.out (OQ.new goodVt O1.out.1 D2.out) O2.out.1 (fun k hk => ⟨O1.out.2 k hk, Nat.ne_of_lt (O1.out.1.lt k hk)⟩) (fun k hk => ⟨O2.out.2 k hk, by have h := N2.out k hk; rw [size_alloc1] at h; omega⟩))
       obtain ⟨X, hX⟩ : ∃ X, X = w1.heap.size := ⟨_, rfl⟩
       rw [← hX] at F0 ⊢)
    | (have F0 := Lib.hid (fz_six (x := fs) (CU.out) (Nat.le_refl _) K2.out (OQ.new goodVt O1.out.1 D2.out) O2.out.1 (fun k hk => ⟨O1.out.2 k hk, by have h : (W.alloc (.cells #[zInt, zInt, zStr, zInt, zNil, zNil] 68)).heap.size ≤ k := N1.out k hk; rw [size_alloc1] at h; omega⟩) (fun k hk => ⟨O2.out.2 k hk, by have h := N2.out k hk; have h9 : (W.alloc (.cells #[zInt, zInt, zStr, zInt, zNil, zNil] 68)).heap.size ≤ w1.heap.size := D1.out.size; rw [size_alloc1] at h9; omega⟩))
       obtain ⟨X, hX⟩ : ∃ X, X = W.heap.size := ⟨_, rfl⟩
       rw [← hX] at F0 ⊢)
    | (have F0 := Lib.hid (fz_alloc (x := fs) (CU.out) (OQ.new goodVt O1.out.1 D2.out) O2.out.1 O1.out.2 O2.out.2)
       obtain ⟨X, hX⟩ : ∃ X, X = w2.heap.size := ⟨_, rfl⟩
       rw [← hX] at F0 ⊢)
    | fail
  all_goals
    refine (fun (key : ∀ wz, FZ W wz X fs (.slice na fl.length nc) (.slice ma fk.length mc) (swapL fl a b) (swapL fk a b) → Exit.then _ _ _ _ wz) => key _ F0.out) ?_
    clear F0 CU hX
    intro wz fz
    obtain ⟨q0, q1, q2, q3, -, -, p0, p1, p2, p3, t0, t1, t2, t3⟩ := SW.out wz fz.2.1
    obtain ⟨⟨b0, b1, b2, b3, b4, b5⟩, g0, g1, g2, g3, g4, g5⟩ := f6 fz.1
    obtain ⟨⟨r0, r1, r2, r3, r4, r5⟩, y0, y1, y2, y3, y4, y5⟩ := r6 (RZ.out wz fz.2.1)
    have hz := HZ.out
    have hxR : ¬ (X = w.heap.size + 1 + 1 + 1) := by have := fz.2.2.1; omega
    have hxR' : ¬ (w.heap.size + 1 + 1 + 1 = X) := by omega
    have F := Lib.hid fz
    clear fz hz
    cases hp : vtEq fs a with
    | false =>
      have HP := Lib.hid hp
      go_wp2
      have hc := HF.out
      rw [HP.out] at hc
      have hsw : swapF ⟨fs, fl, fk⟩ a b = ⟨fs, swapL fl a b, swapL fk a b⟩ := by unfold swapF; rw [if_neg (of_decide_eq_false hc.symm)]
      rw [hsw]
      refine bodyPost_ret (v := frV fs (.slice na fl.length nc) (.slice ma fk.length mc)) (by simp [results, Tryz.results27, go_sem, r0, r1, r2, r3, r4, r5]) rfl ⟨_, _, rfl, ?_, ?_, ?_, ?_, ?_⟩
      · exact VO.six F.out.2.2.2.1 (b := w.heap.size + 1 + 1 + 1) (fun k hk => by have := (F.out.2.2.2.2.2.1 k hk).1; have := HZ.out; omega) _ _ _ _ _ _
      · exact VO.six F.out.2.2.2.2.1 (b := w.heap.size + 1 + 1 + 1) (fun k hk => by have := (F.out.2.2.2.2.2.2 k hk).1; have := HZ.out; omega) _ _ _ _ _ _
      · exact Chg.six (CW.out.trans F.out.2.1 (fun _ _ h => h)) (by omega) _ _ _ _ _ _
      · intro k hk; have := (F.out.2.2.2.2.2.1 k hk).1; have := HZ.out; omega
      · intro k hk; have := (F.out.2.2.2.2.2.2 k hk).1; have := HZ.out; omega
    | true =>
      have HP := Lib.hid hp
      go_wp2
      have hc := HF.out
      rw [HP.out] at hc
      have hsw : swapF ⟨fs, fl, fk⟩ a b = ⟨b, swapL fl a b, swapL fk a b⟩ := by unfold swapF; rw [if_pos (of_decide_eq_true hc.symm)]
      rw [hsw]
      refine bodyPost_ret (v := frV b (.slice na fl.length nc) (.slice ma fk.length mc)) (by simp [results, Tryz.results27, go_sem, r0, r1, r2, r3, r4, r5]) rfl ⟨_, _, rfl, ?_, ?_, ?_, ?_, ?_⟩
      · exact VO.six ((((F.out.2.2.2.1.set (fun k hk => (F.out.2.2.2.2.2.1 k hk).2) _ _).set (fun k hk => (F.out.2.2.2.2.2.1 k hk).2) _ _).set (fun k hk => (F.out.2.2.2.2.2.1 k hk).2) _ _).set (fun k hk => (F.out.2.2.2.2.2.1 k hk).2) _ _) (b := w.heap.size + 1 + 1 + 1) (fun k hk => by have := (F.out.2.2.2.2.2.1 k hk).1; have := HZ.out; omega) _ _ _ _ _ _
      · exact VO.six ((((F.out.2.2.2.2.1.set (fun k hk => (F.out.2.2.2.2.2.2 k hk).2) _ _).set (fun k hk => (F.out.2.2.2.2.2.2 k hk).2) _ _).set (fun k hk => (F.out.2.2.2.2.2.2 k hk).2) _ _).set (fun k hk => (F.out.2.2.2.2.2.2 k hk).2) _ _) (b := w.heap.size + 1 + 1 + 1) (fun k hk => by have := (F.out.2.2.2.2.2.2 k hk).1; have := HZ.out; omega) _ _ _ _ _ _
      · have hX2 : w.heap.size ≤ X := by have := F.out.2.2.1; have := HZ.out; omega
        exact Chg.six (((((CW.out.trans F.out.2.1 (fun _ _ h => h)).set_new hX2 _ _).set_new hX2 _ _).set_new hX2 _ _).set_new hX2 _ _) (by omega) _ _ _ _ _ _
      · intro k hk; have := (F.out.2.2.2.2.2.1 k hk).1; have := HZ.out; omega
      · intro k hk; have := (F.out.2.2.2.2.2.2 k hk).1; have := HZ.out; omega
end Go.Proofs.YtgmmclcpfmnoiaaGreatDoor

namespace Go.Proofs.YtgmmclcpfmnoiaaGreatDoor
open Go.ChangeShapes Go.WideShapes Go.ChangeAt Go.RowKit Go.Deep
section
variable {H : Type} {enc : TypeId × Value → H} {W : World} {base : Nat} {v : Value} {d : DataW H} {p : List MemPlace}
set_option maxRecDepth 100000 in
theorem open_frame (hok : Value.okWide Tryz.prog W .any base 68 v) (h : DataW.Trod enc Tryz.prog W 0 (fun _ => true) true 68 v d p) : ∃ (f : Fr) (lv sv : Value), v = frV f.self_ lv sv ∧ VS W lv f.locals_ ∧ VS W sv f.stack ∧ f.locals_.length ≤ maxLen ∧ f.stack.length ≤ maxLen := by
  obtain ⟨cs, rfl, _⟩ := okWide_struct Tryz.underlying68 hok
  obtain ⟨x, ⟨lv, sv, he, h1, h2⟩, w⟩ := open_G opens_fr h
  refine ⟨x, lv, sv, ?_, vs_of h1, vs_of h2, w.2.1.1, w.2.2.1⟩
  have hc : cs.toList = [.int .i64 x.self_.kind, .int .i64 x.self_.type.dims, strV x.self_.type.name, .int .i64 x.self_.at_, lv, sv] := he
  rw [← Array.toArray_toList (xs := cs), hc]
set_option maxRecDepth 100000 in
theorem open_vtype (hok : Value.okWide Tryz.prog W .any base 65 v) (h : DataW.Trod enc Tryz.prog W 0 (fun _ => true) true 65 v d p) : ∃ x : Vt, v = vtV x ∧ WVt x := by
  obtain ⟨cs, rfl, _⟩ := okWide_struct Tryz.underlying65 hok
  obtain ⟨x, he, w⟩ := open_G opens_vt h
  refine ⟨x, ?_, w⟩
  have hc : cs.toList = [.int .i64 x.kind, .int .i64 x.type.dims, strV x.type.name, .int .i64 x.at_] := he
  rw [← Array.toArray_toList (xs := cs), hc]
set_option maxRecDepth 100000 in
theorem open_str1 (hok : Value.okWide Tryz.prog W .any base 9 v) (h : DataW.Trod enc Tryz.prog W 0 (fun _ => true) true 9 v d p) : ∃ s : Bs, v = strV s ∧ s.length ≤ maxLen := by
  obtain ⟨b, rfl⟩ := okWide_string Tryz.underlying9 hok
  obtain ⟨x, he, w⟩ := open_G (opens_str Tryz.underlying9) h
  refine ⟨x, ?_, w⟩
  have hc : [Value.string b] = [strV x] := he
  simpa using hc
end
end Go.Proofs.YtgmmclcpfmnoiaaGreatDoor
