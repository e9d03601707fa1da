/-
  FramesChange, walked.
-/
import Derived.Test.YtgmmclcpfmnoiaaGreatDoorFrK
namespace Go.Proofs.YtgmmclcpfmnoiaaGreatDoor
open Go.RowKit
attribute [local go_sem high] eqVt_run

abbrev C6 (w : World) (r : Nat) (x : Vt) (lv sv : Value) : Prop :=
  w.cell? ⟨r, 0, none⟩ = some (.int .i64 x.kind) ∧ w.cell? ⟨r, 1, none⟩ = some (.int .i64 x.type.dims) ∧ w.cell? ⟨r, 2, none⟩ = some (strV x.type.name) ∧ w.cell? ⟨r, 3, none⟩ = some (.int .i64 x.at_) ∧ w.cell? ⟨r, 4, none⟩ = some lv ∧ w.cell? ⟨r, 5, none⟩ = some sv
abbrev C4 (w : World) (r : Nat) (x : Vt) : Prop :=
  w.cell? ⟨r, 0, none⟩ = some (.int .i64 x.kind) ∧ w.cell? ⟨r, 1, none⟩ = some (.int .i64 x.type.dims) ∧ w.cell? ⟨r, 2, none⟩ = some (strV x.type.name) ∧ w.cell? ⟨r, 3, none⟩ = some (.int .i64 x.at_)
/-- What lies in memory: the arguments, mine, changed, a twin. -/
structure LC (W w8 : World) (f g : Fr) (a b : Vt) (sw : Fr) (lv sv lv' sv' m1 m2 s1 s2 t1 t2 : Value) (x11 x12 x13 : Nat) : Prop where
  chg : Chg No W w8
  b0 : w8.heap[W.heap.size]? = some (.cells (frA f.self_ lv sv) 68 (0, 0))
  b1 : w8.heap[W.heap.size + 1]? = some (.cells (frA g.self_ lv' sv') 68 (0, 0))
  b2 : w8.heap[W.heap.size + 1 + 1]? = some (.cells (bx a) 65 (0, 0))
  b3 : w8.heap[W.heap.size + 1 + 1 + 1]? = some (.cells (bx b) 65 (0, 0))
  c1 : w8.heap[x11]? = some (.cells (frA f.self_ m1 m2) 68 (0, 0))
  c2 : w8.heap[x12]? = some (.cells (frA sw.self_ s1 s2) 68 (0, 0))
  c3 : w8.heap[x13]? = some (.cells (frA f.self_ t1 t2) 68 (0, 0))
  vf : VS w8 lv f.locals_ ∧ VS w8 sv f.stack
  vg : VS w8 lv' g.locals_ ∧ VS w8 sv' g.stack
  vm : VS w8 m1 f.locals_ ∧ VS w8 m2 f.stack
  vs : VS w8 s1 sw.locals_ ∧ VS w8 s2 sw.stack
  vt : VS w8 t1 f.locals_ ∧ VS w8 t2 f.stack
abbrev S38 (W : World) (f g : Fr) (a b : Vt) (sw : Fr) (lv sv lv' sv' m1 m2 s1 s2 t1 t2 : Value) (x11 x12 x13 : Nat) (w' : World) : Prop :=
  C6 w' W.heap.size f.self_ lv sv ∧ C6 w' (W.heap.size + 1) g.self_ lv' sv' ∧ C4 w' (W.heap.size + 1 + 1) a ∧ C4 w' (W.heap.size + 1 + 1 + 1) b ∧ C6 w' x11 f.self_ m1 m2 ∧ C6 w' x12 sw.self_ s1 s2 ∧ C6 w' x13 f.self_ t1 t2
theorem LC.cells {W w8 w' : World} {f g : Fr} {a b : Vt} {sw : Fr} {lv sv lv' sv' m1 m2 s1 s2 t1 t2 : Value} {x11 x12 x13 : Nat} (h : LC W w8 f g a b sw lv sv lv' sv' m1 m2 s1 s2 t1 t2 x11 x12 x13) (c : Chg No w8 w') : S38 W f g a b sw lv sv lv' sv' m1 m2 s1 s2 t1 t2 x11 x12 x13 w' :=
  ⟨(f6 (c.blk h.b0)).1, (f6 (c.blk h.b1)).1, b4 (c.blk h.b2), b4 (c.blk h.b3), (f6 (c.blk h.c1)).1, (f6 (c.blk h.c2)).1, (f6 (c.blk h.c3)).1⟩
/-- The arguments in memory. -/
abbrev A4 (w : World) (f g a b : Array Value) : World := (((w.alloc (.cells f 68)).alloc (.cells g 68)).alloc (.cells a 65)).alloc (.cells b 65)
theorem a4_blk {w wr : World} {f g a b : Array Value} (c : Chg No (A4 w f g a b) wr) : wr.heap[w.heap.size]? = some (.cells f 68 (0, 0)) ∧ wr.heap[w.heap.size + 1]? = some (.cells g 68 (0, 0)) ∧ wr.heap[w.heap.size + 1 + 1]? = some (.cells a 65 (0, 0)) ∧ wr.heap[w.heap.size + 1 + 1 + 1]? = some (.cells b 65 (0, 0)) :=
  ⟨c.blk (alloc_blk (alloc_blk (alloc_blk (alloc_at _ _ rfl)))), c.blk (alloc_blk (alloc_blk (alloc_at _ _ (by simp)))), c.blk (alloc_blk (alloc_at _ _ (by simp))), c.blk (alloc_at _ _ (by simp))⟩

attribute [local go_sem] undef
theorem dec_self (f : Fr) : decide (f = f) = true := by simp
set_option maxRecDepth 100000 in
set_option maxHeartbeats 3200000 in
theorem frChange_walk (W : World) (f g : Fr) (lv sv lv' sv' : Value) (s : Bs) (a b : Vt) (h1 : VS W lv f.locals_) (h2 : VS W sv f.stack) (h3 : VS W lv' g.locals_) (h4 : VS W sv' g.stack) (l1 : f.locals_.length ≤ maxLen) (l2 : f.stack.length ≤ maxLen) (l3 : g.locals_.length ≤ maxLen) (l4 : g.stack.length ≤ maxLen) (ls : s.length ≤ maxLen) :
    Calls Tryz.prog 6 #[frV f.self_ lv sv, frV g.self_ lv' sv', strV s, vtV a, vtV b] W fun e w' => e = .returned (.bool true) ∧ Chg No W w' := by
  obtain ⟨fs, fl, fk⟩ := f
  obtain ⟨gs, gl, gk⟩ := g
  simp only at h1 h2 h3 h4 l1 l2 l3 l4
  obtain ⟨a1, c1, hv1, -, -⟩ := h1.form
  obtain ⟨a2, c2, hv2, -, -⟩ := h2.form
  obtain ⟨a3, c3, hv3, -, -⟩ := h3.form
  obtain ⟨a4, c4, hv4, -, -⟩ := h4.form
  have H := Lib.hid (And.intro h1 (And.intro h2 (And.intro h3 h4))); clear h1 h2 h3 h4
  subst hv1; subst hv2; subst hv3; subst hv4
  have HL := Lib.hid (And.intro l1 (And.intro l2 (And.intro l3 (And.intro l4 ls))))
  unfold maxLen at l1 l2 ls
  clear l3 l4
  go_enter Tryz.func6, Tryz.ntmps6
  go_wp2_with fail
  refine (known8 _).mono ?_
  rintro e w1 ⟨rfl, d1⟩
  have B1 := Lib.hid (a4_blk d1)
  have C1 : RowKit.Hid (Chg No W w1) := Lib.hid (((((Chg.refl No W).alloc _).alloc _).alloc _).alloc _ |>.trans d1 (fun _ _ h => h))
  clear d1
  obtain ⟨⟨q0, q1, q2, q3, q4, q5⟩, -⟩ := f6 B1.out.1
  by_cases hA : 200 < fl.length
  · have hA' : (200 : Int) < (fl.length : Int) := by omega
    go_wp2
    go_ret
    exact ⟨rfl, C1.out⟩
  by_cases hB : 200 < fk.length
  · have hA' : ¬ ((200 : Int) < (fl.length : Int)) := by omega
    have hB' : (200 : Int) < (fk.length : Int) := by omega
    go_wp2
    go_ret
    exact ⟨rfl, C1.out⟩
  have hA' : ¬ ((200 : Int) < (fl.length : Int)) := by omega
  have hB' : ¬ ((200 : Int) < (fk.length : Int)) := by omega
  go_wp2_with fail
  refine (twin_ref w1 ⟨fs, fl, fk⟩ (.slice a1 fl.length c1) (.slice a2 fk.length c2) (H.out.1.new C1.out) (H.out.2.1.new C1.out) (by simp only; omega) (by simp only; omega)).mono ?_
  rintro e w2 ⟨m1, m2, rfl, o1, o2, d2, -, -⟩
  obtain ⟨na1, nc1, hm1⟩ := OQ.form o1
  obtain ⟨na2, nc2, hm2⟩ := OQ.form o2
  simp only at hm1 hm2
  subst hm1; subst hm2
  have E2 := Lib.hid (And.intro (VO.vs o1) (And.intro (VO.vs o2) d2))
  clear o1 o2 d2 q0 q1 q2 q3 q4 q5
  obtain ⟨p0, p1, p2, p3⟩ := b4 (x := a) (E2.out.2.2.blk B1.out.2.2.1)
  obtain ⟨r0, r1, r2, r3⟩ := b4 (x := b) (E2.out.2.2.blk B1.out.2.2.2)
  have z3 := heap_lt (E2.out.2.2.blk B1.out.2.2.2)
  have z2 : W.heap.size + 1 + 1 < w2.heap.size := by omega
  go_wp2_with fail
  have k11 : Chg No w2 (w2.alloc (.cells (frA fs (.slice na1 fl.length nc1) (.slice na2 fk.length nc2)) 68)) := (Chg.refl _ _).alloc _
  refine (swap_fr _ ⟨fs, fl, fk⟩ (.slice na1 fl.length nc1) (.slice na2 fk.length nc2) a b (E2.out.1.new k11) (E2.out.2.1.new k11) (by simp only; omega) (by simp only; omega)).mono ?_
  rintro e w3 ⟨s1, s2, rfl, o1, o2, d3, -, -⟩
  obtain ⟨nb1, nd1, hm1⟩ := OQ.form o1
  obtain ⟨nb2, nd2, hm2⟩ := OQ.form o2
  have hs1 : (swapF ⟨fs, fl, fk⟩ a b).locals_.length = fl.length := swapL_len _ _ _
  have hs2 : (swapF ⟨fs, fl, fk⟩ a b).stack.length = fk.length := swapL_len _ _ _
  rw [hs1] at hm1
  rw [hs2] at hm2
  subst hm1; subst hm2
  obtain ⟨sw, hsw⟩ : ∃ sw, sw = swapF ⟨fs, fl, fk⟩ a b := ⟨_, rfl⟩
  rw [← hsw] at o1 o2 hs1 hs2 ⊢
  have E3 := Lib.hid (And.intro (VO.vs o1) (And.intro (VO.vs o2) (And.intro (k11.trans d3 (fun _ _ h => h)) (And.intro hsw (And.intro hs1 hs2)))))
  have X11 : w3.heap[w2.heap.size]? = some (.cells (frA fs (.slice na1 fl.length nc1) (.slice na2 fk.length nc2)) 68 (0, 0)) := d3.blk (alloc_at _ _ rfl)
  obtain ⟨⟨q0, q1, q2, q3, q4, q5⟩, -⟩ := f6 X11
  have z11 := heap_lt X11
  have HX11 := Lib.hid X11
  clear o1 o2 d3 k11 hsw hs1 hs2 X11 p0 p1 p2 p3 r0 r1 r2 r3 z2 z3
  go_wp2_with fail
  have k12 : Chg No w3 (w3.alloc (.cells (frA sw.self_ (.slice nb1 fl.length nd1) (.slice nb2 fk.length nd2)) 68)) := (Chg.refl _ _).alloc _
  refine (twin_fr _ ⟨fs, fl, fk⟩ (.slice na1 fl.length nc1) (.slice na2 fk.length nc2) ((E2.out.1.new E3.out.2.2.1).new k12) ((E2.out.2.1.new E3.out.2.2.1).new k12) (by simp only; omega) (by simp only; omega)).mono ?_
  rintro e w4 ⟨t1, t2, rfl, o1, o2, d4, -, -⟩
  obtain ⟨ne1, ng1, hm1⟩ := OQ.form o1
  obtain ⟨ne2, ng2, hm2⟩ := OQ.form o2
  simp only at hm1 hm2
  subst hm1; subst hm2
  obtain ⟨w8, hw8⟩ : ∃ w8, w8 = w4.alloc (.cells (frA fs (.slice ne1 fl.length ng1) (.slice ne2 fk.length ng2)) 68) := ⟨_, rfl⟩
  have k13 : Chg No w4 w8 := by rw [hw8]; exact (Chg.refl _ _).alloc _
  have d34 : Chg No w3 w8 := (k12.trans d4 (fun _ _ h => h)).trans k13 (fun _ _ h => h)
  have d28 : Chg No w2 w8 := E3.out.2.2.1.trans d34 (fun _ _ h => h)
  have d18 : Chg No w1 w8 := E2.out.2.2.trans d28 (fun _ _ h => h)
  have dW8 : Chg No W w8 := C1.out.trans d18 (fun _ _ h => h)
  have L8 : RowKit.Hid (LC W w8 ⟨fs, fl, fk⟩ ⟨gs, gl, gk⟩ a b sw (.slice a1 fl.length c1) (.slice a2 fk.length c2) (.slice a3 gl.length c3) (.slice a4 gk.length c4) (.slice na1 fl.length nc1) (.slice na2 fk.length nc2) (.slice nb1 fl.length nd1) (.slice nb2 fk.length nd2) (.slice ne1 fl.length ng1) (.slice ne2 fk.length ng2) w2.heap.size w3.heap.size w4.heap.size) := Lib.hid {
    chg := dW8
    b0 := d18.blk B1.out.1, b1 := d18.blk B1.out.2.1, b2 := d18.blk B1.out.2.2.1, b3 := d18.blk B1.out.2.2.2
    c1 := d34.blk HX11.out
    c2 := k13.blk (d4.blk (alloc_at _ _ rfl))
    c3 := by rw [hw8]; exact alloc_at _ _ rfl
    vf := ⟨H.out.1.new dW8, H.out.2.1.new dW8⟩, vg := ⟨H.out.2.2.1.new dW8, H.out.2.2.2.new dW8⟩
    vm := ⟨E2.out.1.new d28, E2.out.2.1.new d28⟩, vs := ⟨E3.out.1.new d34, E3.out.2.1.new d34⟩
    vt := ⟨(VO.vs o1).new k13, (VO.vs o2).new k13⟩ }
  have HSW := Lib.hid (And.intro E3.out.2.2.2.1 (And.intro E3.out.2.2.2.2.1 E3.out.2.2.2.2.2))
  obtain ⟨x11, hx11⟩ : ∃ x, x = w2.heap.size := ⟨_, rfl⟩
  obtain ⟨x12, hx12⟩ : ∃ x, x = w3.heap.size := ⟨_, rfl⟩
  obtain ⟨x13, hx13⟩ : ∃ x, x = w4.heap.size := ⟨_, rfl⟩
  rw [← hx11, ← hx12, ← hx13] at L8
  clear o1 o2 d4 q0 q1 q2 q3 q4 q5 z11 k12 k13 d34 d28 d18 dW8 HX11 E2 E3 B1 C1 H
  go_wp2_with fail
  change Code.wp _ _ _ _ (w4.alloc (.cells (frA fs (.slice ne1 fl.length ng1) (.slice ne2 fk.length ng2)) 68))
  rw [← hw8, ← hx11, ← hx12, ← hx13]
  clear hw8 hx11 hx12 hx13
  have SW8 : RowKit.Hid (∀ w', Chg No w8 w' → C6 w' W.heap.size fs (.slice a1 fl.length c1) (.slice a2 fk.length c2) ∧ C6 w' (W.heap.size + 1) gs (.slice a3 gl.length c3) (.slice a4 gk.length c4) ∧ C4 w' (W.heap.size + 1 + 1) a ∧ C4 w' (W.heap.size + 1 + 1 + 1) b ∧ C6 w' x11 fs (.slice na1 fl.length nc1) (.slice na2 fk.length nc2) ∧ C6 w' x12 sw.self_ (.slice nb1 fl.length nd1) (.slice nb2 fk.length nd2) ∧ C6 w' x13 fs (.slice ne1 fl.length ng1) (.slice ne2 fk.length ng2)) := Lib.hid (fun w' c => L8.out.cells c)
  obtain ⟨q, hq⟩ : ∃ q, decide ((⟨fs, fl, fk⟩ : Fr) = ⟨gs, gl, gk⟩) = q := ⟨_, rfl⟩
  obtain ⟨z, hz⟩ : ∃ z, (!(fs.kind == 0)) = z := ⟨_, rfl⟩
  have HQ := Lib.hid hq
  have HZ := Lib.hid hz
  have CU := Lib.hid (Chg.refl No w8)
  have HR3 : RowKit.Hid (∀ w, Calls Tryz.prog 25 #[frV fs (.slice na1 fl.length nc1) (.slice na2 fk.length nc2)] w fun e w' => e = .returned (.bool z) ∧ Chg No w w') := Lib.hid (fun w => by have h := reached_c w fs (.slice na1 fl.length nc1) (.slice na2 fk.length nc2); rwa [hz] at h)
  have HR4 : RowKit.Hid (∀ w, Calls Tryz.prog 26 #[frV fs (.slice a1 fl.length c1) (.slice a2 fk.length c2)] w fun e w' => e = .returned (.bool z) ∧ Chg No w w') := Lib.hid (fun w => by have h := reached_ref w fs (.slice a1 fl.length c1) (.slice a2 fk.length c2); rwa [hz] at h)
  have tok1 : True := trivial
  clear hq hz
  go_region_held3 (fun w' => C6 w' W.heap.size fs (.slice a1 fl.length c1) (.slice a2 fk.length c2) ∧ C6 w' (W.heap.size + 1) gs (.slice a3 gl.length c3) (.slice a4 gk.length c4) ∧ C4 w' (W.heap.size + 1 + 1) a ∧ C4 w' (W.heap.size + 1 + 1 + 1) b ∧ C6 w' x11 fs (.slice na1 fl.length nc1) (.slice na2 fk.length nc2) ∧ C6 w' x12 sw.self_ (.slice nb1 fl.length nd1) (.slice nb2 fk.length nd2) ∧ C6 w' x13 fs (.slice ne1 fl.length ng1) (.slice ne2 fk.length ng2)) (first | (with_reducible exact SW8.out _ CU.out.drew) | (with_reducible exact SW8.out _ CU.out) | (trace_state; fail)) (first
    | (go_at_call 23; have _t := tok1; clear tok1; have h := same_fr _ ⟨fs, fl, fk⟩ ⟨gs, gl, gk⟩ (.slice na1 fl.length nc1) (.slice na2 fk.length nc2) (.slice a3 gl.length c3) (.slice a4 gk.length c4) (L8.out.vm.1.new CU.out.drew) (L8.out.vm.2.new CU.out.drew) (L8.out.vg.1.new CU.out.drew) (L8.out.vg.2.new CU.out.drew) HL.out.1 HL.out.2.1 HL.out.2.2.1 HL.out.2.2.2.1; rw [HQ.out] at h; refine h.mono ?_; clear h; rintro e wn ⟨rfl, d⟩; have CU := Lib.hid (CU.out.drew.trans d (fun _ _ h => h)); have tok2 : True := trivial; clear d)
    | (go_at_call 24; have _t := tok2; clear tok2; have h := same_ref _ ⟨fs, fl, fk⟩ ⟨gs, gl, gk⟩ (.slice a1 fl.length c1) (.slice a2 fk.length c2) (.slice a3 gl.length c3) (.slice a4 gk.length c4) (L8.out.vf.1.new CU.out) (L8.out.vf.2.new CU.out) (L8.out.vg.1.new CU.out) (L8.out.vg.2.new CU.out) HL.out.1 HL.out.2.1 HL.out.2.2.1 HL.out.2.2.2.1; rw [HQ.out] at h; refine h.mono ?_; clear h; rintro e wn ⟨rfl, d⟩; have CU := Lib.hid (CU.out.trans d (fun _ _ h => h)); have tok3 : True := trivial; clear d)
    | (go_at_call 25; have _t := tok3; clear tok3; refine (HR3.out _).mono ?_; rintro e wn ⟨rfl, d⟩; have CU := Lib.hid (CU.out.trans d (fun _ _ h => h)); have tok4 : True := trivial; clear d)
    | (go_at_call 26; have _t := tok4; clear tok4; refine (HR4.out _).mono ?_; rintro e wn ⟨rfl, d⟩; have CU := Lib.hid (CU.out.trans d (fun _ _ h => h)); have tok5 : True := trivial; clear d)
    | (go_at_call 27; have _t := tok5; clear tok5; have h := swap_ref _ ⟨fs, fl, fk⟩ (.slice a1 fl.length c1) (.slice a2 fk.length c2) a b (L8.out.vf.1.new CU.out) (L8.out.vf.2.new CU.out) (by simp only; omega) (by simp only; omega); rw [← HSW.out.1] at h; refine h.mono ?_; clear h; rintro e wn ⟨u1, u2, rfl, o1, o2, d, -, -⟩; obtain ⟨ua1, uc1, hu1⟩ := OQ.form o1; obtain ⟨ua2, uc2, hu2⟩ := OQ.form o2; rw [HSW.out.2.1] at hu1; rw [HSW.out.2.2] at hu2; subst hu1; subst hu2; have U := Lib.hid (And.intro (VO.vs o1) (VO.vs o2)); have CU := Lib.hid (CU.out.trans d (fun _ _ h => h)); have tok6 : True := trivial; clear d o1 o2)
    | (go_at_call 24; have _t := tok6; clear tok6; have h := same_ref _ sw sw (.slice nb1 fl.length nd1) (.slice nb2 fk.length nd2) (.slice ua1 fl.length uc1) (.slice ua2 fk.length uc2) (L8.out.vs.1.new CU.out) (L8.out.vs.2.new CU.out) U.out.1 U.out.2 (by rw [HSW.out.2.1]; exact HL.out.1) (by rw [HSW.out.2.2]; exact HL.out.2.1) (by rw [HSW.out.2.1]; exact HL.out.1) (by rw [HSW.out.2.2]; exact HL.out.2.1); rw [dec_self] at h; refine h.mono ?_; clear h; rintro e wn ⟨rfl, d⟩; have CU := Lib.hid (CU.out.trans d (fun _ _ h => h)); have tok7 : True := trivial; clear d)
    | (go_at_call 24; have _t := tok7; clear tok7; have h := same_ref _ ⟨fs, fl, fk⟩ ⟨fs, fl, fk⟩ (.slice ne1 fl.length ng1) (.slice ne2 fk.length ng2) (.slice a1 fl.length c1) (.slice a2 fk.length c2) (L8.out.vt.1.new CU.out) (L8.out.vt.2.new CU.out) (L8.out.vf.1.new CU.out) (L8.out.vf.2.new CU.out) HL.out.1 HL.out.2.1 HL.out.1 HL.out.2.1; rw [dec_self] at h; refine h.mono ?_; clear h; rintro e wn ⟨rfl, d⟩; have CU := Lib.hid (CU.out.trans d (fun _ _ h => h)); have tok8 : True := trivial; clear d)
    | (go_at_call 24; have _t := tok8; clear tok8; have h := same_ref _ ⟨fs, fl, fk⟩ ⟨fs, fl, fk⟩ (.slice na1 fl.length nc1) (.slice na2 fk.length nc2) (.slice a1 fl.length c1) (.slice a2 fk.length c2) (L8.out.vm.1.new CU.out) (L8.out.vm.2.new CU.out) (L8.out.vf.1.new CU.out) (L8.out.vf.2.new CU.out) HL.out.1 HL.out.2.1 HL.out.1 HL.out.2.1; rw [dec_self] at h; refine h.mono ?_; clear h; rintro e wn ⟨rfl, d⟩; have CU := Lib.hid (CU.out.trans d (fun _ _ h => h)); have tok9 : True := trivial; clear d))
  obtain ⟨o0, o1, o2, o3, o4, o5⟩ := (SW8.out _ CU.out).2.2.2.2.1
  have hl5 : W.heap.size < wn.heap.size := heap_lt (CU.out.blk L8.out.b0)
  clear HQ HSW U
  go_wp2_with fail
  refine (catch_fr wn ⟨fs, fl, fk⟩ (.slice na1 fl.length nc1) (.slice na2 fk.length nc2) s (L8.out.vm.1.new CU.out) (L8.out.vm.2.new CU.out) (by simp only; omega)).mono ?_
  rintro e w5 ⟨u1, u2, rfl, x1, x2, d5, -, -⟩
  obtain ⟨cf, hcf⟩ : ∃ cf, cf = catchF ⟨fs, fl, fk⟩ s := ⟨_, rfl⟩
  rw [← hcf] at x1 x2 ⊢
  obtain ⟨ua, uc, hu1⟩ := OQ.form x1
  obtain ⟨ub, ud, hu2⟩ := OQ.form x2
  subst hu1; subst hu2
  have hcl : cf.locals_.length ≤ 9223372036854775807 ∧ cf.stack.length ≤ 9223372036854775807 := by
    rw [hcf]; unfold catchF; split <;> simp <;> omega
  obtain ⟨w9, hw9⟩ : ∃ w9, w9 = w5.alloc (.cells (frA cf.self_ (.slice ua cf.locals_.length uc) (.slice ub cf.stack.length ud)) 68) := ⟨_, rfl⟩
  have k9 : Chg No w5 w9 := by rw [hw9]; exact (Chg.refl _ _).alloc _
  have k89 : Chg No w8 w9 := (CU.out.trans d5 (fun _ _ h => h)).trans k9 (fun _ _ h => h)
  have CF := Lib.hid (And.intro hcf hcl)
  obtain ⟨x15, hx15⟩ : ∃ x, x = w5.heap.size := ⟨_, rfl⟩
  have hb15 : w9.heap[x15]? = some (.cells (frA cf.self_ (.slice ua cf.locals_.length uc) (.slice ub cf.stack.length ud)) 68 (0, 0)) := by rw [hw9, hx15]; exact alloc_at _ _ rfl
  have V9 := Lib.hid (And.intro (And.intro (L8.out.vf.1.new k89) (L8.out.vf.2.new k89)) (And.intro (And.intro (L8.out.vm.1.new k89) (L8.out.vm.2.new k89)) (And.intro ((VO.vs x1).new k9) ((VO.vs x2).new k9))))
  have SW9 : RowKit.Hid (∀ w', Chg No w9 w' → C6 w' W.heap.size fs (.slice a1 fl.length c1) (.slice a2 fk.length c2) ∧ C6 w' x11 fs (.slice na1 fl.length nc1) (.slice na2 fk.length nc2) ∧ C6 w' x15 cf.self_ (.slice ua cf.locals_.length uc) (.slice ub cf.stack.length ud)) := Lib.hid (fun w' c => by
    have h := L8.out.cells (k89.trans c (fun _ _ h => h))
    exact ⟨h.1, h.2.2.2.2.1, (f6 (c.blk hb15)).1⟩)
  have CW9 := Lib.hid (L8.out.chg.trans k89 (fun _ _ h => h))
  have S5 := Lib.hid (And.intro (L8.out.cells (CU.out.trans d5 (fun _ _ h => h))).1 (And.intro (L8.out.cells (CU.out.trans d5 (fun _ _ h => h))).2.2.2.2.1 (And.intro (heap_lt ((CU.out.trans d5 (fun _ _ h => h)).blk L8.out.b0)) (heap_lt ((CU.out.trans d5 (fun _ _ h => h)).blk L8.out.c1)))))
  clear o0 o1 o2 o3 o4 o5 x1 x2 d5 k9 k89 hcf hcl hb15 SW8 CU HR3 L8 hl5
  go_wp2_with fail
  refine (name_ref _ s (by have := HL.out.2.2.2.2; unfold maxLen at this; omega)).mono ?_
  rintro e w10 ⟨he, rfl⟩
  cases hb : nameB s with
  | false =>
    rw [hb] at he
    subst he
    have HB := Lib.hid hb; clear hb
    subst hw9
    obtain ⟨⟨b0, b1, b2, b3, b4, b5⟩, ⟨m0, m1, m2, m3, m4, m5⟩, y1, y2⟩ := S5.out
    clear hx15
    go_wp2_with fail
    have h := same_ref _ ⟨fs, fl, fk⟩ ⟨fs, fl, fk⟩ (.slice na1 fl.length nc1) (.slice na2 fk.length nc2) (.slice a1 fl.length c1) (.slice a2 fk.length c2) V9.out.2.1.1 V9.out.2.1.2 V9.out.1.1 V9.out.1.2 HL.out.1 HL.out.2.1 HL.out.1 HL.out.2.1
    rw [dec_self] at h
    refine h.mono ?_
    clear h
    rintro e w11 ⟨rfl, d⟩
    have CE := Lib.hid (CW9.out.trans d (fun _ _ h => h))
    clear b0 b1 b2 b3 b4 b5 m0 m1 m2 m3 m4 m5 d
    go_wp2
    go_ret
    exact ⟨rfl, CE.out⟩
  | true =>
    rw [hb] at he
    subst he
    have HB := Lib.hid hb; clear hb
    go_wp2_with fail
    change Code.wp _ _ _ _ (w5.alloc (.cells (frA cf.self_ (.slice ua cf.locals_.length uc) (.slice ub cf.stack.length ud)) 68))
    rw [← hw9, ← hx15]
    clear hw9 hx15
    have hsne : s ≠ [] := by
      intro e
      have h := HB.out
      rw [e] at h
      simp [nameB] at h
    have CU := Lib.hid (Chg.refl No w9)
    cases z with
    | false =>
      have hcz : decide (cf = zFr) = true := by
        rw [CF.out.1]; unfold catchF
        rw [if_pos (by have := HZ.out; simpa using this)]; simp
      have HCF := Lib.hid hcz
      clear hcz hsne
      have tok1 : True := trivial
      refine wp_region_held_drew (S := (fun w' => C6 w' W.heap.size fs (.slice a1 fl.length c1) (.slice a2 fk.length c2) ∧ C6 w' x11 fs (.slice na1 fl.length nc1) (.slice na2 fk.length nc2) ∧ C6 w' x15 cf.self_ (.slice ua cf.locals_.length uc) (.slice ub cf.stack.length ud))) (by kernel_rfl) (by (try dsimp only); first | (with_reducible exact SW9.out _ CU.out.drew) | (with_reducible exact SW9.out _ CU.out) | (trace_state; fail)) (fun hHeld => ?_)
      refine wpAnyH_take (i := 0) (v := ?_) rfl (by kernel_rfl) (by kernel_rfl) (by kernel_rfl) (fun _ _ _ h => h) (Or.inl ⟨by rfl, ?_⟩) (by assumption) ?_
      rotate_left
      · (intro w hSw; (try dsimp only at hSw); (try simp only [List.getElem_toArray, List.getElem_cons_succ, List.getElem_cons_zero]); go_simp; try with_reducible rfl)
      (try simp only [Act.put, List.getElem_toArray, List.getElem_cons_succ, List.getElem_cons_zero, List.setIfInBounds_toArray, List.set_cons_zero, List.set_cons_succ])
      refine wpAnyH_take (i := 1) (v := ?_) rfl (by kernel_rfl) (by kernel_rfl) (by kernel_rfl) (fun _ _ _ h => h) (Or.inl ⟨by rfl, ?_⟩) (by assumption) ?_
      rotate_left
      · (intro w hSw; (try dsimp only at hSw); (try simp only [List.getElem_toArray, List.getElem_cons_succ, List.getElem_cons_zero]); go_simp; try with_reducible rfl)
      (try simp only [Act.put, List.getElem_toArray, List.getElem_cons_succ, List.getElem_cons_zero, List.setIfInBounds_toArray, List.set_cons_zero, List.set_cons_succ])
      refine wpAnyH_take (i := 2) (v := ?_) rfl (by kernel_rfl) (by kernel_rfl) (by kernel_rfl) (fun _ _ _ h => h) (Or.inl ⟨by rfl, ?_⟩) (by assumption) ?_
      rotate_left
      · (intro w hSw; (try dsimp only at hSw); (try simp only [List.getElem_toArray, List.getElem_cons_succ, List.getElem_cons_zero]); go_simp; try with_reducible rfl)
      (try simp only [Act.put, List.getElem_toArray, List.getElem_cons_succ, List.getElem_cons_zero, List.setIfInBounds_toArray, List.set_cons_zero, List.set_cons_succ])
      refine wpAnyH_ready (rs := [3]) (by kernel_rfl) (by simp) ?_
      refine AllReadyH.cons rfl (fun K hK => ?_) AllReadyH.nil
      (try simp only [List.getElem_toArray, List.getElem_cons_succ, List.getElem_cons_zero])
      go_simp
      (go_at_call 26; have _t := tok1; clear tok1; refine (HR4.out _).mono ?_; rintro e wn ⟨rfl, d⟩; have CU := Lib.hid (CU.out.drew.trans d (fun _ _ h => h)); have tok2 : True := trivial; clear d)
      go_wp2_with fail
      clear hHeld
      refine hK.out _ _ (by (try dsimp only); first | (with_reducible exact SW9.out _ CU.out.drew) | (with_reducible exact SW9.out _ CU.out) | (trace_state; fail)) (fun hHeld => ?_)
      clear hK K
      (try simp only [Act.put, List.getElem_toArray, List.getElem_cons_succ, List.getElem_cons_zero, List.setIfInBounds_toArray, List.set_cons_zero, List.set_cons_succ])
      refine wpAnyH_take (i := 4) (v := ?_) rfl (by kernel_rfl) (by kernel_rfl) (by kernel_rfl) (fun _ _ _ h => h) (Or.inl ⟨by rfl, ?_⟩) (by assumption) ?_
      rotate_left
      · (intro w hSw; (try dsimp only at hSw); (try simp only [List.getElem_toArray, List.getElem_cons_succ, List.getElem_cons_zero]); go_simp; try with_reducible rfl)
      (try simp only [Act.put, List.getElem_toArray, List.getElem_cons_succ, List.getElem_cons_zero, List.setIfInBounds_toArray, List.set_cons_zero, List.set_cons_succ])
      refine wpAnyH_take (i := 5) (v := ?_) rfl (by kernel_rfl) (by kernel_rfl) (by kernel_rfl) (fun _ _ _ h => h) (Or.inl ⟨by rfl, ?_⟩) (by assumption) ?_
      rotate_left
      · (intro w hSw; (try dsimp only at hSw); (try simp only [List.getElem_toArray, List.getElem_cons_succ, List.getElem_cons_zero]); go_simp; try with_reducible rfl)
      (try simp only [Act.put, List.getElem_toArray, List.getElem_cons_succ, List.getElem_cons_zero, List.setIfInBounds_toArray, List.set_cons_zero, List.set_cons_succ])
      refine wpAnyH_take (i := 6) (v := ?_) rfl (by kernel_rfl) (by kernel_rfl) (by kernel_rfl) (fun _ _ _ h => h) (Or.inl ⟨by rfl, ?_⟩) (by assumption) ?_
      rotate_left
      · (intro w hSw; (try dsimp only at hSw); (try simp only [List.getElem_toArray, List.getElem_cons_succ, List.getElem_cons_zero]); go_simp; try with_reducible rfl)
      (try simp only [Act.put, List.getElem_toArray, List.getElem_cons_succ, List.getElem_cons_zero, List.setIfInBounds_toArray, List.set_cons_zero, List.set_cons_succ])
      refine wpAnyH_take (i := 7) (v := ?_) rfl (by kernel_rfl) (by kernel_rfl) (by kernel_rfl) (fun _ _ _ h => h) (Or.inl ⟨by rfl, ?_⟩) (by assumption) ?_
      rotate_left
      · (intro w hSw; (try dsimp only at hSw); (try simp only [List.getElem_toArray, List.getElem_cons_succ, List.getElem_cons_zero]); go_simp; try with_reducible rfl)
      (try simp only [Act.put, List.getElem_toArray, List.getElem_cons_succ, List.getElem_cons_zero, List.setIfInBounds_toArray, List.set_cons_zero, List.set_cons_succ])
      refine wpAnyH_ready (rs := [8]) (by kernel_rfl) (by simp) ?_
      refine AllReadyH.cons rfl (fun K hK => ?_) AllReadyH.nil
      (try simp only [List.getElem_toArray, List.getElem_cons_succ, List.getElem_cons_zero])
      go_simp
      (go_at_call 24; have _t := tok2; clear tok2; have h := same_ref _ cf zFr (.slice ua cf.locals_.length uc) (.slice ub cf.stack.length ud) zNil zNil (V9.out.2.2.1.new CU.out) (V9.out.2.2.2.new CU.out) (vs_nil _) (vs_nil _) CF.out.2.1 CF.out.2.2 (by unfold maxLen; simp) (by unfold maxLen; simp); rw [HCF.out] at h; refine h.mono ?_; clear h; rintro e wn ⟨rfl, d⟩; have CU := Lib.hid (CU.out.trans d (fun _ _ h => h)); have tokZ : True := trivial; clear d)
      go_wp2_with fail
      clear hHeld
      refine hK.out _ _ (by (try dsimp only); first | (with_reducible exact SW9.out _ CU.out.drew) | (with_reducible exact SW9.out _ CU.out) | (trace_state; fail)) (fun hHeld => ?_)
      clear hK K
      (try simp only [Act.put, List.getElem_toArray, List.getElem_cons_succ, List.getElem_cons_zero, List.setIfInBounds_toArray, List.set_cons_zero, List.set_cons_succ])
      refine wpAnyH_take (i := 9) (v := ?_) rfl (by kernel_rfl) (by kernel_rfl) (by kernel_rfl) (fun _ _ _ h => h) (Or.inl ⟨by rfl, ?_⟩) (by assumption) ?_
      rotate_left
      · (intro w hSw; (try dsimp only at hSw); (try simp only [List.getElem_toArray, List.getElem_cons_succ, List.getElem_cons_zero]); go_simp; try with_reducible rfl)
      (try simp only [Act.put, List.getElem_toArray, List.getElem_cons_succ, List.getElem_cons_zero, List.setIfInBounds_toArray, List.set_cons_zero, List.set_cons_succ])
      refine wpAnyH_take (i := 10) (v := ?_) rfl (by kernel_rfl) (by kernel_rfl) (by kernel_rfl) (fun _ _ _ h => h) (Or.inl ⟨by rfl, ?_⟩) (by assumption) ?_
      rotate_left
      · (intro w hSw; (try dsimp only at hSw); (try simp only [List.getElem_toArray, List.getElem_cons_succ, List.getElem_cons_zero]); go_simp; try with_reducible rfl)
      (try simp only [Act.put, List.getElem_toArray, List.getElem_cons_succ, List.getElem_cons_zero, List.setIfInBounds_toArray, List.set_cons_zero, List.set_cons_succ])
      refine wpAnyH_take (i := 11) (v := undef) rfl (by kernel_rfl) (by kernel_rfl) (by kernel_rfl) (fun _ _ _ h => h) (Or.inr ⟨by rfl, rfl⟩) (by assumption) ?_
      (try simp only [Act.put, List.getElem_toArray, List.getElem_cons_succ, List.getElem_cons_zero, List.setIfInBounds_toArray, List.set_cons_zero, List.set_cons_succ])
      refine wpAnyH_ready (rs := [12]) (by kernel_rfl) (by simp) ?_
      refine AllReadyH.cons rfl (fun K hK => ?_) AllReadyH.nil
      (try simp only [List.getElem_toArray, List.getElem_cons_succ, List.getElem_cons_zero])
      go_simp
      clear hHeld
      refine hK.out _ _ (by (try dsimp only); first | (with_reducible exact SW9.out _ CU.out.drew) | (with_reducible exact SW9.out _ CU.out) | (trace_state; fail)) (fun hHeld => ?_)
      clear hK K
      (try simp only [Act.put, List.getElem_toArray, List.getElem_cons_succ, List.getElem_cons_zero, List.setIfInBounds_toArray, List.set_cons_zero, List.set_cons_succ])
      refine wpAnyH_take (i := 13) (v := undef) rfl (by kernel_rfl) (by kernel_rfl) (by kernel_rfl) (fun _ _ _ h => h) (Or.inr ⟨by rfl, rfl⟩) (by assumption) ?_
      (try simp only [Act.put, List.getElem_toArray, List.getElem_cons_succ, List.getElem_cons_zero, List.setIfInBounds_toArray, List.set_cons_zero, List.set_cons_succ])
      refine wpAnyH_take (i := 14) (v := undef) rfl (by kernel_rfl) (by kernel_rfl) (by kernel_rfl) (fun _ _ _ h => h) (Or.inr ⟨by rfl, rfl⟩) (by assumption) ?_
      (try simp only [Act.put, List.getElem_toArray, List.getElem_cons_succ, List.getElem_cons_zero, List.setIfInBounds_toArray, List.set_cons_zero, List.set_cons_succ])
      refine wpAnyH_take (i := 15) (v := undef) rfl (by kernel_rfl) (by kernel_rfl) (by kernel_rfl) (fun _ _ _ h => h) (Or.inr ⟨by rfl, rfl⟩) (by assumption) ?_
      (try simp only [Act.put, List.getElem_toArray, List.getElem_cons_succ, List.getElem_cons_zero, List.setIfInBounds_toArray, List.set_cons_zero, List.set_cons_succ])
      refine wpAnyH_take (i := 16) (v := undef) rfl (by kernel_rfl) (by kernel_rfl) (by kernel_rfl) (fun _ _ _ h => h) (Or.inr ⟨by rfl, rfl⟩) (by assumption) ?_
      (try simp only [Act.put, List.getElem_toArray, List.getElem_cons_succ, List.getElem_cons_zero, List.setIfInBounds_toArray, List.set_cons_zero, List.set_cons_succ])
      refine wpAnyH_ready (rs := [17]) (by kernel_rfl) (by simp) ?_
      refine AllReadyH.cons rfl (fun K hK => ?_) AllReadyH.nil
      (try simp only [List.getElem_toArray, List.getElem_cons_succ, List.getElem_cons_zero])
      go_simp
      clear hHeld
      refine hK.out _ _ (by (try dsimp only); first | (with_reducible exact SW9.out _ CU.out.drew) | (with_reducible exact SW9.out _ CU.out) | (trace_state; fail)) (fun hHeld => ?_)
      clear hK K
      (try simp only [Act.put, List.getElem_toArray, List.getElem_cons_succ, List.getElem_cons_zero, List.setIfInBounds_toArray, List.set_cons_zero, List.set_cons_succ])
      refine wpAnyH_ready (rs := [18]) (by kernel_rfl) (by simp) ?_
      refine AllReadyH.cons rfl (fun K hK => ?_) AllReadyH.nil
      (try simp only [List.getElem_toArray, List.getElem_cons_succ, List.getElem_cons_zero])
      go_simp
      clear hHeld
      refine hK.out _ _ (by (try dsimp only); first | (with_reducible exact SW9.out _ CU.out.drew) | (with_reducible exact SW9.out _ CU.out) | (trace_state; fail)) (fun hHeld => ?_)
      clear hK K
      (try simp only [Act.put, List.getElem_toArray, List.getElem_cons_succ, List.getElem_cons_zero, List.setIfInBounds_toArray, List.set_cons_zero, List.set_cons_succ])
      refine wpAnyH_take (i := 19) (v := undef) rfl (by kernel_rfl) (by kernel_rfl) (by kernel_rfl) (fun _ _ _ h => h) (Or.inr ⟨by rfl, rfl⟩) (by assumption) ?_
      (try simp only [Act.put, List.getElem_toArray, List.getElem_cons_succ, List.getElem_cons_zero, List.setIfInBounds_toArray, List.set_cons_zero, List.set_cons_succ])
      refine wpAnyH_take (i := 20) (v := ?_) rfl (by kernel_rfl) (by kernel_rfl) (by kernel_rfl) (fun _ _ _ h => h) (Or.inl ⟨by rfl, ?_⟩) (by assumption) ?_
      rotate_left
      · (intro w hSw; (try dsimp only at hSw); (try simp only [List.getElem_toArray, List.getElem_cons_succ, List.getElem_cons_zero]); go_simp; try with_reducible rfl)
      (try simp only [Act.put, List.getElem_toArray, List.getElem_cons_succ, List.getElem_cons_zero, List.setIfInBounds_toArray, List.set_cons_zero, List.set_cons_succ])
      refine wpAnyH_take (i := 21) (v := ?_) rfl (by kernel_rfl) (by kernel_rfl) (by kernel_rfl) (fun _ _ _ h => h) (Or.inl ⟨by rfl, ?_⟩) (by assumption) ?_
      rotate_left
      · (intro w hSw; (try dsimp only at hSw); (try simp only [List.getElem_toArray, List.getElem_cons_succ, List.getElem_cons_zero]); go_simp; try with_reducible rfl)
      (try simp only [Act.put, List.getElem_toArray, List.getElem_cons_succ, List.getElem_cons_zero, List.setIfInBounds_toArray, List.set_cons_zero, List.set_cons_succ])
      refine wpAnyH_take (i := 22) (v := ?_) rfl (by kernel_rfl) (by kernel_rfl) (by kernel_rfl) (fun _ _ _ h => h) (Or.inl ⟨by rfl, ?_⟩) (by assumption) ?_
      rotate_left
      · (intro w hSw; (try dsimp only at hSw); (try simp only [List.getElem_toArray, List.getElem_cons_succ, List.getElem_cons_zero]); go_simp; try with_reducible rfl)
      (try simp only [Act.put, List.getElem_toArray, List.getElem_cons_succ, List.getElem_cons_zero, List.setIfInBounds_toArray, List.set_cons_zero, List.set_cons_succ])
      refine wpAnyH_take (i := 23) (v := ?_) rfl (by kernel_rfl) (by kernel_rfl) (by kernel_rfl) (fun _ _ _ h => h) (Or.inl ⟨by rfl, ?_⟩) (by assumption) ?_
      rotate_left
      · (intro w hSw; (try dsimp only at hSw); (try simp only [List.getElem_toArray, List.getElem_cons_succ, List.getElem_cons_zero]); go_simp; try with_reducible rfl)
      (try simp only [Act.put, List.getElem_toArray, List.getElem_cons_succ, List.getElem_cons_zero, List.setIfInBounds_toArray, List.set_cons_zero, List.set_cons_succ])
      refine wpAnyH_take (i := 24) (v := ?_) rfl (by kernel_rfl) (by kernel_rfl) (by kernel_rfl) (fun _ _ _ h => h) (Or.inl ⟨by rfl, ?_⟩) (by assumption) ?_
      rotate_left
      · (intro w hSw; (try dsimp only at hSw); (try simp only [List.getElem_toArray, List.getElem_cons_succ, List.getElem_cons_zero]); go_simp; try with_reducible rfl)
      (try simp only [Act.put, List.getElem_toArray, List.getElem_cons_succ, List.getElem_cons_zero, List.setIfInBounds_toArray, List.set_cons_zero, List.set_cons_succ])
      refine wpAnyH_ready (rs := [25]) (by kernel_rfl) (by simp) ?_
      refine AllReadyH.cons rfl (fun K hK => ?_) AllReadyH.nil
      (try simp only [List.getElem_toArray, List.getElem_cons_succ, List.getElem_cons_zero])
      go_simp
      (go_at_call 24; have _t := tokZ; clear tokZ; have h := same_ref _ ⟨fs, fl, fk⟩ ⟨fs, fl, fk⟩ (.slice na1 fl.length nc1) (.slice na2 fk.length nc2) (.slice a1 fl.length c1) (.slice a2 fk.length c2) (V9.out.2.1.1.new CU.out) (V9.out.2.1.2.new CU.out) (V9.out.1.1.new CU.out) (V9.out.1.2.new CU.out) HL.out.1 HL.out.2.1 HL.out.1 HL.out.2.1; rw [dec_self] at h; refine h.mono ?_; clear h; rintro e wn ⟨rfl, d⟩; have CU := Lib.hid (CU.out.trans d (fun _ _ h => h)); clear d)
      go_wp2_with fail
      clear hHeld
      refine hK.out _ _ (by (try dsimp only); first | (with_reducible exact SW9.out _ CU.out.drew) | (with_reducible exact SW9.out _ CU.out) | (trace_state; fail)) (fun hHeld => ?_)
      clear hK K
      (try simp only [Act.put, List.getElem_toArray, List.getElem_cons_succ, List.getElem_cons_zero, List.setIfInBounds_toArray, List.set_cons_zero, List.set_cons_succ])
      refine wpAnyH_take (i := 26) (v := ?_) rfl (by kernel_rfl) (by kernel_rfl) (by kernel_rfl) (fun _ _ _ h => h) (Or.inl ⟨by rfl, ?_⟩) (by assumption) ?_
      rotate_left
      · (intro w hSw; (try dsimp only at hSw); (try simp only [List.getElem_toArray, List.getElem_cons_succ, List.getElem_cons_zero]); go_simp; try with_reducible rfl)
      (try simp only [Act.put, List.getElem_toArray, List.getElem_cons_succ, List.getElem_cons_zero, List.setIfInBounds_toArray, List.set_cons_zero, List.set_cons_succ])
      refine wpAnyH_take (i := 27) (v := ?_) rfl (by kernel_rfl) (by kernel_rfl) (by kernel_rfl) (fun _ _ _ h => h) (Or.inl ⟨by rfl, ?_⟩) (by assumption) ?_
      rotate_left
      · (intro w hSw; (try dsimp only at hSw); (try simp only [List.getElem_toArray, List.getElem_cons_succ, List.getElem_cons_zero]); go_simp; try with_reducible rfl)
      (try simp only [Act.put, List.getElem_toArray, List.getElem_cons_succ, List.getElem_cons_zero, List.setIfInBounds_toArray, List.set_cons_zero, List.set_cons_succ])
      refine wpAnyH_done (by kernel_rfl) ?_ _
      all_goals
        go_wp2
        go_ret
        exact ⟨rfl, CW9.out.trans CU.out (fun _ _ h => h)⟩
    | true =>
      have hk : (fs.kind == 0) = false := by have := HZ.out; simpa using this
      have hcz : decide (cf = (⟨fs, fl, [⟨3, ⟨0, s⟩, 0⟩]⟩ : Fr)) = true := by
        rw [CF.out.1]; unfold catchF
        rw [if_neg (by simpa using hk)]
        unfold ofT
        rw [if_neg (by intro e; cases e; exact hsne rfl)]; simp
      have HCF := Lib.hid hcz
      have HK := Lib.hid hk
      clear hcz hsne hk
      have tok1 : True := trivial
      refine wp_region_held_drew (S := (fun w' => C6 w' W.heap.size fs (.slice a1 fl.length c1) (.slice a2 fk.length c2) ∧ C6 w' x11 fs (.slice na1 fl.length nc1) (.slice na2 fk.length nc2) ∧ C6 w' x15 cf.self_ (.slice ua cf.locals_.length uc) (.slice ub cf.stack.length ud))) (by kernel_rfl) (by (try dsimp only); first | (with_reducible exact SW9.out _ CU.out.drew) | (with_reducible exact SW9.out _ CU.out) | (trace_state; fail)) (fun hHeld => ?_)
      refine wpAnyH_take (i := 0) (v := ?_) rfl (by kernel_rfl) (by kernel_rfl) (by kernel_rfl) (fun _ _ _ h => h) (Or.inl ⟨by rfl, ?_⟩) (by assumption) ?_
      rotate_left
      · (intro w hSw; (try dsimp only at hSw); (try simp only [List.getElem_toArray, List.getElem_cons_succ, List.getElem_cons_zero]); go_simp; try with_reducible rfl)
      (try simp only [Act.put, List.getElem_toArray, List.getElem_cons_succ, List.getElem_cons_zero, List.setIfInBounds_toArray, List.set_cons_zero, List.set_cons_succ])
      refine wpAnyH_take (i := 1) (v := ?_) rfl (by kernel_rfl) (by kernel_rfl) (by kernel_rfl) (fun _ _ _ h => h) (Or.inl ⟨by rfl, ?_⟩) (by assumption) ?_
      rotate_left
      · (intro w hSw; (try dsimp only at hSw); (try simp only [List.getElem_toArray, List.getElem_cons_succ, List.getElem_cons_zero]); go_simp; try with_reducible rfl)
      (try simp only [Act.put, List.getElem_toArray, List.getElem_cons_succ, List.getElem_cons_zero, List.setIfInBounds_toArray, List.set_cons_zero, List.set_cons_succ])
      refine wpAnyH_take (i := 2) (v := ?_) rfl (by kernel_rfl) (by kernel_rfl) (by kernel_rfl) (fun _ _ _ h => h) (Or.inl ⟨by rfl, ?_⟩) (by assumption) ?_
      rotate_left
      · (intro w hSw; (try dsimp only at hSw); (try simp only [List.getElem_toArray, List.getElem_cons_succ, List.getElem_cons_zero]); go_simp; try with_reducible rfl)
      (try simp only [Act.put, List.getElem_toArray, List.getElem_cons_succ, List.getElem_cons_zero, List.setIfInBounds_toArray, List.set_cons_zero, List.set_cons_succ])
      refine wpAnyH_ready (rs := [3]) (by kernel_rfl) (by simp) ?_
      refine AllReadyH.cons rfl (fun K hK => ?_) AllReadyH.nil
      (try simp only [List.getElem_toArray, List.getElem_cons_succ, List.getElem_cons_zero])
      go_simp
      (go_at_call 26; have _t := tok1; clear tok1; refine (HR4.out _).mono ?_; rintro e wn ⟨rfl, d⟩; have CU := Lib.hid (CU.out.drew.trans d (fun _ _ h => h)); have tok2 : True := trivial; clear d)
      go_wp2_with fail
      clear hHeld
      refine hK.out _ _ (by (try dsimp only); first | (with_reducible exact SW9.out _ CU.out.drew) | (with_reducible exact SW9.out _ CU.out) | (trace_state; fail)) (fun hHeld => ?_)
      clear hK K
      (try simp only [Act.put, List.getElem_toArray, List.getElem_cons_succ, List.getElem_cons_zero, List.setIfInBounds_toArray, List.set_cons_zero, List.set_cons_succ])
      refine wpAnyH_take (i := 4) (v := ?_) rfl (by kernel_rfl) (by kernel_rfl) (by kernel_rfl) (fun _ _ _ h => h) (Or.inl ⟨by rfl, ?_⟩) (by assumption) ?_
      rotate_left
      · (intro w hSw; (try dsimp only at hSw); (try simp only [List.getElem_toArray, List.getElem_cons_succ, List.getElem_cons_zero]); go_simp; try with_reducible rfl)
      (try simp only [Act.put, List.getElem_toArray, List.getElem_cons_succ, List.getElem_cons_zero, List.setIfInBounds_toArray, List.set_cons_zero, List.set_cons_succ])
      refine wpAnyH_take (i := 5) (v := ?_) rfl (by kernel_rfl) (by kernel_rfl) (by kernel_rfl) (fun _ _ _ h => h) (Or.inl ⟨by rfl, ?_⟩) (by assumption) ?_
      rotate_left
      · (intro w hSw; (try dsimp only at hSw); (try simp only [List.getElem_toArray, List.getElem_cons_succ, List.getElem_cons_zero]); go_simp; try with_reducible rfl)
      (try simp only [Act.put, List.getElem_toArray, List.getElem_cons_succ, List.getElem_cons_zero, List.setIfInBounds_toArray, List.set_cons_zero, List.set_cons_succ])
      refine wpAnyH_take (i := 6) (v := undef) rfl (by kernel_rfl) (by kernel_rfl) (by kernel_rfl) (fun _ _ _ h => h) (Or.inr ⟨by rfl, rfl⟩) (by assumption) ?_
      (try simp only [Act.put, List.getElem_toArray, List.getElem_cons_succ, List.getElem_cons_zero, List.setIfInBounds_toArray, List.set_cons_zero, List.set_cons_succ])
      refine wpAnyH_take (i := 7) (v := undef) rfl (by kernel_rfl) (by kernel_rfl) (by kernel_rfl) (fun _ _ _ h => h) (Or.inr ⟨by rfl, rfl⟩) (by assumption) ?_
      (try simp only [Act.put, List.getElem_toArray, List.getElem_cons_succ, List.getElem_cons_zero, List.setIfInBounds_toArray, List.set_cons_zero, List.set_cons_succ])
      refine wpAnyH_ready (rs := [8]) (by kernel_rfl) (by simp) ?_
      refine AllReadyH.cons rfl (fun K hK => ?_) AllReadyH.nil
      (try simp only [List.getElem_toArray, List.getElem_cons_succ, List.getElem_cons_zero])
      go_simp
      clear hHeld
      refine hK.out _ _ (by (try dsimp only); first | (with_reducible exact SW9.out _ CU.out.drew) | (with_reducible exact SW9.out _ CU.out) | (trace_state; fail)) (fun hHeld => ?_)
      clear hK K
      (try simp only [Act.put, List.getElem_toArray, List.getElem_cons_succ, List.getElem_cons_zero, List.setIfInBounds_toArray, List.set_cons_zero, List.set_cons_succ])
      refine wpAnyH_take (i := 9) (v := ?_) rfl (by kernel_rfl) (by kernel_rfl) (by kernel_rfl) (fun _ _ _ h => h) (Or.inl ⟨by rfl, ?_⟩) (by assumption) ?_
      rotate_left
      · (intro w hSw; (try dsimp only at hSw); (try simp only [List.getElem_toArray, List.getElem_cons_succ, List.getElem_cons_zero]); go_simp; try with_reducible rfl)
      (try simp only [Act.put, List.getElem_toArray, List.getElem_cons_succ, List.getElem_cons_zero, List.setIfInBounds_toArray, List.set_cons_zero, List.set_cons_succ])
      refine wpAnyH_take (i := 10) (v := ?_) rfl (by kernel_rfl) (by kernel_rfl) (by kernel_rfl) (fun _ _ _ h => h) (Or.inl ⟨by rfl, ?_⟩) (by assumption) ?_
      rotate_left
      · (intro w hSw; (try dsimp only at hSw); (try simp only [List.getElem_toArray, List.getElem_cons_succ, List.getElem_cons_zero]); go_simp; try with_reducible rfl)
      (try simp only [Act.put, List.getElem_toArray, List.getElem_cons_succ, List.getElem_cons_zero, List.setIfInBounds_toArray, List.set_cons_zero, List.set_cons_succ])
      refine wpAnyH_take (i := 11) (v := ?_) rfl (by kernel_rfl) (by kernel_rfl) (by kernel_rfl) (fun _ _ _ h => h) (Or.inl ⟨by rfl, ?_⟩) (by assumption) ?_
      rotate_left
      · (intro w hSw; (try dsimp only at hSw); (try simp only [List.getElem_toArray, List.getElem_cons_succ, List.getElem_cons_zero]); go_simp; try with_reducible rfl)
      (try simp only [Act.put, List.getElem_toArray, List.getElem_cons_succ, List.getElem_cons_zero, List.setIfInBounds_toArray, List.set_cons_zero, List.set_cons_succ])
      refine wpAnyH_ready (rs := [12]) (by kernel_rfl) (by simp) ?_
      refine AllReadyH.cons rfl (fun K hK => ?_) AllReadyH.nil
      (try simp only [List.getElem_toArray, List.getElem_cons_succ, List.getElem_cons_zero])
      go_simp
      (go_at_call 26; have _t := tok2; clear tok2; refine (HR4.out _).mono ?_; rintro e wn ⟨rfl, d⟩; have CU := Lib.hid (CU.out.trans d (fun _ _ h => h)); have tok3 : True := trivial; clear d)
      go_wp2_with fail
      clear hHeld
      refine hK.out _ _ (by (try dsimp only); first | (with_reducible exact SW9.out _ CU.out.drew) | (with_reducible exact SW9.out _ CU.out) | (trace_state; fail)) (fun hHeld => ?_)
      clear hK K
      (try simp only [Act.put, List.getElem_toArray, List.getElem_cons_succ, List.getElem_cons_zero, List.setIfInBounds_toArray, List.set_cons_zero, List.set_cons_succ])
      refine wpAnyH_take (i := 13) (v := ?_) rfl (by kernel_rfl) (by kernel_rfl) (by kernel_rfl) (fun _ _ _ h => h) (Or.inl ⟨by rfl, ?_⟩) (by assumption) ?_
      rotate_left
      · (intro w hSw; (try dsimp only at hSw); (try simp only [List.getElem_toArray, List.getElem_cons_succ, List.getElem_cons_zero]); go_simp; try with_reducible rfl)
      (try simp only [Act.put, List.getElem_toArray, List.getElem_cons_succ, List.getElem_cons_zero, List.setIfInBounds_toArray, List.set_cons_zero, List.set_cons_succ])
      refine wpAnyH_take (i := 14) (v := ?_) rfl (by kernel_rfl) (by kernel_rfl) (by kernel_rfl) (fun _ _ _ h => h) (Or.inl ⟨by rfl, ?_⟩) (by assumption) ?_
      rotate_left
      · (intro w hSw; (try dsimp only at hSw); (try simp only [List.getElem_toArray, List.getElem_cons_succ, List.getElem_cons_zero]); go_simp; try with_reducible rfl)
      (try simp only [Act.put, List.getElem_toArray, List.getElem_cons_succ, List.getElem_cons_zero, List.setIfInBounds_toArray, List.set_cons_zero, List.set_cons_succ])
      refine wpAnyH_take (i := 15) (v := ?_) rfl (by kernel_rfl) (by kernel_rfl) (by kernel_rfl) (fun _ _ _ h => h) (Or.inl ⟨by rfl, ?_⟩) (by assumption) ?_
      rotate_left
      · (intro w hSw; (try dsimp only at hSw); (try simp only [List.getElem_toArray, List.getElem_cons_succ, List.getElem_cons_zero]); go_simp; try with_reducible rfl)
      (try simp only [Act.put, List.getElem_toArray, List.getElem_cons_succ, List.getElem_cons_zero, List.setIfInBounds_toArray, List.set_cons_zero, List.set_cons_succ])
      refine wpAnyH_take (i := 16) (v := ?_) rfl (by kernel_rfl) (by kernel_rfl) (by kernel_rfl) (fun _ _ _ h => h) (Or.inl ⟨by rfl, ?_⟩) (by assumption) ?_
      rotate_left
      · (intro w hSw; (try dsimp only at hSw); (try simp only [List.getElem_toArray, List.getElem_cons_succ, List.getElem_cons_zero]); go_simp; try with_reducible rfl)
      (try simp only [Act.put, List.getElem_toArray, List.getElem_cons_succ, List.getElem_cons_zero, List.setIfInBounds_toArray, List.set_cons_zero, List.set_cons_succ])
      refine wpAnyH_ready (rs := [17]) (by kernel_rfl) (by simp) ?_
      refine AllReadyH.cons rfl (fun K hK => ?_) AllReadyH.nil
      (try simp only [List.getElem_toArray, List.getElem_cons_succ, List.getElem_cons_zero])
      go_simp
      (go_at_call 30; have _t := tok3; clear tok3; refine (catch_ref _ ⟨fs, fl, fk⟩ (.slice a1 fl.length c1) (.slice a2 fk.length c2) s (V9.out.1.1.new CU.out) (V9.out.1.2.new CU.out) (by simp only; omega) (by simp only; omega) HK.out).mono ?_; rintro e wn ⟨u3, u4, rfl, x1, x2, d, -, -⟩; obtain ⟨pa, pc, hp1⟩ := OQ.form x1; obtain ⟨pb, pd, hp2⟩ := OQ.form x2; simp only [List.length_cons, List.length_nil, Nat.zero_add] at hp1 hp2; subst hp1; subst hp2; have U := Lib.hid (And.intro (VO.vs x1) (VO.vs x2)); have CU := Lib.hid (CU.out.trans d (fun _ _ h => h)); have tok4 : True := trivial; clear d x1 x2)
      go_wp2_with fail
      clear hHeld
      refine hK.out _ _ (by (try dsimp only); first | (with_reducible exact SW9.out _ CU.out.drew) | (with_reducible exact SW9.out _ CU.out) | (trace_state; fail)) (fun hHeld => ?_)
      clear hK K
      (try simp only [Act.put, List.getElem_toArray, List.getElem_cons_succ, List.getElem_cons_zero, List.setIfInBounds_toArray, List.set_cons_zero, List.set_cons_succ])
      refine wpAnyH_ready (rs := [18]) (by kernel_rfl) (by simp) ?_
      refine AllReadyH.cons rfl (fun K hK => ?_) AllReadyH.nil
      (try simp only [List.getElem_toArray, List.getElem_cons_succ, List.getElem_cons_zero])
      go_simp
      (go_at_call 24; have _t := tok4; clear tok4; have h := same_ref _ cf ⟨fs, fl, [⟨3, ⟨0, s⟩, 0⟩]⟩ (.slice ua cf.locals_.length uc) (.slice ub cf.stack.length ud) (.slice pa fl.length pc) (.slice pb 1 pd) (V9.out.2.2.1.new CU.out) (V9.out.2.2.2.new CU.out) U.out.1 U.out.2 CF.out.2.1 CF.out.2.2 HL.out.1 (by unfold maxLen; simp); rw [HCF.out] at h; refine h.mono ?_; clear h; rintro e wn ⟨rfl, d⟩; have CU := Lib.hid (CU.out.trans d (fun _ _ h => h)); have tokZ : True := trivial; clear d)
      go_wp2_with fail
      clear hHeld
      refine hK.out _ _ (by (try dsimp only); first | (with_reducible exact SW9.out _ CU.out.drew) | (with_reducible exact SW9.out _ CU.out) | (trace_state; fail)) (fun hHeld => ?_)
      clear hK K
      (try simp only [Act.put, List.getElem_toArray, List.getElem_cons_succ, List.getElem_cons_zero, List.setIfInBounds_toArray, List.set_cons_zero, List.set_cons_succ])
      refine wpAnyH_take (i := 19) (v := ?_) rfl (by kernel_rfl) (by kernel_rfl) (by kernel_rfl) (fun _ _ _ h => h) (Or.inl ⟨by rfl, ?_⟩) (by assumption) ?_
      rotate_left
      · (intro w hSw; (try dsimp only at hSw); (try simp only [List.getElem_toArray, List.getElem_cons_succ, List.getElem_cons_zero]); go_simp; try with_reducible rfl)
      (try simp only [Act.put, List.getElem_toArray, List.getElem_cons_succ, List.getElem_cons_zero, List.setIfInBounds_toArray, List.set_cons_zero, List.set_cons_succ])
      refine wpAnyH_take (i := 20) (v := ?_) rfl (by kernel_rfl) (by kernel_rfl) (by kernel_rfl) (fun _ _ _ h => h) (Or.inl ⟨by rfl, ?_⟩) (by assumption) ?_
      rotate_left
      · (intro w hSw; (try dsimp only at hSw); (try simp only [List.getElem_toArray, List.getElem_cons_succ, List.getElem_cons_zero]); go_simp; try with_reducible rfl)
      (try simp only [Act.put, List.getElem_toArray, List.getElem_cons_succ, List.getElem_cons_zero, List.setIfInBounds_toArray, List.set_cons_zero, List.set_cons_succ])
      refine wpAnyH_take (i := 21) (v := ?_) rfl (by kernel_rfl) (by kernel_rfl) (by kernel_rfl) (fun _ _ _ h => h) (Or.inl ⟨by rfl, ?_⟩) (by assumption) ?_
      rotate_left
      · (intro w hSw; (try dsimp only at hSw); (try simp only [List.getElem_toArray, List.getElem_cons_succ, List.getElem_cons_zero]); go_simp; try with_reducible rfl)
      (try simp only [Act.put, List.getElem_toArray, List.getElem_cons_succ, List.getElem_cons_zero, List.setIfInBounds_toArray, List.set_cons_zero, List.set_cons_succ])
      refine wpAnyH_take (i := 22) (v := ?_) rfl (by kernel_rfl) (by kernel_rfl) (by kernel_rfl) (fun _ _ _ h => h) (Or.inl ⟨by rfl, ?_⟩) (by assumption) ?_
      rotate_left
      · (intro w hSw; (try dsimp only at hSw); (try simp only [List.getElem_toArray, List.getElem_cons_succ, List.getElem_cons_zero]); go_simp; try with_reducible rfl)
      (try simp only [Act.put, List.getElem_toArray, List.getElem_cons_succ, List.getElem_cons_zero, List.setIfInBounds_toArray, List.set_cons_zero, List.set_cons_succ])
      refine wpAnyH_take (i := 23) (v := ?_) rfl (by kernel_rfl) (by kernel_rfl) (by kernel_rfl) (fun _ _ _ h => h) (Or.inl ⟨by rfl, ?_⟩) (by assumption) ?_
      rotate_left
      · (intro w hSw; (try dsimp only at hSw); (try simp only [List.getElem_toArray, List.getElem_cons_succ, List.getElem_cons_zero]); go_simp; try with_reducible rfl)
      (try simp only [Act.put, List.getElem_toArray, List.getElem_cons_succ, List.getElem_cons_zero, List.setIfInBounds_toArray, List.set_cons_zero, List.set_cons_succ])
      refine wpAnyH_take (i := 24) (v := ?_) rfl (by kernel_rfl) (by kernel_rfl) (by kernel_rfl) (fun _ _ _ h => h) (Or.inl ⟨by rfl, ?_⟩) (by assumption) ?_
      rotate_left
      · (intro w hSw; (try dsimp only at hSw); (try simp only [List.getElem_toArray, List.getElem_cons_succ, List.getElem_cons_zero]); go_simp; try with_reducible rfl)
      (try simp only [Act.put, List.getElem_toArray, List.getElem_cons_succ, List.getElem_cons_zero, List.setIfInBounds_toArray, List.set_cons_zero, List.set_cons_succ])
      refine wpAnyH_ready (rs := [25]) (by kernel_rfl) (by simp) ?_
      refine AllReadyH.cons rfl (fun K hK => ?_) AllReadyH.nil
      (try simp only [List.getElem_toArray, List.getElem_cons_succ, List.getElem_cons_zero])
      go_simp
      (go_at_call 24; have _t := tokZ; clear tokZ; have h := same_ref _ ⟨fs, fl, fk⟩ ⟨fs, fl, fk⟩ (.slice na1 fl.length nc1) (.slice na2 fk.length nc2) (.slice a1 fl.length c1) (.slice a2 fk.length c2) (V9.out.2.1.1.new CU.out) (V9.out.2.1.2.new CU.out) (V9.out.1.1.new CU.out) (V9.out.1.2.new CU.out) HL.out.1 HL.out.2.1 HL.out.1 HL.out.2.1; rw [dec_self] at h; refine h.mono ?_; clear h; rintro e wn ⟨rfl, d⟩; have CU := Lib.hid (CU.out.trans d (fun _ _ h => h)); clear d)
      go_wp2_with fail
      clear hHeld
      refine hK.out _ _ (by (try dsimp only); first | (with_reducible exact SW9.out _ CU.out.drew) | (with_reducible exact SW9.out _ CU.out) | (trace_state; fail)) (fun hHeld => ?_)
      clear hK K
      (try simp only [Act.put, List.getElem_toArray, List.getElem_cons_succ, List.getElem_cons_zero, List.setIfInBounds_toArray, List.set_cons_zero, List.set_cons_succ])
      refine wpAnyH_take (i := 26) (v := ?_) rfl (by kernel_rfl) (by kernel_rfl) (by kernel_rfl) (fun _ _ _ h => h) (Or.inl ⟨by rfl, ?_⟩) (by assumption) ?_
      rotate_left
      · (intro w hSw; (try dsimp only at hSw); (try simp only [List.getElem_toArray, List.getElem_cons_succ, List.getElem_cons_zero]); go_simp; try with_reducible rfl)
      (try simp only [Act.put, List.getElem_toArray, List.getElem_cons_succ, List.getElem_cons_zero, List.setIfInBounds_toArray, List.set_cons_zero, List.set_cons_succ])
      refine wpAnyH_take (i := 27) (v := ?_) rfl (by kernel_rfl) (by kernel_rfl) (by kernel_rfl) (fun _ _ _ h => h) (Or.inl ⟨by rfl, ?_⟩) (by assumption) ?_
      rotate_left
      · (intro w hSw; (try dsimp only at hSw); (try simp only [List.getElem_toArray, List.getElem_cons_succ, List.getElem_cons_zero]); go_simp; try with_reducible rfl)
      (try simp only [Act.put, List.getElem_toArray, List.getElem_cons_succ, List.getElem_cons_zero, List.setIfInBounds_toArray, List.set_cons_zero, List.set_cons_succ])
      refine wpAnyH_done (by kernel_rfl) ?_ _
      all_goals
        go_wp2
        go_ret
        exact ⟨rfl, CW9.out.trans CU.out (fun _ _ h => h)⟩
end Go.Proofs.YtgmmclcpfmnoiaaGreatDoor
