/-
  Package module's Twin, walked at any module.
-/
import Derived.Test.YtgmmclcpfmnoiaaGreatDoorRowsG
namespace Go.Proofs.YtgmmclcpfmnoiaaGreatDoor
open Go.RowKit

/-- Lengths that a machine may hold. -/
structure SzMt (x : Mt) : Prop where
  params : x.sig.params.length ≤ 1048576
  code : x.code.length ≤ 1048576
  hands : x.handlers.length ≤ 1048576
structure SzCl (c : Cl) : Prop where
  faces : c.faces.length ≤ 1048576
  fields : c.fields.length ≤ 1048576
  methods : c.methods.length ≤ 1048576
  mts : ∀ x ∈ c.methods, SzMt x
structure SzMd (m : Md) : Prop where
  pool : m.pool.length ≤ 1048576
  classes : m.classes.length ≤ 1048576
  cls : ∀ c ∈ m.classes, SzCl c

/-- A clone reads in new blocks. -/
theorem cloned_new {α : Type} {e n lo g : Nat} {R : Reading α} {S : Blocks} {w w1 : World} {v : Value} {xs : List α} (gd : Good R) (hR : ∀ (T U : Blocks) (w : World) (x : α) (cs : List Value), R T w x cs → R U w x cs) (ho : OQ e n R S w1 v xs) (hv : ∀ k, v.ownBlock = some k → w.heap.size ≤ k) (hlo : lo ≤ w.heap.size) (hg : g < w.heap.size) :
    SQ n R (Rng lo w1.heap.size g) w1 v xs := by
  obtain ⟨css, h1, h2⟩ := ho
  have ho' : OQ e n R No w1 v xs := ⟨css, h1, h2.1, fun i x cs hi hc => ⟨(h2.2 i x cs hi hc).1, hR _ _ _ _ _ (h2.2 i x cs hi hc).2⟩⟩
  exact ho'.sq gd (fun k hk => ⟨by have := hv k hk; omega, ho'.lt k hk, by have := hv k hk; omega⟩) (fun _ h => h.elim)

set_option maxRecDepth 100000 in
set_option maxHeartbeats 12800000 in
theorem twin_c (S : Blocks) (w : World) (m : Md) (pv cv : Value) (hp : SQ 6 REn S w pv m.pool) (h : SQ 6 RCl S w cv m.classes) (hS : ∀ k, S k → k < w.heap.size) (hz : SzMd m) :
    Calls Tryz.prog 35 #[.agg #[pv, cv]] w (TwinnedG w m) := by
  obtain ⟨a, cap, hv, hcap, hnil⟩ := h.form
  obtain ⟨pa, pc, hpv, -, -⟩ := hp.form
  have H := Lib.hid (And.intro h (And.intro hp (And.intro hS hz)))
  have hzc := hz.classes
  clear h hp hS hz
  subst hv
  subst hpv
  go_enter Tryz.func35, Tryz.ntmps35
  go_wp2_with fail
  refine (clone_en S _ _ m.pool (H.out.2.1.new goodEn (((Chg.refl No w).alloc _).alloc _)) (fun k hk => by have := H.out.2.2.1 k hk; simp; omega) (by have := H.out.2.2.2.pool; omega)).mono ?_
  rintro e w1 ⟨v1, rfl, ho1, d, hv1⟩
  have hp1 := cloned_new (lo := w.heap.size + 2) (g := w.heap.size + 1) goodEn (fun _ _ _ _ _ h => h) ho1 hv1 (by simp) (by simp)
  obtain ⟨pa1, pc1, hvf, -, -⟩ := hp1.form
  subst hvf
  have D1 := Lib.hid d; clear d
  have HP1 := Lib.hid hp1; clear hp1 ho1 hv1
  have B1 : w1.heap[w.heap.size]? = some (.cells #[.slice pa m.pool.length pc, .slice a m.classes.length cap] 47 (0, 0)) := by
    rw [D1.out.block w.heap.size (by simp; omega) (fun h => h), Below.heap_alloc _ _ _ (by simp)]
    exact heap_alloc_new _ _
  have R1 : w1.heap[w.heap.size + 1]? = some (.cells #[zNil, zNil] 47 (0, 0)) := by
    rw [D1.out.block (w.heap.size + 1) (by simp) (fun h => h)]
    have := heap_alloc_new (w.alloc (.cells #[.slice pa m.pool.length pc, .slice a m.classes.length cap] 47)) (.cells #[zNil, zNil] 47)
    simpa using this
  have C1 := Lib.hid ((((Chg.refl No w).alloc _).alloc _).trans D1.out (fun _ _ h => h))
  have HB := Lib.hid (And.intro B1 R1)
  clear B1 R1
  have c0 := blk_cell HB.out.1 (j := 0) rfl
  have c1 := blk_cell HB.out.1 (j := 1) rfl
  have f0 := blk_frozen HB.out.1 0
  go_wp2_with fail
  have C2 := Lib.hid (C1.out.set_new (Nat.le_refl _) 0 (.slice pa1 m.pool.length pc1))
  have hs1 := C1.out.size
  have hlt1 := heap_lt HB.out.1
  have hlt1' := heap_lt HB.out.2
  have HB2 := Lib.hid (And.intro (setCell_at (o := 0) HB.out.1 (.slice pa1 m.pool.length pc1)) (((chg_setCell w1 w.heap.size 0 (.slice pa1 m.pool.length pc1)).block (w.heap.size + 1) (heap_lt HB.out.2) (by omega)).trans HB.out.2))
  have HP2 := Lib.hid (HP1.out.keep goodEn (chg_setCell w1 w.heap.size 0 (.slice pa1 m.pool.length pc1)) (fun n hn e => by have := hn.1; omega))
  refine (clone_cl S _ _ m.classes (H.out.1.new goodCl C2.out) (fun k hk => Nat.lt_of_lt_of_le (H.out.2.2.1 k hk) C2.out.size) (by have := H.out.2.2.2.classes; omega)).mono ?_
  rintro e w2 ⟨v2, rfl, ho2, d, hv2⟩
  have C3 := Lib.hid (C2.out.trans d (fun _ _ h => h))
  have HB3 := Lib.hid (And.intro ((d.block w.heap.size (heap_lt HB2.out.1) (fun h => h)).trans HB2.out.1) ((d.block (w.heap.size + 1) (heap_lt HB2.out.2) (fun h => h)).trans HB2.out.2))
  have HP3 := Lib.hid (HP2.out.new goodEn d)
  have c1' := blk_cell HB3.out.1 (j := 1) rfl
  have f1' := blk_frozen HB3.out.1 1
  have hsz2 : (w1.setCell ⟨w.heap.size, 0, none⟩ (.slice pa1 m.pool.length pc1)).heap.size = w1.heap.size := by simp [World.setCell]
  have hd2 : w1.heap.size ≤ w2.heap.size := by have := d.size; rwa [hsz2] at this
  rw [hsz2] at hv2
  have HO2 := Lib.hid (And.intro ho2 hv2)
  clear ho2 hv2 d c0 c1 f0
  by_cases hne : m.classes = []
  · have ho := HO2.out.1
    rw [hne] at ho
    obtain ⟨b2, e2, rfl, n2⟩ := ho.empty_form
    have hl0 : m.classes.length = 0 := by rw [hne]; rfl
    rw [hl0] at c1'
    have HN := Lib.hid (And.intro hne n2)
    have HB4 := Lib.hid (And.intro (setCell_at (o := 1) HB3.out.1 (.slice b2 0 e2)) (((chg_setCell w2 w.heap.size 1 (.slice b2 0 e2)).block (w.heap.size + 1) (heap_lt HB3.out.2) (by omega)).trans HB3.out.2))
    have HP4 := Lib.hid (HP3.out.keep goodEn (chg_setCell w2 w.heap.size 1 (.slice b2 0 e2)) (fun n hn e => by have := hn.1; omega))
    have C4 := Lib.hid (C3.out.set_new (Nat.le_refl _) 1 (.slice b2 0 e2))
    have r2 : ((w2.setCell ⟨w.heap.size, 1, none⟩ (.slice b2 0 e2))).cell? ⟨w.heap.size + 1, 0, none⟩ = some zNil := blk_cell HB4.out.2 rfl
    have r3 : ((w2.setCell ⟨w.heap.size, 1, none⟩ (.slice b2 0 e2))).cell? ⟨w.heap.size + 1, 1, none⟩ = some zNil := blk_cell HB4.out.2 rfl
    have q2 := blk_frozen HB4.out.2 0
    have q3 := blk_frozen HB4.out.2 1
    have m0 := blk_cell HB4.out.1 (j := 0) rfl
    have m1 := blk_cell HB4.out.1 (j := 1) rfl
    have hw2 := C3.out.size
    clear hne ho
    go_wp2
    refine wp_loop_rounds 1 ?_
    rw [rounds_succ]
    go_wp2
    refine bodyPost_ret (v := .agg #[.slice pa1 m.pool.length pc1, .slice b2 0 e2]) (by simp [results, Tryz.results35, go_sem, r2, r3]) rfl ?_
    have c2 := (chg_setCell (w2.setCell ⟨w.heap.size, 1, none⟩ (.slice b2 0 e2)) (w.heap.size + 1) 0 (.slice pa1 m.pool.length pc1)).trans (chg_setCell ((w2.setCell ⟨w.heap.size, 1, none⟩ (.slice b2 0 e2)).setCell ⟨w.heap.size + 1, 0, none⟩ (.slice pa1 m.pool.length pc1)) (w.heap.size + 1) 1 (.slice b2 0 e2)) (fun _ _ h => h)
    refine ⟨_, _, rfl, ?_, ?_, (C4.out.set_new (by omega) _ _).set_new (by omega) _ _⟩
    · exact (HP4.out.keep goodEn c2 (fun n hn e => by have := hn.1; omega)).mono goodEn (fun n hn => by have h1 := hn.1; have h2 := hn.2.1; simp [World.setCell]; omega)
    · rw [HN.out.1]; exact SQ.empty b2 e2 HN.out.2
  · obtain ⟨g, cap2, rfl, hcap2, hrow⟩ := HO2.out.1.rrow (R := RCl3) hne (fun x cs ⟨f, g, m, h⟩ => ⟨f, g, m, h⟩)
    have hg : w1.heap.size ≤ g := HO2.out.2 g rfl
    have c1 := c1'
    have f1 := f1'
    clear c1' f1'
    have hgl := hrow.lt
    have hI0 : TgI w g m (.slice pa1 m.pool.length pc1) (.slice (some ⟨g, 0, none⟩) m.classes.length cap2) S 0 3 (w2.setCell ⟨w.heap.size, 1, none⟩ (.slice (some ⟨g, 0, none⟩) m.classes.length cap2)) := by
      have c := chg_setCell w2 w.heap.size 1 (.slice (some ⟨g, 0, none⟩) m.classes.length cap2)
      have hsz : (w2.setCell ⟨w.heap.size, 1, none⟩ (.slice (some ⟨g, 0, none⟩) m.classes.length cap2)).heap.size = w2.heap.size := by simp [World.setCell]
      refine ⟨C3.out.set_new (Nat.le_refl _) 1 _, ?_, ?_, setCell_at (o := 1) HB3.out.1 _, (c.block (w.heap.size + 1) (heap_lt HB3.out.2) (by omega)).trans HB3.out.2⟩
      · exact hrow.step c (by omega) (fun i x cs _ _ hR _ => hR.keep c (fun j _ _ n hn e => by have := H.out.2.2.1 n hn; omega) (fun j _ _ n hn => by rw [stepA_ge (by omega)]; exact hn))
      · rw [hsz]; exact (HP3.out.keep goodEn c (fun n hn e => by have := hn.1; omega)).mono goodEn (fun n hn => ⟨hn.1, by have := hn.2.1; omega, by have := hn.2.1; omega⟩)
    have HI0 := Lib.hid hI0; clear hI0 hrow hne
    go_wp2
    clear c1 f1
    go_loopw [18] (fun i wr => ∃ k : Nat, k ≤ m.classes.length ∧ i = .int .i64 k ∧ RowKit.Hid (TgI w g m (.slice pa1 m.pool.length pc1) (.slice (some ⟨g, 0, none⟩) m.classes.length cap2) S k 3 wr)) (fun i _ => m.classes.length - (intOf i).toNat)
    case atStart => exact ⟨0, Nat.zero_le _, rfl, HI0⟩
    case round =>
      obtain ⟨k, hk, rfl, hI⟩ := hrel
      have m1 : wr.cell? ⟨w.heap.size, 1, none⟩ = some (.slice (some ⟨g, 0, none⟩) m.classes.length cap2) := blk_cell hI.out.mod rfl
      by_cases hlt : k < m.classes.length
      · have hx := List.getElem?_eq_getElem hlt
        obtain ⟨x, hxe⟩ : ∃ x, x = m.classes[k] := ⟨_, rfl⟩
        rw [← hxe] at hx
        have HX := Lib.hid (And.intro hx (H.out.2.2.2.cls x (by rw [hxe]; exact List.getElem_mem hlt)))
        clear hxe hx
        have hwr := hI.out.chg.size
        have hgr := hI.out.row.lt
        obtain ⟨cs, hl, ⟨v3, v4, v5, rfl, q3, q4, q5⟩, hc⟩ := hI.out.row.cells HX.out.1
        rw [stepA_ge (by omega)] at q3 q4 q5
        obtain ⟨a3, e3, rfl, -, -⟩ := q3.form
        have k3 := hc 3 _ rfl
        have Q3 := Lib.hid q3
        clear hc q3 q4 q5 hl
        go_wp2_with fail
        refine (clone_str S _ _ x.faces Q3.out (fun n hn => by have := H.out.2.2.1 n hn; omega) (by have := HX.out.2.faces; omega)).mono ?_
        rintro e x1 ⟨v, rfl, ho, d, hv⟩
        have hq := cloned_new (lo := w.heap.size + 2) (g := g) goodStr (fun _ _ _ _ _ h => h) ho hv (by omega) hgr
        have J1 := Lib.hid (hI.out.new d)
        obtain ⟨b3, f3, rfl, -, -⟩ := hq.form
        have J2 : RowKit.Hid (TgI w g m (.slice pa1 m.pool.length pc1) (.slice (some ⟨g, 0, none⟩) m.classes.length cap2) S k 4 (x1.setCell ⟨g, k * 6 + 3, none⟩ (.slice b3 x.faces.length f3))) := Lib.hid (J1.out.put H.out.2.2.1 (by omega) HX.out.1 _ (.inl ⟨rfl, hq⟩))
        have z3 := J1.out.row.frozen (k * 6 + 3)
        have hx1 := d.size
        obtain ⟨cs, hl, ⟨u3, v4, v5, rfl, q3, q4, q5⟩, hc⟩ := J1.out.row.cells HX.out.1
        rw [stepA_ge (by omega)] at q3 q4 q5
        obtain ⟨a4, e4, rfl, -, -⟩ := q4.form
        have k3 := hc 3 _ rfl
        have k4 := hc 4 _ rfl
        have Q4 := Lib.hid (q4.keep goodFd (chg_setCell x1 g (k * 6 + 3) (.slice b3 x.faces.length f3)) (fun n hn e => by have := H.out.2.2.1 n hn; omega))
        clear hc q3 q4 q5 hl ho hv hq d m1
        have m1 : x1.cell? ⟨w.heap.size, 1, none⟩ = some (.slice (some ⟨g, 0, none⟩) m.classes.length cap2) := blk_cell J1.out.mod rfl
        go_wp2_with fail
        refine (clone_fd S _ _ x.fields Q4.out (fun n hn => by have := H.out.2.2.1 n hn; have := J2.out.chg.size; omega) (by have := HX.out.2.fields; omega)).mono ?_
        rintro e x2 ⟨v, rfl, ho, d, hv⟩
        have hgr2 := J2.out.row.lt
        have hwr2 := J2.out.chg.size
        have hq := cloned_new (lo := w.heap.size + 2) (g := g) goodFd (fun _ _ _ _ _ h => h) ho hv (by omega) hgr2
        have K1 := Lib.hid (J2.out.new d)
        obtain ⟨b4, f4, rfl, -, -⟩ := hq.form
        have K2 : RowKit.Hid (TgI w g m (.slice pa1 m.pool.length pc1) (.slice (some ⟨g, 0, none⟩) m.classes.length cap2) S k 5 (x2.setCell ⟨g, k * 6 + 4, none⟩ (.slice b4 x.fields.length f4))) := Lib.hid (K1.out.put H.out.2.2.1 (by omega) HX.out.1 _ (.inr (.inl ⟨rfl, hq⟩)))
        have hx2 := d.size
        clear z3 k3 k4 m1
        have z4 := K1.out.row.frozen (k * 6 + 4)
        obtain ⟨cs, hl, ⟨u3, u4, v5, rfl, q3, q4, q5⟩, hc⟩ := K1.out.row.cells HX.out.1
        rw [stepA_ge (by omega)] at q4 q5
        obtain ⟨a5, e5, rfl, -, -⟩ := q5.form
        have k4 := hc 4 _ rfl
        have k5 := hc 5 _ rfl
        have Q5 := Lib.hid (q5.keep goodMt (chg_setCell x2 g (k * 6 + 4) (.slice b4 x.fields.length f4)) (fun n hn e => by have := H.out.2.2.1 n hn; omega))
        clear hc q3 q4 q5 hl ho hv hq d
        have m1 : x2.cell? ⟨w.heap.size, 1, none⟩ = some (.slice (some ⟨g, 0, none⟩) m.classes.length cap2) := blk_cell K1.out.mod rfl
        go_wp2_with fail
        refine (clone_mt S _ _ x.methods Q5.out (fun n hn => by have := H.out.2.2.1 n hn; have := K2.out.chg.size; omega) (by have := HX.out.2.methods; omega)).mono ?_
        rintro e x3 ⟨v, rfl, ho, d, hv⟩
        have hgr3 := K2.out.row.lt
        have hwr3 := K2.out.chg.size
        have hx3 := d.size
        clear z4 k4 k5 m1
        have L1 := Lib.hid (K2.out.new d)
        have z5 := L1.out.row.frozen (k * 6 + 5)
        obtain ⟨cs, hl, ⟨u3, u4, u5, rfl, q3, q4, q5⟩, hc⟩ := L1.out.row.cells HX.out.1
        have k5 := hc 5 _ rfl
        clear hc q3 q4 q5 hl
        have m1 : x3.cell? ⟨w.heap.size, 1, none⟩ = some (.slice (some ⟨g, 0, none⟩) m.classes.length cap2) := blk_cell L1.out.mod rfl
        by_cases hme : x.methods = []
        · rw [hme] at ho
          obtain ⟨b5, f5, rfl, n5⟩ := ho.empty_form
          have L2 : RowKit.Hid (TgI w g m (.slice pa1 m.pool.length pc1) (.slice (some ⟨g, 0, none⟩) m.classes.length cap2) S k 6 (x3.setCell ⟨g, k * 6 + 5, none⟩ (.slice b5 0 f5))) := Lib.hid (L1.out.put H.out.2.2.1 (by omega) HX.out.1 (.slice b5 0 f5) (.inr (.inr ⟨rfl, by rw [hme]; exact SQ.empty b5 f5 n5⟩)))
          have HM := Lib.hid hme
          clear hme ho hv d
          go_wp2
          refine wp_loop_rounds 1 ?_
          rw [rounds_succ]
          go_wp2
          go_roundw
          case rel => exact ⟨k + 1, by omega, by go_num, Lib.hid L2.out.next⟩
          case measure => simp [intOf]; omega
        · obtain ⟨hb, cap5, rfl, hcap5, hrow⟩ := ho.rrow (R := RMt3) hme (fun x cs ⟨f, g, m, h⟩ => ⟨f, g, m, h⟩)
          have hbx : x2.heap.size ≤ hb := by have := hv hb rfl; simpa [World.setCell] using this
          have hbl := hrow.lt
          have hsz2' : (x2.setCell ⟨g, k * 6 + 4, none⟩ (.slice b4 x.fields.length f4)).heap.size = x2.heap.size := by simp [World.setCell]
          have hSh : ∀ n, S n → n < hb := fun n hn => by have := H.out.2.2.1 n hn; omega
          have hgb : g < hb := by omega
          have hzm := HX.out.2.methods
          have hT := Lib.hid (TgH.start K2.out H.out.2.2.1 (by omega) HX.out.1 d (hb := hb) (n := x.methods.length) (cap := cap5) (by omega) (ho.sq goodMt (fun n hn => by cases hn; exact Nat.ne_of_gt hgb) (fun n hn => Nat.ne_of_lt (by have h1 := H.out.2.2.1 n hn; omega))))
          have hM0 : MgI (x3.setCell ⟨g, k * 6 + 5, none⟩ (.slice (some ⟨hb, 0, none⟩) x.methods.length cap5)) hb x.methods S 0 2 (x3.setCell ⟨g, k * 6 + 5, none⟩ (.slice (some ⟨hb, 0, none⟩) x.methods.length cap5)) := by
            refine ⟨Chg.refl _ _, ?_⟩
            have c := chg_setCell x3 g (k * 6 + 5) (.slice (some ⟨hb, 0, none⟩) x.methods.length cap5)
            exact hrow.step c (by omega) (fun i y cs _ _ hR _ => hR.keep c (fun j _ _ n hn e => by have := H.out.2.2.1 n hn; omega) (fun j _ _ n hn => by rw [stepA_ge (by omega)]; exact hn))
          have HM0 := Lib.hid hM0
          obtain ⟨ws, hws⟩ : ∃ ws, ws = (x3.setCell ⟨g, k * 6 + 5, none⟩ (.slice (some ⟨hb, 0, none⟩) x.methods.length cap5)) := ⟨_, rfl⟩
          have hbs : hb < ws.heap.size := by rw [hws]; simpa [World.setCell] using hbl
          have c5 : ws.cell? ⟨g, k * 6 + 5, none⟩ = some (.slice (some ⟨hb, 0, none⟩) x.methods.length cap5) := by rw [hws]; exact hT.out.cell
          rw [← hws] at hT HM0
          have HO := Lib.hid (And.intro hSh hme)
          clear hM0 hrow ho hv d hme hSh
          go_wp2_with fail
          rw [← hws]
          have HWS := Lib.hid hws
          clear hws c5 m1 k5 z5
          go_loopw [54] (fun iv wr => ∃ q : Nat, q ≤ x.methods.length ∧ iv = .int .i64 q ∧ RowKit.Hid (MgI ws hb x.methods S q 2 wr)) (fun iv _ => x.methods.length - (intOf iv).toNat)
          case atStart => exact ⟨0, Nat.zero_le _, rfl, HM0⟩
          case round =>
            obtain ⟨q, hq, rfl, hI2⟩ := hrel
            by_cases hlq : q < x.methods.length
            · have hy := List.getElem?_eq_getElem hlq
              obtain ⟨y, hye⟩ : ∃ y, y = x.methods[q] := ⟨_, rfl⟩
              rw [← hye] at hy
              have HY := Lib.hid (And.intro hy (HX.out.2.mts y (by rw [hye]; exact List.getElem_mem hlq)))
              clear hye hy
              have hwq := hI2.out.chg.size
              have hbq := hI2.out.row.lt
              have c5 : wr.cell? ⟨g, k * 6 + 5, none⟩ = some (.slice (some ⟨hb, 0, none⟩) x.methods.length cap5) := (hI2.out.chg.cell (p := ⟨g, k * 6 + 5, none⟩) (Nat.lt_trans hgb hbs) (Nat.ne_of_lt hgb)).trans hT.out.cell
              obtain ⟨cs, hl, ⟨v2, v8, v9, rfl, q2, q8, q9⟩, hc⟩ := hI2.out.row.cells HY.out.1
              rw [stepA_ge (by omega)] at q2 q8 q9
              obtain ⟨a2, e2, rfl, -, -⟩ := q2.form
              have k2 := hc 2 _ rfl
              have Q2 := Lib.hid q2
              clear hc q2 q8 q9 hl
              go_wp2_with fail
              refine (clone_ty S _ _ y.sig.params Q2.out (fun n hn => by have := HO.out.1 n hn; omega) (by have := HY.out.2.params; omega)).mono ?_
              rintro e y1 ⟨v, rfl, ho, d, hv⟩
              have hq1 := cloned_new (lo := ws.heap.size) (g := hb) goodTy (fun _ _ _ _ _ h => h) ho hv (by omega) hbq
              have M1 := Lib.hid (hI2.out.new d)
              obtain ⟨c2, d2, rfl, -, -⟩ := hq1.form
              have M2 : RowKit.Hid (MgI ws hb x.methods S q 8 (y1.setCell ⟨hb, q * 10 + 2, none⟩ (.slice c2 y.sig.params.length d2))) := Lib.hid (M1.out.put HO.out.1 HY.out.1 _ (.inl ⟨rfl, hq1⟩))
              have z2 := M1.out.row.frozen (q * 10 + 2)
              have hy1 := d.size
              obtain ⟨cs, hl, ⟨u2, v8, v9, rfl, q2, q8, q9⟩, hc⟩ := M1.out.row.cells HY.out.1
              rw [stepA_ge (by omega)] at q2 q8 q9
              obtain ⟨a8, e8, rfl, -, -⟩ := q8.form
              have k2' := hc 2 _ rfl
              have k8 := hc 8 _ rfl
              have Q8 := Lib.hid (q8.keep goodByte (chg_setCell y1 hb (q * 10 + 2) (.slice c2 y.sig.params.length d2)) (fun n hn e => by have := HO.out.1 n hn; omega))
              clear hc q2 q8 q9 hl ho hv hq1 d c5 k2
              go_wp2_with fail
              refine (clone_byte S _ _ y.code Q8.out (fun n hn => by have := HO.out.1 n hn; have := M2.out.row.lt; omega) (by have := HY.out.2.code; omega)).mono ?_
              rintro e y2 ⟨v, rfl, ho, d, hv⟩
              have hbq2 := M2.out.row.lt
              have hwq2 := M2.out.chg.size
              have hq1 := cloned_new (lo := ws.heap.size) (g := hb) goodByte (fun _ _ _ _ _ h => h) ho hv (by omega) hbq2
              have N1 := Lib.hid (M2.out.new d)
              obtain ⟨c8, d8, rfl, -, -⟩ := hq1.form
              have N2 : RowKit.Hid (MgI ws hb x.methods S q 9 (y2.setCell ⟨hb, q * 10 + 8, none⟩ (.slice c8 y.code.length d8))) := Lib.hid (N1.out.put HO.out.1 HY.out.1 _ (.inr (.inl ⟨rfl, hq1⟩)))
              have z8 := N1.out.row.frozen (q * 10 + 8)
              have hy2 := d.size
              obtain ⟨cs, hl, ⟨u2, u8, v9, rfl, q2, q8, q9⟩, hc⟩ := N1.out.row.cells HY.out.1
              rw [stepA_ge (by omega)] at q9
              obtain ⟨a9, e9, rfl, -, -⟩ := q9.form
              clear k2' k8 z2
              have k8 := hc 8 _ rfl
              have k9 := hc 9 _ rfl
              have Q9 := Lib.hid (q9.keep goodHd (chg_setCell y2 hb (q * 10 + 8) (.slice c8 y.code.length d8)) (fun n hn e => by have := HO.out.1 n hn; omega))
              clear hc q2 q8 q9 hl ho hv hq1 d
              go_wp2_with fail
              refine (clone_hd S _ _ y.handlers Q9.out (fun n hn => by have := HO.out.1 n hn; have := N2.out.row.lt; omega) (by have := HY.out.2.hands; omega)).mono ?_
              rintro e y3 ⟨v, rfl, ho, d, hv⟩
              have hbq3 := N2.out.row.lt
              have hwq3 := N2.out.chg.size
              have hq1 := cloned_new (lo := ws.heap.size) (g := hb) goodHd (fun _ _ _ _ _ h => h) ho hv (by omega) hbq3
              have O1 := Lib.hid (N2.out.new d)
              obtain ⟨c9, d9, rfl, -, -⟩ := hq1.form
              have O2 : RowKit.Hid (MgI ws hb x.methods S q 10 (y3.setCell ⟨hb, q * 10 + 9, none⟩ (.slice c9 y.handlers.length d9))) := Lib.hid (O1.out.put HO.out.1 HY.out.1 _ (.inr (.inr ⟨rfl, hq1⟩)))
              clear k8 k9 z8
              have z9 := O1.out.row.frozen (q * 10 + 9)
              obtain ⟨cs, hl, ⟨u2, u8, u9, rfl, q2, q8, q9⟩, hc⟩ := O1.out.row.cells HY.out.1
              have k9 := hc 9 _ rfl
              clear hc q2 q8 q9 hl ho hv hq1 d
              go_wp2
              go_roundw
              case rel => exact ⟨q + 1, by omega, by go_num, Lib.hid O2.out.next⟩
              case measure => simp [intOf]; omega
            · have hql : q = x.methods.length := by omega
              subst hql
              have hF := Lib.hid (hT.out.done HX.out.1 H.out.2.2.1 hgb (by omega) hbs rfl hcap5 hI2.out)
              go_wp2
              go_roundw
              case rel => exact ⟨k + 1, by omega, by go_num, hF⟩
              case measure => simp [intOf]; omega
      · have m0 : wr.cell? ⟨w.heap.size, 0, none⟩ = some (.slice pa1 m.pool.length pc1) := blk_cell hI.out.mod rfl
        have r0 := blk_frozen hI.out.res 0
        have r1 := blk_frozen hI.out.res 1
        have r2 : wr.cell? ⟨w.heap.size + 1, 0, none⟩ = some zNil := blk_cell hI.out.res rfl
        have r3 : wr.cell? ⟨w.heap.size + 1, 1, none⟩ = some zNil := blk_cell hI.out.res rfl
        go_wp2
        refine bodyPost_ret (v := .agg #[.slice pa1 m.pool.length pc1, .slice (some ⟨g, 0, none⟩) m.classes.length cap2]) (by simp [results, Tryz.results35, go_sem, r2, r3]) rfl ?_
        have hkl : k = m.classes.length := by omega
        subst hkl
        have hwr := hI.out.chg.size
        have hgr := hI.out.row.lt
        have c2 := (chg_setCell wr (w.heap.size + 1) 0 (.slice pa1 m.pool.length pc1)).trans (chg_setCell (wr.setCell ⟨w.heap.size + 1, 0, none⟩ (.slice pa1 m.pool.length pc1)) (w.heap.size + 1) 1 (.slice (some ⟨g, 0, none⟩) m.classes.length cap2)) (fun _ _ h => h)
        have hT : ∀ n, Rng (w.heap.size + 2) wr.heap.size g n → w.heap.size ≤ n ∧ n < wr.heap.size := fun n hn => ⟨by have := hn.1; omega, hn.2.1⟩
        refine ⟨_, _, rfl, ?_, ?_, (hI.out.chg.set_new (by omega) _ _).set_new (by omega) _ _⟩
        · exact (hI.out.pool.keep goodEn c2 (fun n hn e => by have := hn.1; omega)).mono goodEn (fun n hn => by have := hT n hn; simpa [World.setCell] using this)
        · have h1 : SQ 6 RCl (fun n => w.heap.size + 2 ≤ n ∧ n < wr.heap.size) wr (.slice (some ⟨g, 0, none⟩) m.classes.length cap2) m.classes := hI.out.row.sq (fun i x cs hx hR => by
            have hil := (List.getElem?_eq_some_iff.1 hx).1
            obtain ⟨f, q, mm, rfl, h2, h3, h4⟩ := hR
            rw [stepA_lt (by omega)] at h2 h3 h4
            exact ⟨f, q, mm, rfl, h2.mono goodStr (fun n hn => ⟨hn.1, hn.2.1⟩), h3.mono goodFd (fun n hn => ⟨hn.1, hn.2.1⟩), h4.mono goodMt (fun n hn => ⟨hn.1, hn.2.1⟩)⟩) ⟨by omega, hgr⟩ hcap2
          exact (h1.keep goodCl c2 (fun n hn e => by have := hn.1; omega)).mono goodCl (fun n hn => by have := hn.1; have := hn.2; simp [World.setCell]; omega)

end Go.Proofs.YtgmmclcpfmnoiaaGreatDoor
