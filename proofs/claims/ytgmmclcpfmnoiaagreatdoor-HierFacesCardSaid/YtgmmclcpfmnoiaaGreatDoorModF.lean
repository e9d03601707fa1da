/-
  Package module's wrong and Check, walked at any module, over what body and pool.Check answer.
-/
import Derived.Test.YtgmmclcpfmnoiaaGreatDoorModE
namespace Go.Proofs.YtgmmclcpfmnoiaaGreatDoor
open Go.RowKit

structure OkCl (c : Cl) : Prop where
  name : c.name.length ≤ maxLen
  super : c.super.length ≤ maxLen
  faces : ∀ s ∈ c.faces, s.length ≤ maxLen
  fields : ∀ f ∈ c.fields, f.name.length ≤ maxLen ∧ f.type.name.length ≤ maxLen
  methods : ∀ x ∈ c.methods, OkMt x
/-- What pool.Check answers. -/
def PoolAns (w : World) (l : List En) (pv : Value) : Prop :=
  ∀ W : World, Chg No w W → Calls Tryz.prog 97 #[pv] W fun e w' => e = .returned (.tuple #[.int .i64 (poolE l).1, .int .i64 (poolE l).2]) ∧ Chg No W w'
theorem BdPost.class {w wr w1 : World} {b b' : Bd} (D : Chg No w wr) (d : Chg No wr w1) {kb : Nat} (hkb : wr.heap.size ≤ kb) (hB : w1.heap[kb]? = some (.cells #[.int .i64 b.cls_, .int .i64 b.mem, .int .i64 b.at_, .int .i64 b.err] 167 (0, 0))) (i : Int) (hne : b.err ≠ 0) (hb' : b' = { b with cls_ := i }) :
    BdPost w b' (.returned (.pointer (some ⟨kb, 0, none⟩))) (w1.setCell ⟨kb, 0, none⟩ (.int .i64 i)) := by
  subst hb'
  have hs := D.size
  refine ⟨(D.trans d (fun _ _ h => h)).set_new (by omega) _ _, .inr ⟨hne, kb, by omega, rfl, ?_⟩⟩
  rw [setCell_at hB]; rfl

section
theorem size_al1 (w : World) (ob : Obj) : (w.alloc ob).heap.size = w.heap.size + 1 := by simp
variable {S : Blocks} {w : World} {m : Md}
theorem moduleE_pool (h : (poolE m.pool).2 ≠ 0) : moduleE m = ⟨0, 0, (poolE m.pool).1, (poolE m.pool).2⟩ := by unfold moduleE; rw [if_pos h]
theorem moduleE_many (h : ¬ (poolE m.pool).2 ≠ 0) (hm : 64 < m.classes.length) : moduleE m = badE 4 := by unfold moduleE; rw [if_neg h, if_pos hm]
theorem moduleE_class (h : ¬ (poolE m.pool).2 ≠ 0) (hm : ¬ 64 < m.classes.length) {i : Nat} (hi : firstN (fun i => (classE m.pool (m.classes.getD i zCl)).err) m.classes.length = some i) : moduleE m = { classE m.pool (m.classes.getD i zCl) with cls_ := i } := by
  unfold moduleE; rw [if_neg h, if_neg hm, hi]
theorem moduleE_twice (h : ¬ (poolE m.pool).2 ≠ 0) (hm : ¬ 64 < m.classes.length) (hi : firstN (fun i => (classE m.pool (m.classes.getD i zCl)).err) m.classes.length = none) {i : Nat} (h2 : firstN (twiceE m) m.classes.length = some i) : moduleE m = ⟨i, 0, 0, 20⟩ := by
  unfold moduleE; rw [if_neg h, if_neg hm, hi, h2]
theorem moduleE_ok (h : ¬ (poolE m.pool).2 ≠ 0) (hm : ¬ 64 < m.classes.length) (hi : firstN (fun i => (classE m.pool (m.classes.getD i zCl)).err) m.classes.length = none) (h2 : firstN (twiceE m) m.classes.length = none) : moduleE m = zBd := by
  unfold moduleE; rw [if_neg h, if_neg hm, hi, h2]
theorem cl_at {i : Nat} (hi : i < m.classes.length) : m.classes.getD i zCl = m.classes[i] := by rw [List.getD_eq_getElem?_getD, List.getElem?_eq_getElem hi]; rfl
theorem twiceE_at {i : Nat} (hi : i < m.classes.length) : twiceE m i = if ((m.classes.take i).any fun x => x.name == m.classes[i].name) = true then 20 else 0 := by unfold twiceE; rw [cl_at hi]
theorem classE_head {l : List En} {c : Cl} (h : (headE c).err ≠ 0) : classE l c = headE c := by unfold classE; rw [if_pos h]
theorem classE_fields {l : List En} {c : Cl} (h : ¬ (headE c).err ≠ 0) (h2 : (fieldsE c).err ≠ 0) : classE l c = fieldsE c := by unfold classE; rw [if_neg h, if_pos h2]
theorem classE_methods {l : List En} {c : Cl} (h : ¬ (headE c).err ≠ 0) (h2 : ¬ (fieldsE c).err ≠ 0) : classE l c = methodsE l c := by unfold classE; rw [if_neg h, if_neg h2]

/-- The loops over a module's classes. -/
structure WrI (w : World) (pv cv : Value) (wr : World) : Prop where
  chg : Chg No w wr
  box : wr.heap[w.heap.size]? = some (.cells #[pv, cv] 47 (0, 0))
theorem WrI.new {w wr w1 : World} {pv cv : Value} (h : WrI w pv cv wr) (d : Chg No wr w1) : WrI w pv cv w1 := ⟨h.chg.trans d (fun _ _ h => h), (d.block _ (heap_lt h.box) (fun h => h)).trans h.box⟩

set_option maxRecDepth 100000 in
set_option maxHeartbeats 12800000 in
theorem wrong_c (m : Md) (pv cv : Value) (hp : SQ 6 REn S w pv m.pool) (h : SQ 6 RCl S w cv m.classes) (hpool : PoolAns w m.pool pv) (hok : ∀ c ∈ m.classes, OkCl c) (hbody : ∀ c ∈ m.classes, BodyAns S w m.pool pv c.methods) :
    Calls Tryz.prog 63 #[.agg #[pv, cv]] w (BdPost w (moduleE m)) := by
  obtain ⟨a, cap, rfl, hcap, -⟩ := h.form
  obtain ⟨pa, pc, rfl, -, -⟩ := hp.form
  have H := Lib.hid (And.intro h (And.intro hok (And.intro hbody hpool))); clear h hp hok hbody hpool
  go_enter Tryz.func63, Tryz.ntmps63
  go_wp2_with fail
  refine (H.out.2.2.2 _ ((Chg.refl No w).alloc _)).mono ?_
  rintro e w1 ⟨rfl, d⟩
  have I1 : RowKit.Hid (WrI w (.slice pa m.pool.length pc) (.slice a m.classes.length cap) w1) := Lib.hid (WrI.new ⟨(Chg.refl No w).alloc _, heap_alloc_new _ _⟩ d)
  clear d
  obtain ⟨pe, hpe⟩ : ∃ pe, pe = (poolE m.pool).2 := ⟨_, rfl⟩
  obtain ⟨pp, hpp⟩ : ∃ pp, pp = (poolE m.pool).1 := ⟨_, rfl⟩
  rw [← hpe, ← hpp]
  have HPE := Lib.hid (And.intro hpe hpp)
  by_cases hpz : pe = 0
  rotate_left
  · have hb : (pe != 0) = true := by simpa using hpz
    have hE := Lib.hid (moduleE_pool (m := m) (by rw [← hpe]; exact hpz))
    have HZ := Lib.hid hpz
    clear hpe hpp hpz
    go_wp2
    go_ret
    rw [hE.out]
    exact BdPost.bad I1.out.chg (by show (poolE m.pool).2 ≠ 0; rw [← HPE.out.1]; exact HZ.out) _ (by simp) _ _ _ _ rfl rfl HPE.out.2 HPE.out.1
  have hP0 := Lib.hid (show ¬ (poolE m.pool).2 ≠ 0 by rw [← hpe, hpz]; simp)
  subst hpz
  clear hpe hpp
  have z0 := blk_cell I1.out.box (j := 0) rfl
  have z1 := blk_cell I1.out.box (j := 1) rfl
  by_cases hmany : 64 < m.classes.length
  · have hE := Lib.hid (moduleE_many (m := m) hP0.out hmany)
    have hm' : (m.classes.length : Int) > 64 := by omega
    go_wp2
    go_ret
    rw [hE.out]
    exact BdPost.bad I1.out.chg (by decide) _ (by simp) _ _ _ _ rfl rfl rfl rfl
  have HMN := Lib.hid hmany
  have hm' : ¬ (m.classes.length : Int) > 64 := by omega
  have h64 : m.classes.length ≤ 64 := by omega
  clear hmany
  go_wp2
  clear z0 z1
  go_loopw [31] (fun i wr => ∃ k : Nat, k ≤ m.classes.length ∧ i = .int .i64 k ∧ RowKit.Hid (WrI w (.slice pa m.pool.length pc) (.slice a m.classes.length cap) wr ∧ ∀ j, j < k → (classE m.pool (m.classes.getD j zCl)).err = 0)) (fun i _ => m.classes.length - (intOf i).toNat)
  case atStart => exact ⟨0, Nat.zero_le _, rfl, Lib.hid ⟨I1.out, fun j hj => by omega⟩⟩
  case round =>
    obtain ⟨k, hk, rfl, hI⟩ := hrel
    by_cases hlt : k < m.classes.length
    · obtain ⟨b, o, ds, rfl, hcl, hR, hbl, hsb, hcell⟩ := SQ.cells (H.out.1.new goodCl hI.out.1.chg) k hlt
      have HO := Lib.hid (And.intro (H.out.2.1 m.classes[k] (List.getElem_mem hlt)) (And.intro (H.out.2.2.1 m.classes[k] (List.getElem_mem hlt)) (cl_at hlt)))
      obtain ⟨c, hce⟩ : ∃ c, c = m.classes[k] := ⟨_, rfl⟩
      rw [← hce] at hR HO
      clear hce
      obtain ⟨fv, gv, mv, rfl, q1, q2, q3⟩ := hR
      have g0 := hcell 0 _ rfl
      have g1 := hcell 1 _ rfl
      have g2 := hcell 2 _ rfl
      have g3 := hcell 3 _ rfl
      have g4 := hcell 4 _ rfl
      have g5 := hcell 5 _ rfl
      rw [Nat.add_zero] at g0
      rw [← Nat.add_assoc] at g1 g2 g3 g4 g5
      obtain ⟨e1, d1, rfl, -, -⟩ := q1.form
      obtain ⟨e2, d2, rfl, -, -⟩ := q2.form
      obtain ⟨e3, d3, rfl, -, -⟩ := q3.form
      have Q := Lib.hid (And.intro q1 (And.intro q2 q3))
      clear hcell q1 q2 q3 hcl
      have hwb := heap_lt hI.out.1.box
      go_wp2_with fail
      refine (head_c (S := S) c _ _ _ (Q.out.1.new goodStr ((Chg.refl No wr).alloc _)) (Q.out.2.1.new goodFd ((Chg.refl No wr).alloc _)) HO.out.1.name HO.out.1.super HO.out.1.faces).mono ?_
      rintro e w1 ⟨d, hb⟩
      have D1 := Lib.hid (((Chg.refl No wr).alloc _).trans d (fun _ _ h => h))
      have B1 := Lib.hid (d.blk (heap_alloc_new wr _))
      have hwd := d.size
      rw [size_al1] at hwd
      clear d g0 g1 g2 g3 g4 g5
      rcases hb with ⟨h0, rfl⟩ | ⟨h0, kb, hkb, rfl, hB⟩
      rotate_left
      · have HB := Lib.hid (And.intro h0 hB)
        have hkb' : wr.heap.size ≤ kb := by rw [size_al1] at hkb; omega
        have f0 := blk_frozen hB 0
        have c0 := blk_cell hB (j := 0) rfl
        clear h0 hB hkb
        go_wp2
        go_ret
        have hcE : classE m.pool (m.classes.getD k zCl) = headE c := by rw [HO.out.2.2]; exact classE_head HB.out.1
        have hfs := firstN_some (f := fun i => (classE m.pool (m.classes.getD i zCl)).err) hlt (by show (classE m.pool (m.classes.getD k zCl)).err ≠ 0; rw [hcE]; exact HB.out.1) hI.out.2
        exact BdPost.class hI.out.1.chg D1.out hkb' HB.out.2 _ HB.out.1 (by rw [moduleE_class hP0.out HMN.out hfs, hcE])
      have H0 := Lib.hid h0; clear h0
      have x0 := blk_cell B1.out (j := 0) rfl
      have x1 := blk_cell B1.out (j := 1) rfl
      have x2 := blk_cell B1.out (j := 2) rfl
      have x3 := blk_cell B1.out (j := 3) rfl
      have x4 := blk_cell B1.out (j := 4) rfl
      have x5 := blk_cell B1.out (j := 5) rfl
      go_wp2_with fail
      refine (fields_c (S := S) c _ _ _ _ _ _ (Q.out.2.1.new goodFd D1.out) HO.out.1.fields).mono ?_
      rintro e w2 ⟨d, hb⟩
      have D2 := Lib.hid (D1.out.trans d (fun _ _ h => h))
      have B2 := Lib.hid (d.blk B1.out)
      have hwd2 := d.size
      clear d x0 x1 x2 x3 x4 x5
      rcases hb with ⟨h0, rfl⟩ | ⟨h0, kb, hkb, rfl, hB⟩
      rotate_left
      · have HB := Lib.hid (And.intro h0 hB)
        have hkb' : wr.heap.size ≤ kb := by omega
        have f0 := blk_frozen hB 0
        have c0 := blk_cell hB (j := 0) rfl
        clear h0 hB hkb
        go_wp2
        go_ret
        have hcE : classE m.pool (m.classes.getD k zCl) = fieldsE c := by rw [HO.out.2.2]; exact classE_fields (by simp [H0.out]) HB.out.1
        have hfs := firstN_some (f := fun i => (classE m.pool (m.classes.getD i zCl)).err) hlt (by show (classE m.pool (m.classes.getD k zCl)).err ≠ 0; rw [hcE]; exact HB.out.1) hI.out.2
        exact BdPost.class hI.out.1.chg D2.out hkb' HB.out.2 _ HB.out.1 (by rw [moduleE_class hP0.out HMN.out hfs, hcE])
      have H02 := Lib.hid h0; clear h0
      have x0 := blk_cell B2.out (j := 0) rfl
      have x1 := blk_cell B2.out (j := 1) rfl
      have x2 := blk_cell B2.out (j := 2) rfl
      have x3 := blk_cell B2.out (j := 3) rfl
      have x4 := blk_cell B2.out (j := 4) rfl
      have x5 := blk_cell B2.out (j := 5) rfl
      have J2 := Lib.hid (hI.out.1.new D2.out)
      have m0 := blk_cell J2.out.box (j := 0) rfl
      go_wp2_with fail
      refine (methods_c (S := S) (l := m.pool) c _ _ _ _ _ _ (Q.out.2.2.new goodMt D2.out) HO.out.1.methods (HO.out.2.1.new J2.out.chg)).mono ?_
      rintro e w3 ⟨d, hb⟩
      have D3 := Lib.hid (D2.out.trans d (fun _ _ h => h))
      have hwd3 := d.size
      clear d x0 x1 x2 x3 x4 x5 m0
      rcases hb with ⟨h0, rfl⟩ | ⟨h0, kb, hkb, rfl, hB⟩
      rotate_left
      · have HB := Lib.hid (And.intro h0 hB)
        have hkb' : wr.heap.size ≤ kb := by omega
        have f0 := blk_frozen hB 0
        have c0 := blk_cell hB (j := 0) rfl
        clear h0 hB hkb
        go_wp2
        go_ret
        have hcE : classE m.pool (m.classes.getD k zCl) = methodsE m.pool c := by rw [HO.out.2.2]; exact classE_methods (by simp [H0.out]) (by simp [H02.out])
        have hfs := firstN_some (f := fun i => (classE m.pool (m.classes.getD i zCl)).err) hlt (by show (classE m.pool (m.classes.getD k zCl)).err ≠ 0; rw [hcE]; exact HB.out.1) hI.out.2
        exact BdPost.class hI.out.1.chg D3.out hkb' HB.out.2 _ HB.out.1 (by rw [moduleE_class hP0.out HMN.out hfs, hcE])
      have J3 := Lib.hid (hI.out.1.new D3.out)
      have HZ := Lib.hid (show (classE m.pool (m.classes.getD k zCl)).err = 0 by rw [HO.out.2.2, classE_methods (by simp [H0.out]) (by simp [H02.out])]; exact h0)
      clear h0
      go_wp2
      go_roundw
      case rel => exact ⟨k + 1, by omega, by go_num, Lib.hid ⟨J3.out, fun j hj => by
        by_cases e : j = k
        · subst e; exact HZ.out
        · exact hI.out.2 j (by omega)⟩⟩
      case measure => simp [intOf]; omega
    · have hkn : k = m.classes.length := by omega
      have HN := Lib.hid (firstN_none (f := fun i => (classE m.pool (m.classes.getD i zCl)).err) (n := m.classes.length) (fun j hj => hI.out.2 j (by omega)))
      clear hkn
      have z1 := blk_cell hI.out.1.box (j := 1) rfl
      go_wp2
      clear z1
      go_loopw [59] (fun i wz => ∃ k : Nat, k ≤ m.classes.length ∧ i = .int .i64 k ∧ RowKit.Hid (WrI w (.slice pa m.pool.length pc) (.slice a m.classes.length cap) wz ∧ ∀ j, j < k → twiceE m j = 0)) (fun i _ => m.classes.length - (intOf i).toNat)
      case atStart => exact ⟨0, Nat.zero_le _, rfl, Lib.hid ⟨hI.out.1, fun j hj => by omega⟩⟩
      case round =>
        clear hI hk hlt
        obtain ⟨k, hk, rfl, hI⟩ := hrel
        by_cases hlt : k < m.classes.length
        · obtain ⟨b, o, ds, rfl, hcl, hR, hbl, hsb, hcell⟩ := SQ.cells (H.out.1.new goodCl hI.out.1.chg) k hlt
          have HT := Lib.hid ((H.out.1.new goodCl hI.out.1.chg).take k hk)
          have HTW := Lib.hid (twiceE_at (m := m) hlt)
          obtain ⟨c, hce⟩ : ∃ c, c = m.classes[k] := ⟨_, rfl⟩
          rw [← hce] at hR HTW
          clear hce
          obtain ⟨fv, gv, mv, rfl, q1, q2, q3⟩ := hR
          have g0 := hcell 0 _ rfl
          have g1 := hcell 1 _ rfl
          have g2 := hcell 2 _ rfl
          have g3 := hcell 3 _ rfl
          have g4 := hcell 4 _ rfl
          have g5 := hcell 5 _ rfl
          rw [Nat.add_zero] at g0
          rw [← Nat.add_assoc] at g1 g2 g3 g4 g5
          obtain ⟨e1, d1, rfl, -, -⟩ := q1.form
          obtain ⟨e2, d2, rfl, -, -⟩ := q2.form
          obtain ⟨e3, d3, rfl, -, -⟩ := q3.form
          clear hcell q1 q2 q3 hcl
          have z1 := blk_cell hI.out.1.box (j := 1) rfl
          have hwb := heap_lt hI.out.1.box
          have hmf : ∀ (fn : Fn) (first cap : Array Value) (w : World), (Instr.makeFunc fn first cap).run Tryz.prog w = .ok (.func fn first cap) w := fun _ _ _ _ => rfl
          have eg : ∀ (args : Array Value) (w : World), (callFunc 102 args).run Tryz.prog w = .ok (.enter 102 args) w := enters_of Tryz.func102 (by kernel_rfl) rfl
          have EG := Lib.hid eg; clear eg
          have hkc : ¬ ((cap : Int) < (k : Int)) := by omega
          go_wp2_with fail
          refine (containsFunc_cl S _ _ _ (HT.out.new goodCl ((Chg.refl _ _).alloc _)) (by rw [List.length_take]; omega) 102 _ EG.out (fun x => x.name == c.name) (fun W x ds hx hcW hR => ?_)).mono ?_
          · obtain ⟨f', g', m', rfl, -, -, -⟩ := hR
            exact twice_c W _ _ _ _ _ _ _ _ (blk_cell (hcW.blk (heap_alloc_new _ _)) rfl) (heap_lt (hcW.blk (heap_alloc_new _ _)))
          · rintro e w1 ⟨he, d⟩
            have J := Lib.hid (hI.out.1.new (((Chg.refl No _).alloc _).trans d (fun _ _ h => h)))
            clear d g0 g1 g2 g3 g4 g5 z1
            cases hany : (m.classes.take k).any fun x => x.name == c.name with
            | true =>
              rw [hany] at he HTW
              subst he
              have hz := Lib.hid (show twiceE m k = 20 by rw [HTW.out]; rfl)
              clear hany
              go_wp2
              go_ret
              have hfs := firstN_some (f := twiceE m) hlt (by rw [hz.out]; decide) hI.out.2
              rw [moduleE_twice hP0.out HMN.out HN.out hfs]
              exact BdPost.bad J.out.chg (by show (20 : Int) ≠ 0; decide) _ (by simp) _ _ _ _ rfl rfl rfl rfl
            | false =>
              rw [hany] at he HTW
              subst he
              have hz := Lib.hid (show twiceE m k = 0 by rw [HTW.out]; rfl)
              clear hany
              go_wp2
              go_roundw
              case rel => exact ⟨k + 1, by omega, by go_num, Lib.hid ⟨J.out, fun j hj => by
                by_cases e : j = k
                · subst e; exact hz.out
                · exact hI.out.2 j (by omega)⟩⟩
              case measure => simp [intOf]; omega
        · have hkn : k = m.classes.length := by omega
          have HN2 := Lib.hid (firstN_none (f := twiceE m) (n := m.classes.length) (fun j hj => hI.out.2 j (by omega)))
          go_wp2
          go_ret
          rw [moduleE_ok hP0.out HMN.out HN.out HN2.out]
          exact BdPost.ok hI.out.1.chg rfl

/-- Check: nil, or the reason. -/
def CkPost (w : World) (b : Bd) (e : Ending) (w' : World) : Prop :=
  Chg No w w' ∧ ((b.err = 0 ∧ e = .returned .nilIface) ∨ (b.err ≠ 0 ∧ ∃ k, w.heap.size ≤ k ∧ e = .returned (.iface 116 (.pointer (some ⟨k, 0, none⟩))) ∧ w'.heap[k]? = some (.cells #[.int .i64 b.cls_, .int .i64 b.mem, .int .i64 b.at_, .int .i64 b.err] 167 (0, 0))))
theorem check_c (m : Md) (pv cv : Value) (hp : SQ 6 REn S w pv m.pool) (h : SQ 6 RCl S w cv m.classes) (hpool : PoolAns w m.pool pv) (hok : ∀ c ∈ m.classes, OkCl c) (hbody : ∀ c ∈ m.classes, BodyAns S w m.pool pv c.methods) :
    Calls Tryz.prog 33 #[.agg #[pv, cv]] w (CkPost w (moduleE m)) := by
  have HW := Lib.hid (fun (W : World) (d : Chg No w W) => wrong_c (S := S) (w := W) m pv cv (hp.new goodEn d) (h.new goodCl d) (fun W' d' => hpool W' (d.trans d' (fun _ _ h => h))) hok (fun c hc => (hbody c hc).new d))
  obtain ⟨a, cap, rfl, hcap, -⟩ := h.form
  obtain ⟨pa, pc, rfl, -, -⟩ := hp.form
  clear hp h hpool hok hbody
  go_enter Tryz.func33, Tryz.ntmps33
  go_wp2_with fail
  refine (HW.out _ ((Chg.refl No w).alloc _)).mono ?_
  rintro e w1 ⟨d, hb⟩
  have D := Lib.hid (((Chg.refl No w).alloc _).trans d (fun _ _ h => h))
  clear d
  rcases hb with ⟨h0, rfl⟩ | ⟨h0, kb, hkb, rfl, hB⟩
  · have H0 := Lib.hid h0; clear h0
    go_wp2
    go_ret
    exact ⟨D.out, .inl ⟨H0.out, rfl⟩⟩
  · have H0 := Lib.hid (And.intro h0 (And.intro hkb hB)); clear h0 hB hkb
    go_wp2
    go_ret
    exact ⟨D.out, .inr ⟨H0.out.1, kb, by have := H0.out.2.1; simp at this; omega, rfl, H0.out.2.2⟩⟩
end

end Go.Proofs.YtgmmclcpfmnoiaaGreatDoor
