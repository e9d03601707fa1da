/-
  (*World).Add, walked at any module that may be, whose classes are not there yet.
-/
import Derived.Test.YtgmmclcpfmnoiaaGreatDoorNew
import Derived.Test.YtgmmclcpfmnoiaaGreatDoorAdd
import Derived.Test.YtgmmclcpfmnoiaaGreatDoorTwinG
import Derived.Test.YtgmmclcpfmnoiaaGreatDoorModF
import Derived.BigQuiet
namespace Go.Proofs.YtgmmclcpfmnoiaaGreatDoor
open Go.RowKit

theorem OkCl.short {c : Cl} (h : OkCl c) : ShortCl c := ⟨h.name, h.super, h.faces⟩
/-- What Add leaves. -/
structure AddedG (S O : Blocks) (w : World) (b mb : Nat) (es : List Ent) (m : Md) (w' : World) (S' O' : Blocks) (nv' : Value) (es' : List Ent) : Prop where
  hw : HW S' O' w' b mb nv' es' false
  cl : cls es' = cls es ++ m.classes
  bare : ∀ x ∈ es', x ∈ es ∨ (x.pool = m.pool ∧ x.chain = [] ∧ x.faces = [])
  oldO : ∀ k, k < w.heap.size → O' k → O k
  oldS : ∀ k, k < w.heap.size → S' k → S k
  chg : Chg O w w'
/-- What holds while classes are put in. -/
structure AddGI (S O : Blocks) (w : World) (b mb : Nat) (es : List Ent) (m : Md) (B : Nat) (T : Blocks) (x y : Value) (k : Nat) (wr : World) (S' O' : Blocks) (nv' : Value) (es' : List Ent) : Prop where
  hw : HW S' O' wr b mb nv' es' false
  cl : cls es' = cls es ++ m.classes.take k
  bare : ∀ x ∈ es', x ∈ es ∨ (x.pool = m.pool ∧ x.chain = [] ∧ x.faces = [])
  oldO : ∀ k, k < w.heap.size → O' k → O k
  chg : Chg O w wr
  box : wr.heap[B]? = some (.cells #[x, y] 47 (0, 0))
  pool : SQ 6 REn T wr x m.pool
  row : SQ 6 RCl T wr y m.classes
  sub : ∀ n, T n → S' n
  nB : ¬ O' B

set_option maxRecDepth 100000 in
set_option maxHeartbeats 12800000 in
theorem add_c (S O M : Blocks) (w : World) (b mb : Nat) (nv : Value) (es : List Ent) (h : HW S O w b mb nv es false) (m : Md) (pv cv : Value) (hmp : SQ 6 REn M w pv m.pool) (hm : SQ 6 RCl M w cv m.classes) (hM : ∀ k, M k → k < w.heap.size)
    (hpool : PoolAns w m.pool pv) (hbody : ∀ c ∈ m.classes, BodyAns M w m.pool pv c.methods) (hok : ∀ c ∈ m.classes, OkCl c) (hsz : SzMd m) (herr : (moduleE m).err = 0) (hn : (m.classes.map (·.name)).Nodup) (hnew : ∀ c ∈ m.classes, atf es c.name = none) (hl : m.classes.length ≤ 64) (h8 : 8 ≤ es.length) (hle : es.length + m.classes.length ≤ 264) :
    Calls Tryz.prog 10 #[.pointer (some ⟨b, 0, none⟩), .agg #[pv, cv]] w fun e w' => e = .returned (.int .i64 0) ∧ ∃ S' O' nv' es', AddedG S O w b mb es m w' S' O' nv' es' := by
  obtain ⟨a, cap, rfl, hcap, hnil⟩ := hm.form
  obtain ⟨pa, pc, rfl, -, -⟩ := hmp.form
  obtain ⟨na, nc, hnv⟩ := h.names.form
  rw [List.length_map] at hnv
  subst hnv
  have c2 := h.c2
  have hbl := h.o_lt b h.own_b
  have H := Lib.hid h
  have HM := Lib.hid (And.intro hm (And.intro hM (And.intro hmp (And.intro hn (And.intro hnew hok)))))
  have HC := Lib.hid (fun (W : World) (d : Chg No w W) => check_c (S := M) (w := W) m _ _ (hmp.new goodEn d) (hm.new goodCl d) (fun W' d' => hpool W' (d.trans d' (fun _ _ h => h))) hok (fun c hc => (hbody c hc).new d))
  have HT := Lib.hid (fun (W : World) (d : Chg No w W) => twin_c M W m _ _ (hmp.new goodEn d) (hm.new goodCl d) (fun k hk => Nat.lt_of_lt_of_le (hM k hk) d.size) hsz)
  have HE := Lib.hid herr
  clear h hm hM hmp hn hnew hok hpool hbody hsz herr
  go_enter Tryz.func10, Tryz.ntmps10
  go_wp2_with fail
  refine (HC.out _ ((Chg.refl No w).alloc _)).mono ?_
  rintro e w1 ⟨d, he⟩
  rcases he with ⟨-, rfl⟩ | ⟨he, -⟩
  rotate_left
  · exact absurd HE.out he
  have C1 := Lib.hid (((Chg.refl No w).alloc (.cells #[.slice pa m.pool.length pc, .slice a m.classes.length cap] 47)).trans d (fun _ _ h => h))
  have HB := Lib.hid (d.blk (heap_alloc_new w (.cells #[.slice pa m.pool.length pc, .slice a m.classes.length cap] 47)))
  have m1 := blk_cell HB.out (j := 1) rfl
  clear d
  have nq : ∀ (w : World), (binOp .neq 84 .nilIface .nilIface).run Tryz.prog w = .ok (.bool false) w := fun _ => by kernel_rfl
  go_wp2
  clear m1
  go_loopw [23] (fun i wr => ∃ k : Nat, k ≤ m.classes.length ∧ i = .int .i64 k ∧ RowKit.Hid (Chg No w wr ∧ wr.heap[w.heap.size]? = some (.cells #[.slice pa m.pool.length pc, .slice a m.classes.length cap] 47 (0, 0)))) (fun i _ => m.classes.length - (intOf i).toNat)
  case atStart => exact ⟨0, Nat.zero_le _, rfl, Lib.hid ⟨C1.out, HB.out⟩⟩
  case round =>
    obtain ⟨k, hk, rfl, hI⟩ := hrel
    by_cases hlt : k < m.classes.length
    · obtain ⟨b', o, ds, rfl, hcl, hR, hbl', hsb, hcell⟩ := SQ.cells (HM.out.1.new goodCl hI.out.1) k hlt
      have HOC := Lib.hid (And.intro (HM.out.2.2.2.2.2 m.classes[k] (List.getElem_mem hlt)).name (HM.out.2.2.2.2.1 m.classes[k] (List.getElem_mem hlt)))
      obtain ⟨c, hce⟩ : ∃ c, c = m.classes[k] := ⟨_, rfl⟩
      rw [← hce] at hR HOC
      clear hce
      obtain ⟨f, g, mv, rfl, q1, q2, q3⟩ := hR
      obtain ⟨e1, d1, rfl, -, -⟩ := q1.form
      obtain ⟨e2, d2, rfl, -, -⟩ := q2.form
      obtain ⟨e3, d3, rfl, -, -⟩ := q3.form
      have g0 := hcell 0 _ rfl
      have g1 := hcell 1 _ rfl
      have g2 := hcell 2 _ rfl
      have g3 := hcell 3 _ rfl
      have g4 := hcell 4 _ rfl
      have g5 := hcell 5 _ rfl
      rw [Nat.add_zero] at g0
      rw [← Nat.add_assoc] at g1 g2 g3 g4 g5
      clear hcell q1 q2 q3 hcl
      have hW := H.out.new hI.out.1
      have w1c := hW.c1
      have wbl : b < wr.heap.size := Nat.lt_of_lt_of_le hbl hI.out.1.size
      have hL : ∀ (ob : Obj) (n : Nat), (Instr.lookup 77 (.map (some mb)) (.string ⟨c.name.toArray⟩) false).run Tryz.prog ((wr.alloc ob).drewN n) = .ok (.pointer none) ((wr.alloc ob).drewN n) := fun ob n => by
        have := (hW.new ((Chg.refl No wr).alloc ob)).lookN c.name HOC.out.1 n
        rwa [HOC.out.2] at this
      clear hW
      go_wp2_with fail
      go_quiet (fail)
      go_wp2
      go_roundw
      case rel =>
        refine ⟨k + 1, by omega, by go_num, Lib.hid ⟨(hI.out.1.alloc _).drewN _, ?_⟩⟩
        have hl := heap_lt hI.out.2
        show (wr.alloc _).heap[w.heap.size]? = _
        rw [Below.heap_alloc _ _ _ hl]
        exact hI.out.2
      case measure => simp [intOf]; omega
    · have hW := H.out.new hI.out.1
      have w0c := hW.c0
      have wbl : b < wr.heap.size := Nat.lt_of_lt_of_le hbl hI.out.1.size
      have hsz := hI.out.1.size
      have q0 : wr.cell? ⟨w.heap.size, 0, none⟩ = some (.slice pa m.pool.length pc) := blk_cell hI.out.2 rfl
      have q1 : wr.cell? ⟨w.heap.size, 1, none⟩ = some (.slice a m.classes.length cap) := blk_cell hI.out.2 rfl
      have wml := heap_lt hI.out.2
      clear hW
      have h256 : ¬ ((es.length : Int) - 8 + (m.classes.length : Int) > 256) := by omega
      go_wp2_with fail
      go_quiet (fail)
      go_wp2_with fail
      refine (HT.out _ (hI.out.1.drewN _)).mono ?_
      rintro e w2 ⟨pv1, cv1, rfl, hp1, hc1, d⟩
      have hdz : wr.heap.size ≤ w2.heap.size := d.size
      have C2 := Lib.hid ((hI.out.1.drewN nq).trans d (fun _ _ h => h))
      have B2 : w2.heap[w.heap.size]? = some (.cells #[.slice pa m.pool.length pc, .slice a m.classes.length cap] 47 (0, 0)) := (d.block w.heap.size wml (fun h => h)).trans hI.out.2
      have p0 : w2.cell? ⟨w.heap.size, 0, none⟩ = some (.slice pa m.pool.length pc) := blk_cell B2 rfl
      have p1 : w2.cell? ⟨w.heap.size, 1, none⟩ = some (.slice a m.classes.length cap) := blk_cell B2 rfl
      have f0 := blk_frozen B2 0
      have f1 := blk_frozen B2 1
      obtain ⟨pa1, pc1, rfl, -, -⟩ := hp1.form
      obtain ⟨ca1, cc1, rfl, -, -⟩ := hc1.form
      have B3 := setCell_at (o := 1) (setCell_at (o := 0) B2 (.slice pa1 m.pool.length pc1)) (.slice ca1 m.classes.length cc1)
      obtain ⟨T, hTe⟩ : ∃ T : Blocks, T = fun n => wr.heap.size ≤ n ∧ n < w2.heap.size := ⟨_, rfl⟩
      have hp1 : SQ 6 REn T w2 (.slice pa1 m.pool.length pc1) m.pool := by rw [hTe]; exact hp1
      have hc1 : SQ 6 RCl T w2 (.slice ca1 m.classes.length cc1) m.classes := by rw [hTe]; exact hc1
      have hT1 : ∀ n, T n → wr.heap.size ≤ n ∧ n < w2.heap.size := fun n hn => by rw [hTe] at hn; exact hn
      clear hTe
      have hI0 : AddGI S O w b mb es m w.heap.size T (.slice pa1 m.pool.length pc1) (.slice ca1 m.classes.length cc1) 0 ((w2.setCell ⟨w.heap.size, 0, none⟩ (.slice pa1 m.pool.length pc1)).setCell ⟨w.heap.size, 1, none⟩ (.slice ca1 m.classes.length cc1)) (fun n => S n ∨ T n) O (.slice na es.length nc) es := by
        have c4 : Chg No w ((w2.setCell ⟨w.heap.size, 0, none⟩ (.slice pa1 m.pool.length pc1)).setCell ⟨w.heap.size, 1, none⟩ (.slice ca1 m.classes.length cc1)) := (C2.out.set_new (Nat.le_refl _) 0 _).set_new (Nat.le_refl _) 1 _
        have c5 : Chg (· = w.heap.size) w2 ((w2.setCell ⟨w.heap.size, 0, none⟩ (.slice pa1 m.pool.length pc1)).setCell ⟨w.heap.size, 1, none⟩ (.slice ca1 m.classes.length cc1)) := (chg_setCell _ _ _ _).trans (chg_setCell _ _ _ _) (fun _ _ h => h)
        have hTn : ∀ n, T n → ¬ n = w.heap.size := fun n hn e => by have := (hT1 n hn).1; omega
        have hW4 := H.out.new c4
        have hz4 : ((w2.setCell ⟨w.heap.size, 0, none⟩ (.slice pa1 m.pool.length pc1)).setCell ⟨w.heap.size, 1, none⟩ (.slice ca1 m.classes.length cc1)).heap.size = w2.heap.size := by simp [World.setCell]
        refine ⟨hW4.grow (fun n hn => .inl hn) (fun n hn => ?_) (fun n hn hO => ?_), by simp, fun x hx => .inl hx, fun _ _ h => h, c4.mono (fun _ _ h => h.elim), B3, hp1.keep goodEn c5 hTn, hc1.keep goodCl c5 hTn, fun n hn => .inr hn, fun h => ?_⟩
        · rcases hn with hn | hn
          · exact hW4.s_lt n hn
          · rw [hz4]; exact (hT1 n hn).2
        · rcases hn with hn | hn
          · exact H.out.apart n hn hO
          · have := H.out.o_lt n hO; have := (hT1 n hn).1; omega
        · have := H.out.o_lt _ h; omega
      have HI := Lib.hid hI0
      have HTT := Lib.hid hT1
      clear hp1 hc1 d B2 B3 hI0 q0 q1 w0c hT1
      go_wp2
      clear p0 p1 f0 f1
      go_loopw [54] (fun i wr => ∃ (k : Nat) (O' : Blocks) (nv' : Value) (es' : List Ent), k ≤ m.classes.length ∧ i = .int .i64 k ∧ RowKit.Hid (AddGI S O w b mb es m w.heap.size T (.slice pa1 m.pool.length pc1) (.slice ca1 m.classes.length cc1) k wr (fun n => S n ∨ T n) O' nv' es')) (fun i _ => m.classes.length - (intOf i).toNat)
      case atStart => exact ⟨0, O, _, es, Nat.zero_le _, rfl, HI⟩
      case round =>
        clear hk hlt
        obtain ⟨k, O', nv', es', hk, rfl, hJ⟩ := hrel
        by_cases hlt : k < m.classes.length
        · obtain ⟨b', o, ds, rfl, hcl, hR, hbl', hsb, hcell⟩ := SQ.cells hJ.out.row k hlt
          obtain ⟨c, hce⟩ : ∃ c, c = m.classes[k] := ⟨_, rfl⟩
          rw [← hce] at hR
          obtain ⟨f, g, mv, rfl, r1, r2, r3⟩ := hR
          obtain ⟨a1, d1, rfl, -, -⟩ := r1.form
          obtain ⟨a2, d2, rfl, -, -⟩ := r2.form
          obtain ⟨a3, d3, rfl, -, -⟩ := r3.form
          have k0 := hcell 0 _ rfl
          have k1 := hcell 1 _ rfl
          have k2 := hcell 2 _ rfl
          have k3 := hcell 3 _ rfl
          have k4 := hcell 4 _ rfl
          have k5 := hcell 5 _ rfl
          rw [Nat.add_zero] at k0
          rw [← Nat.add_assoc] at k1 k2 k3 k4 k5
          clear hcell hcl
          have j0 : wr.cell? ⟨w.heap.size, 0, none⟩ = some (.slice pa1 m.pool.length pc1) := blk_cell hJ.out.box rfl
          have wbb := heap_lt hJ.out.box
          have cx := ((Chg.refl No wr).alloc (.cells #[.int .i64 c.flags, strV c.name, strV c.super, .slice a1 c.faces.length d1, .slice a2 c.fields.length d2, .slice a3 c.methods.length d3] 37)).drew
          have hw1 := hJ.out.hw.new cx
          have hle' : es'.length ≤ 1000 := by
            have := congrArg List.length hJ.out.cl
            simp [cls] at this
            omega
          have hnew' : ∀ x ∈ es', x.cl.name ≠ c.name := by
            intro x hx e
            rw [hce] at e
            have hx' : x.cl ∈ cls es' := List.mem_map_of_mem hx
            rw [hJ.out.cl] at hx'
            rcases List.mem_append.1 hx' with hx' | hx'
            · obtain ⟨y, hy, hye⟩ := List.mem_map.1 hx'
              have h1 := (atf_mem H.out.uniq hy).1
              rw [hye, e, HM.out.2.2.2.2.1 m.classes[k] (List.getElem_mem hlt)] at h1
              cases h1
            · obtain ⟨j, hj, hje⟩ := List.getElem_of_mem hx'
              rw [List.length_take] at hj
              rw [List.getElem_take] at hje
              have hN2 := List.pairwise_iff_getElem.1 HM.out.2.2.2.1 j k (by rw [List.length_map]; omega) (by rw [List.length_map]; exact hlt) (by omega)
              rw [List.getElem_map, List.getElem_map] at hN2
              exact hN2 (by rw [hje]; exact e)
          have HP := Lib.hid (put_c (fun n => S n ∨ T n) O' _ b mb nv' es' false hw1 c m.pool _ _ _ (.slice pa1 m.pool.length pc1) ⟨_, _, _, rfl, (r1.new goodStr cx).mono goodStr (fun n hn => .inr hn), (r2.new goodFd cx).mono goodFd (fun n hn => .inr hn), (r3.new goodMt cx).mono goodMt (fun n hn => .inr hn)⟩ ((hJ.out.pool.new goodEn cx).mono goodEn (fun n hn => .inr hn)) (by rw [hce]; exact (HM.out.2.2.2.2.2 m.classes[k] (List.getElem_mem hlt)).short) hnew' hle')
          have HCE := Lib.hid hce
          clear hw1 hnew' hle' r1 r2 r3 cx hce
          go_wp2_with fail
          go_region_with (go_at_call 32; refine HP.out.mono ?_; rintro e w3 ⟨rfl, O2, nv2, kk, hw3, o1, o2, c3⟩)
          all_goals
            have hsz3 := c3.size
            have hJ1 : AddGI S O w b mb es m w.heap.size T (.slice pa1 m.pool.length pc1) (.slice (some ⟨b', o, none⟩) m.classes.length cc1) (k + 1) w3 (fun n => S n ∨ T n) O2 nv2 (es' ++ [⟨kk, c, m.pool, [], []⟩]) := by
              have hws := hJ.out.chg.size
              have hax : wr.heap.size < (wr.alloc (.cells #[.int .i64 c.flags, strV c.name, strV c.super, .slice a1 c.faces.length d1, .slice a2 c.fields.length d2, .slice a3 c.methods.length d3] 37)).drew.heap.size := by
                show wr.heap.size < (wr.alloc _).heap.size
                simp
              have cx := ((Chg.refl No wr).alloc (.cells #[.int .i64 c.flags, strV c.name, strV c.super, .slice a1 c.faces.length d1, .slice a2 c.fields.length d2, .slice a3 c.methods.length d3] 37)).drew
              have hTO : ∀ n, T n → ¬ O' n := fun n hn hO => hJ.out.hw.apart n (.inr hn) hO
              refine ⟨hw3, ?_, ?_, ?_, ?_, ?_, ?_, ?_, hJ.out.sub, ?_⟩
              · rw [List.take_succ_eq_append_getElem hlt, ← List.append_assoc, ← hJ.out.cl, ← HCE.out]; simp [cls]
              · intro x hx
                rcases List.mem_append.1 hx with hx | hx
                · exact hJ.out.bare x hx
                · simp only [List.mem_singleton] at hx; subst hx; exact .inr ⟨rfl, rfl, rfl⟩
              · intro n hn ho
                exact hJ.out.oldO n hn (o1 n (by omega) ho)
              · exact (hJ.out.chg.trans cx (fun _ _ h => h.elim)).trans c3 (fun n hn ho => hJ.out.oldO n hn ho)
              · rw [c3.block _ (by omega) hJ.out.nB]
                show (wr.alloc _).heap[w.heap.size]? = _
                rw [Below.heap_alloc _ _ _ wbb]
                exact hJ.out.box
              · exact (hJ.out.pool.new goodEn cx).keep goodEn c3 hTO
              · exact (hJ.out.row.new goodCl cx).keep goodCl c3 hTO
              · intro ho; exact hJ.out.nB (o1 _ (by omega) ho)
            have HJ := Lib.hid hJ1
            clear hw3 o1 o2 c3 hJ1 k0 k1 k2 k3 k4 k5 j0
            go_wp2
            go_roundw
            case rel => exact ⟨k + 1, O2, nv2, _, by omega, by go_num, HJ⟩
            case measure => simp [intOf]; omega
        · go_wp2
          go_ret
          have hkl : k = m.classes.length := by omega
          subst hkl
          refine ⟨rfl, fun n => S n ∨ T n, O', nv', es', hJ.out.hw, by rw [hJ.out.cl, List.take_length], hJ.out.bare, hJ.out.oldO, fun n hn h => ?_, hJ.out.chg⟩
          rcases h with h | h
          · exact h
          · have := (HTT.out n h).1; omega

end Go.Proofs.YtgmmclcpfmnoiaaGreatDoor
