/-
  The document's New, walked: the world of the eight classes that are there from the beginning.
-/
import Derived.Test.YtgmmclcpfmnoiaaGreatDoorRefW
namespace Go.Proofs.YtgmmclcpfmnoiaaGreatDoor
open Go.RowKit

set_option maxRecDepth 100000 in
set_option maxHeartbeats 6400000 in
theorem refNew_c (w : World) : Calls Tryz.prog 88 #[] w fun e w' => ∃ S O cv pv, e = .returned (.pointer (some ⟨w.heap.size, 0, none⟩)) ∧ RNewI w 8 w' S O cv pv := by
  go_enter Tryz.func88, Tryz.ntmps88
  go_wp2_with fail
  go_loopw [3] (fun i wr => ∃ (k : Nat) (S O : Blocks) (cv pv : Value), k ≤ 8 ∧ i = .int .i64 k ∧ RowKit.Hid (RNewI w k wr S O cv pv)) (fun i _ => 8 - (intOf i).toNat)
  case atStart =>
    refine ⟨0, No, fun k => k = w.heap.size, zNil, zNil, by omega, rfl, Lib.hid ?_⟩
    refine ⟨(RW.init w).new ((Chg.refl _ _).alloc _), (fun n hn => by omega), (fun n hn => hn.elim), ((Chg.refl No w).alloc _).alloc _, ?_⟩
    have := heap_alloc_new (w.alloc (.cells #[zNil, zNil, .bool false] 158)) (.cells namesV 9)
    rwa [size_alloc1] at this
  case round =>
    obtain ⟨k, S, O, cv, pv, hk, rfl, hI⟩ := hrel
    by_cases hlt : k < 8
    · rcases (show k = 0 ∨ k = 1 ∨ ∃ j, k = j + 2 from by
        rcases (show k = 0 ∨ k = 1 ∨ 1 < k by omega) with h | h | h
        · exact .inl h
        · exact .inr (.inl h)
        · exact .inr (.inr ⟨k - 2, by omega⟩)) with rfl | rfl | ⟨j, rfl⟩
      · have g0 : wr.cell? ⟨w.heap.size + 1, 0, none⟩ = some (strV (firstCl 0).name) := by simp [World.cell?, hI.out.lit, names_at 0 hlt]
        have c0 := hI.out.rw_.c0
        have hm1 := hI.out.rw_.new ((Chg.refl No wr).alloc (.cells initCells.toArray 32))
        have hm2 : RW (fun n => S n ∨ n = wr.heap.size) O (wr.alloc (.cells initCells.toArray 32)) w.heap.size cv pv (firsts.take 0) (List.replicate (0) []) false :=
          hm1.grow (fun n hn => .inl hn) (fun n hn => by
            rw [size_alloc1]
            rcases hn with hn | hn
            · have := hI.out.rw_.s_lt n hn; omega
            · omega) (fun n hn ho => by
            have h1 := hI.out.rw_.o_lt n ho
            rcases hn with hn | hn
            · exact hI.out.rw_.apart n hn ho
            · omega)
        have HW2 := Lib.hid (hm2.new ((Chg.refl No (wr.alloc (.cells initCells.toArray 32))).alloc (.cells #[.int .i64 0, strV (firstCl 0).name, strV [], zNil, zNil, .slice (some ⟨wr.heap.size, 0, none⟩) 1 1] 37)))
        have hR : RCl (fun n => S n ∨ n = wr.heap.size) ((wr.alloc (.cells initCells.toArray 32)).alloc (.cells #[.int .i64 0, strV (firstCl 0).name, strV [], zNil, zNil, .slice (some ⟨wr.heap.size, 0, none⟩) 1 1] 37)) (firstCl (0)) [.int .i64 0, strV (firstCl 0).name, strV [], zNil, zNil, .slice (some ⟨wr.heap.size, 0, none⟩) 1 1] := ⟨zNil, zNil, .slice (some ⟨wr.heap.size, 0, none⟩) 1 1, rfl, SQ.nil, SQ.nil, (init_sq wr (fun n => S n ∨ n = wr.heap.size) (.inr rfl)).new goodMt ((Chg.refl No (wr.alloc (.cells initCells.toArray 32))).alloc (.cells #[.int .i64 0, strV (firstCl 0).name, strV [], zNil, zNil, .slice (some ⟨wr.heap.size, 0, none⟩) 1 1] 37))⟩
        have HR := Lib.hid hR
        obtain ⟨ca, cc, hcv⟩ := hI.out.rw_.cl.form
        obtain ⟨pa, pc, hpv⟩ := hI.out.rw_.po.form
        have hlk : (firsts.take 0).length = 0 := by rw [List.length_take]; exact Nat.min_eq_left (by show _ ≤ 8; omega)
        rw [hlk] at hcv
        rw [List.length_replicate] at hpv
        subst hcv
        subst hpv
        clear hm1 hm2 hR hlk
        have hbl := hI.out.rw_.o_lt _ hI.out.rw_.own_b
        have c0' : ((wr.alloc (.cells initCells.toArray 32)).alloc (.cells #[.int .i64 0, strV (firstCl 0).name, strV [], zNil, zNil, .slice (some ⟨wr.heap.size, 0, none⟩) 1 1] 37)).cell? ⟨w.heap.size, 0, none⟩ = some (.slice ca 0 cc) := HW2.out.c0
        go_wp2_with fail
        obtain ⟨wz, hwz⟩ : ∃ wz, wz = ((wr.alloc (.cells initCells.toArray 32)).alloc (.cells #[.int .i64 0, strV (firstCl 0).name, strV [], zNil, zNil, .slice (some ⟨wr.heap.size, 0, none⟩) 1 1] 37)) := ⟨_, rfl⟩
        have HZ : RowKit.Hid (RW (fun n => S n ∨ n = wr.heap.size) O wz w.heap.size (.slice ca 0 cc) (.slice pa 0 pc) (firsts.take 0) (List.replicate (0) []) false ∧ RCl (fun n => S n ∨ n = wr.heap.size) wz (firstCl (0)) [.int .i64 0, strV (firstCl 0).name, strV [], zNil, zNil, .slice (some ⟨wr.heap.size, 0, none⟩) 1 1] ∧ Chg No wr wz ∧ wz.heap[wr.heap.size + 1]? = some (.cells #[.int .i64 0, strV (firstCl 0).name, strV [], zNil, zNil, .slice (some ⟨wr.heap.size, 0, none⟩) 1 1] 37 (0, 0))) := Lib.hid (by
          rw [hwz]
          refine ⟨HW2.out, HR.out, ((Chg.refl No wr).alloc _).alloc _, ?_⟩
          have := heap_alloc_new (wr.alloc (.cells initCells.toArray 32)) (.cells #[.int .i64 0, strV (firstCl 0).name, strV [], zNil, zNil, .slice (some ⟨wr.heap.size, 0, none⟩) 1 1] 37)
          rwa [size_alloc1] at this)
        change Code.wp _ _ _ _ ((wr.alloc (.cells initCells.toArray 32)).alloc (.cells #[.int .i64 0, strV (firstCl 0).name, strV [], zNil, zNil, .slice (some ⟨wr.heap.size, 0, none⟩) 1 1] 37))
        rw [← hwz]
        clear hwz HW2 HR c0'
        have c0z : wz.cell? ⟨w.heap.size, 0, none⟩ = some (.slice ca 0 cc) := HZ.out.1.c0
        have x0 : wz.cell? ⟨wr.heap.size + 1, 0, none⟩ = some (.int .i64 0) := blk_cell HZ.out.2.2.2 rfl
        have x1 : wz.cell? ⟨wr.heap.size + 1, 1, none⟩ = some (strV (firstCl 0).name) := blk_cell HZ.out.2.2.2 rfl
        have x2 : wz.cell? ⟨wr.heap.size + 1, 2, none⟩ = some (strV []) := blk_cell HZ.out.2.2.2 rfl
        have x3 : wz.cell? ⟨wr.heap.size + 1, 3, none⟩ = some zNil := blk_cell HZ.out.2.2.2 rfl
        have x4 : wz.cell? ⟨wr.heap.size + 1, 4, none⟩ = some zNil := blk_cell HZ.out.2.2.2 rfl
        have x5 : wz.cell? ⟨wr.heap.size + 1, 5, none⟩ = some (.slice (some ⟨wr.heap.size, 0, none⟩) 1 1) := blk_cell HZ.out.2.2.2 rfl
        have hbz : w.heap.size < wz.heap.size := HZ.out.1.o_lt _ HZ.out.1.own_b
        have hcz : wr.heap.size + 1 < wz.heap.size := heap_lt HZ.out.2.2.2
        have cz : Chg No wz ((wz.alloc (.cells #[.int .i64 0, strV (firstCl 0).name, strV [], zNil, zNil, .slice (some ⟨wr.heap.size, 0, none⟩) 1 1] 37)).drew) := ((Chg.refl No wz).alloc _).drew
        have HN := Lib.hid (And.intro (HZ.out.1.new cz) (goodCl.keep HZ.out.2.1 cz (fun _ _ h => h)))
        have HA := Lib.hid (Src.single (P := Tryz.prog) (n := 6) goodCl HN.out.2 rfl (tx := 38) Tryz.underlying38 ⟨wz.heap.size, 0, none⟩ 1 (At.lit wz [.int .i64 0, strV (firstCl 0).name, strV [], zNil, zNil, .slice (some ⟨wr.heap.size, 0, none⟩) 1 1] 37))
        clear cz
        have HL := Lib.hid (show (firsts.take 0).length = 0 from by rw [List.length_take]; exact Nat.min_eq_left (by show _ ≤ 8; omega))
        go_region_law (refine step_appQ rfl (.tmp 32) (.tmp 34) 38 38 rfl 37 (.agg #[zInt, zStr, zStr, zNil, zNil, zNil]) 112 Tryz.underlying38 info_cl rfl (by decide) goodCl (.slice ca 0 cc) (firsts.take 0) (by simp [Act.eval, Act.put]) HN.out.1.cl (fun n hn e => HN.out.1.apart n hn (HN.out.1.own_c n e)) (.slice (some ⟨wz.heap.size, 0, none⟩) 1 1) [firstCl 0] [[.int .i64 0, strV (firstCl 0).name, strV [], zNil, zNil, .slice (some ⟨wr.heap.size, 0, none⟩) 1 1]] (by simp [Act.eval, Act.put]) (Els.single HN.out.2 rfl) HA.out (by rw [HL.out]; unfold maxLen; simp only [List.length_cons, List.length_nil]; omega) (by rw [HL.out]; simp only [List.length_cons, List.length_nil]; omega) ?_; intro v' w3 g1 g2 g3; obtain ⟨na, nc, hv'⟩ := g1.form; rw [List.length_append, HL.out, List.length_singleton] at hv'; subst hv'; have kb : w3.heap[w.heap.size]? = some (.cells #[.slice ca 0 cc, .slice pa 0 pc, .bool false] 158 (0, 0)) := ((g2.block _ (HN.out.1.o_lt _ HN.out.1.own_b) (fun e => HN.out.1.ne_c e.symm)).trans HN.out.1.wc); have y0 : w3.cell? ⟨w.heap.size, 0, none⟩ = some (.slice ca 0 cc) := blk_cell kb rfl; have f0 : w3.frozen? ⟨w.heap.size, 0, none⟩ = false := blk_frozen kb 0; have HG := Lib.hid (And.intro g1 (And.intro g2 g3)); clear g1 g2 g3 kb)
        all_goals
          obtain ⟨hC, hCc⟩ := RW.addC HN.out.1 (cs' := firsts.take (0 + 1)) (by rw [firsts_succ 0 hlt]; exact HG.out.1) HG.out.2.1 HG.out.2.2
          obtain ⟨w4, hw4⟩ : ∃ w4, w4 = w3.setCell ⟨w.heap.size, 0, none⟩ (.slice na (0 + 1) nc) := ⟨_, rfl⟩
          rw [← hw4] at hC hCc
          change Exit.then _ _ _ _ (w3.setCell ⟨w.heap.size, 0, none⟩ (.slice na (0 + 1) nc))
          rw [← hw4]
          clear hw4 y0 f0 c0z x0 x1 x2 x3 x4 x5
          have HC := Lib.hid (And.intro (hC.new ((Chg.refl No w4).alloc (.cells #[zNil] 45))) hCc)
          have p1 : w4.cell? ⟨w.heap.size, 1, none⟩ = some (.slice pa 0 pc) := hC.c1
          have HA4 := Lib.hid (Src.single (P := Tryz.prog) (n := 1) (S := fun n => S n ∨ n = wr.heap.size) (R := RPl) goodPl (x := []) ⟨zNil, rfl, SQ.nil⟩ rfl (tx := 156) Tryz.underlying156 ⟨w4.heap.size, 0, none⟩ 1 (At.lit w4 [zNil] 45))
          clear hC hCc
          go_wp2_with (at_builtin; (refine wpList_appQ rfl (.tmp 42) (.tmp 43) 156 156 rfl 45 zNil 24 Tryz.underlying156 info_pl rfl (by decide) goodPl (.slice pa 0 pc) (List.replicate (0) []) rfl HC.out.1.po (fun n hn e => HC.out.1.apart n hn (HC.out.1.own_p n e)) (.slice (some ⟨w4.heap.size, 0, none⟩) 1 1) [[]] [[zNil]] rfl (Els.single ⟨zNil, rfl, SQ.nil⟩ rfl) HA4.out (by rw [List.length_replicate]; unfold maxLen; simp only [List.length_cons, List.length_nil]; omega) (by rw [List.length_replicate]; simp only [List.length_cons, List.length_nil]; omega) ?_); intro pv' w5 e1 e2 e3; obtain ⟨npa, npc, hv5⟩ := e1.form; rw [List.length_append, List.length_replicate, List.length_singleton] at hv5; subst hv5; have kb5 : w5.heap[w.heap.size]? = some (.cells #[.slice na (0 + 1) nc, .slice pa 0 pc, .bool false] 158 (0, 0)) := ((e2.block _ (HC.out.1.o_lt _ HC.out.1.own_b) (fun e => HC.out.1.ne_p e.symm)).trans HC.out.1.wc); have y5 : w5.cell? ⟨w.heap.size, 1, none⟩ = some (.slice pa 0 pc) := blk_cell kb5 rfl; have f5 : w5.frozen? ⟨w.heap.size, 1, none⟩ = false := blk_frozen kb5 1; have HE := Lib.hid (And.intro e1 (And.intro e2 e3)); clear e1 e2 e3 kb5)
          obtain ⟨hP, hPc⟩ := RW.addP HC.out.1 (ps' := List.replicate (0 + 1) []) (by rw [List.replicate_succ']; exact HE.out.1) HE.out.2.1 HE.out.2.2
          have HP := Lib.hid (And.intro hP hPc)
          clear hP hPc y5 f5 p1
          go_roundw
          case rel =>
            refine ⟨0 + 1, _, _, _, _, by omega, by go_num, Lib.hid ⟨HP.out.1, fun n hn => ?_, fun n hn => ?_, ?_, ?_⟩⟩
            · have hl := heap_lt hI.out.lit
              have z1 := HZ.out.2.2.1.size
              have z2 := HC.out.2.size
              have z3 : wz.heap.size ≤ ((wz.alloc (.cells #[.int .i64 0, strV (firstCl 0).name, strV [], zNil, zNil, .slice (some ⟨wr.heap.size, 0, none⟩) 1 1] 37)).drew).heap.size := size_al _ _
              rcases hn with (hn | hn) | hn
              · exact hI.out.newO n hn
              · rcases HG.out.2.2 with e | ⟨m, e, hm⟩
                · rw [e] at hn; exact hI.out.newO n (hI.out.rw_.own_c n hn)
                · rw [e] at hn; cases hn; omega
              · rcases HE.out.2.2 with e | ⟨m, e, hm⟩
                · rw [e] at hn; exact hI.out.newO n (hI.out.rw_.own_p n hn)
                · rw [e] at hn; cases hn; rw [size_alloc1] at hm; omega
            · rcases hn with hn | hn
              · exact hI.out.newS n hn
              · have := hI.out.chg.size; omega
            · have d1 := hI.out.chg.trans HZ.out.2.2.1 (fun _ _ h => h)
              have d2 := (d1.alloc (.cells #[.int .i64 0, strV (firstCl 0).name, strV [], zNil, zNil, .slice (some ⟨wr.heap.size, 0, none⟩) 1 1] 37)).drew.trans HC.out.2 (fun n hn ho => by have := (hI.out.newO n ho).2; omega)
              exact (d2.alloc (.cells #[zNil] 45)).trans HP.out.2 (fun n hn ho => by
                rcases ho with ho | ho
                · have := (hI.out.newO n ho).2; omega
                · have z1 := HZ.out.2.2.1.size
                  have z3 : wz.heap.size ≤ ((wz.alloc (.cells #[.int .i64 0, strV (firstCl 0).name, strV [], zNil, zNil, .slice (some ⟨wr.heap.size, 0, none⟩) 1 1] 37)).drew).heap.size := size_al _ _
                  rcases HG.out.2.2 with e | ⟨m, e, hm⟩
                  · rw [e] at ho; have := (hI.out.newO n (hI.out.rw_.own_c n ho)).2; omega
                  · rw [e] at ho; cases ho; have := hI.out.chg.size; omega)
            · have hl := heap_lt hI.out.lit
              have z1 := HZ.out.2.2.1.size
              have z3 : wz.heap.size ≤ ((wz.alloc (.cells #[.int .i64 0, strV (firstCl 0).name, strV [], zNil, zNil, .slice (some ⟨wr.heap.size, 0, none⟩) 1 1] 37)).drew).heap.size := size_al _ _
              have z2 := HC.out.2.size
              have nO : ¬ O (w.heap.size + 1) := fun ho => (hI.out.newO _ ho).1 rfl
              rw [HP.out.2.block _ (by rw [size_alloc1]; omega) (fun ho => by
                rcases ho with ho | ho
                · exact nO ho
                · rcases HG.out.2.2 with e | ⟨m, e, hm⟩
                  · rw [e] at ho; exact nO (hI.out.rw_.own_c _ ho)
                  · rw [e] at ho; cases ho; omega), Below.heap_alloc _ _ _ (by omega), HC.out.2.block _ (by omega) nO]
              exact (((Chg.refl No wz).alloc (.cells #[.int .i64 0, strV (firstCl 0).name, strV [], zNil, zNil, .slice (some ⟨wr.heap.size, 0, none⟩) 1 1] 37)).drew.block _ (by omega) (fun h => h)).trans ((HZ.out.2.2.1.block _ hl (fun h => h)).trans hI.out.lit)
          case measure => first | (simp [intOf]; done) | (simp [intOf]; omega)
      · have g0 : wr.cell? ⟨w.heap.size + 1, 1, none⟩ = some (strV (firstCl 1).name) := by simp [World.cell?, hI.out.lit, names_at 1 hlt]
        have c0 := hI.out.rw_.c0
        have hm1 := hI.out.rw_.new ((Chg.refl No wr).alloc (.cells initCells.toArray 32))
        have hm2 : RW (fun n => S n ∨ n = wr.heap.size) O (wr.alloc (.cells initCells.toArray 32)) w.heap.size cv pv (firsts.take 1) (List.replicate (1) []) false :=
          hm1.grow (fun n hn => .inl hn) (fun n hn => by
            rw [size_alloc1]
            rcases hn with hn | hn
            · have := hI.out.rw_.s_lt n hn; omega
            · omega) (fun n hn ho => by
            have h1 := hI.out.rw_.o_lt n ho
            rcases hn with hn | hn
            · exact hI.out.rw_.apart n hn ho
            · omega)
        have HW2 := Lib.hid (hm2.new ((Chg.refl No (wr.alloc (.cells initCells.toArray 32))).alloc (.cells #[.int .i64 0, strV (firstCl 1).name, strV objectName, zNil, zNil, .slice (some ⟨wr.heap.size, 0, none⟩) 1 1] 37)))
        have hR : RCl (fun n => S n ∨ n = wr.heap.size) ((wr.alloc (.cells initCells.toArray 32)).alloc (.cells #[.int .i64 0, strV (firstCl 1).name, strV objectName, zNil, zNil, .slice (some ⟨wr.heap.size, 0, none⟩) 1 1] 37)) (firstCl (1)) [.int .i64 0, strV (firstCl 1).name, strV objectName, zNil, zNil, .slice (some ⟨wr.heap.size, 0, none⟩) 1 1] := ⟨zNil, zNil, .slice (some ⟨wr.heap.size, 0, none⟩) 1 1, rfl, SQ.nil, SQ.nil, (init_sq wr (fun n => S n ∨ n = wr.heap.size) (.inr rfl)).new goodMt ((Chg.refl No (wr.alloc (.cells initCells.toArray 32))).alloc (.cells #[.int .i64 0, strV (firstCl 1).name, strV objectName, zNil, zNil, .slice (some ⟨wr.heap.size, 0, none⟩) 1 1] 37))⟩
        have HR := Lib.hid hR
        obtain ⟨ca, cc, hcv⟩ := hI.out.rw_.cl.form
        obtain ⟨pa, pc, hpv⟩ := hI.out.rw_.po.form
        have hlk : (firsts.take 1).length = 1 := by rw [List.length_take]; exact Nat.min_eq_left (by show _ ≤ 8; omega)
        rw [hlk] at hcv
        rw [List.length_replicate] at hpv
        subst hcv
        subst hpv
        clear hm1 hm2 hR hlk
        have hbl := hI.out.rw_.o_lt _ hI.out.rw_.own_b
        have c0' : ((wr.alloc (.cells initCells.toArray 32)).alloc (.cells #[.int .i64 0, strV (firstCl 1).name, strV objectName, zNil, zNil, .slice (some ⟨wr.heap.size, 0, none⟩) 1 1] 37)).cell? ⟨w.heap.size, 0, none⟩ = some (.slice ca 1 cc) := HW2.out.c0
        go_wp2_with fail
        obtain ⟨wz, hwz⟩ : ∃ wz, wz = ((wr.alloc (.cells initCells.toArray 32)).alloc (.cells #[.int .i64 0, strV (firstCl 1).name, strV objectName, zNil, zNil, .slice (some ⟨wr.heap.size, 0, none⟩) 1 1] 37)) := ⟨_, rfl⟩
        have HZ : RowKit.Hid (RW (fun n => S n ∨ n = wr.heap.size) O wz w.heap.size (.slice ca 1 cc) (.slice pa 1 pc) (firsts.take 1) (List.replicate (1) []) false ∧ RCl (fun n => S n ∨ n = wr.heap.size) wz (firstCl (1)) [.int .i64 0, strV (firstCl 1).name, strV objectName, zNil, zNil, .slice (some ⟨wr.heap.size, 0, none⟩) 1 1] ∧ Chg No wr wz ∧ wz.heap[wr.heap.size + 1]? = some (.cells #[.int .i64 0, strV (firstCl 1).name, strV objectName, zNil, zNil, .slice (some ⟨wr.heap.size, 0, none⟩) 1 1] 37 (0, 0))) := Lib.hid (by
          rw [hwz]
          refine ⟨HW2.out, HR.out, ((Chg.refl No wr).alloc _).alloc _, ?_⟩
          have := heap_alloc_new (wr.alloc (.cells initCells.toArray 32)) (.cells #[.int .i64 0, strV (firstCl 1).name, strV objectName, zNil, zNil, .slice (some ⟨wr.heap.size, 0, none⟩) 1 1] 37)
          rwa [size_alloc1] at this)
        change Code.wp _ _ _ _ ((wr.alloc (.cells initCells.toArray 32)).alloc (.cells #[.int .i64 0, strV (firstCl 1).name, strV objectName, zNil, zNil, .slice (some ⟨wr.heap.size, 0, none⟩) 1 1] 37))
        rw [← hwz]
        clear hwz HW2 HR c0'
        have c0z : wz.cell? ⟨w.heap.size, 0, none⟩ = some (.slice ca 1 cc) := HZ.out.1.c0
        have x0 : wz.cell? ⟨wr.heap.size + 1, 0, none⟩ = some (.int .i64 0) := blk_cell HZ.out.2.2.2 rfl
        have x1 : wz.cell? ⟨wr.heap.size + 1, 1, none⟩ = some (strV (firstCl 1).name) := blk_cell HZ.out.2.2.2 rfl
        have x2 : wz.cell? ⟨wr.heap.size + 1, 2, none⟩ = some (strV objectName) := blk_cell HZ.out.2.2.2 rfl
        have x3 : wz.cell? ⟨wr.heap.size + 1, 3, none⟩ = some zNil := blk_cell HZ.out.2.2.2 rfl
        have x4 : wz.cell? ⟨wr.heap.size + 1, 4, none⟩ = some zNil := blk_cell HZ.out.2.2.2 rfl
        have x5 : wz.cell? ⟨wr.heap.size + 1, 5, none⟩ = some (.slice (some ⟨wr.heap.size, 0, none⟩) 1 1) := blk_cell HZ.out.2.2.2 rfl
        have hbz : w.heap.size < wz.heap.size := HZ.out.1.o_lt _ HZ.out.1.own_b
        have hcz : wr.heap.size + 1 < wz.heap.size := heap_lt HZ.out.2.2.2
        have cz : Chg No wz ((wz.alloc (.cells #[.int .i64 0, strV (firstCl 1).name, strV objectName, zNil, zNil, .slice (some ⟨wr.heap.size, 0, none⟩) 1 1] 37)).drew) := ((Chg.refl No wz).alloc _).drew
        have HN := Lib.hid (And.intro (HZ.out.1.new cz) (goodCl.keep HZ.out.2.1 cz (fun _ _ h => h)))
        have HA := Lib.hid (Src.single (P := Tryz.prog) (n := 6) goodCl HN.out.2 rfl (tx := 38) Tryz.underlying38 ⟨wz.heap.size, 0, none⟩ 1 (At.lit wz [.int .i64 0, strV (firstCl 1).name, strV objectName, zNil, zNil, .slice (some ⟨wr.heap.size, 0, none⟩) 1 1] 37))
        clear cz
        have HL := Lib.hid (show (firsts.take 1).length = 1 from by rw [List.length_take]; exact Nat.min_eq_left (by show _ ≤ 8; omega))
        go_region_law (refine step_appQ rfl (.tmp 32) (.tmp 34) 38 38 rfl 37 (.agg #[zInt, zStr, zStr, zNil, zNil, zNil]) 112 Tryz.underlying38 info_cl rfl (by decide) goodCl (.slice ca 1 cc) (firsts.take 1) (by simp [Act.eval, Act.put]) HN.out.1.cl (fun n hn e => HN.out.1.apart n hn (HN.out.1.own_c n e)) (.slice (some ⟨wz.heap.size, 0, none⟩) 1 1) [firstCl 1] [[.int .i64 0, strV (firstCl 1).name, strV objectName, zNil, zNil, .slice (some ⟨wr.heap.size, 0, none⟩) 1 1]] (by simp [Act.eval, Act.put]) (Els.single HN.out.2 rfl) HA.out (by rw [HL.out]; unfold maxLen; simp only [List.length_cons, List.length_nil]; omega) (by rw [HL.out]; simp only [List.length_cons, List.length_nil]; omega) ?_; intro v' w3 g1 g2 g3; obtain ⟨na, nc, hv'⟩ := g1.form; rw [List.length_append, HL.out, List.length_singleton] at hv'; subst hv'; have kb : w3.heap[w.heap.size]? = some (.cells #[.slice ca 1 cc, .slice pa 1 pc, .bool false] 158 (0, 0)) := ((g2.block _ (HN.out.1.o_lt _ HN.out.1.own_b) (fun e => HN.out.1.ne_c e.symm)).trans HN.out.1.wc); have y0 : w3.cell? ⟨w.heap.size, 0, none⟩ = some (.slice ca 1 cc) := blk_cell kb rfl; have f0 : w3.frozen? ⟨w.heap.size, 0, none⟩ = false := blk_frozen kb 0; have HG := Lib.hid (And.intro g1 (And.intro g2 g3)); clear g1 g2 g3 kb)
        all_goals
          obtain ⟨hC, hCc⟩ := RW.addC HN.out.1 (cs' := firsts.take (1 + 1)) (by rw [firsts_succ 1 hlt]; exact HG.out.1) HG.out.2.1 HG.out.2.2
          obtain ⟨w4, hw4⟩ : ∃ w4, w4 = w3.setCell ⟨w.heap.size, 0, none⟩ (.slice na (1 + 1) nc) := ⟨_, rfl⟩
          rw [← hw4] at hC hCc
          change Exit.then _ _ _ _ (w3.setCell ⟨w.heap.size, 0, none⟩ (.slice na (1 + 1) nc))
          rw [← hw4]
          clear hw4 y0 f0 c0z x0 x1 x2 x3 x4 x5
          have HC := Lib.hid (And.intro (hC.new ((Chg.refl No w4).alloc (.cells #[zNil] 45))) hCc)
          have p1 : w4.cell? ⟨w.heap.size, 1, none⟩ = some (.slice pa 1 pc) := hC.c1
          have HA4 := Lib.hid (Src.single (P := Tryz.prog) (n := 1) (S := fun n => S n ∨ n = wr.heap.size) (R := RPl) goodPl (x := []) ⟨zNil, rfl, SQ.nil⟩ rfl (tx := 156) Tryz.underlying156 ⟨w4.heap.size, 0, none⟩ 1 (At.lit w4 [zNil] 45))
          clear hC hCc
          go_wp2_with (at_builtin; (refine wpList_appQ rfl (.tmp 42) (.tmp 43) 156 156 rfl 45 zNil 24 Tryz.underlying156 info_pl rfl (by decide) goodPl (.slice pa 1 pc) (List.replicate (1) []) rfl HC.out.1.po (fun n hn e => HC.out.1.apart n hn (HC.out.1.own_p n e)) (.slice (some ⟨w4.heap.size, 0, none⟩) 1 1) [[]] [[zNil]] rfl (Els.single ⟨zNil, rfl, SQ.nil⟩ rfl) HA4.out (by rw [List.length_replicate]; unfold maxLen; simp only [List.length_cons, List.length_nil]; omega) (by rw [List.length_replicate]; simp only [List.length_cons, List.length_nil]; omega) ?_); intro pv' w5 e1 e2 e3; obtain ⟨npa, npc, hv5⟩ := e1.form; rw [List.length_append, List.length_replicate, List.length_singleton] at hv5; subst hv5; have kb5 : w5.heap[w.heap.size]? = some (.cells #[.slice na (1 + 1) nc, .slice pa 1 pc, .bool false] 158 (0, 0)) := ((e2.block _ (HC.out.1.o_lt _ HC.out.1.own_b) (fun e => HC.out.1.ne_p e.symm)).trans HC.out.1.wc); have y5 : w5.cell? ⟨w.heap.size, 1, none⟩ = some (.slice pa 1 pc) := blk_cell kb5 rfl; have f5 : w5.frozen? ⟨w.heap.size, 1, none⟩ = false := blk_frozen kb5 1; have HE := Lib.hid (And.intro e1 (And.intro e2 e3)); clear e1 e2 e3 kb5)
          obtain ⟨hP, hPc⟩ := RW.addP HC.out.1 (ps' := List.replicate (1 + 1) []) (by rw [List.replicate_succ']; exact HE.out.1) HE.out.2.1 HE.out.2.2
          have HP := Lib.hid (And.intro hP hPc)
          clear hP hPc y5 f5 p1
          go_roundw
          case rel =>
            refine ⟨1 + 1, _, _, _, _, by omega, by go_num, Lib.hid ⟨HP.out.1, fun n hn => ?_, fun n hn => ?_, ?_, ?_⟩⟩
            · have hl := heap_lt hI.out.lit
              have z1 := HZ.out.2.2.1.size
              have z2 := HC.out.2.size
              have z3 : wz.heap.size ≤ ((wz.alloc (.cells #[.int .i64 0, strV (firstCl 1).name, strV objectName, zNil, zNil, .slice (some ⟨wr.heap.size, 0, none⟩) 1 1] 37)).drew).heap.size := size_al _ _
              rcases hn with (hn | hn) | hn
              · exact hI.out.newO n hn
              · rcases HG.out.2.2 with e | ⟨m, e, hm⟩
                · rw [e] at hn; exact hI.out.newO n (hI.out.rw_.own_c n hn)
                · rw [e] at hn; cases hn; omega
              · rcases HE.out.2.2 with e | ⟨m, e, hm⟩
                · rw [e] at hn; exact hI.out.newO n (hI.out.rw_.own_p n hn)
                · rw [e] at hn; cases hn; rw [size_alloc1] at hm; omega
            · rcases hn with hn | hn
              · exact hI.out.newS n hn
              · have := hI.out.chg.size; omega
            · have d1 := hI.out.chg.trans HZ.out.2.2.1 (fun _ _ h => h)
              have d2 := (d1.alloc (.cells #[.int .i64 0, strV (firstCl 1).name, strV objectName, zNil, zNil, .slice (some ⟨wr.heap.size, 0, none⟩) 1 1] 37)).drew.trans HC.out.2 (fun n hn ho => by have := (hI.out.newO n ho).2; omega)
              exact (d2.alloc (.cells #[zNil] 45)).trans HP.out.2 (fun n hn ho => by
                rcases ho with ho | ho
                · have := (hI.out.newO n ho).2; omega
                · have z1 := HZ.out.2.2.1.size
                  have z3 : wz.heap.size ≤ ((wz.alloc (.cells #[.int .i64 0, strV (firstCl 1).name, strV objectName, zNil, zNil, .slice (some ⟨wr.heap.size, 0, none⟩) 1 1] 37)).drew).heap.size := size_al _ _
                  rcases HG.out.2.2 with e | ⟨m, e, hm⟩
                  · rw [e] at ho; have := (hI.out.newO n (hI.out.rw_.own_c n ho)).2; omega
                  · rw [e] at ho; cases ho; have := hI.out.chg.size; omega)
            · have hl := heap_lt hI.out.lit
              have z1 := HZ.out.2.2.1.size
              have z3 : wz.heap.size ≤ ((wz.alloc (.cells #[.int .i64 0, strV (firstCl 1).name, strV objectName, zNil, zNil, .slice (some ⟨wr.heap.size, 0, none⟩) 1 1] 37)).drew).heap.size := size_al _ _
              have z2 := HC.out.2.size
              have nO : ¬ O (w.heap.size + 1) := fun ho => (hI.out.newO _ ho).1 rfl
              rw [HP.out.2.block _ (by rw [size_alloc1]; omega) (fun ho => by
                rcases ho with ho | ho
                · exact nO ho
                · rcases HG.out.2.2 with e | ⟨m, e, hm⟩
                  · rw [e] at ho; exact nO (hI.out.rw_.own_c _ ho)
                  · rw [e] at ho; cases ho; omega), Below.heap_alloc _ _ _ (by omega), HC.out.2.block _ (by omega) nO]
              exact (((Chg.refl No wz).alloc (.cells #[.int .i64 0, strV (firstCl 1).name, strV objectName, zNil, zNil, .slice (some ⟨wr.heap.size, 0, none⟩) 1 1] 37)).drew.block _ (by omega) (fun h => h)).trans ((HZ.out.2.2.1.block _ hl (fun h => h)).trans hI.out.lit)
          case measure => first | (simp [intOf]; done) | (simp [intOf]; omega)
      · have g0 : wr.cell? ⟨w.heap.size + 1, (j + 2), none⟩ = some (strV (firstCl (j + 2)).name) := by simp [World.cell?, hI.out.lit, names_at (j + 2) hlt]
        have c0 := hI.out.rw_.c0
        have hm1 := hI.out.rw_.new ((Chg.refl No wr).alloc (.cells initCells.toArray 32))
        have hm2 : RW (fun n => S n ∨ n = wr.heap.size) O (wr.alloc (.cells initCells.toArray 32)) w.heap.size cv pv (firsts.take (j + 2)) (List.replicate ((j + 2)) []) false :=
          hm1.grow (fun n hn => .inl hn) (fun n hn => by
            rw [size_alloc1]
            rcases hn with hn | hn
            · have := hI.out.rw_.s_lt n hn; omega
            · omega) (fun n hn ho => by
            have h1 := hI.out.rw_.o_lt n ho
            rcases hn with hn | hn
            · exact hI.out.rw_.apart n hn ho
            · omega)
        have HW2 := Lib.hid (hm2.new ((Chg.refl No (wr.alloc (.cells initCells.toArray 32))).alloc (.cells #[.int .i64 0, strV (firstCl (j + 2)).name, strV [84, 104, 114, 111, 119, 97, 98, 108, 101], zNil, zNil, .slice (some ⟨wr.heap.size, 0, none⟩) 1 1] 37)))
        have hR : RCl (fun n => S n ∨ n = wr.heap.size) ((wr.alloc (.cells initCells.toArray 32)).alloc (.cells #[.int .i64 0, strV (firstCl (j + 2)).name, strV [84, 104, 114, 111, 119, 97, 98, 108, 101], zNil, zNil, .slice (some ⟨wr.heap.size, 0, none⟩) 1 1] 37)) (firstCl ((j + 2))) [.int .i64 0, strV (firstCl (j + 2)).name, strV [84, 104, 114, 111, 119, 97, 98, 108, 101], zNil, zNil, .slice (some ⟨wr.heap.size, 0, none⟩) 1 1] := ⟨zNil, zNil, .slice (some ⟨wr.heap.size, 0, none⟩) 1 1, rfl, SQ.nil, SQ.nil, (init_sq wr (fun n => S n ∨ n = wr.heap.size) (.inr rfl)).new goodMt ((Chg.refl No (wr.alloc (.cells initCells.toArray 32))).alloc (.cells #[.int .i64 0, strV (firstCl (j + 2)).name, strV [84, 104, 114, 111, 119, 97, 98, 108, 101], zNil, zNil, .slice (some ⟨wr.heap.size, 0, none⟩) 1 1] 37))⟩
        have HR := Lib.hid hR
        obtain ⟨ca, cc, hcv⟩ := hI.out.rw_.cl.form
        obtain ⟨pa, pc, hpv⟩ := hI.out.rw_.po.form
        have hlk : (firsts.take (j + 2)).length = (j + 2) := by rw [List.length_take]; exact Nat.min_eq_left (by show _ ≤ 8; omega)
        rw [hlk] at hcv
        rw [List.length_replicate] at hpv
        subst hcv
        subst hpv
        clear hm1 hm2 hR hlk
        have hbl := hI.out.rw_.o_lt _ hI.out.rw_.own_b
        have c0' : ((wr.alloc (.cells initCells.toArray 32)).alloc (.cells #[.int .i64 0, strV (firstCl (j + 2)).name, strV [84, 104, 114, 111, 119, 97, 98, 108, 101], zNil, zNil, .slice (some ⟨wr.heap.size, 0, none⟩) 1 1] 37)).cell? ⟨w.heap.size, 0, none⟩ = some (.slice ca (j + 2) cc) := HW2.out.c0
        go_wp2_with fail
        obtain ⟨wz, hwz⟩ : ∃ wz, wz = ((wr.alloc (.cells initCells.toArray 32)).alloc (.cells #[.int .i64 0, strV (firstCl (j + 2)).name, strV [84, 104, 114, 111, 119, 97, 98, 108, 101], zNil, zNil, .slice (some ⟨wr.heap.size, 0, none⟩) 1 1] 37)) := ⟨_, rfl⟩
        have HZ : RowKit.Hid (RW (fun n => S n ∨ n = wr.heap.size) O wz w.heap.size (.slice ca (j + 2) cc) (.slice pa (j + 2) pc) (firsts.take (j + 2)) (List.replicate ((j + 2)) []) false ∧ RCl (fun n => S n ∨ n = wr.heap.size) wz (firstCl ((j + 2))) [.int .i64 0, strV (firstCl (j + 2)).name, strV [84, 104, 114, 111, 119, 97, 98, 108, 101], zNil, zNil, .slice (some ⟨wr.heap.size, 0, none⟩) 1 1] ∧ Chg No wr wz ∧ wz.heap[wr.heap.size + 1]? = some (.cells #[.int .i64 0, strV (firstCl (j + 2)).name, strV [84, 104, 114, 111, 119, 97, 98, 108, 101], zNil, zNil, .slice (some ⟨wr.heap.size, 0, none⟩) 1 1] 37 (0, 0))) := Lib.hid (by
          rw [hwz]
          refine ⟨HW2.out, HR.out, ((Chg.refl No wr).alloc _).alloc _, ?_⟩
          have := heap_alloc_new (wr.alloc (.cells initCells.toArray 32)) (.cells #[.int .i64 0, strV (firstCl (j + 2)).name, strV [84, 104, 114, 111, 119, 97, 98, 108, 101], zNil, zNil, .slice (some ⟨wr.heap.size, 0, none⟩) 1 1] 37)
          rwa [size_alloc1] at this)
        change Code.wp _ _ _ _ ((wr.alloc (.cells initCells.toArray 32)).alloc (.cells #[.int .i64 0, strV (firstCl (j + 2)).name, strV [84, 104, 114, 111, 119, 97, 98, 108, 101], zNil, zNil, .slice (some ⟨wr.heap.size, 0, none⟩) 1 1] 37))
        rw [← hwz]
        clear hwz HW2 HR c0'
        have c0z : wz.cell? ⟨w.heap.size, 0, none⟩ = some (.slice ca (j + 2) cc) := HZ.out.1.c0
        have x0 : wz.cell? ⟨wr.heap.size + 1, 0, none⟩ = some (.int .i64 0) := blk_cell HZ.out.2.2.2 rfl
        have x1 : wz.cell? ⟨wr.heap.size + 1, 1, none⟩ = some (strV (firstCl (j + 2)).name) := blk_cell HZ.out.2.2.2 rfl
        have x2 : wz.cell? ⟨wr.heap.size + 1, 2, none⟩ = some (strV [84, 104, 114, 111, 119, 97, 98, 108, 101]) := blk_cell HZ.out.2.2.2 rfl
        have x3 : wz.cell? ⟨wr.heap.size + 1, 3, none⟩ = some zNil := blk_cell HZ.out.2.2.2 rfl
        have x4 : wz.cell? ⟨wr.heap.size + 1, 4, none⟩ = some zNil := blk_cell HZ.out.2.2.2 rfl
        have x5 : wz.cell? ⟨wr.heap.size + 1, 5, none⟩ = some (.slice (some ⟨wr.heap.size, 0, none⟩) 1 1) := blk_cell HZ.out.2.2.2 rfl
        have hbz : w.heap.size < wz.heap.size := HZ.out.1.o_lt _ HZ.out.1.own_b
        have hcz : wr.heap.size + 1 < wz.heap.size := heap_lt HZ.out.2.2.2
        have cz : Chg No wz ((wz.alloc (.cells #[.int .i64 0, strV (firstCl (j + 2)).name, strV [84, 104, 114, 111, 119, 97, 98, 108, 101], zNil, zNil, .slice (some ⟨wr.heap.size, 0, none⟩) 1 1] 37)).drew) := ((Chg.refl No wz).alloc _).drew
        have HN := Lib.hid (And.intro (HZ.out.1.new cz) (goodCl.keep HZ.out.2.1 cz (fun _ _ h => h)))
        have HA := Lib.hid (Src.single (P := Tryz.prog) (n := 6) goodCl HN.out.2 rfl (tx := 38) Tryz.underlying38 ⟨wz.heap.size, 0, none⟩ 1 (At.lit wz [.int .i64 0, strV (firstCl (j + 2)).name, strV [84, 104, 114, 111, 119, 97, 98, 108, 101], zNil, zNil, .slice (some ⟨wr.heap.size, 0, none⟩) 1 1] 37))
        clear cz
        have HL := Lib.hid (show (firsts.take (j + 2)).length = (j + 2) from by rw [List.length_take]; exact Nat.min_eq_left (by show _ ≤ 8; omega))
        go_region_law (refine step_appQ rfl (.tmp 32) (.tmp 34) 38 38 rfl 37 (.agg #[zInt, zStr, zStr, zNil, zNil, zNil]) 112 Tryz.underlying38 info_cl rfl (by decide) goodCl (.slice ca (j + 2) cc) (firsts.take (j + 2)) (by simp [Act.eval, Act.put]) HN.out.1.cl (fun n hn e => HN.out.1.apart n hn (HN.out.1.own_c n e)) (.slice (some ⟨wz.heap.size, 0, none⟩) 1 1) [firstCl (j + 2)] [[.int .i64 0, strV (firstCl (j + 2)).name, strV [84, 104, 114, 111, 119, 97, 98, 108, 101], zNil, zNil, .slice (some ⟨wr.heap.size, 0, none⟩) 1 1]] (by simp [Act.eval, Act.put]) (Els.single HN.out.2 rfl) HA.out (by rw [HL.out]; unfold maxLen; simp only [List.length_cons, List.length_nil]; omega) (by rw [HL.out]; simp only [List.length_cons, List.length_nil]; omega) ?_; intro v' w3 g1 g2 g3; obtain ⟨na, nc, hv'⟩ := g1.form; rw [List.length_append, HL.out, List.length_singleton] at hv'; subst hv'; have kb : w3.heap[w.heap.size]? = some (.cells #[.slice ca (j + 2) cc, .slice pa (j + 2) pc, .bool false] 158 (0, 0)) := ((g2.block _ (HN.out.1.o_lt _ HN.out.1.own_b) (fun e => HN.out.1.ne_c e.symm)).trans HN.out.1.wc); have y0 : w3.cell? ⟨w.heap.size, 0, none⟩ = some (.slice ca (j + 2) cc) := blk_cell kb rfl; have f0 : w3.frozen? ⟨w.heap.size, 0, none⟩ = false := blk_frozen kb 0; have HG := Lib.hid (And.intro g1 (And.intro g2 g3)); clear g1 g2 g3 kb)
        all_goals
          obtain ⟨hC, hCc⟩ := RW.addC HN.out.1 (cs' := firsts.take ((j + 2) + 1)) (by rw [firsts_succ (j + 2) hlt]; exact HG.out.1) HG.out.2.1 HG.out.2.2
          obtain ⟨w4, hw4⟩ : ∃ w4, w4 = w3.setCell ⟨w.heap.size, 0, none⟩ (.slice na ((j + 2) + 1) nc) := ⟨_, rfl⟩
          rw [← hw4] at hC hCc
          change Exit.then _ _ _ _ (w3.setCell ⟨w.heap.size, 0, none⟩ (.slice na ((j + 2) + 1) nc))
          rw [← hw4]
          clear hw4 y0 f0 c0z x0 x1 x2 x3 x4 x5
          have HC := Lib.hid (And.intro (hC.new ((Chg.refl No w4).alloc (.cells #[zNil] 45))) hCc)
          have p1 : w4.cell? ⟨w.heap.size, 1, none⟩ = some (.slice pa (j + 2) pc) := hC.c1
          have HA4 := Lib.hid (Src.single (P := Tryz.prog) (n := 1) (S := fun n => S n ∨ n = wr.heap.size) (R := RPl) goodPl (x := []) ⟨zNil, rfl, SQ.nil⟩ rfl (tx := 156) Tryz.underlying156 ⟨w4.heap.size, 0, none⟩ 1 (At.lit w4 [zNil] 45))
          clear hC hCc
          go_wp2_with (at_builtin; (refine wpList_appQ rfl (.tmp 42) (.tmp 43) 156 156 rfl 45 zNil 24 Tryz.underlying156 info_pl rfl (by decide) goodPl (.slice pa (j + 2) pc) (List.replicate ((j + 2)) []) rfl HC.out.1.po (fun n hn e => HC.out.1.apart n hn (HC.out.1.own_p n e)) (.slice (some ⟨w4.heap.size, 0, none⟩) 1 1) [[]] [[zNil]] rfl (Els.single ⟨zNil, rfl, SQ.nil⟩ rfl) HA4.out (by rw [List.length_replicate]; unfold maxLen; simp only [List.length_cons, List.length_nil]; omega) (by rw [List.length_replicate]; simp only [List.length_cons, List.length_nil]; omega) ?_); intro pv' w5 e1 e2 e3; obtain ⟨npa, npc, hv5⟩ := e1.form; rw [List.length_append, List.length_replicate, List.length_singleton] at hv5; subst hv5; have kb5 : w5.heap[w.heap.size]? = some (.cells #[.slice na ((j + 2) + 1) nc, .slice pa (j + 2) pc, .bool false] 158 (0, 0)) := ((e2.block _ (HC.out.1.o_lt _ HC.out.1.own_b) (fun e => HC.out.1.ne_p e.symm)).trans HC.out.1.wc); have y5 : w5.cell? ⟨w.heap.size, 1, none⟩ = some (.slice pa (j + 2) pc) := blk_cell kb5 rfl; have f5 : w5.frozen? ⟨w.heap.size, 1, none⟩ = false := blk_frozen kb5 1; have HE := Lib.hid (And.intro e1 (And.intro e2 e3)); clear e1 e2 e3 kb5)
          obtain ⟨hP, hPc⟩ := RW.addP HC.out.1 (ps' := List.replicate ((j + 2) + 1) []) (by rw [List.replicate_succ']; exact HE.out.1) HE.out.2.1 HE.out.2.2
          have HP := Lib.hid (And.intro hP hPc)
          clear hP hPc y5 f5 p1
          go_roundw
          case rel =>
            refine ⟨(j + 2) + 1, _, _, _, _, by omega, by go_num, Lib.hid ⟨HP.out.1, fun n hn => ?_, fun n hn => ?_, ?_, ?_⟩⟩
            · have hl := heap_lt hI.out.lit
              have z1 := HZ.out.2.2.1.size
              have z2 := HC.out.2.size
              have z3 : wz.heap.size ≤ ((wz.alloc (.cells #[.int .i64 0, strV (firstCl (j + 2)).name, strV [84, 104, 114, 111, 119, 97, 98, 108, 101], zNil, zNil, .slice (some ⟨wr.heap.size, 0, none⟩) 1 1] 37)).drew).heap.size := size_al _ _
              rcases hn with (hn | hn) | hn
              · exact hI.out.newO n hn
              · rcases HG.out.2.2 with e | ⟨m, e, hm⟩
                · rw [e] at hn; exact hI.out.newO n (hI.out.rw_.own_c n hn)
                · rw [e] at hn; cases hn; omega
              · rcases HE.out.2.2 with e | ⟨m, e, hm⟩
                · rw [e] at hn; exact hI.out.newO n (hI.out.rw_.own_p n hn)
                · rw [e] at hn; cases hn; rw [size_alloc1] at hm; omega
            · rcases hn with hn | hn
              · exact hI.out.newS n hn
              · have := hI.out.chg.size; omega
            · have d1 := hI.out.chg.trans HZ.out.2.2.1 (fun _ _ h => h)
              have d2 := (d1.alloc (.cells #[.int .i64 0, strV (firstCl (j + 2)).name, strV [84, 104, 114, 111, 119, 97, 98, 108, 101], zNil, zNil, .slice (some ⟨wr.heap.size, 0, none⟩) 1 1] 37)).drew.trans HC.out.2 (fun n hn ho => by have := (hI.out.newO n ho).2; omega)
              exact (d2.alloc (.cells #[zNil] 45)).trans HP.out.2 (fun n hn ho => by
                rcases ho with ho | ho
                · have := (hI.out.newO n ho).2; omega
                · have z1 := HZ.out.2.2.1.size
                  have z3 : wz.heap.size ≤ ((wz.alloc (.cells #[.int .i64 0, strV (firstCl (j + 2)).name, strV [84, 104, 114, 111, 119, 97, 98, 108, 101], zNil, zNil, .slice (some ⟨wr.heap.size, 0, none⟩) 1 1] 37)).drew).heap.size := size_al _ _
                  rcases HG.out.2.2 with e | ⟨m, e, hm⟩
                  · rw [e] at ho; have := (hI.out.newO n (hI.out.rw_.own_c n ho)).2; omega
                  · rw [e] at ho; cases ho; have := hI.out.chg.size; omega)
            · have hl := heap_lt hI.out.lit
              have z1 := HZ.out.2.2.1.size
              have z3 : wz.heap.size ≤ ((wz.alloc (.cells #[.int .i64 0, strV (firstCl (j + 2)).name, strV [84, 104, 114, 111, 119, 97, 98, 108, 101], zNil, zNil, .slice (some ⟨wr.heap.size, 0, none⟩) 1 1] 37)).drew).heap.size := size_al _ _
              have z2 := HC.out.2.size
              have nO : ¬ O (w.heap.size + 1) := fun ho => (hI.out.newO _ ho).1 rfl
              rw [HP.out.2.block _ (by rw [size_alloc1]; omega) (fun ho => by
                rcases ho with ho | ho
                · exact nO ho
                · rcases HG.out.2.2 with e | ⟨m, e, hm⟩
                  · rw [e] at ho; exact nO (hI.out.rw_.own_c _ ho)
                  · rw [e] at ho; cases ho; omega), Below.heap_alloc _ _ _ (by omega), HC.out.2.block _ (by omega) nO]
              exact (((Chg.refl No wz).alloc (.cells #[.int .i64 0, strV (firstCl (j + 2)).name, strV [84, 104, 114, 111, 119, 97, 98, 108, 101], zNil, zNil, .slice (some ⟨wr.heap.size, 0, none⟩) 1 1] 37)).drew.block _ (by omega) (fun h => h)).trans ((HZ.out.2.2.1.block _ hl (fun h => h)).trans hI.out.lit)
          case measure => first | (simp [intOf]; done) | (simp [intOf]; omega)
    · have hk8 : k = 8 := by omega
      subst hk8
      go_wp2
      go_ret
      exact ⟨S, O, cv, pv, rfl, hI.out⟩
end Go.Proofs.YtgmmclcpfmnoiaaGreatDoor
