/-
  Package module's flagged, walked at any class.
-/
import Derived.Test.YtgmmclcpfmnoiaaGreatDoorModC
namespace Go.Proofs.YtgmmclcpfmnoiaaGreatDoor
open Go.RowKit

def flaggedX (cf mf : Int) (vo ini : Bool) (st lo : Int) (nc nh : Nat) : Int :=
  if (ini && mf != 0) = true then 21
  else if (ini && !vo) = true then 15
  else if (cf == 1 && mf != 2) = true then 33
  else if (mf == 2 && cf == 0) = true then 21
  else if (mf == 2 && (st != 0 || lo != 0 || decide (0 < nc) || decide (0 < nh))) = true then 1
  else 0
theorem flaggedM_x {c : Cl} {m : Mt} : flaggedM c m = flaggedX c.flags m.flags m.sig.void (m.name == [60, 105, 110, 105, 116, 62]) m.stack m.locals_ m.code.length m.handlers.length := by
  unfold flaggedM flaggedX
  simp only [Bool.and_eq_true, Bool.or_eq_true, beq_iff_eq, bne_iff_ne, decide_eq_true_eq, Bool.not_eq_true', or_assoc]
section
variable {S : Blocks} {w : World} {c : Cl}
set_option maxRecDepth 100000 in
set_option maxHeartbeats 6400000 in
theorem flagged_c (c : Cl) (m : Mt) (nv sv fv gv mv v : Value) (cv hv : Value) (hc : SQ 1 RByte S w cv m.code) (hh : SQ 4 RHd S w hv m.handlers) :
    Calls Tryz.prog 126 #[.agg #[.int .i64 c.flags, nv, sv, fv, gv, mv], .agg (mtC m v cv hv)] w fun e w' => e = .returned (.int .i64 (flaggedM c m)) ∧ Chg No w w' := by
  obtain ⟨a2, c2, rfl, -, -⟩ := hc.form
  obtain ⟨a4, c4, rfl, -, -⟩ := hh.form
  clear hc hh
  have size_al1 : ∀ (w : World) (ob : Obj), (w.alloc ob).heap.size = w.heap.size + 1 := fun w ob => by simp
  obtain ⟨cf, hcf⟩ : ∃ cf, cf = c.flags := ⟨_, rfl⟩
  obtain ⟨mf, hmf⟩ : ∃ mf, mf = m.flags := ⟨_, rfl⟩
  obtain ⟨vo, hvo⟩ : ∃ vo, vo = m.sig.void := ⟨_, rfl⟩
  have hEq : flaggedM c m = flaggedX cf mf vo (m.name == [60, 105, 110, 105, 116, 62]) m.stack m.locals_ m.code.length m.handlers.length := by
    rw [hcf, hmf, hvo]; exact flaggedM_x
  rw [hEq]
  unfold mtC
  rw [← hcf, ← hmf, ← hvo]
  clear hcf hmf hvo hEq
  obtain ⟨R, hR⟩ : ∃ R, R = flaggedX cf mf vo (m.name == [60, 105, 110, 105, 116, 62]) m.stack m.locals_ m.code.length m.handlers.length := ⟨_, rfl⟩
  rw [← hR]
  have HI := Lib.hid hR
  clear hR
  cases hi : m.name == [60, 105, 110, 105, 116, 62] with
  | true =>
    rw [hi] at HI
    by_cases hf : mf = 0
    · subst hf
      cases vo with
      | false =>
        have hE := Lib.hid (show (15 : Int) = R by rw [HI.out]; rfl)
        go_enter Tryz.func126, Tryz.ntmps126
        go_wp2
        go_ret
        exact ⟨ret_int hE.out.symm, ((Chg.refl No w).alloc _).alloc _⟩
      | true =>
        by_cases h1 : cf = 1
        · subst h1
          have hE := Lib.hid (show (33 : Int) = R by rw [HI.out]; rfl)
          go_enter Tryz.func126, Tryz.ntmps126
          go_wp2_with fail
          refine (face_c _ _ _ _ _ _ _).mono ?_
          rintro e w1 ⟨rfl, d⟩
          have D := Lib.hid ((((Chg.refl No w).alloc _).alloc _).trans d (fun _ _ h => h))
          have HB := Lib.hid (And.intro (d.blk (alloc_blk (heap_alloc_new w _))) (d.blk (heap_alloc_new (w.alloc _) _)))
          clear d
          have y0 := blk_cell HB.out.1 (j := 0) rfl
          have x0 := blk_cell HB.out.2 (j := 0) rfl
          have x6 := blk_cell HB.out.2 (j := 6) rfl
          have x7 := blk_cell HB.out.2 (j := 7) rfl
          have x8 := blk_cell HB.out.2 (j := 8) rfl
          have x9 := blk_cell HB.out.2 (j := 9) rfl
          rw [size_al1] at x0 x6 x7 x8 x9
          go_wp2
          go_ret
          exact ⟨ret_int hE.out.symm, D.out⟩
        · have hb : (cf == 1) = false := by simpa using h1
          have hE := Lib.hid (show (0 : Int) = R by rw [HI.out]; unfold flaggedX; rw [hb]; rfl)
          clear h1
          go_enter Tryz.func126, Tryz.ntmps126
          go_wp2_with fail
          refine (face_c _ _ _ _ _ _ _).mono ?_
          rintro e w1 ⟨rfl, d⟩
          have D := Lib.hid ((((Chg.refl No w).alloc _).alloc _).trans d (fun _ _ h => h))
          have HB := Lib.hid (And.intro (d.blk (alloc_blk (heap_alloc_new w _))) (d.blk (heap_alloc_new (w.alloc _) _)))
          clear d
          have y0 := blk_cell HB.out.1 (j := 0) rfl
          have x0 := blk_cell HB.out.2 (j := 0) rfl
          have x6 := blk_cell HB.out.2 (j := 6) rfl
          have x7 := blk_cell HB.out.2 (j := 7) rfl
          have x8 := blk_cell HB.out.2 (j := 8) rfl
          have x9 := blk_cell HB.out.2 (j := 9) rfl
          rw [size_al1] at x0 x6 x7 x8 x9
          go_wp2
          go_ret
          exact ⟨ret_int hE.out.symm, D.out⟩
    · have hb : (mf != 0) = true := by simpa using hf
      have hE := Lib.hid (show (21 : Int) = R by rw [HI.out]; unfold flaggedX; rw [hb]; rfl)
      clear hf
      go_enter Tryz.func126, Tryz.ntmps126
      go_wp2
      go_ret
      exact ⟨ret_int hE.out.symm, ((Chg.refl No w).alloc _).alloc _⟩
  | false =>
    rw [hi] at HI
    by_cases hf : mf = 2
    · subst hf
      by_cases h0 : cf = 0
      · subst h0
        have hE := Lib.hid (show (21 : Int) = R by rw [HI.out]; rfl)
        go_enter Tryz.func126, Tryz.ntmps126
        go_wp2_with fail
        refine (face_c _ _ _ _ _ _ _).mono ?_
        rintro e w1 ⟨rfl, d⟩
        have D := Lib.hid ((((Chg.refl No w).alloc _).alloc _).trans d (fun _ _ h => h))
        have HB := Lib.hid (And.intro (d.blk (alloc_blk (heap_alloc_new w _))) (d.blk (heap_alloc_new (w.alloc _) _)))
        clear d
        have y0 := blk_cell HB.out.1 (j := 0) rfl
        have x0 := blk_cell HB.out.2 (j := 0) rfl
        have x6 := blk_cell HB.out.2 (j := 6) rfl
        have x7 := blk_cell HB.out.2 (j := 7) rfl
        have x8 := blk_cell HB.out.2 (j := 8) rfl
        have x9 := blk_cell HB.out.2 (j := 9) rfl
        rw [size_al1] at x0 x6 x7 x8 x9
        go_wp2
        go_ret
        exact ⟨ret_int hE.out.symm, D.out⟩
      · have hz : (cf == 0) = false := by simpa using h0
        have key : flaggedX cf 2 vo false m.stack m.locals_ m.code.length m.handlers.length = if (m.stack != 0 || m.locals_ != 0 || decide (0 < m.code.length) || decide (0 < m.handlers.length)) = true then 1 else 0 := by
          unfold flaggedX; rw [hz]; cases (cf == 1) <;> rfl
        have KEY := Lib.hid (HI.out.trans key)
        clear h0 key
        by_cases h1 : cf = 1
        · subst h1
          cases hs : m.stack != 0 with
          | true =>
            have hE := Lib.hid (show (1 : Int) = R by rw [KEY.out]; simp [hs])
            go_enter Tryz.func126, Tryz.ntmps126
            go_wp2_with fail
            refine (face_c _ _ _ _ _ _ _).mono ?_
            rintro e w1 ⟨rfl, d⟩
            have D := Lib.hid ((((Chg.refl No w).alloc _).alloc _).trans d (fun _ _ h => h))
            have HB := Lib.hid (And.intro (d.blk (alloc_blk (heap_alloc_new w _))) (d.blk (heap_alloc_new (w.alloc _) _)))
            clear d
            have y0 := blk_cell HB.out.1 (j := 0) rfl
            have x0 := blk_cell HB.out.2 (j := 0) rfl
            have x6 := blk_cell HB.out.2 (j := 6) rfl
            have x7 := blk_cell HB.out.2 (j := 7) rfl
            have x8 := blk_cell HB.out.2 (j := 8) rfl
            have x9 := blk_cell HB.out.2 (j := 9) rfl
            rw [size_al1] at x0 x6 x7 x8 x9
            go_wp2
            go_ret
            exact ⟨ret_int hE.out.symm, D.out⟩
          | false =>
          cases hl : m.locals_ != 0 with
          | true =>
            have hE := Lib.hid (show (1 : Int) = R by rw [KEY.out]; simp [hs, hl])
            go_enter Tryz.func126, Tryz.ntmps126
            go_wp2_with fail
            refine (face_c _ _ _ _ _ _ _).mono ?_
            rintro e w1 ⟨rfl, d⟩
            have D := Lib.hid ((((Chg.refl No w).alloc _).alloc _).trans d (fun _ _ h => h))
            have HB := Lib.hid (And.intro (d.blk (alloc_blk (heap_alloc_new w _))) (d.blk (heap_alloc_new (w.alloc _) _)))
            clear d
            have y0 := blk_cell HB.out.1 (j := 0) rfl
            have x0 := blk_cell HB.out.2 (j := 0) rfl
            have x6 := blk_cell HB.out.2 (j := 6) rfl
            have x7 := blk_cell HB.out.2 (j := 7) rfl
            have x8 := blk_cell HB.out.2 (j := 8) rfl
            have x9 := blk_cell HB.out.2 (j := 9) rfl
            rw [size_al1] at x0 x6 x7 x8 x9
            go_wp2
            go_ret
            exact ⟨ret_int hE.out.symm, D.out⟩
          | false =>
          by_cases hc : 0 < m.code.length
          · have hE := Lib.hid (show (1 : Int) = R by rw [KEY.out]; simp [hs, hl, hc])
            have hci : (m.code.length : Int) > 0 := by omega
            go_enter Tryz.func126, Tryz.ntmps126
            go_wp2_with fail
            refine (face_c _ _ _ _ _ _ _).mono ?_
            rintro e w1 ⟨rfl, d⟩
            have D := Lib.hid ((((Chg.refl No w).alloc _).alloc _).trans d (fun _ _ h => h))
            have HB := Lib.hid (And.intro (d.blk (alloc_blk (heap_alloc_new w _))) (d.blk (heap_alloc_new (w.alloc _) _)))
            clear d
            have y0 := blk_cell HB.out.1 (j := 0) rfl
            have x0 := blk_cell HB.out.2 (j := 0) rfl
            have x6 := blk_cell HB.out.2 (j := 6) rfl
            have x7 := blk_cell HB.out.2 (j := 7) rfl
            have x8 := blk_cell HB.out.2 (j := 8) rfl
            have x9 := blk_cell HB.out.2 (j := 9) rfl
            rw [size_al1] at x0 x6 x7 x8 x9
            go_wp2
            go_ret
            exact ⟨ret_int hE.out.symm, D.out⟩
          have hci : ¬ (m.code.length : Int) > 0 := by omega
          by_cases hh : 0 < m.handlers.length
          · have hE := Lib.hid (show (1 : Int) = R by rw [KEY.out]; simp [hs, hl, hh])
            have hhi : (m.handlers.length : Int) > 0 := by omega
            go_enter Tryz.func126, Tryz.ntmps126
            go_wp2_with fail
            refine (face_c _ _ _ _ _ _ _).mono ?_
            rintro e w1 ⟨rfl, d⟩
            have D := Lib.hid ((((Chg.refl No w).alloc _).alloc _).trans d (fun _ _ h => h))
            have HB := Lib.hid (And.intro (d.blk (alloc_blk (heap_alloc_new w _))) (d.blk (heap_alloc_new (w.alloc _) _)))
            clear d
            have y0 := blk_cell HB.out.1 (j := 0) rfl
            have x0 := blk_cell HB.out.2 (j := 0) rfl
            have x6 := blk_cell HB.out.2 (j := 6) rfl
            have x7 := blk_cell HB.out.2 (j := 7) rfl
            have x8 := blk_cell HB.out.2 (j := 8) rfl
            have x9 := blk_cell HB.out.2 (j := 9) rfl
            rw [size_al1] at x0 x6 x7 x8 x9
            go_wp2
            go_ret
            exact ⟨ret_int hE.out.symm, D.out⟩
          · have hE := Lib.hid (show (0 : Int) = R by rw [KEY.out]; simp [hs, hl, hc, hh])
            have hhi : ¬ (m.handlers.length : Int) > 0 := by omega
            go_enter Tryz.func126, Tryz.ntmps126
            go_wp2_with fail
            refine (face_c _ _ _ _ _ _ _).mono ?_
            rintro e w1 ⟨rfl, d⟩
            have D := Lib.hid ((((Chg.refl No w).alloc _).alloc _).trans d (fun _ _ h => h))
            have HB := Lib.hid (And.intro (d.blk (alloc_blk (heap_alloc_new w _))) (d.blk (heap_alloc_new (w.alloc _) _)))
            clear d
            have y0 := blk_cell HB.out.1 (j := 0) rfl
            have x0 := blk_cell HB.out.2 (j := 0) rfl
            have x6 := blk_cell HB.out.2 (j := 6) rfl
            have x7 := blk_cell HB.out.2 (j := 7) rfl
            have x8 := blk_cell HB.out.2 (j := 8) rfl
            have x9 := blk_cell HB.out.2 (j := 9) rfl
            rw [size_al1] at x0 x6 x7 x8 x9
            go_wp2
            go_ret
            exact ⟨ret_int hE.out.symm, D.out⟩
        · have hb0 : (cf == 1) = false := by simpa using h1
          clear h1
          cases hs : m.stack != 0 with
          | true =>
            have hE := Lib.hid (show (1 : Int) = R by rw [KEY.out]; simp [hs])
            go_enter Tryz.func126, Tryz.ntmps126
            go_wp2_with fail
            refine (face_c _ _ _ _ _ _ _).mono ?_
            rintro e w1 ⟨rfl, d⟩
            have D := Lib.hid ((((Chg.refl No w).alloc _).alloc _).trans d (fun _ _ h => h))
            have HB := Lib.hid (And.intro (d.blk (alloc_blk (heap_alloc_new w _))) (d.blk (heap_alloc_new (w.alloc _) _)))
            clear d
            have y0 := blk_cell HB.out.1 (j := 0) rfl
            have x0 := blk_cell HB.out.2 (j := 0) rfl
            have x6 := blk_cell HB.out.2 (j := 6) rfl
            have x7 := blk_cell HB.out.2 (j := 7) rfl
            have x8 := blk_cell HB.out.2 (j := 8) rfl
            have x9 := blk_cell HB.out.2 (j := 9) rfl
            rw [size_al1] at x0 x6 x7 x8 x9
            go_wp2
            go_ret
            exact ⟨ret_int hE.out.symm, D.out⟩
          | false =>
          cases hl : m.locals_ != 0 with
          | true =>
            have hE := Lib.hid (show (1 : Int) = R by rw [KEY.out]; simp [hs, hl])
            go_enter Tryz.func126, Tryz.ntmps126
            go_wp2_with fail
            refine (face_c _ _ _ _ _ _ _).mono ?_
            rintro e w1 ⟨rfl, d⟩
            have D := Lib.hid ((((Chg.refl No w).alloc _).alloc _).trans d (fun _ _ h => h))
            have HB := Lib.hid (And.intro (d.blk (alloc_blk (heap_alloc_new w _))) (d.blk (heap_alloc_new (w.alloc _) _)))
            clear d
            have y0 := blk_cell HB.out.1 (j := 0) rfl
            have x0 := blk_cell HB.out.2 (j := 0) rfl
            have x6 := blk_cell HB.out.2 (j := 6) rfl
            have x7 := blk_cell HB.out.2 (j := 7) rfl
            have x8 := blk_cell HB.out.2 (j := 8) rfl
            have x9 := blk_cell HB.out.2 (j := 9) rfl
            rw [size_al1] at x0 x6 x7 x8 x9
            go_wp2
            go_ret
            exact ⟨ret_int hE.out.symm, D.out⟩
          | false =>
          by_cases hc : 0 < m.code.length
          · have hE := Lib.hid (show (1 : Int) = R by rw [KEY.out]; simp [hs, hl, hc])
            have hci : (m.code.length : Int) > 0 := by omega
            go_enter Tryz.func126, Tryz.ntmps126
            go_wp2_with fail
            refine (face_c _ _ _ _ _ _ _).mono ?_
            rintro e w1 ⟨rfl, d⟩
            have D := Lib.hid ((((Chg.refl No w).alloc _).alloc _).trans d (fun _ _ h => h))
            have HB := Lib.hid (And.intro (d.blk (alloc_blk (heap_alloc_new w _))) (d.blk (heap_alloc_new (w.alloc _) _)))
            clear d
            have y0 := blk_cell HB.out.1 (j := 0) rfl
            have x0 := blk_cell HB.out.2 (j := 0) rfl
            have x6 := blk_cell HB.out.2 (j := 6) rfl
            have x7 := blk_cell HB.out.2 (j := 7) rfl
            have x8 := blk_cell HB.out.2 (j := 8) rfl
            have x9 := blk_cell HB.out.2 (j := 9) rfl
            rw [size_al1] at x0 x6 x7 x8 x9
            go_wp2
            go_ret
            exact ⟨ret_int hE.out.symm, D.out⟩
          have hci : ¬ (m.code.length : Int) > 0 := by omega
          by_cases hh : 0 < m.handlers.length
          · have hE := Lib.hid (show (1 : Int) = R by rw [KEY.out]; simp [hs, hl, hh])
            have hhi : (m.handlers.length : Int) > 0 := by omega
            go_enter Tryz.func126, Tryz.ntmps126
            go_wp2_with fail
            refine (face_c _ _ _ _ _ _ _).mono ?_
            rintro e w1 ⟨rfl, d⟩
            have D := Lib.hid ((((Chg.refl No w).alloc _).alloc _).trans d (fun _ _ h => h))
            have HB := Lib.hid (And.intro (d.blk (alloc_blk (heap_alloc_new w _))) (d.blk (heap_alloc_new (w.alloc _) _)))
            clear d
            have y0 := blk_cell HB.out.1 (j := 0) rfl
            have x0 := blk_cell HB.out.2 (j := 0) rfl
            have x6 := blk_cell HB.out.2 (j := 6) rfl
            have x7 := blk_cell HB.out.2 (j := 7) rfl
            have x8 := blk_cell HB.out.2 (j := 8) rfl
            have x9 := blk_cell HB.out.2 (j := 9) rfl
            rw [size_al1] at x0 x6 x7 x8 x9
            go_wp2
            go_ret
            exact ⟨ret_int hE.out.symm, D.out⟩
          · have hE := Lib.hid (show (0 : Int) = R by rw [KEY.out]; simp [hs, hl, hc, hh])
            have hhi : ¬ (m.handlers.length : Int) > 0 := by omega
            go_enter Tryz.func126, Tryz.ntmps126
            go_wp2_with fail
            refine (face_c _ _ _ _ _ _ _).mono ?_
            rintro e w1 ⟨rfl, d⟩
            have D := Lib.hid ((((Chg.refl No w).alloc _).alloc _).trans d (fun _ _ h => h))
            have HB := Lib.hid (And.intro (d.blk (alloc_blk (heap_alloc_new w _))) (d.blk (heap_alloc_new (w.alloc _) _)))
            clear d
            have y0 := blk_cell HB.out.1 (j := 0) rfl
            have x0 := blk_cell HB.out.2 (j := 0) rfl
            have x6 := blk_cell HB.out.2 (j := 6) rfl
            have x7 := blk_cell HB.out.2 (j := 7) rfl
            have x8 := blk_cell HB.out.2 (j := 8) rfl
            have x9 := blk_cell HB.out.2 (j := 9) rfl
            rw [size_al1] at x0 x6 x7 x8 x9
            go_wp2
            go_ret
            exact ⟨ret_int hE.out.symm, D.out⟩
    · have hb : (mf == 2) = false := by simpa using hf
      have hb' : (mf != 2) = true := by simpa using hf
      by_cases h1 : cf = 1
      · subst h1
        have hE := Lib.hid (show (33 : Int) = R by rw [HI.out]; unfold flaggedX; rw [hb']; rfl)
        clear hf
        go_enter Tryz.func126, Tryz.ntmps126
        go_wp2_with fail
        refine (face_c _ _ _ _ _ _ _).mono ?_
        rintro e w1 ⟨rfl, d⟩
        have D := Lib.hid ((((Chg.refl No w).alloc _).alloc _).trans d (fun _ _ h => h))
        have HB := Lib.hid (And.intro (d.blk (alloc_blk (heap_alloc_new w _))) (d.blk (heap_alloc_new (w.alloc _) _)))
        clear d
        have y0 := blk_cell HB.out.1 (j := 0) rfl
        have x0 := blk_cell HB.out.2 (j := 0) rfl
        have x6 := blk_cell HB.out.2 (j := 6) rfl
        have x7 := blk_cell HB.out.2 (j := 7) rfl
        have x8 := blk_cell HB.out.2 (j := 8) rfl
        have x9 := blk_cell HB.out.2 (j := 9) rfl
        rw [size_al1] at x0 x6 x7 x8 x9
        go_wp2
        go_ret
        exact ⟨ret_int hE.out.symm, D.out⟩
      · have hc1 : (cf == 1) = false := by simpa using h1
        have hE := Lib.hid (show (0 : Int) = R by rw [HI.out]; unfold flaggedX; rw [hb, hb', hc1]; rfl)
        clear hf h1
        go_enter Tryz.func126, Tryz.ntmps126
        go_wp2_with fail
        refine (face_c _ _ _ _ _ _ _).mono ?_
        rintro e w1 ⟨rfl, d⟩
        have D := Lib.hid ((((Chg.refl No w).alloc _).alloc _).trans d (fun _ _ h => h))
        have HB := Lib.hid (And.intro (d.blk (alloc_blk (heap_alloc_new w _))) (d.blk (heap_alloc_new (w.alloc _) _)))
        clear d
        have y0 := blk_cell HB.out.1 (j := 0) rfl
        have x0 := blk_cell HB.out.2 (j := 0) rfl
        have x6 := blk_cell HB.out.2 (j := 6) rfl
        have x7 := blk_cell HB.out.2 (j := 7) rfl
        have x8 := blk_cell HB.out.2 (j := 8) rfl
        have x9 := blk_cell HB.out.2 (j := 9) rfl
        rw [size_al1] at x0 x6 x7 x8 x9
        go_wp2
        go_ret
        exact ⟨ret_int hE.out.symm, D.out⟩
end

end Go.Proofs.YtgmmclcpfmnoiaaGreatDoor
