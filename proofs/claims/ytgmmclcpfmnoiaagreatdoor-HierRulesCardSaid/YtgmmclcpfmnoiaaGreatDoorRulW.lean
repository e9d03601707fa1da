/-
  The walk of the law HierRules.
-/
import Derived.Test.YtgmmclcpfmnoiaaGreatDoorRulX
import Derived.Deep.CutBlock
namespace Go.Proofs.YtgmmclcpfmnoiaaGreatDoor
open Go.RowKit

abbrev nCc : List Value := [.int .i64 0, strV noneN, strV objectName, zNil, zNil, zNil]
set_option maxRecDepth 100000 in
set_option maxHeartbeats 12800000 in
theorem rules_walk (w : World) (a : Int) (h1 : -9223372036854775808 ≤ a) (h2 : a ≤ 9223372036854775807) :
    Calls Tryz.prog 3 #[.int .i64 a] w fun e w' => e = .returned (.bool true) ∧ Chg No w w' := by
  go_enter Tryz.func3, Tryz.ntmps3
  go_wp2_with fail
  refine (knownG w).mono ?_
  rintro e w1 ⟨rfl, d1⟩
  have D1 := Lib.hid d1; clear d1
  go_wp2_with fail
  refine (withinG_c w1 a 9 (by omega) (by omega) h1 h2).mono ?_
  rintro e w2 ⟨kk, hkk, rfl, rfl⟩
  go_upto_block 0 with fail
  change Code.wp _ _ _ _ ((rObjs w2.heap.size).foldl World.alloc w2)
  obtain ⟨hC9, hs9, hb9⟩ := alloc_all (rObjs w2.heap.size) w2
  have HRG := Lib.hid (fun (S : Blocks) (W : World) (d : Chg (· = w2.heap.size + 9) ((rObjs w2.heap.size).foldl World.alloc w2) W) (hS : ∀ k, w2.heap.size ≤ k → k < w2.heap.size + 9 → S k) => good_read (S := S) w2 d hS)
  obtain ⟨W9, hW9⟩ : ∃ W9, W9 = (rObjs w2.heap.size).foldl World.alloc w2 := ⟨_, rfl⟩
  rw [← hW9] at hC9 hs9 hb9 HRG ⊢
  have hs9' : W9.heap.size = w2.heap.size + 10 := hs9
  have HB := Lib.hid hb9
  have hX := hb9 9 _ rfl
  have hM5 := hb9 4 _ rfl
  have HX := Lib.hid hX
  have HM5 := Lib.hid hM5
  have HC9 := Lib.hid hC9
  clear hC9 hs9 hb9 hW9 hX hM5
  obtain ⟨n, hn⟩ : ∃ n, n = w2.heap.size := ⟨_, rfl⟩
  go_cut [0, 9] from 18 to 74 (fun s0 s9 wy => ∃ fv dv mv : Value, s0 = .int .i64 kk ∧ s9 = .int .i64 (rWant kk) ∧ RowKit.Hid (XR kk W9 w2.heap.size wy fv dv mv))
  case first =>
    have f2 := blk_frozen HX.out 2
    have f3 := blk_frozen HX.out 3
    have f4 := blk_frozen HX.out 4
    have f5 := blk_frozen HX.out 5
    have c2 := blk_cell HX.out (j := 2) rfl
    have c3 := blk_cell HX.out (j := 3) rfl
    have c4 := blk_cell HX.out (j := 4) rfl
    have c5 := blk_cell HX.out (j := 5) rfl
    have hxl := heap_lt HX.out
    have m0 := blk_cell HM5.out (j := 0) rfl
    have m1 := blk_cell HM5.out (j := 1) rfl
    have m2 := blk_cell HM5.out (j := 2) rfl
    have m3 := blk_cell HM5.out (j := 3) rfl
    have m4 := blk_cell HM5.out (j := 4) rfl
    have m5 := blk_cell HM5.out (j := 5) rfl
    have m6 := blk_cell HM5.out (j := 6) rfl
    have m7 := blk_cell HM5.out (j := 7) rfl
    have m8 := blk_cell HM5.out (j := 8) rfl
    have m9 := blk_cell HM5.out (j := 9) rfl
    have h3b := HB.out 3 _ rfl
    rcases (by omega : kk = 0 ∨ kk = 1 ∨ kk = 2 ∨ kk = 3 ∨ kk = 4 ∨ kk = 5 ∨ kk = 6 ∨ kk = 7 ∨ kk = 8) with hk | hk | hk | hk | hk | hk | hk | hk | hk
    · subst hk
      go_wp2_with fail
      go_meet
      exact ⟨zNil, zNil, zNil, rfl, rfl, Lib.hid (xr_super (.inl rfl) HX.out)⟩
    · subst hk
      go_wp2_with fail
      go_meet
      exact ⟨_, zNil, zNil, rfl, rfl, Lib.hid (xr_face (k := 1) (s := noneN) rfl hs9' HX.out)⟩
    · subst hk
      go_wp2_with fail
      go_meet
      exact ⟨zNil, zNil, zNil, rfl, rfl, Lib.hid (xr_super (.inr (.inl rfl)) HX.out)⟩
    · subst hk
      go_wp2_with fail
      go_meet
      exact ⟨_, zNil, zNil, rfl, rfl, Lib.hid (xr_face (k := 3) (s := [65]) rfl hs9' HX.out)⟩
    · subst hk
      go_wp2_with fail
      go_meet
      exact ⟨zNil, zNil, zNil, rfl, rfl, Lib.hid (xr_super (.inr (.inr rfl)) HX.out)⟩
    · subst hk
      go_wp2_with fail
      go_meet
      exact ⟨zNil, _, zNil, rfl, rfl, Lib.hid (xr_field hs9' HX.out)⟩
    · subst hk
      go_wp2_with fail
      go_meet
      exact ⟨zNil, zNil, _, rfl, rfl, Lib.hid (xr_meth hs9' HX.out h3b)⟩
    · subst hk
      go_wp2_with fail
      go_meet
      exact ⟨_, zNil, zNil, rfl, rfl, Lib.hid (xr_seven hs9' HX.out)⟩
    · subst hk
      go_wp2_with fail
      go_meet
      exact ⟨_, zNil, zNil, rfl, rfl, Lib.hid (xr_face (k := 8) (s := [73]) rfl hs9' HX.out)⟩
  case rest =>
    obtain ⟨fv, dv, mv, rfl, rfl, hY⟩ := hcut
    have hBlk := Lib.hid (fun (i : Nat) (o : Obj) (hi : i < 9) (ho : (rObjs w2.heap.size)[i]? = some o) => (hY.out.1.block _ (heap_lt (HB.out i o ho)) (by omega)).trans (HB.out i o ho))
    have hys := hY.out.1.size
    rw [hs9'] at hys
    have HWY := Lib.hid ((D1.out.trans HC9.out (fun _ _ h => h)).trans hY.out.1 (fun q hq h => by have := D1.out.size; omega))
    go_wp2_with fail
    refine (new_c wc).mono ?_
    rintro e w4 ⟨S, O, nv, es, rfl, hN⟩
    have L4 := Lib.hid (LB.of_new hN)
    have h4s := hN.chg.size
    clear hN
    go_wp2_with fail
    refine (lb_add L4.out (fun j => w2.heap.size ≤ j ∧ j < w2.heap.size + 9) rGood _ (HRG.out _ w4 (hY.out.1.trans L4.out.chg (fun _ _ h => h.elim)) (fun k a b => ⟨a, b⟩)) (fun k hk => by omega) good_ret (by decide) r_module (by decide) good_new (by decide)).mono ?_
    rintro e w5 ⟨rfl, S2, O2, nv2, es2, hL5⟩
    have L5 := Lib.hid hL5; clear hL5
    have hXb := L5.out.chg.blk hY.out.2.1
    have hRx := Lib.hid (RCl.keepCl hY.out.2.2 L5.out.chg)
    obtain ⟨fa, fc, efv⟩ : ∃ a c, fv = .slice a (xCl kk).faces.length c := by
      obtain ⟨f, g, m, e1, q1, q2, q3⟩ := hY.out.2.2
      simp only [xCc, List.cons.injEq, and_true] at e1
      obtain ⟨-, -, -, rfl, rfl, rfl⟩ := e1
      obtain ⟨a, c, rfl, -⟩ := q1.form
      exact ⟨a, c, rfl⟩
    obtain ⟨da, dc, edv⟩ : ∃ a c, dv = .slice a (xCl kk).fields.length c := by
      obtain ⟨f, g, m, e1, q1, q2, q3⟩ := hY.out.2.2
      simp only [xCc, List.cons.injEq, and_true] at e1
      obtain ⟨-, -, -, rfl, rfl, rfl⟩ := e1
      obtain ⟨a, c, rfl, -⟩ := q2.form
      exact ⟨a, c, rfl⟩
    obtain ⟨ma, mc, emv⟩ : ∃ a c, mv = .slice a (xCl kk).methods.length c := by
      obtain ⟨f, g, m, e1, q1, q2, q3⟩ := hY.out.2.2
      simp only [xCc, List.cons.injEq, and_true] at e1
      obtain ⟨-, -, -, rfl, rfl, rfl⟩ := e1
      obtain ⟨a, c, rfl, -⟩ := q3.form
      exact ⟨a, c, rfl⟩
    subst efv edv emv
    have x0 := blk_cell hXb (j := 0) rfl
    have x1 := blk_cell hXb (j := 1) rfl
    have x2 := blk_cell hXb (j := 2) rfl
    have x3 := blk_cell hXb (j := 3) rfl
    have x4 := blk_cell hXb (j := 4) rfl
    have x5 := blk_cell hXb (j := 5) rfl
    have h5s := L5.out.chg.size
    go_wp2_with fail
    refine (lb_add (L5.out.new ((Chg.refl No w5).alloc (.cells (xCc kk (.slice fa (xCl kk).faces.length fc) (.slice da (xCl kk).fields.length dc) (.slice ma (xCl kk).methods.length mc)).toArray 37))) (fun j => j = w5.heap.size ∨ (w2.heap.size ≤ j ∧ j < wc.heap.size ∧ j ≠ w2.heap.size + 9)) [xCl kk] _
      (one_new w5 rfl (xCl kk) (xCc kk (.slice fa (xCl kk).faces.length fc) (.slice da (xCl kk).fields.length dc) (.slice ma (xCl kk).methods.length mc)) rfl (goodCl.keep hRx.out ((Chg.refl No w5).alloc _) (fun _ _ h => h) |> fun h => goodCl.mono h (fun j h => .inr h)) (.inl rfl)) (fun k hk => by rw [size_al1]; omega) (fun c hc => by rw [List.mem_singleton.1 hc]; exact x_ret kk) (x_okc kk hkk) (r_moduleX kk hkk) (by simp) (x_new kk hkk) (by simp)).mono ?_
    rintro e w6 ⟨rfl, S3, O3, nv3, es3, hL6⟩
    have L6 := Lib.hid hL6; clear hL6 x0 x1 x2 x3 x4 x5
    go_wp2_with fail
    refine (lb_link L6.out (r_wg hkk L6.out.lw.cl) (all_okc kk hkk)).mono ?_
    rintro e w7 hK
    obtain ⟨wa, hwa⟩ : ∃ wa, wa = rWant kk := ⟨_, rfl⟩
    rcases hK with ⟨i, j, x, g1, g2, rfl, hL7⟩ | ⟨g1, rfl, S7, hL7⟩
    · have L7 := Lib.hid hL7; clear hL7
      by_cases h8 : kk = 8
      · subst h8; exact absurd g1 (no_broken (r_right L6.out.lw.cl))
      obtain ⟨hx, hw⟩ := r_broken (by omega) L6.out.lw.cl g1 g2
      have hwn := rWant_ne kk (by omega)
      rw [hx, hw]
      rw [← hwa] at hwn ⊢
      have hw0 : (wa == 0) = false := by simp [hwn]
      have hw1 : (wa != wa) = false := by simp
      have hw2 : (wa != 0) = true := by simp [hwn]
      clear hx hw g1 g2
      go_wp2_with fail
      refine (linked_c L7.out.lw.hw).mono ?_
      rintro e w8 ⟨rfl, rfl⟩
      by_cases h05 : kk = 0 ∨ kk = 5
      · have h9s := L7.out.chg.size
        rcases h05 with h0 | h0
        all_goals
          subst h0
          go_wp2_with fail
          refine (lb_add (L7.out.new ((Chg.refl No w8).alloc (.cells nCc.toArray 37))) (fun j => j = w8.heap.size) [nCl'] _
            (one_new w8 rfl nCl' nCc rfl ⟨zNil, zNil, zNil, rfl, SQ.nil, SQ.nil, SQ.nil⟩ rfl) (fun k hk => by rw [size_al1]; omega) (fun c hc => by rw [List.mem_singleton.1 hc]; intro x hx; cases hx) (by decide) r_moduleN (by simp) (n_newN _ hkk) (by simp)).mono ?_
          rintro e w9 ⟨rfl, S4, O4, nv4, es4, hL9⟩
          have L9 := Lib.hid hL9; clear hL9
          go_wp2_with fail
          refine (lb_link L9.out (m_wg hkk L9.out.lw.cl) (all_okn _ hkk)).mono ?_
          rintro e w10 hK2
          rcases hK2 with ⟨i2, j2, x2, f1, -⟩ | ⟨-, rfl, S10, hL10⟩
          · exact absurd f1 (no_broken (m_right hkk (by omega) L9.out.lw.cl))
          have L10 := Lib.hid hL10; clear hL10
          go_wp2_with fail
          refine (add_linked_c L10.out.lw.hw _ _).mono ?_
          rintro e w11 ⟨rfl, d11⟩
          go_wp2_with fail
          go_ret
          exact ⟨rfl, HWY.out.trans (L10.out.chg.trans d11 (fun _ _ h => h)) (fun _ _ h => h)⟩
      · have k0 : ((kk : Int) != 0) = true := by simp; omega
        have k5 : ((kk : Int) != 5) = true := by simp; omega
        go_wp2_with fail
        go_ret
        exact ⟨rfl, HWY.out.trans L7.out.chg (fun _ _ h => h)⟩
    · by_cases h8 : kk < 8
      · exact (r_not_all h8 L6.out.lw.cl g1).elim
      have h8' : kk = 8 := by omega
      subst h8'
      obtain ⟨x, hx, hxn, hxl, hth, y, hyn, hpk⟩ := r_pick L6.out.lw.cl
      have L7 := Lib.hid hL7; clear hL7
      have hb7 : w7.heap[w2.heap.size]? = some (.cells sigC 28 (0, 0)) := L7.out.chg.blk (hBlk.out 0 _ (by omega) rfl)
      have HP := Lib.hid (pick_c L7.out.lw.hw (r_wg (es := es3.map (linkE es3)) hkk (by rw [cls_link]; exact L6.out.lw.cl)).wok x hx hxl hth No mName vSig zNil SQ.nil (by decide))
      rw [hxn, hpk, show pickV (some (y, 0)) = .tuple #[strV y.cl.name, .int .i64 0, .bool true] from rfl, hyn] at HP
      have s0 := blk_cell hb7 (j := 0) rfl
      have s1 := blk_cell hb7 (j := 1) rfl
      have s2 := blk_cell hb7 (j := 2) rfl
      have s3 := blk_cell hb7 (j := 3) rfl
      rw [show rWant 8 = 0 from rfl]
      clear hb7 hpk hwa wa
      go_wp2_with fail
      refine HP.out.mono ?_
      rintro e w8 ⟨rfl, d8⟩
      go_wp2_with fail
      go_ret
      exact ⟨rfl, HWY.out.trans (L7.out.chg.trans d8 (fun _ _ h => h)) (fun _ _ h => h)⟩

end Go.Proofs.YtgmmclcpfmnoiaaGreatDoor
