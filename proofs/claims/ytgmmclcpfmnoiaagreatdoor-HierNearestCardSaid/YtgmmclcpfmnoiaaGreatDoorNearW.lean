/-
  The walk of the law HierNearest.
-/
import Derived.Test.YtgmmclcpfmnoiaaGreatDoorNearC
namespace Go.Proofs.YtgmmclcpfmnoiaaGreatDoor
open Go.RowKit

set_option maxRecDepth 100000 in
set_option maxHeartbeats 12800000 in
theorem near_walk (w : World) (a z : Int) (ov : Value) (own : List Bool) (SB : Blocks) (ho : SQ 1 RBool SB w ov own) (h1 : -9223372036854775808 ≤ a) (h2 : a ≤ 9223372036854775807) (h3 : -9223372036854775808 ≤ z) (h4 : z ≤ 9223372036854775807) (hol : own.length ≤ 9223372036854775807) :
    Calls Tryz.prog 5 #[.int .i64 a, ov, .int .i64 z] w fun e w' => e = .returned (.bool true) ∧ Chg No w w' := by
  obtain ⟨oa, oc, rfl, -, -⟩ := ho.form
  have HO := Lib.hid ho; clear ho
  go_enter Tryz.func5, Tryz.ntmps5
  go_wp2_with fail
  refine (knownG w).mono ?_
  rintro e w1 ⟨rfl, d1⟩
  have D1 := Lib.hid d1; clear d1
  go_wp2_with fail
  refine (withinG_c w1 a 25 (by omega) (by omega) h1 h2).mono ?_
  rintro e w1' ⟨n0, hn0, rfl, rfl⟩
  obtain ⟨n, hn⟩ : ∃ n, n = n0 + 1 := ⟨_, rfl⟩
  have hn1 : 1 ≤ n := by omega
  have hn26 : n ≤ 26 := by omega
  go_wp2_with fail
  rw [show (1 + (n0 : Int)) = (n : Int) from by omega]
  clear hn hn0
  refine (withinG_c w1' z n (by omega) (by omega) h3 h4).mono ?_
  rintro e w2 ⟨at_, hat, rfl, rfl⟩
  go_wp2_with fail
  refine (func0_c _ 0 (by omega)).mono ?_
  rintro e w3 ⟨rfl, d3⟩
  have D3 := Lib.hid (((D1.out.alloc (.cells sigC 28))).trans d3 (fun _ _ h => h))
  have B7 := Lib.hid (d3.blk (heap_alloc_new w2 (.cells sigC 28)))
  have h7 : w.heap.size ≤ w2.heap.size := D1.out.size
  have h7M : w2.heap.size < w3.heap.size := heap_lt B7.out
  clear d3
  go_wp2
  go_loopw [10, 11] (fun lv iv wr => ∃ (k : Nat) (v : Value) (T : Blocks), k ≤ n ∧ iv = .int .i64 k ∧ lv = .int .i64 (lz own at_ k) ∧ RowKit.Hid (NI w own w2.heap.size w3.heap.size k wr v T)) (fun _ iv _ => n - (intOf iv).toNat)
  case atStart => exact ⟨0, zNil, No, Nat.zero_le _, rfl, rfl, Lib.hid ⟨D3.out.alloc _, alloc_blk B7.out, heap_alloc_new _ _, OQ.nil _ _ _ _, (fun j hj => hj.elim), (fun j hj => hj.elim), (fun j hj => by cases hj)⟩⟩
  case round =>
    obtain ⟨k, v, T, hk, rfl, rfl, hI⟩ := hrel
    by_cases hlt : k < n
    · obtain ⟨na, nc, hvv⟩ := hI.out.own.form
      rw [List.length_map, List.length_range] at hvv
      subst hvv
      have hk26 : k < 26 := by omega
      go_wp2_with fail
      refine (func0_c _ k (by omega)).mono ?_
      rintro e x1 ⟨rfl, d⟩
      have X1 := Lib.hid d; clear d
      go_upto_if 41 with fail
      go_cut [10, 11] from 32 to 45 (fun s10 s11 wx => s10 = .int .i64 (lz own at_ k) ∧ s11 = .int .i64 k ∧ RowKit.Hid (Chg No wr wx ∧ wx.heap[x1.heap.size]? = some (.cells (clC own k zNil).toArray 37 (0, 0)) ∧ wr.heap.size ≤ x1.heap.size))
      case first =>
        have f1 := blk_frozen (heap_alloc_new x1 (.cells #[.int .i64 0, strV (nm k), strV objectName, zNil, zNil, zNil] 37)) 2
        by_cases hk0 : k = 0
        · have hgt : ¬ (k : Int) > 0 := by omega
          have hgt2 : ¬ 0 < k := by omega
          have hc : clC own k zNil = [.int .i64 0, strV (nm k), strV objectName, zNil, zNil, zNil] := by unfold clC nCl; simp [hk0]
          go_wp2_with fail
          go_meet
          exact ⟨by first | rfl | (rw [hk0]; done), by first | rfl | (rw [hk0]; done) | (rw [hk0]; rfl), Lib.hid ⟨X1.out.alloc _, by rw [hc]; subst hk0; exact heap_alloc_new _ _, X1.out.size⟩⟩
        · have hgt : (k : Int) > 0 := by omega
          have hgt2 : 0 < k := by omega
          have hm1 : (k : Int) - 1 = ((k - 1 : Nat) : Int) := by omega
          have hc : clC own k zNil = [.int .i64 0, strV (nm k), strV (nm (k - 1)), zNil, zNil, zNil] := by unfold clC nCl; simp [hk0]
          go_wp2_with fail
          refine (func0_c _ (k - 1) (by omega)).mono ?_
          rintro e x2 ⟨rfl, d⟩
          have X2 := Lib.hid ((X1.out.alloc (.cells #[.int .i64 0, strV (nm k), strV objectName, zNil, zNil, zNil] 37)).trans d (fun _ _ h => h))
          have B1 := Lib.hid (d.blk (heap_alloc_new x1 (.cells #[.int .i64 0, strV (nm k), strV objectName, zNil, zNil, zNil] 37)))
          have f1 := blk_frozen B1.out 2
          have c1 := blk_cell B1.out (j := 2) rfl
          have hx1 := X1.out.size
          clear d
          go_wp2_with fail
          go_meet
          exact ⟨rfl, rfl, Lib.hid ⟨X2.out.set_new hx1 _ _, by rw [setCell_at B1.out, hc]; rfl, hx1⟩⟩
      case rest =>
        obtain ⟨rfl, rfl, HX⟩ := hcut
        go_upto_region 15 with fail
        go_cut [55] from 46 to 55 (fun s55 wx => s55 = .bool (ownB own k) ∧ wx = wc)
        case first =>
          by_cases hko : k < own.length
          · obtain ⟨ob, oo, ds, rfl, -, hR, hobl, -, hcell⟩ := SQ.cells (HO.out.new goodBool (hI.out.chg.trans HX.out.1 (fun _ _ h => h))) k hko
            obtain rfl := hR
            have g0 := hcell 0 _ rfl
            rw [Nat.mul_one, Nat.add_zero] at g0
            have hkoi : (k : Int) < (own.length : Int) := by omega
            have HOW := Lib.hid (show own[k] = ownB own k by unfold ownB; rw [List.getD_eq_getElem?_getD, List.getElem?_eq_getElem hko]; rfl)
            rw [HOW.out] at g0
            clear hcell
            go_wp2_with fail
            go_meet
            exact ⟨rfl, rfl⟩
          · have HOW := Lib.hid (show ownB own k = false by unfold ownB; rw [List.getD_eq_getElem?_getD, List.getElem?_eq_none (by omega)]; rfl)
            have hkoi : ¬ (k : Int) < (own.length : Int) := by omega
            go_wp2_with fail
            go_meet
            exact ⟨by rw [HOW.out], rfl⟩
        case rest =>
          obtain ⟨rfl, rfl⟩ := hcut
          go_upto_if 55 with fail
          go_cut [10] from 46 to 64 (fun s10 wy => ∃ (mv : Value) (TT : Blocks), s10 = .int .i64 (lz own at_ (k + 1)) ∧ RowKit.Hid (Chg (· = x1.heap.size) wc wy ∧ wy.heap[x1.heap.size]? = some (.cells (clC own k mv).toArray 37 (0, 0)) ∧ RCl TT wy (nCl own k) (clC own k mv) ∧ (∀ j, TT j → T j ∨ (wc.heap.size ≤ j ∧ j < wy.heap.size)) ∧ (∀ j, T j → TT j) ∧ (∀ j, TT j → (Value.slice na k nc).ownBlock ≠ some j)))
          case first =>
            cases hv : ownB own k with
            | true =>
              have HOW : ownB own k = true := hv
              clear hv
              by_cases hle : k ≤ at_
              · have hlei : (k : Int) ≤ (at_ : Int) := by omega
                have HLZ := Lib.hid (show lz own at_ (k + 1) = (k : Int) by rw [lz]; rw [if_pos ⟨HOW, hle⟩])
                have s0 := blk_cell (HX.out.1.blk hI.out.sig) (j := 0) rfl
                have s1 := blk_cell (HX.out.1.blk hI.out.sig) (j := 1) rfl
                have s2 := blk_cell (HX.out.1.blk hI.out.sig) (j := 2) rfl
                have s3 := blk_cell (HX.out.1.blk hI.out.sig) (j := 3) rfl
                have x5 := blk_cell HX.out.2.1 (j := 5) rfl
                have fx5 := blk_frozen HX.out.2.1 5
                have hbl := heap_lt HX.out.2.1
                have hxs := HX.out.1.size
                go_wp2_with fail
                go_meet
                have hD : Chg (· = x1.heap.size) wc (((wc.setCell ⟨x1.heap.size, 5, none⟩ (.slice (some ⟨wc.heap.size + 1, 0, none⟩) 1 1)).alloc (.cells #[.int .u8 42] 5)).alloc (.cells #[.int .i64 0, strV mName, zNil, .bool true, .int .i64 0, strV [], .int .i64 1, .int .i64 1, .slice (some ⟨wc.heap.size, 0, none⟩) 1 1, zNil] 32)) := ((chg_setCell wc x1.heap.size 5 (.slice (some ⟨wc.heap.size + 1, 0, none⟩) 1 1)).alloc _).alloc _
                have hsc : (wc.setCell ⟨x1.heap.size, 5, none⟩ (.slice (some ⟨wc.heap.size + 1, 0, none⟩) 1 1)).heap.size = wc.heap.size := by simp [World.setCell]
                have hRD := m_read (wc.setCell ⟨x1.heap.size, 5, none⟩ (.slice (some ⟨wc.heap.size + 1, 0, none⟩) 1 1)) wc.heap.size hsc.symm
                have hsZ : (((wc.setCell ⟨x1.heap.size, 5, none⟩ (.slice (some ⟨wc.heap.size + 1, 0, none⟩) 1 1)).alloc (.cells #[.int .u8 42] 5)).alloc (.cells #[.int .i64 0, strV mName, zNil, .bool true, .int .i64 0, strV [], .int .i64 1, .int .i64 1, .slice (some ⟨wc.heap.size, 0, none⟩) 1 1, zNil] 32)).heap.size = wc.heap.size + 2 := by simp [World.setCell]
                refine ⟨(.slice (some ⟨wc.heap.size + 1, 0, none⟩) 1 1), fun j => T j ∨ j = wc.heap.size ∨ j = wc.heap.size + 1, congrArg (Value.int .i64) HLZ.out.symm, Lib.hid ⟨hD, alloc_blk (o2 := (.cells #[.int .i64 0, strV mName, zNil, .bool true, .int .i64 0, strV [], .int .i64 1, .int .i64 1, .slice (some ⟨wc.heap.size, 0, none⟩) 1 1, zNil] 32)) (alloc_blk (o2 := (.cells #[.int .u8 42] 5)) (setCell_at (o := 5) HX.out.2.1 (.slice (some ⟨wc.heap.size + 1, 0, none⟩) 1 1))), nCl_read (by unfold nCl; rw [if_pos HOW]; exact hRD.mono goodMt (fun j hj => .inr hj)), fun j hj => ?_, fun j hj => .inl hj, fun j hj e => ?_⟩⟩
                · rcases hj with hj | hj | hj
                  · exact .inl hj
                  · exact .inr ⟨by omega, Nat.lt_of_lt_of_eq (by omega : j < wc.heap.size + 2) hsZ.symm⟩
                  · exact .inr ⟨by omega, Nat.lt_of_lt_of_eq (by omega : j < wc.heap.size + 2) hsZ.symm⟩
                · have hlt := hI.out.own.lt j e
                  rcases hj with hj | hj | hj
                  · exact hI.out.tout j hj e
                  · omega
                  · omega
              · have hlei : ¬ (k : Int) ≤ (at_ : Int) := by omega
                have HLZ := Lib.hid (show lz own at_ (k + 1) = lz own at_ k by rw [lz]; rw [if_neg (fun h => hle h.2)])
                have s0 := blk_cell (HX.out.1.blk hI.out.sig) (j := 0) rfl
                have s1 := blk_cell (HX.out.1.blk hI.out.sig) (j := 1) rfl
                have s2 := blk_cell (HX.out.1.blk hI.out.sig) (j := 2) rfl
                have s3 := blk_cell (HX.out.1.blk hI.out.sig) (j := 3) rfl
                have x5 := blk_cell HX.out.2.1 (j := 5) rfl
                have fx5 := blk_frozen HX.out.2.1 5
                have hbl := heap_lt HX.out.2.1
                have hxs := HX.out.1.size
                go_wp2_with fail
                go_meet
                have hD : Chg (· = x1.heap.size) wc (((wc.setCell ⟨x1.heap.size, 5, none⟩ (.slice (some ⟨wc.heap.size + 1, 0, none⟩) 1 1)).alloc (.cells #[.int .u8 42] 5)).alloc (.cells #[.int .i64 0, strV mName, zNil, .bool true, .int .i64 0, strV [], .int .i64 1, .int .i64 1, .slice (some ⟨wc.heap.size, 0, none⟩) 1 1, zNil] 32)) := ((chg_setCell wc x1.heap.size 5 (.slice (some ⟨wc.heap.size + 1, 0, none⟩) 1 1)).alloc _).alloc _
                have hsc : (wc.setCell ⟨x1.heap.size, 5, none⟩ (.slice (some ⟨wc.heap.size + 1, 0, none⟩) 1 1)).heap.size = wc.heap.size := by simp [World.setCell]
                have hRD := m_read (wc.setCell ⟨x1.heap.size, 5, none⟩ (.slice (some ⟨wc.heap.size + 1, 0, none⟩) 1 1)) wc.heap.size hsc.symm
                have hsZ : (((wc.setCell ⟨x1.heap.size, 5, none⟩ (.slice (some ⟨wc.heap.size + 1, 0, none⟩) 1 1)).alloc (.cells #[.int .u8 42] 5)).alloc (.cells #[.int .i64 0, strV mName, zNil, .bool true, .int .i64 0, strV [], .int .i64 1, .int .i64 1, .slice (some ⟨wc.heap.size, 0, none⟩) 1 1, zNil] 32)).heap.size = wc.heap.size + 2 := by simp [World.setCell]
                refine ⟨(.slice (some ⟨wc.heap.size + 1, 0, none⟩) 1 1), fun j => T j ∨ j = wc.heap.size ∨ j = wc.heap.size + 1, congrArg (Value.int .i64) HLZ.out.symm, Lib.hid ⟨hD, alloc_blk (o2 := (.cells #[.int .i64 0, strV mName, zNil, .bool true, .int .i64 0, strV [], .int .i64 1, .int .i64 1, .slice (some ⟨wc.heap.size, 0, none⟩) 1 1, zNil] 32)) (alloc_blk (o2 := (.cells #[.int .u8 42] 5)) (setCell_at (o := 5) HX.out.2.1 (.slice (some ⟨wc.heap.size + 1, 0, none⟩) 1 1))), nCl_read (by unfold nCl; rw [if_pos HOW]; exact hRD.mono goodMt (fun j hj => .inr hj)), fun j hj => ?_, fun j hj => .inl hj, fun j hj e => ?_⟩⟩
                · rcases hj with hj | hj | hj
                  · exact .inl hj
                  · exact .inr ⟨by omega, Nat.lt_of_lt_of_eq (by omega : j < wc.heap.size + 2) hsZ.symm⟩
                  · exact .inr ⟨by omega, Nat.lt_of_lt_of_eq (by omega : j < wc.heap.size + 2) hsZ.symm⟩
                · have hlt := hI.out.own.lt j e
                  rcases hj with hj | hj | hj
                  · exact hI.out.tout j hj e
                  · omega
                  · omega
            | false =>
              have HOW : ¬ ownB own k = true := by rw [hv]; simp
              clear hv
              have HLZ := Lib.hid (show lz own at_ (k + 1) = lz own at_ k by rw [lz]; rw [if_neg (fun h => HOW h.1)])
              go_wp2_with fail
              go_meet
              exact ⟨zNil, T, congrArg (Value.int .i64) HLZ.out.symm, Lib.hid ⟨Chg.refl _ _, HX.out.2.1, nCl_read (by unfold nCl; rw [if_neg HOW]; exact SQ.nil), fun j hj => .inl hj, fun j hj => hj, fun j hj e => hI.out.tout j hj e⟩⟩
          case rest =>
            obtain ⟨mv, TT, rfl, hY⟩ := hcut
            have hbx := HX.out.2.2
            have hxs := HX.out.1.size
            have DY := Lib.hid (HX.out.1.trans hY.out.1 (fun j hj e => by omega))
            have HTT := Lib.hid (show ∀ j, TT j → T j ∨ (wr.heap.size ≤ j ∧ j < wc.heap.size) from fun j hj => by
              rcases hY.out.2.2.2.1 j hj with h | h
              · exact .inl h
              · exact .inr (by omega))
            have HV := Lib.hid hY.out.2.2.2.2.2
            have cM := blk_cell (DY.out.blk hI.out.box) (j := 1) rfl
            have b0 := blk_cell hY.out.2.1 (j := 0) rfl
            have b1 := blk_cell hY.out.2.1 (j := 1) rfl
            have b2 := blk_cell hY.out.2.1 (j := 2) rfl
            have b3 := blk_cell hY.out.2.1 (j := 3) rfl
            have b4 := blk_cell hY.out.2.1 (j := 4) rfl
            have b5 := blk_cell hY.out.2.1 (j := 5) rfl
            have HN := Lib.hid ((hI.out.own.mono goodCl hY.out.2.2.2.2.1).new goodCl (DY.out.alloc (.cells (clC own k mv).toArray 37)))
            have HR := Lib.hid (RCl.keepCl hY.out.2.2.1 ((Chg.refl No wc).alloc (.cells (clC own k mv).toArray 37)))
            go_wp2_with (at_builtin; (refine wpList_appQ (S := TT) rfl (.tmp 66) (.tmp 68) 38 38 rfl 37 (.agg #[zInt, zStr, zStr, zNil, zNil, zNil]) 112 Tryz.underlying38 info_cl rfl (by decide) goodCl (.slice na k nc) (nTl own k) rfl HN.out HV.out (.slice (some ⟨wc.heap.size, 0, none⟩) 1 1) [nCl own k] [clC own k mv] rfl (Els.single HR.out rfl) (Src.single (P := Tryz.prog) goodCl HR.out rfl (tx := 38) Tryz.underlying38 _ 1 (At.lit wc (clC own k mv) 37)) (by simp; unfold maxLen; omega) (by simp; omega) ?_); intro v' w5 g1 g2 g3; obtain ⟨na2, nc2, hf⟩ := g1.form; rw [List.length_append, List.length_map, List.length_range, List.length_cons, List.length_nil] at hf; subst hf; obtain ⟨⟨fz, cz⟩, hst⟩ := hI.out.step h7 h7M DY.out HTT.out g1 g2 g3; have HST := Lib.hid hst; clear g1 g2 g3 hst)
            go_roundw
            case rel => exact ⟨k + 1, _, _, by omega, by go_num, rfl, HST⟩
            case measure => simp [intOf]; omega
    · have hkn : k = n := by omega
      subst hkn
      have HLZ := Lib.hid (show lz own at_ k = toZ (lastO own at_) by
        have := lz_past own at_ (k - (at_ + 1))
        rwa [show at_ + 1 + (k - (at_ + 1)) = k from by omega] at this)
      obtain ⟨g, cap, hv⟩ := hI.out.own.form
      rw [List.length_map, List.length_range] at hv
      subst hv
      have HSQ := Lib.hid (show SQ 6 RCl (fun j => j < wr.heap.size) wr (.slice g k cap) (nTl own k) from hI.out.own.sq goodCl (fun j hj => hI.out.own.lt j hj) (fun j hj => (hI.out.tin j hj).2))
      have hhw := hI.out.chg.size
      go_wp2_with fail
      refine (new_c wr).mono ?_
      rintro e w4 ⟨S, O, nv, es, rfl, hN⟩
      have hlen : es.length = 8 := by
        have := congrArg List.length hN.cl
        simp only [cls, List.length_map] at this
        rw [this]; rfl
      have hb2 := blk_cell (hN.chg.blk hI.out.box) (j := 0) rfl
      have hb3 := blk_cell (hN.chg.blk hI.out.box) (j := 1) rfl
      have N := Lib.hid (And.intro hN hlen); clear hN hlen
      go_wp2_with fail
      refine (add_c S O (fun j => j < wr.heap.size) w4 _ _ nv es N.out.1.hw ⟨[], nTl own k⟩ zNil _ SQ.nil (HSQ.out.new goodCl N.out.1.chg) (fun q hq => by have := N.out.1.chg.size; omega)
        (fun W _ => (pool_empty W none 0).mono fun e w' ⟨he, hw⟩ => ⟨by rw [he]; rfl, by rw [hw]; exact Chg.refl _ _⟩)
        (fun c hc => bodyAns_ret (fun x hx _ => by obtain ⟨i, -, rfl⟩ := n_mem hc; rw [n_meths x hx]; exact retM_m))
        (fun c hc => (okClB_ok (n_okAll c (List.mem_append_right _ hc))).1) ⟨Nat.zero_le _, by show (nTl own k).length ≤ _; simp; omega, fun c hc => (okClB_ok (n_okAll (own := own) (n := k) c (List.mem_append_right _ hc))).2.1⟩ (n_module hn26) (n_names hn26)
        (fun c hc => atf_new N.out.1.cl (fun d hd => n_new hc d (by rwa [firsts_all] at hd))) (by show (nTl own k).length ≤ _; simp; omega) (by rw [N.out.2]; decide) (by rw [N.out.2]; show 8 + (nTl own k).length ≤ _; simp; omega)).mono ?_
      rintro e w5 ⟨rfl, S2, O2, nv2, es2, hA⟩
      have hcl2 : cls es2 = nCs own k := by rw [hA.cl, N.out.1.cl, firsts_all]
      have hpool : ∀ x ∈ es2, x.pool = [] := fun x hx => (hA.bare x hx).elim (fun h => (N.out.1.bare x h).1) (fun h => h.1)
      have hG : WG es2 (nTl own k) := wg_of hcl2 (by rw [hcl2]; exact n_okAll) (by simp; omega)
      have d3 : Chg No wr w5 := N.out.1.chg.trans hA.chg (fun q hq h => absurd hq (Nat.not_lt.2 (N.out.1.newO q h)))
      have hO2 : ∀ q, O2 q → wr.heap.size ≤ q := fun q hq => by
        by_cases hlt : q < w4.heap.size
        · exact N.out.1.newO q (hA.oldO q hlt hq)
        · have := N.out.1.chg.size; omega
      have A := Lib.hid (And.intro hA (And.intro hcl2 (And.intro hG (And.intro d3 (And.intro hO2 hpool)))))
      clear hA hcl2 hpool hG d3 hO2 hb2 hb3
      go_wp2_with fail
      refine (link_g A.out.1.hw A.out.2.2.1 (fun x => namedB0 (cls es2) x.cl) (fun x hx W hW => named0_c (A.out.1.hw.new hW) A.out.2.2.1.wok x (List.mem_of_mem_drop hx) (wg_sz (by rw [A.out.2.1]; exact n_okAll) x (List.mem_of_mem_drop hx)) (A.out.2.2.2.2.2 x (List.mem_of_mem_drop hx)))).mono ?_
      rintro e w6 hL
      rcases hL with ⟨i, j, x, g1, -⟩ | ⟨-, rfl, g4, S', hW, -⟩
      · exact absurd g1 (no_broken (n_all hn26 A.out.2.2.1))
      have d6 : Chg No wr w6 := A.out.2.2.2.1.trans g4 (fun q hq h => absurd hq (Nat.not_lt.2 (A.out.2.2.2.2.1 q h)))
      obtain ⟨x, hx, hxc, hxch⟩ := n_ent hn26 A.out.2.1 hat
      have hcl3 : cls (es2.map (linkE es2)) = nCs own k := by rw [cls_link]; exact A.out.2.1
      obtain ⟨es3, hes3⟩ : ∃ es3, es3 = es2.map (linkE es2) := ⟨_, rfl⟩
      rw [← hes3] at hW hx hcl3
      have hG3 : WG es3 (nTl own k) := wg_of hcl3 (by rw [hcl3]; exact n_okAll) (by simp; omega)
      have hxl : x.chain.length ≤ 1000 := by rw [hxch, nCh_len]; omega
      have hth : ∀ s ∈ x.chain, ∃ q, atf es3 s = some q := by rw [hxch]; exact n_there hn26 hcl3 hat
      have hxn : x.cl.name = nm at_ := by rw [hxc]; rfl
      have HW6 := Lib.hid (And.intro hW (And.intro hG3.wok (And.intro hx (And.intro hxl (And.intro hth (And.intro d6 (n_asked hn26 hcl3 hat hxc hxch)))))))
      have hb7 := Lib.hid (d6.blk hI.out.sig)
      have HXN := Lib.hid (And.intro hxn hxch)
      have hat26 : at_ < 26 := by omega
      clear hW hG3 hx hxl hth d6 hxc hxch hcl3 hes3 g4 hxn
      have HP := Lib.hid (fun (W : World) (d : Chg No w6 W) => pick_c (HW6.out.1.new d) HW6.out.2.1 x HW6.out.2.2.1 (by have := HW6.out.2.2.2.1; omega) HW6.out.2.2.2.2.1 No mName vSig zNil SQ.nil (by decide))
      have HC := Lib.hid (fun (W : World) (d : Chg No w6 W) => call_c (HW6.out.1.new d) HW6.out.2.1 x HW6.out.2.2.1 (by have := HW6.out.2.2.2.1; omega) HW6.out.2.2.2.2.1 No mName vSig zNil SQ.nil (by decide))
      have HA := Lib.hid (fun (W : World) (d : Chg No w6 W) => above_c (HW6.out.1.new d) (nm 0) x HW6.out.2.2.1 HW6.out.2.2.2.1)
      rw [HXN.out.1] at HP HC HA
      rw [show (x.chain.any fun s => s == nm 0) = true from by rw [List.any_eq_true]; exact ⟨nm 0, by rw [HXN.out.2]; exact nCh_mem0 [] at_, by simp⟩] at HA
      have s0 := blk_cell hb7.out (j := 0) rfl
      have s1 := blk_cell hb7.out (j := 1) rfl
      have s2 := blk_cell hb7.out (j := 2) rfl
      have s3 := blk_cell hb7.out (j := 3) rfl
      go_upto_region 24 with fail
      rw [HLZ.out]
      have hAsk := HW6.out.2.2.2.2.2.2
      have HCH := Lib.hid (fun (W : World) (d : Chg No w6 W) => hI.out.chg.trans (HW6.out.2.2.2.2.2.1.trans d (fun _ _ h => h)) (fun _ _ h => h))
      cases hl : lastO own at_ with
      | none =>
        rw [hl] at hAsk
        simp only at hAsk
        rw [hAsk.1, show pickV none = .tuple #[strV [], .int .i64 0, .bool false] from rfl] at HP
        rw [hAsk.2, show methV none = .tuple #[strV [], .int .i64 0, .int .i64 36] from rfl] at HC
        simp only [toZ]
        clear hAsk hl
        go_region_with (first
          | (go_at_call 14; refine (func0_c _ at_ hat26).mono ?_; rintro e y1 ⟨rfl, d⟩; have Y1 := Lib.hid (((Chg.refl No w6).drew).trans d (fun _ _ h => h)); have q0 := blk_cell (Y1.out.blk hb7.out) (j := 0) rfl; have q1 := blk_cell (Y1.out.blk hb7.out) (j := 1) rfl; have q2 := blk_cell (Y1.out.blk hb7.out) (j := 2) rfl; have q3 := blk_cell (Y1.out.blk hb7.out) (j := 3) rfl; clear d)
          | (go_at_call 12; refine (HP.out _ Y1.out).mono ?_; rintro e y2 ⟨rfl, d⟩; have Y2 := Lib.hid (Y1.out.trans d (fun _ _ h => h)); clear d))
        all_goals
          have r0 := blk_cell (Y2.out.blk hb7.out) (j := 0) rfl
          have r1 := blk_cell (Y2.out.blk hb7.out) (j := 1) rfl
          have r2 := blk_cell (Y2.out.blk hb7.out) (j := 2) rfl
          have r3 := blk_cell (Y2.out.blk hb7.out) (j := 3) rfl
          clear q0 q1 q2 q3 s0 s1 s2 s3
          go_upto_region 25 with fail
          go_region_with (first
            | (go_at_call 14; refine (func0_c _ at_ hat26).mono ?_; rintro e y3 ⟨rfl, d⟩; have Y3 := Lib.hid ((Y2.out.drew).trans d (fun _ _ h => h)); have q0 := blk_cell (Y3.out.blk hb7.out) (j := 0) rfl; have q1 := blk_cell (Y3.out.blk hb7.out) (j := 1) rfl; have q2 := blk_cell (Y3.out.blk hb7.out) (j := 2) rfl; have q3 := blk_cell (Y3.out.blk hb7.out) (j := 3) rfl; clear d)
            | (go_at_call 18; refine (HC.out _ Y3.out).mono ?_; rintro e y4 ⟨rfl, d⟩; have Y4 := Lib.hid (Y3.out.trans d (fun _ _ h => h)); clear d))
          all_goals
            clear q0 q1 q2 q3 r0 r1 r2 r3
            go_wp2_with fail
            refine (func0_c _ at_ hat26).mono ?_
            rintro e y5 ⟨rfl, d⟩
            have Y5 := Lib.hid (Y4.out.trans d (fun _ _ h => h)); clear d
            go_wp2_with fail
            refine (HA.out _ Y5.out).mono ?_
            rintro e y6 ⟨rfl, d⟩
            have Y6 := Lib.hid (Y5.out.trans d (fun _ _ h => h)); clear d
            go_wp2
            go_ret
            exact ⟨rfl, HCH.out _ Y6.out⟩
      | some j =>
        rw [hl] at hAsk
        simp only at hAsk
        obtain ⟨y, hyc, hy1, hy2⟩ := hAsk
        have hj := lastO_le hl
        have hj26 : j < 26 := by omega
        have hyn : y.cl.name = nm j := by rw [hyc]; rfl
        rw [hy1, show pickV (some (y, 0)) = .tuple #[strV y.cl.name, .int .i64 0, .bool true] from rfl, hyn] at HP
        rw [hy2, show methV (some (y, 0)) = .tuple #[strV y.cl.name, .int .i64 0, .int .i64 0] from rfl, hyn] at HC
        simp only [toZ]
        have hjn : ¬ (j : Int) < 0 := by omega
        have hself : (nm j == nm j) = true := by simp
        clear hyc hy1 hy2 hl hyn
        go_region_with (first
          | (go_at_call 14; refine (func0_c _ at_ hat26).mono ?_; rintro e y1 ⟨rfl, d⟩; have Y1 := Lib.hid (((Chg.refl No w6).drew).trans d (fun _ _ h => h)); have q0 := blk_cell (Y1.out.blk hb7.out) (j := 0) rfl; have q1 := blk_cell (Y1.out.blk hb7.out) (j := 1) rfl; have q2 := blk_cell (Y1.out.blk hb7.out) (j := 2) rfl; have q3 := blk_cell (Y1.out.blk hb7.out) (j := 3) rfl; clear d)
          | (go_at_call 12; refine (HP.out _ Y1.out).mono ?_; rintro e y2 ⟨rfl, d⟩; have Y2 := Lib.hid (Y1.out.trans d (fun _ _ h => h)); clear d))
        all_goals
          have r0 := blk_cell (Y2.out.blk hb7.out) (j := 0) rfl
          have r1 := blk_cell (Y2.out.blk hb7.out) (j := 1) rfl
          have r2 := blk_cell (Y2.out.blk hb7.out) (j := 2) rfl
          have r3 := blk_cell (Y2.out.blk hb7.out) (j := 3) rfl
          clear q0 q1 q2 q3 s0 s1 s2 s3
          go_upto_region 25 with fail
          go_region_with (first
            | (go_at_call 14; refine (func0_c _ at_ hat26).mono ?_; rintro e y3 ⟨rfl, d⟩; have Y3 := Lib.hid ((Y2.out.drew).trans d (fun _ _ h => h)); have q0 := blk_cell (Y3.out.blk hb7.out) (j := 0) rfl; have q1 := blk_cell (Y3.out.blk hb7.out) (j := 1) rfl; have q2 := blk_cell (Y3.out.blk hb7.out) (j := 2) rfl; have q3 := blk_cell (Y3.out.blk hb7.out) (j := 3) rfl; clear d)
            | (go_at_call 18; refine (HC.out _ Y3.out).mono ?_; rintro e y4 ⟨rfl, d⟩; have Y4 := Lib.hid (Y3.out.trans d (fun _ _ h => h)); clear d))
          all_goals
            clear q0 q1 q2 q3 r0 r1 r2 r3
            go_wp2_with fail
            refine (func0_c _ at_ hat26).mono ?_
            rintro e y5 ⟨rfl, d⟩
            have Y5 := Lib.hid (Y4.out.trans d (fun _ _ h => h)); clear d
            go_wp2_with fail
            refine (HA.out _ Y5.out).mono ?_
            rintro e y6 ⟨rfl, d⟩
            have Y6 := Lib.hid (Y5.out.trans d (fun _ _ h => h)); clear d
            go_wp2_with fail
            refine (func0_c _ j hj26).mono ?_
            rintro e y7 ⟨rfl, d⟩
            have Y7 := Lib.hid (Y6.out.trans d (fun _ _ h => h)); clear d
            go_wp2
            go_ret
            exact ⟨rfl, HCH.out _ Y7.out⟩

end Go.Proofs.YtgmmclcpfmnoiaaGreatDoor
