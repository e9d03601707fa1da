/-
  The walk of the law HierFaces: its interfaces are made.
-/
import Derived.Test.YtgmmclcpfmnoiaaGreatDoorFacS
import Derived.Deep.CutBlock
namespace Go.Proofs.YtgmmclcpfmnoiaaGreatDoor
open Go.RowKit

theorem wrap_rng (x : Int) : -9223372036854775808 ≤ wrap64 x ∧ wrap64 x ≤ 9223372036854775807 := by
  unfold wrap64; omega
set_option maxRecDepth 100000 in
set_option maxHeartbeats 12800000 in
theorem faces_walk (w : World) (a : Int) (lv : Value) (L : List Int) (SB : Blocks) (ho : SQ 1 RInt SB w lv L) (h1 : -9223372036854775808 ≤ a) (h2 : a ≤ 9223372036854775807) (_hll : L.length ≤ 9223372036854775807) :
    Calls Tryz.prog 4 #[.int .i64 a, lv] w fun e w' => e = .returned (.bool true) ∧ Chg No w w' := by
  obtain ⟨la, lc, rfl, -, -⟩ := ho.form
  have HO := Lib.hid ho; clear ho
  go_enter Tryz.func4, Tryz.ntmps4
  go_wp2_with fail
  refine (knownG w).mono ?_
  rintro e w1 ⟨rfl, d1⟩
  have D1 := Lib.hid d1; clear d1
  go_wp2_with fail
  refine (withinG_c w1 a 8 (by omega) (by omega) h1 h2).mono ?_
  rintro e w2 ⟨n0, hn0, rfl, rfl⟩
  obtain ⟨n, hn⟩ : ∃ n, n = n0 + 2 := ⟨_, rfl⟩
  have hlo : 2 ≤ n := by omega
  have hhi : n ≤ 9 := by omega
  go_upto_region 4 with fail
  rw [show (2 + (n0 : Int)) = (n : Int) from by omega]
  clear hn hn0
  have hmu := mk_up n (by omega) (fun _ => 0)
  have hmr := mk_row n (by omega)
  have hwM : w.heap.size ≤ w2.heap.size := D1.out.size
  go_wp2
  go_loopw [7] (fun iv wr => ∃ (k : Nat) (v : Value) (T : Blocks) (F : Nat → List Nat) (R : Nat → Nat → Bool) (r : Nat → Nat), k ≤ n ∧ iv = .int .i64 k ∧ RowKit.Hid (FI w w2.heap.size (w2.heap.size + 1) n k F R r wr v T)) (fun iv _ => n - (intOf iv).toNat)
  case atStart =>
    refine ⟨0, zNil, No, fun _ => [], fun _ _ => false, fun _ => 0, Nat.zero_le _, rfl, Lib.hid ⟨(D1.out.alloc _).alloc _, alloc_blk (heap_alloc_new _ _), OQ.nil _ _ _ _, (fun j hj => hj.elim), (fun j hj => hj.elim), (fun j hj => by cases hj), alloc_at _ _ (by rw [size_al1]), (fun j hj => by omega), (fun j hj => by omega), (fun i hi => by omega), (fun i hi => by omega), (fun i hi => by omega)⟩⟩
  case round =>
    obtain ⟨k, v, T, F, R, r, hk, rfl, hI⟩ := hrel
    obtain ⟨w3, hw3⟩ : ∃ w3, w3 = wr := ⟨_, rfl⟩
    subst hw3
    by_cases hlt : k < n
    · obtain ⟨na, nc, hvv⟩ := hI.out.own.form
      rw [List.length_map, List.length_range] at hvv
      subst hvv
      have hk26 : k < 26 := by omega
      have hUl := heap_lt hI.out.up
      have hMl := heap_lt hI.out.box
      go_wp2_with fail
      refine (func0_c _ k (by omega)).mono ?_
      rintro e x1 ⟨rfl, d⟩
      have X1 := Lib.hid d; clear d
      have hx1s := X1.out.size
      go_upto_region 10 with fail
      obtain ⟨C, hC⟩ : ∃ C, C = x1.heap.size := ⟨_, rfl⟩
      obtain ⟨xa, hxa⟩ : ∃ xa, xa = x1.alloc (.cells #[.int .i64 1, strV (nm k), strV objectName, zNil, zNil, zNil] 37) := ⟨_, rfl⟩
      change Code.wp _ _ _ _ (x1.alloc (.cells #[.int .i64 1, strV (nm k), strV objectName, zNil, zNil, zNil] 37))
      rw [← hxa, ← hC]
      obtain ⟨ri, hri⟩ : ∃ ri, ri = C + 1 := ⟨_, rfl⟩
      have cXA : Chg No w3 xa := by rw [hxa]; exact X1.out.alloc _
      have hCb : xa.heap[C]? = some (.cells #[.int .i64 1, strV (nm k), strV objectName, zNil, zNil, zNil] 37 (0, 0)) := by rw [hxa]; exact alloc_at _ _ hC
      have hxas : xa.heap.size = ri := by rw [hxa, size_al1, ← hC, hri]
      have hCs : w3.heap.size ≤ C := by omega
      have hrs : C < ri := by omega
      have hUa := alloc_blk (o2 := .cells (rowC n fun _ => false) 4) (cXA.blk hI.out.up)
      have fU := blk_frozen hUa k
      have cU := blk_cell hUa (rangeC_at n _ hlt)
      rw [if_neg (Nat.lt_irrefl k)] at cU
      have XA := Lib.hid (And.intro cXA hCb)
      clear hxa cXA hCb hri hC
      go_upto_region 11 with fail
      obtain ⟨wb, hwb⟩ : ∃ wb, wb = (xa.alloc (.cells (rowC n fun _ => false) 4)).setCell ⟨w2.heap.size + 1, k, none⟩ (.slice (some ⟨ri, 0, none⟩) n n) := ⟨_, rfl⟩
      change Code.wp _ _ _ _ ((xa.alloc (.cells (rowC n fun _ => false) 4)).setCell ⟨w2.heap.size + 1, k, none⟩ (.slice (some ⟨ri, 0, none⟩) n n))
      rw [← hwb]
      have HB0 : BI w3 (w2.heap.size + 1) n k C ri r [] (fun _ => false) wb zNil := by
        have cS := chg_setCell (xa.alloc (.cells (rowC n fun _ => false) 4)) (w2.heap.size + 1) k (.slice (some ⟨ri, 0, none⟩) n n)
        have hrow := alloc_at xa (.cells (rowC n fun _ => false) 4) hxas.symm
        have hbox := alloc_blk (o2 := .cells (rowC n fun _ => false) 4) XA.out.2
        rw [hwb]
        refine ⟨((XA.out.1.alloc _).mono (fun _ _ h => h.elim)).trans cS (fun _ _ h => h), ?_, (cS.block ri (heap_lt hrow) (by omega)).trans hrow, (cS.block C (heap_lt hbox) (by omega)).trans hbox, OQ.nil _ _ _ _, fun q hq => (by cases hq), by omega, by omega, by omega⟩
        rw [setCell_at (o := k) hUa, rangeC_set n _ (fun j => if j < k + 1 then Value.slice (some ⟨upd r k ri j, 0, none⟩) n n else zNil) (by rw [if_pos (by omega), upd_at]) (fun y hy => by rw [upd_ne _ _ _ hy]; by_cases h : y < k <;> simp [h] <;> omega)]
      obtain ⟨⟨fR, cR⟩, hB1⟩ := HB0.put (by omega) hlt true
      have kU := blk_cell HB0.up (rangeC_at n _ hlt)
      rw [if_pos (Nat.lt_succ_self k), upd_at] at kU
      have B1 := Lib.hid hB1
      clear hB1 HB0 hwb hUa fU cU
      go_wp2_with fail
      go_loopw [9] (fun qv wx => ∃ (q : Nat) (fv : Value) (Fi : List Nat) (Ri : Nat → Bool), q ≤ 12 ∧ qv = .int .i64 q ∧ RowKit.Hid (BI w3 (w2.heap.size + 1) n k C ri r Fi Ri wx fv ∧ (∀ j ∈ Fi, j < k) ∧ Fi.Nodup ∧ ∀ z, z < n → Ri z = ((k == z) || Fi.any fun j => R j z))) (fun qv _ => 12 - (intOf qv).toNat)
      case atStart =>
        refine ⟨0, zNil, [], _, by omega, rfl, Lib.hid ⟨B1.out, (fun j hj => by cases hj), List.nodup_nil, fun z _ => ?_⟩⟩
        by_cases hz : z = k
        · subst hz; rw [upd_at]; simp
        · rw [upd_ne _ _ _ hz]; simp; omega
      case round =>
        obtain ⟨q, fv, Fi, Ri, hq, rfl, hK⟩ := hrel
        go_upto_region 13 with fail
        go_cut [54] from 43 to 54 (fun s54 wy => s54 = .bool (decide (q < L.length ∧ q < 12 ∧ 0 < k)) ∧ wy = wr)
        case first =>
          by_cases c1 : q < L.length
          · have c1i : (q : Int) < (L.length : Int) := by omega
            by_cases c2 : q < 12
            · have c2i : (q : Int) < 12 := by omega
              by_cases c3 : 0 < k
              · have c3i : (k : Int) > 0 := by omega
                have c3j : (0 : Int) < k := by omega
                go_wp2_with fail
                go_meet
                exact ⟨congrArg Value.bool (by simp [c1, c2, c3]), rfl⟩
              · have c3i : ¬ (k : Int) > 0 := by omega
                have c3j : ¬ (0 : Int) < k := by omega
                go_wp2_with fail
                go_meet
                exact ⟨congrArg Value.bool (by simp [c3]), rfl⟩
            · have c2i : ¬ (q : Int) < 12 := by omega
              go_wp2_with fail
              go_meet
              exact ⟨congrArg Value.bool (by simp [c2]), rfl⟩
          · have c1i : ¬ (q : Int) < (L.length : Int) := by omega
            go_wp2_with fail
            go_meet
            exact ⟨congrArg Value.bool (by simp [c1]), rfl⟩
        case rest =>
          obtain ⟨rfl, rfl⟩ := hcut
          by_cases hc : q < L.length ∧ q < 12 ∧ 0 < k
          · rw [decide_eq_true hc]
            obtain ⟨c1, c2, c3⟩ := hc
            have hUr : w2.heap.size + 1 < w3.heap.size := hUl
            have kU := blk_cell hK.out.1.up (rangeC_at n _ hlt)
            rw [if_pos (Nat.lt_succ_self k), upd_at] at kU
            obtain ⟨lb, l0, ds, rfl, -, hR, hlbl, -, hcell⟩ := SQ.cells (HO.out.new goodInt hI.out.chg) q c1
            obtain rfl := hR
            have hlw : lb < w.heap.size := by
              obtain ⟨b', o', -, e1, -, -, e2, -⟩ := SQ.cells HO.out q c1
              cases e1; exact e2
            have g0 := hcell 0 _ rfl
            rw [Nat.mul_one, Nat.add_zero] at g0
            replace g0 := (hK.out.1.chg.cell (p := ⟨lb, l0 + q, none⟩) hlbl (by show ¬ lb = _; omega)).trans g0
            clear hcell
            go_wp2_with fail
            refine (withinG_c wc _ k (by omega) (by omega) (wrap_rng _).1 (wrap_rng _).2).mono ?_
            rintro e w4 ⟨j, hj, rfl, rfl⟩
            have hjn : j < n := by omega
            have cR := blk_cell hK.out.1.row (rangeC_at n _ hjn)
            cases hRj : Ri j with
            | true =>
              rw [hRj] at cR
              clear hRj
              go_wp2_with fail
              exact ⟨⟨q + 1, fv, Fi, Ri, by omega, by go_num, hK⟩, by simp [intOf]; omega⟩
            | false =>
              rw [hRj] at cR
              have HRJ := Lib.hid hRj; clear hRj
              obtain ⟨fa, fcap, hfv⟩ := hK.out.1.fo.form
              rw [List.length_map] at hfv
              subst hfv
              have hFl : Fi.length ≤ k := by
                have := nodup_le hK.out.2.2.1 (m := List.range k) (fun a ha => List.mem_range.2 (hK.out.2.1 a ha))
                rwa [List.length_range] at this
              have b3 : w4.cell? ⟨C, 3, none⟩ = some (.slice fa Fi.length fcap) := blk_cell hK.out.1.box rfl
              go_upto_region 17 with fail
              go_cut [] from 74 to 80 (fun wy => ∃ v' : Value, RowKit.Hid (BI w3 (w2.heap.size + 1) n k C ri r (Fi ++ [j]) Ri wy v'))
              case first =>
                go_region_law (first
                  | (refine step_appQ (S := No) rfl (.tmp 75) (.tmp 78) 34 34 rfl 9 zStr 16 Tryz.underlying34 info_str rfl (by decide) goodStr (.slice fa Fi.length fcap) (Fi.map nm) (by simp [Act.eval]) HFO.out (fun k hk _ => hk.elim) (.slice (some ⟨y1.heap.size, 0, none⟩) 1 1) [nm j] [[strV (nm j)]] (by simp [Act.eval]) (Els.single rfl rfl) (Src.single (P := Tryz.prog) (n := 1) (S := No) (R := RStr) goodStr (x := nm j) rfl rfl (tx := 34) Tryz.underlying34 _ 1 (At.lit y1 [strV (nm j)] 9)) (by simp; unfold maxLen; omega) (by simp; omega) ?_; intro v' w5 g1 g2 g3; obtain ⟨na2, nc2, hf⟩ := g1.form; rw [List.length_append, List.length_map, List.length_cons, List.length_nil, Nat.zero_add] at hf; subst hf; obtain ⟨⟨f5, c5⟩, hB⟩ := hK.out.1.app hUr (Y1.out.alloc (.cells #[strV (nm j)] 9)) g1 g2 g3; have HB2 := Lib.hid hB; clear g1 g2 g3 hB)
                  | (go_simp; go_at_call 14; refine (func0_c _ j (by omega)).mono ?_; rintro e y1 ⟨rfl, d⟩; have Y1 := Lib.hid (((Chg.refl No w4).drew).trans d (fun _ _ h => h)); have z3 := (d.cell (p := ⟨C, 3, none⟩) (heap_lt hK.out.1.box) (fun h => h)).trans b3; have z4 : (y1.alloc (.cells #[strV (nm j)] 9)).cell? ⟨C, 3, none⟩ = some (.slice fa Fi.length fcap) := blk_cell (alloc_blk (Y1.out.blk hK.out.1.box)) rfl; have HFO := Lib.hid (hK.out.1.fo.new goodStr (Y1.out.alloc (.cells #[strV (nm j)] 9))); clear d))
                all_goals (try go_wp2_with fail)
                all_goals go_meet
                all_goals exact ⟨_, HB2⟩
              case rest =>
                obtain ⟨fv', hB⟩ := hcut
                clear cR b3 g0 kU
                have hrj := (hI.out.rin j hj).1
                have hrjl := heap_lt (hI.out.rows j hj)
                go_wp2_with fail
                go_loopw [11] (fun zv wz => ∃ z : Nat, z ≤ n ∧ zv = .int .i64 z ∧ RowKit.Hid (BI w3 (w2.heap.size + 1) n k C ri r (Fi ++ [j]) (fun y => if y < z then Ri y || R j y else Ri y) wz fv')) (fun zv _ => n - (intOf zv).toNat)
                case atStart => exact ⟨0, Nat.zero_le _, rfl, Lib.hid (by simpa using hB.out)⟩
                case round =>
                  obtain ⟨z, hz, rfl, hZ⟩ := hrel
                  by_cases hzn : z < n
                  · have uK := blk_cell hZ.out.up (rangeC_at n _ hlt)
                    rw [if_pos (Nat.lt_succ_self k), upd_at] at uK
                    have uJ := blk_cell hZ.out.up (rangeC_at n _ hjn)
                    rw [if_pos (by omega : j < k + 1), upd_ne _ _ _ (by omega : j ≠ k)] at uJ
                    have rJ := blk_cell ((hZ.out.chg.block _ hrjl (by omega)).trans (hI.out.rows j hj)) (rangeC_at n _ hzn)
                    have rK : wr.cell? ⟨ri, z, none⟩ = some (.bool (Ri z)) := by
                      have := blk_cell hZ.out.row (rangeC_at n _ hzn)
                      simpa using this
                    have rF := blk_frozen hZ.out.row z
                    have hbz := fun b => (hZ.out.put hUr hzn b).2
                    have hFU : ∀ b : Bool, b = (Ri z || R j z) → upd (fun y => if y < z then Ri y || R j y else Ri y) z b = fun y => if y < z + 1 then Ri y || R j y else Ri y := fun b hb => by
                      funext y
                      by_cases hy : y = z
                      · subst hy; rw [upd_at, if_pos (by omega)]; exact hb
                      · rw [upd_ne _ _ _ hy]
                        by_cases hy2 : y < z
                        · rw [if_pos hy2, if_pos (by omega)]
                        · rw [if_neg hy2, if_neg (by omega)]
                    have HBZ := Lib.hid (And.intro hbz hFU)
                    clear hbz hFU
                    go_upto_region 21 with fail
                    cases hRz : Ri z with
                    | true =>
                      rw [hRz] at rK HBZ
                      go_region
                      all_goals (try go_wp2_with fail)
                      all_goals exact ⟨⟨z + 1, by omega, by go_num, Lib.hid (by have := (HBZ.out.1 true).new ((Chg.refl No _).drew); rw [HBZ.out.2 true rfl] at this; exact this)⟩, by simp [intOf]; omega⟩
                    | false =>
                      obtain ⟨rj, hrj⟩ : ∃ b, b = R j z := ⟨_, rfl⟩
                      rw [← hrj] at rJ
                      rw [hRz, ← hrj] at HBZ
                      rw [hRz] at rK
                      clear hrj
                      go_region
                      all_goals (try go_wp2_with fail)
                      all_goals exact ⟨⟨z + 1, by omega, by go_num, Lib.hid (by have := (HBZ.out.1 rj).new ((Chg.refl No _).drew); rw [HBZ.out.2 rj (by simp)] at this; exact this)⟩, by simp [intOf]; omega⟩
                  · go_wp2_with fail
                    refine ⟨⟨q + 1, fv', Fi ++ [j], _, by omega, by go_num, Lib.hid ⟨hZ.out, fun a ha => ?_, ?_, fun y hy => ?_⟩⟩, by simp [intOf]; omega⟩
                    · rcases List.mem_append.1 ha with h | h
                      · exact hK.out.2.1 a h
                      · rw [List.mem_singleton.1 h]; exact hj
                    · rw [List.nodup_append]
                      refine ⟨hK.out.2.2.1, by simp, fun a ha b hb e => ?_⟩
                      rw [List.mem_singleton.1 hb] at e
                      subst e
                      have h3 := hK.out.2.2.2 a hjn
                      rw [HRJ.out] at h3
                      have h4 : (Fi.any fun x => R x a) = true := List.any_eq_true.2 ⟨a, ha, by rw [hI.out.row a hj a hjn]; simp⟩
                      rw [h4, Bool.or_true] at h3
                      cases h3
                    · rw [if_pos (by omega), hK.out.2.2.2 y hy, List.any_append]
                      simp only [List.any_cons, List.any_nil, Bool.or_false]
                      exact Bool.or_assoc _ _ _
          · rw [decide_eq_false hc]
            obtain ⟨fa, fcap, hfv⟩ := hK.out.1.fo.form
            rw [List.length_map] at hfv
            subst hfv
            have hUr : w2.heap.size + 1 < w3.heap.size := hUl
            have b0 : wc.cell? ⟨C, 0, none⟩ = some (.int .i64 1) := blk_cell hK.out.1.box rfl
            have b1 : wc.cell? ⟨C, 1, none⟩ = some (strV (nm k)) := blk_cell hK.out.1.box rfl
            have b2 : wc.cell? ⟨C, 2, none⟩ = some (strV objectName) := blk_cell hK.out.1.box rfl
            have b3 : wc.cell? ⟨C, 3, none⟩ = some (.slice fa Fi.length fcap) := blk_cell hK.out.1.box rfl
            have b4 : wc.cell? ⟨C, 4, none⟩ = some zNil := blk_cell hK.out.1.box rfl
            have b5 : wc.cell? ⟨C, 5, none⟩ = some zNil := blk_cell hK.out.1.box rfl
            have cM : wc.cell? ⟨w2.heap.size, 1, none⟩ = some (.slice na k nc) := blk_cell ((hK.out.1.chg.block _ hMl (by omega)).trans hI.out.box) rfl
            have hRC : RCl (fun q => T q ∨ (Value.slice fa Fi.length fcap).ownBlock = some q) wc ⟨1, nm k, objectName, Fi.map nm, [], []⟩ [.int .i64 1, strV (nm k), strV objectName, .slice fa Fi.length fcap, zNil, zNil] := ⟨_, zNil, zNil, rfl, hK.out.1.fo.sq goodStr (fun q hq => .inr hq) (fun _ h => h.elim), SQ.nil, SQ.nil⟩
            have HR := Lib.hid (RCl.keepCl hRC ((Chg.refl No wc).alloc (.cells [.int .i64 1, strV (nm k), strV objectName, .slice fa Fi.length fcap, zNil, zNil].toArray 37)))
            have HN := Lib.hid ((hI.out.own.mono (T := fun q => T q ∨ (Value.slice fa Fi.length fcap).ownBlock = some q) goodCl (fun q hq => .inl hq)).keep goodCl (hK.out.1.chg.alloc (.cells [.int .i64 1, strV (nm k), strV objectName, .slice fa Fi.length fcap, zNil, zNil].toArray 37)) (fun q hq e => by have := hI.out.new q hq; omega) (fun q hq e => by
              rcases hq with h | h
              · have := (hI.out.tin q h).1; omega
              · have := (hK.out.1.fnew q h).1; omega))
            have HV := Lib.hid (show ∀ q, (T q ∨ (Value.slice fa Fi.length fcap).ownBlock = some q) → (Value.slice na k nc).ownBlock ≠ some q from fun q hq e => by
              rcases hq with h | h
              · exact hI.out.tout q h e
              · have := (hK.out.1.fnew q h).1; have := hI.out.own.lt q e; omega)
            have HTT := Lib.hid (show ∀ q, (T q ∨ (Value.slice fa Fi.length fcap).ownBlock = some q) → T q ∨ (w3.heap.size ≤ q ∧ q < wc.heap.size ∧ q ≠ ri) from fun q hq => by
              rcases hq with h | h
              · exact .inl h
              · have h5 := hK.out.1.fnew q h
                exact .inr ⟨h5.1, hK.out.1.fo.lt q h, h5.2.1⟩)
            clear hRC
            go_wp2_with (at_builtin; (refine wpList_appQ (S := fun q => T q ∨ (Value.slice fa Fi.length fcap).ownBlock = some q) rfl (.tmp 109) (.tmp 111) 38 38 rfl 37 (.agg #[zInt, zStr, zStr, zNil, zNil, zNil]) 112 Tryz.underlying38 info_cl rfl (by decide) goodCl (.slice na k nc) ((List.range k).map (fcl F)) rfl HN.out HV.out (.slice (some ⟨wc.heap.size, 0, none⟩) 1 1) [⟨1, nm k, objectName, Fi.map nm, [], []⟩] [[.int .i64 1, strV (nm k), strV objectName, .slice fa Fi.length fcap, zNil, zNil]] rfl (Els.single HR.out rfl) (Src.single (P := Tryz.prog) goodCl HR.out rfl (tx := 38) Tryz.underlying38 _ 1 (At.lit wc [.int .i64 1, strV (nm k), strV objectName, .slice fa Fi.length fcap, zNil, zNil] 37)) (by simp; unfold maxLen; omega) (by simp; omega) ?_); intro v' w5 g1 g2 g3; obtain ⟨na2, nc2, hf⟩ := g1.form; rw [List.length_append, List.length_map, List.length_range, List.length_cons, List.length_nil] at hf; subst hf; obtain ⟨⟨fz, cz⟩, hst⟩ := hI.out.step hwM (by omega) hK.out.1.chg hK.out.1.up hK.out.1.row hK.out.1.ne.2.1 HTT.out hK.out.2.1 hK.out.2.2.1 hK.out.2.2.2 g1 g2 g3; have HST := Lib.hid hst; clear g1 g2 g3 hst)
            exact ⟨⟨k + 1, _, _, _, _, _, by omega, by go_num, HST⟩, by simp [intOf]; omega⟩
    · have hkn : k = n := by omega
      subst hkn
      obtain ⟨g, cap, hv⟩ := hI.out.own.form
      rw [List.length_map, List.length_range] at hv
      subst hv
      have hm1 : (k : Int) - 1 = ((k - 1 : Nat) : Int) := by omega
      have hm2 : IntKind.i64.wrap ((k - 1 : Nat) : Int) = ((k - 1 : Nat) : Int) := by rw [IntKind.wrap_i64]; omega
      have HF := Lib.hid (fun (W : World) => func0_c W (k - 1) (by omega))
      have hbx := Lib.hid hI.out.box
      have cM : w3.cell? ⟨w2.heap.size, 1, none⟩ = some (.slice g k cap) := blk_cell hI.out.box rfl
      go_upto_region 23 with fail
      go_cut [] from 114 to 123 (fun wy => ∃ v' : Value, RowKit.Hid (GI w w2.heap.size (w2.heap.size + 1) k F R r wy v'))
      case first =>
        go_region_law (first
          | (refine step_appQ (S := fun q => T q ∨ q = y1.heap.size) rfl (.tmp 115) (.tmp 121) 38 38 rfl 37 (.agg #[zInt, zStr, zStr, zNil, zNil, zNil]) 112 Tryz.underlying38 info_cl rfl (by decide) goodCl (.slice g k cap) ((List.range k).map (fcl F)) (by simp [Act.eval]) HY.out.1 HY.out.2.1 (.slice (some ⟨y1.heap.size + 1, 0, none⟩) 1 1) [fcA k] [fcAc k y1.heap.size] (by simp [Act.eval]) (Els.single HY.out.2.2.1 rfl) (Src.single (P := Tryz.prog) goodCl HY.out.2.2.1 rfl (tx := 38) Tryz.underlying38 _ 1 (At.of_block HY.out.2.2.2.1)) (by simp; unfold maxLen; omega) (by simp; omega) ?_; intro v' w5 g1 g2 g3; obtain ⟨na2, nc2, hf⟩ := g1.form; rw [List.length_append, List.length_map, List.length_range, List.length_cons, List.length_nil, Nat.zero_add] at hf; subst hf; obtain ⟨⟨fz, cz⟩, hst⟩ := hI.out.last hwM (by omega) ((Y1.out.alloc _).alloc _) HY.out.2.2.2.2 g1 g2 g3; have HST := Lib.hid hst; clear g1 g2 g3 hst)
          | (go_simp; go_at_call 14; refine (HF.out _).mono ?_; rintro e y1 ⟨rfl, d⟩; have Y1 := Lib.hid (((Chg.refl No w3).drew).trans d (fun _ _ h => h)); have z1 : y1.cell? ⟨w2.heap.size, 1, none⟩ = some (.slice g k cap) := blk_cell (Y1.out.blk hbx.out) rfl; have z2 : (y1.alloc (.cells #[strV (nm (k - 1))] 9)).cell? ⟨w2.heap.size, 1, none⟩ = some (.slice g k cap) := blk_cell (alloc_blk (Y1.out.blk hbx.out)) rfl; have z3 : ((y1.alloc (.cells #[strV (nm (k - 1))] 9)).alloc (.cells (fcAc k y1.heap.size).toArray 37)).cell? ⟨w2.heap.size, 1, none⟩ = some (.slice g k cap) := blk_cell (alloc_blk (alloc_blk (Y1.out.blk hbx.out))) rfl; have HY := Lib.hid (hI.out.lastly Y1.out); clear d))
        all_goals (try go_wp2_with fail)
        all_goals go_meet
        all_goals exact ⟨_, HST⟩
      case rest =>
        obtain ⟨v', hG⟩ := hcut
        obtain ⟨ga, gc, hv⟩ := hG.out.sq.form
        rw [List.length_append, List.length_map, List.length_range, List.length_cons, List.length_nil, Nat.zero_add] at hv
        obtain ⟨hgv, -⟩ := hv
        subst hgv
        have HOK := Lib.hid (show FOk F k ∧ Rows F R k from ⟨⟨hlo, hhi, hI.out.lt, hI.out.nd⟩, ⟨hI.out.row⟩⟩)
        clear cM hm1 hm2 hbx hlt hk HF
        go_wp2_with fail
        refine (new_c wc).mono ?_
        rintro e w4 ⟨S, O, nv, es, rfl, hN⟩
        have L4 := Lib.hid (LB.of_new hN)
        clear hN
        have m0 : w4.cell? ⟨w2.heap.size, 0, none⟩ = some zNil := blk_cell (L4.out.chg.blk hG.out.box) rfl
        have m1 : w4.cell? ⟨w2.heap.size, 1, none⟩ = some (.slice ga (k + 1) gc) := blk_cell (L4.out.chg.blk hG.out.box) rfl
        go_wp2_with fail
        refine (lb_add L4.out (fun j => j < wc.heap.size) (fTl F k) _ (hG.out.sq.new goodCl L4.out.chg) (fun q hq => by have := L4.out.chg.size; omega) (fun c hc x hx => by
          rcases f_mem hc with ⟨i, -, rfl⟩ | rfl
          · cases hx
          · cases hx) (fun c hc => f_ok HOK.out.1 hc) (f_module HOK.out.1) (f_names HOK.out.1) (fun c hc d hd => f_new hc d (by simpa using hd)) (by simp; omega)).mono ?_
        rintro e w5 ⟨rfl, S2, O2, nv2, es2, hL5⟩
        have L5 := Lib.hid hL5; clear hL5 m0 m1
        have hG5 : RowKit.Hid (WG es2 (fTl F k)) := Lib.hid (wg_of (by exact L5.out.lw.cl) (by rw [L5.out.lw.cl]; exact f_okAll HOK.out.1) (by simp; omega))
        go_wp2_with fail
        refine (lb_link L5.out hG5.out (f_okAll HOK.out.1)).mono ?_
        rintro e w6 hK
        rcases hK with ⟨i, j, x, g1, -⟩ | ⟨-, rfl, S6, hL6⟩
        · exact absurd g1 (no_broken (f_all HOK.out.1 hG5.out))
        have L6 := Lib.hid hL6; clear hL6
        have hu := Lib.hid L5.out.lw.hw.uniq
        obtain ⟨xA, hxA, hxAn, hxAl⟩ := f_lenA HOK.out.1 hu.out hG5.out
        have HFA := Lib.hid (facesE_c L6.out.lw.hw xA hxA (by omega))
        rw [hxAn] at HFA
        clear hxA hxAn
        have hup6 := Lib.hid (L6.out.chg.blk hG.out.up)
        have hrw6 := Lib.hid (fun j (hj : j < k) => L6.out.chg.blk (hG.out.rows j hj))
        have HS1 := Lib.hid (fun (W : World) (c : Chg No w6 W) (i : Nat) (hi : i < k) => by
          have := sub_c (L6.out.lw.hw.new c) 0 [65] 0 (nm i) (by unfold Short maxLen; simp) (by unfold Short maxLen; simp [nm]) (f_lens HOK.out.1 hu.out hG5.out)
          rwa [f_subA HOK.out.1 HOK.out.2 hu.out hG5.out hi] at this)
        have HS2 := Lib.hid (fun (W : World) (c : Chg No w6 W) (i z : Nat) (hi : i < k) (hz : z < k) => by
          have := sub_c (L6.out.lw.hw.new c) 0 (nm i) 0 (nm z) (by unfold Short maxLen; simp [nm]) (by unfold Short maxLen; simp [nm]) (f_lens HOK.out.1 hu.out hG5.out)
          rwa [f_sub HOK.out.1 HOK.out.2 hu.out hG5.out hi hz] at this)
        have HA2 := Lib.hid (fun (W : World) (c : Chg No w6 W) (i z : Nat) (hi : i < k) (hz : z < k) => (by
          obtain ⟨x, hx, hxn, hxl, hxc⟩ := f_above HOK.out.1 hu.out hG5.out hi
          have := above_c (L6.out.lw.hw.new c) (nm z) x hx hxl
          rwa [hxc z hz, hxn] at this : Calls Tryz.prog 17 #[.pointer (some ⟨wc.heap.size + 1, 0, none⟩), strV (nm z), strV (nm i)] W fun e w' => e = .returned (.bool (decide (i = z))) ∧ Chg No W w'))
        have CW := Lib.hid (hG.out.chg.trans L6.out.chg (fun _ _ h => h))
        clear hu hG5 L4 L5
        go_wp2_with fail
        refine HFA.out.mono ?_
        rintro e w7 ⟨vA, rfl, hoA, d7, -⟩
        obtain ⟨aA, cA, hvA⟩ := hoA.form
        subst hvA
        have D7 := Lib.hid d7
        have hng : ¬ (xA.faces.length : Int) > (k : Int) := by omega
        have hng2 : ¬ k < xA.faces.length := by omega
        clear hoA d7 HFA
        have hUk : ∀ i, i < k → (upC k k r)[i]? = some (.slice (some ⟨r i, 0, none⟩) k k) := fun i hi => by
          have := rangeC_at k (fun j => if j < k then Value.slice (some ⟨r j, 0, none⟩) k k else zNil) hi
          rwa [if_pos hi] at this
        have HU := Lib.hid (fun (W : World) (c : Chg No w6 W) (i : Nat) (hi : i < k) => (blk_cell (c.blk hup6.out) (hUk i hi) : W.cell? ⟨w2.heap.size + 1, i, none⟩ = some (.slice (some ⟨r i, 0, none⟩) k k)))
        have HRW := Lib.hid (fun (W : World) (c : Chg No w6 W) (i z : Nat) (hi : i < k) (hz : z < k) => (blk_cell (c.blk (hrw6.out i hi)) (rangeC_at k (fun z => Value.bool (R i z)) hz) : W.cell? ⟨r i, z, none⟩ = some (.bool (R i z))))
        clear hUk
        have hm1 : (k : Int) - 1 = ((k - 1 : Nat) : Int) := by omega
        have hm2 : IntKind.i64.wrap ((k - 1 : Nat) : Int) = ((k - 1 : Nat) : Int) := by rw [IntKind.wrap_i64]; omega
        go_wp2_with fail
        go_loopw [15] (fun iv wr => ∃ i : Nat, i ≤ k ∧ iv = .int .i64 i ∧ RowKit.Hid (Chg No w6 wr)) (fun iv _ => k - (intOf iv).toNat)
        case atStart => exact ⟨0, Nat.zero_le _, rfl, D7⟩
        case round =>
          obtain ⟨i, hi, rfl, hR⟩ := hrel
          obtain ⟨w8, hw8⟩ : ∃ w8, w8 = wr := ⟨_, rfl⟩
          subst hw8
          by_cases hik : i < k
          · obtain ⟨rb, hrb⟩ : ∃ b, b = R (k - 1) i := ⟨_, rfl⟩
            have x0 : ∀ x : Ext w8, x.v.cell? ⟨w2.heap.size + 1, k - 1, none⟩ = some (.slice (some ⟨r (k - 1), 0, none⟩) k k) := fun x => x.cell (HU.out _ hR.out (k - 1) (by omega))
            have x1 : ∀ x : Ext w8, x.v.cell? ⟨r (k - 1), i, none⟩ = some (.bool rb) := fun x => x.cell (by rw [hrb]; exact HRW.out _ hR.out (k - 1) i (by omega) hik)
            have HC1 := Lib.hid (fun (x : Ext w8) => by
              have := HS1.out x.v (hR.out.trans x.c (fun _ _ h => h)) i hik
              rwa [← hrb] at this)
            have HC0 := Lib.hid (fun (x : Ext w8) => func0_c x.v i (by omega))
            have hk1 : k - 1 < k := by omega
            clear hrb
            go_upto_region 33 with fail
            refine wp_region_ext (by kernel_rfl) (by kernel_rfl) ?_
            repeat (first | go_big_quiet_step (((first | (go_at_call 14; exact Calls.ext_of (HC0.out _)) | (go_at_call 16; exact Calls.ext_of (HC1.out _))))) | quiet_step (((first | (go_at_call 14; exact Calls.ext_of (HC0.out _)) | (go_at_call 16; exact Calls.ext_of (HC1.out _))))))
            refine wpQuiet_nil ?_
            rintro _ ⟨x, rfl⟩
            have R1 := Lib.hid (hR.out.trans x.c (fun _ _ h => h))
            clear x0 x1 HC1 HC0
            have hbb : (rb != rb) = false := by simp
            go_wp2_with fail
            go_loopw [16] (fun zv wr => ∃ z : Nat, z ≤ k ∧ zv = .int .i64 z ∧ RowKit.Hid (Chg No w6 wr)) (fun zv _ => k - (intOf zv).toNat)
            case atStart => exact ⟨0, Nat.zero_le _, rfl, R1⟩
            case round =>
              obtain ⟨z, hz, rfl, hQ⟩ := hrel
              by_cases hzk : z < k
              · obtain ⟨rc, hrc⟩ : ∃ b, b = R i z := ⟨_, rfl⟩
                have x0 : ∀ x : Ext wr, x.v.cell? ⟨w2.heap.size + 1, i, none⟩ = some (.slice (some ⟨r i, 0, none⟩) k k) := fun x => x.cell (HU.out _ hQ.out i hik)
                have x1 : ∀ x : Ext wr, x.v.cell? ⟨r i, z, none⟩ = some (.bool rc) := fun x => x.cell (by rw [hrc]; exact HRW.out _ hQ.out i z hik hzk)
                have HC2 := Lib.hid (fun (x : Ext wr) => by
                  have := HS2.out x.v (hQ.out.trans x.c (fun _ _ h => h)) i z hik hzk
                  rwa [← hrc] at this)
                have HCi := Lib.hid (fun (x : Ext wr) => func0_c x.v i (by omega))
                have HCz := Lib.hid (fun (x : Ext wr) => func0_c x.v z (by omega))
                have HCa := Lib.hid (fun (x : Ext wr) => HA2.out x.v (hQ.out.trans x.c (fun _ _ h => h)) i z hik hzk)
                have hcc : (rc != rc) = false := by simp
                clear hrc
                by_cases hiz : i = z
                · subst hiz
                  have HCa2 := Lib.hid (fun (x : Ext wr) => by
                    have := HCa.out x
                    rwa [decide_eq_true (rfl : i = i)] at this)
                  clear HCa HCz
                  go_upto_region 38 with fail
                  refine wp_region_ext (by kernel_rfl) (by kernel_rfl) ?_
                  repeat (first | go_big_quiet_step (((first | (go_at_call 14; exact Calls.ext_of (HCi.out _)) | (go_at_call 16; exact Calls.ext_of (HC2.out _)) | (go_at_call 17; exact Calls.ext_of (HCa2.out _))))) | quiet_step (((first | (go_at_call 14; exact Calls.ext_of (HCi.out _)) | (go_at_call 16; exact Calls.ext_of (HC2.out _)) | (go_at_call 17; exact Calls.ext_of (HCa2.out _))))))
                  refine wpQuiet_nil ?_
                  rintro _ ⟨x, rfl⟩
                  go_wp2_with fail
                  exact ⟨⟨i + 1, by omega, by go_num, Lib.hid (hQ.out.trans x.c (fun _ _ h => h))⟩, by simp [intOf]; omega⟩
                · have HCa2 := Lib.hid (fun (x : Ext wr) => by
                    have := HCa.out x
                    rwa [decide_eq_false hiz] at this)
                  have hiz2 : ¬ (i : Int) = (z : Int) := by omega
                  have hiz3 : ((i : Int) == (z : Int)) = false := by simpa using hiz2
                  clear HCa
                  go_upto_region 38 with fail
                  refine wp_region_ext (by kernel_rfl) (by kernel_rfl) ?_
                  repeat (first | go_big_quiet_step (((first | (go_at_call 14; with_reducible exact Calls.ext_of (HCi.out _)) | (go_at_call 14; with_reducible exact Calls.ext_of (HCz.out _)) | (go_at_call 16; exact Calls.ext_of (HC2.out _)) | (go_at_call 17; exact Calls.ext_of (HCa2.out _))))) | quiet_step (((first | (go_at_call 14; with_reducible exact Calls.ext_of (HCi.out _)) | (go_at_call 14; with_reducible exact Calls.ext_of (HCz.out _)) | (go_at_call 16; exact Calls.ext_of (HC2.out _)) | (go_at_call 17; exact Calls.ext_of (HCa2.out _))))))
                  refine wpQuiet_nil ?_
                  rintro _ ⟨x, rfl⟩
                  go_wp2_with fail
                  exact ⟨⟨z + 1, by omega, by go_num, Lib.hid (hQ.out.trans x.c (fun _ _ h => h))⟩, by simp [intOf]; omega⟩
              · go_wp2_with fail
                exact ⟨⟨i + 1, by omega, by go_num, hQ⟩, by simp [intOf]; omega⟩
          · go_wp2
            go_ret
            exact ⟨rfl, CW.out.trans hR.out (fun _ _ h => h)⟩

end Go.Proofs.YtgmmclcpfmnoiaaGreatDoor
