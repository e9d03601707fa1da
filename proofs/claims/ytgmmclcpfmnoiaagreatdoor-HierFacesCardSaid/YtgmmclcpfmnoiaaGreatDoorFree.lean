/-
  The rule free of Link, walked.
-/
import Derived.Test.YtgmmclcpfmnoiaaGreatDoorChain
import Derived.Test.YtgmmclcpfmnoiaaGreatDoorApi
import Derived.Deep.CutRange
import Derived.Maps.RangeWalk
namespace Go.Proofs.YtgmmclcpfmnoiaaGreatDoor
open Go.RowKit

/-- The world while a class's own are gathered: the list, the set of those that were seen. -/
structure FreeW (w : World) (wr : World) (lv : Value) (x : Bs) (T : List Bs) : Prop where
  chg : Chg No w wr
  own : OQ 9 1 RStr No wr lv (x :: T)
  set : ∃ n, n ≤ T.length ∧ StrSet Tryz.prog 9 3 wr w.heap.size n (fun s => decide (s ∈ T))
  newL : ∀ k, lv.ownBlock = some k → w.heap.size < k
theorem FreeW.new {w wr w1 : World} {lv : Value} {x : Bs} {T : List Bs} (h : FreeW w wr lv x T) (d : Chg No wr w1) : FreeW w w1 lv x T :=
  ⟨h.chg.trans d (fun _ _ h => h), h.own.new goodStr d, let ⟨n, hn, hs⟩ := h.set; ⟨n, hn, hs.at_block (d.block _ hs.lt (fun h => h))⟩, h.newL⟩

/-- One more: the set's block, then the list. -/
theorem FreeW.add {w wr w1 w2 : World} {lv lv' : Value} {x s : Bs} {T : List Bs} (h : FreeW w wr lv x T) {n : Nat} (hn : n ≤ T.length) (hs : StrSet Tryz.prog 9 3 w1 w.heap.size (n + 1) (fun y => y == s || decide (y ∈ T)))
    (hg : wr.grownBy w1 (some w.heap.size)) {o : Obj} (ho : OQ 9 1 RStr No w2 lv' ((x :: T) ++ [s])) (c2 : Chg (fun k => some k = lv.ownBlock) (w1.alloc o) w2) (hl : lv'.ownBlock = lv.ownBlock ∨ ∃ b, lv'.ownBlock = some b ∧ (w1.alloc o).heap.size ≤ b) :
    FreeW w w2 lv' x (T ++ [s]) := by
  have hc := h.chg.size
  have hsz := hg.size
  refine ⟨?_, ho, ⟨n + 1, by simp; exact hn, ?_⟩, fun k hk => ?_⟩
  · have c1 : Chg No w w1 := h.chg.trans (Chg.grown hg) (fun k hk e => by simp only [Option.some.injEq] at e; omega)
    exact (c1.alloc o).trans c2 (fun k hk e => by have := h.newL k e.symm; omega)
  · have he : (fun y => y == s || decide (y ∈ T)) = fun y => decide (y ∈ T ++ [s]) := by
      funext y
      by_cases h1 : y = s <;> by_cases h2 : y ∈ T <;> simp [h1, h2]
    rw [← he]
    have hlt := hs.lt
    refine hs.at_block ?_
    rw [c2.block _ (by simp; omega) (fun e => by have := h.newL _ e.symm; omega), Below.heap_alloc _ _ _ hlt]
  · rcases hl with hl | ⟨b, hl, hb⟩
    · rw [hl] at hk; exact h.newL k hk
    · rw [hl] at hk
      cases hk
      have hlt := hs.lt
      simp at hb
      omega
section
variable {S O : Blocks} {w : World} {b mb : Nat} {nv : Value} {es : List Ent} {lk : Bool}
set_option maxRecDepth 100000 in
set_option maxHeartbeats 6400000 in
theorem free_c (h : HW S O w b mb nv es lk) (hle : es.length ≤ 1000) (hcl : ∀ c ∈ cls es, (c.super = [] ∨ ∃ d, fnd (cls es) c.super = some d) ∧ ∀ s ∈ c.faces, ∃ d, fnd (cls es) s = some d) (hnm : ∀ c ∈ cls es, c.name ≠ []) (hfl : ∀ c ∈ cls es, c.faces.length ≤ 1000) (x : Ent) (hx : x ∈ es) :
    Calls Tryz.prog 38 #[.pointer (some ⟨b, 0, none⟩), .pointer (some ⟨x.at_, 0, none⟩)] w fun e w' => ∃ r : Bool, e = .returned (.bool r) ∧ (r = true ↔ ¬ Reach (cls es) x.cl.name x.cl.name) ∧ Chg No w w' := by
  have hmm := @run_makeMap Tryz.prog
  have hbl := h.o_lt b h.own_b
  have hxl := h.o_lt _ (h.own_e x hx)
  obtain ⟨f, g, m, p, c, q, ⟨e0, e1, e2, e3, e4, e5, e6, -⟩, -⟩ := h.cells hx
  have H := Lib.hid (And.intro h (And.intro hcl (And.intro hnm hfl)))
  have hxf := (atf_mem h.uniq hx).2
  have HXF := Lib.hid hxf
  clear h hcl hnm hfl hxf
  have HI0 : RowKit.Hid (FreeW w ((w.alloc (.map #[] 0)).alloc (.cells #[strV x.cl.name] 9)) (.slice (some ⟨w.heap.size + 1, 0, none⟩) 1 1) x.cl.name []) := Lib.hid (by
    refine ⟨((Chg.refl _ w).alloc _).alloc _, ?_, ⟨0, Nat.le_refl _, ?_⟩, fun k hk => ?_⟩
    · refine ⟨[[strV x.cl.name]], ?_, Els.single rfl rfl⟩
      have := owns_lit (w.alloc (.map #[] 0)) 9 [strV x.cl.name] (by unfold maxLen; simp)
      rwa [size_alloc1] at this
    · exact (StrSet.made w).at_block (Below.heap_alloc _ _ _ (by simp))
    · simp only [Value.ownBlock, Option.some.injEq] at hk; omega)
  go_enter Tryz.func38, Tryz.ntmps38
  go_wp2_with fail
  go_loopw [7, 6] (fun iv lv wr => ∃ (i : Nat) (T : List Bs) (na : Nat) (nc : Nat), iv = .int .i64 i ∧ lv = .slice (some ⟨na, 0, none⟩) (T.length + 1) nc ∧ i ≤ T.length + 1 ∧ RowKit.Hid (FreeW w wr lv x.cl.name T ∧ FreeP (cls es) x.cl.name T i)) (fun iv _ _ => es.length - (intOf iv).toNat)
  case atStart => exact ⟨0, [], _, _, rfl, rfl, by simp, Lib.hid ⟨HI0.out, FreeP.start _ _⟩⟩
  case round =>
    obtain ⟨i, T, na, nc, rfl, rfl, hi, hI⟩ := hrel
    have hTl : T.length + 1 ≤ es.length := by
      have := hI.out.2.len ⟨_, HXF.out⟩
      simpa [cls] using this
    by_cases hlt : i < T.length + 1
    · obtain ⟨y, hy⟩ : ∃ y, (x.cl.name :: T)[i]? = some y := ⟨_, List.getElem?_eq_getElem (by simpa using hlt)⟩
      obtain ⟨cy, hcy⟩ : ∃ c, fnd (cls es) y = some c := by
        rcases List.mem_cons.1 (List.mem_of_getElem? hy) with e | hm
        · rw [e]; exact ⟨_, HXF.out⟩
        · exact (hI.out.2.reach y hm).2
      obtain ⟨z, hz, hzc, hzn, hat⟩ := fnd_some hcy
      subst hzc
      have hsh : Short y := by rw [← hzn]; exact (H.out.1.short z hz).name
      have HW1 := H.out.1.new hI.out.1.chg
      have kL := fun n => HW1.lookEN hsh hat n
      have k1 := HW1.c1
      obtain ⟨f1, g1, m1, p1, c1, q1, ⟨-, -, z2, z3, -⟩, zf, -⟩ := HW1.cells hz
      obtain ⟨fa, fc, rfl, -, -⟩ := zf.form
      have hsq : SQ 1 RStr (fun _ => True) wr (.slice (some ⟨na, 0, none⟩) (T.length + 1) nc) (x.cl.name :: T) := hI.out.1.own.sq goodStr (fun _ _ => trivial) (fun _ _ => trivial)
      obtain ⟨b', o, ds, hbo, hcl, hR, hbl', hsb, hcell⟩ := SQ.cells hsq i (by simpa using hlt)
      cases hbo
      obtain rfl := hR
      have g0 := hcell 0 _ rfl
      rw [Nat.mul_one, Nat.add_zero, Nat.zero_add] at g0
      rw [show (x.cl.name :: T)[i] = y from by have := List.getElem?_eq_getElem (l := x.cl.name :: T) (i := i) (by simpa using hlt); rw [hy] at this; cases this; rfl] at g0
      have hzl : z.at_ < wr.heap.size := HW1.o_lt _ (HW1.own_e z hz)
      have HY := Lib.hid (And.intro hy (And.intro hcy (And.intro hz zf)))
      clear hy hcy hzn hat hsh HW1 zf hsq hcell hcl
      go_wp2_with fail
      go_quiet (fail)
      obtain ⟨wq, hwq⟩ : ∃ wq, wq = wr.drewN nq := ⟨_, rfl⟩
      rw [← hwq]
      have CQ := Lib.hid (show Chg No wr wq from by rw [hwq]; exact (Chg.refl _ _).drewN nq)
      clear hwq
      have z2q := (CQ.out.cell (p := ⟨z.at_, 2, none⟩) hzl (fun h => h)).trans z2
      have z3q := (CQ.out.cell (p := ⟨z.at_, 3, none⟩) hzl (fun h => h)).trans z3
      have hzq := Nat.lt_of_lt_of_le hzl CQ.out.size
      clear z2 z3 g0 k1 kL
      have HO := Lib.hid (show OQ 9 1 RStr No ((wq.alloc (.cells #[strV z.cl.super] 9)).drew) (.slice (some ⟨wq.heap.size, 0, none⟩) 1 1) [z.cl.super] from (oq_lit wq z.cl.super).new goodStr (Chg.refl _ _).drew)
      obtain ⟨css, hE, hsrc⟩ := (HY.out.2.2.2.new goodStr ((CQ.out.alloc (.cells #[strV z.cl.super] 9)).drew)).src goodStr (by decide) (P := Tryz.prog) (tx := 34) Tryz.underlying34
      have HS := Lib.hid (And.intro (str_els hE) hsrc)
      clear hE hsrc
      have hfl := H.out.2.2.2 z.cl (List.mem_map_of_mem HY.out.2.2.1)
      go_wp2_with fail
      go_region_law (refine step_appQ (S := No) rfl (.tmp 41) (.tmp 46) 34 34 rfl 9 zStr 16 Tryz.underlying34 info_str rfl (by decide) goodStr (.slice (some ⟨wq.heap.size, 0, none⟩) 1 1) [z.cl.super] (by simp [Act.eval]) HO.out (fun k hk _ => hk.elim) (.slice fa z.cl.faces.length fc) z.cl.faces css (by simp [Act.eval]) HS.out.1 HS.out.2 (by simp; unfold maxLen; omega) (by simp; omega) ?_; intro v' w3 g1 g2 g3; obtain ⟨ub, uc, rfl, huc⟩ := g1.form1 (by simp); have HUB := Lib.hid (ub_of g3 (size_al wq _)); have HG := Lib.hid (And.intro g1 (((CQ.out.alloc (.cells #[strV z.cl.super] 9)).drew).trans g2 (fun n hn e => by simp [Value.ownBlock] at e; have := CQ.out.size; omega))); clear g1 g2 g3)
      all_goals (try go_wp2_with fail)
      all_goals
        have hSL : SQ 1 RStr (fun k => k = ub) w3 (.slice (some ⟨ub, 0, none⟩) ([z.cl.super] ++ z.cl.faces).length uc) (z.cl.super :: z.cl.faces) := HG.out.1.sq goodStr (fun k hk => by simp [Value.ownBlock] at hk; exact hk.symm) (fun _ h => h.elim)
        have hub := HUB.out
        have hqs := CQ.out.size
        have hna : na ≠ ub := by omega
        have hws0 := hI.out.1.chg.size
        have hset0 : w.heap.size < wr.heap.size := by obtain ⟨n, -, hs⟩ := hI.out.1.set; exact hs.lt
        have hus : ub ≠ w.heap.size := by omega
        have HSL := Lib.hid hSL
        have hUl : ([z.cl.super] ++ z.cl.faces).length = z.cl.faces.length + 1 := by simp
        have HW3 := Lib.hid (And.intro (hI.out.1.new HG.out.2) (hI.out.2.begin HY.out.1 HY.out.2.1))
        clear hSL
        simp only [List.getElem_toArray, List.getElem_cons_succ, List.getElem_cons_zero, Act.put, List.setIfInBounds_toArray, List.set_cons_succ, List.set_cons_zero]
        go_loopw [49, 6] (fun jv lv wr => ∃ (j : Nat) (T : List Bs) (na : Nat) (nc : Nat), jv = .int .i64 j ∧ lv = .slice (some ⟨na, 0, none⟩) (T.length + 1) nc ∧ j ≤ z.cl.faces.length + 1 ∧ RowKit.Hid (FreeW w wr lv x.cl.name T ∧ FreeQ (cls es) x.cl.name T i y z.cl j ∧ SQ 1 RStr (fun k => k = ub) wr (.slice (some ⟨ub, 0, none⟩) ([z.cl.super] ++ z.cl.faces).length uc) (z.cl.super :: z.cl.faces) ∧ na ≠ ub ∧ ub < wr.heap.size)) (fun jv _ _ => z.cl.faces.length + 1 - (intOf jv).toNat)
        case atStart => exact ⟨0, T, _, _, rfl, rfl, by omega, Lib.hid ⟨HW3.out.1, HW3.out.2, HSL.out, hna, by obtain ⟨cur, h⟩ := HG.out.1.block (k := ub) rfl; exact heap_lt h⟩⟩
        case round =>
          clear hI hi hTl HW3 z2q z3q hlt hna hset0 hqs hub
          obtain ⟨j, T, na, nc, rfl, rfl, hj, hJ⟩ := hrel
          by_cases hlt : j < z.cl.faces.length + 1
          · obtain ⟨s, hs⟩ : ∃ s, (z.cl.super :: z.cl.faces)[j]? = some s := ⟨_, List.getElem?_eq_getElem (by simpa using hlt)⟩
            have hsS : Short s := by
              rcases List.mem_cons.1 (List.mem_of_getElem? hs) with e | hm
              · rw [e]; exact (H.out.1.short z HY.out.2.2.1).super
              · exact (H.out.1.short z HY.out.2.2.1).faces s hm
            obtain ⟨b', o, ds, hbe, hcl, hR, hbl', hsb, hcell⟩ := SQ.cells hJ.out.2.2.1 j (by simpa using hlt)
            cases hbe
            obtain rfl := hR
            have g0 := hcell 0 _ rfl
            rw [Nat.mul_one, Nat.add_zero, Nat.zero_add] at g0
            rw [show (z.cl.super :: z.cl.faces)[j]'(by simpa using hlt) = s from by have := List.getElem?_eq_getElem (l := z.cl.super :: z.cl.faces) (i := j) (by simpa using hlt); rw [hs] at this; cases this; rfl] at g0
            have x1 := (hJ.out.1.chg.cell (p := ⟨x.at_, 1, none⟩) hxl (fun h => h)).trans e1
            clear hcell hcl
            have HS2 := Lib.hid (And.intro hs hsS)
            clear hs hsS
            obtain ⟨n, hn, hset⟩ := hJ.out.1.set
            have HT := Lib.hid hset
            clear hset
            by_cases hsx : s = x.cl.name
            · have hb : (s == x.cl.name) = true := by simp [hsx]
              have HX := Lib.hid hsx; clear hsx
              have HRR : RowKit.Hid (Reach (cls es) x.cl.name x.cl.name ∧ Chg No w wr) := Lib.hid ⟨by
                have hr := hJ.out.2.1.from_ HS2.out.1 (by rw [HX.out]; exact H.out.2.2.1 x.cl (List.mem_map_of_mem hx))
                rw [HX.out] at hr
                exact hr, hJ.out.1.chg⟩
              go_wp2
              go_ret
              first
                | exact .inl ⟨rfl, HRR.out.1, HRR.out.2⟩
                | exact ⟨false, rfl, by simp; exact HRR.out.1, HRR.out.2⟩
            · have hb : (s == x.cl.name) = false := beq_eq_false_iff_ne.2 hsx
              have HX := Lib.hid hsx; clear hsx
              by_cases hsT : s ∈ T
              · have hd : decide (s ∈ T) = true := by simp [hsT]
                have HM := Lib.hid hsT; clear hsT
                go_wp2_with (at_lookup; refine wpList_look_set rfl _ _ 133 rfl 9 3 Tryz.underlying9 Tryz.underlying133 Tryz.underlying3 (zero_int _) w.heap.size n (fun s => decide (s ∈ T)) rfl HT.out s HS2.out.2 rfl ?_; intro cv)
                go_roundw
                case rel => exact ⟨j + 1, T, _, _, by go_num, rfl, by omega, Lib.hid ⟨hJ.out.1, hJ.out.2.1.skip HS2.out.1 HX.out (fun _ => HM.out), hJ.out.2.2⟩⟩
                case measure => simp [intOf]; omega
              · have hd : decide (s ∈ T) = false := by simp [hsT]
                have HM := Lib.hid hsT; clear hsT
                by_cases hs0 : s = []
                · have hie : List.isEmpty s = true := by rw [hs0]; rfl
                  have H0 := Lib.hid hs0; clear hs0
                  go_wp2_with (at_lookup; refine wpList_look_set rfl _ _ 133 rfl 9 3 Tryz.underlying9 Tryz.underlying133 Tryz.underlying3 (zero_int _) w.heap.size n (fun s => decide (s ∈ T)) rfl HT.out s HS2.out.2 rfl ?_; intro cv)
                  go_roundw
                  case rel => exact ⟨j + 1, T, _, _, by go_num, rfl, by omega, Lib.hid ⟨hJ.out.1, hJ.out.2.1.skip HS2.out.1 HX.out (fun h => absurd H0.out h), hJ.out.2.2⟩⟩
                  case measure => simp [intOf]; omega
                · have hie : List.isEmpty s = false := by cases s with
                    | nil => exact absurd rfl hs0
                    | cons => rfl
                  have H0 := Lib.hid hs0; clear hs0
                  have HOW := Lib.hid (fun (w4 : World) (hg : wr.grownBy w4 (some w.heap.size)) => (hJ.out.1.own.keep goodStr (Chg.grown hg) (fun k hk e => by have := hJ.out.1.newL k hk; simp only [Option.some.injEq] at e; omega) (fun k hk => hk.elim)).new goodStr ((Chg.refl No w4).alloc (.cells #[strV s] 9)))
                  have HSR := Lib.hid (fun (w4 : World) => Src.single (P := Tryz.prog) (n := 1) (S := No) (R := RStr) goodStr (x := s) rfl rfl (tx := 34) Tryz.underlying34 ⟨w4.heap.size, 0, none⟩ 1 (At.lit w4 [strV s] 9))
                  have hTl2 : T.length + 1 ≤ es.length := by
                    have := hJ.out.2.1.p.len ⟨_, HXF.out⟩
                    simpa [cls] using this
                  have hit : i < T.length + 1 := by
                    have := (List.getElem?_eq_some_iff.1 hJ.out.2.1.at_).1
                    simpa using this
                  obtain ⟨dd, hdd⟩ : ∃ d, fnd (cls es) s = some d := by
                    have hzm := H.out.2.1 z.cl (List.mem_map_of_mem HY.out.2.2.1)
                    rcases List.mem_cons.1 (List.mem_of_getElem? HS2.out.1) with e | hm
                    · rcases hzm.1 with e2 | e2
                      · exact absurd (e.trans e2) H0.out
                      · rw [e]; exact e2
                    · exact hzm.2 s hm
                  have HDD := Lib.hid hdd; clear hdd
                  go_wp2_with (first
                    | (at_lookup; refine wpList_look_set rfl _ _ 133 rfl 9 3 Tryz.underlying9 Tryz.underlying133 Tryz.underlying3 (zero_int _) w.heap.size n (fun s => decide (s ∈ T)) rfl HT.out s HS2.out.2 rfl ?_; intro cv)
                    | (at_mapUpdate; (refine wpList_put_set rfl (.tmp 72) (.tmp 73) (.tmp 74) 133 rfl 9 3 Tryz.underlying9 Tryz.underlying133 Tryz.underlying3 w.heap.size n (fun s => decide (s ∈ T)) rfl HT.out (by unfold maxLen; omega) s HS2.out.2 rfl (i : Int) (WalkArith.wf_i64 (by omega)) rfl ?_); intro w4 hset4 hg4; have HG4 := Lib.hid (And.intro hset4 hg4); clear hset4 hg4)
                    | (at_builtin; (refine wpList_appQ (S := No) rfl (.tmp 75) (.tmp 77) 34 34 rfl 9 zStr 16 Tryz.underlying34 info_str rfl (by decide) goodStr (.slice (some ⟨na, 0, none⟩) (T.length + 1) nc) (x.cl.name :: T) rfl (HOW.out _ HG4.out.2) (fun k hk _ => hk.elim) (.slice (some ⟨w4.heap.size, 0, none⟩) 1 1) [s] [[strV s]] rfl (Els.single rfl rfl) (HSR.out _) (by simp; unfold maxLen; omega) (by simp; omega) ?_); intro v5 w5 g1 g2 g3; obtain ⟨na5, nc5, rfl, hc5⟩ := g1.form1 (by simp); have HG5 := Lib.hid (And.intro g1 (And.intro g2 g3)); clear g1 g2 g3))
                  go_roundw
                  case rel =>
                    have hF := hJ.out.1.add hn HG4.out.1 HG4.out.2 HG5.out.1 HG5.out.2.1 HG5.out.2.2
                    rw [show (x.cl.name :: T ++ [s]).length = T.length + 1 + 1 from by simp] at hF
                    have hu := hJ.out.2.2.2.2
                    have hsz := HG4.out.2.size
                    have hn5 : na5 ≠ ub := by
                      rcases HG5.out.2.2 with h | ⟨bb, h, hb⟩
                      · simp [Value.ownBlock] at h; have := hJ.out.2.2.2.1; omega
                      · simp [Value.ownBlock] at h; simp at hb; omega
                    have c5 : Chg (fun k => k = w.heap.size ∨ k = na) wr w5 :=
                      ((((Chg.grown HG4.out.2).mono (S' := fun k => k = w.heap.size ∨ k = na) (fun k _ e => by simp only [Option.some.injEq] at e; exact .inl e)).alloc (.cells #[strV s] 9)).trans HG5.out.2.1 (fun k _ e => by simp [Value.ownBlock] at e; exact .inr e))
                    refine ⟨j + 1, T ++ [s], na5, nc5, by go_num, ?_, by omega, Lib.hid ⟨hF, hJ.out.2.1.add HS2.out.1 HX.out H0.out HM.out HDD.out, hJ.out.2.2.1.keep goodStr c5 (fun k hk e => ?_), hn5, Nat.lt_of_lt_of_le hu c5.size⟩⟩
                    · simp
                    · have := hJ.out.2.2.2.1; omega
                  case measure => simp [intOf]; omega
          · have hjj : (z.cl.super :: z.cl.faces).length ≤ j := by simp; omega
            have hTl2 : T.length + 1 ≤ es.length := by
              have := hJ.out.2.1.p.len ⟨_, HXF.out⟩
              simpa [cls] using this
            have hit : i < T.length + 1 := by
              have := (List.getElem?_eq_some_iff.1 hJ.out.2.1.at_).1
              simpa using this
            have HJJ := Lib.hid hjj; clear hjj
            go_wp2
            go_roundw
            case rel => exact ⟨i + 1, T, _, _, by go_num, rfl, by omega, Lib.hid ⟨hJ.out.1, hJ.out.2.1.next HJJ.out⟩⟩
            case measure => simp [intOf]; omega
    · go_wp2
      go_ret
      exact ⟨true, rfl, by simp; exact hI.out.2.end_ (by simp; omega), hI.out.1.chg⟩
end

end Go.Proofs.YtgmmclcpfmnoiaaGreatDoor
