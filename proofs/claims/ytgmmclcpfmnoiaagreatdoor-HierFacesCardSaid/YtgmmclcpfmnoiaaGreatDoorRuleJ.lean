/-
  The rule owes of Link, walked at any world.
-/
import Derived.Test.YtgmmclcpfmnoiaaGreatDoorRuleI
import Derived.Test.YtgmmclcpfmnoiaaGreatDoorWalkG
import Derived.Deep.CutRange
namespace Go.Proofs.YtgmmclcpfmnoiaaGreatDoor
open Go.RowKit

/-- What the code of owes asks of a method. -/
def lackX (es : List Ent) (chain : List Bs) (m : Mt) : Bool :=
  m.flags == 2 && match nearX es m.name m.sig chain with
    | none => true
    | some (y, i) => !(match y.cl.methods[i]? with | some z => z.flags == 0 | none => false)
theorem lackX_plain {es : List Ent} {up : List Bs} (h : ∀ s ∈ up, ∃ x, es.find? (fun x => x.cl.name == s) = some x) (m : Mt) : lackX es up m = lacksB (cls es) up m := by
  unfold lackX lacksB
  rw [nearX_plain h]
  cases nearX es m.name m.sig up with
  | none => rfl
  | some p => rfl
section
variable {S O : Blocks} {w : World} {b mb : Nat} {nv : Value} {es : List Ent} {lk : Bool}
set_option maxRecDepth 100000 in
set_option maxHeartbeats 6400000 in
theorem lackF_c (h : HW S O w b mb nv es lk) (hw : WOk es) (T U : Blocks) (m : Mt) (v cv hv : Value) (hx : SQ 2 RTy T w v m.sig.params) (hc : SQ 1 RByte T w cv m.code) (hh : SQ 4 RHd T w hv m.handlers) (ox : m.sig.params.length ≤ maxLen) (kb kc : Nat) (uv : Value) (up : List Bs) (hu : SQ 1 RStr U w uv up) (hl : up.length ≤ 1000000) (hall : ∀ s ∈ up, ∃ k, atf es s = some k)
    (hb : w.heap[kb]? = some (.cells #[.pointer (some ⟨b, 0, none⟩)] 42 (0, 0))) (hk : w.heap[kc]? = some (.cells #[uv] 34 (0, 0))) :
    Calls Tryz.prog 83 #[.agg (mtC m v cv hv), .pointer (some ⟨kb, 0, none⟩), .pointer (some ⟨kc, 0, none⟩)] w fun e w' => e = .returned (.bool (lackX es up m)) ∧ Chg No w w' := by
  obtain ⟨a, c, rfl, -, -⟩ := hx.form
  obtain ⟨a2, c2, rfl, -, -⟩ := hc.form
  obtain ⟨a3, c3, rfl, -, -⟩ := hh.form
  obtain ⟨ua, uc, rfl, -, -⟩ := hu.form
  have d0 := (Chg.refl No w).alloc (.cells (mtC m (.slice a m.sig.params.length c) (.slice a2 m.code.length c2) (.slice a3 m.handlers.length c3)) 32)
  have hB := alloc_blk (o2 := .cells (mtC m (.slice a m.sig.params.length c) (.slice a2 m.code.length c2) (.slice a3 m.handlers.length c3)) 32) hb
  have hK := alloc_blk (o2 := .cells (mtC m (.slice a m.sig.params.length c) (.slice a2 m.code.length c2) (.slice a3 m.handlers.length c3)) 32) hk
  have k0 := blk_cell hB (j := 0) rfl
  have k1 := blk_cell hK (j := 0) rfl
  have HN := Lib.hid (nearest_c (h.new d0) hw T U _ up (hu.new goodStr d0) hl hall m.name m.sig _ (hx.new goodTy d0) ox)
  have H := Lib.hid (h.new d0)
  have HD := Lib.hid d0
  clear hB hK hb hk hx hc hh hu h d0
  cases hr : nearX es m.name m.sig up with
  | none =>
    rw [hr] at HN
    have hn : nearV none = .tuple #[.pointer none, .int .i64 (-1)] := rfl
    rw [hn] at HN
    cases hf : m.flags == 2 with
    | true =>
      have HE := Lib.hid (show lackX es up m = true by unfold lackX; rw [hr, hf]; rfl)
      rw [HE.out]
      clear hr
      go_enter Tryz.func83, Tryz.ntmps83
      go_wp2_with fail
      refine HN.out.mono ?_
      rintro e w1 ⟨rfl, d⟩
      have D := Lib.hid (HD.out.trans d (fun _ _ h => h))
      have x0 := blk_cell (d.blk (heap_alloc_new w _)) (j := 0) rfl
      clear d k0 k1
      go_wp2
      go_ret
      exact ⟨rfl, D.out⟩
    | false =>
      have HE := Lib.hid (show lackX es up m = false by unfold lackX; rw [hf]; rfl)
      rw [HE.out]
      clear hr
      go_enter Tryz.func83, Tryz.ntmps83
      go_wp2_with fail
      refine HN.out.mono ?_
      rintro e w1 ⟨rfl, d⟩
      have D := Lib.hid (HD.out.trans d (fun _ _ h => h))
      have x0 := blk_cell (d.blk (heap_alloc_new w _)) (j := 0) rfl
      clear d k0 k1
      go_wp2
      go_ret
      exact ⟨rfl, D.out⟩
  | some p =>
    obtain ⟨y, i⟩ := p
    obtain ⟨hy, hyi⟩ := nearX_mem hr
    have hil := findIdx_lt hyi
    rw [hr] at HN
    have hn : nearV (some (y, i)) = .tuple #[.pointer (some ⟨y.at_, 0, none⟩), .int .i64 i] := rfl
    rw [hn] at HN
    obtain ⟨yf, hyf⟩ : ∃ yf, yf = y.cl.methods[i].flags := ⟨_, rfl⟩
    have HE2 := Lib.hid (show lackX es up m = (m.flags == 2 && !(yf == 0)) by unfold lackX; rw [hr]; simp only [List.getElem?_eq_getElem hil]; rw [hyf])
    have HYF := Lib.hid hyf; clear hyf
    have HY := Lib.hid (And.intro hy hil)
    clear hr hyi hy
    cases hf : m.flags == 2 with
    | false =>
      have HE3 := Lib.hid (HE2.out.trans (show (m.flags == 2 && !(yf == 0)) = false by rw [hf]; rfl))
      rw [HE3.out]
      go_enter Tryz.func83, Tryz.ntmps83
      go_wp2_with fail
      refine HN.out.mono ?_
      rintro e w1 ⟨rfl, d⟩
      have D := Lib.hid (HD.out.trans d (fun _ _ h => h))
      have x0 := blk_cell (d.blk (heap_alloc_new w _)) (j := 0) rfl
      obtain ⟨ab, ao, cy, y5, y0⟩ := (H.out.new d).meth HY.out.1 hil
      rw [← HYF.out] at y0
      clear d k0 k1
      go_wp2
      go_ret
      exact ⟨rfl, D.out⟩
    | true =>
      by_cases hf2 : yf = 0
      · subst hf2
        have HE3 := Lib.hid (HE2.out.trans (show (m.flags == 2 && !((0 : Int) == 0)) = false by rw [hf]; rfl))
        rw [HE3.out]
        go_enter Tryz.func83, Tryz.ntmps83
        go_wp2_with fail
        refine HN.out.mono ?_
        rintro e w1 ⟨rfl, d⟩
        have D := Lib.hid (HD.out.trans d (fun _ _ h => h))
        have x0 := blk_cell (d.blk (heap_alloc_new w _)) (j := 0) rfl
        obtain ⟨ab, ao, cy, y5, y0⟩ := (H.out.new d).meth HY.out.1 hil
        rw [← HYF.out] at y0
        clear d k0 k1
        go_wp2
        go_ret
        exact ⟨rfl, D.out⟩
      · have HE3 := Lib.hid (HE2.out.trans (show (m.flags == 2 && !(yf == 0)) = true by rw [hf]; simp [hf2]))
        rw [HE3.out]
        have hf3 : (yf != 0) = true := by simpa using hf2
        clear hf2
        go_enter Tryz.func83, Tryz.ntmps83
        go_wp2_with fail
        refine HN.out.mono ?_
        rintro e w1 ⟨rfl, d⟩
        have D := Lib.hid (HD.out.trans d (fun _ _ h => h))
        have x0 := blk_cell (d.blk (heap_alloc_new w _)) (j := 0) rfl
        obtain ⟨ab, ao, cy, y5, y0⟩ := (H.out.new d).meth HY.out.1 hil
        rw [← HYF.out] at y0
        clear d k0 k1
        go_wp2
        go_ret
        exact ⟨rfl, D.out⟩

set_option maxRecDepth 100000 in
set_option maxHeartbeats 12800000 in
theorem owes_c (h : HW S O w b mb nv es lk) (hw : WOk es) (x : Ent) (hx : x ∈ es) (l o : List Bs) (hc : IsChain (cls es) x.cl.name l) (hl : l.length ≤ 1000) (ho : Walks (cls es) [] l o) (hol : o.length ≤ 100000) (hall : ∀ s ∈ o ++ l, ∃ k, atf es s = some k) :
    Calls Tryz.prog 42 #[.pointer (some ⟨b, 0, none⟩), .pointer (some ⟨x.at_, 0, none⟩)] w fun e w' => e = .returned (.bool (owesB (cls es) x.cl l o)) ∧ Chg No w w' := by
  have hbl := h.o_lt b h.own_b
  have hxl := h.o_lt _ (h.own_e x hx)
  have HC := Lib.hid (fun (W : World) (hW : Chg No w W) => chain_c (h.new hW) x.cl.name l hc hl)
  have HW1 := Lib.hid (fun (W : World) (hW : Chg No w W) => walk_c (h.new hW) x.cl.name l o hc hl ho hol hw.faces)
  obtain ⟨f, g, m, p, c, q, ⟨e0, e1, e2, e3, e4, e5, e6, -⟩, q1, q2, q3, q4, -⟩ := h.cells hx
  have hmf : ∀ (fn : Fn) (first cap : Array Value) (w : World), (Instr.makeFunc fn first cap).run Tryz.prog w = .ok (.func fn first cap) w := fun _ _ _ _ => rfl
  have hl1 : l ≠ [] := hc.ne (hw.name x hx)
  have H := Lib.hid (And.intro h (And.intro hall hw))
  clear h q1 q2 q3 q4 hc ho hall hw
  by_cases hfl : x.cl.flags = 0
  rotate_left
  · have hb : (x.cl.flags != 0) = true := by simpa using hfl
    have HB := Lib.hid (show owesB (cls es) x.cl l o = true by unfold owesB; simp [hfl])
    rw [HB.out]
    clear hfl
    go_enter Tryz.func42, Tryz.ntmps42
    go_wp2
    go_ret
    exact ⟨rfl, (Chg.refl _ _).alloc _⟩
  have HB := Lib.hid (show owesB (cls es) x.cl l o = !((o ++ l).any (lackAt (cls es) l)) by unfold owesB; simp [hfl])
  rw [HB.out]
  rw [hfl] at e0
  clear hfl
  obtain ⟨RES, hRES⟩ : ∃ RES, RES = !((o ++ l).any (lackAt (cls es) l)) := ⟨_, rfl⟩
  rw [← hRES]
  have HRES := Lib.hid hRES; clear hRES
  go_enter Tryz.func42, Tryz.ntmps42
  go_upto_region 3 with fail
  go_cut [5] from 15 to 21 (fun s5 wx => ∃ (k5 g cc : Nat), s5 = .pointer (some ⟨k5, 0, none⟩) ∧ RowKit.Hid (wx.heap[k5]? = some (.cells #[.slice (some ⟨g, 0, none⟩) l.length cc] 34 (0, 0)) ∧ SQ 1 RStr (fun _ => True) wx (.slice (some ⟨g, 0, none⟩) l.length cc) l ∧ Chg No w wx ∧ wx.heap[w.heap.size]? = some (.cells #[.pointer (some ⟨b, 0, none⟩)] 42 (0, 0))))
  case first =>
    go_region_with (first
      | (go_at_call 43; refine (HC.out _ (chg_a w _)).mono ?_; rintro e w1 ⟨v, rfl, ho, d, -⟩; obtain ⟨gg, cc, rfl, hcc⟩ := ho.form1 hl1; have D := Lib.hid (And.intro ((chg_a w _).trans d (fun _ _ h => h)) (And.intro (ho.sq (T := fun _ => True) goodStr (fun _ _ => trivial) (fun _ _ => trivial)) (one_blockA d)));  clear d ho)
      | (go_at_call 43; refine (HC.out _ (chg_b w _ _)).mono ?_; rintro e w1 ⟨v, rfl, ho, d, hv⟩; obtain ⟨gg, cc, rfl, hcc⟩ := ho.form1 hl1; have D := Lib.hid (And.intro ((chg_b w _ _).trans d (fun _ _ h => h)) (And.intro (ho.sq (T := fun k => k ≠ w.heap.size + 1) goodStr (fun k hk => past_two (hv k hk)) (fun _ h => h.elim)) (And.intro (one_blockB d) (two_block d)))); have y0 : w1.cell? ⟨w.heap.size + 1, 0, none⟩ = some zNil := two_cell d rfl; have y1 := two_frozen d 0; clear d ho hv))
    all_goals (try go_wp2_with fail)
    all_goals go_meet
    all_goals first
      | exact ⟨_, _, _, rfl, Lib.hid ⟨heap_alloc_new _ _, D.out.2.1.new goodStr ((Chg.refl _ _).alloc _), D.out.1.alloc _, (Below.heap_alloc _ _ _ (heap_lt D.out.2.2)).trans D.out.2.2⟩⟩
      | exact ⟨_, _, _, rfl, Lib.hid ⟨setCell_at D.out.2.2.2 _, (D.out.2.1.keep goodStr (chg_setCell _ _ _ _) (fun k hk e => hk e)).mono goodStr (fun _ _ => trivial), D.out.1.set_new (by omega) _ _, ((chg_setCell _ _ _ _).block _ (heap_lt D.out.2.2.1) (by omega)).trans D.out.2.2.1⟩⟩
  case rest =>
    obtain ⟨k5, g, cc, rfl, hI⟩ := hcut
    have z0 : wc.cell? ⟨w.heap.size, 0, none⟩ = some (.pointer (some ⟨b, 0, none⟩)) := blk_cell hI.out.2.2.2 rfl
    have z5 : wc.cell? ⟨k5, 0, none⟩ = some (.slice (some ⟨g, 0, none⟩) l.length cc) := blk_cell hI.out.1 rfl
    have x0 := (hI.out.2.2.1.cell (p := ⟨x.at_, 1, none⟩) hxl (fun h => h)).trans e1
    clear e0 e1 e2 e3 e4 e5 e6
    go_upto_region 5 with fail
    go_cut [31, 32, 33] from 23 to 30 (fun s31 s32 s33 wy => ∃ (a1 : Option Addr) (c1 : Nat), s31 = .slice a1 (o ++ l).length c1 ∧ s32 = .int .i64 (o ++ l).length ∧ s33 = .int .i64 0 ∧ RowKit.Hid (SQ 1 RStr (fun _ => True) wy (.slice a1 (o ++ l).length c1) (o ++ l) ∧ Chg No wc wy))
    case first =>
      go_region_law (first
        | (refine step_appQ (S := No) rfl (.tmp 29) (.tmp 30) 34 34 rfl 9 zStr 16 Tryz.underlying34 info_str rfl (by decide) goodStr (.slice va o.length vc) o (by simp [Act.eval]) HSS.out.2.2.2.1 (fun k hk _ => hk.elim) (.slice (some ⟨g, 0, none⟩) l.length cc) l css (by simp [Act.eval]) HSS.out.1 HSS.out.2.1 (by unfold maxLen; omega) (by omega) ?_; intro v' w3 g1 g2 g3; obtain ⟨na, nc, rfl⟩ := g1.form; have HG := Lib.hid (And.intro g1 (HSS.out.2.2.1.trans g2 (fun n hn e => absurd hn (Nat.not_lt.2 (HSS.out.2.2.2.2 n e.symm))))); clear g1 g2 g3)
        | (go_simp; go_at_call 44; refine (HW1.out _ (hI.out.2.2.1.drew)).mono ?_; rintro e w2 ⟨v2, rfl, ho2, d, hv2⟩; obtain ⟨va, vc, rfl⟩ := ho2.form; have y5 := (d.cell (p := ⟨k5, 0, none⟩) (heap_lt hI.out.1) (fun h => h)).trans z5; obtain ⟨css, hE, hsrc⟩ := (hI.out.2.1.new goodStr ((Chg.refl No wc).drew.trans d (fun _ _ h => h))).src goodStr (by decide) (P := Tryz.prog) (tx := 34) Tryz.underlying34; have HSS := Lib.hid (And.intro (str_els hE) (And.intro hsrc (And.intro ((Chg.refl No wc).drew.trans d (fun _ _ h => h)) (And.intro ho2 hv2)))); clear hE hsrc d ho2 hv2))
      all_goals (try go_wp2_with fail)
      all_goals go_meet
      all_goals exact ⟨na, nc, by rw [List.length_append], by rw [List.length_append]; push_cast; rfl, rfl, Lib.hid ⟨HG.out.1.sq goodStr (fun _ _ => trivial) (fun _ _ => trivial), HG.out.2⟩⟩
    case rest =>
      have hI0 := hI
      clear hI z0 z5 x0
      obtain ⟨a1, c1, rfl, rfl, rfl, hJ⟩ := hcut
      have K1 := Lib.hid (hI0.out.2.2.1.trans hJ.out.2 (fun _ _ h => h))
      have K2 := Lib.hid ((hJ.out.2.block _ (heap_lt hI0.out.1) (fun h => h)).trans hI0.out.1)
      have K3 := Lib.hid ((hJ.out.2.block _ (heap_lt hI0.out.2.2.2) (fun h => h)).trans hI0.out.2.2.2)
      have K4 := Lib.hid (hI0.out.2.1.new goodStr hJ.out.2)
      have eg : ∀ (args : Array Value) (w : World), (callFunc 83 args).run Tryz.prog w = .ok (.enter 83 args) w := enters_of Tryz.func83 (by kernel_rfl) rfl
      have EG := Lib.hid eg
      obtain ⟨L, hL⟩ : ∃ L, L = o ++ l := ⟨_, rfl⟩
      have hLl : L.length ≤ 101000 := by rw [hL, List.length_append]; omega
      rw [← hL] at hJ HRES ⊢
      have HLL := Lib.hid hL
      clear eg hI0 hL
      go_wp2_with fail
      go_loopw [33] (fun i wr => ∃ k : Nat, k ≤ L.length ∧ i = .int .i64 k ∧ RowKit.Hid (Chg No wc wr ∧ ∀ (j : Nat) (s : Bs), j < k → L[j]? = some s → lackAt (cls es) l s = false)) (fun i _ => L.length - (intOf i).toNat)
      case atStart => exact ⟨0, Nat.zero_le _, rfl, Lib.hid ⟨Chg.refl _ _, fun j s hj => by omega⟩⟩
      case round =>
        obtain ⟨k, hk, rfl, hR⟩ := hrel
        by_cases hlt : k < L.length
        · obtain ⟨b', oo, ds, rfl, hcl, hRR, hbl', hsb, hcell⟩ := SQ.cells (hJ.out.1.new goodStr hR.out.1) k hlt
          obtain rfl := hRR
          have g0 := hcell 0 _ rfl
          rw [Nat.mul_one, Nat.add_zero] at g0
          clear hcell hcl
          obtain ⟨ky, hky⟩ := H.out.2.1 L[k] (by rw [← HLL.out]; exact List.getElem_mem hlt)
          obtain ⟨y, hy, hfy, rfl, hyn⟩ := atf_find hky
          have CR := Lib.hid (K1.out.trans hR.out.1 (fun _ _ h => h))
          have hW := H.out.1.new CR.out
          have k1 := hW.c1
          have hsh : Short L[k] := by rw [← hyn]; exact (H.out.1.short y hy).name
          have kL := hW.lookE hsh hky
          obtain ⟨f1, g1, m1, p1, c1', q1', ⟨-, -, -, -, -, e5, -⟩, -, -, r3, -⟩ := hW.cells hy
          obtain ⟨a3, d3, rfl, -, -⟩ := r3.form
          have z0 : wr.cell? ⟨w.heap.size, 0, none⟩ = some (.pointer (some ⟨b, 0, none⟩)) := (hR.out.1.cell (p := ⟨w.heap.size, 0, none⟩) (heap_lt K3.out) (fun h => h)).trans (blk_cell K3.out rfl)
          have z5 : wr.cell? ⟨k5, 0, none⟩ = some (.slice (some ⟨g, 0, none⟩) l.length cc) := (hR.out.1.cell (p := ⟨k5, 0, none⟩) (heap_lt K2.out) (fun h => h)).trans (blk_cell K2.out rfl)
          have Z := Lib.hid (And.intro (hR.out.1.blk K3.out) (And.intro (hR.out.1.blk K2.out) (And.intro r3 (And.intro (H.out.2.2.mlen y hy) (H.out.2.2.ok y hy).methods))))
          have hLA : lackAt (cls es) l L[k] = y.cl.methods.any (lackX es l) := by
            unfold lackAt
            rw [find_fnd hfy]
            simp only
            congr 1
            funext m
            exact (lackX_plain (fun s hs => by
              obtain ⟨k, hk⟩ := H.out.2.1 s (List.mem_append_right _ hs)
              obtain ⟨y, -, hf, -⟩ := atf_find hk
              exact ⟨y, hf⟩) m).symm
          have HLA := Lib.hid hLA
          clear hW z5 r3 hfy hky hsh hyn hLA
          go_wp2_with fail
          refine (containsFunc_mt S _ _ y.cl.methods Z.out.2.2.1 (by have := Z.out.2.2.2.1; omega) 83 _ EG.out (lackX es l) (fun W z ds hz hW hR2 => ?_)).mono ?_
          · obtain ⟨va, vc, vh, rfl, r1, r2, r3⟩ := hR2
            exact lackF_c (H.out.1.new (CR.out.trans hW (fun _ _ h => h))) H.out.2.2 S (fun _ => True) z va vc vh r1 r2 r3 (Z.out.2.2.2.2 z hz).params w.heap.size k5 _ l (K4.out.new goodStr (hR.out.1.trans hW (fun _ _ h => h))) (by omega) (fun s hs => H.out.2.1 s (List.mem_append_right _ hs)) (hW.blk Z.out.1) (hW.blk Z.out.2.1)
          · rintro e w2 ⟨he, d⟩
            rw [← HLA.out] at he
            have D := Lib.hid (hR.out.1.trans d (fun _ _ h => h)); clear d
            clear z0 k1 kL e5 g0
            cases hla : lackAt (cls es) l L[k] with
            | true =>
              rw [hla] at he
              subst he
              have HF := Lib.hid (show RES = false by
                rw [HRES.out, Bool.not_eq_false', List.any_eq_true]
                exact ⟨_, List.getElem_mem hlt, hla⟩)
              clear hla
              go_wp2
              go_ret
              exact ⟨ret_b (a := false) HF.out, K1.out.trans D.out (fun _ _ h => h)⟩
            | false =>
              rw [hla] at he
              subst he
              have HF := Lib.hid hla; clear hla
              go_wp2
              go_roundw
              case rel => exact ⟨k + 1, by omega, by go_num, Lib.hid ⟨D.out, fun j s hj hs => by
                by_cases e : j = k
                · subst e
                  rw [List.getElem?_eq_getElem hlt] at hs
                  cases hs
                  exact HF.out
                · exact hR.out.2 j s (by omega) hs⟩⟩
              case measure => simp [intOf]; omega
        · have HT := Lib.hid (show RES = true by
            rw [HRES.out, Bool.not_eq_true', List.any_eq_false]
            intro s hs
            obtain ⟨j, hj⟩ := List.getElem?_of_mem hs
            rw [hR.out.2 j s (by have := (List.getElem?_eq_some_iff.1 hj).1; omega) hj]
            simp)
          go_wp2
          go_ret
          exact ⟨ret_b (a := true) HT.out, K1.out.trans hR.out.1 (fun _ _ h => h)⟩
end

end Go.Proofs.YtgmmclcpfmnoiaaGreatDoor
