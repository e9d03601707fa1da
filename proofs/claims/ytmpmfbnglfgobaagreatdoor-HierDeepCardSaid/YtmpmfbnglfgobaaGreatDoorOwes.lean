/-
  The rule owes of Link, walked at classes that have no method but <init>, and no interfaces.
-/
import Derived.Test.YtmpmfbnglfgobaaGreatDoorWalk
import Derived.Test.YtmpmfbnglfgobaaGreatDoorRules2
import Derived.Deep.CutRange
namespace Go.Proofs.YtmpmfbnglfgobaaGreatDoor
open Go.RowKit

theorem two_block {w w1 : World} {o : Obj} {c : Array Value} {T : Nat} (d : Chg No ((w.alloc o).alloc (.cells c T)).drew w1) : w1.heap[w.heap.size + 1]? = some (.cells c T (0, 0)) := by
  rw [d.block _ (by show _ < ((w.alloc o).alloc (.cells c T)).heap.size; simp) (fun h => h)]
  have := heap_alloc_new (w.alloc o) (.cells c T)
  rw [size_alloc1] at this
  exact this
theorem one_blockA {w w1 : World} {c : Array Value} {T : Nat} (d : Chg No (w.alloc (.cells c T)).drew w1) : w1.heap[w.heap.size]? = some (.cells c T (0, 0)) := by
  rw [d.block _ (by show _ < (w.alloc (.cells c T)).heap.size; simp) (fun h => h)]
  exact heap_alloc_new _ _
theorem one_blockB {w w1 : World} {c : Array Value} {T : Nat} {o : Obj} (d : Chg No ((w.alloc (.cells c T)).alloc o).drew w1) : w1.heap[w.heap.size]? = some (.cells c T (0, 0)) := by
  rw [d.block _ (by show _ < ((w.alloc (.cells c T)).alloc o).heap.size; simp; omega) (fun h => h)]
  show ((w.alloc (.cells c T)).alloc o).heap[w.heap.size]? = _
  rw [Below.heap_alloc _ _ _ (by simp)]
  exact heap_alloc_new _ _
theorem past_two {w : World} {o o2 : Obj} {k : Nat} (h : ((w.alloc o).alloc o2).drew.heap.size ≤ k) : k ≠ w.heap.size + 1 := by
  have h : ((w.alloc o).alloc o2).heap.size ≤ k := h
  simp at h
  omega
section
variable {S O : Blocks} {w : World} {b mb : Nat} {nv : Value} {es : List Ent} {lk : Bool}
/-- All classes of a chain are there, and have no method but <init>, no interfaces. -/
def BareL (es : List Ent) (l : List Bs) : Prop := ∀ t ∈ l, ∃ x ∈ es, atf es t = some x.at_ ∧ x.cl.faces = [] ∧ (x.cl.methods = [] ∨ x.cl.methods = [initM])

set_option maxRecDepth 100000 in
set_option maxHeartbeats 3200000 in
theorem lacks_c (h : HW S O w b mb nv es lk) (T : Blocks) (cs : List Value) (hR : RMt T w initM cs) (kb kc : Nat) (v : Value) (l : List Bs) (U : Blocks) (hv : SQ 1 RStr U w v l) (hl : l.length ≤ 1000) (hall : BareL es l)
    (c0 : w.cell? ⟨kb, 0, none⟩ = some (.pointer (some ⟨b, 0, none⟩))) (c1 : w.cell? ⟨kc, 0, none⟩ = some v) (hb : kb < w.heap.size) (hc : kc < w.heap.size) :
    Calls Tryz.prog 53 #[.agg cs.toArray, .pointer (some ⟨kb, 0, none⟩), .pointer (some ⟨kc, 0, none⟩)] w fun en w' => en = .returned (.bool false) ∧ Chg No w w' := by
  obtain ⟨va, vc, vh, rfl, q1, q2, q3⟩ := hR
  obtain ⟨a1, c1', rfl, -, -⟩ := q1.form
  obtain ⟨a2, c2', rfl, -, -⟩ := q2.form
  obtain ⟨a3, c3', rfl, -, -⟩ := q3.form
  obtain ⟨a4, c4', hvf, -, -⟩ := hv.form
  subst hvf
  simp only [initM, List.length_nil]
  have H := Lib.hid (And.intro h (And.intro hv hall))
  clear q1 q2 q3 h hv hall
  go_enter Tryz.func53, Tryz.ntmps53
  go_wp2_with fail
  have cg := (Chg.refl No w).alloc (.cells #[.int .i64 0, strV initName, .slice a1 0 c1', .bool true, .int .i64 0, strV [], .int .i64 0, .int .i64 0, .slice a2 0 c2', .slice a3 0 c3'] 57)
  refine (nearest_init (H.out.1.new cg) U _ l (H.out.2.1.new goodStr cg) hl (fun t ht => by obtain ⟨x, hx, h1, h2, h3⟩ := H.out.2.2 t ht; exact ⟨x, hx, h1, h3⟩) a1 c1').mono ?_
  rintro e w1 ⟨u, i, rfl, d⟩
  have b0 : w1.cell? ⟨w.heap.size, 0, none⟩ = some (.int .i64 0) := box_keep d rfl
  go_wp2
  go_ret
  exact ⟨rfl, cg.trans d (fun _ _ h => h)⟩

set_option maxRecDepth 100000 in
set_option maxHeartbeats 6400000 in
theorem owes_plain (h : HW S O w b mb nv es lk) (x : Ent) (hx : x ∈ es) (hfl : x.cl.flags = 0) (l : List Bs) (hc : IsChain (cls es) x.cl.name l) (hl : l.length ≤ 1000) (hne : x.cl.name ≠ []) (hall : BareL es l) :
    Calls Tryz.prog 23 #[.pointer (some ⟨b, 0, none⟩), .pointer (some ⟨x.at_, 0, none⟩)] w fun e w' => e = .returned (.bool true) ∧ Chg No w w' := by
  have hbl := h.o_lt b h.own_b
  have hxl := h.o_lt _ (h.own_e x hx)
  have HC := Lib.hid (fun (W : World) (hW : Chg No w W) => chain_c (h.new hW) x.cl.name l hc hl)
  have HW1 := Lib.hid (fun (W : World) (hW : Chg No w W) => walk_plain (h.new hW) x.cl.name l hc hl (fun t ht => by obtain ⟨y, hy, h1, h2, h3⟩ := hall t ht; exact ⟨y, hy, h1, h2⟩))
  obtain ⟨f, g, m, p, c, q, ⟨e0, e1, e2, e3, e4, e5, e6, -⟩, q1, q2, q3, q4, -⟩ := h.cells hx
  rw [hfl] at e0
  have hmf : ∀ (fn : Fn) (first cap : Array Value) (w : World), (Instr.makeFunc fn first cap).run Tryz.prog w = .ok (.func fn first cap) w := fun _ _ _ _ => rfl
  have hl1 : l ≠ [] := hc.ne hne
  have H := Lib.hid (And.intro h hall)
  clear h q1 q2 q3 q4 hc hall
  go_enter Tryz.func23, Tryz.ntmps23
  go_upto_region 3 with fail
  go_cut [5] from 15 to 21 (fun s5 wx => ∃ (k5 g cc : Nat), s5 = .pointer (some ⟨k5, 0, none⟩) ∧ RowKit.Hid (wx.heap[k5]? = some (.cells #[.slice (some ⟨g, 0, none⟩) l.length cc] 29 (0, 0)) ∧ SQ 1 RStr (fun _ => True) wx (.slice (some ⟨g, 0, none⟩) l.length cc) l ∧ Chg No w wx ∧ wx.heap[w.heap.size]? = some (.cells #[.pointer (some ⟨b, 0, none⟩)] 34 (0, 0))))
  case first =>
    go_region_with (first
      | (go_at_call 24; refine (HC.out _ (chg_a w _)).mono ?_; rintro e w1 ⟨v, rfl, ho, d, -⟩; obtain ⟨gg, cc, rfl, hcc⟩ := ho.form1 hl1; have D := Lib.hid (And.intro ((chg_a w _).trans d (fun _ _ h => h)) (And.intro (ho.sq (T := fun _ => True) goodStr (fun _ _ => trivial) (fun _ _ => trivial)) (one_blockA d)));  clear d ho)
      | (go_at_call 24; refine (HC.out _ (chg_b w _ _)).mono ?_; rintro e w1 ⟨v, rfl, ho, d, hv⟩; obtain ⟨gg, cc, rfl, hcc⟩ := ho.form1 hl1; have D := Lib.hid (And.intro ((chg_b w _ _).trans d (fun _ _ h => h)) (And.intro (ho.sq (T := fun k => k ≠ w.heap.size + 1) goodStr (fun k hk => past_two (hv k hk)) (fun _ h => h.elim)) (And.intro (one_blockB d) (two_block d)))); have y0 : w1.cell? ⟨w.heap.size + 1, 0, none⟩ = some zNil := two_cell d rfl; have y1 := two_frozen d 0; clear d ho hv))
    all_goals (try go_wp2_with fail)
    all_goals go_meet
    all_goals first
      | exact ⟨_, _, _, rfl, Lib.hid ⟨heap_alloc_new _ _, D.out.2.1.new goodStr ((Chg.refl _ _).alloc _), D.out.1.alloc _, (Below.heap_alloc _ _ _ (heap_lt D.out.2.2)).trans D.out.2.2⟩⟩
      | exact ⟨_, _, _, rfl, Lib.hid ⟨setCell_at D.out.2.2.2 _, (D.out.2.1.keep goodStr (chg_setCell _ _ _ _) (fun k hk e => hk e)).mono goodStr (fun _ _ => trivial), D.out.1.set_new (by omega) _ _, ((chg_setCell _ _ _ _).block _ (heap_lt D.out.2.2.1) (by omega)).trans D.out.2.2.1⟩⟩
  case rest =>
    obtain ⟨k5, g, cc, rfl, hI⟩ := hcut
    have z0 : wc.cell? ⟨w.heap.size, 0, none⟩ = some (.pointer (some ⟨b, 0, none⟩)) := blk_cell hI.out.2.2.2 rfl
    have z5 : wc.cell? ⟨k5, 0, none⟩ = some (.slice (some ⟨g, 0, none⟩) l.length cc) := blk_cell hI.out.1 rfl
    have x0 := (hI.out.2.2.1.cell (p := ⟨x.at_, 1, none⟩) hxl (fun h => h)).trans e1
    clear e0 e1 e2 e3 e4 e5 e6
    go_upto_region 5 with fail
    go_cut [31, 32, 33] from 23 to 30 (fun s31 s32 s33 wy => ∃ (a1 : Option Addr) (c1 : Nat), s31 = .slice a1 l.length c1 ∧ s32 = .int .i64 l.length ∧ s33 = .int .i64 0 ∧ RowKit.Hid (SQ 1 RStr (fun _ => True) wy (.slice a1 l.length c1) l ∧ Chg No wc wy))
    case first =>
      go_region_law (first
        | (refine step_appQ (S := No) rfl (.tmp 29) (.tmp 30) 29 29 rfl 9 zStr 16 Tryz.underlying29 info_str rfl (by decide) goodStr zNil [] (by simp [Act.eval, Act.put]) (OQ.nil _ _ _ _) (fun k hk _ => hk.elim) (.slice (some ⟨g, 0, none⟩) l.length cc) l css (by simp [Act.eval, Act.put]) HSS.out.1 HSS.out.2.1 (by simp; unfold maxLen; omega) (by simp; omega) ?_; intro v' w3 g1 g2 g3; obtain ⟨na, nc, rfl⟩ := g1.form; have HG := Lib.hid (And.intro g1 (HSS.out.2.2.trans g2 (fun n _ e => by simp [Value.ownBlock] at e))); clear g1 g2 g3)
        | (go_simp; go_at_call 25; refine (HW1.out _ (hI.out.2.2.1.drew)).mono ?_; rintro e w2 ⟨rfl, d⟩; have y5 := (d.cell (p := ⟨k5, 0, none⟩) (heap_lt hI.out.1) (fun h => h)).trans z5; obtain ⟨css, hE, hsrc⟩ := (hI.out.2.1.new goodStr ((Chg.refl No wc).drew.trans d (fun _ _ h => h))).src goodStr (by decide) (P := Tryz.prog) (tx := 29) Tryz.underlying29; have HSS := Lib.hid (And.intro (hE.mono (T := fun _ => True) goodStr (fun _ _ => trivial)) (And.intro hsrc ((Chg.refl No wc).drew.trans d (fun _ _ h => h)))); clear hE hsrc d))
      all_goals (try go_wp2_with fail)
      all_goals go_meet
      all_goals exact ⟨na, nc, rfl, rfl, rfl, Lib.hid ⟨HG.out.1.sq goodStr (fun _ _ => trivial) (fun _ _ => trivial), HG.out.2⟩⟩
    case rest =>
      have hI0 := hI
      clear hI z0 z5 x0
      obtain ⟨a1, c1, rfl, rfl, rfl, hJ⟩ := hcut
      have K1 := Lib.hid (hI0.out.2.2.1.trans hJ.out.2 (fun _ _ h => h))
      have K2 := Lib.hid ((hJ.out.2.block _ (heap_lt hI0.out.1) (fun h => h)).trans hI0.out.1)
      have K3 := Lib.hid ((hJ.out.2.block _ (heap_lt hI0.out.2.2.2) (fun h => h)).trans hI0.out.2.2.2)
      have K4 := Lib.hid (hI0.out.2.1.new goodStr hJ.out.2)
      have eg : ∀ (args : Array Value) (w : World), (callFunc 53 args).run Tryz.prog w = .ok (.enter 53 args) w := enters_of Tryz.func53 (by kernel_rfl) rfl
      have EG := Lib.hid eg
      clear eg hI0
      go_wp2_with fail
      go_loopw [33] (fun i wr => ∃ k : Nat, k ≤ l.length ∧ i = .int .i64 k ∧ RowKit.Hid (Chg No wc wr)) (fun i _ => l.length - (intOf i).toNat)
      case atStart => exact ⟨0, Nat.zero_le _, rfl, Lib.hid (Chg.refl _ _)⟩
      case round =>
        obtain ⟨k, hk, rfl, hR⟩ := hrel
        by_cases hlt : k < l.length
        · obtain ⟨b', o, ds, rfl, hcl, hRR, hbl', hsb, hcell⟩ := SQ.cells (hJ.out.1.new goodStr hR.out) k hlt
          obtain rfl := hRR
          have g0 := hcell 0 _ rfl
          rw [Nat.mul_one, Nat.add_zero] at g0
          clear hcell hcl
          obtain ⟨y, hy, hat, hf, hm⟩ := H.out.2 l[k] (List.getElem_mem hlt)
          have CR := Lib.hid (K1.out.trans hR.out (fun _ _ h => h))
          have hW := H.out.1.new CR.out
          have k1 := hW.c1
          have hsh : Short l[k] := by
            obtain ⟨y', hy', hy2, hy3, -⟩ := atf_some hat
            rw [← hy3]; exact (H.out.1.short y' hy').name
          have kL := hW.lookE hsh hat
          obtain ⟨f1, g1, m1, p1, c1', q1', ⟨-, -, -, -, -, e5, -⟩, -, -, r3, -⟩ := hW.cells hy
          obtain ⟨a3, d3, rfl, -, -⟩ := r3.form
          have z0 : wr.cell? ⟨w.heap.size, 0, none⟩ = some (.pointer (some ⟨b, 0, none⟩)) := (hR.out.cell (p := ⟨w.heap.size, 0, none⟩) (heap_lt K3.out) (fun h => h)).trans (blk_cell K3.out rfl)
          have z5 : wr.cell? ⟨k5, 0, none⟩ = some (.slice (some ⟨g, 0, none⟩) l.length cc) := (hR.out.cell (p := ⟨k5, 0, none⟩) (heap_lt K2.out) (fun h => h)).trans (blk_cell K2.out rfl)
          have Z := Lib.hid (And.intro z0 (And.intro z5 (And.intro r3 hm)))
          have ls1 := Nat.lt_of_lt_of_le (heap_lt K3.out) hR.out.size
          have ls2 := Nat.lt_of_lt_of_le (heap_lt K2.out) hR.out.size
          clear hW z5 r3 hm hat hsh hf
          go_wp2_with fail
          refine (containsFunc_mt S _ _ y.cl.methods Z.out.2.2.1 (by rcases Z.out.2.2.2 with h | h <;> rw [h] <;> simp) 53 _ EG.out (fun _ => false) (fun W z ds hz hW hR2 => ?_)).mono ?_
          · have hzi : z = initM := by
              rcases Z.out.2.2.2 with h | h
              · rw [h] at hz; cases hz
              · rw [h] at hz; simpa using hz
            subst hzi
            exact lacks_c (H.out.1.new (CR.out.trans hW (fun _ _ h => h))) S ds hR2 w.heap.size k5 _ l (fun _ => True) (K4.out.new goodStr (hR.out.trans hW (fun _ _ h => h))) hl H.out.2
              ((hW.cell (p := ⟨w.heap.size, 0, none⟩) ls1 (fun h => h)).trans Z.out.1) ((hW.cell (p := ⟨k5, 0, none⟩) ls2 (fun h => h)).trans Z.out.2.1) (Nat.lt_of_lt_of_le ls1 hW.size) (Nat.lt_of_lt_of_le ls2 hW.size)
          · rintro e w2 ⟨he, d⟩
            rw [show (y.cl.methods.any fun _ => false) = false from by simp] at he
            subst he
            have D := Lib.hid (hR.out.trans d (fun _ _ h => h)); clear d
            clear z0 k1 kL e5 g0
            go_wp2
            go_roundw
            case rel => exact ⟨k + 1, by omega, by go_num, D⟩
            case measure => simp [intOf]; omega
        · go_wp2
          go_ret
          exact ⟨rfl, K1.out.trans hR.out (fun _ _ h => h)⟩
end

end Go.Proofs.YtmpmfbnglfgobaaGreatDoor
