/-
  Package module's methods, walked at any class, over what body answers.
-/
import Derived.Test.YtgmmclcpfmnoiaaGreatDoorModD
namespace Go.Proofs.YtgmmclcpfmnoiaaGreatDoor
open Go.RowKit

/-- What body answers, at the methods of a class with code. -/
def BodyAns (S : Blocks) (w : World) (l : List En) (pv : Value) (ms : List Mt) : Prop :=
  ∀ (W : World) (x : Mt) (v cv hv : Value), x ∈ ms → x.flags ≠ 2 → Chg No w W → SQ 2 RTy S W v x.sig.params → SQ 1 RByte S W cv x.code → SQ 4 RHd S W hv x.handlers →
    Calls Tryz.prog 127 #[.agg (mtC x v cv hv), pv] W fun e w' => e = .returned (.tuple #[.int .i64 (bodyE l x).1, .int .i64 (bodyE l x).2]) ∧ Chg No W w'
theorem BodyAns.new {S : Blocks} {w w1 : World} {l : List En} {pv : Value} {ms : List Mt} (h : BodyAns S w l pv ms) (d : Chg No w w1) : BodyAns S w1 l pv ms :=
  fun W x v cv hv hx hf hW q1 q2 q3 => h W x v cv hv hx hf (d.trans hW (fun _ _ h => h)) q1 q2 q3

section
variable {S : Blocks} {w : World} {c : Cl} {l : List En}
theorem methodsE_many (h : 64 < c.methods.length) : methodsE l c = badE 4 := by unfold methodsE; rw [if_pos h]
theorem methodsE_rest (h : ¬ 64 < c.methods.length) : methodsE l c = match firstN (fun i => (methodE l c i).2) c.methods.length with | some i => ⟨0, i, (methodE l c i).1, (methodE l c i).2⟩ | none => zBd := by
  unfold methodsE; rw [if_neg h]; cases firstN (fun i => (methodE l c i).2) c.methods.length <;> rfl
theorem methodE_named {i : Nat} (hi : i < c.methods.length) (h : namedM c c.methods[i] i ≠ 0) : methodE l c i = (0, namedM c c.methods[i] i) := by unfold methodE; rw [mt_at hi, if_pos h]
theorem methodE_flagged {i : Nat} (hi : i < c.methods.length) (h : namedM c c.methods[i] i = 0) (h2 : flaggedM c c.methods[i] ≠ 0) : methodE l c i = (0, flaggedM c c.methods[i]) := by unfold methodE; rw [mt_at hi, if_neg (by simp [h]), if_pos h2]
theorem methodE_abs {i : Nat} (hi : i < c.methods.length) (h : namedM c c.methods[i] i = 0) (h2 : flaggedM c c.methods[i] = 0) (h3 : c.methods[i].flags = 2) : methodE l c i = (0, 0) := by unfold methodE; rw [mt_at hi, if_neg (by simp [h]), if_neg (by simp [h2]), if_pos h3]
theorem methodE_body {i : Nat} (hi : i < c.methods.length) (h : namedM c c.methods[i] i = 0) (h2 : flaggedM c c.methods[i] = 0) (h3 : c.methods[i].flags ≠ 2) : methodE l c i = bodyE l c.methods[i] := by unfold methodE; rw [mt_at hi, if_neg (by simp [h]), if_neg (by simp [h2]), if_neg h3]

/-- The loop over a class's methods. -/
structure MsI (w : World) (cs : Array Value) (l : List En) (c : Cl) (k : Nat) (wr : World) : Prop where
  chg : Chg No w wr
  box : wr.heap[w.heap.size]? = some (.cells cs 37 (0, 0))
  ok : ∀ j, j < k → (methodE l c j).2 = 0
theorem MsI.new {w wr w1 : World} {cs : Array Value} {k : Nat} (h : MsI w cs l c k wr) (d : Chg No wr w1) : MsI w cs l c k w1 := ⟨h.chg.trans d (fun _ _ h => h), (d.block _ (heap_lt h.box) (fun h => h)).trans h.box, h.ok⟩
theorem MsI.next {w wr : World} {cs : Array Value} {k : Nat} (h : MsI w cs l c k wr) (hz : (methodE l c k).2 = 0) : MsI w cs l c (k + 1) wr := ⟨h.chg, h.box, fun j hj => by
  by_cases e : j = k
  · subst e; exact hz
  · exact h.ok j (by omega)⟩

set_option maxRecDepth 100000 in
set_option maxHeartbeats 6400000 in
theorem methods_c (c : Cl) (nv sv fv gv mv pv : Value) (hm : SQ 10 RMt S w mv c.methods) (hok : ∀ x ∈ c.methods, OkMt x) (hbody : BodyAns S w l pv c.methods) :
    Calls Tryz.prog 100 #[.agg #[.int .i64 c.flags, nv, sv, fv, gv, mv], pv] w (BdPost w (methodsE l c)) := by
  obtain ⟨a3, c3, rfl, hc3, -⟩ := hm.form
  have HM := Lib.hid (And.intro hm (And.intro hok hbody)); clear hm hok hbody
  by_cases hmany : 64 < c.methods.length
  · have hE := Lib.hid (methodsE_many (l := l) hmany)
    have hm' : (c.methods.length : Int) > 64 := by omega
    go_enter Tryz.func100, Tryz.ntmps100
    go_wp2
    go_ret
    rw [hE.out]
    exact BdPost.bad ((Chg.refl No w).alloc _) (by decide) _ (by simp) _ _ _ _ rfl rfl rfl rfl
  have hE := Lib.hid (methodsE_rest (l := l) hmany)
  have hm' : ¬ (c.methods.length : Int) > 64 := by omega
  have h64 : c.methods.length ≤ 64 := by omega
  clear hmany
  go_enter Tryz.func100, Tryz.ntmps100
  go_wp2
  go_loopw [18] (fun i wr => ∃ k : Nat, k ≤ c.methods.length ∧ i = .int .i64 k ∧ RowKit.Hid (MsI w #[.int .i64 c.flags, nv, sv, fv, gv, .slice a3 c.methods.length c3] l c k wr)) (fun i _ => c.methods.length - (intOf i).toNat)
  case atStart => exact ⟨0, Nat.zero_le _, rfl, Lib.hid ⟨(Chg.refl No w).alloc _, heap_alloc_new _ _, fun j hj => by omega⟩⟩
  case round =>
    obtain ⟨k, hk, rfl, hI⟩ := hrel
    by_cases hlt : k < c.methods.length
    · obtain ⟨b, o, ds, rfl, hcl, hR, hbl, hsb, hcell⟩ := SQ.cells (HM.out.1.new goodMt hI.out.chg) k hlt
      have HOK := Lib.hid (HM.out.2.1 c.methods[k] (List.getElem_mem hlt))
      have HN := Lib.hid (fun (W : World) (hW : Chg No w W) => named_c (S := S) (w := W) c (.int .i64 c.flags) nv sv fv gv _ (HM.out.1.new goodMt hW) HM.out.2.1 (by omega) k hlt)
      have HB := Lib.hid (fun (W : World) (hW : Chg No w W) (v cv hv : Value) (h2 : c.methods[k].flags ≠ 2) => HM.out.2.2 W c.methods[k] v cv hv (List.getElem_mem hlt) h2 hW)
      have HX := Lib.hid (And.intro (methodE_named (l := l) hlt) (And.intro (methodE_flagged (l := l) hlt) (And.intro (methodE_abs (l := l) hlt) (methodE_body (l := l) hlt))))
      obtain ⟨m, hme⟩ : ∃ m, m = c.methods[k] := ⟨_, rfl⟩
      rw [← hme] at hR HOK HN HB HX
      clear hme
      obtain ⟨va, vc, vh, rfl, q1, q2, q3⟩ := hR
      obtain ⟨a1, c1, rfl, -, -⟩ := q1.form
      obtain ⟨a2, c2, rfl, -, -⟩ := q2.form
      obtain ⟨a4, c4, rfl, -, -⟩ := q3.form
      have g0 := hcell 0 _ rfl
      have g1 := hcell 1 _ rfl
      have g2 := hcell 2 _ rfl
      have g3 := hcell 3 _ rfl
      have g4 := hcell 4 _ rfl
      have g5 := hcell 5 _ rfl
      have g6 := hcell 6 _ rfl
      have g7 := hcell 7 _ rfl
      have g8 := hcell 8 _ rfl
      have g9 := hcell 9 _ rfl
      rw [Nat.add_zero] at g0
      rw [← Nat.add_assoc] at g1 g2 g3 g4 g5 g6 g7 g8 g9
      have Q := Lib.hid (And.intro q1 (And.intro q2 q3))
      clear hcell q1 q2 q3 hcl
      have hwb := heap_lt hI.out.box
      have b0 := blk_cell hI.out.box (j := 0) rfl
      have b1 := blk_cell hI.out.box (j := 1) rfl
      have b2 := blk_cell hI.out.box (j := 2) rfl
      have b3 := blk_cell hI.out.box (j := 3) rfl
      have b4 := blk_cell hI.out.box (j := 4) rfl
      have b5 := blk_cell hI.out.box (j := 5) rfl
      go_wp2_with fail
      refine (HN.out _ (hI.out.chg.alloc _)).mono ?_
      rintro e w1 ⟨rfl, d⟩
      have I1 := Lib.hid (hI.out.new (((Chg.refl No wr).alloc _).trans d (fun _ _ h => h)))
      have B1 := Lib.hid (d.blk (heap_alloc_new wr _))
      have Q1 := Lib.hid (And.intro (Q.out.1.new goodTy (((Chg.refl No wr).alloc _).trans d (fun _ _ h => h))) (And.intro (Q.out.2.1.new goodByte (((Chg.refl No wr).alloc _).trans d (fun _ _ h => h))) (Q.out.2.2.new goodHd (((Chg.refl No wr).alloc _).trans d (fun _ _ h => h)))))
      clear d g0 g1 g2 g3 g4 g5 g6 g7 g8 g9 b0 b1 b2 b3 b4 b5
      obtain ⟨ne, hne⟩ : ∃ ne, ne = namedM c m k := ⟨_, rfl⟩
      obtain ⟨fe, hfe⟩ : ∃ fe, fe = flaggedM c m := ⟨_, rfl⟩
      rw [← hne]
      have HNE := Lib.hid (And.intro hne hfe)
      by_cases h0 : ne = 0
      · subst h0
        have b0 := blk_cell I1.out.box (j := 0) rfl
        have b1 := blk_cell I1.out.box (j := 1) rfl
        have b2 := blk_cell I1.out.box (j := 2) rfl
        have b3 := blk_cell I1.out.box (j := 3) rfl
        have b4 := blk_cell I1.out.box (j := 4) rfl
        have b5 := blk_cell I1.out.box (j := 5) rfl
        have x0 := blk_cell B1.out (j := 0) rfl
        have x1 := blk_cell B1.out (j := 1) rfl
        have x2 := blk_cell B1.out (j := 2) rfl
        have x3 := blk_cell B1.out (j := 3) rfl
        have x4 := blk_cell B1.out (j := 4) rfl
        have x5 := blk_cell B1.out (j := 5) rfl
        have x6 := blk_cell B1.out (j := 6) rfl
        have x7 := blk_cell B1.out (j := 7) rfl
        have x8 := blk_cell B1.out (j := 8) rfl
        have x9 := blk_cell B1.out (j := 9) rfl
        go_wp2_with fail
        refine (flagged_c (S := S) c m nv sv fv gv _ _ _ _ Q1.out.2.1 Q1.out.2.2).mono ?_
        rintro e w2 ⟨rfl, d⟩
        rw [← HNE.out.2]
        have I2 := Lib.hid (I1.out.new d)
        have B2 := Lib.hid (d.blk B1.out)
        have Q2 := Lib.hid (And.intro (Q1.out.1.new goodTy d) (And.intro (Q1.out.2.1.new goodByte d) (Q1.out.2.2.new goodHd d)))
        clear d hne hfe b0 b1 b2 b3 b4 b5 x0 x1 x2 x3 x4 x5 x6 x7 x8 x9
        by_cases h1 : fe = 0
        · subst h1
          have x0 := blk_cell B2.out (j := 0) rfl
          by_cases h2 : m.flags = 2
          · have hz := HX.out.2.2.1 HNE.out.1.symm HNE.out.2.symm h2
            have HZ := Lib.hid (show (methodE l c k).2 = 0 by rw [hz])
            have h2' : (m.flags == 2) = true := by simpa using h2
            have h2'' : (m.flags != 2) = false := by simpa using h2
            clear hz h2
            go_wp2
            go_roundw
            case rel => exact ⟨k + 1, by omega, by go_num, Lib.hid (I2.out.next HZ.out)⟩
            case measure => simp [intOf]; omega
          · have hz := Lib.hid (HX.out.2.2.2 HNE.out.1.symm HNE.out.2.symm h2)
            have h2' : (m.flags == 2) = false := by simpa using h2
            have h2'' : (m.flags != 2) = true := by simpa using h2
            have HBD := Lib.hid (HB.out w2 I2.out.chg _ _ _ h2 Q2.out.1 Q2.out.2.1 Q2.out.2.2)
            have x1 := blk_cell B2.out (j := 1) rfl
            have x2 := blk_cell B2.out (j := 2) rfl
            have x3 := blk_cell B2.out (j := 3) rfl
            have x4 := blk_cell B2.out (j := 4) rfl
            have x5 := blk_cell B2.out (j := 5) rfl
            have x6 := blk_cell B2.out (j := 6) rfl
            have x7 := blk_cell B2.out (j := 7) rfl
            have x8 := blk_cell B2.out (j := 8) rfl
            have x9 := blk_cell B2.out (j := 9) rfl
            clear h2
            go_wp2_with fail
            refine HBD.out.mono ?_
            rintro e w3 ⟨rfl, d⟩
            have I3 := Lib.hid (I2.out.new d)
            clear d x0 x1 x2 x3 x4 x5 x6 x7 x8 x9
            rw [← hz.out]
            by_cases h3 : (methodE l c k).2 = 0
            · have HZ := Lib.hid h3
              rw [h3]
              clear h3
              go_wp2
              go_roundw
              case rel => exact ⟨k + 1, by omega, by go_num, Lib.hid (I3.out.next HZ.out)⟩
              case measure => simp [intOf]; omega
            · have h3' : ((methodE l c k).2 != 0) = true := by simpa using h3
              have HZ := Lib.hid h3
              clear h3
              go_wp2
              go_ret
              have hfs := firstN_some (f := fun i => (methodE l c i).2) hlt HZ.out I3.out.ok
              rw [hE.out, hfs]
              exact BdPost.bad I3.out.chg HZ.out _ (by simp) _ _ _ _ rfl rfl rfl rfl
        · have hb : (fe == 0) = false := by simpa using h1
          have hb' : (fe != 0) = true := by simpa using h1
          have hz := Lib.hid (HX.out.2.1 HNE.out.1.symm (by rw [← HNE.out.2]; exact h1))
          have HZ := Lib.hid h1
          clear h1
          go_wp2
          go_ret
          have hn : (methodE l c k).2 ≠ 0 := by rw [hz.out, ← HNE.out.2]; exact HZ.out
          have hfs := firstN_some (f := fun i => (methodE l c i).2) hlt hn I2.out.ok
          rw [hE.out, hfs]
          exact BdPost.bad I2.out.chg hn _ (by simp) _ _ _ _ rfl rfl (by show 0 = (methodE l c k).1; rw [hz.out]) (by show fe = (methodE l c k).2; rw [hz.out]; exact HNE.out.2)
      · have hb : (ne == 0) = false := by simpa using h0
        have hb' : (ne != 0) = true := by simpa using h0
        have hz := Lib.hid (HX.out.1 (by rw [← hne]; exact h0))
        have HZ := Lib.hid h0
        clear h0 hne hfe
        go_wp2
        go_ret
        have hn : (methodE l c k).2 ≠ 0 := by rw [hz.out, ← HNE.out.1]; exact HZ.out
        have hfs := firstN_some (f := fun i => (methodE l c i).2) hlt hn I1.out.ok
        rw [hE.out, hfs]
        exact BdPost.bad I1.out.chg hn _ (by simp) _ _ _ _ rfl rfl (by show 0 = (methodE l c k).1; rw [hz.out]) (by show ne = (methodE l c k).2; rw [hz.out]; exact HNE.out.1)
    · go_wp2
      go_ret
      rw [hE.out, firstN_none (fun j hj => hI.out.ok j (by omega))]
      exact BdPost.ok hI.out.chg rfl
end

end Go.Proofs.YtgmmclcpfmnoiaaGreatDoor
