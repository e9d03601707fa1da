/-
  Package module's named and flagged, walked at any class.
-/
import Derived.Test.YtgmmclcpfmnoiaaGreatDoorModB
import Derived.Test.YtgmmclcpfmnoiaaGreatDoorDescX
namespace Go.Proofs.YtgmmclcpfmnoiaaGreatDoor
open Go.RowKit

/-- Texts and rows that a machine may hold. -/
structure OkMt (x : Mt) : Prop where
  name : x.name.length ≤ maxLen
  params : x.sig.params.length ≤ maxLen
  ptexts : ∀ t ∈ x.sig.params, t.name.length ≤ maxLen
  result : x.sig.result.name.length ≤ maxLen
  code : x.code.length ≤ maxLen
  hands : x.handlers.length ≤ maxLen
  htexts : ∀ h ∈ x.handlers, h.class_.length ≤ maxLen

section
variable {S : Blocks} {w : World} {c : Cl}
/-- A method's cells, as a value. -/
abbrev mtC (x : Mt) (v cv hv : Value) : Array Value := #[.int .i64 x.flags, strV x.name, v, .bool x.sig.void, .int .i64 x.sig.result.dims, strV x.sig.result.name, .int .i64 x.stack, .int .i64 x.locals_, cv, hv]
theorem namedF_c (w : World) (x y : Mt) (v cv hv v' cv' hv' : Value) {S T : Blocks} (hx : SQ 2 RTy S w v x.sig.params) (hy : SQ 2 RTy T w v' y.sig.params) (ox : x.sig.params.length ≤ maxLen) (oy : y.sig.params.length ≤ maxLen) (k : Nat) (hk : w.heap[k]? = some (.cells (mtC y v' cv' hv') 32 (0, 0))) (_h1 : cv.oneCell' = true) (_h2 : hv.oneCell' = true) :
    Calls Tryz.prog 152 #[.agg (mtC x v cv hv), .pointer (some ⟨k, 0, none⟩)] w fun e w' => e = .returned (.bool (x.name == y.name && x.sig == y.sig)) ∧ Chg No w w' := by
  obtain ⟨a, c, rfl, -, -⟩ := hx.form
  obtain ⟨a', c', rfl, -, -⟩ := hy.form
  have hB := alloc_blk (o2 := .cells (mtC x (.slice a x.sig.params.length c) cv hv) 32) hk
  have k1 := blk_cell hB (j := 1) rfl
  have k2 := blk_cell hB (j := 2) rfl
  have k3 := blk_cell hB (j := 3) rfl
  have k4 := blk_cell hB (j := 4) rfl
  have k5 := blk_cell hB (j := 5) rfl
  have HX := Lib.hid (And.intro (hx.new goodTy ((Chg.refl No w).alloc (.cells (mtC x (.slice a x.sig.params.length c) cv hv) 32))) (hy.new goodTy ((Chg.refl No w).alloc (.cells (mtC x (.slice a x.sig.params.length c) cv hv) 32))))
  clear hB hk hx hy
  cases hn : x.name == y.name with
  | true =>
    have HN := Lib.hid hn
    go_enter Tryz.func152, Tryz.ntmps152
    go_wp2_with fail
    refine (sgSame_c _ x.sig y.sig _ _ HX.out.1 HX.out.2 ox oy).mono ?_
    rintro e w1 ⟨rfl, d⟩
    have D := Lib.hid d; clear d
    go_wp2
    go_ret
    exact ⟨by rw [Bool.true_and]; rfl, ((Chg.refl No w).alloc _).trans D.out (fun _ _ h => h)⟩
  | false =>
    go_enter Tryz.func152, Tryz.ntmps152
    go_wp2
    go_ret
    exact ⟨by rw [Bool.false_and]; rfl, (Chg.refl No w).alloc _⟩
theorem mt_at {i : Nat} (hi : i < c.methods.length) : c.methods.getD i zMt = c.methods[i] := by rw [List.getD_eq_getElem?_getD, List.getElem?_eq_getElem hi]; rfl
theorem namedM_flags {m : Mt} {i : Nat} (h : m.flags ≠ 0 ∧ m.flags ≠ 2 ∧ m.flags ≠ 4) : namedM c m i = 21 := by unfold namedM; rw [if_pos h]
theorem namedM_name {m : Mt} {i : Nat} (h : ¬ (m.flags ≠ 0 ∧ m.flags ≠ 2 ∧ m.flags ≠ 4)) (hn : methB m.name = false) : namedM c m i = 14 := by unfold namedM; rw [if_neg h, if_pos hn]
theorem namedM_sig {m : Mt} {i : Nat} (h : ¬ (m.flags ≠ 0 ∧ m.flags ≠ 2 ∧ m.flags ≠ 4)) (hn : methB m.name = true) (hs : (sigText m.sig).2 ≠ 0) : namedM c m i = (sigText m.sig).2 := by unfold namedM; rw [if_neg h, if_neg (by simp [hn]), if_pos hs]
theorem namedM_long {m : Mt} {i : Nat} (h : ¬ (m.flags ≠ 0 ∧ m.flags ≠ 2 ∧ m.flags ≠ 4)) (hn : methB m.name = true) (hs : (sigText m.sig).2 = 0) (hl : 255 < (sigText m.sig).1.length) : namedM c m i = 5 := by unfold namedM; rw [if_neg h, if_neg (by simp [hn]), if_neg (by simp [hs]), if_pos hl]
theorem namedM_twice {m : Mt} {i : Nat} (h : ¬ (m.flags ≠ 0 ∧ m.flags ≠ 2 ∧ m.flags ≠ 4)) (hn : methB m.name = true) (hs : (sigText m.sig).2 = 0) (hl : ¬ 255 < (sigText m.sig).1.length) :
    namedM c m i = if ((c.methods.take i).any fun x => x.name == m.name && x.sig == m.sig) = true then 20 else 0 := by unfold namedM; rw [if_neg h, if_neg (by simp [hn]), if_neg (by simp [hs]), if_neg hl]

set_option maxRecDepth 100000 in
set_option maxHeartbeats 6400000 in
theorem named_c (c : Cl) (xv nv sv fv gv mv : Value) (hm : SQ 10 RMt S w mv c.methods) (hok : ∀ x ∈ c.methods, OkMt x) (hlm : c.methods.length ≤ 9223372036854775807) (k : Nat) (hk : k < c.methods.length) :
    Calls Tryz.prog 125 #[.agg #[xv, nv, sv, fv, gv, mv], .int .i64 k] w fun e w' => e = .returned (.int .i64 (namedM c c.methods[k] k)) ∧ Chg No w w' := by
  obtain ⟨a3, c3, rfl, hc3, -⟩ := hm.form
  have d0 := (Chg.refl No w).alloc (.cells #[xv, nv, sv, fv, gv, .slice a3 c.methods.length c3] 37)
  have HM := Lib.hid (And.intro hm hok)
  obtain ⟨b, o, ds, rfl, hcl, hR, hbl, hsb, hcell⟩ := SQ.cells (hm.new goodMt d0) k hk
  clear hm hok
  have HOK := Lib.hid (HM.out.2 c.methods[k] (List.getElem_mem hk))
  obtain ⟨m, hme⟩ : ∃ m, m = c.methods[k] := ⟨_, rfl⟩
  rw [← hme] at hR HOK ⊢
  clear hme
  obtain ⟨va, vc, vh, rfl, q1, q2, q3⟩ := hR
  obtain ⟨a1, c1, rfl, -, -⟩ := q1.form
  obtain ⟨a2, c2, rfl, -, -⟩ := q2.form
  obtain ⟨a4, c4, rfl, -, -⟩ := q3.form
  have g0 := hcell 0 _ rfl
  have g1 := hcell 1 _ rfl
  have g2 := hcell 2 _ rfl
  have g3 := hcell 3 _ rfl
  have g4 := hcell 4 _ rfl
  have g5 := hcell 5 _ rfl
  have g6 := hcell 6 _ rfl
  have g7 := hcell 7 _ rfl
  have g8 := hcell 8 _ rfl
  have g9 := hcell 9 _ rfl
  rw [Nat.add_zero] at g0
  rw [← Nat.add_assoc] at g1 g2 g3 g4 g5 g6 g7 g8 g9
  have Q1 := Lib.hid q1
  clear hcell q1 q2 q3 hcl
  obtain ⟨fl, hfle⟩ : ∃ fl, fl = m.flags := ⟨_, rfl⟩
  have HFE := Lib.hid hfle
  by_cases hF : m.flags ≠ 0 ∧ m.flags ≠ 2 ∧ m.flags ≠ 4
  · have hE := Lib.hid (namedM_flags (c := c) (i := k) hF)
    have z0 : (m.flags != 0) = true := by simpa using hF.1
    have z1 : (m.flags != 2) = true := by simpa using hF.2.1
    have z2 : (m.flags != 4) = true := by simpa using hF.2.2
    clear hF
    go_enter Tryz.func125, Tryz.ntmps125
    go_wp2
    go_ret
    rw [hE.out]
    exact ⟨rfl, ((Chg.refl No w).alloc _).alloc _⟩
  have HFl := Lib.hid hF
  have hfl : fl = 0 ∨ fl = 2 ∨ fl = 4 := by omega
  clear hF
  rw [← hfle] at g0
  clear hfle
  cases hn : methB m.name with
  | false =>
    have hE := Lib.hid (namedM_name (c := c) (i := k) HFl.out hn)
    have HN := Lib.hid hn; clear hn
    rcases hfl with rfl | rfl | rfl
    all_goals
      go_enter Tryz.func125, Tryz.ntmps125
      go_wp2_with fail
      refine (method_c _ m.name HOK.out.name).mono ?_
      rintro e w1 ⟨he, d⟩
      rw [HN.out] at he
      subst he
      have D := Lib.hid d; clear d
      go_wp2
      go_ret
      rw [hE.out]
      exact ⟨rfl, (((Chg.refl No w).alloc _).alloc _).trans D.out (fun _ _ h => h)⟩
  | true =>
  have HN0 := Lib.hid hn
  have HN := Lib.hid hn; clear hn
  rcases hfl with rfl | rfl | rfl
  all_goals
    go_enter Tryz.func125, Tryz.ntmps125
    go_wp2_with fail
    refine (method_c _ m.name HOK.out.name).mono ?_
    rintro e w1 ⟨he, d⟩
    rw [HN.out] at he
    subst he
    have D := Lib.hid ((((Chg.refl No w).alloc _).alloc _).trans d (fun _ _ h => h))
    have HB := Lib.hid (And.intro (d.blk (alloc_blk (heap_alloc_new w _))) (d.blk (heap_alloc_new (w.alloc _) _)))
    have SG := Lib.hid (Q1.out.new goodTy (((Chg.refl No _).alloc _).trans d (fun _ _ h => h)))
    clear d
    have x2 := blk_cell HB.out.2 (j := 2) rfl
    have x3 := blk_cell HB.out.2 (j := 3) rfl
    have x4 := blk_cell HB.out.2 (j := 4) rfl
    have x5 := blk_cell HB.out.2 (j := 5) rfl
    rw [show (w.alloc (.cells #[xv, nv, sv, fv, gv, .slice (some ⟨b, o, none⟩) c.methods.length c3] 37)).heap.size = w.heap.size + 1 from by simp] at x2 x3 x4 x5
    clear g0 g1 g2 g3 g4 g5 g6 g7 g8 g9
    go_wp2_with fail
    refine (sigText_c S _ m.sig _ SG.out HOK.out.ptexts HOK.out.result).mono ?_
    rintro e w2 ⟨rfl, d⟩
    have D2 := Lib.hid (D.out.trans d (fun _ _ h => h))
    have HB2 := Lib.hid (And.intro (d.blk HB.out.1) (d.blk HB.out.2))
    have D12 := Lib.hid d
    clear d x2 x3 x4 x5
    have y5 := blk_cell HB2.out.1 (j := 5) rfl
    obtain ⟨te, hte⟩ : ∃ te, te = (sigText m.sig).2 := ⟨_, rfl⟩
    obtain ⟨tx, htx⟩ : ∃ tx, tx = (sigText m.sig).1 := ⟨_, rfl⟩
    rw [← hte, ← htx]
    have HTE := Lib.hid (And.intro hte htx); clear hte htx
    by_cases h0 : te = 0
    · subst h0
      by_cases h255 : 255 < tx.length
      · have hE := Lib.hid (namedM_long (c := c) (i := k) HFl.out HN0.out HTE.out.1.symm (by rw [← HTE.out.2]; exact h255))
        have hi : (tx.length : Int) > 255 := by omega
        go_wp2
        go_ret
        rw [hE.out]
        exact ⟨rfl, D2.out⟩
      · have hE := Lib.hid (namedM_twice (c := c) (i := k) HFl.out HN0.out HTE.out.1.symm (by rw [← HTE.out.2]; exact h255))
        have hi : ¬ (tx.length : Int) > 255 := by omega
        have hkc : ¬ ((c3 : Int) < (k : Int)) := by omega
        have hmf : ∀ (fn : Fn) (first cap : Array Value) (w : World), (Instr.makeFunc fn first cap).run Tryz.prog w = .ok (.func fn first cap) w := fun _ _ _ _ => rfl
        have eg : ∀ (args : Array Value) (w : World), (callFunc 152 args).run Tryz.prog w = .ok (.enter 152 args) w := enters_of Tryz.func152 (by kernel_rfl) rfl
        have EG := Lib.hid eg; clear eg
        have HT := Lib.hid ((HM.out.1.take k (by omega)).new goodMt D2.out)
        go_wp2_with fail
        refine (containsFunc_mt S _ _ (c.methods.take k) HT.out (by rw [List.length_take]; omega) 152 _ EG.out (fun x => x.name == m.name && x.sig == m.sig) (fun W x ds hx hcW hR => ?_)).mono ?_
        · have hin : x ∈ c.methods := List.mem_of_mem_take hx
          obtain ⟨ua, uc, uh, rfl, r1, r2, r3⟩ := hR
          obtain ⟨_, _, rfl, -, -⟩ := r2.form
          obtain ⟨_, _, rfl, -, -⟩ := r3.form
          have hB := hcW.blk HB2.out.2
          rw [show (w.alloc (.cells #[xv, nv, sv, fv, gv, .slice (some ⟨b, o, none⟩) c.methods.length c3] 37)).heap.size = w.heap.size + 1 from by simp] at hB
          obtain ⟨f0, hB0⟩ : ∃ f0 : Int, W.heap[w.heap.size + 1]? = some (.cells (mtC ⟨f0, m.name, m.sig, m.stack, m.locals_, m.code, m.handlers⟩ (.slice a1 m.sig.params.length c1) (.slice a2 m.code.length c2) (.slice a4 m.handlers.length c4)) 32 (0, 0)) := by first | exact ⟨0, hB⟩ | exact ⟨2, hB⟩ | exact ⟨4, hB⟩
          exact namedF_c W x ⟨f0, m.name, m.sig, m.stack, m.locals_, m.code, m.handlers⟩ _ _ _ _ _ _ r1 (SG.out.new goodTy (D12.out.trans hcW (fun _ _ h => h))) (HM.out.2 x hin).params HOK.out.params _ hB0 rfl rfl
        · rintro e w4 ⟨he, d⟩
          have D4 := Lib.hid (D2.out.trans d (fun _ _ h => h)); clear d
          cases hany : (c.methods.take k).any fun x => x.name == m.name && x.sig == m.sig with
          | true =>
            rw [hany] at he hE
            subst he
            have HA := Lib.hid hE; clear hany
            go_wp2
            go_ret
            rw [hE.out]
            exact ⟨rfl, D4.out⟩
          | false =>
            rw [hany] at he hE
            subst he
            have HA := Lib.hid hE; clear hany
            go_wp2
            go_ret
            rw [hE.out]
            exact ⟨rfl, D4.out⟩
    · have hE := Lib.hid (namedM_sig (c := c) (i := k) HFl.out HN0.out (by rw [← HTE.out.1]; exact h0))
      have hb : (te != 0) = true := by simpa using h0
      go_wp2
      go_ret
      rw [hE.out, ← HTE.out.1]
      exact ⟨rfl, D2.out⟩
end

end Go.Proofs.YtgmmclcpfmnoiaaGreatDoor
