/-
  Package module's fields, walked at any class.
-/
import Derived.Test.YtgmmclcpfmnoiaaGreatDoorModA
import Derived.Test.YtgmmclcpfmnoiaaGreatDoorFinds
namespace Go.Proofs.YtgmmclcpfmnoiaaGreatDoor
open Go.RowKit

section
variable {S : Blocks} {w : World} {c : Cl}
theorem fieldsE_many (h : 64 < c.fields.length) : fieldsE c = badE 4 := by unfold fieldsE; rw [if_pos h]
theorem fieldsE_rest (h : ¬ 64 < c.fields.length) : fieldsE c = match firstN (fieldE c) c.fields.length with | some i => ⟨0, i, 0, fieldE c i⟩ | none => zBd := by
  unfold fieldsE; rw [if_neg h]; cases firstN (fieldE c) c.fields.length <;> rfl
theorem fd_at {i : Nat} (hi : i < c.fields.length) : c.fields.getD i zFd = c.fields[i] := by rw [List.getD_eq_getElem?_getD, List.getElem?_eq_getElem hi]; rfl
theorem fieldE_flags {i : Nat} (hi : i < c.fields.length) (h : c.fields[i].flags ≠ 0 ∧ c.fields[i].flags ≠ 4) : fieldE c i = 21 := by
  unfold fieldE; rw [fd_at hi, if_pos h]
theorem fieldE_name {i : Nat} (hi : i < c.fields.length) (h : ¬ (c.fields[i].flags ≠ 0 ∧ c.fields[i].flags ≠ 4)) (hn : nameB c.fields[i].name = false) : fieldE c i = 14 := by
  unfold fieldE; rw [fd_at hi, if_neg h, if_pos hn]
theorem fieldE_type {i : Nat} (hi : i < c.fields.length) (h : ¬ (c.fields[i].flags ≠ 0 ∧ c.fields[i].flags ≠ 4)) (hn : nameB c.fields[i].name = true) (ht : tyErr c.fields[i].type ≠ 0) : fieldE c i = tyErr c.fields[i].type := by
  unfold fieldE; rw [fd_at hi, if_neg h, if_neg (by simp [hn]), if_pos ht]
theorem fieldE_twice {i : Nat} (hi : i < c.fields.length) (h : ¬ (c.fields[i].flags ≠ 0 ∧ c.fields[i].flags ≠ 4)) (hn : nameB c.fields[i].name = true) (ht : tyErr c.fields[i].type = 0) : fieldE c i = if ((c.fields.take i).any fun x => x.name == c.fields[i].name) = true then 20 else 0 := by
  unfold fieldE; rw [fd_at hi, if_neg h, if_neg (by simp [hn]), if_neg (by simp [ht])]

theorem fieldsF_c (w : World) (n m : Bs) (x s f : Value) (k : Nat) (hk : w.cell? ⟨k, 1, none⟩ = some (strV m)) (hlt : k < w.heap.size) :
    Calls Tryz.prog 124 #[.agg #[x, strV n, s, f], .pointer (some ⟨k, 0, none⟩)] w fun e w' => e = .returned (.bool (n == m)) ∧ Chg No w w' := by
  have hk' : (w.alloc (.cells #[x, strV n, s, f] 41)).cell? ⟨k, 1, none⟩ = some (strV m) := by
    rw [World.cell?_alloc_past _ _ _ hlt]; exact hk
  go_enter Tryz.func124, Tryz.ntmps124
  go_wp2
  go_ret
  exact ⟨rfl, (Chg.refl _ _).alloc _⟩

/-- The loop over a class's fields. -/
structure FdI (w : World) (cs : Array Value) (c : Cl) (k : Nat) (wr : World) : Prop where
  chg : Chg No w wr
  box : wr.heap[w.heap.size]? = some (.cells cs 37 (0, 0))
  ok : ∀ j, j < k → fieldE c j = 0
theorem FdI.new {w wr w1 : World} {cs : Array Value} {k : Nat} (h : FdI w cs c k wr) (d : Chg No wr w1) : FdI w cs c k w1 := ⟨h.chg.trans d (fun _ _ h => h), (d.block _ (heap_lt h.box) (fun h => h)).trans h.box, h.ok⟩

set_option maxRecDepth 100000 in
set_option maxHeartbeats 6400000 in
theorem fields_c (c : Cl) (xv nv sv fv gv mv : Value) (hg : SQ 4 RFd S w gv c.fields) (hln : ∀ f ∈ c.fields, f.name.length ≤ maxLen ∧ f.type.name.length ≤ maxLen) :
    Calls Tryz.prog 99 #[.agg #[xv, nv, sv, fv, gv, mv]] w (BdPost w (fieldsE c)) := by
  obtain ⟨a2, c2, rfl, hc2, -⟩ := hg.form
  have HG := Lib.hid (And.intro hg hln); clear hg hln
  by_cases hm : 64 < c.fields.length
  · have hE := Lib.hid (fieldsE_many hm)
    have hm' : (c.fields.length : Int) > 64 := by omega
    go_enter Tryz.func99, Tryz.ntmps99
    go_wp2
    go_ret
    rw [hE.out]
    exact BdPost.bad ((Chg.refl No w).alloc _) (by decide) _ (by simp) _ _ _ _ rfl rfl rfl rfl
  have hE := Lib.hid (fieldsE_rest hm)
  have hm' : ¬ (c.fields.length : Int) > 64 := by omega
  have h64 : c.fields.length ≤ 64 := by omega
  clear hm
  have hmf : ∀ (fn : Fn) (first cap : Array Value) (w : World), (Instr.makeFunc fn first cap).run Tryz.prog w = .ok (.func fn first cap) w := fun _ _ _ _ => rfl
  have eg : ∀ (args : Array Value) (w : World), (callFunc 124 args).run Tryz.prog w = .ok (.enter 124 args) w := enters_of Tryz.func124 (by kernel_rfl) rfl
  have EG := Lib.hid eg; clear eg
  go_enter Tryz.func99, Tryz.ntmps99
  go_wp2
  go_loopw [15] (fun i wr => ∃ k : Nat, k ≤ c.fields.length ∧ i = .int .i64 k ∧ RowKit.Hid (FdI w #[xv, nv, sv, fv, .slice a2 c.fields.length c2, mv] c k wr)) (fun i _ => c.fields.length - (intOf i).toNat)
  case atStart => exact ⟨0, Nat.zero_le _, rfl, Lib.hid ⟨(Chg.refl No w).alloc _, heap_alloc_new _ _, fun j hj => by omega⟩⟩
  case round =>
    obtain ⟨k, hk, rfl, hI⟩ := hrel
    by_cases hlt : k < c.fields.length
    · obtain ⟨b, o, ds, rfl, hcl, hR, hbl, hsb, hcell⟩ := SQ.cells (HG.out.1.new goodFd hI.out.chg) k hlt
      have HT := Lib.hid ((HG.out.1.new goodFd hI.out.chg).take k hk)
      obtain rfl := hR
      have g0 := hcell 0 _ rfl
      have g1 := hcell 1 _ rfl
      have g2 := hcell 2 _ rfl
      have g3 := hcell 3 _ rfl
      rw [Nat.add_zero] at g0
      rw [← Nat.add_assoc] at g1 g2 g3
      clear hcell hcl
      obtain ⟨fl, hfl⟩ : ∃ fl, fl = c.fields[k].flags := ⟨_, rfl⟩
      obtain ⟨nm, hnm⟩ : ∃ nm, nm = c.fields[k].name := ⟨_, rfl⟩
      obtain ⟨dm, hdm⟩ : ∃ dm, dm = c.fields[k].type.dims := ⟨_, rfl⟩
      obtain ⟨tn, htn⟩ : ∃ tn, tn = c.fields[k].type.name := ⟨_, rfl⟩
      have hl := HG.out.2 c.fields[k] (List.getElem_mem hlt)
      rw [← hnm, ← htn] at hl
      have hl1 : nm.length ≤ 9223372036854775807 := by have := hl.1; unfold maxLen at this; omega
      have hl2 : tn.length ≤ 9223372036854775807 := by have := hl.2; unfold maxLen at this; omega
      rw [← hfl] at g0; rw [← hnm] at g1; rw [← hdm] at g2; rw [← htn] at g3
      have HEQ := Lib.hid (And.intro hfl (And.intro hnm (And.intro hdm htn)))
      have hty : (⟨dm, tn⟩ : Ty) = c.fields[k].type := by rw [hdm, htn]
      have HTY := Lib.hid hty
      clear hfl hnm hdm htn hl hty
      by_cases hF : c.fields[k].flags ≠ 0 ∧ c.fields[k].flags ≠ 4
      · have hEk := Lib.hid (fieldE_flags hlt hF)
        have z0 : (fl != 0) = true := by rw [HEQ.out.1]; simpa using hF.1
        have z1 : (fl != 4) = true := by rw [HEQ.out.1]; simpa using hF.2
        clear hF
        go_wp2_with fail
        refine (tyCheck_c _ dm tn hl2).mono ?_
        rintro e w1 ⟨rfl, rfl⟩
        rw [HTY.out]
        obtain ⟨te, hte⟩ : ∃ te, te = tyErr c.fields[k].type := ⟨_, rfl⟩
        rw [← hte]
        have HTE := Lib.hid hte; clear hte
        go_wp2
        go_ret
        have hfs := firstN_some (f := fieldE c) hlt (by rw [hEk.out]; decide) hI.out.ok
        rw [hE.out, hfs]
        exact BdPost.bad ((hI.out.chg.alloc _).alloc _) (by show fieldE c k ≠ 0; rw [hEk.out]; decide) _ (by simp) _ _ _ _ rfl rfl rfl hEk.out.symm
      · have HF := Lib.hid hF
        have hfl : fl = 0 ∨ fl = 4 := by rw [HEQ.out.1]; omega
        clear hF
        cases hn : nameB c.fields[k].name with
        | false =>
          have hEk := Lib.hid (fieldE_name hlt HF.out hn)
          rw [← HEQ.out.2.1] at hn
          have HN := Lib.hid hn; clear hn
          rcases hfl with rfl | rfl
          all_goals
            go_wp2_with fail
            refine (tyCheck_c _ dm tn hl2).mono ?_
            rintro e w1 ⟨rfl, rfl⟩
            rw [HTY.out]
            obtain ⟨te, hte⟩ : ∃ te, te = tyErr c.fields[k].type := ⟨_, rfl⟩
            rw [← hte]
            have HTE := Lib.hid hte; clear hte
            go_wp2_with fail
            refine (name_c _ nm hl1).mono ?_
            rintro e w2 ⟨he, rfl⟩
            rw [HN.out] at he
            subst he
            go_wp2
            go_ret
            have hfs := firstN_some (f := fieldE c) hlt (by rw [hEk.out]; decide) hI.out.ok
            rw [hE.out, hfs]
            exact BdPost.bad ((hI.out.chg.alloc _).alloc _) (by show fieldE c k ≠ 0; rw [hEk.out]; decide) _ (by simp) _ _ _ _ rfl rfl rfl hEk.out.symm
        | true =>
          have HN0 := Lib.hid hn
          rw [← HEQ.out.2.1] at hn
          have HN := Lib.hid hn; clear hn
          by_cases ht : tyErr c.fields[k].type = 0
          · have hEk := Lib.hid (fieldE_twice hlt HF.out HN0.out ht)
            rw [← HEQ.out.2.1] at hEk
            have HT0 := Lib.hid ht; clear ht
            have hkc : ¬ ((c2 : Int) < (k : Int)) := by omega
            have g4 := blk_cell hI.out.box (j := 4) rfl
            have hwb := heap_lt hI.out.box
            rcases hfl with rfl | rfl
            all_goals
              go_wp2_with fail
              refine (tyCheck_c _ dm tn hl2).mono ?_
              rintro e w1 ⟨rfl, rfl⟩
              rw [HTY.out, HT0.out]
              go_wp2_with fail
              refine (name_c _ nm hl1).mono ?_
              rintro e w2 ⟨he, rfl⟩
              rw [HN.out] at he
              subst he
              go_wp2_with fail
              refine (containsFunc_fd S _ _ (c.fields.take k) (HT.out.new goodFd (((Chg.refl No wr).alloc _).alloc _)) (by rw [List.length_take]; omega) 124 _ EG.out (fun x => x.name == nm) (fun W x ds hx hcW hR => ?_)).mono ?_
              · obtain rfl := hR
                exact fieldsF_c W _ _ _ _ _ _ (blk_cell (hcW.blk (alloc_blk (heap_alloc_new wr _))) rfl) (heap_lt (hcW.blk (alloc_blk (heap_alloc_new wr _))))
              · rintro e w4 ⟨he, d⟩
                have I4 : RowKit.Hid (FdI w _ c k w4) := Lib.hid (hI.out.new ((((Chg.refl No wr).alloc _).alloc _).trans d (fun _ _ h => h)))
                clear d
                cases hany : (c.fields.take k).any fun x => x.name == nm with
                | true =>
                  rw [hany] at he hEk
                  subst he
                  have HA := Lib.hid hEk; clear hany
                  go_wp2
                  go_ret
                  have hz : fieldE c k = 20 := by rw [hEk.out]; rfl
                  have hfs := firstN_some (f := fieldE c) hlt (by rw [hz]; decide) I4.out.ok
                  rw [hE.out, hfs]
                  exact BdPost.bad I4.out.chg (by show fieldE c k ≠ 0; rw [hz]; decide) _ (by simp) _ _ _ _ rfl rfl rfl hz.symm
                | false =>
                  rw [hany] at he hEk
                  subst he
                  clear hany
                  have hz : fieldE c k = 0 := by rw [hEk.out]; rfl
                  have HZ := Lib.hid hz
                  clear hz g0 g1 g2 g3 g4
                  go_wp2
                  go_roundw
                  case rel => exact ⟨k + 1, by omega, by go_num, Lib.hid ⟨I4.out.chg, I4.out.box, fun j hj => by
                    by_cases e : j = k
                    · subst e; exact HZ.out
                    · exact I4.out.ok j (by omega)⟩⟩
                  case measure => simp [intOf]; omega
          · have hEk := Lib.hid (fieldE_type hlt HF.out HN0.out ht)
            have hne : (tyErr c.fields[k].type == 0) = false := by simpa using ht
            have HNE := Lib.hid (And.intro hne ht); clear hne ht
            rcases hfl with rfl | rfl
            all_goals
              go_wp2_with fail
              refine (tyCheck_c _ dm tn hl2).mono ?_
              rintro e w1 ⟨rfl, rfl⟩
              rw [HTY.out]
              have hne := HNE.out.1
              obtain ⟨te, hte⟩ : ∃ te, te = tyErr c.fields[k].type := ⟨_, rfl⟩
              rw [← hte] at hne ⊢
              have hne2 : (te != 0) = true := by simpa using hne
              have HTE := Lib.hid hte; clear hte
              go_wp2_with fail
              refine (name_c _ nm hl1).mono ?_
              rintro e w2 ⟨he, rfl⟩
              rw [HN.out] at he
              subst he
              go_wp2
              go_ret
              have hz : fieldE c k ≠ 0 := by rw [hEk.out]; exact HNE.out.2
              have hfs := firstN_some (f := fieldE c) hlt hz hI.out.ok
              rw [hE.out, hfs]
              exact BdPost.bad ((hI.out.chg.alloc _).alloc _) hz _ (by simp) _ _ _ _ rfl rfl rfl (HTE.out.trans hEk.out.symm)
    · go_wp2
      go_ret
      rw [hE.out, firstN_none (fun j hj => hI.out.ok j (by omega))]
      exact BdPost.ok hI.out.chg rfl
end

end Go.Proofs.YtgmmclcpfmnoiaaGreatDoor
