/-
  Package module's head and fields, walked at any class.
-/
import Derived.Test.YtgmmclcpfmnoiaaGreatDoorApi
import Derived.Test.YtgmmclcpfmnoiaaGreatDoorFinds
import Derived.Test.YtgmmclcpfmnoiaaGreatDoorPlain1
import Derived.Test.YtgmmclcpfmnoiaaGreatDoorTextW1
import Derived.Test.YtgmmclcpfmnoiaaGreatDoorExt
namespace Go.Proofs.YtgmmclcpfmnoiaaGreatDoor
open Go.RowKit

/-- What a check of a class, or of a part, leaves. -/
def BdPost (w : World) (b : Bd) (e : Ending) (w' : World) : Prop :=
  Chg No w w' ∧ ((b.err = 0 ∧ e = .returned (.pointer none)) ∨ (b.err ≠ 0 ∧ ∃ k, w.heap.size ≤ k ∧ e = .returned (.pointer (some ⟨k, 0, none⟩)) ∧ w'.heap[k]? = some (.cells #[.int .i64 b.cls_, .int .i64 b.mem, .int .i64 b.at_, .int .i64 b.err] 167 (0, 0))))
theorem BdPost.ok {w w1 : World} {b : Bd} (d : Chg No w w1) (h : b.err = 0) : BdPost w b (.returned (.pointer none)) w1 := ⟨d, .inl ⟨h, rfl⟩⟩
theorem BdPost.bad {w w1 : World} {b : Bd} (d : Chg No w w1) (h : b.err ≠ 0) (k : Nat) (hk : k = w1.heap.size) (c1 c2 c3 c4 : Int) (e1 : c1 = b.cls_) (e2 : c2 = b.mem) (e3 : c3 = b.at_) (e4 : c4 = b.err) :
    BdPost w b (.returned (.pointer (some ⟨k, 0, none⟩))) (w1.alloc (.cells #[.int .i64 c1, .int .i64 c2, .int .i64 c3, .int .i64 c4] 167)) := by
  subst hk e1 e2 e3 e4
  exact ⟨d.alloc _, .inr ⟨h, _, d.size, rfl, heap_alloc_new _ _⟩⟩
theorem firstN_some {f : Nat → Int} {n i : Nat} (hi : i < n) (hb : f i ≠ 0) (ha : ∀ j, j < i → f j = 0) : firstN f n = some i := by
  unfold firstN
  rw [List.find?_range_eq_some]
  exact ⟨by simpa using hb, List.mem_range.2 hi, fun j hj => by simp [ha j hj]⟩
theorem firstN_none {f : Nat → Int} {n : Nat} (ha : ∀ j, j < n → f j = 0) : firstN f n = none := by
  unfold firstN
  rw [List.find?_eq_none]
  intro j hj
  simp [ha j (List.mem_range.1 hj)]

section
variable {S : Blocks} {w : World} {c : Cl}
theorem headE_flags (h : c.flags ≠ 0 ∧ c.flags ≠ 1 ∧ c.flags ≠ 2) : headE c = badE 21 := by unfold headE; rw [if_pos h]
theorem headE_name (h : ¬ (c.flags ≠ 0 ∧ c.flags ≠ 1 ∧ c.flags ≠ 2)) (hn : nameB c.name = false ∨ nameB c.super = false) : headE c = badE 14 := by unfold headE; rw [if_neg h, if_pos hn]
theorem headE_many (h : ¬ (c.flags ≠ 0 ∧ c.flags ≠ 1 ∧ c.flags ≠ 2)) (hn : ¬ (nameB c.name = false ∨ nameB c.super = false)) (hm : 16 < c.faces.length) : headE c = badE 4 := by unfold headE; rw [if_neg h, if_neg hn, if_pos hm]
theorem headE_super (h : ¬ (c.flags ≠ 0 ∧ c.flags ≠ 1 ∧ c.flags ≠ 2)) (hn : ¬ (nameB c.name = false ∨ nameB c.super = false)) (hm : ¬ 16 < c.faces.length) (hs : c.flags = 1 ∧ c.super ≠ [79, 98, 106, 101, 99, 116]) : headE c = badE 31 := by unfold headE; rw [if_neg h, if_neg hn, if_neg hm, if_pos hs]
theorem headE_face (h : ¬ (c.flags ≠ 0 ∧ c.flags ≠ 1 ∧ c.flags ≠ 2)) (hn : ¬ (nameB c.name = false ∨ nameB c.super = false)) (hm : ¬ 16 < c.faces.length) (hs : ¬ (c.flags = 1 ∧ c.super ≠ [79, 98, 106, 101, 99, 116])) (hf : c.flags = 1 ∧ 0 < c.fields.length) : headE c = badE 33 := by unfold headE; rw [if_neg h, if_neg hn, if_neg hm, if_neg hs, if_pos hf]
theorem headE_rest (h : ¬ (c.flags ≠ 0 ∧ c.flags ≠ 1 ∧ c.flags ≠ 2)) (hn : ¬ (nameB c.name = false ∨ nameB c.super = false)) (hm : ¬ 16 < c.faces.length) (hs : ¬ (c.flags = 1 ∧ c.super ≠ [79, 98, 106, 101, 99, 116])) (hf : ¬ (c.flags = 1 ∧ 0 < c.fields.length)) :
    headE c = match firstN (faceE c) c.faces.length with | some i => ⟨0, i, 0, faceE c i⟩ | none => zBd := by unfold headE; rw [if_neg h, if_neg hn, if_neg hm, if_neg hs, if_neg hf]; cases firstN (faceE c) c.faces.length <;> rfl
theorem faceE_name {i : Nat} (hi : i < c.faces.length) (h : nameB c.faces[i] = false) : faceE c i = 14 := by
  unfold faceE; rw [List.getD_eq_getElem?_getD, List.getElem?_eq_getElem hi, Option.getD_some, if_pos h]
theorem faceE_twice {i : Nat} (hi : i < c.faces.length) (h : nameB c.faces[i] = true) : faceE c i = if ((c.faces.take i).any fun x => x == c.faces[i]) = true then 20 else 0 := by
  unfold faceE; rw [List.getD_eq_getElem?_getD, List.getElem?_eq_getElem hi, Option.getD_some, if_neg (by simp [h])]

/-- The loop over a class's interfaces. -/
structure HdI (w : World) (cs : Array Value) (c : Cl) (k : Nat) (wr : World) : Prop where
  chg : Chg No w wr
  box : wr.heap[w.heap.size]? = some (.cells cs 37 (0, 0))
  ok : ∀ j, j < k → faceE c j = 0

set_option maxRecDepth 100000 in
set_option maxHeartbeats 6400000 in
theorem head_c (c : Cl) (fv gv mv : Value) (hf : SQ 1 RStr S w fv c.faces) (hg : SQ 4 RFd S w gv c.fields) (hln : c.name.length ≤ maxLen) (hls : c.super.length ≤ maxLen) (hlf : ∀ s ∈ c.faces, s.length ≤ maxLen) :
    Calls Tryz.prog 98 #[.agg #[.int .i64 c.flags, strV c.name, strV c.super, fv, gv, mv]] w (BdPost w (headE c)) := by
  obtain ⟨a1, c1, rfl, hc1, -⟩ := hf.form
  obtain ⟨a2, c2, rfl, -, -⟩ := hg.form
  have HF := Lib.hid (And.intro hf hlf); clear hf hlf hg
  have l1 : c.name.length ≤ 9223372036854775807 := by unfold maxLen at hln; omega
  have l2 : c.super.length ≤ 9223372036854775807 := by unfold maxLen at hls; omega
  clear hln hls
  by_cases hF : c.flags ≠ 0 ∧ c.flags ≠ 1 ∧ c.flags ≠ 2
  · have hE := Lib.hid (headE_flags hF)
    have z0 : (c.flags != 0) = true := by simpa using hF.1
    have z1 : (c.flags != 1) = true := by simpa using hF.2.1
    have z2 : (c.flags != 2) = true := by simpa using hF.2.2
    clear hF
    go_enter Tryz.func98, Tryz.ntmps98
    go_wp2
    go_ret
    rw [hE.out]
    exact BdPost.bad ((Chg.refl No w).alloc _) (by decide) _ (by simp) _ _ _ _ rfl rfl rfl rfl
  have HFl := Lib.hid hF
  have hfl : c.flags = 0 ∨ c.flags = 1 ∨ c.flags = 2 := by omega
  clear hF
  obtain ⟨fl, hfe⟩ : ∃ fl, fl = c.flags := ⟨_, rfl⟩
  rw [← hfe] at hfl ⊢
  have HFE := Lib.hid hfe; clear hfe
  cases hn : nameB c.name with
  | false =>
    have hE := Lib.hid (headE_name HFl.out (.inl hn))
    have HN := Lib.hid hn; clear hn
    rcases hfl with rfl | rfl | rfl
    all_goals
      go_enter Tryz.func98, Tryz.ntmps98
      go_wp2_with fail
      refine (name_c _ c.name l1).mono ?_
      rintro e w1 ⟨he, rfl⟩
      rw [HN.out] at he
      subst he
      go_wp2
      go_ret
      rw [hE.out]
      exact BdPost.bad ((Chg.refl No w).alloc _) (by decide) _ (by simp) _ _ _ _ rfl rfl rfl rfl
  | true =>
  cases hs : nameB c.super with
  | false =>
    have hE := Lib.hid (headE_name HFl.out (.inr hs))
    have HN := Lib.hid hn; clear hn
    have HS := Lib.hid hs; clear hs
    rcases hfl with rfl | rfl | rfl
    all_goals
      go_enter Tryz.func98, Tryz.ntmps98
      go_wp2_with fail
      refine (name_c _ c.name l1).mono ?_
      rintro e w1 ⟨he, rfl⟩
      rw [HN.out] at he
      subst he
      go_wp2_with fail
      refine (name_c _ c.super l2).mono ?_
      rintro e w1 ⟨he, rfl⟩
      rw [HS.out] at he
      subst he
      go_wp2
      go_ret
      rw [hE.out]
      exact BdPost.bad ((Chg.refl No w).alloc _) (by decide) _ (by simp) _ _ _ _ rfl rfl rfl rfl
  | true =>
  have HNS := Lib.hid (show ¬ (nameB c.name = false ∨ nameB c.super = false) by simp [hn, hs])
  have HN := Lib.hid hn; clear hn
  have HS := Lib.hid hs; clear hs
  by_cases hm : 16 < c.faces.length
  · have hE := Lib.hid (headE_many HFl.out HNS.out hm)
    rcases hfl with rfl | rfl | rfl
    all_goals
      go_enter Tryz.func98, Tryz.ntmps98
      go_wp2_with fail
      refine (name_c _ c.name l1).mono ?_
      rintro e w1 ⟨he, rfl⟩
      rw [HN.out] at he
      subst he
      go_wp2_with fail
      refine (name_c _ c.super l2).mono ?_
      rintro e w1 ⟨he, rfl⟩
      rw [HS.out] at he
      subst he
      go_wp2
      go_ret
      rw [hE.out]
      exact BdPost.bad ((Chg.refl No w).alloc _) (by decide) _ (by simp) _ _ _ _ rfl rfl rfl rfl
  have hm' : ¬ (16 < (c.faces.length : Int)) := by omega
  have h16 : c.faces.length ≤ 16 := by omega
  have HM := Lib.hid hm; clear hm
  rcases hfl with rfl | rfl | rfl
  · have hE := Lib.hid (headE_rest HFl.out HNS.out HM.out (fun h => absurd (HFE.out.trans h.1) (by decide)) (fun h => absurd (HFE.out.trans h.1) (by decide)))
    go_enter Tryz.func98, Tryz.ntmps98
    go_wp2_with fail
    refine (name_c _ c.name l1).mono ?_
    rintro e w1 ⟨he, rfl⟩
    rw [HN.out] at he
    subst he
    go_wp2_with fail
    refine (name_c _ c.super l2).mono ?_
    rintro e w1 ⟨he, rfl⟩
    rw [HS.out] at he
    subst he
    go_wp2_with fail
    refine (face_c _ _ _ _ _ _ _).mono ?_
    rintro e w1 ⟨rfl, d1⟩
    have D1 := Lib.hid d1
    have B1 := Lib.hid ((d1.block w.heap.size (by simp) (fun h => h)).trans (heap_alloc_new w (.cells #[.int .i64 0, strV c.name, strV c.super, .slice a1 c.faces.length c1, .slice a2 c.fields.length c2, mv] 37)))
    clear d1
    have b2 := blk_cell B1.out (j := 2) rfl
    have b0 := blk_cell B1.out (j := 0) rfl
    have b1 := blk_cell B1.out (j := 1) rfl
    have b5 := blk_cell B1.out (j := 5) rfl
    have b4 := blk_cell B1.out (j := 4) rfl
    have b3 := blk_cell B1.out (j := 3) rfl
    go_wp2_with fail
    refine (face_c _ _ _ _ _ _ _).mono ?_
    rintro e w2 ⟨rfl, d2⟩
    have D2 := Lib.hid (D1.out.trans d2 (fun _ _ h => h))
    have B2 := Lib.hid ((d2.block w.heap.size (heap_lt B1.out) (fun h => h)).trans B1.out)
    clear d2 b0 b1 b2 b3 b4 b5
    have b3 := blk_cell B2.out (j := 3) rfl
    have b4 := blk_cell B2.out (j := 4) rfl
    go_wp2
    clear b3 b4
    have C2 := Lib.hid (((Chg.refl No w).alloc (.cells #[.int .i64 0, strV c.name, strV c.super, .slice a1 c.faces.length c1, .slice a2 c.fields.length c2, mv] 37)).trans D2.out (fun _ _ h => h))
    go_loopw [65] (fun i wr => ∃ k : Nat, k ≤ c.faces.length ∧ i = .int .i64 k ∧ RowKit.Hid (HdI w #[.int .i64 0, strV c.name, strV c.super, .slice a1 c.faces.length c1, .slice a2 c.fields.length c2, mv] c k wr)) (fun i _ => c.faces.length - (intOf i).toNat)
    case atStart => exact ⟨0, Nat.zero_le _, rfl, Lib.hid ⟨C2.out, B2.out, fun j hj => by omega⟩⟩
    case round =>
      obtain ⟨k, hk, rfl, hI⟩ := hrel
      by_cases hlt : k < c.faces.length
      · obtain ⟨b, o, ds, rfl, hcl, hR, hbl, hsb, hcell⟩ := SQ.cells (HF.out.1.new goodStr hI.out.chg) k hlt
        have HT := Lib.hid ((HF.out.1.new goodStr hI.out.chg).take k hk)
        obtain rfl := hR
        have g0 := hcell 0 _ rfl
        rw [Nat.mul_one, Nat.add_zero] at g0
        have b3 := blk_cell hI.out.box (j := 3) rfl
        clear hcell hcl
        have hsl : c.faces[k].length ≤ 9223372036854775807 := by have := HF.out.2 c.faces[k] (List.getElem_mem hlt); unfold maxLen at this; omega
        go_wp2_with fail
        refine (name_c _ c.faces[k] hsl).mono ?_
        rintro e w3 ⟨he, rfl⟩
        cases hnk : nameB c.faces[k] with
        | false =>
          have hEk := Lib.hid (faceE_name hlt hnk)
          rw [hnk] at he
          subst he
          clear hnk
          go_wp2
          go_ret
          have hfs := firstN_some (f := faceE c) hlt (by rw [hEk.out]; decide) hI.out.ok
          rw [hE.out, hfs]
          exact BdPost.bad hI.out.chg (by show faceE c k ≠ 0; rw [hEk.out]; decide) _ (by simp) _ _ _ _ rfl rfl rfl hEk.out.symm
        | true =>
          have hEk := Lib.hid (faceE_twice hlt hnk)
          rw [hnk] at he
          subst he
          clear hnk
          have hkc : ¬ ((c1 : Int) < (k : Int)) := by omega
          go_wp2_with fail
          refine (contains_str S _ _ (c.faces.take k) HT.out (by rw [List.length_take]; omega) c.faces[k]).mono ?_
          rintro e w4 ⟨he, d⟩
          have I4 : RowKit.Hid (HdI w _ c k w4) := Lib.hid ⟨hI.out.chg.trans d (fun _ _ h => h), (d.block _ (heap_lt hI.out.box) (fun h => h)).trans hI.out.box, hI.out.ok⟩
          clear d
          cases hany : (c.faces.take k).any fun x => x == c.faces[k] with
          | true =>
            rw [hany] at he hEk
            subst he
            have HA := Lib.hid hEk; clear hany
            go_wp2
            go_ret
            have hz : faceE c k = 20 := by rw [hEk.out]; rfl
            have hfs := firstN_some (f := faceE c) hlt (by rw [hz]; decide) I4.out.ok
            rw [hE.out, hfs]
            exact BdPost.bad I4.out.chg (by show faceE c k ≠ 0; rw [hz]; decide) _ (by simp) _ _ _ _ rfl rfl rfl hz.symm
          | false =>
            rw [hany] at he hEk
            subst he
            clear hany
            have hz : faceE c k = 0 := by rw [hEk.out]; rfl
            have HZ := Lib.hid hz
            clear hz g0 b3
            go_wp2
            go_roundw
            case rel => exact ⟨k + 1, by omega, by go_num, Lib.hid ⟨I4.out.chg, I4.out.box, fun j hj => by
              by_cases e : j = k
              · subst e; exact HZ.out
              · exact I4.out.ok j (by omega)⟩⟩
            case measure => simp [intOf]; omega
      · go_wp2
        go_ret
        have hke : k = c.faces.length := by omega
        rw [hE.out, firstN_none (fun j hj => hI.out.ok j (by omega))]
        exact BdPost.ok hI.out.chg rfl
  · by_cases hso : c.super = [79, 98, 106, 101, 99, 116]
    · by_cases hfd : 0 < c.fields.length
      · have hE := Lib.hid (headE_face HFl.out HNS.out HM.out (fun h => h.2 hso) ⟨HFE.out.symm, hfd⟩)
        have hsb : (c.super == [79, 98, 106, 101, 99, 116]) = true := by rw [hso]; rfl
        have hfi : (c.fields.length : Int) > 0 := by omega
        clear hso
        go_enter Tryz.func98, Tryz.ntmps98
        go_wp2_with fail
        refine (name_c _ c.name l1).mono ?_
        rintro e w1 ⟨he, rfl⟩
        rw [HN.out] at he
        subst he
        go_wp2_with fail
        refine (name_c _ c.super l2).mono ?_
        rintro e w1 ⟨he, rfl⟩
        rw [HS.out] at he
        subst he
        go_wp2_with fail
        refine (face_c _ _ _ _ _ _ _).mono ?_
        rintro e w1 ⟨rfl, d1⟩
        have D1 := Lib.hid d1
        have B1 := Lib.hid ((d1.block w.heap.size (by simp) (fun h => h)).trans (heap_alloc_new w (.cells #[.int .i64 1, strV c.name, strV c.super, .slice a1 c.faces.length c1, .slice a2 c.fields.length c2, mv] 37)))
        clear d1
        have b2 := blk_cell B1.out (j := 2) rfl
        have b0 := blk_cell B1.out (j := 0) rfl
        have b1 := blk_cell B1.out (j := 1) rfl
        have b5 := blk_cell B1.out (j := 5) rfl
        have b4 := blk_cell B1.out (j := 4) rfl
        have b3 := blk_cell B1.out (j := 3) rfl
        go_wp2_with fail
        refine (face_c _ _ _ _ _ _ _).mono ?_
        rintro e w2 ⟨rfl, d2⟩
        have D2 := Lib.hid (D1.out.trans d2 (fun _ _ h => h))
        have B2 := Lib.hid ((d2.block w.heap.size (heap_lt B1.out) (fun h => h)).trans B1.out)
        clear d2 b0 b1 b2 b3 b4 b5
        have b3 := blk_cell B2.out (j := 3) rfl
        have b4 := blk_cell B2.out (j := 4) rfl
        go_wp2
        go_ret
        rw [hE.out]
        exact BdPost.bad (((Chg.refl No w).alloc _).trans D2.out (fun _ _ h => h)) (by decide) _ (by simp) _ _ _ _ rfl rfl rfl rfl
      · have hE := Lib.hid (headE_rest HFl.out HNS.out HM.out (fun h => h.2 hso) (fun h => hfd h.2))
        have hsb : (c.super == [79, 98, 106, 101, 99, 116]) = true := by rw [hso]; rfl
        have hfi : ¬ (c.fields.length : Int) > 0 := by omega
        clear hso
        go_enter Tryz.func98, Tryz.ntmps98
        go_wp2_with fail
        refine (name_c _ c.name l1).mono ?_
        rintro e w1 ⟨he, rfl⟩
        rw [HN.out] at he
        subst he
        go_wp2_with fail
        refine (name_c _ c.super l2).mono ?_
        rintro e w1 ⟨he, rfl⟩
        rw [HS.out] at he
        subst he
        go_wp2_with fail
        refine (face_c _ _ _ _ _ _ _).mono ?_
        rintro e w1 ⟨rfl, d1⟩
        have D1 := Lib.hid d1
        have B1 := Lib.hid ((d1.block w.heap.size (by simp) (fun h => h)).trans (heap_alloc_new w (.cells #[.int .i64 1, strV c.name, strV c.super, .slice a1 c.faces.length c1, .slice a2 c.fields.length c2, mv] 37)))
        clear d1
        have b2 := blk_cell B1.out (j := 2) rfl
        have b0 := blk_cell B1.out (j := 0) rfl
        have b1 := blk_cell B1.out (j := 1) rfl
        have b5 := blk_cell B1.out (j := 5) rfl
        have b4 := blk_cell B1.out (j := 4) rfl
        have b3 := blk_cell B1.out (j := 3) rfl
        go_wp2_with fail
        refine (face_c _ _ _ _ _ _ _).mono ?_
        rintro e w2 ⟨rfl, d2⟩
        have D2 := Lib.hid (D1.out.trans d2 (fun _ _ h => h))
        have B2 := Lib.hid ((d2.block w.heap.size (heap_lt B1.out) (fun h => h)).trans B1.out)
        clear d2 b0 b1 b2 b3 b4 b5
        have b3 := blk_cell B2.out (j := 3) rfl
        have b4 := blk_cell B2.out (j := 4) rfl
        go_wp2
        clear b3 b4
        have C2 := Lib.hid (((Chg.refl No w).alloc (.cells #[.int .i64 1, strV c.name, strV c.super, .slice a1 c.faces.length c1, .slice a2 c.fields.length c2, mv] 37)).trans D2.out (fun _ _ h => h))
        go_loopw [65] (fun i wr => ∃ k : Nat, k ≤ c.faces.length ∧ i = .int .i64 k ∧ RowKit.Hid (HdI w #[.int .i64 1, strV c.name, strV c.super, .slice a1 c.faces.length c1, .slice a2 c.fields.length c2, mv] c k wr)) (fun i _ => c.faces.length - (intOf i).toNat)
        case atStart => exact ⟨0, Nat.zero_le _, rfl, Lib.hid ⟨C2.out, B2.out, fun j hj => by omega⟩⟩
        case round =>
          obtain ⟨k, hk, rfl, hI⟩ := hrel
          by_cases hlt : k < c.faces.length
          · obtain ⟨b, o, ds, rfl, hcl, hR, hbl, hsb, hcell⟩ := SQ.cells (HF.out.1.new goodStr hI.out.chg) k hlt
            have HT := Lib.hid ((HF.out.1.new goodStr hI.out.chg).take k hk)
            obtain rfl := hR
            have g0 := hcell 0 _ rfl
            rw [Nat.mul_one, Nat.add_zero] at g0
            have b3 := blk_cell hI.out.box (j := 3) rfl
            clear hcell hcl
            have hsl : c.faces[k].length ≤ 9223372036854775807 := by have := HF.out.2 c.faces[k] (List.getElem_mem hlt); unfold maxLen at this; omega
            go_wp2_with fail
            refine (name_c _ c.faces[k] hsl).mono ?_
            rintro e w3 ⟨he, rfl⟩
            cases hnk : nameB c.faces[k] with
            | false =>
              have hEk := Lib.hid (faceE_name hlt hnk)
              rw [hnk] at he
              subst he
              clear hnk
              go_wp2
              go_ret
              have hfs := firstN_some (f := faceE c) hlt (by rw [hEk.out]; decide) hI.out.ok
              rw [hE.out, hfs]
              exact BdPost.bad hI.out.chg (by show faceE c k ≠ 0; rw [hEk.out]; decide) _ (by simp) _ _ _ _ rfl rfl rfl hEk.out.symm
            | true =>
              have hEk := Lib.hid (faceE_twice hlt hnk)
              rw [hnk] at he
              subst he
              clear hnk
              have hkc : ¬ ((c1 : Int) < (k : Int)) := by omega
              go_wp2_with fail
              refine (contains_str S _ _ (c.faces.take k) HT.out (by rw [List.length_take]; omega) c.faces[k]).mono ?_
              rintro e w4 ⟨he, d⟩
              have I4 : RowKit.Hid (HdI w _ c k w4) := Lib.hid ⟨hI.out.chg.trans d (fun _ _ h => h), (d.block _ (heap_lt hI.out.box) (fun h => h)).trans hI.out.box, hI.out.ok⟩
              clear d
              cases hany : (c.faces.take k).any fun x => x == c.faces[k] with
              | true =>
                rw [hany] at he hEk
                subst he
                have HA := Lib.hid hEk; clear hany
                go_wp2
                go_ret
                have hz : faceE c k = 20 := by rw [hEk.out]; rfl
                have hfs := firstN_some (f := faceE c) hlt (by rw [hz]; decide) I4.out.ok
                rw [hE.out, hfs]
                exact BdPost.bad I4.out.chg (by show faceE c k ≠ 0; rw [hz]; decide) _ (by simp) _ _ _ _ rfl rfl rfl hz.symm
              | false =>
                rw [hany] at he hEk
                subst he
                clear hany
                have hz : faceE c k = 0 := by rw [hEk.out]; rfl
                have HZ := Lib.hid hz
                clear hz g0 b3
                go_wp2
                go_roundw
                case rel => exact ⟨k + 1, by omega, by go_num, Lib.hid ⟨I4.out.chg, I4.out.box, fun j hj => by
                  by_cases e : j = k
                  · subst e; exact HZ.out
                  · exact I4.out.ok j (by omega)⟩⟩
                case measure => simp [intOf]; omega
          · go_wp2
            go_ret
            have hke : k = c.faces.length := by omega
            rw [hE.out, firstN_none (fun j hj => hI.out.ok j (by omega))]
            exact BdPost.ok hI.out.chg rfl
    · have hE := Lib.hid (headE_super HFl.out HNS.out HM.out ⟨HFE.out.symm, hso⟩)
      have hsb : (c.super == [79, 98, 106, 101, 99, 116]) = false := by simpa using hso
      clear hso
      go_enter Tryz.func98, Tryz.ntmps98
      go_wp2_with fail
      refine (name_c _ c.name l1).mono ?_
      rintro e w1 ⟨he, rfl⟩
      rw [HN.out] at he
      subst he
      go_wp2_with fail
      refine (name_c _ c.super l2).mono ?_
      rintro e w1 ⟨he, rfl⟩
      rw [HS.out] at he
      subst he
      go_wp2_with fail
      refine (face_c _ _ _ _ _ _ _).mono ?_
      rintro e w1 ⟨rfl, d1⟩
      have D1 := Lib.hid d1
      have B1 := Lib.hid ((d1.block w.heap.size (by simp) (fun h => h)).trans (heap_alloc_new w (.cells #[.int .i64 1, strV c.name, strV c.super, .slice a1 c.faces.length c1, .slice a2 c.fields.length c2, mv] 37)))
      clear d1
      have b2 := blk_cell B1.out (j := 2) rfl
      have b0 := blk_cell B1.out (j := 0) rfl
      have b1 := blk_cell B1.out (j := 1) rfl
      have b5 := blk_cell B1.out (j := 5) rfl
      have b4 := blk_cell B1.out (j := 4) rfl
      have b3 := blk_cell B1.out (j := 3) rfl
      go_wp2
      go_ret
      rw [hE.out]
      exact BdPost.bad (((Chg.refl No w).alloc _).trans D1.out (fun _ _ h => h)) (by decide) _ (by simp) _ _ _ _ rfl rfl rfl rfl
  · have hE := Lib.hid (headE_rest HFl.out HNS.out HM.out (fun h => absurd (HFE.out.trans h.1) (by decide)) (fun h => absurd (HFE.out.trans h.1) (by decide)))
    go_enter Tryz.func98, Tryz.ntmps98
    go_wp2_with fail
    refine (name_c _ c.name l1).mono ?_
    rintro e w1 ⟨he, rfl⟩
    rw [HN.out] at he
    subst he
    go_wp2_with fail
    refine (name_c _ c.super l2).mono ?_
    rintro e w1 ⟨he, rfl⟩
    rw [HS.out] at he
    subst he
    go_wp2_with fail
    refine (face_c _ _ _ _ _ _ _).mono ?_
    rintro e w1 ⟨rfl, d1⟩
    have D1 := Lib.hid d1
    have B1 := Lib.hid ((d1.block w.heap.size (by simp) (fun h => h)).trans (heap_alloc_new w (.cells #[.int .i64 2, strV c.name, strV c.super, .slice a1 c.faces.length c1, .slice a2 c.fields.length c2, mv] 37)))
    clear d1
    have b2 := blk_cell B1.out (j := 2) rfl
    have b0 := blk_cell B1.out (j := 0) rfl
    have b1 := blk_cell B1.out (j := 1) rfl
    have b5 := blk_cell B1.out (j := 5) rfl
    have b4 := blk_cell B1.out (j := 4) rfl
    have b3 := blk_cell B1.out (j := 3) rfl
    go_wp2_with fail
    refine (face_c _ _ _ _ _ _ _).mono ?_
    rintro e w2 ⟨rfl, d2⟩
    have D2 := Lib.hid (D1.out.trans d2 (fun _ _ h => h))
    have B2 := Lib.hid ((d2.block w.heap.size (heap_lt B1.out) (fun h => h)).trans B1.out)
    clear d2 b0 b1 b2 b3 b4 b5
    have b3 := blk_cell B2.out (j := 3) rfl
    have b4 := blk_cell B2.out (j := 4) rfl
    go_wp2
    clear b3 b4
    have C2 := Lib.hid (((Chg.refl No w).alloc (.cells #[.int .i64 2, strV c.name, strV c.super, .slice a1 c.faces.length c1, .slice a2 c.fields.length c2, mv] 37)).trans D2.out (fun _ _ h => h))
    go_loopw [65] (fun i wr => ∃ k : Nat, k ≤ c.faces.length ∧ i = .int .i64 k ∧ RowKit.Hid (HdI w #[.int .i64 2, strV c.name, strV c.super, .slice a1 c.faces.length c1, .slice a2 c.fields.length c2, mv] c k wr)) (fun i _ => c.faces.length - (intOf i).toNat)
    case atStart => exact ⟨0, Nat.zero_le _, rfl, Lib.hid ⟨C2.out, B2.out, fun j hj => by omega⟩⟩
    case round =>
      obtain ⟨k, hk, rfl, hI⟩ := hrel
      by_cases hlt : k < c.faces.length
      · obtain ⟨b, o, ds, rfl, hcl, hR, hbl, hsb, hcell⟩ := SQ.cells (HF.out.1.new goodStr hI.out.chg) k hlt
        have HT := Lib.hid ((HF.out.1.new goodStr hI.out.chg).take k hk)
        obtain rfl := hR
        have g0 := hcell 0 _ rfl
        rw [Nat.mul_one, Nat.add_zero] at g0
        have b3 := blk_cell hI.out.box (j := 3) rfl
        clear hcell hcl
        have hsl : c.faces[k].length ≤ 9223372036854775807 := by have := HF.out.2 c.faces[k] (List.getElem_mem hlt); unfold maxLen at this; omega
        go_wp2_with fail
        refine (name_c _ c.faces[k] hsl).mono ?_
        rintro e w3 ⟨he, rfl⟩
        cases hnk : nameB c.faces[k] with
        | false =>
          have hEk := Lib.hid (faceE_name hlt hnk)
          rw [hnk] at he
          subst he
          clear hnk
          go_wp2
          go_ret
          have hfs := firstN_some (f := faceE c) hlt (by rw [hEk.out]; decide) hI.out.ok
          rw [hE.out, hfs]
          exact BdPost.bad hI.out.chg (by show faceE c k ≠ 0; rw [hEk.out]; decide) _ (by simp) _ _ _ _ rfl rfl rfl hEk.out.symm
        | true =>
          have hEk := Lib.hid (faceE_twice hlt hnk)
          rw [hnk] at he
          subst he
          clear hnk
          have hkc : ¬ ((c1 : Int) < (k : Int)) := by omega
          go_wp2_with fail
          refine (contains_str S _ _ (c.faces.take k) HT.out (by rw [List.length_take]; omega) c.faces[k]).mono ?_
          rintro e w4 ⟨he, d⟩
          have I4 : RowKit.Hid (HdI w _ c k w4) := Lib.hid ⟨hI.out.chg.trans d (fun _ _ h => h), (d.block _ (heap_lt hI.out.box) (fun h => h)).trans hI.out.box, hI.out.ok⟩
          clear d
          cases hany : (c.faces.take k).any fun x => x == c.faces[k] with
          | true =>
            rw [hany] at he hEk
            subst he
            have HA := Lib.hid hEk; clear hany
            go_wp2
            go_ret
            have hz : faceE c k = 20 := by rw [hEk.out]; rfl
            have hfs := firstN_some (f := faceE c) hlt (by rw [hz]; decide) I4.out.ok
            rw [hE.out, hfs]
            exact BdPost.bad I4.out.chg (by show faceE c k ≠ 0; rw [hz]; decide) _ (by simp) _ _ _ _ rfl rfl rfl hz.symm
          | false =>
            rw [hany] at he hEk
            subst he
            clear hany
            have hz : faceE c k = 0 := by rw [hEk.out]; rfl
            have HZ := Lib.hid hz
            clear hz g0 b3
            go_wp2
            go_roundw
            case rel => exact ⟨k + 1, by omega, by go_num, Lib.hid ⟨I4.out.chg, I4.out.box, fun j hj => by
              by_cases e : j = k
              · subst e; exact HZ.out
              · exact I4.out.ok j (by omega)⟩⟩
            case measure => simp [intOf]; omega
      · go_wp2
        go_ret
        have hke : k = c.faces.length := by omega
        rw [hE.out, firstN_none (fun j hj => hI.out.ok j (by omega))]
        exact BdPost.ok hI.out.chg rfl
end

end Go.Proofs.YtgmmclcpfmnoiaaGreatDoor
