/-
  The walk of the law HierDeep.
-/
import Derived.Test.YtmpmfbnglfgobaaGreatDoorLDeepB
namespace Go.Proofs.YtmpmfbnglfgobaaGreatDoor
open Go.RowKit

set_option maxRecDepth 100000 in
set_option maxHeartbeats 12800000 in
theorem deep_walk (w : World) (a : Int) (c : Bool) (h1 : -9223372036854775808 ≤ a) (h2 : a ≤ 9223372036854775807) :
    Calls Tryz.prog 3 #[.int .i64 a, .bool c] w fun e w' => e = .returned (.bool true) ∧ Chg No w w' := by
  go_enter Tryz.func3, Tryz.ntmps3
  go_wp2_with fail
  refine (knownH w).mono ?_
  rintro e w1 ⟨rfl, d1⟩
  have D1 := Lib.hid d1; clear d1
  go_wp2_with fail
  refine (within_c w1 a h1 h2).mono ?_
  rintro e w1' ⟨n0, hn0, rfl, rfl⟩
  obtain ⟨n, hn⟩ : ∃ n, n = n0 + 1 := ⟨_, rfl⟩
  have hn1 : 1 ≤ n := by omega
  have hn45 : n ≤ 45 := by omega
  go_wp2_with fail
  rw [show (1 + (n0 : Int)) = (n : Int) from by omega]
  clear hn hn0
  go_loopw [6] (fun iv wr => ∃ (k : Nat) (v : Value), k ≤ n ∧ iv = .int .i64 k ∧ RowKit.Hid (DeepI w w1'.heap.size n c k wr v)) (fun iv _ => n - (intOf iv).toNat)
  case atStart => exact ⟨0, zNil, Nat.zero_le _, rfl, Lib.hid ⟨D1.out.alloc _, heap_alloc_new _ _, OQ.nil _ _ _ _, by simp [Value.ownBlock], fun j hj => by simp [Value.ownBlock] at hj⟩⟩
  case round =>
    obtain ⟨k, v, hk, rfl, hI⟩ := hrel
    by_cases hlt : k < n
    · have cx := hI.out.box.cells.2
      have hM : w.heap.size ≤ w1'.heap.size := D1.out.size
      by_cases hk0 : k = 0
      · subst hk0
        cases c
        · have q3 : (convert 28 9 (.slice (some ⟨wr.heap.size, 0, none⟩) 2 2)).run Tryz.prog (wr.alloc (.cells #[.int .u8 65, .int .u8 97] 5)) = .ok (.string ⟨(cn2 0).toArray⟩) (wr.alloc (.cells #[.int .u8 65, .int .u8 97] 5)) := cn_conv wr 0 (by omega) 0 rfl wr.heap.size rfl
          have q4 := fun W => cn_add W 0
          have x3 := Lib.hid (((Chg.refl No wr).alloc (.cells #[.int .u8 65, .int .u8 97] 5)).alloc (.cells #[.int .i64 0, strV (cName 0), strV (objectName), zNil, zNil, zNil] 33))
          have HA := Lib.hid (deep_elem (wr.alloc (.cells #[.int .u8 65, .int .u8 97] 5)) n false 0 (objectName) rfl (wr.heap.size + 1) (by simp))
          have HN := Lib.hid (hI.out.own.new goodCl x3.out)
          obtain ⟨na, nc, hvv⟩ := hI.out.own.form
          rw [List.length_map, List.length_range] at hvv
          subst hvv
          have hft := deep_fit n 0 0 false (by omega)
          go_wp2_with (at_builtin; (refine wpList_appQ (S := No) rfl (.tmp 55) (.tmp 69) 25 25 rfl 33 (.agg #[zInt, zStr, zStr, zNil, zNil, zNil]) 112 Tryz.underlying25 info_cl rfl (by decide) goodCl (.slice na 0 nc) ((List.range 0).map (cClass n false)) rfl HN.out (fun k hk _ => hk.elim) (.slice (some ⟨wr.heap.size + 1, 0, none⟩) 1 1) [cClass n false 0] _ rfl HA.out.1 HA.out.2 hft.1 hft.2 ?_; intro v' w2 g1 g2 g3; obtain ⟨na2, nc2, hf⟩ := g1.form; rw [List.length_append, List.length_map, List.length_range, List.length_cons, List.length_nil] at hf; subst hf; obtain ⟨hy, hst⟩ := hI.out.step hM x3.out g1 g2 g3; have cy := hy.cells.2; have fy := hy.frozen; have HST := Lib.hid hst; clear g1 g2 g3 hy hst))
          refine ⟨⟨1, _, by omega, by rfl, HST⟩, ?_⟩
          simp only [intOf]; omega
        · have q1 := cn_conv wr (n - 1) (by omega) ((n : Int) - 1) (by omega) wr.heap.size rfl
          have q2 := fun W => cn_add W (n - 1)
          have q3 : (convert 28 9 (.slice (some ⟨wr.heap.size + 1, 0, none⟩) 2 2)).run Tryz.prog ((wr.alloc (.cells #[.int .u8 (65 + ((n : Int) - 1) / 26), .int .u8 (97 + ((n : Int) - 1) % 26)] 5)).alloc (.cells #[.int .u8 65, .int .u8 97] 5)) = .ok (.string ⟨(cn2 0).toArray⟩) ((wr.alloc (.cells #[.int .u8 (65 + ((n : Int) - 1) / 26), .int .u8 (97 + ((n : Int) - 1) % 26)] 5)).alloc (.cells #[.int .u8 65, .int .u8 97] 5)) := cn_conv (wr.alloc (.cells #[.int .u8 (65 + ((n : Int) - 1) / 26), .int .u8 (97 + ((n : Int) - 1) % 26)] 5)) 0 (by omega) 0 rfl (wr.heap.size + 1) (by simp)
          have q4 := fun W => cn_add W 0
          have x1 := Lib.hid ((Chg.refl No wr).alloc (.cells #[.int .u8 (65 + ((n : Int) - 1) / 26), .int .u8 (97 + ((n : Int) - 1) % 26)] 5))
          have cx1 := hI.out.box.at x1.out
          have x3 := Lib.hid ((((Chg.refl No wr).alloc (.cells #[.int .u8 (65 + ((n : Int) - 1) / 26), .int .u8 (97 + ((n : Int) - 1) % 26)] 5)).alloc (.cells #[.int .u8 65, .int .u8 97] 5)).alloc (.cells #[.int .i64 0, strV (cName 0), strV (cName (n - 1)), zNil, zNil, zNil] 33))
          have HA := Lib.hid (deep_elem ((wr.alloc (.cells #[.int .u8 (65 + ((n : Int) - 1) / 26), .int .u8 (97 + ((n : Int) - 1) % 26)] 5)).alloc (.cells #[.int .u8 65, .int .u8 97] 5)) n true 0 (cName (n - 1)) rfl (wr.heap.size + 1 + 1) (by simp))
          have HN := Lib.hid (hI.out.own.new goodCl x3.out)
          obtain ⟨na, nc, hvv⟩ := hI.out.own.form
          rw [List.length_map, List.length_range] at hvv
          subst hvv
          have hft := deep_fit n 0 0 true (by omega)
          go_wp2_with (at_builtin; (refine wpList_appQ (S := No) rfl (.tmp 55) (.tmp 69) 25 25 rfl 33 (.agg #[zInt, zStr, zStr, zNil, zNil, zNil]) 112 Tryz.underlying25 info_cl rfl (by decide) goodCl (.slice na 0 nc) ((List.range 0).map (cClass n true)) rfl HN.out (fun k hk _ => hk.elim) (.slice (some ⟨wr.heap.size + 1 + 1, 0, none⟩) 1 1) [cClass n true 0] _ rfl HA.out.1 HA.out.2 hft.1 hft.2 ?_; intro v' w2 g1 g2 g3; obtain ⟨na2, nc2, hf⟩ := g1.form; rw [List.length_append, List.length_map, List.length_range, List.length_cons, List.length_nil] at hf; subst hf; obtain ⟨hy, hst⟩ := hI.out.step hM x3.out g1 g2 g3; have cy := hy.cells.2; have fy := hy.frozen; have HST := Lib.hid hst; clear g1 g2 g3 hy hst))
          refine ⟨⟨1, _, by omega, by rfl, HST⟩, ?_⟩
          simp only [intOf]; omega
      · have hkk : ¬ ((k : Int) = 0) := by omega
        have hb0 : ((k : Int) == 0) = false := by simp; omega
        have hgt : (k : Int) > 0 := by omega
        have q1 := cn_conv wr (k - 1) (by omega) ((k : Int) - 1) (by omega) wr.heap.size rfl
        have q2 := fun W => cn_add W (k - 1)
        have q3 := cn_conv (wr.alloc (.cells #[.int .u8 (65 + ((k : Int) - 1) / 26), .int .u8 (97 + ((k : Int) - 1) % 26)] 5)) k (by omega) (k : Int) rfl (wr.heap.size + 1) (by simp)
        have q4 := fun W => cn_add W k
        have x1 := Lib.hid ((Chg.refl No wr).alloc (.cells #[.int .u8 (65 + ((k : Int) - 1) / 26), .int .u8 (97 + ((k : Int) - 1) % 26)] 5))
        have cx1 := hI.out.box.at x1.out
        have x3 := Lib.hid ((((Chg.refl No wr).alloc (.cells #[.int .u8 (65 + ((k : Int) - 1) / 26), .int .u8 (97 + ((k : Int) - 1) % 26)] 5)).alloc (.cells #[.int .u8 (65 + (k : Int) / 26), .int .u8 (97 + (k : Int) % 26)] 5)).alloc (.cells #[.int .i64 0, strV (cName k), strV (cName (k - 1)), zNil, zNil, zNil] 33))
        have HA := Lib.hid (deep_elem ((wr.alloc (.cells #[.int .u8 (65 + ((k : Int) - 1) / 26), .int .u8 (97 + ((k : Int) - 1) % 26)] 5)).alloc (.cells #[.int .u8 (65 + (k : Int) / 26), .int .u8 (97 + (k : Int) % 26)] 5)) n c k (cName (k - 1)) (by simp [cClass, hk0]) (wr.heap.size + 1 + 1) (by simp))
        have HN := Lib.hid (hI.out.own.new goodCl x3.out)
        obtain ⟨na, nc, hvv⟩ := hI.out.own.form
        rw [List.length_map, List.length_range] at hvv
        subst hvv
        have hft := deep_fit n k k c (by omega)
        go_wp2_with (at_builtin; (refine wpList_appQ (S := No) rfl (.tmp 55) (.tmp 69) 25 25 rfl 33 (.agg #[zInt, zStr, zStr, zNil, zNil, zNil]) 112 Tryz.underlying25 info_cl rfl (by decide) goodCl (.slice na k nc) ((List.range k).map (cClass n c)) rfl HN.out (fun k hk _ => hk.elim) (.slice (some ⟨wr.heap.size + 1 + 1, 0, none⟩) 1 1) [cClass n c k] _ rfl HA.out.1 HA.out.2 hft.1 hft.2 ?_; intro v' w2 g1 g2 g3; obtain ⟨na2, nc2, hf⟩ := g1.form; rw [List.length_append, List.length_map, List.length_range, List.length_cons, List.length_nil] at hf; subst hf; obtain ⟨hy, hst⟩ := hI.out.step hM x3.out g1 g2 g3; have cy := hy.cells.2; have fy := hy.frozen; have HST := Lib.hid hst; clear g1 g2 g3 hy hst))
        refine ⟨⟨k + 1, _, by omega, by push_cast; rfl, HST⟩, ?_⟩
        simp only [intOf]; omega
    · have ek : n = k := by omega
      subst ek
      have hne : (List.range n).map (cClass n c) ≠ [] := by
        intro e
        have := congrArg List.length e
        rw [List.length_map, List.length_range] at this
        simp at this
        omega
      obtain ⟨g, nc, hv⟩ := hI.out.own.form1 hne
      rw [List.length_map, List.length_range] at hv
      obtain ⟨hv, -⟩ := hv
      subst hv
      have hsq : SQ 6 RCl (fun q => q = g) wr (.slice (some ⟨g, 0, none⟩) n nc) ((List.range n).map (cClass n c)) := hI.out.own.sq goodCl (fun k hk => by cases hk; rfl) (fun _ h => h.elim)
      have hgl := hI.out.own.lt g rfl
      have hMl := hI.out.box.lt
      have SQm := Lib.hid (And.intro hsq (And.intro hgl hMl))
      clear hsq
      go_wp2_with fail
      refine (new_c wr).mono ?_
      rintro e w2 ⟨S, O, nv, es, rfl, hN⟩
      have hlen : es.length = 8 := by
        have := congrArg List.length hN.cl
        simp only [cls, List.length_map] at this
        rw [this]; rfl
      have hb2 := (hI.out.box.chg hN.chg (fun h => h)).cells.1
      have hb3 := (hI.out.box.chg hN.chg (fun h => h)).cells.2
      have N := Lib.hid (And.intro hN hlen); clear hN hlen
      go_wp2_with fail
      refine (add_plain S O (fun q => q = g) w2 _ _ nv es N.out.1.hw none 0 (fun _ => rfl) _ (dpTl n c) (SQm.out.1.new goodCl N.out.1.chg) (fun q hq => by have := N.out.1.chg.size; have := SQm.out.2.1; omega) (dp_plain hn45 c) (dp_nodup hn45 c)
        (fun x hx => atf_new N.out.1.cl (fun d hd => dp_new c x hx d (by rwa [firsts_all] at hd))) hne (by simp; omega) (by rw [N.out.2]; decide) (by rw [N.out.2]; decide)).mono ?_
      rintro e w3 ⟨rfl, O2, nv2, es2, hA⟩
      have hcl2 : cls es2 = firsts ++ dpTl n c := by rw [hA.cl, N.out.1.cl, firsts_all]
      have hpool : ∀ x ∈ es2, x.pool = [] := fun x hx => (hA.bare x hx).elim (fun h => (N.out.1.bare x h).1) (fun h => h.1)
      have hP := dp_world hn45 hn1 c hcl2 hpool
      have d3 : Chg No wr w3 := N.out.1.chg.trans hA.chg (fun q hq h => absurd hq (Nat.not_lt.2 (N.out.1.newO q h)))
      have hb4 := (hI.out.box.chg d3 (fun h => h)).cells.2
      have hO2 : ∀ q, O2 q → wr.heap.size ≤ q := fun q hq => by
        by_cases hlt : q < w2.heap.size
        · exact N.out.1.newO q (hA.oldO q hlt hq)
        · have := N.out.1.chg.size; omega
      have A := Lib.hid (And.intro hA (And.intro hcl2 (And.intro hP (And.intro d3 hO2))))
      clear hA hcl2 hpool hP d3 hO2 hb2 hb3
      go_wp2_with fail
      refine (link_plain A.out.1.hw A.out.2.2.1).mono ?_
      rintro e w4 hL
      cases c with
      | true =>
        rcases hL with ⟨i, j, x, g1, g2, rfl, g4⟩ | ⟨g1, -⟩
        · obtain ⟨rfl, rfl⟩ := dp_circle_at hn45 hn1 A.out.2.1 g1
          rw [(dp_at A.out.2.1 g2).2, show (cClass n true 0).name = [67, 65, 97] from rfl, show ruleErrs.getD 2 0 = 32 from rfl]
          have HL := Lib.hid (linked_c (A.out.1.hw.new g4))
          have G4 := Lib.hid g4; clear g1 g2 g4
          go_wp2_with fail
          refine HL.out.mono ?_
          rintro e w5 ⟨rfl, rfl⟩
          go_wp2
          go_ret
          exact ⟨rfl, (hI.out.chg.trans A.out.2.2.2.1 (fun _ _ h => h)).trans G4.out (fun _ _ h => h)⟩
        · exfalso
          obtain ⟨x, g2, -, g3⟩ := dp_circle hn45 hn1 A.out.2.1
          rw [g1 2 (by omega) x (List.mem_of_getElem? g2)] at g3
          cases g3
      | false =>
        rcases hL with ⟨i, j, x, g1, g2, rfl, g4⟩ | ⟨g1, rfl, g4, S', es', hW, hch⟩
        · obtain ⟨rfl, rfl⟩ := dp_long hn45 A.out.2.1 g1
          have hj := (dp_at A.out.2.1 g2).1
          have hgt : (n : Int) + 1 > 32 := by omega
          have c4 := (hI.out.box.chg (A.out.2.2.2.1.trans g4 (fun _ _ h => h)) (fun h => h)).cells.2
          have n4 := deep_name (SQm.out.1.new goodCl (A.out.2.2.2.1.trans g4 (fun _ _ h => h))) hj
          rw [show 31 * 6 + 1 = 187 from rfl] at n4
          rw [(dp_at A.out.2.1 g2).2, show (cClass n false 31).name = cName 31 from rfl, show ruleErrs.getD 3 0 = 5 from rfl]
          have HL := Lib.hid (linked_c (A.out.1.hw.new g4))
          have G4 := Lib.hid g4; clear g1 g2 g4
          have hj1 : (31 : Int) < n := by omega
          go_wp2_with fail
          refine HL.out.mono ?_
          rintro e w5 ⟨rfl, rfl⟩
          go_wp2
          go_ret
          exact ⟨rfl, (hI.out.chg.trans A.out.2.2.2.1 (fun _ _ h => h)).trans G4.out (fun _ _ h => h)⟩
        · have h31 := dp_ok hn45 A.out.2.1 (g1 3 (by omega))
          have hgt : ¬ ((n : Int) + 1 > 32) := by omega
          have d4 : Chg No wr w4 := A.out.2.2.2.1.trans g4 (fun q hq h => absurd hq (Nat.not_lt.2 (A.out.2.2.2.2 q h)))
          have c4 := (hI.out.box.chg d4 (fun h => h)).cells.2
          have n4 := deep_name (SQm.out.1.new goodCl d4) (show n - 1 < n by omega)
          obtain ⟨x, hx, hxc⟩ := dp_there A.out.2.1 (show n - 1 < n by omega)
          obtain ⟨y, hy, hyc, hyl⟩ := hch x (List.mem_of_mem_drop (List.mem_of_getElem? hx))
          rw [hxc, A.out.2.1, show (cClass n false (n - 1)).name = cName (n - 1) from rfl] at hyl
          have hyn : y.cl.name = cName (n - 1) := by rw [hyc, hxc]; rfl
          have hlen := dp_chOf hn45 (show n - 1 < n by omega)
          rw [← hyl, show n - 1 + 2 = n + 1 from by omega] at hlen
          have HL := Lib.hid (linked_c hW)
          have HC := Lib.hid (chainE_c hW y hy (by omega))
          rw [hyn] at HC
          have G4 := Lib.hid d4; clear g1 g4 d4 hch hx hy hyl hyn hxc hyc
          have HN := Lib.hid hlen; clear hlen
          go_wp2_with fail
          refine HL.out.mono ?_
          rintro e w5 ⟨rfl, rfl⟩
          go_wp2_with fail
          refine HC.out.mono ?_
          rintro e w6 ⟨v', rfl, ho, d6, -⟩
          obtain ⟨va, vc, hv'⟩ := ho.form
          rw [HN.out] at hv'
          subst hv'
          have D6 := Lib.hid d6; clear ho d6
          go_wp2
          go_ret
          exact ⟨rfl, (hI.out.chg.trans G4.out (fun _ _ h => h)).trans D6.out (fun _ _ h => h)⟩

end Go.Proofs.YtmpmfbnglfgobaaGreatDoor
