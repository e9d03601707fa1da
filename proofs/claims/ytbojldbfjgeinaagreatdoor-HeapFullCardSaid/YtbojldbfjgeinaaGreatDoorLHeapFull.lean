/-
  HeapFull, walked.
-/
import Derived.Test.YtbojldbfjgeinaaGreatDoorHeapB
import Derived.Test.YtbojldbfjgeinaaGreatDoorOpen1
namespace Go.Proofs.YtbojldbfjgeinaaGreatDoor
open Go.RowKit
set_option maxRecDepth 100000 in
set_option maxHeartbeats 3200000 in
theorem heapFull_walk (W : World) (m0 : Int) (v : Value) (ns : List Int) (hm : -9223372036854775808 ≤ m0 ∧ m0 ≤ 9223372036854775807) (hn : SL iv W v ns) (hwf : ∀ n ∈ ns, -9223372036854775808 ≤ n ∧ n ≤ 9223372036854775807) (hlen : ns.length ≤ 9223372036854775807) :
    Calls Tryz.prog 5 #[.int .i64 m0, v] W fun e w' => e = .returned (.bool true) ∧ Chg No W w' := by
  obtain ⟨most, hmost⟩ : ∃ most, most = m0.tmod 5000 := ⟨_, rfl⟩
  have hb := tmod_lt m0 5000 (by omega)
  rw [show ((5000 : Nat) : Int) = 5000 from rfl, ← hmost] at hb
  go_enter Tryz.func5, Tryz.ntmps5
  go_wp2_with fail
  refine (known13 W).mono ?_
  rintro e w1 ⟨rfl, c1⟩
  have C1 := Lib.hid c1; clear c1
  go_wp2_with fail
  refine (built_nil w1).mono ?_
  rintro e w2 ⟨S, O, b, mb, nv, es, S2, O2, b2, cv, pv, rfl, hB, -⟩
  have B := Lib.hid hB; clear hB
  go_wp2_with fail
  rw [← hmost]
  have HM := Lib.hid hmost; clear hmost
  refine (heapNew_c w2 b most).mono ?_
  rintro e w3 ⟨rfl, h3, c3⟩
  have H3 := Lib.hid (start13 B.out h3 c3)
  have C3 := Lib.hid (C1.out.then H3.out.chg)
  clear h3 c3
  obtain ⟨a1, cap1, hv1, hcap1, hnil1, hcells1⟩ := hn
  have HN := Lib.hid (show SL iv W v ns from ⟨a1, cap1, hv1, hcap1, hnil1, hcells1⟩)
  have HWF := Lib.hid hwf
  subst hv1
  clear hnil1 hcells1 hwf
  go_wp2_with fail
  go_loopw [11, 9, 10] (fun i gv cv wr => ∃ (k : Nat) (given : Int) (O3 : Blocks) (tv : Value) (ks : List Nat), k ≤ ns.length ∧ k ≤ 60 ∧ i = .int .i64 k ∧ gv = .int .i64 given ∧ cv = .int .i64 ks.length ∧ ks.length ≤ k ∧ 0 ≤ given ∧ given ≤ 500 * (k : Int) ∧ (given ≤ most ∨ ks.length = 0) ∧ RowKit.Hid (HS13 w1 wr S O O3 b mb nv es (w2.heap.size + 1) w2.heap.size most given tv ks)) (fun i _ _ _ => 60 - (intOf i).toNat)
  case atStart => exact ⟨0, 0, _, _, [], by omega, by omega, rfl, rfl, rfl, by simp, by omega, by omega, .inr rfl, H3⟩
  case round =>
    obtain ⟨k, given, O3, tv, ks, hk, hk2, rfl, rfl, rfl, hkl, g0, g1, hor, HI⟩ := hrel
    by_cases hlt : k < ns.length ∧ k < 60
    · obtain ⟨hlt, hlt2⟩ := hlt
      obtain ⟨bb, oo, ha, hcell0⟩ := HN.out.cellAt (C1.out.then HI.out.chg) k hlt
      subst ha
      have hrg := HWF.out ns[k] (List.getElem_mem hlt)
      have hcell : wr.cell? ⟨bb, oo + k, none⟩ = some (.int .i64 ns[k]) := hcell0
      clear hcell0
      generalize ns[k] = n0 at *
      have hq := tmod_lt n0 60 (by omega)
      rw [show ((60 : Nat) : Int) = 60 from rfl] at hq
      obtain ⟨n, hnn⟩ : ∃ n : Nat, n = (n0.tmod 60).natAbs := ⟨_, rfl⟩
      by_cases hneg : n0.tmod 60 < 0
      all_goals
        first
          | (have hq2 : n0.tmod 60 = -(n : Int) := (by omega)
             have hn60 : n ≤ 59 := (by omega)
             have hpos : 0 < n := (by omega)
             have hw0 : IntKind.i64.wrap (0 - -(n : Int)) = (n : Int) := (by rw [IntWalk.i64_in _ (by omega)]; omega)
             have HQ := Lib.hid (And.intro hnn hneg); clear hnn hneg hq
             go_wp2_with fail)
          | (have hq2 : n0.tmod 60 = (n : Int) := (by omega)
             have hn60 : n ≤ 59 := (by omega)
             have HQ := Lib.hid (And.intro hnn hneg); clear hnn hneg hq
             go_wp2_with fail)
      all_goals
        refine (array_num HI.out.hw HI.out.hf HI.out.ap n (by omega) (by omega) (by omega) (by omega) (by omega) (by omega)).mono ?_
        rintro e w4 (⟨hroom, rfl, O', tv', k', g, h4, bk, ok, o4, c4⟩ | ⟨hroom, rfl, c4⟩)
      all_goals clear hcell
      all_goals first
        | (have H4 := Lib.hid (HI.out.step h4 o4 c4)
           clear h4 o4 c4 bk ok
           have hd : decide (most - given < 16 + 8 * (n : Int)) = false := (by simp; omega)
           go_wp2_with fail)
        | (have H4 := Lib.hid (HI.out.new c4)
           clear c4
           have hd : decide (most - given < 16 + 8 * (n : Int)) = true := (by simp; omega)
           go_wp2_with fail)
      all_goals go_roundw
      all_goals first
        | (simp [intOf]; omega)
        | exact ⟨k + 1, given, O3, tv, ks, by omega, by omega, by go_num, rfl, rfl, by omega, by omega, by omega, hor, H4⟩
        | exact ⟨k + 1, given + (16 + 8 * n), O', tv', ks ++ [k'], by omega, by omega, by go_num, by congr 1; omega, by rw [List.length_append, List.length_singleton]; rfl, by rw [List.length_append, List.length_singleton]; omega, by omega, by omega, .inl (by omega), H4⟩
    · have C5 := Lib.hid (C1.out.then HI.out.chg)
      have hk3 : k = ns.length ∨ (k = 60 ∧ (60 : Int) < ns.length) := by omega
      rcases hk3 with hk3 | ⟨hk3, hk4⟩
      all_goals
        by_cases hle : given ≤ most
        all_goals
          have hc0 : given ≤ most ∨ ((ks.length : Int) = 0) := (by omega)
          first
            | (have hkn : ¬ k < ns.length := (by omega)
               clear hk3
               go_wp2_with fail)
            | (subst hk3
               go_wp2_with fail)
          refine (bytes_c HI.out.hf).mono ?_
          rintro e w5 ⟨rfl, rfl⟩
          go_wp2_with fail
          refine (count_c HI.out.hf).mono ?_
          rintro e w5 ⟨rfl, rfl⟩
          go_wp2
          go_ret
          exact ⟨ret_true (by first | (simp [hle]; done) | (have hk0 : ks = [] := List.eq_nil_of_length_eq_zero (by omega); simp [hk0]; done)), C5.out⟩
end Go.Proofs.YtbojldbfjgeinaaGreatDoor
