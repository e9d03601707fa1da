/-
  Package module's Check, walked at an empty pool and classes without interfaces, fields, methods.
-/
import Derived.Test.YtbojldbfjgeinaaGreatDoorPlain1
namespace Go.Proofs.YtbojldbfjgeinaaGreatDoor
open Go.RowKit

theorem SQ.take {α : Type} {n : Nat} {R : Reading α} {S : Blocks} {w : World} {a : Option Addr} {len cap : Nat} {xs : List α} (h : SQ n R S w (.slice a len cap) xs) (k : Nat) (hk : k ≤ xs.length) : SQ n R S w (.slice a k cap) (xs.take k) := by
  obtain ⟨a', cap', he, h1, h2, h3⟩ := h
  cases he
  refine ⟨a, cap, by rw [List.length_take, Nat.min_eq_left hk], by rw [List.length_take]; omega, h2, fun p hp hx => ?_⟩
  have hne : xs ≠ [] := fun e => hx (by rw [e]; simp)
  obtain ⟨h4, h5, h6, h7⟩ := h3 p hp hne
  refine ⟨h4, h5, h6, fun i x hi => ?_⟩
  rw [List.getElem?_take] at hi
  split at hi
  · exact h7 i x hi
  · cases hi

theorem twice_c (w : World) (n m : Bs) (x s f g h : Value) (k : Nat) (hk : w.cell? ⟨k, 1, none⟩ = some (strV m)) (hlt : k < w.heap.size) :
    Calls Tryz.prog 160 #[.agg #[x, strV n, s, f, g, h], .pointer (some ⟨k, 0, none⟩)] w fun e w' => e = .returned (.bool (n == m)) ∧ Chg No w w' := by
  have hk' : (w.alloc (.cells #[x, strV n, s, f, g, h] 40)).cell? ⟨k, 1, none⟩ = some (strV m) := by
    rw [World.cell?_alloc_past _ _ _ hlt]; exact hk
  go_enter Tryz.func160, Tryz.ntmps160
  go_wp2
  go_ret
  exact ⟨rfl, (Chg.refl _ _).alloc _⟩

set_option maxRecDepth 100000 in
set_option maxHeartbeats 3200000 in
theorem wrong_plain (S : Blocks) (w : World) (pa : Option Addr) (pc : Nat) (cv : Value) (cs : List Cl) (h : SQ 6 RCl S w cv cs) (hp : ∀ c ∈ cs, PlainCl c) (hn : (cs.map (·.name)).Nodup) (hl : cs.length ≤ 64) :
    Calls Tryz.prog 128 #[.agg #[.slice pa 0 pc, cv]] w fun e w' => e = .returned (.pointer none) ∧ Chg No w w' := by
  obtain ⟨a, cap, hv, hcap, hnil⟩ := h.form
  have H := Lib.hid (And.intro h (And.intro hp hn)); clear h hp hn
  subst hv
  go_enter Tryz.func128, Tryz.ntmps128
  go_wp2_with fail
  refine (pool_empty _ _ _).mono ?_
  rintro e w1 ⟨rfl, rfl⟩
  go_wp2
  go_loopw [31] (fun i wr => ∃ k : Nat, k ≤ cs.length ∧ i = .int .i64 k ∧ Chg No w wr ∧ wr.cell? ⟨w.heap.size, 0, none⟩ = some (.slice pa 0 pc) ∧ wr.cell? ⟨w.heap.size, 1, none⟩ = some (.slice a cs.length cap) ∧ w.heap.size < wr.heap.size) (fun i _ => cs.length - (intOf i).toNat)
  case atStart => exact ⟨0, Nat.zero_le _, rfl, (Chg.refl _ _).alloc _, by simp, by simp, by simp⟩
  case round =>
    obtain ⟨k, hk, rfl, hc, m0, m1, msz⟩ := hrel
    by_cases hlt : k < cs.length
    · obtain ⟨b, o, ds, rfl, hcl, hR, hbl, hsb, hcell⟩ := SQ.cells (H.out.1.new goodCl hc) k hlt
      have hP := H.out.2.1 cs[k] (List.getElem_mem hlt)
      obtain ⟨f, g, m, rfl, q1, q2, q3⟩ := hR
      obtain ⟨z0, z1, z2, z3, z4, z5⟩ := hP
      rw [z3] at q1; rw [z4] at q2; rw [z5] at q3
      obtain ⟨e1, d1, rfl, -, -⟩ := q1.form
      obtain ⟨e2, d2, rfl, -, -⟩ := q2.form
      obtain ⟨e3, d3, rfl, -, -⟩ := q3.form
      have g0 := hcell 0 _ rfl
      have g1 := hcell 1 _ rfl
      have g2 := hcell 2 _ rfl
      have g3 := hcell 3 _ rfl
      have g4 := hcell 4 _ rfl
      have g5 := hcell 5 _ rfl
      rw [z0] at g0
      rw [Nat.add_zero] at g0
      rw [← Nat.add_assoc] at g1 g2 g3 g4 g5
      clear hcell q1 q2 q3 hcl z0 z3 z4 z5
      have Z := Lib.hid (And.intro z1 z2); clear z1 z2
      have mlt := msz
      have MH := Lib.hid (And.intro m0 m1)
      go_wp2_with fail
      refine (head_plain _ _ _ Z.out.1 Z.out.2 _ _ _ _ _ _).mono ?_
      rintro e w1 ⟨rfl, d⟩
      have D := Lib.hid d; clear d
      have x0 := box_keep D.out (j := 0) rfl
      have x1 := box_keep D.out (j := 1) rfl
      have x2 := box_keep D.out (j := 2) rfl
      have x3 := box_keep D.out (j := 3) rfl
      have x4 := box_keep D.out (j := 4) rfl
      have x5 := box_keep D.out (j := 5) rfl
      have M := Lib.hid ((((Chg.refl No wr).alloc _).trans D.out (fun _ _ h => h)))
      clear m0 m1 g0 g1 g2 g3 g4 g5
      have m0' := (M.out.cell (p := ⟨w.heap.size, 0, none⟩) mlt (fun h => h)).trans MH.out.1
      have m1' := (M.out.cell (p := ⟨w.heap.size, 1, none⟩) mlt (fun h => h)).trans MH.out.2
      go_wp2_with fail
      refine (fields_plain _ _ _ _ _ _ _ _ _ _).mono ?_
      rintro e w2 ⟨rfl, d⟩
      have D2 := Lib.hid (D.out.trans d (fun _ _ h => h))
      have M2 := Lib.hid (M.out.trans d (fun _ _ h => h)); clear d
      clear x0 x1 x2 x3 x4 x5 m0' m1'
      have m0' := (M2.out.cell (p := ⟨w.heap.size, 0, none⟩) mlt (fun h => h)).trans MH.out.1
      have m1' := (M2.out.cell (p := ⟨w.heap.size, 1, none⟩) mlt (fun h => h)).trans MH.out.2
      have x0 := box_keep D2.out (j := 0) rfl
      have x1 := box_keep D2.out (j := 1) rfl
      have x2 := box_keep D2.out (j := 2) rfl
      have x3 := box_keep D2.out (j := 3) rfl
      have x4 := box_keep D2.out (j := 4) rfl
      have x5 := box_keep D2.out (j := 5) rfl
      go_wp2_with fail
      refine (methods_plain _ _ _ _ _ _ _ _ _ _ _).mono ?_
      rintro e w3 ⟨rfl, d⟩
      have M3 := Lib.hid (M2.out.trans d (fun _ _ h => h)); clear d
      clear x0 x1 x2 x3 x4 x5 m0' m1'
      have m0' := (M3.out.cell (p := ⟨w.heap.size, 0, none⟩) mlt (fun h => h)).trans MH.out.1
      have m1' := (M3.out.cell (p := ⟨w.heap.size, 1, none⟩) mlt (fun h => h)).trans MH.out.2
      go_wp2
      go_roundw
      case rel => exact ⟨k + 1, by omega, by go_num, hc.trans M3.out (fun _ _ h => h), m0', m1', Nat.lt_of_lt_of_le msz M3.out.size⟩
      case measure => simp [intOf]; omega
    · go_wp2
      go_loopw [59] (fun i wz => ∃ k : Nat, k ≤ cs.length ∧ i = .int .i64 k ∧ Chg No w wz ∧ wz.cell? ⟨w.heap.size, 1, none⟩ = some (.slice a cs.length cap) ∧ w.heap.size < wz.heap.size) (fun i _ => cs.length - (intOf i).toNat)
      case atStart => exact ⟨0, Nat.zero_le _, rfl, hc, m1, msz⟩
      case round =>
        clear hc m0 m1 msz hk hlt
        obtain ⟨k, hk, rfl, hc, m1, msz⟩ := hrel
        by_cases hlt : k < cs.length
        · have HX := H.out.1.new goodCl hc
          have hP := H.out.2.1 cs[k] (List.getElem_mem hlt)
          have HT := Lib.hid (HX.take k (by omega))
          obtain ⟨b, o, ds, rfl, hcl, hR, hbl, hsb, hcell⟩ := SQ.cells HX k hlt
          obtain ⟨f, g, m, rfl, q1, q2, q3⟩ := hR
          obtain ⟨e1, d1, rfl, -, -⟩ := q1.form
          obtain ⟨e2, d2, rfl, -, -⟩ := q2.form
          obtain ⟨e3, d3, rfl, -, -⟩ := q3.form
          have g0 := hcell 0 _ rfl
          have g1 := hcell 1 _ rfl
          have g2 := hcell 2 _ rfl
          have g3 := hcell 3 _ rfl
          have g4 := hcell 4 _ rfl
          have g5 := hcell 5 _ rfl
          rw [Nat.add_zero] at g0
          rw [← Nat.add_assoc] at g1 g2 g3 g4 g5
          clear hcell q1 q2 q3 hcl hP HX
          have hmf : ∀ (fn : Fn) (first cap : Array Value) (w : World), (Instr.makeFunc fn first cap).run Tryz.prog w = .ok (.func fn first cap) w := fun _ _ _ _ => rfl
          go_wp2_with fail
          have eg : ∀ (args : Array Value) (w : World), (callFunc 160 args).run Tryz.prog w = .ok (.enter 160 args) w := enters_of Tryz.func160 (by kernel_rfl) rfl
          refine (containsFunc_cl S _ _ _ (HT.out.new goodCl ((Chg.refl _ _).alloc _)) (by rw [List.length_take]; omega) 160 _ eg (fun x => x.name == cs[k].name) (fun W x ds hx hcW hR => ?_)).mono ?_
          · obtain ⟨f', g', m', rfl, -, -, -⟩ := hR
            exact twice_c W _ _ _ _ _ _ _ _ (box_keep hcW (j := 1) rfl) (by have := hcW.size; simp at this; omega)
          · rintro e w1 ⟨he, d⟩
            have hany : ((cs.take k).any fun x => x.name == cs[k].name) = false := by
              rw [List.any_eq_false]
              intro x hx
              obtain ⟨j, hj, hxj⟩ := List.getElem_of_mem hx
              rw [List.length_take] at hj
              rw [List.getElem_take] at hxj
              subst hxj
              simp only [beq_iff_eq]
              intro e
              have hN := H.out.2.2
              have hN2 := List.pairwise_iff_getElem.1 hN j k (by rw [List.length_map]; omega) (by rw [List.length_map]; exact hlt) (by omega)
              rw [List.getElem_map, List.getElem_map] at hN2
              exact hN2 e
            rw [hany] at he
            subst he
            have D := Lib.hid (((Chg.refl No wr).alloc _).trans d (fun _ _ h => h)); clear d
            have m1' := (D.out.cell (p := ⟨w.heap.size, 1, none⟩) msz (fun h => h)).trans m1
            clear m1 g0 g1 g2 g3 g4 g5 hany
            go_wp2
            go_roundw
            case rel => exact ⟨k + 1, by omega, by go_num, hc.trans D.out (fun _ _ h => h), m1', Nat.lt_of_lt_of_le msz D.out.size⟩
            case measure => simp [intOf]; omega
        · go_wp2
          go_ret
          exact ⟨rfl, hc⟩

theorem check_plain (S : Blocks) (w : World) (pa : Option Addr) (pc : Nat) (cv : Value) (cs : List Cl) (h : SQ 6 RCl S w cv cs) (hp : ∀ c ∈ cs, PlainCl c) (hn : (cs.map (·.name)).Nodup) (hl : cs.length ≤ 64) :
    Calls Tryz.prog 84 #[.agg #[.slice pa 0 pc, cv]] w fun e w' => e = .returned .nilIface ∧ Chg No w w' := by
  obtain ⟨a, cap, hv, -, -⟩ := h.form
  have H := Lib.hid h; clear h
  subst hv
  go_enter Tryz.func84, Tryz.ntmps84
  go_wp2_with fail
  refine (wrong_plain S _ pa pc _ cs (H.out.new goodCl ((Chg.refl _ _).alloc _)) hp hn hl).mono ?_
  rintro e w1 ⟨rfl, d⟩
  go_wp2
  go_ret
  exact ⟨rfl, ((Chg.refl No w).alloc _).trans d (fun _ _ h => h)⟩

end Go.Proofs.YtbojldbfjgeinaaGreatDoor
