/-
  slices.Index, Contains (of strings), IndexFunc, ContainsFunc, walked at each type of elements.
-/
import Derived.Test.YtgmmclcpfmnoiaaGreatDoorIdx
namespace Go.Proofs.YtgmmclcpfmnoiaaGreatDoor
open Go.RowKit

theorem ret_int {a b : Int} (h : b = a) : Ending.returned (.int .i64 a) = .returned (.int .i64 b) := by rw [h]
theorem ret_b {a b : Bool} (h : b = a) : Ending.returned (.bool a) = .returned (.bool b) := by rw [h]
theorem strV_eq (a b : Bs) : (strV a = strV b) ↔ a = b := by
  constructor
  · intro h; simpa using h
  · intro h; rw [h]

set_option maxRecDepth 100000 in
set_option maxHeartbeats 1600000 in
theorem indexFunc_str (S : Blocks) (w : World) (v : Value) (xs : List Bs) (h : SQ 1 RStr S w v xs) (hl : xs.length ≤ 9223372036854775807) (g : Nat) (lb : Array Value) (eg : Ent1 Tryz.prog g) (p : Bs → Bool) (ht : Tests Tryz.prog RStr one1 S w g lb p xs) :
    Calls Tryz.prog 96 #[v, .func (.func g) #[] lb] w fun en w' => en = .returned (.int .i64 (idxZ p xs)) ∧ Chg No w w' := by
  obtain ⟨a, cap, hv, -, -⟩ := h.form
  have H := Lib.hid (And.intro h ht); clear h ht
  subst hv
  go_enter Tryz.func96, Tryz.ntmps96
  go_wp2
  go_loopw [8] (fun i wr => ∃ k : Nat, k ≤ xs.length ∧ i = .int .i64 k ∧ Chg No w wr ∧ RowKit.Hid (∀ (j : Nat) (hj : j < xs.length), j < k → p xs[j] = false)) (fun i _ => xs.length - (intOf i).toNat)
  case atStart => exact ⟨0, Nat.zero_le _, rfl, Chg.refl _ _, Lib.hid (fun j _ hj => absurd hj (Nat.not_lt_zero _))⟩
  case round =>
    obtain ⟨k, hk, rfl, hc, hb⟩ := hrel
    by_cases hlt : k < xs.length
    · have HX := H.out.1.new goodStr hc
      obtain ⟨b, o, cs, rfl, hcl, hR, hbl, hsb, hcell⟩ := SQ.cells HX k hlt
      have hcall := H.out.2 wr xs[k] cs (List.getElem_mem hlt) hc hR
      clear HX
      have hR' := hR; clear hR
      obtain rfl := hR'
      clear hcl
      simp only [one1, List.headD_cons] at hcall
      have HC := Lib.hid hcall; clear hcall
      have g0 := hcell 0 _ rfl
      rw [Nat.mul_one, Nat.add_zero] at g0
      clear hcell
      cases hp : p xs[k] with
      | true =>
        have HP := Lib.hid hp; clear hp
        go_wp2_with fail
        refine HC.out.mono ?_
        rintro e w1 ⟨he, c1⟩
        rw [HP.out] at he
        subst he
        go_wp2
        go_ret
        exact ⟨ret_int (idxZ_hit hlt HP.out hb.out), hc.trans c1 (fun _ _ h => h)⟩
      | false =>
        have HP := Lib.hid hp; clear hp
        go_wp2_with fail
        refine HC.out.mono ?_
        rintro e w1 ⟨he, c1⟩
        rw [HP.out] at he
        subst he
        go_wp2
        go_roundw
        case rel => exact ⟨k + 1, by omega, by go_num, hc.trans c1 (fun _ _ h => h), Lib.hid (fun j hj hjk => by
          by_cases e : j = k
          · subst e; exact HP.out
          · exact hb.out j hj (by omega))⟩
        case measure => simp [intOf]; omega
    · go_wp2
      go_ret
      exact ⟨ret_int (idxZ_miss (fun j hj => hb.out j hj (by omega))), hc⟩

theorem containsFunc_str (S : Blocks) (w : World) (v : Value) (xs : List Bs) (h : SQ 1 RStr S w v xs) (hl : xs.length ≤ 9223372036854775807) (g : Nat) (lb : Array Value) (eg : Ent1 Tryz.prog g) (p : Bs → Bool) (ht : Tests Tryz.prog RStr one1 S w g lb p xs) :
    Calls Tryz.prog 61 #[v, .func (.func g) #[] lb] w fun en w' => en = .returned (.bool (xs.any p)) ∧ Chg No w w' := by
  go_enter Tryz.func61, Tryz.ntmps61
  go_wp2_with fail
  refine (indexFunc_str S w v xs h hl g lb eg p ht).mono ?_
  rintro e w1 ⟨rfl, c1⟩
  go_wp2
  go_ret
  exact ⟨ret_b idxZ_any.symm, c1⟩

set_option maxRecDepth 100000 in
set_option maxHeartbeats 1600000 in
theorem indexFunc_cl (S : Blocks) (w : World) (v : Value) (xs : List Cl) (h : SQ 6 RCl S w v xs) (hl : xs.length ≤ 9223372036854775807) (g : Nat) (lb : Array Value) (eg : Ent1 Tryz.prog g) (p : Cl → Bool) (ht : Tests Tryz.prog RCl aggN S w g lb p xs) :
    Calls Tryz.prog 128 #[v, .func (.func g) #[] lb] w fun en w' => en = .returned (.int .i64 (idxZ p xs)) ∧ Chg No w w' := by
  obtain ⟨a, cap, hv, -, -⟩ := h.form
  have H := Lib.hid (And.intro h ht); clear h ht
  subst hv
  go_enter Tryz.func128, Tryz.ntmps128
  go_wp2
  go_loopw [8] (fun i wr => ∃ k : Nat, k ≤ xs.length ∧ i = .int .i64 k ∧ Chg No w wr ∧ RowKit.Hid (∀ (j : Nat) (hj : j < xs.length), j < k → p xs[j] = false)) (fun i _ => xs.length - (intOf i).toNat)
  case atStart => exact ⟨0, Nat.zero_le _, rfl, Chg.refl _ _, Lib.hid (fun j _ hj => absurd hj (Nat.not_lt_zero _))⟩
  case round =>
    obtain ⟨k, hk, rfl, hc, hb⟩ := hrel
    by_cases hlt : k < xs.length
    · have HX := H.out.1.new goodCl hc
      obtain ⟨b, o, cs, rfl, hcl, hR, hbl, hsb, hcell⟩ := SQ.cells HX k hlt
      have hcall := H.out.2 wr xs[k] cs (List.getElem_mem hlt) hc hR
      clear HX
      have hR' := hR; clear hR
      obtain ⟨f, g, m, rfl, q1, q2, q3⟩ := hR'
      clear hcl
      simp only [aggN] at hcall
      have HC := Lib.hid hcall; clear hcall
      have g0 := hcell 0 _ rfl
      have g1 := hcell 1 _ rfl
      have g2 := hcell 2 _ rfl
      have g3 := hcell 3 _ rfl
      have g4 := hcell 4 _ rfl
      have g5 := hcell 5 _ rfl
      rw [Nat.add_zero] at g0
      rw [← Nat.add_assoc] at g1 g2 g3 g4 g5
      clear hcell
      cases hp : p xs[k] with
      | true =>
        have HP := Lib.hid hp; clear hp
        go_wp2_with fail
        refine HC.out.mono ?_
        rintro e w1 ⟨he, c1⟩
        rw [HP.out] at he
        subst he
        go_wp2
        go_ret
        exact ⟨ret_int (idxZ_hit hlt HP.out hb.out), hc.trans c1 (fun _ _ h => h)⟩
      | false =>
        have HP := Lib.hid hp; clear hp
        go_wp2_with fail
        refine HC.out.mono ?_
        rintro e w1 ⟨he, c1⟩
        rw [HP.out] at he
        subst he
        go_wp2
        go_roundw
        case rel => exact ⟨k + 1, by omega, by go_num, hc.trans c1 (fun _ _ h => h), Lib.hid (fun j hj hjk => by
          by_cases e : j = k
          · subst e; exact HP.out
          · exact hb.out j hj (by omega))⟩
        case measure => simp [intOf]; omega
    · go_wp2
      go_ret
      exact ⟨ret_int (idxZ_miss (fun j hj => hb.out j hj (by omega))), hc⟩

theorem containsFunc_cl (S : Blocks) (w : World) (v : Value) (xs : List Cl) (h : SQ 6 RCl S w v xs) (hl : xs.length ≤ 9223372036854775807) (g : Nat) (lb : Array Value) (eg : Ent1 Tryz.prog g) (p : Cl → Bool) (ht : Tests Tryz.prog RCl aggN S w g lb p xs) :
    Calls Tryz.prog 101 #[v, .func (.func g) #[] lb] w fun en w' => en = .returned (.bool (xs.any p)) ∧ Chg No w w' := by
  go_enter Tryz.func101, Tryz.ntmps101
  go_wp2_with fail
  refine (indexFunc_cl S w v xs h hl g lb eg p ht).mono ?_
  rintro e w1 ⟨rfl, c1⟩
  go_wp2
  go_ret
  exact ⟨ret_b idxZ_any.symm, c1⟩

set_option maxRecDepth 100000 in
set_option maxHeartbeats 1600000 in
theorem indexFunc_mt (S : Blocks) (w : World) (v : Value) (xs : List Mt) (h : SQ 10 RMt S w v xs) (hl : xs.length ≤ 9223372036854775807) (g : Nat) (lb : Array Value) (eg : Ent1 Tryz.prog g) (p : Mt → Bool) (ht : Tests Tryz.prog RMt aggN S w g lb p xs) :
    Calls Tryz.prog 110 #[v, .func (.func g) #[] lb] w fun en w' => en = .returned (.int .i64 (idxZ p xs)) ∧ Chg No w w' := by
  obtain ⟨a, cap, hv, -, -⟩ := h.form
  have H := Lib.hid (And.intro h ht); clear h ht
  subst hv
  go_enter Tryz.func110, Tryz.ntmps110
  go_wp2
  go_loopw [8] (fun i wr => ∃ k : Nat, k ≤ xs.length ∧ i = .int .i64 k ∧ Chg No w wr ∧ RowKit.Hid (∀ (j : Nat) (hj : j < xs.length), j < k → p xs[j] = false)) (fun i _ => xs.length - (intOf i).toNat)
  case atStart => exact ⟨0, Nat.zero_le _, rfl, Chg.refl _ _, Lib.hid (fun j _ hj => absurd hj (Nat.not_lt_zero _))⟩
  case round =>
    obtain ⟨k, hk, rfl, hc, hb⟩ := hrel
    by_cases hlt : k < xs.length
    · have HX := H.out.1.new goodMt hc
      obtain ⟨b, o, cs, rfl, hcl, hR, hbl, hsb, hcell⟩ := SQ.cells HX k hlt
      have hcall := H.out.2 wr xs[k] cs (List.getElem_mem hlt) hc hR
      clear HX
      have hR' := hR; clear hR
      obtain ⟨va, vc, vh, rfl, q1, q2, q3⟩ := hR'
      clear hcl
      simp only [aggN] at hcall
      have HC := Lib.hid hcall; clear hcall
      have g0 := hcell 0 _ rfl
      have g1 := hcell 1 _ rfl
      have g2 := hcell 2 _ rfl
      have g3 := hcell 3 _ rfl
      have g4 := hcell 4 _ rfl
      have g5 := hcell 5 _ rfl
      have g6 := hcell 6 _ rfl
      have g7 := hcell 7 _ rfl
      have g8 := hcell 8 _ rfl
      have g9 := hcell 9 _ rfl
      rw [Nat.add_zero] at g0
      rw [← Nat.add_assoc] at g1 g2 g3 g4 g5 g6 g7 g8 g9
      clear hcell
      cases hp : p xs[k] with
      | true =>
        have HP := Lib.hid hp; clear hp
        go_wp2_with fail
        refine HC.out.mono ?_
        rintro e w1 ⟨he, c1⟩
        rw [HP.out] at he
        subst he
        go_wp2
        go_ret
        exact ⟨ret_int (idxZ_hit hlt HP.out hb.out), hc.trans c1 (fun _ _ h => h)⟩
      | false =>
        have HP := Lib.hid hp; clear hp
        go_wp2_with fail
        refine HC.out.mono ?_
        rintro e w1 ⟨he, c1⟩
        rw [HP.out] at he
        subst he
        go_wp2
        go_roundw
        case rel => exact ⟨k + 1, by omega, by go_num, hc.trans c1 (fun _ _ h => h), Lib.hid (fun j hj hjk => by
          by_cases e : j = k
          · subst e; exact HP.out
          · exact hb.out j hj (by omega))⟩
        case measure => simp [intOf]; omega
    · go_wp2
      go_ret
      exact ⟨ret_int (idxZ_miss (fun j hj => hb.out j hj (by omega))), hc⟩

theorem containsFunc_mt (S : Blocks) (w : World) (v : Value) (xs : List Mt) (h : SQ 10 RMt S w v xs) (hl : xs.length ≤ 9223372036854775807) (g : Nat) (lb : Array Value) (eg : Ent1 Tryz.prog g) (p : Mt → Bool) (ht : Tests Tryz.prog RMt aggN S w g lb p xs) :
    Calls Tryz.prog 81 #[v, .func (.func g) #[] lb] w fun en w' => en = .returned (.bool (xs.any p)) ∧ Chg No w w' := by
  go_enter Tryz.func81, Tryz.ntmps81
  go_wp2_with fail
  refine (indexFunc_mt S w v xs h hl g lb eg p ht).mono ?_
  rintro e w1 ⟨rfl, c1⟩
  go_wp2
  go_ret
  exact ⟨ret_b idxZ_any.symm, c1⟩

set_option maxRecDepth 100000 in
set_option maxHeartbeats 1600000 in
theorem indexFunc_fd (S : Blocks) (w : World) (v : Value) (xs : List Fd) (h : SQ 4 RFd S w v xs) (hl : xs.length ≤ 9223372036854775807) (g : Nat) (lb : Array Value) (eg : Ent1 Tryz.prog g) (p : Fd → Bool) (ht : Tests Tryz.prog RFd aggN S w g lb p xs) :
    Calls Tryz.prog 149 #[v, .func (.func g) #[] lb] w fun en w' => en = .returned (.int .i64 (idxZ p xs)) ∧ Chg No w w' := by
  obtain ⟨a, cap, hv, -, -⟩ := h.form
  have H := Lib.hid (And.intro h ht); clear h ht
  subst hv
  go_enter Tryz.func149, Tryz.ntmps149
  go_wp2
  go_loopw [8] (fun i wr => ∃ k : Nat, k ≤ xs.length ∧ i = .int .i64 k ∧ Chg No w wr ∧ RowKit.Hid (∀ (j : Nat) (hj : j < xs.length), j < k → p xs[j] = false)) (fun i _ => xs.length - (intOf i).toNat)
  case atStart => exact ⟨0, Nat.zero_le _, rfl, Chg.refl _ _, Lib.hid (fun j _ hj => absurd hj (Nat.not_lt_zero _))⟩
  case round =>
    obtain ⟨k, hk, rfl, hc, hb⟩ := hrel
    by_cases hlt : k < xs.length
    · have HX := H.out.1.new goodFd hc
      obtain ⟨b, o, cs, rfl, hcl, hR, hbl, hsb, hcell⟩ := SQ.cells HX k hlt
      have hcall := H.out.2 wr xs[k] cs (List.getElem_mem hlt) hc hR
      clear HX
      have hR' := hR; clear hR
      obtain rfl := hR'
      clear hcl
      simp only [aggN] at hcall
      have HC := Lib.hid hcall; clear hcall
      have g0 := hcell 0 _ rfl
      have g1 := hcell 1 _ rfl
      have g2 := hcell 2 _ rfl
      have g3 := hcell 3 _ rfl
      rw [Nat.add_zero] at g0
      rw [← Nat.add_assoc] at g1 g2 g3
      clear hcell
      cases hp : p xs[k] with
      | true =>
        have HP := Lib.hid hp; clear hp
        go_wp2_with fail
        refine HC.out.mono ?_
        rintro e w1 ⟨he, c1⟩
        rw [HP.out] at he
        subst he
        go_wp2
        go_ret
        exact ⟨ret_int (idxZ_hit hlt HP.out hb.out), hc.trans c1 (fun _ _ h => h)⟩
      | false =>
        have HP := Lib.hid hp; clear hp
        go_wp2_with fail
        refine HC.out.mono ?_
        rintro e w1 ⟨he, c1⟩
        rw [HP.out] at he
        subst he
        go_wp2
        go_roundw
        case rel => exact ⟨k + 1, by omega, by go_num, hc.trans c1 (fun _ _ h => h), Lib.hid (fun j hj hjk => by
          by_cases e : j = k
          · subst e; exact HP.out
          · exact hb.out j hj (by omega))⟩
        case measure => simp [intOf]; omega
    · go_wp2
      go_ret
      exact ⟨ret_int (idxZ_miss (fun j hj => hb.out j hj (by omega))), hc⟩

theorem containsFunc_fd (S : Blocks) (w : World) (v : Value) (xs : List Fd) (h : SQ 4 RFd S w v xs) (hl : xs.length ≤ 9223372036854775807) (g : Nat) (lb : Array Value) (eg : Ent1 Tryz.prog g) (p : Fd → Bool) (ht : Tests Tryz.prog RFd aggN S w g lb p xs) :
    Calls Tryz.prog 123 #[v, .func (.func g) #[] lb] w fun en w' => en = .returned (.bool (xs.any p)) ∧ Chg No w w' := by
  go_enter Tryz.func123, Tryz.ntmps123
  go_wp2_with fail
  refine (indexFunc_fd S w v xs h hl g lb eg p ht).mono ?_
  rintro e w1 ⟨rfl, c1⟩
  go_wp2
  go_ret
  exact ⟨ret_b idxZ_any.symm, c1⟩

end Go.Proofs.YtgmmclcpfmnoiaaGreatDoor
