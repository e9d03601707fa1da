/-
  slices.Index, Contains (of strings), IndexFunc, ContainsFunc, walked at each type of elements.
-/
import Derived.Test.YtgmmclcpfmnoiaaGreatDoorApp
import Derived.Lib.SliceRun
import Derived.Test.YtgmmclcpfmnoiaaGreatDoorApi
namespace Go.Proofs.YtgmmclcpfmnoiaaGreatDoor
open Go.RowKit

theorem ret_int {a b : Int} (h : b = a) : Ending.returned (.int .i64 a) = .returned (.int .i64 b) := by rw [h]
theorem ret_b {a b : Bool} (h : b = a) : Ending.returned (.bool a) = .returned (.bool b) := by rw [h]
theorem strV_eq (a b : Bs) : (strV a = strV b) ↔ a = b := by
  constructor
  · intro h; simpa using h
  · intro h; rw [h]

set_option maxRecDepth 100000 in
set_option maxHeartbeats 1600000 in
theorem indexFunc_str (S : Blocks) (w : World) (v : Value) (xs : List Bs) (h : SQ 1 RStr S w v xs) (hl : xs.length ≤ 9223372036854775807) (g : Nat) (lb : Array Value) (eg : Ent1 Tryz.prog g) (p : Bs → Bool) (ht : Tests Tryz.prog RStr one1 S w g lb p xs) :
    Calls Tryz.prog 96 #[v, .func (.func g) #[] lb] w fun en w' => en = .returned (.int .i64 (idxZ p xs)) ∧ Chg No w w' := by
  obtain ⟨a, cap, hv, -, -⟩ := h.form
  have H := Lib.hid (And.intro h ht); clear h ht
  subst hv
  go_enter Tryz.func96, Tryz.ntmps96
  go_wp2
  go_loopw [8] (fun i wr => ∃ k : Nat, k ≤ xs.length ∧ i = .int .i64 k ∧ Chg No w wr ∧ RowKit.Hid (∀ (j : Nat) (hj : j < xs.length), j < k → p xs[j] = false)) (fun i _ => xs.length - (intOf i).toNat)
  case atStart => exact ⟨0, Nat.zero_le _, rfl, Chg.refl _ _, Lib.hid (fun j _ hj => absurd hj (Nat.not_lt_zero _))⟩
  case round =>
    obtain ⟨k, hk, rfl, hc, hb⟩ := hrel
    by_cases hlt : k < xs.length
    · have HX := H.out.1.new goodStr hc
      obtain ⟨b, o, cs, rfl, hcl, hR, hbl, hsb, hcell⟩ := SQ.cells HX k hlt
      have hcall := H.out.2 wr xs[k] cs (List.getElem_mem hlt) hc hR
      clear HX
      have hR' := hR; clear hR
      obtain rfl := hR'
      clear hcl
      simp only [one1, List.headD_cons] at hcall
      have HC := Lib.hid hcall; clear hcall
      have g0 := hcell 0 _ rfl
      rw [Nat.mul_one, Nat.add_zero] at g0
      clear hcell
      cases hp : p xs[k] with
      | true =>
        have HP := Lib.hid hp; clear hp
        go_wp2_with fail
        refine HC.out.mono ?_
        rintro e w1 ⟨he, c1⟩
        rw [HP.out] at he
        subst he
        go_wp2
        go_ret
        exact ⟨ret_int (idxZ_hit hlt HP.out hb.out), hc.trans c1 (fun _ _ h => h)⟩
      | false =>
        have HP := Lib.hid hp; clear hp
        go_wp2_with fail
        refine HC.out.mono ?_
        rintro e w1 ⟨he, c1⟩
        rw [HP.out] at he
        subst he
        go_wp2
        go_roundw
        case rel => exact ⟨k + 1, by omega, by go_num, hc.trans c1 (fun _ _ h => h), Lib.hid (fun j hj hjk => by
          by_cases e : j = k
          · subst e; exact HP.out
          · exact hb.out j hj (by omega))⟩
        case measure => simp [intOf]; omega
    · go_wp2
      go_ret
      exact ⟨ret_int (idxZ_miss (fun j hj => hb.out j hj (by omega))), hc⟩

theorem containsFunc_str (S : Blocks) (w : World) (v : Value) (xs : List Bs) (h : SQ 1 RStr S w v xs) (hl : xs.length ≤ 9223372036854775807) (g : Nat) (lb : Array Value) (eg : Ent1 Tryz.prog g) (p : Bs → Bool) (ht : Tests Tryz.prog RStr one1 S w g lb p xs) :
    Calls Tryz.prog 61 #[v, .func (.func g) #[] lb] w fun en w' => en = .returned (.bool (xs.any p)) ∧ Chg No w w' := by
  go_enter Tryz.func61, Tryz.ntmps61
  go_wp2_with fail
  refine (indexFunc_str S w v xs h hl g lb eg p ht).mono ?_
  rintro e w1 ⟨rfl, c1⟩
  go_wp2
  go_ret
  exact ⟨ret_b idxZ_any.symm, c1⟩

set_option maxRecDepth 100000 in
set_option maxHeartbeats 1600000 in
theorem indexFunc_cl (S : Blocks) (w : World) (v : Value) (xs : List Cl) (h : SQ 6 RCl S w v xs) (hl : xs.length ≤ 9223372036854775807) (g : Nat) (lb : Array Value) (eg : Ent1 Tryz.prog g) (p : Cl → Bool) (ht : Tests Tryz.prog RCl aggN S w g lb p xs) :
    Calls Tryz.prog 128 #[v, .func (.func g) #[] lb] w fun en w' => en = .returned (.int .i64 (idxZ p xs)) ∧ Chg No w w' := by
  obtain ⟨a, cap, hv, -, -⟩ := h.form
  have H := Lib.hid (And.intro h ht); clear h ht
  subst hv
  go_enter Tryz.func128, Tryz.ntmps128
  go_wp2
  go_loopw [8] (fun i wr => ∃ k : Nat, k ≤ xs.length ∧ i = .int .i64 k ∧ Chg No w wr ∧ RowKit.Hid (∀ (j : Nat) (hj : j < xs.length), j < k → p xs[j] = false)) (fun i _ => xs.length - (intOf i).toNat)
  case atStart => exact ⟨0, Nat.zero_le _, rfl, Chg.refl _ _, Lib.hid (fun j _ hj => absurd hj (Nat.not_lt_zero _))⟩
  case round =>
    obtain ⟨k, hk, rfl, hc, hb⟩ := hrel
    by_cases hlt : k < xs.length
    · have HX := H.out.1.new goodCl hc
      obtain ⟨b, o, cs, rfl, hcl, hR, hbl, hsb, hcell⟩ := SQ.cells HX k hlt
      have hcall := H.out.2 wr xs[k] cs (List.getElem_mem hlt) hc hR
      clear HX
      have hR' := hR; clear hR
      obtain ⟨f, g, m, rfl, q1, q2, q3⟩ := hR'
      clear hcl
      simp only [aggN] at hcall
      have HC := Lib.hid hcall; clear hcall
      have g0 := hcell 0 _ rfl
      have g1 := hcell 1 _ rfl
      have g2 := hcell 2 _ rfl
      have g3 := hcell 3 _ rfl
      have g4 := hcell 4 _ rfl
      have g5 := hcell 5 _ rfl
      rw [Nat.add_zero] at g0
      rw [← Nat.add_assoc] at g1 g2 g3 g4 g5
      clear hcell
      cases hp : p xs[k] with
      | true =>
        have HP := Lib.hid hp; clear hp
        go_wp2_with fail
        refine HC.out.mono ?_
        rintro e w1 ⟨he, c1⟩
        rw [HP.out] at he
        subst he
        go_wp2
        go_ret
        exact ⟨ret_int (idxZ_hit hlt HP.out hb.out), hc.trans c1 (fun _ _ h => h)⟩
      | false =>
        have HP := Lib.hid hp; clear hp
        go_wp2_with fail
        refine HC.out.mono ?_
        rintro e w1 ⟨he, c1⟩
        rw [HP.out] at he
        subst he
        go_wp2
        go_roundw
        case rel => exact ⟨k + 1, by omega, by go_num, hc.trans c1 (fun _ _ h => h), Lib.hid (fun j hj hjk => by
          by_cases e : j = k
          · subst e; exact HP.out
          · exact hb.out j hj (by omega))⟩
        case measure => simp [intOf]; omega
    · go_wp2
      go_ret
      exact ⟨ret_int (idxZ_miss (fun j hj => hb.out j hj (by omega))), hc⟩

theorem containsFunc_cl (S : Blocks) (w : World) (v : Value) (xs : List Cl) (h : SQ 6 RCl S w v xs) (hl : xs.length ≤ 9223372036854775807) (g : Nat) (lb : Array Value) (eg : Ent1 Tryz.prog g) (p : Cl → Bool) (ht : Tests Tryz.prog RCl aggN S w g lb p xs) :
    Calls Tryz.prog 101 #[v, .func (.func g) #[] lb] w fun en w' => en = .returned (.bool (xs.any p)) ∧ Chg No w w' := by
  go_enter Tryz.func101, Tryz.ntmps101
  go_wp2_with fail
  refine (indexFunc_cl S w v xs h hl g lb eg p ht).mono ?_
  rintro e w1 ⟨rfl, c1⟩
  go_wp2
  go_ret
  exact ⟨ret_b idxZ_any.symm, c1⟩

set_option maxRecDepth 100000 in
set_option maxHeartbeats 1600000 in
theorem indexFunc_mt (S : Blocks) (w : World) (v : Value) (xs : List Mt) (h : SQ 10 RMt S w v xs) (hl : xs.length ≤ 9223372036854775807) (g : Nat) (lb : Array Value) (eg : Ent1 Tryz.prog g) (p : Mt → Bool) (ht : Tests Tryz.prog RMt aggN S w g lb p xs) :
    Calls Tryz.prog 110 #[v, .func (.func g) #[] lb] w fun en w' => en = .returned (.int .i64 (idxZ p xs)) ∧ Chg No w w' := by
  obtain ⟨a, cap, hv, -, -⟩ := h.form
  have H := Lib.hid (And.intro h ht); clear h ht
  subst hv
  go_enter Tryz.func110, Tryz.ntmps110
  go_wp2
  go_loopw [8] (fun i wr => ∃ k : Nat, k ≤ xs.length ∧ i = .int .i64 k ∧ Chg No w wr ∧ RowKit.Hid (∀ (j : Nat) (hj : j < xs.length), j < k → p xs[j] = false)) (fun i _ => xs.length - (intOf i).toNat)
  case atStart => exact ⟨0, Nat.zero_le _, rfl, Chg.refl _ _, Lib.hid (fun j _ hj => absurd hj (Nat.not_lt_zero _))⟩
  case round =>
    obtain ⟨k, hk, rfl, hc, hb⟩ := hrel
    by_cases hlt : k < xs.length
    · have HX := H.out.1.new goodMt hc
      obtain ⟨b, o, cs, rfl, hcl, hR, hbl, hsb, hcell⟩ := SQ.cells HX k hlt
      have hcall := H.out.2 wr xs[k] cs (List.getElem_mem hlt) hc hR
      clear HX
      have hR' := hR; clear hR
      obtain ⟨va, vc, vh, rfl, q1, q2, q3⟩ := hR'
      clear hcl
      simp only [aggN] at hcall
      have HC := Lib.hid hcall; clear hcall
      have g0 := hcell 0 _ rfl
      have g1 := hcell 1 _ rfl
      have g2 := hcell 2 _ rfl
      have g3 := hcell 3 _ rfl
      have g4 := hcell 4 _ rfl
      have g5 := hcell 5 _ rfl
      have g6 := hcell 6 _ rfl
      have g7 := hcell 7 _ rfl
      have g8 := hcell 8 _ rfl
      have g9 := hcell 9 _ rfl
      rw [Nat.add_zero] at g0
      rw [← Nat.add_assoc] at g1 g2 g3 g4 g5 g6 g7 g8 g9
      clear hcell
      cases hp : p xs[k] with
      | true =>
        have HP := Lib.hid hp; clear hp
        go_wp2_with fail
        refine HC.out.mono ?_
        rintro e w1 ⟨he, c1⟩
        rw [HP.out] at he
        subst he
        go_wp2
        go_ret
        exact ⟨ret_int (idxZ_hit hlt HP.out hb.out), hc.trans c1 (fun _ _ h => h)⟩
      | false =>
        have HP := Lib.hid hp; clear hp
        go_wp2_with fail
        refine HC.out.mono ?_
        rintro e w1 ⟨he, c1⟩
        rw [HP.out] at he
        subst he
        go_wp2
        go_roundw
        case rel => exact ⟨k + 1, by omega, by go_num, hc.trans c1 (fun _ _ h => h), Lib.hid (fun j hj hjk => by
          by_cases e : j = k
          · subst e; exact HP.out
          · exact hb.out j hj (by omega))⟩
        case measure => simp [intOf]; omega
    · go_wp2
      go_ret
      exact ⟨ret_int (idxZ_miss (fun j hj => hb.out j hj (by omega))), hc⟩

theorem containsFunc_mt (S : Blocks) (w : World) (v : Value) (xs : List Mt) (h : SQ 10 RMt S w v xs) (hl : xs.length ≤ 9223372036854775807) (g : Nat) (lb : Array Value) (eg : Ent1 Tryz.prog g) (p : Mt → Bool) (ht : Tests Tryz.prog RMt aggN S w g lb p xs) :
    Calls Tryz.prog 81 #[v, .func (.func g) #[] lb] w fun en w' => en = .returned (.bool (xs.any p)) ∧ Chg No w w' := by
  go_enter Tryz.func81, Tryz.ntmps81
  go_wp2_with fail
  refine (indexFunc_mt S w v xs h hl g lb eg p ht).mono ?_
  rintro e w1 ⟨rfl, c1⟩
  go_wp2
  go_ret
  exact ⟨ret_b idxZ_any.symm, c1⟩

set_option maxRecDepth 100000 in
set_option maxHeartbeats 1600000 in
theorem indexFunc_fd (S : Blocks) (w : World) (v : Value) (xs : List Fd) (h : SQ 4 RFd S w v xs) (hl : xs.length ≤ 9223372036854775807) (g : Nat) (lb : Array Value) (eg : Ent1 Tryz.prog g) (p : Fd → Bool) (ht : Tests Tryz.prog RFd aggN S w g lb p xs) :
    Calls Tryz.prog 149 #[v, .func (.func g) #[] lb] w fun en w' => en = .returned (.int .i64 (idxZ p xs)) ∧ Chg No w w' := by
  obtain ⟨a, cap, hv, -, -⟩ := h.form
  have H := Lib.hid (And.intro h ht); clear h ht
  subst hv
  go_enter Tryz.func149, Tryz.ntmps149
  go_wp2
  go_loopw [8] (fun i wr => ∃ k : Nat, k ≤ xs.length ∧ i = .int .i64 k ∧ Chg No w wr ∧ RowKit.Hid (∀ (j : Nat) (hj : j < xs.length), j < k → p xs[j] = false)) (fun i _ => xs.length - (intOf i).toNat)
  case atStart => exact ⟨0, Nat.zero_le _, rfl, Chg.refl _ _, Lib.hid (fun j _ hj => absurd hj (Nat.not_lt_zero _))⟩
  case round =>
    obtain ⟨k, hk, rfl, hc, hb⟩ := hrel
    by_cases hlt : k < xs.length
    · have HX := H.out.1.new goodFd hc
      obtain ⟨b, o, cs, rfl, hcl, hR, hbl, hsb, hcell⟩ := SQ.cells HX k hlt
      have hcall := H.out.2 wr xs[k] cs (List.getElem_mem hlt) hc hR
      clear HX
      have hR' := hR; clear hR
      obtain rfl := hR'
      clear hcl
      simp only [aggN] at hcall
      have HC := Lib.hid hcall; clear hcall
      have g0 := hcell 0 _ rfl
      have g1 := hcell 1 _ rfl
      have g2 := hcell 2 _ rfl
      have g3 := hcell 3 _ rfl
      rw [Nat.add_zero] at g0
      rw [← Nat.add_assoc] at g1 g2 g3
      clear hcell
      cases hp : p xs[k] with
      | true =>
        have HP := Lib.hid hp; clear hp
        go_wp2_with fail
        refine HC.out.mono ?_
        rintro e w1 ⟨he, c1⟩
        rw [HP.out] at he
        subst he
        go_wp2
        go_ret
        exact ⟨ret_int (idxZ_hit hlt HP.out hb.out), hc.trans c1 (fun _ _ h => h)⟩
      | false =>
        have HP := Lib.hid hp; clear hp
        go_wp2_with fail
        refine HC.out.mono ?_
        rintro e w1 ⟨he, c1⟩
        rw [HP.out] at he
        subst he
        go_wp2
        go_roundw
        case rel => exact ⟨k + 1, by omega, by go_num, hc.trans c1 (fun _ _ h => h), Lib.hid (fun j hj hjk => by
          by_cases e : j = k
          · subst e; exact HP.out
          · exact hb.out j hj (by omega))⟩
        case measure => simp [intOf]; omega
    · go_wp2
      go_ret
      exact ⟨ret_int (idxZ_miss (fun j hj => hb.out j hj (by omega))), hc⟩

theorem containsFunc_fd (S : Blocks) (w : World) (v : Value) (xs : List Fd) (h : SQ 4 RFd S w v xs) (hl : xs.length ≤ 9223372036854775807) (g : Nat) (lb : Array Value) (eg : Ent1 Tryz.prog g) (p : Fd → Bool) (ht : Tests Tryz.prog RFd aggN S w g lb p xs) :
    Calls Tryz.prog 123 #[v, .func (.func g) #[] lb] w fun en w' => en = .returned (.bool (xs.any p)) ∧ Chg No w w' := by
  go_enter Tryz.func123, Tryz.ntmps123
  go_wp2_with fail
  refine (indexFunc_fd S w v xs h hl g lb eg p ht).mono ?_
  rintro e w1 ⟨rfl, c1⟩
  go_wp2
  go_ret
  exact ⟨ret_b idxZ_any.symm, c1⟩

end Go.Proofs.YtgmmclcpfmnoiaaGreatDoor

namespace Go.Proofs.YtgmmclcpfmnoiaaGreatDoor
open Go.RowKit

set_option maxRecDepth 100000 in
set_option maxHeartbeats 1600000 in
theorem index_str (S : Blocks) (w : World) (v : Value) (xs : List Bs) (h : SQ 1 RStr S w v xs) (hl : xs.length ≤ 9223372036854775807) (s : Bs) :
    Calls Tryz.prog 87 #[v, strV s] w fun en w' => en = .returned (.int .i64 (idxZ (fun x => x == s) xs)) ∧ Chg No w w' := by
  obtain ⟨a, cap, hv, -, -⟩ := h.form
  have H := Lib.hid h; clear h
  subst hv
  go_enter Tryz.func87, Tryz.ntmps87
  go_wp2
  go_loopw [8] (fun i wr => ∃ k : Nat, k ≤ xs.length ∧ i = .int .i64 k ∧ Chg No w wr ∧ RowKit.Hid (∀ (j : Nat) (hj : j < xs.length), j < k → (xs[j] == s) = false)) (fun i _ => xs.length - (intOf i).toNat)
  case atStart => exact ⟨0, Nat.zero_le _, rfl, Chg.refl _ _, Lib.hid (fun j _ hj => absurd hj (Nat.not_lt_zero _))⟩
  case round =>
    obtain ⟨k, hk, rfl, hc, hb⟩ := hrel
    by_cases hlt : k < xs.length
    · have HX := H.out.new goodStr hc
      obtain ⟨b, o, cs, rfl, hcl, hR, hbl, hsb, hcell⟩ := SQ.cells HX k hlt
      clear HX
      have hR' := hR; clear hR
      obtain rfl := hR'
      clear hcl
      have g0 := hcell 0 _ rfl
      rw [Nat.mul_one, Nat.add_zero] at g0
      clear hcell
      cases hp : xs[k] == s with
      | true =>
        have hq : (s == xs[k]) = true := by rw [eq_of_beq hp]; simp
        have HP := Lib.hid hp; clear hp
        go_wp2
        go_ret
        exact ⟨ret_int (idxZ_hit (p := fun x => x == s) hlt HP.out hb.out), hc⟩
      | false =>
        have hq : (s == xs[k]) = false := beq_eq_false_iff_ne.2 (fun e => by rw [e] at hp; simp at hp)
        have HP := Lib.hid hp; clear hp
        go_wp2
        go_roundw
        case rel => exact ⟨k + 1, by omega, by go_num, hc, Lib.hid (fun j hj hjk => by
          by_cases e : j = k
          · subst e; exact HP.out
          · exact hb.out j hj (by omega))⟩
        case measure => simp [intOf]; omega
    · go_wp2
      go_ret
      exact ⟨ret_int (idxZ_miss (fun j hj => hb.out j hj (by omega))), hc⟩

theorem contains_str (S : Blocks) (w : World) (v : Value) (xs : List Bs) (h : SQ 1 RStr S w v xs) (hl : xs.length ≤ 9223372036854775807) (s : Bs) :
    Calls Tryz.prog 51 #[v, strV s] w fun en w' => en = .returned (.bool (xs.any fun x => x == s)) ∧ Chg No w w' := by
  go_enter Tryz.func51, Tryz.ntmps51
  go_wp2_with fail
  refine (index_str S w v xs h hl s).mono ?_
  rintro e w1 ⟨rfl, c1⟩
  go_wp2
  go_ret
  exact ⟨ret_b idxZ_any.symm, c1⟩

end Go.Proofs.YtgmmclcpfmnoiaaGreatDoor

namespace Go.Proofs.YtgmmclcpfmnoiaaGreatDoor
open Go.RowKit

/-- What Clone leaves. -/
def Cloned {α : Type} (e n : Nat) (R : Reading α) (S : Blocks) (w : World) (xs : List α) (en : Ending) (w' : World) : Prop :=
  ∃ v', en = .returned v' ∧ OQ e n R S w' v' xs ∧ Chg No w w' ∧ ∀ k, v'.ownBlock = some k → w.heap.size ≤ k
theorem made_empty {α : Type} (w : World) (e n : Nat) (R : Reading α) (S : Blocks) : OQ e n R S (w.alloc (.cells #[] e)) (.slice (some ⟨w.heap.size, 0, none⟩) 0 0) ([] : List α) :=
  ⟨[], World.ownsRow_made (base := 0) (e := e) (size := n) w #[] 0 (Nat.zero_le _) (by unfold maxLen; omega) (by simp), Els.nil⟩

set_option maxHeartbeats 800000 in
theorem clone_str (S : Blocks) (w : World) (v : Value) (xs : List Bs) (h : SQ 1 RStr S w v xs) (hS : ∀ k, S k → k < w.heap.size) (hl : xs.length * 16 ≤ 140737488351232) :
    Calls Tryz.prog 48 #[v] w (Cloned 9 1 RStr S w xs) := by
  have qT : ∀ (w : World) (a : Option Addr) (n c n' c' : Nat), (binOp .eql 34 (.slice a n c) (.slice none n' c')).run Tryz.prog w = .ok (.bool a.isNone) w := fun w a n c n' c' => Lib.run_eql_slice_nil w _ _ a n c n' c' Tryz.underlying34
  obtain ⟨a, cap, hv, hc, hn⟩ := h.form
  subst hv
  cases a with
  | none =>
    have h0 : xs = [] := List.eq_nil_of_length_eq_zero (by have := hn rfl; omega)
    subst h0
    go_enter Tryz.func48, Tryz.ntmps48
    go_wp2
    go_ret
    exact ⟨_, rfl, OQ.nil _ _ _ _, Chg.refl _ _, fun k hk => by cases hk⟩
  | some p =>
    have h' := h.new goodStr ((Chg.refl No w).alloc (.cells #[] 9))
    obtain ⟨css, hE, hsrc⟩ := h'.src goodStr (by decide) (P := Tryz.prog) Tryz.underlying34
    have hm := made_empty w 9 1 RStr S
    have HH := Lib.hid (And.intro hE (And.intro hsrc hm)); clear hE hsrc hm h' hn h
    go_enter Tryz.func48, Tryz.ntmps48
    go_wp2_with (at_builtin; refine wpList_appQ rfl (.tmp 5) (.tmp 6) 34 34 rfl 9 zStr 16 Tryz.underlying34 info_str rfl (by decide) goodStr (.slice (some ⟨w.heap.size, 0, none⟩) 0 0) [] rfl HH.out.2.2 (fun k hk e => by have := hS k hk; simp [Value.ownBlock] at e; omega) (.slice (some p) xs.length cap) xs css rfl HH.out.1 HH.out.2.1 (by simp only [List.length_nil]; unfold maxLen; omega) (by simp only [List.length_nil]; omega) ?_; intro v' w1 h1 h2 h3; have HR := Lib.hid (And.intro h1 (And.intro h2 h3)); clear h1 h2 h3)
    go_ret
    obtain ⟨h1, h2, h3⟩ := HR.out
    rw [List.nil_append] at h1
    refine ⟨v', rfl, h1, ((Chg.refl No w).alloc (.cells #[] 9)).trans h2 (fun k hk e => by simp [Value.ownBlock] at e; omega), fun k hk => ?_⟩
    rcases h3 with h3 | ⟨b, h3, h4⟩
    · rw [h3] at hk; simp [Value.ownBlock] at hk; omega
    · rw [h3] at hk; cases hk; simp at h4; omega

set_option maxHeartbeats 800000 in
theorem clone_byte (S : Blocks) (w : World) (v : Value) (xs : List UInt8) (h : SQ 1 RByte S w v xs) (hS : ∀ k, S k → k < w.heap.size) (hl : xs.length * 1 ≤ 140737488351232) :
    Calls Tryz.prog 70 #[v] w (Cloned 5 1 RByte S w xs) := by
  have qT : ∀ (w : World) (a : Option Addr) (n c n' c' : Nat), (binOp .eql 29 (.slice a n c) (.slice none n' c')).run Tryz.prog w = .ok (.bool a.isNone) w := fun w a n c n' c' => Lib.run_eql_slice_nil w _ _ a n c n' c' Tryz.underlying29
  obtain ⟨a, cap, hv, hc, hn⟩ := h.form
  subst hv
  cases a with
  | none =>
    have h0 : xs = [] := List.eq_nil_of_length_eq_zero (by have := hn rfl; omega)
    subst h0
    go_enter Tryz.func70, Tryz.ntmps70
    go_wp2
    go_ret
    exact ⟨_, rfl, OQ.nil _ _ _ _, Chg.refl _ _, fun k hk => by cases hk⟩
  | some p =>
    have h' := h.new goodByte ((Chg.refl No w).alloc (.cells #[] 5))
    obtain ⟨css, hE, hsrc⟩ := h'.src goodByte (by decide) (P := Tryz.prog) Tryz.underlying29
    have hm := made_empty w 5 1 RByte S
    have HH := Lib.hid (And.intro hE (And.intro hsrc hm)); clear hE hsrc hm h' hn h
    go_enter Tryz.func70, Tryz.ntmps70
    go_wp2_with (at_builtin; refine wpList_appQ rfl (.tmp 5) (.tmp 6) 29 29 rfl 5 (.int .u8 0) 1 Tryz.underlying29 info_byte rfl (by decide) goodByte (.slice (some ⟨w.heap.size, 0, none⟩) 0 0) [] rfl HH.out.2.2 (fun k hk e => by have := hS k hk; simp [Value.ownBlock] at e; omega) (.slice (some p) xs.length cap) xs css rfl HH.out.1 HH.out.2.1 (by simp only [List.length_nil]; unfold maxLen; omega) (by simp only [List.length_nil]; omega) ?_; intro v' w1 h1 h2 h3; have HR := Lib.hid (And.intro h1 (And.intro h2 h3)); clear h1 h2 h3)
    go_ret
    obtain ⟨h1, h2, h3⟩ := HR.out
    rw [List.nil_append] at h1
    refine ⟨v', rfl, h1, ((Chg.refl No w).alloc (.cells #[] 5)).trans h2 (fun k hk e => by simp [Value.ownBlock] at e; omega), fun k hk => ?_⟩
    rcases h3 with h3 | ⟨b, h3, h4⟩
    · rw [h3] at hk; simp [Value.ownBlock] at hk; omega
    · rw [h3] at hk; cases hk; simp at h4; omega

set_option maxHeartbeats 800000 in
theorem clone_ty (S : Blocks) (w : World) (v : Value) (xs : List Ty) (h : SQ 2 RTy S w v xs) (hS : ∀ k, S k → k < w.heap.size) (hl : xs.length * 24 ≤ 140737488351232) :
    Calls Tryz.prog 69 #[v] w (Cloned 26 2 RTy S w xs) := by
  have qT : ∀ (w : World) (a : Option Addr) (n c n' c' : Nat), (binOp .eql 24 (.slice a n c) (.slice none n' c')).run Tryz.prog w = .ok (.bool a.isNone) w := fun w a n c n' c' => Lib.run_eql_slice_nil w _ _ a n c n' c' Tryz.underlying24
  obtain ⟨a, cap, hv, hc, hn⟩ := h.form
  subst hv
  cases a with
  | none =>
    have h0 : xs = [] := List.eq_nil_of_length_eq_zero (by have := hn rfl; omega)
    subst h0
    go_enter Tryz.func69, Tryz.ntmps69
    go_wp2
    go_ret
    exact ⟨_, rfl, OQ.nil _ _ _ _, Chg.refl _ _, fun k hk => by cases hk⟩
  | some p =>
    have h' := h.new goodTy ((Chg.refl No w).alloc (.cells #[] 26))
    obtain ⟨css, hE, hsrc⟩ := h'.src goodTy (by decide) (P := Tryz.prog) Tryz.underlying24
    have hm := made_empty w 26 2 RTy S
    have HH := Lib.hid (And.intro hE (And.intro hsrc hm)); clear hE hsrc hm h' hn h
    go_enter Tryz.func69, Tryz.ntmps69
    go_wp2_with (at_builtin; refine wpList_appQ rfl (.tmp 5) (.tmp 6) 24 24 rfl 26 (.agg #[zInt, zStr]) 24 Tryz.underlying24 info_ty rfl (by decide) goodTy (.slice (some ⟨w.heap.size, 0, none⟩) 0 0) [] rfl HH.out.2.2 (fun k hk e => by have := hS k hk; simp [Value.ownBlock] at e; omega) (.slice (some p) xs.length cap) xs css rfl HH.out.1 HH.out.2.1 (by simp only [List.length_nil]; unfold maxLen; omega) (by simp only [List.length_nil]; omega) ?_; intro v' w1 h1 h2 h3; have HR := Lib.hid (And.intro h1 (And.intro h2 h3)); clear h1 h2 h3)
    go_ret
    obtain ⟨h1, h2, h3⟩ := HR.out
    rw [List.nil_append] at h1
    refine ⟨v', rfl, h1, ((Chg.refl No w).alloc (.cells #[] 26)).trans h2 (fun k hk e => by simp [Value.ownBlock] at e; omega), fun k hk => ?_⟩
    rcases h3 with h3 | ⟨b, h3, h4⟩
    · rw [h3] at hk; simp [Value.ownBlock] at hk; omega
    · rw [h3] at hk; cases hk; simp at h4; omega

set_option maxHeartbeats 800000 in
theorem clone_fd (S : Blocks) (w : World) (v : Value) (xs : List Fd) (h : SQ 4 RFd S w v xs) (hS : ∀ k, S k → k < w.heap.size) (hl : xs.length * 48 ≤ 140737488351232) :
    Calls Tryz.prog 67 #[v] w (Cloned 41 4 RFd S w xs) := by
  have qT : ∀ (w : World) (a : Option Addr) (n c n' c' : Nat), (binOp .eql 35 (.slice a n c) (.slice none n' c')).run Tryz.prog w = .ok (.bool a.isNone) w := fun w a n c n' c' => Lib.run_eql_slice_nil w _ _ a n c n' c' Tryz.underlying35
  obtain ⟨a, cap, hv, hc, hn⟩ := h.form
  subst hv
  cases a with
  | none =>
    have h0 : xs = [] := List.eq_nil_of_length_eq_zero (by have := hn rfl; omega)
    subst h0
    go_enter Tryz.func67, Tryz.ntmps67
    go_wp2
    go_ret
    exact ⟨_, rfl, OQ.nil _ _ _ _, Chg.refl _ _, fun k hk => by cases hk⟩
  | some p =>
    have h' := h.new goodFd ((Chg.refl No w).alloc (.cells #[] 41))
    obtain ⟨css, hE, hsrc⟩ := h'.src goodFd (by decide) (P := Tryz.prog) Tryz.underlying35
    have hm := made_empty w 41 4 RFd S
    have HH := Lib.hid (And.intro hE (And.intro hsrc hm)); clear hE hsrc hm h' hn h
    go_enter Tryz.func67, Tryz.ntmps67
    go_wp2_with (at_builtin; refine wpList_appQ rfl (.tmp 5) (.tmp 6) 35 35 rfl 41 (.agg #[zInt, zStr, zInt, zStr]) 48 Tryz.underlying35 info_fd rfl (by decide) goodFd (.slice (some ⟨w.heap.size, 0, none⟩) 0 0) [] rfl HH.out.2.2 (fun k hk e => by have := hS k hk; simp [Value.ownBlock] at e; omega) (.slice (some p) xs.length cap) xs css rfl HH.out.1 HH.out.2.1 (by simp only [List.length_nil]; unfold maxLen; omega) (by simp only [List.length_nil]; omega) ?_; intro v' w1 h1 h2 h3; have HR := Lib.hid (And.intro h1 (And.intro h2 h3)); clear h1 h2 h3)
    go_ret
    obtain ⟨h1, h2, h3⟩ := HR.out
    rw [List.nil_append] at h1
    refine ⟨v', rfl, h1, ((Chg.refl No w).alloc (.cells #[] 41)).trans h2 (fun k hk e => by simp [Value.ownBlock] at e; omega), fun k hk => ?_⟩
    rcases h3 with h3 | ⟨b, h3, h4⟩
    · rw [h3] at hk; simp [Value.ownBlock] at hk; omega
    · rw [h3] at hk; cases hk; simp at h4; omega

set_option maxHeartbeats 800000 in
theorem clone_hd (S : Blocks) (w : World) (v : Value) (xs : List Hd) (h : SQ 4 RHd S w v xs) (hS : ∀ k, S k → k < w.heap.size) (hl : xs.length * 40 ≤ 140737488351232) :
    Calls Tryz.prog 71 #[v] w (Cloned 132 4 RHd S w xs) := by
  have qT : ∀ (w : World) (a : Option Addr) (n c n' c' : Nat), (binOp .eql 30 (.slice a n c) (.slice none n' c')).run Tryz.prog w = .ok (.bool a.isNone) w := fun w a n c n' c' => Lib.run_eql_slice_nil w _ _ a n c n' c' Tryz.underlying30
  obtain ⟨a, cap, hv, hc, hn⟩ := h.form
  subst hv
  cases a with
  | none =>
    have h0 : xs = [] := List.eq_nil_of_length_eq_zero (by have := hn rfl; omega)
    subst h0
    go_enter Tryz.func71, Tryz.ntmps71
    go_wp2
    go_ret
    exact ⟨_, rfl, OQ.nil _ _ _ _, Chg.refl _ _, fun k hk => by cases hk⟩
  | some p =>
    have h' := h.new goodHd ((Chg.refl No w).alloc (.cells #[] 132))
    obtain ⟨css, hE, hsrc⟩ := h'.src goodHd (by decide) (P := Tryz.prog) Tryz.underlying30
    have hm := made_empty w 132 4 RHd S
    have HH := Lib.hid (And.intro hE (And.intro hsrc hm)); clear hE hsrc hm h' hn h
    go_enter Tryz.func71, Tryz.ntmps71
    go_wp2_with (at_builtin; refine wpList_appQ rfl (.tmp 5) (.tmp 6) 30 30 rfl 132 (.agg #[zInt, zInt, zInt, zStr]) 40 Tryz.underlying30 info_hd rfl (by decide) goodHd (.slice (some ⟨w.heap.size, 0, none⟩) 0 0) [] rfl HH.out.2.2 (fun k hk e => by have := hS k hk; simp [Value.ownBlock] at e; omega) (.slice (some p) xs.length cap) xs css rfl HH.out.1 HH.out.2.1 (by simp only [List.length_nil]; unfold maxLen; omega) (by simp only [List.length_nil]; omega) ?_; intro v' w1 h1 h2 h3; have HR := Lib.hid (And.intro h1 (And.intro h2 h3)); clear h1 h2 h3)
    go_ret
    obtain ⟨h1, h2, h3⟩ := HR.out
    rw [List.nil_append] at h1
    refine ⟨v', rfl, h1, ((Chg.refl No w).alloc (.cells #[] 132)).trans h2 (fun k hk e => by simp [Value.ownBlock] at e; omega), fun k hk => ?_⟩
    rcases h3 with h3 | ⟨b, h3, h4⟩
    · rw [h3] at hk; simp [Value.ownBlock] at hk; omega
    · rw [h3] at hk; cases hk; simp at h4; omega

set_option maxHeartbeats 800000 in
theorem clone_mt (S : Blocks) (w : World) (v : Value) (xs : List Mt) (h : SQ 10 RMt S w v xs) (hS : ∀ k, S k → k < w.heap.size) (hl : xs.length * 144 ≤ 140737488351232) :
    Calls Tryz.prog 68 #[v] w (Cloned 32 10 RMt S w xs) := by
  have qT : ∀ (w : World) (a : Option Addr) (n c n' c' : Nat), (binOp .eql 33 (.slice a n c) (.slice none n' c')).run Tryz.prog w = .ok (.bool a.isNone) w := fun w a n c n' c' => Lib.run_eql_slice_nil w _ _ a n c n' c' Tryz.underlying33
  obtain ⟨a, cap, hv, hc, hn⟩ := h.form
  subst hv
  cases a with
  | none =>
    have h0 : xs = [] := List.eq_nil_of_length_eq_zero (by have := hn rfl; omega)
    subst h0
    go_enter Tryz.func68, Tryz.ntmps68
    go_wp2
    go_ret
    exact ⟨_, rfl, OQ.nil _ _ _ _, Chg.refl _ _, fun k hk => by cases hk⟩
  | some p =>
    have h' := h.new goodMt ((Chg.refl No w).alloc (.cells #[] 32))
    obtain ⟨css, hE, hsrc⟩ := h'.src goodMt (by decide) (P := Tryz.prog) Tryz.underlying33
    have hm := made_empty w 32 10 RMt S
    have HH := Lib.hid (And.intro hE (And.intro hsrc hm)); clear hE hsrc hm h' hn h
    go_enter Tryz.func68, Tryz.ntmps68
    go_wp2_with (at_builtin; refine wpList_appQ rfl (.tmp 5) (.tmp 6) 33 33 rfl 32 (.agg #[zInt, zStr, zNil, .bool false, zInt, zStr, zInt, zInt, zNil, zNil]) 144 Tryz.underlying33 info_mt rfl (by decide) goodMt (.slice (some ⟨w.heap.size, 0, none⟩) 0 0) [] rfl HH.out.2.2 (fun k hk e => by have := hS k hk; simp [Value.ownBlock] at e; omega) (.slice (some p) xs.length cap) xs css rfl HH.out.1 HH.out.2.1 (by simp only [List.length_nil]; unfold maxLen; omega) (by simp only [List.length_nil]; omega) ?_; intro v' w1 h1 h2 h3; have HR := Lib.hid (And.intro h1 (And.intro h2 h3)); clear h1 h2 h3)
    go_ret
    obtain ⟨h1, h2, h3⟩ := HR.out
    rw [List.nil_append] at h1
    refine ⟨v', rfl, h1, ((Chg.refl No w).alloc (.cells #[] 32)).trans h2 (fun k hk e => by simp [Value.ownBlock] at e; omega), fun k hk => ?_⟩
    rcases h3 with h3 | ⟨b, h3, h4⟩
    · rw [h3] at hk; simp [Value.ownBlock] at hk; omega
    · rw [h3] at hk; cases hk; simp at h4; omega

set_option maxHeartbeats 800000 in
theorem clone_cl (S : Blocks) (w : World) (v : Value) (xs : List Cl) (h : SQ 6 RCl S w v xs) (hS : ∀ k, S k → k < w.heap.size) (hl : xs.length * 112 ≤ 140737488351232) :
    Calls Tryz.prog 66 #[v] w (Cloned 37 6 RCl S w xs) := by
  have qT : ∀ (w : World) (a : Option Addr) (n c n' c' : Nat), (binOp .eql 38 (.slice a n c) (.slice none n' c')).run Tryz.prog w = .ok (.bool a.isNone) w := fun w a n c n' c' => Lib.run_eql_slice_nil w _ _ a n c n' c' Tryz.underlying38
  obtain ⟨a, cap, hv, hc, hn⟩ := h.form
  subst hv
  cases a with
  | none =>
    have h0 : xs = [] := List.eq_nil_of_length_eq_zero (by have := hn rfl; omega)
    subst h0
    go_enter Tryz.func66, Tryz.ntmps66
    go_wp2
    go_ret
    exact ⟨_, rfl, OQ.nil _ _ _ _, Chg.refl _ _, fun k hk => by cases hk⟩
  | some p =>
    have h' := h.new goodCl ((Chg.refl No w).alloc (.cells #[] 37))
    obtain ⟨css, hE, hsrc⟩ := h'.src goodCl (by decide) (P := Tryz.prog) Tryz.underlying38
    have hm := made_empty w 37 6 RCl S
    have HH := Lib.hid (And.intro hE (And.intro hsrc hm)); clear hE hsrc hm h' hn h
    go_enter Tryz.func66, Tryz.ntmps66
    go_wp2_with (at_builtin; refine wpList_appQ rfl (.tmp 5) (.tmp 6) 38 38 rfl 37 (.agg #[zInt, zStr, zStr, zNil, zNil, zNil]) 112 Tryz.underlying38 info_cl rfl (by decide) goodCl (.slice (some ⟨w.heap.size, 0, none⟩) 0 0) [] rfl HH.out.2.2 (fun k hk e => by have := hS k hk; simp [Value.ownBlock] at e; omega) (.slice (some p) xs.length cap) xs css rfl HH.out.1 HH.out.2.1 (by simp only [List.length_nil]; unfold maxLen; omega) (by simp only [List.length_nil]; omega) ?_; intro v' w1 h1 h2 h3; have HR := Lib.hid (And.intro h1 (And.intro h2 h3)); clear h1 h2 h3)
    go_ret
    obtain ⟨h1, h2, h3⟩ := HR.out
    rw [List.nil_append] at h1
    refine ⟨v', rfl, h1, ((Chg.refl No w).alloc (.cells #[] 37)).trans h2 (fun k hk e => by simp [Value.ownBlock] at e; omega), fun k hk => ?_⟩
    rcases h3 with h3 | ⟨b, h3, h4⟩
    · rw [h3] at hk; simp [Value.ownBlock] at hk; omega
    · rw [h3] at hk; cases hk; simp at h4; omega

set_option maxHeartbeats 800000 in
theorem clone_en (S : Blocks) (w : World) (v : Value) (xs : List En) (h : SQ 6 REn S w v xs) (hS : ∀ k, S k → k < w.heap.size) (hl : xs.length * 56 ≤ 140737488351232) :
    Calls Tryz.prog 65 #[v] w (Cloned 122 6 REn S w xs) := by
  have qT : ∀ (w : World) (a : Option Addr) (n c n' c' : Nat), (binOp .eql 45 (.slice a n c) (.slice none n' c')).run Tryz.prog w = .ok (.bool a.isNone) w := fun w a n c n' c' => Lib.run_eql_slice_nil w _ _ a n c n' c' Tryz.underlying45
  obtain ⟨a, cap, hv, hc, hn⟩ := h.form
  subst hv
  cases a with
  | none =>
    have h0 : xs = [] := List.eq_nil_of_length_eq_zero (by have := hn rfl; omega)
    subst h0
    go_enter Tryz.func65, Tryz.ntmps65
    go_wp2
    go_ret
    exact ⟨_, rfl, OQ.nil _ _ _ _, Chg.refl _ _, fun k hk => by cases hk⟩
  | some p =>
    have h' := h.new goodEn ((Chg.refl No w).alloc (.cells #[] 122))
    obtain ⟨css, hE, hsrc⟩ := h'.src goodEn (by decide) (P := Tryz.prog) Tryz.underlying45
    have hm := made_empty w 122 6 REn S
    have HH := Lib.hid (And.intro hE (And.intro hsrc hm)); clear hE hsrc hm h' hn h
    go_enter Tryz.func65, Tryz.ntmps65
    go_wp2_with (at_builtin; refine wpList_appQ rfl (.tmp 5) (.tmp 6) 45 45 rfl 122 (.agg #[zInt, zStr, zInt, zInt, zInt, zInt]) 56 Tryz.underlying45 info_en rfl (by decide) goodEn (.slice (some ⟨w.heap.size, 0, none⟩) 0 0) [] rfl HH.out.2.2 (fun k hk e => by have := hS k hk; simp [Value.ownBlock] at e; omega) (.slice (some p) xs.length cap) xs css rfl HH.out.1 HH.out.2.1 (by simp only [List.length_nil]; unfold maxLen; omega) (by simp only [List.length_nil]; omega) ?_; intro v' w1 h1 h2 h3; have HR := Lib.hid (And.intro h1 (And.intro h2 h3)); clear h1 h2 h3)
    go_ret
    obtain ⟨h1, h2, h3⟩ := HR.out
    rw [List.nil_append] at h1
    refine ⟨v', rfl, h1, ((Chg.refl No w).alloc (.cells #[] 122)).trans h2 (fun k hk e => by simp [Value.ownBlock] at e; omega), fun k hk => ?_⟩
    rcases h3 with h3 | ⟨b, h3, h4⟩
    · rw [h3] at hk; simp [Value.ownBlock] at hk; omega
    · rw [h3] at hk; cases hk; simp at h4; omega

end Go.Proofs.YtgmmclcpfmnoiaaGreatDoor

namespace Go.Proofs.YtgmmclcpfmnoiaaGreatDoor
open Go.RowKit

set_option maxHeartbeats 1600000 in
theorem letter_c (w : World) (n : Int) (first : Bool) (h0 : 0 ≤ n) (h1 : n ≤ 255) :
    Calls Tryz.prog 136 #[.int .u8 n, .bool first] w fun e w' => e = .returned (.bool (letterZ n first)) ∧ w' = w := by
  by_cases f1 : 97 ≤ n <;> by_cases f2 : n ≤ 122 <;> by_cases f3 : 65 ≤ n <;> by_cases f4 : n ≤ 90 <;> by_cases f5 : 48 ≤ n <;> by_cases f6 : n ≤ 57 <;> by_cases f7 : n = 95 <;> try omega
  all_goals
    first
      | (subst f7)
      | (have f8 : (n == 95) = false := by simp [f7])
  all_goals cases first
  all_goals
    go_enter Tryz.func136, Tryz.ntmps136
    go_wp2
    go_ret
    exact ⟨ret_b (by unfold letterZ; first | (simp; omega) | simp), rfl⟩

set_option maxRecDepth 100000 in
set_option maxHeartbeats 1600000 in
theorem name_c (w : World) (s : Bs) (hl : s.length ≤ 9223372036854775807) :
    Calls Tryz.prog 113 #[strV s] w fun e w' => e = .returned (.bool (nameB s)) ∧ w' = w := by
  go_enter Tryz.func113, Tryz.ntmps113
  go_wp2
  go_loopw [6] (fun i wr => ∃ k : Nat, k ≤ s.length ∧ i = .int .i64 k ∧ wr = w ∧ RowKit.Hid (∀ j, j < k → okAt s j = true)) (fun i _ => s.length - (intOf i).toNat)
  case atStart => exact ⟨0, Nat.zero_le _, rfl, rfl, Lib.hid (fun j hj => absurd hj (Nat.not_lt_zero _))⟩
  case round =>
    obtain ⟨k, hk, rfl, rfl, hb⟩ := hrel
    by_cases hlt : k < s.length
    · have HO : ∀ hx : k < (ByteArray.mk s.toArray).size, letterZ (((ByteArray.mk s.toArray)[k]'hx).toNat : Int) ((k : Int) == 0) = okAt s k := fun hx => by
        unfold okAt
        rw [show s.getD k 0 = s[k] from by simp [hlt]]
        congr 1
        cases k <;> simp
        omega
      have HO' := Lib.hid HO; clear HO
      cases hp : okAt s k with
      | true =>
        have HP := Lib.hid hp; clear hp
        go_wp2_with fail
        refine (letter_c _ _ _ (by omega) (by have := UInt8.toNat_lt ((ByteArray.mk s.toArray)[k]'(by simpa [ByteArray.size] using hlt)); omega)).mono ?_
        rintro e w1 ⟨he, rfl⟩
        rw [HO'.out, HP.out] at he
        subst he
        go_wp2
        go_roundw
        case rel => exact ⟨k + 1, by omega, by go_num, by trivial, Lib.hid (fun j hj => by
          by_cases e : j = k
          · subst e; exact HP.out
          · exact hb.out j (by omega))⟩
        case measure => simp [intOf]; omega
      | false =>
        have HP := Lib.hid hp; clear hp
        go_wp2_with fail
        refine (letter_c _ _ _ (by omega) (by have := UInt8.toNat_lt ((ByteArray.mk s.toArray)[k]'(by simpa [ByteArray.size] using hlt)); omega)).mono ?_
        rintro e w1 ⟨he, rfl⟩
        rw [HO'.out, HP.out] at he
        subst he
        go_wp2
        go_ret
        exact ⟨ret_b (nameB_bad hlt HP.out), rfl⟩
    · have HN := Lib.hid (nameB_all (s := s) (fun j hj => hb.out j (by omega)))
      go_wp2
      all_goals go_ret
      all_goals (refine ⟨ret_b ?_, rfl⟩; rw [HN.out])
      all_goals first
        | (subst_vars; rfl)
        | (cases s <;> simp_all <;> omega)
        | (cases s <;> simp_all)

end Go.Proofs.YtgmmclcpfmnoiaaGreatDoor
