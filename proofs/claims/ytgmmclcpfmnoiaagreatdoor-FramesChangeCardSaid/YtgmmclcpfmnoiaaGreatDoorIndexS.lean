/-
  slices.Index, Contains of strings, walked.
-/
import Derived.Test.YtgmmclcpfmnoiaaGreatDoorFinds
namespace Go.Proofs.YtgmmclcpfmnoiaaGreatDoor
open Go.RowKit

set_option maxRecDepth 100000 in
set_option maxHeartbeats 1600000 in
theorem index_str (S : Blocks) (w : World) (v : Value) (xs : List Bs) (h : SQ 1 RStr S w v xs) (hl : xs.length ≤ 9223372036854775807) (s : Bs) :
    Calls Tryz.prog 87 #[v, strV s] w fun en w' => en = .returned (.int .i64 (idxZ (fun x => x == s) xs)) ∧ Chg No w w' := by
  obtain ⟨a, cap, hv, -, -⟩ := h.form
  have H := Lib.hid h; clear h
  subst hv
  go_enter Tryz.func87, Tryz.ntmps87
  go_wp2
  go_loopw [8] (fun i wr => ∃ k : Nat, k ≤ xs.length ∧ i = .int .i64 k ∧ Chg No w wr ∧ RowKit.Hid (∀ (j : Nat) (hj : j < xs.length), j < k → (xs[j] == s) = false)) (fun i _ => xs.length - (intOf i).toNat)
  case atStart => exact ⟨0, Nat.zero_le _, rfl, Chg.refl _ _, Lib.hid (fun j _ hj => absurd hj (Nat.not_lt_zero _))⟩
  case round =>
    obtain ⟨k, hk, rfl, hc, hb⟩ := hrel
    by_cases hlt : k < xs.length
    · have HX := H.out.new goodStr hc
      obtain ⟨b, o, cs, rfl, hcl, hR, hbl, hsb, hcell⟩ := SQ.cells HX k hlt
      clear HX
      have hR' := hR; clear hR
      obtain rfl := hR'
      clear hcl
      have g0 := hcell 0 _ rfl
      rw [Nat.mul_one, Nat.add_zero] at g0
      clear hcell
      cases hp : xs[k] == s with
      | true =>
        have hq : (s == xs[k]) = true := by rw [eq_of_beq hp]; simp
        have HP := Lib.hid hp; clear hp
        go_wp2
        go_ret
        exact ⟨ret_int (idxZ_hit (p := fun x => x == s) hlt HP.out hb.out), hc⟩
      | false =>
        have hq : (s == xs[k]) = false := beq_eq_false_iff_ne.2 (fun e => by rw [e] at hp; simp at hp)
        have HP := Lib.hid hp; clear hp
        go_wp2
        go_roundw
        case rel => exact ⟨k + 1, by omega, by go_num, hc, Lib.hid (fun j hj hjk => by
          by_cases e : j = k
          · subst e; exact HP.out
          · exact hb.out j hj (by omega))⟩
        case measure => simp [intOf]; omega
    · go_wp2
      go_ret
      exact ⟨ret_int (idxZ_miss (fun j hj => hb.out j hj (by omega))), hc⟩

theorem contains_str (S : Blocks) (w : World) (v : Value) (xs : List Bs) (h : SQ 1 RStr S w v xs) (hl : xs.length ≤ 9223372036854775807) (s : Bs) :
    Calls Tryz.prog 51 #[v, strV s] w fun en w' => en = .returned (.bool (xs.any fun x => x == s)) ∧ Chg No w w' := by
  go_enter Tryz.func51, Tryz.ntmps51
  go_wp2_with fail
  refine (index_str S w v xs h hl s).mono ?_
  rintro e w1 ⟨rfl, c1⟩
  go_wp2
  go_ret
  exact ⟨ret_b idxZ_any.symm, c1⟩

end Go.Proofs.YtgmmclcpfmnoiaaGreatDoor
