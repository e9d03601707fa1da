/-
  Package desc, walked: letter, Name.
-/
import Derived.Test.YtgmmclcpfmnoiaaGreatDoorDescSpec
import Derived.Test.YtgmmclcpfmnoiaaGreatDoorFinds
namespace Go.Proofs.YtgmmclcpfmnoiaaGreatDoor
open Go.RowKit

set_option maxHeartbeats 1600000 in
theorem letter_c (w : World) (n : Int) (first : Bool) (h0 : 0 ≤ n) (h1 : n ≤ 255) :
    Calls Tryz.prog 136 #[.int .u8 n, .bool first] w fun e w' => e = .returned (.bool (letterZ n first)) ∧ w' = w := by
  by_cases f1 : 97 ≤ n <;> by_cases f2 : n ≤ 122 <;> by_cases f3 : 65 ≤ n <;> by_cases f4 : n ≤ 90 <;> by_cases f5 : 48 ≤ n <;> by_cases f6 : n ≤ 57 <;> by_cases f7 : n = 95 <;> try omega
  all_goals
    first
      | (subst f7)
      | (have f8 : (n == 95) = false := by simp [f7])
  all_goals cases first
  all_goals
    go_enter Tryz.func136, Tryz.ntmps136
    go_wp2
    go_ret
    exact ⟨ret_b (by unfold letterZ; first | (simp; omega) | simp), rfl⟩

set_option maxRecDepth 100000 in
set_option maxHeartbeats 1600000 in
theorem name_c (w : World) (s : Bs) (hl : s.length ≤ 9223372036854775807) :
    Calls Tryz.prog 113 #[strV s] w fun e w' => e = .returned (.bool (nameB s)) ∧ w' = w := by
  go_enter Tryz.func113, Tryz.ntmps113
  go_wp2
  go_loopw [6] (fun i wr => ∃ k : Nat, k ≤ s.length ∧ i = .int .i64 k ∧ wr = w ∧ RowKit.Hid (∀ j, j < k → okAt s j = true)) (fun i _ => s.length - (intOf i).toNat)
  case atStart => exact ⟨0, Nat.zero_le _, rfl, rfl, Lib.hid (fun j hj => absurd hj (Nat.not_lt_zero _))⟩
  case round =>
    obtain ⟨k, hk, rfl, rfl, hb⟩ := hrel
    by_cases hlt : k < s.length
    · have HO : ∀ hx : k < (ByteArray.mk s.toArray).size, letterZ (((ByteArray.mk s.toArray)[k]'hx).toNat : Int) ((k : Int) == 0) = okAt s k := fun hx => by
        unfold okAt
        rw [show s.getD k 0 = s[k] from by simp [hlt]]
        congr 1
        cases k <;> simp
        omega
      have HO' := Lib.hid HO; clear HO
      cases hp : okAt s k with
      | true =>
        have HP := Lib.hid hp; clear hp
        go_wp2_with fail
        refine (letter_c _ _ _ (by omega) (by have := UInt8.toNat_lt ((ByteArray.mk s.toArray)[k]'(by simpa [ByteArray.size] using hlt)); omega)).mono ?_
        rintro e w1 ⟨he, rfl⟩
        rw [HO'.out, HP.out] at he
        subst he
        go_wp2
        go_roundw
        case rel => exact ⟨k + 1, by omega, by go_num, by trivial, Lib.hid (fun j hj => by
          by_cases e : j = k
          · subst e; exact HP.out
          · exact hb.out j (by omega))⟩
        case measure => simp [intOf]; omega
      | false =>
        have HP := Lib.hid hp; clear hp
        go_wp2_with fail
        refine (letter_c _ _ _ (by omega) (by have := UInt8.toNat_lt ((ByteArray.mk s.toArray)[k]'(by simpa [ByteArray.size] using hlt)); omega)).mono ?_
        rintro e w1 ⟨he, rfl⟩
        rw [HO'.out, HP.out] at he
        subst he
        go_wp2
        go_ret
        exact ⟨ret_b (nameB_bad hlt HP.out), rfl⟩
    · have HN := Lib.hid (nameB_all (s := s) (fun j hj => hb.out j (by omega)))
      go_wp2
      all_goals go_ret
      all_goals (refine ⟨ret_b ?_, rfl⟩; rw [HN.out])
      all_goals first
        | (subst_vars; rfl)
        | (cases s <;> simp_all <;> omega)
        | (cases s <;> simp_all)

end Go.Proofs.YtgmmclcpfmnoiaaGreatDoor
