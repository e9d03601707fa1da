/-
  Package desc, walked: types.
-/
import Derived.Test.YtgmmclcpfmnoiaaGreatDoorEqV
import Derived.Test.YtgmmclcpfmnoiaaGreatDoorDesc
namespace Go.Proofs.YtgmmclcpfmnoiaaGreatDoor
open Go.RowKit
attribute [local go_sem high] eqTy_run

theorem ne_isEmpty {s : Bs} (h : s ≠ []) : List.isEmpty s = false := by cases s with
  | nil => exact absurd rfl h
  | cons => rfl
/-- A type's value. -/
abbrev tyV (t : Ty) : Value := .agg #[.int .i64 t.dims, strV t.name]
theorem number_c (w : World) (d : Int) (n : Bs) :
    Calls Tryz.prog 50 #[.agg #[.int .i64 d, strV n]] w fun e w' => e = .returned (.bool (decide ((⟨d, n⟩ : Ty) = zTy))) ∧ w' = w.alloc (.cells #[.int .i64 d, strV n] 26) := by
  go_enter Tryz.func50, Tryz.ntmps50
  go_wp2
  go_ret
  exact ⟨ret_b (tyEq_mk d 0 n []).symm, rfl⟩

set_option maxHeartbeats 1600000 in
theorem tyCheck_c (w : World) (d : Int) (n : Bs) (hl : n.length ≤ 9223372036854775807) :
    Calls Tryz.prog 86 #[.agg #[.int .i64 d, strV n]] w fun e w' => e = .returned (.int .i64 (tyErr ⟨d, n⟩)) ∧ w' = w.alloc (.cells #[.int .i64 d, strV n] 26) := by
  by_cases h1 : d < 0
  · go_enter Tryz.func86, Tryz.ntmps86
    go_wp2
    go_ret
    exact ⟨ret_int (by unfold tyErr; simp [h1]), rfl⟩
  by_cases h2 : 8 < d
  · go_enter Tryz.func86, Tryz.ntmps86
    go_wp2
    go_ret
    exact ⟨ret_int (by unfold tyErr; simp [h2]), rfl⟩
  by_cases h3 : n = []
  · subst h3
    go_enter Tryz.func86, Tryz.ntmps86
    go_wp2
    go_ret
    exact ⟨ret_int (by unfold tyErr; simp [h1, h2]), rfl⟩
  · have he := ne_isEmpty h3
    cases hb : nameB n with
    | true =>
      have HB := Lib.hid (And.intro hb h3); clear hb h3
      go_enter Tryz.func86, Tryz.ntmps86
      go_wp2_with fail
      refine (name_c _ n hl).mono ?_
      rintro e w1 ⟨hr, rfl⟩
      rw [HB.out.1] at hr
      subst hr
      go_wp2
      go_ret
      exact ⟨ret_int (by unfold tyErr; simp [h1, h2, HB.out.1]), rfl⟩
    | false =>
      have HB := Lib.hid (And.intro hb h3); clear hb h3
      go_enter Tryz.func86, Tryz.ntmps86
      go_wp2_with fail
      refine (name_c _ n hl).mono ?_
      rintro e w1 ⟨hr, rfl⟩
      rw [HB.out.1] at hr
      subst hr
      go_wp2
      go_ret
      exact ⟨ret_int (by unfold tyErr; simp [h1, h2, HB.out.1, HB.out.2]), rfl⟩

end Go.Proofs.YtgmmclcpfmnoiaaGreatDoor
