/-
  '==' of structs, as one Bool each.
-/
import Derived.Test.YtgmmclcpfmnoiaaGreatDoorApi
import Derived.Test.YtgmmclcpfmnoiaaGreatDoorFinds
import Derived.Laws.StructEq
import Derived.WalkKit
namespace Go.Proofs.YtgmmclcpfmnoiaaGreatDoor
open Go.RowKit

section
variable {P : Program} {d : Nat} {xs ys : Array Value} {f : Field} {fs : List Field} {a b : Value} {r s : Bool} {w : World}
theorem eqFld (hn : (f.name == "_") = false) (ha : (part f.type xs f.offset).run P w = .ok a w) (hb : (part f.type ys f.offset).run P w = .ok b w) (he : (Op.equalIn d f.type a b).run P w = .ok r w) (hr : (Op.eqFields d xs ys fs).run P w = .ok s w) : (Op.eqFields d xs ys (f :: fs)).run P w = .ok (r && s) w := by
  have hn' : f.name ≠ "_" := by simpa using hn
  rw [Op.eqFields]
  simp only [if_pos hn', Sem.run_bind, ha, hb, he, Result.andThen_ok]
  cases r
  · simp
  · simpa using hr
theorem eqNo : (Op.eqFields d xs ys []).run P w = .ok true w := by simp [Op.eqFields]
theorem eqOf {t : TypeId} {fs : Array Field} (hu : P.underlying t = some (.struct fs)) (hp : P.stoodInHeld t = false) (h : (Op.eqFields d xs ys fs.toList).run P w = .ok r w) : (Op.equalIn (d + 1) t (.agg xs) (.agg ys)).run P w = .ok r w := by
  have hf : P.fieldsOf t = fs := by simp [Program.fieldsOf, hu]
  rw [run_equalIn_struct (P := P) w d t xs ys (by rw [hf]; exact hu) hp, hf]
  exact h
end
theorem str_eq (a b : Bs) : ((ByteArray.mk a.toArray).toList == (ByteArray.mk b.toArray).toList) = (a == b) := by
  rw [ByteArray.toList_eq, ByteArray.toList_eq]
/-- Are two types one? -/
def tyEq (d : Int) (n : ByteArray) (d' : Int) (n' : ByteArray) : Bool := (d == d') && ((n.toList == n'.toList) && true)
theorem tyEq_mk (d d' : Int) (n n' : Bs) : tyEq d ⟨n.toArray⟩ d' ⟨n'.toArray⟩ = decide ((⟨d, n⟩ : Ty) = ⟨d', n'⟩) := by
  unfold tyEq
  rw [str_eq, Bool.eq_iff_iff]
  simp
theorem eqTy_run (d : Nat) (w : World) (x0 y0 : Int) (x1 y1 : ByteArray) :
    (Op.equalIn (d + 2) 26 (.agg #[.int .i64 x0, .string x1]) (.agg #[.int .i64 y0, .string y1])).run Tryz.prog w = .ok (tyEq x0 x1 y0 y1) w := by
  refine eqOf Tryz.underlying26 (by kernel_rfl) ?_
  refine eqFld (by rfl) (by go_simp; rfl) (by go_simp; rfl) (by go_simp) ?_
  exact eqFld (by rfl) (by go_simp; rfl) (by go_simp; rfl) (by go_simp) eqNo

end Go.Proofs.YtgmmclcpfmnoiaaGreatDoor

namespace Go.Proofs.YtgmmclcpfmnoiaaGreatDoor
open Go.RowKit
attribute [local go_sem high] eqTy_run

theorem ne_isEmpty {s : Bs} (h : s ≠ []) : List.isEmpty s = false := by cases s with
  | nil => exact absurd rfl h
  | cons => rfl
/-- A type's value. -/
abbrev tyV (t : Ty) : Value := .agg #[.int .i64 t.dims, strV t.name]
theorem number_c (w : World) (d : Int) (n : Bs) :
    Calls Tryz.prog 50 #[.agg #[.int .i64 d, strV n]] w fun e w' => e = .returned (.bool (decide ((⟨d, n⟩ : Ty) = zTy))) ∧ w' = w.alloc (.cells #[.int .i64 d, strV n] 26) := by
  go_enter Tryz.func50, Tryz.ntmps50
  go_wp2
  go_ret
  exact ⟨ret_b (tyEq_mk d 0 n []).symm, rfl⟩

set_option maxHeartbeats 1600000 in
theorem tyCheck_c (w : World) (d : Int) (n : Bs) (hl : n.length ≤ 9223372036854775807) :
    Calls Tryz.prog 86 #[.agg #[.int .i64 d, strV n]] w fun e w' => e = .returned (.int .i64 (tyErr ⟨d, n⟩)) ∧ w' = w.alloc (.cells #[.int .i64 d, strV n] 26) := by
  by_cases h1 : d < 0
  · go_enter Tryz.func86, Tryz.ntmps86
    go_wp2
    go_ret
    exact ⟨ret_int (by unfold tyErr; simp [h1]), rfl⟩
  by_cases h2 : 8 < d
  · go_enter Tryz.func86, Tryz.ntmps86
    go_wp2
    go_ret
    exact ⟨ret_int (by unfold tyErr; simp [h2]), rfl⟩
  by_cases h3 : n = []
  · subst h3
    go_enter Tryz.func86, Tryz.ntmps86
    go_wp2
    go_ret
    exact ⟨ret_int (by unfold tyErr; simp [h1, h2]), rfl⟩
  · have he := ne_isEmpty h3
    cases hb : nameB n with
    | true =>
      have HB := Lib.hid (And.intro hb h3); clear hb h3
      go_enter Tryz.func86, Tryz.ntmps86
      go_wp2_with fail
      refine (name_c _ n hl).mono ?_
      rintro e w1 ⟨hr, rfl⟩
      rw [HB.out.1] at hr
      subst hr
      go_wp2
      go_ret
      exact ⟨ret_int (by unfold tyErr; simp [h1, h2, HB.out.1]), rfl⟩
    | false =>
      have HB := Lib.hid (And.intro hb h3); clear hb h3
      go_enter Tryz.func86, Tryz.ntmps86
      go_wp2_with fail
      refine (name_c _ n hl).mono ?_
      rintro e w1 ⟨hr, rfl⟩
      rw [HB.out.1] at hr
      subst hr
      go_wp2
      go_ret
      exact ⟨ret_int (by unfold tyErr; simp [h1, h2, HB.out.1, HB.out.2]), rfl⟩

end Go.Proofs.YtgmmclcpfmnoiaaGreatDoor
