/-
  '==' of structs, as one Bool each.
-/
import Derived.Test.YtgmmclcpfmnoiaaGreatDoorTextSpec
import Derived.Test.YtgmmclcpfmnoiaaGreatDoorFinds
import Derived.Laws.StructEq
import Derived.WalkKit
namespace Go.Proofs.YtgmmclcpfmnoiaaGreatDoor
open Go.RowKit

section
variable {P : Program} {d : Nat} {xs ys : Array Value} {f : Field} {fs : List Field} {a b : Value} {r s : Bool} {w : World}
theorem eqFld (hn : (f.name == "_") = false) (ha : (part f.type xs f.offset).run P w = .ok a w) (hb : (part f.type ys f.offset).run P w = .ok b w) (he : (Op.equalIn d f.type a b).run P w = .ok r w) (hr : (Op.eqFields d xs ys fs).run P w = .ok s w) : (Op.eqFields d xs ys (f :: fs)).run P w = .ok (r && s) w := by
  have hn' : f.name ≠ "_" := by simpa using hn
  rw [Op.eqFields]
  simp only [if_pos hn', Sem.run_bind, ha, hb, he, Result.andThen_ok]
  cases r
  · simp
  · simpa using hr
theorem eqNo : (Op.eqFields d xs ys []).run P w = .ok true w := by simp [Op.eqFields]
theorem eqOf {t : TypeId} {fs : Array Field} (hu : P.underlying t = some (.struct fs)) (hp : P.stoodInHeld t = false) (h : (Op.eqFields d xs ys fs.toList).run P w = .ok r w) : (Op.equalIn (d + 1) t (.agg xs) (.agg ys)).run P w = .ok r w := by
  have hf : P.fieldsOf t = fs := by simp [Program.fieldsOf, hu]
  rw [run_equalIn_struct (P := P) w d t xs ys (by rw [hf]; exact hu) hp, hf]
  exact h
end
theorem str_eq (a b : Bs) : ((ByteArray.mk a.toArray).toList == (ByteArray.mk b.toArray).toList) = (a == b) := by
  rw [ByteArray.toList_eq, ByteArray.toList_eq]
/-- Are two types one? -/
def tyEq (d : Int) (n : ByteArray) (d' : Int) (n' : ByteArray) : Bool := (d == d') && ((n.toList == n'.toList) && true)
theorem tyEq_mk (d d' : Int) (n n' : Bs) : tyEq d ⟨n.toArray⟩ d' ⟨n'.toArray⟩ = decide ((⟨d, n⟩ : Ty) = ⟨d', n'⟩) := by
  unfold tyEq
  rw [str_eq, Bool.eq_iff_iff]
  simp
theorem eqTy_run (d : Nat) (w : World) (x0 y0 : Int) (x1 y1 : ByteArray) :
    (Op.equalIn (d + 2) 26 (.agg #[.int .i64 x0, .string x1]) (.agg #[.int .i64 y0, .string y1])).run Tryz.prog w = .ok (tyEq x0 x1 y0 y1) w := by
  refine eqOf Tryz.underlying26 (by kernel_rfl) ?_
  refine eqFld (by rfl) (by go_simp; rfl) (by go_simp; rfl) (by go_simp) ?_
  exact eqFld (by rfl) (by go_simp; rfl) (by go_simp; rfl) (by go_simp) eqNo

end Go.Proofs.YtgmmclcpfmnoiaaGreatDoor
