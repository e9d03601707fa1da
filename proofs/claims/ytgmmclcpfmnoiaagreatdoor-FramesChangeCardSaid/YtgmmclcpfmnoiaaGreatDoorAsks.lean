/-
  Asking a linked world, walked: Linked, Above, Chain, Common.
-/
import Derived.Test.YtgmmclcpfmnoiaaGreatDoorMore
import Derived.Test.YtgmmclcpfmnoiaaGreatDoorClones
import Derived.Test.YtgmmclcpfmnoiaaGreatDoorIndexS
namespace Go.Proofs.YtgmmclcpfmnoiaaGreatDoor
open Go.RowKit

section
variable {S O : Blocks} {w : World} {b mb : Nat} {nv : Value} {es : List Ent} {lk : Bool}
theorem linked_c (h : HW S O w b mb nv es lk) : Calls Tryz.prog 13 #[.pointer (some ⟨b, 0, none⟩)] w fun e w' => e = .returned (.bool lk) ∧ w' = w := by
  have c2 := h.c2
  go_enter Tryz.func13, Tryz.ntmps13
  go_wp2
  go_ret
  exact ⟨rfl, rfl⟩
set_option maxHeartbeats 1600000 in
theorem above_c (h : HW S O w b mb nv es true) (up : Bs) (x : Ent) (hx : x ∈ es) (hc : x.chain.length ≤ 1000) :
    Calls Tryz.prog 17 #[.pointer (some ⟨b, 0, none⟩), strV up, strV x.cl.name] w fun e w' => e = .returned (.bool (x.chain.any fun s => s == up)) ∧ Chg No w w' := by
  have hat := (atf_mem h.uniq hx).1
  have HO := Lib.hid (of_c h x.cl.name (h.short x hx).name)
  rw [hat] at HO
  obtain ⟨f, g, m, p, c, q, ⟨-, -, -, -, -, -, -, e7, -⟩, -, -, -, -, q5, -⟩ := h.cells hx
  have Q := Lib.hid q5
  obtain ⟨ca, cc, rfl, -, -⟩ := q5.form
  clear q5 hat h
  go_enter Tryz.func17, Tryz.ntmps17
  go_wp2_with fail
  refine HO.out.mono ?_
  rintro e w1 ⟨rfl, rfl⟩
  have kp : ptrV (some x.at_) = .pointer (some ⟨x.at_, 0, none⟩) := rfl
  rw [kp]
  go_wp2_with fail
  refine (contains_str S _ _ x.chain Q.out (by omega) up).mono ?_
  rintro e w1 ⟨rfl, d⟩
  go_wp2
  go_ret
  exact ⟨rfl, d⟩
end

end Go.Proofs.YtgmmclcpfmnoiaaGreatDoor
