/-
  Asking a linked world, walked: Linked, Above, Chain, Common.
-/
import Derived.Test.YtbojldbfjgeinaaGreatDoorMore
import Derived.Test.YtbojldbfjgeinaaGreatDoorClones
import Derived.Test.YtbojldbfjgeinaaGreatDoorIndexS
namespace Go.Proofs.YtbojldbfjgeinaaGreatDoor
open Go.RowKit

section
variable {S O : Blocks} {w : World} {b mb : Nat} {nv : Value} {es : List Ent} {lk : Bool}
theorem linked_c (h : HW S O w b mb nv es lk) : Calls Tryz.prog 49 #[.pointer (some ⟨b, 0, none⟩)] w fun e w' => e = .returned (.bool lk) ∧ w' = w := by
  have c2 := h.c2
  go_enter Tryz.func49, Tryz.ntmps49
  go_wp2
  go_ret
  exact ⟨rfl, rfl⟩
set_option maxHeartbeats 1600000 in
theorem above_c (h : HW S O w b mb nv es true) (up : Bs) (x : Ent) (hx : x ∈ es) (hc : x.chain.length ≤ 1000) :
    Calls Tryz.prog 21 #[.pointer (some ⟨b, 0, none⟩), strV up, strV x.cl.name] w fun e w' => e = .returned (.bool (x.chain.any fun s => s == up)) ∧ Chg No w w' := by
  have hat := (atf_mem h.uniq hx).1
  have HO := Lib.hid (of_c h x.cl.name (h.short x hx).name)
  rw [hat] at HO
  obtain ⟨f, g, m, p, c, q, ⟨-, -, -, -, -, -, -, e7, -⟩, -, -, -, -, q5, -⟩ := h.cells hx
  have Q := Lib.hid q5
  obtain ⟨ca, cc, rfl, -, -⟩ := q5.form
  clear q5 hat h
  go_enter Tryz.func21, Tryz.ntmps21
  go_wp2_with fail
  refine HO.out.mono ?_
  rintro e w1 ⟨rfl, rfl⟩
  have kp : ptrV (some x.at_) = .pointer (some ⟨x.at_, 0, none⟩) := rfl
  rw [kp]
  go_wp2_with fail
  refine (contains_str S _ _ x.chain Q.out (by omega) up).mono ?_
  rintro e w1 ⟨rfl, d⟩
  go_wp2
  go_ret
  exact ⟨rfl, d⟩
set_option maxHeartbeats 1600000 in
theorem chainE_c (h : HW S O w b mb nv es true) (x : Ent) (hx : x ∈ es) (hc : x.chain.length ≤ 1000) :
    Calls Tryz.prog 24 #[.pointer (some ⟨b, 0, none⟩), strV x.cl.name] w (Cloned 9 1 RStr S w x.chain) := by
  have hat := (atf_mem h.uniq hx).1
  have HO := Lib.hid (of_c h x.cl.name (h.short x hx).name)
  rw [hat] at HO
  obtain ⟨f, g, m, p, c, q, ⟨-, -, -, -, -, -, -, e7, -⟩, -, -, -, -, q5, -⟩ := h.cells hx
  have Q := Lib.hid (And.intro q5 h.s_lt)
  obtain ⟨ca, cc, rfl, -, -⟩ := q5.form
  clear q5 hat h
  go_enter Tryz.func24, Tryz.ntmps24
  go_wp2_with fail
  refine HO.out.mono ?_
  rintro e w1 ⟨rfl, rfl⟩
  have kp : ptrV (some x.at_) = .pointer (some ⟨x.at_, 0, none⟩) := rfl
  rw [kp]
  go_wp2_with fail
  refine (clone_str S _ _ x.chain Q.out.1 Q.out.2 (by omega)).mono ?_
  rintro e w1 ⟨v, rfl, ho, d, hv⟩
  go_wp2
  go_ret
  exact ⟨v, rfl, ho, d, hv⟩
end

end Go.Proofs.YtbojldbfjgeinaaGreatDoor
