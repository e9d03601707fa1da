/-
  The rules of Link, walked at classes without interfaces, fields, methods: stands, kinds, named, overrides.
-/
import Derived.Test.YtmpmfbnglfgobaaGreatDoorChain
namespace Go.Proofs.YtmpmfbnglfgobaaGreatDoor
open Go.RowKit

theorem idxFunc_nil_str (w : World) (a : Option Addr) (c : Nat) (fv : Value) :
    Calls Tryz.prog 55 #[.slice a 0 c, fv] w fun en w' => en = .returned (.int .i64 (-1)) ∧ w' = w := by
  go_enter Tryz.func55, Tryz.ntmps55
  go_wp2
  refine wp_loop_rounds 1 ?_
  rw [rounds_succ]
  go_wp2
  go_ret
  exact ⟨rfl, rfl⟩
theorem hasFunc_nil_str (w : World) (a : Option Addr) (c : Nat) (fv : Value) :
    Calls Tryz.prog 28 #[.slice a 0 c, fv] w fun en w' => en = .returned (.bool false) ∧ w' = w := by
  go_enter Tryz.func28, Tryz.ntmps28
  go_wp2_with fail
  refine (idxFunc_nil_str _ _ _ _).mono ?_
  rintro e w1 ⟨rfl, rfl⟩
  go_wp2
  go_ret
  exact ⟨rfl, rfl⟩
theorem idxFunc_nil_mt (w : World) (a : Option Addr) (c : Nat) (fv : Value) :
    Calls Tryz.prog 70 #[.slice a 0 c, fv] w fun en w' => en = .returned (.int .i64 (-1)) ∧ w' = w := by
  go_enter Tryz.func70, Tryz.ntmps70
  go_wp2
  refine wp_loop_rounds 1 ?_
  rw [rounds_succ]
  go_wp2
  go_ret
  exact ⟨rfl, rfl⟩
theorem hasFunc_nil_mt (w : World) (a : Option Addr) (c : Nat) (fv : Value) :
    Calls Tryz.prog 50 #[.slice a 0 c, fv] w fun en w' => en = .returned (.bool false) ∧ w' = w := by
  go_enter Tryz.func50, Tryz.ntmps50
  go_wp2_with fail
  refine (idxFunc_nil_mt _ _ _ _).mono ?_
  rintro e w1 ⟨rfl, rfl⟩
  go_wp2
  go_ret
  exact ⟨rfl, rfl⟩

section
variable {S O : Blocks} {w : World} {b mb : Nat} {nv : Value} {es : List Ent} {lk : Bool}
set_option maxRecDepth 100000 in
set_option maxHeartbeats 3200000 in
theorem stands_plain (h : HW S O w b mb nv es lk) (x : Ent) (hx : x ∈ es) (hf : x.cl.faces = []) (k : Nat) (hk : atf es x.cl.super = some k) :
    Calls Tryz.prog 17 #[.pointer (some ⟨b, 0, none⟩), .pointer (some ⟨x.at_, 0, none⟩)] w fun e w' => e = .returned (.bool true) ∧ Chg No w w' := by
  have hbl := h.o_lt b h.own_b
  have hxl := h.o_lt _ (h.own_e x hx)
  have h1 := h.new ((Chg.refl No w).alloc (.cells #[.pointer (some ⟨b, 0, none⟩)] 34))
  have hL := fun n => h1.lookEN (h.short x hx).super hk n
  have c1 := h.c1
  obtain ⟨f, g, m, p, c, q, ⟨e0, e1, e2, e3, -⟩, q1, -⟩ := h.cells hx
  rw [hf] at q1
  obtain ⟨a1, d1, rfl, -, -⟩ := q1.form
  have hmf : ∀ (fn : Fn) (first cap : Array Value) (w : World), (Instr.makeFunc fn first cap).run Tryz.prog w = .ok (.func fn first cap) w := fun _ _ _ _ => rfl
  clear h h1 q1
  go_enter Tryz.func17, Tryz.ntmps17
  go_wp2_with fail
  go_quiet (first
    | (go_at_call 28; exact Calls.quiet_of_same (hasFunc_nil_str _ _ _ _)))
  go_wp2
  go_ret
  exact ⟨rfl, ((Chg.refl _ _).alloc _).drewN _⟩

set_option maxRecDepth 100000 in
set_option maxHeartbeats 3200000 in
theorem kinds_plain (h : HW S O w b mb nv es lk) (x : Ent) (hx : x ∈ es) (hf : x.cl.faces = []) (y : Ent) (hy : y ∈ es) (hk : atf es x.cl.super = some y.at_) (hn : isFaceB y.cl = false) :
    Calls Tryz.prog 18 #[.pointer (some ⟨b, 0, none⟩), .pointer (some ⟨x.at_, 0, none⟩)] w fun e w' => e = .returned (.bool true) ∧ Chg No w w' := by
  have hbl := h.o_lt b h.own_b
  have hxl := h.o_lt _ (h.own_e x hx)
  have h1 := h.new ((Chg.refl No w).alloc (.cells #[.pointer (some ⟨b, 0, none⟩)] 34))
  have hL := fun n => h1.lookEN (h.short x hx).super hk n
  have c1 := h.c1
  obtain ⟨f, g, m, p, c, q, ⟨e0, e1, e2, e3, -⟩, q1, -⟩ := h.cells hx
  rw [hf] at q1
  obtain ⟨a1, d1, rfl, -, -⟩ := q1.form
  have hmf : ∀ (fn : Fn) (first cap : Array Value) (w : World), (Instr.makeFunc fn first cap).run Tryz.prog w = .ok (.func fn first cap) w := fun _ _ _ _ => rfl
  have HF := Lib.hid (fun n => isFace_c (h1.new ((Chg.refl _ _).drewN n)) y hy)
  rw [hn] at HF
  clear h h1 q1 hn
  go_enter Tryz.func18, Tryz.ntmps18
  go_wp2_with fail
  go_quiet (first
    | (go_at_call 41; exact Calls.quiet_of_same (HF.out _))
    | (go_at_call 28; exact Calls.quiet_of_same (hasFunc_nil_str _ _ _ _)))
  go_wp2
  go_ret
  exact ⟨rfl, ((Chg.refl _ _).alloc _).drewN _⟩
end

end Go.Proofs.YtmpmfbnglfgobaaGreatDoor
