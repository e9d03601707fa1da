/-
  Package module's checks, walked at classes without interfaces, fields, methods, at an empty pool.
-/
import Derived.Test.YtbojldbfjgeinaaGreatDoorDesc
import Derived.Test.YtbojldbfjgeinaaGreatDoorIndexS
namespace Go.Proofs.YtbojldbfjgeinaaGreatDoor
open Go.RowKit

/-- A class of nothing but names that may be. -/
structure PlainCl (c : Cl) : Prop where
  flags : c.flags = 0
  name : nameB c.name = true
  super : nameB c.super = true
  faces : c.faces = []
  fields : c.fields = []
  methods : c.methods = []
theorem nameB_len {s : Bs} (h : nameB s = true) : s.length ≤ 32 := by
  unfold nameB at h; simp at h; exact h.2

theorem box_keep {w w1 : World} {c : Array Value} {T : Nat} (d : Chg No (w.alloc (.cells c T)) w1) {j : Nat} {u : Value} (h : c[j]? = some u) : w1.cell? ⟨w.heap.size, j, none⟩ = some u := by
  rw [d.cell (p := ⟨w.heap.size, j, none⟩) (by simp) (fun h => h)]
  simpa using h

theorem face_c (w : World) (fl : Int) (a b f g m : Value) :
    Calls Tryz.prog 191 #[.agg #[.int .i64 fl, a, b, f, g, m]] w fun e w' => e = .returned (.bool (fl == 1)) ∧ Chg No w w' := by
  go_enter Tryz.func191, Tryz.ntmps191
  go_wp2
  go_ret
  exact ⟨rfl, (Chg.refl _ _).alloc _⟩

set_option maxHeartbeats 1600000 in
theorem head_plain (w : World) (n s : Bs) (hn : nameB n = true) (hs : nameB s = true) (a1 a2 a3 : Option Addr) (c1 c2 c3 : Nat) :
    Calls Tryz.prog 156 #[.agg #[.int .i64 0, strV n, strV s, .slice a1 0 c1, .slice a2 0 c2, .slice a3 0 c3]] w fun e w' => e = .returned (.pointer none) ∧ Chg No w w' := by
  have l1 := nameB_len hn
  have l2 := nameB_len hs
  have HN := Lib.hid hn; clear hn
  have HS := Lib.hid hs; clear hs
  go_enter Tryz.func156, Tryz.ntmps156
  go_wp2_with fail
  refine (name_c _ n (by omega)).mono ?_
  rintro e w1 ⟨he, rfl⟩
  rw [HN.out] at he
  subst he
  go_wp2_with fail
  refine (name_c _ s (by omega)).mono ?_
  rintro e w1 ⟨he, rfl⟩
  rw [HS.out] at he
  subst he
  go_wp2_with fail
  refine (face_c _ _ _ _ _ _ _).mono ?_
  rintro e w1 ⟨rfl, d1⟩
  have b0 := box_keep d1 (j := 0) rfl
  have b1 := box_keep d1 (j := 1) rfl
  have b2 := box_keep d1 (j := 2) rfl
  have b3 := box_keep d1 (j := 3) rfl
  have b4 := box_keep d1 (j := 4) rfl
  have b5 := box_keep d1 (j := 5) rfl
  have D1 := Lib.hid d1; clear d1
  go_wp2_with fail
  refine (face_c _ _ _ _ _ _ _).mono ?_
  rintro e w2 ⟨rfl, d2⟩
  have D2 := Lib.hid (D1.out.trans d2 (fun _ _ h => h)); clear d2
  have b3' := box_keep D2.out (j := 3) rfl
  clear b0 b1 b2 b3 b4 b5
  go_wp2
  refine wp_loop_rounds 1 ?_
  rw [rounds_succ]
  go_wp2
  go_ret
  exact ⟨rfl, ((Chg.refl No w).alloc _).trans D2.out (fun _ _ h => h)⟩

set_option maxHeartbeats 1600000 in
theorem fields_plain (w : World) (x n s : Value) (a1 a2 a3 : Option Addr) (c1 c2 c3 : Nat) :
    Calls Tryz.prog 157 #[.agg #[x, n, s, .slice a1 0 c1, .slice a2 0 c2, .slice a3 0 c3]] w fun e w' => e = .returned (.pointer none) ∧ Chg No w w' := by
  go_enter Tryz.func157, Tryz.ntmps157
  go_wp2
  refine wp_loop_rounds 1 ?_
  rw [rounds_succ]
  go_wp2
  go_ret
  exact ⟨rfl, (Chg.refl _ _).alloc _⟩
set_option maxHeartbeats 1600000 in
theorem methods_plain (w : World) (x n s : Value) (p : Value) (a1 a2 a3 : Option Addr) (c1 c2 c3 : Nat) :
    Calls Tryz.prog 158 #[.agg #[x, n, s, .slice a1 0 c1, .slice a2 0 c2, .slice a3 0 c3], p] w fun e w' => e = .returned (.pointer none) ∧ Chg No w w' := by
  go_enter Tryz.func158, Tryz.ntmps158
  go_wp2
  refine wp_loop_rounds 1 ?_
  rw [rounds_succ]
  go_wp2
  go_ret
  exact ⟨rfl, (Chg.refl _ _).alloc _⟩
set_option maxHeartbeats 1600000 in
theorem pool_empty (w : World) (a : Option Addr) (c : Nat) :
    Calls Tryz.prog 155 #[.slice a 0 c] w fun e w' => e = .returned (.tuple #[.int .i64 0, .int .i64 0]) ∧ w' = w := by
  go_enter Tryz.func155, Tryz.ntmps155
  go_wp2
  refine wp_loop_rounds 1 ?_
  rw [rounds_succ]
  go_wp2
  go_ret2
  exact ⟨rfl, rfl⟩

end Go.Proofs.YtbojldbfjgeinaaGreatDoor
