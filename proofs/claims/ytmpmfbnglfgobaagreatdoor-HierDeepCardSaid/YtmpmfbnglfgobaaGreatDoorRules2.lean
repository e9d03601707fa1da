/-
  The rules of Link, walked at classes without interfaces, fields, methods: named, overrides.
-/
import Derived.Test.YtmpmfbnglfgobaaGreatDoorRules1
namespace Go.Proofs.YtmpmfbnglfgobaaGreatDoor
open Go.RowKit

theorem OQ.form1 {α : Type} {e n : Nat} {R : Reading α} {S : Blocks} {w : World} {v : Value} {xs : List α} (h : OQ e n R S w v xs) (hne : xs ≠ []) : ∃ g c, v = .slice (some ⟨g, 0, none⟩) xs.length c ∧ xs.length ≤ c := by
  obtain ⟨css, ho, _⟩ := h
  rcases ho.2 with ⟨h1, h2⟩ | ⟨g, cap, cur, h1, _, _, h4, _⟩
  · exact absurd (List.eq_nil_of_length_eq_zero h2) hne
  · exact ⟨g, cap, h1, h4⟩

theorem classes_nil (w : World) (a : Option Addr) (c : Nat) :
    Calls Tryz.prog 48 #[.slice a 0 c] w fun en w' => en = .returned (.slice none 0 0) ∧ Chg No w w' := by
  have hmm := @run_makeMap Tryz.prog
  go_enter Tryz.func48, Tryz.ntmps48
  go_wp2
  refine wp_loop_rounds 1 ?_
  rw [rounds_succ]
  go_wp2
  go_ret
  exact ⟨rfl, (Chg.refl _ _).alloc _⟩

theorem chg_a (w : World) (o : Obj) : Chg No w (w.alloc o).drew := ((Chg.refl _ _).alloc _).drew
theorem chg_b (w : World) (o o2 : Obj) : Chg No w ((w.alloc o).alloc o2).drew := (((Chg.refl _ _).alloc _).alloc _).drew
theorem two_cell {w w1 : World} {o : Obj} {c : Array Value} {T : Nat} (d : Chg No ((w.alloc o).alloc (.cells c T)).drew w1) {u : Value} {j : Nat} (h : c[j]? = some u) : w1.cell? ⟨w.heap.size + 1, j, none⟩ = some u := by
  rw [d.cell (p := ⟨w.heap.size + 1, j, none⟩) (by show _ < ((w.alloc o).alloc (.cells c T)).heap.size; simp) (fun h => h)]
  show ((w.alloc o).alloc (.cells c T)).cell? _ = _
  have := box_keep (Chg.refl No ((w.alloc o).alloc (.cells c T))) h
  rwa [size_alloc1] at this
theorem two_frozen {w w1 : World} {o : Obj} {c : Array Value} {T : Nat} (d : Chg No ((w.alloc o).alloc (.cells c T)).drew w1) (j : Nat) : w1.frozen? ⟨w.heap.size + 1, j, none⟩ = false := by
  rw [d.frozen (p := ⟨w.heap.size + 1, j, none⟩) (by show _ < ((w.alloc o).alloc (.cells c T)).heap.size; simp) (fun h => h)]
  show ((w.alloc o).alloc (.cells c T)).frozen? _ = _
  have := heap_alloc_new (w.alloc o) (.cells c T)
  rw [size_alloc1] at this
  exact blk_frozen this j
theorem IsChain.ne {cs : List Cl} {s : Bs} {l : List Bs} (h : IsChain cs s l) (hs : s ≠ []) : l ≠ [] := by
  rintro rfl
  cases h
  exact hs rfl
theorem HW.drew' {S O : Blocks} {w : World} {b mb : Nat} {nv : Value} {es : List Ent} {lk : Bool} (h : HW S O w b mb nv es lk) : HW S O w.drew b mb nv es lk := h.new (Chg.refl _ _).drew
section
variable {S O : Blocks} {w : World} {b mb : Nat} {nv : Value} {es : List Ent} {lk : Bool}
set_option maxRecDepth 100000 in
set_option maxHeartbeats 3200000 in
theorem named_plain (h : HW S O w b mb nv es lk) (x : Ent) (hx : x ∈ es) (hf : x.cl.fields = []) (hm : x.cl.methods = []) (hp : x.pool = []) :
    Calls Tryz.prog 21 #[.pointer (some ⟨b, 0, none⟩), .pointer (some ⟨x.at_, 0, none⟩)] w fun e w' => e = .returned (.bool true) ∧ Chg No w w' := by
  have hbl := h.o_lt b h.own_b
  have hxl := h.o_lt _ (h.own_e x hx)
  obtain ⟨f, g, m, p, c, q, ⟨e0, e1, e2, e3, e4, e5, e6, -⟩, q1, q2, q3, q4, -⟩ := h.cells hx
  rw [hf] at q2
  rw [hm] at q3
  rw [hp] at q4
  obtain ⟨a2, d2, rfl, -, -⟩ := q2.form
  obtain ⟨a3, d3, rfl, -, -⟩ := q3.form
  obtain ⟨a4, d4, rfl, -, -⟩ := q4.form
  have hmf : ∀ (fn : Fn) (first cap : Array Value) (w : World), (Instr.makeFunc fn first cap).run Tryz.prog w = .ok (.func fn first cap) w := fun _ _ _ _ => rfl
  clear h q1 q2 q3 q4
  go_enter Tryz.func21, Tryz.ntmps21
  go_wp2
  refine wp_loop_rounds 1 ?_
  rw [rounds_succ]
  go_wp2
  refine wp_loop_rounds 1 ?_
  rw [rounds_succ]
  go_wp2
  refine wp_loop_rounds 1 ?_
  rw [rounds_succ]
  go_wp2_with fail
  refine (classes_nil _ _ _).mono ?_
  rintro e w1 ⟨rfl, d⟩
  go_wp2_with fail
  refine (hasFunc_nil_str _ _ _ _).mono ?_
  rintro e w2 ⟨rfl, rfl⟩
  go_wp2
  go_ret
  exact ⟨rfl, ((Chg.refl No w).alloc _).trans d (fun _ _ h => h)⟩

set_option maxRecDepth 100000 in
set_option maxHeartbeats 3200000 in
theorem overrides_plain (h : HW S O w b mb nv es lk) (x : Ent) (hx : x ∈ es) (hfl : x.cl.flags = 0) (hm : x.cl.methods = []) (l : List Bs) (hc : IsChain (cls es) x.cl.name l) (hl : l.length ≤ 1000) (hne : x.cl.name ≠ []) :
    Calls Tryz.prog 22 #[.pointer (some ⟨b, 0, none⟩), .pointer (some ⟨x.at_, 0, none⟩)] w fun e w' => e = .returned (.bool true) ∧ Chg No w w' := by
  have hbl := h.o_lt b h.own_b
  have hxl := h.o_lt _ (h.own_e x hx)
  have h1 := h.new ((Chg.refl No w).alloc (.cells #[.pointer (some ⟨b, 0, none⟩)] 34))
  have HF := Lib.hid (isFace_c h1 x hx)
  have hff : isFaceB x.cl = false := by unfold isFaceB; rw [hfl]; rfl
  rw [hff] at HF
  have HC := Lib.hid (fun (W : World) (hW : Chg No w W) => chain_c (h.new hW) x.cl.name l hc hl)
  obtain ⟨f, g, m, p, c, q, ⟨e0, e1, e2, e3, e4, e5, e6, -⟩, q1, q2, q3, q4, -⟩ := h.cells hx
  rw [hm] at q3
  obtain ⟨a3, d3, rfl, -, -⟩ := q3.form
  have hmf : ∀ (fn : Fn) (first cap : Array Value) (w : World), (Instr.makeFunc fn first cap).run Tryz.prog w = .ok (.func fn first cap) w := fun _ _ _ _ => rfl
  have hl1 : l ≠ [] := hc.ne hne
  clear h h1 q1 q2 q3 q4 hff hc
  go_enter Tryz.func22, Tryz.ntmps22
  go_wp2_with fail
  refine HF.out.mono ?_
  rintro e w1 ⟨rfl, rfl⟩
  have hlen : 1 ≤ l.length := by
    cases l with
    | nil => exact absurd rfl hl1
    | cons => simp
  go_wp2_with fail
  go_region_with (first
    | (go_at_call 24; refine (HC.out _ (chg_a w _)).mono ?_; rintro e w1 ⟨v, rfl, ho, d, hv⟩; obtain ⟨gg, cc, rfl, hcc⟩ := ho.form1 hl1; have D := Lib.hid ((chg_a w _).trans d (fun _ _ h => h)); have x5 := (D.out.cell (p := ⟨x.at_, 5, none⟩) hxl (fun h => h)).trans e5; have x6 : x.at_ < w1.heap.size := Nat.lt_of_lt_of_le hxl D.out.size; have i1 : ¬ ((l.length : Int) < 1) := (by omega); have i2 : ¬ ((cc : Int) < (l.length : Int)) := (by omega); have i3 : ¬ ((cc : Int) < 1) := (by omega);  clear d ho hv)
    | (go_at_call 24; refine (HC.out _ (chg_b w _ _)).mono ?_; rintro e w1 ⟨v, rfl, ho, d, hv⟩; obtain ⟨gg, cc, rfl, hcc⟩ := ho.form1 hl1; have D := Lib.hid ((chg_b w _ _).trans d (fun _ _ h => h)); have x5 := (D.out.cell (p := ⟨x.at_, 5, none⟩) hxl (fun h => h)).trans e5; have x6 : x.at_ < w1.heap.size := Nat.lt_of_lt_of_le hxl D.out.size; have i1 : ¬ ((l.length : Int) < 1) := (by omega); have i2 : ¬ ((cc : Int) < (l.length : Int)) := (by omega); have i3 : ¬ ((cc : Int) < 1) := (by omega); have y0 : w1.cell? ⟨w.heap.size + 1, 0, none⟩ = some zNil := two_cell d rfl; have y1 := two_frozen d 0; clear d ho hv))
  all_goals (try go_wp2)
  all_goals
    refine wp_loop_rounds 1 ?_
    rw [rounds_succ]
    go_wp2
    go_ret
    first
      | exact ⟨rfl, D.out.alloc _⟩
      | exact ⟨rfl, D.out.set_new (by omega) _ _⟩
end

end Go.Proofs.YtmpmfbnglfgobaaGreatDoor
