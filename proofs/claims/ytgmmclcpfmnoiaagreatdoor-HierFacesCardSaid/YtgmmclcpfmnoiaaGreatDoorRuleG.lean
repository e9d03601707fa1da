/-
  The rules stands and kinds of Link, walked at any world.
-/
import Derived.Test.YtgmmclcpfmnoiaaGreatDoorMethG
import Derived.Test.YtgmmclcpfmnoiaaGreatDoorChain
namespace Go.Proofs.YtgmmclcpfmnoiaaGreatDoor
open Go.RowKit

theorem there_atf {es : List Ent} {s : Bs} : thereB (cls es) s = (atf es s).isSome := by unfold thereB; rw [find_cls]; unfold atf; cases es.find? (fun x => x.cl.name == s) <;> rfl
section
variable {S O : Blocks} {w : World} {b mb : Nat} {nv : Value} {es : List Ent} {lk : Bool}
theorem standsF_c (h : HW S O w b mb nv es lk) (s : Bs) (hs : Short s) (k : Nat) (hk : w.heap[k]? = some (.cells #[.pointer (some ⟨b, 0, none⟩)] 42 (0, 0))) :
    Calls Tryz.prog 72 #[strV s, .pointer (some ⟨k, 0, none⟩)] w fun e w' => e = .returned (.bool (atf es s).isNone) ∧ Chg No w w' := by
  have c1 := h.c1
  have hL := h.look s hs
  have k0 := blk_cell hk (j := 0) rfl
  clear hk h
  cases ha : atf es s with
  | none =>
    rw [ha] at hL
    have hp : ptrV none = .pointer none := rfl
    rw [hp] at hL
    go_enter Tryz.func72, Tryz.ntmps72
    go_wp2
    go_ret
    exact ⟨rfl, Chg.refl _ _⟩
  | some a =>
    rw [ha] at hL
    have hp : ptrV (some a) = .pointer (some ⟨a, 0, none⟩) := rfl
    rw [hp] at hL
    go_enter Tryz.func72, Tryz.ntmps72
    go_wp2
    go_ret
    exact ⟨rfl, Chg.refl _ _⟩
theorem isNone_all {l : List Bs} {es : List Ent} : (!(l.any fun s => (atf es s).isNone)) = l.all (thereB (cls es)) := by
  induction l with
  | nil => rfl
  | cons a r ih =>
    rw [List.any_cons, List.all_cons, ← ih, there_atf]
    cases atf es a <;> simp

set_option maxRecDepth 100000 in
set_option maxHeartbeats 3200000 in
theorem stands_c (h : HW S O w b mb nv es lk) (hw : WOk es) (x : Ent) (hx : x ∈ es) :
    Calls Tryz.prog 36 #[.pointer (some ⟨b, 0, none⟩), .pointer (some ⟨x.at_, 0, none⟩)] w fun e w' => e = .returned (.bool (standsB (cls es) x.cl)) ∧ Chg No w w' := by
  have hbl := h.o_lt b h.own_b
  have hxl := h.o_lt _ (h.own_e x hx)
  have hd : Chg No w (w.alloc (.cells #[.pointer (some ⟨b, 0, none⟩)] 42)).drew := ((Chg.refl No w).alloc _).drew
  have hsh := (h.short x hx).super
  have HS := Lib.hid (And.intro h (And.intro (h.short x hx).faces (hw.faces x hx)))
  obtain ⟨f, g, m, p, c, q, ⟨e0, e1, e2, e3, -⟩, q1, -⟩ := h.cells hx
  have Q1 := Lib.hid q1
  obtain ⟨a1, d1, rfl, -, -⟩ := q1.form
  have c1 := h.c1
  have hmf : ∀ (fn : Fn) (first cap : Array Value) (w : World), (Instr.makeFunc fn first cap).run Tryz.prog w = .ok (.func fn first cap) w := fun _ _ _ _ => rfl
  have eg : ∀ (args : Array Value) (w : World), (callFunc 72 args).run Tryz.prog w = .ok (.enter 72 args) w := enters_of Tryz.func72 (by kernel_rfl) rfl
  have EG := Lib.hid eg; clear eg
  have hLN := fun n => (h.new ((Chg.refl No w).alloc (.cells #[.pointer (some ⟨b, 0, none⟩)] 42))).lookN x.cl.super hsh n
  have hLD := (h.new hd).look x.cl.super hsh
  clear h q1 hd
  have hB : standsB (cls es) x.cl = ((atf es x.cl.super).isSome && x.cl.faces.all (thereB (cls es))) := by unfold standsB; rw [there_atf]
  have HB := Lib.hid hB; clear hB
  cases ha : atf es x.cl.super with
  | none =>
    rw [ha] at hLN hLD HB
    have hp : ptrV none = .pointer none := rfl
    rw [hp] at hLN hLD
    rw [HB.out]
    go_enter Tryz.func36, Tryz.ntmps36
    go_wp2_with fail
    go_quiet (fail)
    go_wp2
    go_ret
    exact ⟨rfl, ((Chg.refl _ _).alloc _).drewN _⟩
  | some a =>
    have HA := Lib.hid ha
    rw [ha] at hLN hLD HB
    have hp : ptrV (some a) = .pointer (some ⟨a, 0, none⟩) := rfl
    rw [hp] at hLN hLD
    rw [HB.out]
    clear ha
    go_enter Tryz.func36, Tryz.ntmps36
    go_wp2_with fail
    have HC := Lib.hid (fun (W : World) (d : Chg No (w.alloc (.cells #[.pointer (some ⟨b, 0, none⟩)] 42)) W) => containsFunc_str S W _ x.cl.faces (Q1.out.new goodStr (((Chg.refl No w).alloc _).trans d (fun _ _ h => h))) (by have := HS.out.2.2; omega) 72 #[.pointer (some ⟨w.heap.size, 0, none⟩)] EG.out (fun s => (atf es s).isNone) (fun W' s ds hs hW hR => by
      obtain rfl := hR
      exact standsF_c (HS.out.1.new ((((Chg.refl No w).alloc _).trans d (fun _ _ h => h)).trans hW (fun _ _ h => h))) s (HS.out.2.1 s hs) w.heap.size (hW.blk (d.blk (heap_alloc_new w _)))))
    go_region_with (go_at_call 61; refine (HC.out _ (Chg.refl No _).drew).mono ?_; rintro e w1 ⟨rfl, d⟩; have D := Lib.hid ((((Chg.refl No w).alloc _).drew).trans d (fun _ _ h => h)); have r0 := blk_cell (d.blk (heap_alloc_new w (.cells #[.pointer (some ⟨b, 0, none⟩)] 42))) (j := 0) rfl; have hW1 := HS.out.1.new D.out; have kk := hW1.c1; have kl := hW1.look x.cl.super hsh; rw [HA.out, hp] at kl; have x2 := (D.out.cell (p := ⟨x.at_, 2, none⟩) hxl (fun h => h)).trans e2; have x3 := (D.out.cell (p := ⟨x.at_, 3, none⟩) hxl (fun h => h)).trans e3; clear d hW1)
    all_goals go_wp2
    all_goals go_ret
    all_goals exact ⟨by rw [← isNone_all]; rfl, D.out⟩
end

end Go.Proofs.YtgmmclcpfmnoiaaGreatDoor

namespace Go.Proofs.YtgmmclcpfmnoiaaGreatDoor
open Go.RowKit

theorem find_fnd {es : List Ent} {s : Bs} {y : Ent} (h : es.find? (fun x => x.cl.name == s) = some y) : fnd (cls es) s = some y.cl := by rw [find_cls, h]; rfl
theorem there_find {es : List Ent} {s : Bs} (h : thereB (cls es) s = true) : ∃ y ∈ es, es.find? (fun x => x.cl.name == s) = some y ∧ atf es s = some y.at_ := by
  rw [there_atf] at h
  obtain ⟨k, hk⟩ := Option.isSome_iff_exists.1 h
  obtain ⟨y, hy, hf, rfl, -⟩ := atf_find hk
  exact ⟨y, hy, hf, hk⟩
section
variable {S O : Blocks} {w : World} {b mb : Nat} {nv : Value} {es : List Ent} {lk : Bool}
theorem kindsF_c (h : HW S O w b mb nv es lk) (s : Bs) (hs : Short s) (y : Ent) (hy : y ∈ es) (ha : atf es s = some y.at_) (k : Nat) (hk : w.heap[k]? = some (.cells #[.pointer (some ⟨b, 0, none⟩)] 42 (0, 0))) :
    Calls Tryz.prog 73 #[strV s, .pointer (some ⟨k, 0, none⟩)] w fun e w' => e = .returned (.bool (!isFaceB y.cl)) ∧ Chg No w w' := by
  have c1 := h.c1
  have hL := h.lookE hs ha
  have k0 := blk_cell hk (j := 0) rfl
  have HF := Lib.hid (isFace_c h y hy)
  clear hk h ha
  go_enter Tryz.func73, Tryz.ntmps73
  go_wp2_with fail
  refine HF.out.mono ?_
  rintro e w1 ⟨rfl, rfl⟩
  go_wp2
  go_ret
  exact ⟨rfl, Chg.refl _ _⟩

theorem faces_all {l : List Bs} {es : List Ent} (hl : ∀ s ∈ l, thereB (cls es) s = true) : (!(l.any fun s => !faceAtB (cls es) s)) = l.all (faceAtB (cls es)) := by
  induction l with
  | nil => rfl
  | cons a r ih =>
    rw [List.any_cons, List.all_cons, ← ih (fun s hs => hl s (List.mem_cons_of_mem _ hs))]
    cases faceAtB (cls es) a <;> simp
set_option maxRecDepth 100000 in
set_option maxHeartbeats 3200000 in
theorem kinds_c (h : HW S O w b mb nv es lk) (hw : WOk es) (x : Ent) (hx : x ∈ es) (hst : standsB (cls es) x.cl = true) :
    Calls Tryz.prog 37 #[.pointer (some ⟨b, 0, none⟩), .pointer (some ⟨x.at_, 0, none⟩)] w fun e w' => e = .returned (.bool (kindsB (cls es) x.cl)) ∧ Chg No w w' := by
  have hst2 : thereB (cls es) x.cl.super = true ∧ ∀ s ∈ x.cl.faces, thereB (cls es) s = true := by
    unfold standsB at hst
    rw [Bool.and_eq_true, List.all_eq_true] at hst
    exact hst
  obtain ⟨y, hy, hfy, hay⟩ := there_find hst2.1
  have hbl := h.o_lt b h.own_b
  have hxl := h.o_lt _ (h.own_e x hx)
  have hd : Chg No w (w.alloc (.cells #[.pointer (some ⟨b, 0, none⟩)] 42)).drew := ((Chg.refl No w).alloc _).drew
  have hsh := (h.short x hx).super
  have HS := Lib.hid (And.intro h (And.intro (h.short x hx).faces (And.intro (hw.faces x hx) hst2.2)))
  have HY := Lib.hid (fun (W : World) (d : Chg No w W) => isFace_c (h.new d) y hy)
  obtain ⟨f, g, m, p, c, q, ⟨e0, e1, e2, e3, -⟩, q1, -⟩ := h.cells hx
  have Q1 := Lib.hid q1
  obtain ⟨a1, d1, rfl, -, -⟩ := q1.form
  have c1 := h.c1
  have hmf : ∀ (fn : Fn) (first cap : Array Value) (w : World), (Instr.makeFunc fn first cap).run Tryz.prog w = .ok (.func fn first cap) w := fun _ _ _ _ => rfl
  have eg : ∀ (args : Array Value) (w : World), (callFunc 73 args).run Tryz.prog w = .ok (.enter 73 args) w := enters_of Tryz.func73 (by kernel_rfl) rfl
  have EG := Lib.hid eg; clear eg
  have hLN := fun n => (h.new ((Chg.refl No w).alloc (.cells #[.pointer (some ⟨b, 0, none⟩)] 42))).lookEN hsh hay n
  have hLD := (h.new hd).lookE hsh hay
  have HA := Lib.hid (And.intro hsh hay)
  have hB : kindsB (cls es) x.cl = (!isFaceB y.cl && x.cl.faces.all (faceAtB (cls es))) := by unfold kindsB classAtB; rw [find_fnd hfy]
  have HB := Lib.hid hB; clear hB
  clear h hw q1 hd hst hst2 hfy hay
  cases hb : isFaceB y.cl with
  | true =>
    rw [hb] at HY HB
    rw [HB.out]
    clear hb
    go_enter Tryz.func37, Tryz.ntmps37
    go_wp2_with fail
    go_quiet (first
      | (go_at_call 46; exact Calls.quiet_of_same (HY.out _ (((Chg.refl No w).alloc _).drewN _))))
    go_wp2
    go_ret
    exact ⟨rfl, ((Chg.refl _ _).alloc _).drewN _⟩
  | false =>
    rw [hb] at HY HB
    rw [HB.out]
    clear hb
    go_enter Tryz.func37, Tryz.ntmps37
    go_wp2_with fail
    have HC := Lib.hid (fun (W : World) (d : Chg No (w.alloc (.cells #[.pointer (some ⟨b, 0, none⟩)] 42)) W) => containsFunc_str S W _ x.cl.faces (Q1.out.new goodStr (((Chg.refl No w).alloc _).trans d (fun _ _ h => h))) (by have := HS.out.2.2.1; omega) 73 #[.pointer (some ⟨w.heap.size, 0, none⟩)] EG.out (fun s => !faceAtB (cls es) s) (fun W' s ds hs hW hR => by
      obtain rfl := hR
      obtain ⟨z, hz, hfz, haz⟩ := there_find (HS.out.2.2.2 s hs)
      have := kindsF_c (HS.out.1.new ((((Chg.refl No w).alloc _).trans d (fun _ _ h => h)).trans hW (fun _ _ h => h))) s (HS.out.2.1 s hs) z hz haz w.heap.size (hW.blk (d.blk (heap_alloc_new w _)))
      rw [show isFaceB z.cl = faceAtB (cls es) s from by unfold faceAtB; rw [find_fnd hfz]] at this
      exact this))
    go_region_with (first
      | (go_at_call 46; refine (HY.out _ hd0.out).mono ?_; rintro e w1 ⟨rfl, rfl⟩)
      | (go_at_call 46; refine (HY.out _ ((Chg.refl No w).alloc _).drew).mono ?_; rintro e w1 ⟨rfl, rfl⟩)
      | (go_at_call 61; refine (HC.out _ (Chg.refl No _).drew).mono ?_; rintro e w1 ⟨rfl, d⟩; have D := Lib.hid ((((Chg.refl No w).alloc _).drew).trans d (fun _ _ h => h)); have r0 := blk_cell (d.blk (heap_alloc_new w (.cells #[.pointer (some ⟨b, 0, none⟩)] 42))) (j := 0) rfl; have hW1 := HS.out.1.new D.out; have kk := hW1.c1; have kl := hW1.lookE HA.out.1 HA.out.2; have x2 := (D.out.cell (p := ⟨x.at_, 2, none⟩) hxl (fun h => h)).trans e2; have x3 := (D.out.cell (p := ⟨x.at_, 3, none⟩) hxl (fun h => h)).trans e3; clear d hW1))
    all_goals go_wp2
    all_goals go_ret
    all_goals exact ⟨by rw [← faces_all HS.out.2.2.2]; rfl, D.out⟩
end

end Go.Proofs.YtgmmclcpfmnoiaaGreatDoor
