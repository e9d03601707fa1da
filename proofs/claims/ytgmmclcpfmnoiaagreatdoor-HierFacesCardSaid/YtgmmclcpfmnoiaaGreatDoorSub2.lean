/-
  (*World).Sub and (*World).Faces, walked at any linked world.
-/
import Derived.Test.YtgmmclcpfmnoiaaGreatDoorSub1
import Derived.Deep.CutBlock
import Derived.Deep.RegionWith
namespace Go.Proofs.YtgmmclcpfmnoiaaGreatDoor
open Go.RowKit
attribute [local go_sem high] eqTy_run

/-- Are values of a type values of another one? -/
def subB (es : List Ent) (a b : Ty) : Bool :=
  if (rightT (cls es) a && rightT (cls es) b) = false then false
  else if a = b then true
  else if a = zTy ∨ b = zTy then false
  else if b = ⟨0, objectName⟩ then true
  else if 0 < a.dims ∨ 0 < b.dims then false
  else match es.find? (fun x => x.cl.name == a.name) with
    | some x => (x.chain.any fun s => s == b.name) || x.faces.any fun s => s == b.name
    | none => false
section
variable {S O : Blocks} {w : World} {b mb : Nat} {nv : Value} {es : List Ent} {lk : Bool}
theorem rightT_there {cs : List Cl} {t : Ty} (h : rightT cs t = true) (hn : t ≠ zTy) (hd : ¬ 0 < t.dims) : t.dims = 0 ∧ t.name ≠ [] ∧ ∃ c, fnd cs t.name = some c := by
  unfold rightT at h
  rw [Bool.and_eq_true, decide_eq_true_eq, Bool.or_eq_true, decide_eq_true_eq] at h
  obtain ⟨h1, h2⟩ := h
  have h0 : t.dims = 0 := by
    unfold tyErr at h1
    split at h1
    · cases h1
    · omega
  have hne : t.name ≠ [] := fun e => hn (by cases t; simp only at h0 e; subst h0; subst e; rfl)
  refine ⟨h0, hne, ?_⟩
  rcases h2 with h2 | h2
  · exact absurd h2 hne
  · exact Option.isSome_iff_exists.1 h2
theorem find_at {s : Bs} {c : Cl} (h : fnd (cls es) s = some c) : ∃ x, es.find? (fun x => x.cl.name == s) = some x ∧ x ∈ es ∧ x.cl = c ∧ x.cl.name = s ∧ atf es s = some x.at_ := by
  rw [find_cls] at h
  obtain ⟨x, hx, rfl⟩ := Option.map_eq_some_iff.1 h
  exact ⟨x, hx, List.mem_of_find?_eq_some hx, rfl, by have := List.find?_some hx; simpa using this, by unfold atf; rw [hx]; rfl⟩
theorem HW.facesC (h : HW S O w b mb nv es lk) {x : Ent} (hx : x ∈ es) : ∃ a c, w.cell? ⟨x.at_, 8, none⟩ = some (.slice a x.faces.length c) ∧ SQ 1 RStr S w (.slice a x.faces.length c) x.faces := by
  obtain ⟨f, g, m, p, c, q, ⟨-, -, -, -, -, -, -, -, e8⟩, -, -, -, -, -, q6⟩ := h.cells hx
  obtain ⟨a, cc, rfl, -, -⟩ := q6.form
  exact ⟨a, cc, e8, q6⟩
abbrev tyC (d : Int) (n : Bs) : Array Value := #[.int .i64 d, strV n]
/-- The two types, laid in blocks of their own. -/
def Two (w : World) (d : Int) (n : Bs) (d2 : Int) (n2 : Bs) (W : World) : Prop :=
  W.cell? ⟨w.heap.size, 0, none⟩ = some (.int .i64 d) ∧ W.cell? ⟨w.heap.size, 1, none⟩ = some (strV n) ∧ W.cell? ⟨w.heap.size + 1, 0, none⟩ = some (.int .i64 d2) ∧ W.cell? ⟨w.heap.size + 1, 1, none⟩ = some (strV n2)
theorem two_at (w : World) (d : Int) (n : Bs) (d2 : Int) (n2 : Bs) {W : World} (c : Chg No ((w.alloc (.cells (tyC d n) 26)).alloc (.cells (tyC d2 n2) 26)) W) : Two w d n d2 n2 W := by
  have h1 : ((w.alloc (.cells (tyC d n) 26)).alloc (.cells (tyC d2 n2) 26)).heap[w.heap.size]? = some (.cells (tyC d n) 26 (0, 0)) := alloc_blk (heap_alloc_new w _)
  have h2 : ((w.alloc (.cells (tyC d n) 26)).alloc (.cells (tyC d2 n2) 26)).heap[w.heap.size + 1]? = some (.cells (tyC d2 n2) 26 (0, 0)) := alloc_at _ _ (by simp)
  have k1 := c.blk h1
  have k2 := c.blk h2
  exact ⟨blk_cell k1 rfl, blk_cell k1 rfl, blk_cell k2 rfl, blk_cell k2 rfl⟩
set_option maxRecDepth 100000 in
set_option maxHeartbeats 6400000 in
theorem sub_c (h : HW S O w b mb nv es true) (d : Int) (n : Bs) (d2 : Int) (n2 : Bs) (sn : Short n) (sn2 : Short n2) (hl : ∀ x ∈ es, x.chain.length ≤ 1000 ∧ x.faces.length ≤ 1000) :
    Calls Tryz.prog 16 #[.pointer (some ⟨b, 0, none⟩), .agg (tyC d n), .agg (tyC d2 n2)] w fun e w' => e = .returned (.bool (subB es ⟨d, n⟩ ⟨d2, n2⟩)) ∧ Chg No w w' := by
  obtain ⟨wa, hwa⟩ : ∃ wa, wa = (w.alloc (.cells (tyC d n) 26)).alloc (.cells (tyC d2 n2) 26) := ⟨_, rfl⟩
  have cA : Chg No w wa := by rw [hwa]; exact ((Chg.refl No w).alloc _).alloc _
  have h1 := h.new cA
  have h2 := h1.c2
  have HTW := Lib.hid (fun (W : World) (c : Chg No wa W) => two_at w d n d2 n2 (W := W) (by rw [← hwa]; exact c))
  have HT1 := Lib.hid (fun (W : World) (c : Chg No wa W) => there_c (h1.new c) d n sn)
  have HT2 := Lib.hid (fun (W : World) (c : Chg No wa W) => there_c (h1.new c) d2 n2 sn2)
  have HN := Lib.hid (fun (W : World) (d : Int) (n : Bs) => (number_c W d n).mono (fun e w' (hh : _ ∧ _) => (⟨hh.1, by rw [hh.2]; exact (Chg.refl _ _).alloc _⟩ : e = .returned (.bool (decide ((⟨d, n⟩ : Ty) = zTy))) ∧ Chg No W w')))
  have HA := Lib.hid (And.intro cA hwa)
  have HH := Lib.hid h1
  obtain ⟨ra, hra⟩ : ∃ r, r = rightT (cls es) ⟨d, n⟩ := ⟨_, rfl⟩
  obtain ⟨rb, hrb⟩ : ∃ r, r = rightT (cls es) ⟨d2, n2⟩ := ⟨_, rfl⟩
  rw [← hra] at HT1
  rw [← hrb] at HT2
  have HR := Lib.hid (And.intro hra hrb)
  obtain ⟨y0, y1, y2, y3⟩ := HTW.out wa (Chg.refl _ _)
  clear h h1 cA hwa hra hrb
  go_enter Tryz.func16, Tryz.ntmps16
  go_upto_region 1 with fail
  change Code.wp _ _ _ _ ((w.alloc (.cells (tyC d n) 26)).alloc (.cells (tyC d2 n2) 26))
  rw [← HA.out.2]
  go_wp2_with fail
  refine (HT1.out wa (Chg.refl _ _)).mono ?_
  rintro e w1 ⟨rfl, d1⟩
  have D1 := Lib.hid d1; clear d1
  cases ra with
  | false =>
    go_wp2
    go_ret
    exact ⟨ret_b (by unfold subB; rw [← HR.out.1]; rfl), HA.out.1.trans D1.out (fun _ _ h => h)⟩
  | true =>
  clear y0 y1 y2 y3
  obtain ⟨y0, y1, y2, y3⟩ := HTW.out w1 D1.out
  go_wp2_with fail
  refine (HT2.out w1 D1.out).mono ?_
  rintro e w2 ⟨rfl, d1⟩
  have D2 := Lib.hid (D1.out.trans d1 (fun _ _ h => h)); clear d1 D1 y0 y1 y2 y3
  cases rb with
  | false =>
    go_wp2
    go_ret
    exact ⟨ret_b (by unfold subB; rw [← HR.out.2]; simp), HA.out.1.trans D2.out (fun _ _ h => h)⟩
  | true =>
  obtain ⟨y0, y1, y2, y3⟩ := HTW.out w2 D2.out
  have hRR : (rightT (cls es) ⟨d, n⟩ && rightT (cls es) ⟨d2, n2⟩) = true := by rw [← HR.out.1, ← HR.out.2]; rfl
  have HS := Lib.hid (show subB es ⟨d, n⟩ ⟨d2, n2⟩ = _ by unfold subB; rw [if_neg (by rw [hRR]; simp)])
  have HRR := Lib.hid (And.intro (show rightT (cls es) ⟨d, n⟩ = true from HR.out.1.symm) (show rightT (cls es) ⟨d2, n2⟩ = true from HR.out.2.symm))
  clear hRR HR HT1 HT2
  by_cases e1 : (⟨d, n⟩ : Ty) = ⟨d2, n2⟩
  · have HE := Lib.hid (HS.out.trans (if_pos e1))
    have q1 : tyEq d ⟨n.toArray⟩ d2 ⟨n2.toArray⟩ = true := by rw [tyEq_mk]; exact decide_eq_true e1
    clear HS e1
    go_wp2
    go_ret
    exact ⟨ret_b (by rw [HE.out]), HA.out.1.trans D2.out (fun _ _ h => h)⟩
  have HE := Lib.hid (HS.out.trans (if_neg e1))
  have q1 : tyEq d ⟨n.toArray⟩ d2 ⟨n2.toArray⟩ = false := by rw [tyEq_mk]; exact decide_eq_false e1
  clear HS e1
  go_wp2_with fail
  obtain ⟨za, hza⟩ : ∃ z, z = decide ((⟨d, n⟩ : Ty) = zTy) := ⟨_, rfl⟩
  have hN1 := HN.out w2 d n
  rw [← hza] at hN1
  refine hN1.mono ?_
  clear hN1
  rintro e w3 ⟨rfl, d3⟩
  have D3 := Lib.hid (D2.out.trans d3 (fun _ _ h => h)); clear d3 y0 y1 y2 y3
  cases za with
  | true =>
    have HE2 := Lib.hid (HE.out.trans (if_pos (.inl (of_decide_eq_true hza.symm))))
    clear hza HE
    go_wp2
    go_ret
    exact ⟨ret_b (by rw [HE2.out]), HA.out.1.trans D3.out (fun _ _ h => h)⟩
  | false =>
  obtain ⟨y0, y1, y2, y3⟩ := HTW.out w3 D3.out
  have hn1 : (⟨d, n⟩ : Ty) ≠ zTy := of_decide_eq_false hza.symm
  have HN1 := Lib.hid hn1
  clear hza hn1
  go_wp2_with fail
  obtain ⟨zb, hzb⟩ : ∃ z, z = decide ((⟨d2, n2⟩ : Ty) = zTy) := ⟨_, rfl⟩
  have hN2 := HN.out w3 d2 n2
  rw [← hzb] at hN2
  refine hN2.mono ?_
  clear hN2
  rintro e w4 ⟨rfl, d3⟩
  have D4 := Lib.hid (D3.out.trans d3 (fun _ _ h => h)); clear d3 y0 y1 y2 y3
  cases zb with
  | true =>
    have HE2 := Lib.hid (HE.out.trans (if_pos (.inr (of_decide_eq_true hzb.symm))))
    clear hzb HE
    go_wp2
    go_ret
    exact ⟨ret_b (by rw [HE2.out]), HA.out.1.trans D4.out (fun _ _ h => h)⟩
  | false =>
  obtain ⟨y0, y1, y2, y3⟩ := HTW.out w4 D4.out
  have HE2 := Lib.hid (HE.out.trans (if_neg (by
    rintro (h | h)
    · exact HN1.out h
    · exact of_decide_eq_false hzb.symm h)))
  clear hzb HE
  by_cases e3 : (⟨d2, n2⟩ : Ty) = ⟨0, objectName⟩
  · have HE3 := Lib.hid (HE2.out.trans (if_pos e3))
    have q3 : tyEq d2 ⟨n2.toArray⟩ 0 ⟨#[79, 98, 106, 101, 99, 116]⟩ = true := (tyEq_mk d2 0 n2 objectName).trans (decide_eq_true e3)
    clear HE2 e3
    go_wp2
    go_ret
    exact ⟨ret_b (by rw [HE3.out]), HA.out.1.trans D4.out (fun _ _ h => h)⟩
  have HE3 := Lib.hid (HE2.out.trans (if_neg e3))
  have q3 : tyEq d2 ⟨n2.toArray⟩ 0 ⟨#[79, 98, 106, 101, 99, 116]⟩ = false := (tyEq_mk d2 0 n2 objectName).trans (decide_eq_false e3)
  clear HE2 e3
  by_cases p1 : 0 < d
  · have p1' : d > 0 := p1
    have HE4 := Lib.hid (HE3.out.trans (if_pos (.inl p1)))
    clear HE3
    go_wp2
    go_ret
    exact ⟨ret_b (by rw [HE4.out]), HA.out.1.trans D4.out (fun _ _ h => h)⟩
  have p1' : ¬ d > 0 := p1
  by_cases p2 : 0 < d2
  · have p2' : d2 > 0 := p2
    have HE4 := Lib.hid (HE3.out.trans (if_pos (.inr p2)))
    clear HE3
    go_wp2
    go_ret
    exact ⟨ret_b (by rw [HE4.out]), HA.out.1.trans D4.out (fun _ _ h => h)⟩
  have p2' : ¬ d2 > 0 := p2
  have HE4 := Lib.hid (HE3.out.trans (if_neg (by
    rintro (h | h)
    · exact p1 h
    · exact p2 h)))
  clear HE3
  obtain ⟨-, -, c, hc⟩ := rightT_there HRR.out.1 HN1.out p1
  obtain ⟨y, hfx, hy, -, hxn, hxa⟩ := find_at hc
  simp only at hxn hxa
  subst hxn
  have HV := Lib.hid (show subB es ⟨d, y.cl.name⟩ ⟨d2, n2⟩ = ((y.chain.any fun s => s == n2) || y.faces.any fun s => s == n2) from HE4.out.trans (by rw [hfx]))
  clear HE4 hfx hc
  have hlx := hl y hy
  have h4 := HH.out.new D4.out
  obtain ⟨ab, hab⟩ : ∃ ab, ab = (y.chain.any fun s => s == n2) := ⟨_, rfl⟩
  have HB := Lib.hid hab
  have HAb := Lib.hid (fun (x : Ext w4) => by
    have := above_c (h4.new x.c) n2 y hy hlx.1
    rwa [← hab] at this)
  clear hab
  obtain ⟨fa, fc, e8, q8⟩ := h4.facesC hy
  have HC := Lib.hid (fun (x : Ext w4) => contains_str S x.v _ y.faces (q8.new goodStr x.c) (by omega) n2)
  have k1 := h4.ext1
  have kL := fun x => h4.extL (by exact sn) x
  rw [hxa] at kL
  have kL2 : ∀ x : Ext w4, (Instr.lookup 77 (.map (some mb)) (.string ⟨y.cl.name.toArray⟩) false).run Tryz.prog x.v = .ok (.pointer (some ⟨y.at_, 0, none⟩)) x.v := kL
  have k8 : ∀ x : Ext w4, x.v.cell? ⟨y.at_, 8, none⟩ = some (.slice fa y.faces.length fc) := fun x => x.cell e8
  have x1 : ∀ x : Ext w4, x.v.cell? ⟨w.heap.size, 1, none⟩ = some (strV y.cl.name) := fun x => x.cell y1
  have x3 : ∀ x : Ext w4, x.v.cell? ⟨w.heap.size + 1, 1, none⟩ = some (strV n2) := fun x => x.cell y3
  clear q8 hy hxa e8 kL h4
  go_upto_region 11 with fail
  clear y0 y1 y2 y3
  cases ab with
  | true =>
    refine wp_region_ext (by kernel_rfl) (by kernel_rfl) ?_
    repeat (first | go_big_quiet_step (((go_at_call 17; exact Calls.ext_of (HAb.out _)))) | quiet_step (((go_at_call 17; exact Calls.ext_of (HAb.out _)))))
    refine wpQuiet_nil ?_
    rintro _ ⟨x, rfl⟩
    go_wp2
    go_ret
    exact ⟨ret_b (by rw [HV.out, ← HB.out]; rfl), HA.out.1.trans (D4.out.trans x.c (fun _ _ h => h)) (fun _ _ h => h)⟩
  | false =>
    refine wp_region_ext (by kernel_rfl) (by kernel_rfl) ?_
    repeat (first | go_big_quiet_step (((first | (go_at_call 17; exact Calls.ext_of (HAb.out _)) | (go_at_call 51; exact Calls.ext_of (HC.out _))))) | quiet_step (((first | (go_at_call 17; exact Calls.ext_of (HAb.out _)) | (go_at_call 51; exact Calls.ext_of (HC.out _))))))
    refine wpQuiet_nil ?_
    rintro _ ⟨x, rfl⟩
    go_wp2
    go_ret
    exact ⟨ret_b (by rw [HV.out, ← HB.out]; rfl), HA.out.1.trans (D4.out.trans x.c (fun _ _ h => h)) (fun _ _ h => h)⟩
end

end Go.Proofs.YtgmmclcpfmnoiaaGreatDoor
