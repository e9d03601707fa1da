/-
  Frames: the program's own functions, walked.
-/
import Derived.Test.YtgmmclcpfmnoiaaGreatDoorFrA
import Derived.Test.YtgmmclcpfmnoiaaGreatDoorHeapR
namespace Go.Proofs.YtgmmclcpfmnoiaaGreatDoor
open Go.RowKit
attribute [local go_sem high] eqVt_run

theorem vs_one (w : World) (x : Vt) : VS (w.alloc (.cells #[.int .i64 x.kind, .int .i64 x.type.dims, strV x.type.name, .int .i64 x.at_] 65)) (.slice (some ⟨w.heap.size, 0, none⟩) 1 1) [x] := by
  refine ⟨_, _, rfl, Nat.le_refl _, (fun h => by cases h), fun p hp _ => ?_⟩
  cases hp
  refine ⟨rfl, by simp, by simp, fun i y hi => ?_⟩
  cases i with
  | zero => cases hi; exact ⟨vtC x, rfl, rfl, by rw [Nat.zero_mul, add_mk]; exact At.lit w (vtC x) 65⟩
  | succ i => simp at hi
theorem r6 {w : World} {r : Nat} {T : TypeId} (h : w.heap[r]? = some (.cells #[zInt, zInt, zStr, zInt, zNil, zNil] T (0, 0))) :
    (w.cell? ⟨r, 0, none⟩ = some zInt ∧ w.cell? ⟨r, 1, none⟩ = some zInt ∧ w.cell? ⟨r, 2, none⟩ = some zStr ∧ w.cell? ⟨r, 3, none⟩ = some zInt ∧ w.cell? ⟨r, 4, none⟩ = some zNil ∧ w.cell? ⟨r, 5, none⟩ = some zNil) ∧
    w.frozen? ⟨r, 0, none⟩ = false ∧ w.frozen? ⟨r, 1, none⟩ = false ∧ w.frozen? ⟨r, 2, none⟩ = false ∧ w.frozen? ⟨r, 3, none⟩ = false ∧ w.frozen? ⟨r, 4, none⟩ = false ∧ w.frozen? ⟨r, 5, none⟩ = false :=
  ⟨⟨blk_cell h rfl, blk_cell h rfl, blk_cell h rfl, blk_cell h rfl, blk_cell h rfl, blk_cell h rfl⟩, blk_frozen h 0, blk_frozen h 1, blk_frozen h 2, blk_frozen h 3, blk_frozen h 4, blk_frozen h 5⟩
theorem blk_drew {w : World} {k : Nat} {o : Obj} (h : w.heap[k]? = some o) : w.drew.heap[k]? = some o := h
/-- A part of a row. -/
theorem VS.sub {w : World} {b o n cap : Nat} {xs : List Vt} (h : VS w (.slice (some ⟨b, o, none⟩) n cap) xs) (i j : Nat) (hij : i ≤ j) (hj : j ≤ n) : VS w (.slice (some ⟨b, o + i * 4, none⟩) (j - i) (cap - i)) ((xs.drop i).take (j - i)) := by
  obtain ⟨a, cap', he, h1, h2, h3⟩ := h
  cases he
  have hl : ((xs.drop i).take (j - i)).length = j - i := by rw [List.length_take, List.length_drop]; omega
  refine ⟨_, _, by rw [hl], by omega, (fun h => by cases h), fun p hp hne => ?_⟩
  cases hp
  have hx : xs ≠ [] := fun e => hne (by rw [e]; simp)
  obtain ⟨h4, h5, h6, h7⟩ := h3 _ rfl hx
  refine ⟨rfl, h5, h6, fun k x hk => ?_⟩
  rw [List.getElem?_take] at hk
  split at hk
  · rw [List.getElem?_drop] at hk
    obtain ⟨cs, h8, h9, h10⟩ := h7 (i + k) x hk
    refine ⟨cs, h8, h9, ?_⟩
    rw [add_mk] at h10 ⊢
    rwa [Nat.add_mul, ← Nat.add_assoc] at h10
  · cases hk

theorem VS.part {w : World} {b o n cap : Nat} {xs : List Vt} (h : VS w (.slice (some ⟨b, o, none⟩) n cap) xs) (i j : Nat) (hij : i ≤ j) (hj : j ≤ n) : VS w (.slice (if cap = i then some ⟨b, o, none⟩ else some ⟨b, o + i * 4, none⟩) (j - i) (cap - i)) ((xs.drop i).take (j - i)) := by
  split
  · rename_i hc
    have hn : n ≤ cap := by obtain ⟨a, c, h0, h1, -⟩ := h.form; cases h0; exact h1
    have hz : j - i = 0 := by omega
    rw [hz]
    exact ⟨some ⟨b, o, none⟩, cap - i, by simp, by simp, (fun h => by cases h), fun p hp hne => by simp at hne⟩
  · exact h.sub i j hij hj

set_option maxRecDepth 100000 in
set_option maxHeartbeats 1600000 in
theorem values_c (w : World) (f : Fr) (lv sv : Value) (h1 : VS w lv f.locals_) (h2 : VS w sv f.stack) (l1 : f.locals_.length ≤ 1000) (l2 : f.stack.length ≤ 1000) :
    Calls Tryz.prog 54 #[frV f.self_ lv sv] w (VRow w (f.self_ :: (f.locals_ ++ f.stack))) := by
  obtain ⟨fs, fl, fk⟩ := f
  obtain ⟨a1, c1, hv1, -, -⟩ := h1.form
  obtain ⟨a2, c2, hv2, -, -⟩ := h2.form
  simp only at hv1 hv2 h1 h2 l1 l2
  subst hv1; subst hv2
  obtain ⟨lv, hlv⟩ : ∃ lv, lv = Value.slice a1 fl.length c1 := ⟨_, rfl⟩
  obtain ⟨sv, hsv⟩ : ∃ sv, sv = Value.slice a2 fk.length c2 := ⟨_, rfl⟩
  rw [← hlv] at h1 ⊢
  rw [← hsv] at h2 ⊢
  obtain ⟨W0, hW0⟩ : ∃ W0, W0 = w.alloc (.cells (frA fs lv sv) 107) := ⟨_, rfl⟩
  have c0 : Chg No w W0 := by rw [hW0]; exact (Chg.refl _ _).alloc _
  have HV := Lib.hid (vs_one W0 fs)
  have HC := Lib.hid (And.intro h1 (And.intro h2 c0)); clear h1 h2 c0
  have HW := Lib.hid hW0
  have HLS := Lib.hid (And.intro hlv hsv)
  rw [hlv, hsv]
  clear hlv hsv
  go_enter Tryz.func54, Tryz.ntmps54
  go_wp2_with fail
  have hz : W0.heap.size = w.heap.size + 1 := by rw [hW0]; simp
  have hc := ((Chg.refl No W0).alloc (.cells #[.int .i64 fs.kind, .int .i64 fs.type.dims, strV fs.type.name, .int .i64 fs.at_] 65)).alloc (.cells #[.slice (some ⟨w.heap.size + 1, 0, none⟩) 1 1, lv, sv] 66)
  have h3 := concat3 _ (w.heap.size + 1 + 1) (.slice (some ⟨w.heap.size + 1, 0, none⟩) 1 1) lv sv [fs] fl fk 66 (alloc_at ((W0.alloc (.cells #[.int .i64 fs.kind, .int .i64 fs.type.dims, strV fs.type.name, .int .i64 fs.at_] 65))) (.cells #[.slice (some ⟨w.heap.size + 1, 0, none⟩) 1 1, lv, sv] 66) (by rw [← hz]; simp)) (by have := HV.out.new ((Chg.refl No _).alloc (.cells #[.slice (some ⟨w.heap.size + 1, 0, none⟩) 1 1, lv, sv] 66)); rwa [hz] at this) ((HC.out.1.new HC.out.2.2).new hc) ((HC.out.2.1.new HC.out.2.2).new hc) (by simp) (by simp) l1 l2
  rw [hW0] at h3 hc
  rw [HLS.out.1, HLS.out.2] at h3 hc
  refine h3.mono ?_
  rintro e w1 ⟨v, rfl, o1, d1, m1⟩
  have E := Lib.hid (And.intro o1 (And.intro d1 m1)); clear o1 d1 m1 h3
  have HCC := Lib.hid hc; clear hc
  go_wp2
  go_ret
  have cw := HC.out.2.2
  rw [HW.out, HLS.out.1, HLS.out.2] at cw
  refine ⟨_, rfl, E.out.1, (cw.trans HCC.out (fun _ _ h => h)).trans E.out.2.1 (fun _ _ h => h), fun k hk => ?_⟩
  have := E.out.2.2 k hk
  have hs := HCC.out.size
  have h0 := cw.size
  omega

set_option maxRecDepth 100000 in
set_option maxHeartbeats 400000 in
theorem with_c (w : World) (f : Vt) (a : Option Addr) (c : Nat) (sv : Value) (v : Value) (x : Vt) (ls ks : List Vt) (hv : VS w v (x :: (ls ++ ks))) (l1 : ls.length ≤ 1000) (l2 : ks.length ≤ 1000) :
    Calls Tryz.prog 55 #[frV f (.slice a ls.length c) sv, v] w (FrPost w ⟨x, ls, ks⟩) := by
  obtain ⟨ad, cap, rfl, hcap, -⟩ := hv.form
  obtain ⟨b, o, rfl, hb, g0, g1, g2, g3⟩ := hv.cells 0 (by simp)
  obtain ⟨n, hn⟩ : ∃ n, n = (x :: (ls ++ ks)).length := ⟨_, rfl⟩
  obtain ⟨m, hm⟩ : ∃ m, m = ls.length + 1 := ⟨_, rfl⟩
  rw [← hn] at hcap hv ⊢
  have hn2 : n = m + ks.length := by rw [hn, hm]; simp; omega
  simp only [List.getElem_cons_zero, Nat.zero_mul, Nat.add_zero] at g0 g1 g2 g3
  have hw : IntKind.i64.wrap (1 + (ls.length : Int)) = (m : Int) := by rw [IntWalk.i64_in _ (by omega)]; omega
  have i0 : (0 : Int) < (n : Int) := by omega
  have j0 : 0 < n := by omega
  have j1 : ¬ n = 0 := by omega
  have j2 : 1 ≤ m := by omega
  have j3 : m ≤ cap := by omega
  have j4 : m ≤ n := by omega
  have j5 : n ≤ cap := by omega
  have i1 : (1 : Int) ≤ (m : Int) := by omega
  have i2 : (m : Int) ≤ (cap : Int) := by omega
  have i3 : (m : Int) ≤ (n : Int) := by omega
  have i4 : (n : Int) ≤ (cap : Int) := by omega
  have i5 : (0 : Int) ≤ (m : Int) := by omega
  have V1 := hv.part 1 m (by omega) (by omega)
  have V2 := hv.part m n (by omega) (by omega)
  have e1 : (List.drop 1 (x :: (ls ++ ks))).take (m - 1) = ls := by rw [hm]; simp
  have e2 : (List.drop m (x :: (ls ++ ks))).take (n - m) = ks := by rw [hm, hn]; simp
  rw [e1, Nat.one_mul] at V1
  rw [e2] at V2
  obtain ⟨p1, hp1⟩ : ∃ p1, (if cap = 1 then (some ⟨b, o, none⟩ : Option Addr) else some ⟨b, o + 4, none⟩) = p1 := ⟨_, rfl⟩
  obtain ⟨p2, hp2⟩ : ∃ p2, (if cap = m then (some ⟨b, o, none⟩ : Option Addr) else some ⟨b, o + m * 4, none⟩) = p2 := ⟨_, rfl⟩
  rw [hp1] at V1
  rw [hp2] at V2
  have HV := Lib.hid (And.intro V1 V2); clear hv V1 V2 e1 e2
  have HM := Lib.hid (And.intro hm hn2); clear hm hn hn2
  go_enter Tryz.func55, Tryz.ntmps55
  go_wp2_with fail
  have CUR := Lib.hid (show Chg No w _ from ((Chg.refl No w).alloc (.cells (frA f (.slice a ls.length c) sv) 107)).alloc (.cells #[zInt, zInt, zStr, zInt, zNil, zNil] 68))
  have S4 : RowKit.Hid (∀ w', Chg No w w' → w'.cell? ⟨b, o, none⟩ = some (.int .i64 x.kind) ∧ w'.cell? ⟨b, o + 1, none⟩ = some (.int .i64 x.type.dims) ∧ w'.cell? ⟨b, o + 2, none⟩ = some (strV x.type.name) ∧ w'.cell? ⟨b, o + 3, none⟩ = some (.int .i64 x.at_)) := Lib.hid (fun w' hc => ⟨(hc.cell hb (fun h => h)).trans g0, (hc.cell hb (fun h => h)).trans g1, (hc.cell hb (fun h => h)).trans g2, (hc.cell hb (fun h => h)).trans g3⟩)
  clear g0 g1 g2 g3
  go_region_held3 (fun w' => w'.cell? ⟨b, o, none⟩ = some (.int .i64 x.kind) ∧ w'.cell? ⟨b, o + 1, none⟩ = some (.int .i64 x.type.dims) ∧ w'.cell? ⟨b, o + 2, none⟩ = some (strV x.type.name) ∧ w'.cell? ⟨b, o + 3, none⟩ = some (.int .i64 x.at_)) (first | (with_reducible exact S4.out _ CUR.out.drew) | (with_reducible exact S4.out _ CUR.out) | exact S4.out _ (CUR.out.six (by omega) _ _ _ _ _ _)) (first
    | (go_at_call 56; refine (clone_vt _ _ ls (HV.out.1.new CUR.out.drew) (by omega)).mono ?_; rintro e w1 ⟨v1, rfl, o1, d1, n1⟩; obtain ⟨na, nc, rfl⟩ := o1.form; have E1 := Lib.hid (And.intro o1 (And.intro d1 n1)); have CUR := Lib.hid (CUR.out.drew.trans d1 (fun _ _ h => h)); clear o1 d1 n1)
    | (go_at_call 56; refine (clone_vt _ _ ks (HV.out.2.new CUR.out) (by omega)).mono ?_; rintro e w2 ⟨v2, rfl, o1, d1, n1⟩; obtain ⟨ma, mc, rfl⟩ := o1.form; have E2 := Lib.hid (And.intro o1 (And.intro d1 n1)); have KR := Lib.hid (show w2.heap[w.heap.size + 1]? = some (.cells #[zInt, zInt, zStr, zInt, zNil, zNil] 68 (0, 0)) from d1.blk (E1.out.2.1.blk (blk_drew (alloc_at _ (.cells #[zInt, zInt, zStr, zInt, zNil, zNil] 68) (by simp))))); obtain ⟨⟨r0, r1, r2, r3, r4, r5⟩, y0, y1, y2, y3, y4, y5⟩ := r6 KR.out; have CUR := Lib.hid (CUR.out.trans d1 (fun _ _ h => h)); clear o1 d1 n1))
  go_wp2
  have z1 : ∀ k, (Value.slice na ls.length nc).ownBlock = some k → w.heap.size + 2 ≤ k := fun k hk => by
    have h9 := E1.out.2.2 k hk
    have h8 : ((w.alloc (.cells (frA f (.slice a ls.length c) sv) 107)).alloc (.cells #[zInt, zInt, zStr, zInt, zNil, zNil] 68)).heap.size ≤ k := h9
    simpa using h8
  have z0 : w.heap.size + 2 ≤ w1.heap.size := by
    have h8 : ((w.alloc (.cells (frA f (.slice a ls.length c) sv) 107)).alloc (.cells #[zInt, zInt, zStr, zInt, zNil, zNil] 68)).heap.size ≤ w1.heap.size := E1.out.2.1.size
    simpa using h8
  refine bodyPost_ret (v := frV x (.slice na ls.length nc) (.slice ma ks.length mc)) (by simp [results, Tryz.results55, go_sem, r0, r1, r2, r3, r4, r5]) rfl ⟨_, _, rfl, ?_, ?_, ?_, ?_, ?_⟩
  · exact VO.six (OQ.new goodVt E1.out.1 E2.out.2.1) (b := w.heap.size + 1) (fun k hk => by have := z1 k hk; omega) _ _ _ _ _ _
  · exact VO.six E2.out.1 (b := w.heap.size + 1) (fun k hk => by have := E2.out.2.2 k hk; omega) _ _ _ _ _ _
  · exact Chg.six CUR.out (by omega) _ _ _ _ _ _
  · intro k hk; have := z1 k hk; omega
  · intro k hk; have := E2.out.2.2 k hk; omega
end Go.Proofs.YtgmmclcpfmnoiaaGreatDoor
