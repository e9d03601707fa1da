/-
  Package heap: put, walked.
-/
import Derived.Test.YtbojldbfjgeinaaGreatDoorHeapA
import Derived.IntWalk
import Derived.Test.YtbojldbfjgeinaaGreatDoorWorld2
import Derived.Test.YtbojldbfjgeinaaGreatDoorTwin
import Derived.Laws.OwnMore
import Derived.BigRegion
import Derived.Deep.RegionHeld3
namespace Go.Proofs.YtbojldbfjgeinaaGreatDoor
open Go.RowKit
section
variable {O2 : Blocks} {w w1 : World} {h wp lm : Nat} {most given : Int} {tv tv' : Value} {ks ks' : List Nat}
theorem HF.setGiven (H : HF O2 w h wp lm most given tv ks) (g : Int) : HF O2 (w.setCell ⟨h, 2, none⟩ (.int .i64 g)) h wp lm most g tv ks where
  wc := by rw [setCell_at H.wc]; rfl
  th := H.th.keep goodTg (chg_setCell w h 2 _) (fun k hk e => H.ne_t (by rw [hk, e])) (fun k hk => hk.elim)
  own_h := H.own_h
  own_t := H.own_t
  o_lt := fun k hk => by simpa using H.o_lt k hk
theorem HF.addT (H : HF O2 w h wp lm most given tv ks) (ho : OQ 195 1 RTg No w1 tv' ks') (c : Chg (fun k => some k = tv.ownBlock) w w1) (hl : tv'.ownBlock = tv.ownBlock ∨ ∃ k, tv'.ownBlock = some k ∧ w.heap.size ≤ k) :
    HF (fun k => O2 k ∨ tv'.ownBlock = some k) (w1.setCell ⟨h, 3, none⟩ tv') h wp lm most given tv' ks' ∧ Chg O2 w (w1.setCell ⟨h, 3, none⟩ tv') := by
  have hb := H.o_lt h H.own_h
  have hwc : w1.heap[h]? = some (.cells #[.pointer (some ⟨wp, 0, none⟩), .int .i64 most, .int .i64 given, tv, .map (some lm)] 125 (0, 0)) := (c.block h hb (fun e => H.ne_t e.symm)).trans H.wc
  have cs2 : Chg (· = h) w1 (w1.setCell ⟨h, 3, none⟩ tv') := chg_setCell w1 h 3 _
  have cO : Chg O2 w (w1.setCell ⟨h, 3, none⟩ tv') := (c.mono (S' := O2) (fun k _ e => H.own_t k e.symm)).trans cs2 (fun k _ e => by rw [e]; exact H.own_h)
  exact ⟨{
    wc := by rw [setCell_at hwc]; rfl
    th := ho.keep goodTg cs2 (fun k hk e => by
      rcases hl with hl | ⟨j, hj, hj2⟩
      · rw [hl] at hk; exact H.ne_t (by rw [hk, e])
      · rw [hj] at hk; cases hk; omega) (fun k hk => hk.elim)
    own_h := .inl H.own_h, own_t := fun k hk => .inr hk
    o_lt := fun k e => by
      rcases e with e | e
      · exact Nat.lt_of_lt_of_le (H.o_lt k e) cO.size
      · have := ho.lt k e; simpa using this }, cO⟩
def PutPost (O2 : Blocks) (w : World) (h wp lm : Nat) (most given : Int) (ks : List Nat) (e : Ending) (w' : World) : Prop := e = .returned (.int .i64 ks.length) ∧ ∃ O' tv', HF O' w' h wp lm most given tv' ks ∧ (∀ j, O' j → O2 j ∨ w.heap.size ≤ j) ∧ Chg O2 w w'
set_option maxRecDepth 100000 in
set_option maxHeartbeats 1600000 in
theorem hput_c (H : HF O2 w h wp lm most given tv ks) (k n c : Nat) (a : Option Addr) (hk : w.cell? ⟨k, 0, none⟩ = some (.slice a n c)) (hn : n ≤ 65536) (hl : ks.length ≤ 1000) (g0 : 0 ≤ given) (g1 : given ≤ 1000000000000) :
    Calls Tryz.prog 74 #[.pointer (some ⟨h, 0, none⟩), .iface 127 (.pointer (some ⟨k, 0, none⟩))] w (PutPost O2 w h wp lm most (given + (16 + 8 * n)) (ks ++ [k])) := by
  have c2 := blk_cell (j := 2) H.wc rfl
  have f2 := blk_frozen H.wc 2
  have hm : ∀ w, (method 511 127 (.pointer (some ⟨k, 0, none⟩)) "keystone/heap.size").run Tryz.prog w = .ok (295, .pointer (some ⟨k, 0, none⟩)) w := fun _ => by kernel_rfl
  have hwp : IntKind.i64.wrap (given + (16 + 8 * (n : Int))) = given + (16 + 8 * (n : Int)) := IntWalk.i64_in _ (by omega)
  have HH := Lib.hid H
  clear H
  go_enter Tryz.func74, Tryz.ntmps74
  go_wp2_with fail
  go_region_with (go_at_call 295; refine (size_m w.drew k n c a hk hn).mono ?_; rintro e w1 ⟨rfl, rfl⟩)
  all_goals
    clear hwp c2 f2 hm
    obtain ⟨wz, hwz⟩ : ∃ wz, wz = (w.setCell ⟨h, 2, none⟩ (.int .i64 (given + (16 + 8 * (n : Int))))).drew := ⟨_, rfl⟩
    have cz : Chg O2 w wz := by rw [hwz]; exact ((Chg.refl O2 w).setCell (p := ⟨h, 2, none⟩) (fun _ => HH.out.own_h) _).drew
    have hz : HF O2 wz h wp lm most (given + (16 + 8 * n)) tv ks := by rw [hwz]; exact (HH.out.setGiven _).new (Chg.refl _ _).drew
    rw [← hwz]
    have HZ := Lib.hid (And.intro hz (And.intro cz hwz))
    obtain ⟨ta, tc, htv⟩ := hz.th.form
    subst htv
    have c3 : wz.cell? ⟨h, 3, none⟩ = some (.slice ta ks.length tc) := blk_cell (j := 3) hz.wc rfl
    have HA := Lib.hid (And.intro (hz.new ((Chg.refl No wz).alloc (.cells #[.iface 127 (.pointer (some ⟨k, 0, none⟩))] 195))) (Src.single (P := Tryz.prog) (n := 1) (S := No) (R := RTg) goodTg (x := k) rfl rfl (tx := 123) Tryz.underlying123 ⟨wz.heap.size, 0, none⟩ 1 (At.lit wz [.iface 127 (.pointer (some ⟨k, 0, none⟩))] 195)))
    clear cz hz hwz
    go_wp2_with (at_builtin; (refine wpList_appQ (S := No) rfl (.tmp 18) (.tmp 20) 123 123 rfl 195 .nilIface 16 Tryz.underlying123 info_th rfl (by decide) goodTg (.slice ta ks.length tc) ks rfl HA.out.1.th (fun n hn _ => hn.elim) (.slice (some ⟨wz.heap.size, 0, none⟩) 1 1) [k] [[.iface 127 (.pointer (some ⟨k, 0, none⟩))]] rfl (Els.single rfl rfl) HA.out.2 (by unfold maxLen; simp only [List.length_cons, List.length_nil]; omega) (by simp only [List.length_cons, List.length_nil]; omega) ?_); intro v' w3 e1 e2 e3; obtain ⟨na, nc, hv5⟩ := e1.form; rw [List.length_append, List.length_singleton] at hv5; subst hv5; have kb := ((e2.block _ (HA.out.1.o_lt _ HA.out.1.own_h) (fun e => HA.out.1.ne_t e.symm)).trans HA.out.1.wc); have y3 := blk_cell (j := 3) kb rfl; have f3 := blk_frozen kb 3; have y3' : w3.frozen? ⟨h, 3, none⟩ = false := f3; have hhl := heap_lt kb; have HE := Lib.hid (And.intro e1 (And.intro e2 e3)); clear e1 e2 e3 kb f3)
    obtain ⟨hC, hCc⟩ := HF.addT HA.out.1 HE.out.1 HE.out.2.1 HE.out.2.2
    have HC := Lib.hid (And.intro hC hCc)
    clear hC hCc
    go_ret
    refine ⟨ret_int (by simp), _, _, HC.out.1, fun j hj => ?_, ?_⟩
    · rcases hj with hj | hj
      · exact .inl hj
      · rcases HE.out.2.2 with e | ⟨m, e, hm⟩
        · rw [e] at hj; exact .inl (HZ.out.1.own_t j hj)
        · rw [e] at hj; cases hj; rw [size_alloc1] at hm; have := HZ.out.2.1.size; exact .inr (by omega)
    · exact ((HZ.out.2.1).alloc _).trans HC.out.2 (fun n _ h => h)
end
end Go.Proofs.YtbojldbfjgeinaaGreatDoor

namespace Go.Proofs.YtbojldbfjgeinaaGreatDoor
open Go.RowKit

/-- Cells written one behind the other. -/
def setCs (w : World) (g : Nat) : Nat → List Value → World
  | _, [] => w
  | o, u :: us => setCs (w.setCell ⟨g, o, none⟩ u) g (o + 1) us
def setLs (l : List Value) : Nat → List Value → List Value
  | _, [] => l
  | o, u :: us => setLs (l.set o u) (o + 1) us
theorem setLs_app (a b us : List Value) (o : Nat) : setLs (a ++ b) (a.length + o) us = a ++ setLs b o us := by
  induction us generalizing b o with
  | nil => rfl
  | cons u us ih =>
    show setLs ((a ++ b).set (a.length + o) u) (a.length + o + 1) us = a ++ setLs (b.set o u) (o + 1) us
    rw [List.set_append_right _ _ (by omega), Nat.add_sub_cancel_left, Nat.add_assoc]
    exact ih _ _
theorem setLs_head (c b us : List Value) (h : c.length = us.length) : setLs (c ++ b) 0 us = us ++ b := by
  induction us generalizing c b with
  | nil =>
    have : c = [] := List.eq_nil_of_length_eq_zero h
    subst this; rfl
  | cons u us ih =>
    cases c with
    | nil => simp at h
    | cons x c =>
      show setLs ((x :: c ++ b).set 0 u) 1 us = u :: us ++ b
      have := setLs_app [u] (c ++ b) us 0
      simp only [List.length_singleton, List.singleton_append, Nat.add_zero] at this
      rw [show (x :: c ++ b).set 0 u = u :: (c ++ b) from rfl, this, ih c b (by simpa using h)]
      rfl
theorem setLs_flat {css : List (List Value)} {n : Nat} (hn : ∀ cs ∈ css, cs.length = n) (i : Nat) (hi : i < css.length) (us : List Value) (hu : us.length = n) : setLs css.flatten (i * n) us = (css.set i us).flatten := by
  induction css generalizing i with
  | nil => simp at hi
  | cons c r ih =>
    have hc := hn c (List.mem_cons_self ..)
    cases i with
    | zero => rw [Nat.zero_mul, List.flatten_cons, setLs_head c _ us (by omega)]; rfl
    | succ i =>
      rw [List.flatten_cons, show (i + 1) * n = c.length + i * n from by rw [hc, Nat.add_mul]; omega, setLs_app, ih (fun cs h => hn cs (List.mem_cons_of_mem _ h)) i (by simpa using hi)]
      rfl
theorem setCs_own {w : World} {g : Nat} {e : TypeId} {size m cap : Nat} {xs : List Value} (us : List Value) (o : Nat) (h : w.ownsRow 0 e size (.slice (some ⟨g, 0, none⟩) m cap) m xs) :
    (setCs w g o us).ownsRow 0 e size (.slice (some ⟨g, 0, none⟩) m cap) m (setLs xs o us) ∧ Chg (· = g) w (setCs w g o us) := by
  induction us generalizing w o xs with
  | nil => exact ⟨h, Chg.refl _ _⟩
  | cons u us ih =>
    obtain ⟨h1, h2⟩ := h.stored o u
    obtain ⟨h3, h4⟩ := ih (o + 1) h1
    exact ⟨h3, (chg_setCell w g o u).trans h4 (fun _ _ h => h)⟩
section
variable {α : Type} {n : Nat} {R : Reading α} {S : Blocks} {w : World} {xs : List α}
/-- Element i written anew. -/
theorem OQ.store {e g m cap : Nat} (gd : Good R) (h : OQ e n R S w (.slice (some ⟨g, 0, none⟩) m cap) xs) (hS : ∀ k, S k → ¬ k = g) (i : Nat) (hi : i < xs.length) {x : α} {cs : List Value} (hR : R S w x cs) (hl : cs.length = n) :
    OQ e n R S (setCs w g (i * n) cs) (.slice (some ⟨g, 0, none⟩) m cap) (xs.set i x) ∧ Chg (· = g) w (setCs w g (i * n) cs) := by
  obtain ⟨css, ho, hE⟩ := h
  have hm : m = xs.length := by
    rcases ho.2 with ⟨h1, -⟩ | ⟨b, cap', cur, h1, -⟩
    · cases h1
    · cases h1; rfl
  subst hm
  obtain ⟨h1, h2⟩ := setCs_own cs (i * n) ho
  rw [setLs_flat hE.lens i (by rw [hE.1]; exact hi) cs hl] at h1
  refine ⟨⟨css.set i cs, by rw [List.length_set]; exact h1, by rw [List.length_set, List.length_set]; exact hE.1, fun j y ds hj hd => ?_⟩, h2⟩
  rw [List.getElem?_set] at hj hd
  by_cases hij : i = j
  · subst hij
    rw [if_pos rfl] at hj hd
    rw [if_pos hi] at hj
    rw [if_pos (by rw [hE.1]; exact hi)] at hd
    cases hj
    cases hd
    exact ⟨hl, gd.keep hR h2 hS⟩
  · rw [if_neg hij] at hj hd
    exact ⟨(hE.2 j y ds hj hd).1, gd.keep (hE.2 j y ds hj hd).2 h2 hS⟩
/-- What the walk reads of element i. -/
theorem OQ.at_ {e g m cap : Nat} (h : OQ e n R S w (.slice (some ⟨g, 0, none⟩) m cap) xs) (i : Nat) (hi : i < xs.length) : ∃ cs cur, cs.length = n ∧ R S w xs[i] cs ∧ w.heap[g]? = some (.cells cur e (0, 0)) ∧ ∀ j u, cs[j]? = some u → w.cell? ⟨g, i * n + j, none⟩ = some u := by
  have hb := h.block (k := g) rfl
  obtain ⟨css, ho, hE⟩ := h
  obtain ⟨cur, hcur⟩ := hb
  have hil : i < css.length := by rw [hE.1]; exact hi
  obtain ⟨c1, c2⟩ := hE.2 i xs[i] css[i] (List.getElem?_eq_getElem hi) (List.getElem?_eq_getElem hil)
  refine ⟨css[i], cur, c1, c2, hcur, fun j u hj => ?_⟩
  have hjn : j < n := by rw [← c1]; exact (List.getElem?_eq_some_iff.1 hj).1
  have := World.ownsRow.cells (g := g) ho rfl (i * n + j) u (by rw [flat_at hE.lens i j (List.getElem?_eq_getElem hil) hjn]; exact hj)
  rwa [add_mk, Nat.zero_add] at this
end

/-- n zero elements, as make lays them. -/
theorem madeCells_flat (z : List Value) (n : Nat) (hz : 0 < z.length) : (madeCells z.toArray (n * z.length)).toList = (List.replicate n z).flatten := by
  apply List.ext_getElem?
  intro j
  by_cases hj : j < n * z.length
  · have hq : j / z.length < n := (Nat.div_lt_iff_lt_mul hz).2 hj
    have hr : j % z.length < z.length := Nat.mod_lt _ hz
    have e1 : (List.replicate n z).flatten[j / z.length * z.length + j % z.length]? = z[j % z.length]? :=
      flat_at (css := List.replicate n z) (n := z.length) (fun cs h => by rw [List.eq_of_mem_replicate h]) (j / z.length) (j % z.length) (by rw [List.getElem?_replicate, if_pos hq]) hr
    rw [show j / z.length * z.length + j % z.length = j from by rw [Nat.mul_comm]; exact Nat.div_add_mod j z.length] at e1
    rw [e1]
    simp only [madeCells, Array.toList_map, Array.toList_range, List.getElem?_map, List.getElem?_range hj, Option.map_some, List.size_toArray]
    rw [List.getElem?_eq_getElem hr]
    congr 1
    exact getElem!_pos z.toArray (j % z.length) (by simpa using hr)
  · rw [List.getElem?_eq_none (by simp [madeCells]; omega), List.getElem?_eq_none (by rw [List.length_flatten, List.map_replicate, List.sum_replicate_nat]; omega)]
theorem OQ.made {α : Type} {R : Reading α} {S : Blocks} (w : World) (e : TypeId) (x : α) (cs : List Value) (n : Nat) (hc : 0 < cs.length) (hR : ∀ W, R S W x cs) (hn : n ≤ maxLen) :
    OQ e cs.length R S (w.alloc (.cells (madeCells cs.toArray (n * cs.length)) e)) (.slice (some ⟨w.heap.size, 0, none⟩) n n) (List.replicate n x) := by
  refine ⟨List.replicate n cs, ?_, by simp, fun i y ds hi hd => ?_⟩
  · rw [List.length_replicate, ← madeCells_flat cs n hc]
    refine ⟨by simp [madeCells], .inr ⟨w.heap.size, n, madeCells cs.toArray (n * cs.length), rfl, Nat.zero_le _, heap_alloc_new _ _, Nat.le_refl _, hn, size_madeCells _ _, ?_⟩⟩
    rw [List.take_of_length_le (by simp [madeCells])]
  · rw [List.getElem?_replicate] at hi hd
    split at hi
    · split at hd
      · cases hi; cases hd; exact ⟨rfl, hR _⟩
      · contradiction
    · cases hi
/-- The second of two cells, behind a store of the first. -/
theorem second_cell {w : World} {g e i : Nat} {cur : Array Value} {v x : Value} (h : w.heap[g]? = some (.cells cur e (0, 0))) (hv : w.cell? ⟨g, i + 1, none⟩ = some v) :
    (w.setCell ⟨g, i, none⟩ x).cell? ⟨g, i + 1, none⟩ = some v ∧ (w.setCell ⟨g, i, none⟩ x).frozen? ⟨g, i + 1, none⟩ = false := by
  have hc : cur[i + 1]? = some v := by simpa [World.cell?, h] using hv
  have hs := setCell_at (o := i) h x
  refine ⟨blk_cell hs ?_, blk_frozen hs _⟩
  rw [Array.getElem?_setIfInBounds_ne (by omega)]; exact hc

end Go.Proofs.YtbojldbfjgeinaaGreatDoor

namespace Go.Proofs.YtbojldbfjgeinaaGreatDoor
open Go.RowKit
attribute [local go_sem high] eqTy_run

set_option maxHeartbeats 1600000 in
theorem blank_num (w : World) :
    Calls Tryz.prog 73 #[.agg #[.int .i64 0, strV []]] w fun e w' => e = .returned (.agg #[.bool false, .int .i64 0]) ∧ Chg No w w' := by
  go_enter Tryz.func73, Tryz.ntmps73
  go_wp2_with fail
  refine (number_c _ 0 []).mono ?_
  rintro e w1 ⟨rfl, rfl⟩
  rw [show decide ((⟨0, []⟩ : Ty) = zTy) = true from by decide]
  go_wp2
  exact bodyPost_ret (v := .agg #[.bool false, .int .i64 0]) (by simp [results, Tryz.results73, go_sem]) rfl ⟨rfl, (((Chg.refl _ _).alloc _).alloc _).alloc _⟩

theorem cell_far {w : World} {g k : Nat} (i : Nat) (hk : ¬ g = k) (u v : Value) {o : Nat} : ((w.setCell ⟨g, i, none⟩ u).setCell ⟨g, i + 1, none⟩ v).cell? ⟨k, o, none⟩ = w.cell? ⟨k, o, none⟩ :=
  (World.cell?_setCell_far _ _ _ _ hk).trans (World.cell?_setCell_far _ _ _ _ hk)
def ArrPost (O2 : Blocks) (w : World) (h wp lm : Nat) (most given : Int) (ks : List Nat) (n : Nat) (e : Ending) (w' : World) : Prop :=
  (16 + 8 * (n : Int) ≤ most - given ∧ e = .returned (.tuple #[.int .i64 (ks.length + 1), .int .i64 0]) ∧ ∃ O' tv' k g, HF O' w' h wp lm most (given + (16 + 8 * n)) tv' (ks ++ [k]) ∧
    w'.heap[k]? = some (.cells #[.slice (some ⟨g, 0, none⟩) n n, .int .i64 0, strV []] 132 (0, 0)) ∧ OQ 118 2 RVl No w' (.slice (some ⟨g, 0, none⟩) n n) (List.replicate n ⟨false, 0⟩) ∧ (∀ j, O' j → O2 j ∨ w.heap.size ≤ j) ∧ Chg O2 w w') ∨
  (most - given < 16 + 8 * (n : Int) ∧ e = .returned (.tuple #[.int .i64 0, .int .i64 7]) ∧ Chg No w w')
section
variable {S O O2 : Blocks} {w w1 : World} {b mb : Nat} {nv : Value} {es : List Ent} {h lm : Nat} {most given : Int} {tv : Value} {ks : List Nat}
set_option maxRecDepth 100000 in
set_option maxHeartbeats 3200000 in
theorem array_num (hw : HW S O w b mb nv es true) (H : HF O2 w h b lm most given tv ks) (hap : ∀ k, O2 k → ¬ (S k ∨ O k)) (n : Nat) (hn : n ≤ 60) (hl : ks.length ≤ 1000) (m0 : -1000000000000 ≤ most) (m1 : most ≤ 1000000000000) (g0 : 0 ≤ given) (g1 : given ≤ 1000000000) :
    Calls Tryz.prog 27 #[.pointer (some ⟨h, 0, none⟩), .agg #[.int .i64 0, strV []], .int .i64 n] w (ArrPost O2 w h b lm most given ks n) := by
  obtain ⟨wa, hwa⟩ : ∃ wa, wa = w.alloc (.cells #[.int .i64 0, strV []] 55) := ⟨_, rfl⟩
  have cA : Chg No w wa := by rw [hwa]; exact (Chg.refl No w).alloc _
  have B0 : wa.heap[w.heap.size]? = some (.cells #[.int .i64 0, strV []] 55 (0, 0)) := by rw [hwa]; exact heap_alloc_new _ _
  have ha := H.new cA
  have x0 : ∀ x : Ext wa, x.v.cell? ⟨w.heap.size, 0, none⟩ = some (.int .i64 0) := fun x => x.cell (blk_cell B0 rfl)
  have x1 : ∀ x : Ext wa, x.v.cell? ⟨w.heap.size, 1, none⟩ = some (strV []) := fun x => x.cell (blk_cell B0 rfl)
  have k0 := fun x => ha.x 0 rfl x
  have hsz : w.heap.size < wa.heap.size := heap_lt B0
  have HS := Lib.hid (fun (x : Ext wa) => by
    have := sub_same ((hw.new cA).new x.c) 0 [] (by unfold Short; simp)
    rwa [show rightT (cls es) ⟨0, []⟩ = true from by unfold rightT; simp [tyErr]] at this)
  have HH := Lib.hid (And.intro hw (And.intro H (And.intro hap (And.intro cA (And.intro B0 hwa)))))
  clear hw H hap cA B0 ha hwa
  go_enter Tryz.func27, Tryz.ntmps27
  go_wp2_with fail
  change Code.wp _ _ _ _ (w.alloc (.cells #[.int .i64 0, strV []] 55))
  rw [← HH.out.2.2.2.2.2]
  refine wp_region_ext (by kernel_rfl) (by kernel_rfl) ?_
  repeat (first | go_big_quiet_step (((go_at_call 22; exact Calls.ext_of (HS.out _)))) | quiet_step (((go_at_call 22; exact Calls.ext_of (HS.out _)))))
  refine wpQuiet_nil ?_
  rintro _ ⟨x, rfl⟩
  clear x0 x1 k0
  have CX := Lib.hid (HH.out.2.2.2.1.trans x.c (fun _ _ h => h))
  by_cases hr : 16 + 8 * (n : Int) ≤ most - given
  · have hd : decide (16 + 8 * (n : Int) ≤ most - given) = true := by simp; omega
    have HR := Lib.hid hr; clear hr
    obtain ⟨i0, hi, hz0, hz1, hz2⟩ := info_parts info_vl
    have hmk : ∀ W : World, (Instr.makeSlice 128 (.int .i64 n) (.int .i64 n)).run Tryz.prog W = .ok (.slice (some ⟨W.heap.size, 0, none⟩) n n) (W.alloc (.cells (madeCells [Value.bool false, Value.int .i64 0].toArray (n * 2)) 118)) := fun W => by
      have := run_make (P := Tryz.prog) W 128 118 i0 _ Tryz.underlying128 hi hz0 .i64 .i64 n n (by omega) (Int.le_refl _) (by rw [hz2]; omega) (by omega)
      rw [Int.toNat_natCast, hz1] at this
      exact this
    have HMK := Lib.hid (And.intro hi (And.intro hz0 (And.intro hz1 hz2))); clear hi hz0 hz1 hz2
    go_wp2_with fail
    refine (room_c (HH.out.2.1.new CX.out) n (by omega) (by omega) m0 m1 g0 (by omega)).mono ?_
    rintro e w1 ⟨he, d1⟩
    rw [hd] at he
    subst he
    have BB := (x.c.trans d1 (fun _ _ h => h)).blk HH.out.2.2.2.2.1
    have D1 := Lib.hid (And.intro (CX.out.trans d1 (fun _ _ h => h)) BB)
    have b0 := blk_cell (j := 0) BB rfl
    have b1 := blk_cell (j := 1) BB rfl
    have hl1 := heap_lt BB
    clear d1 hd BB
    go_wp2_with fail
    go_region
    all_goals
      obtain ⟨g, hg⟩ : ∃ g, g = w1.heap.size := ⟨_, rfl⟩
      obtain ⟨wz, hwz⟩ : ∃ wz, wz = ((w1.alloc (.cells (madeCells [Value.bool false, Value.int .i64 0].toArray (n * 2)) 118)).alloc (.cells #[.slice (some ⟨w1.heap.size, 0, none⟩) n n, .int .i64 0, strV []] 132)).drew := ⟨_, rfl⟩
      have cz : Chg No w1 wz := by rw [hwz]; exact (((Chg.refl No w1).alloc _).alloc _).drew
      have bz : wz.heap[g + 1]? = some (.cells #[.slice (some ⟨g, 0, none⟩) n n, .int .i64 0, strV []] 132 (0, 0)) := by
        rw [hwz, hg]; exact alloc_at _ _ (by simp)
      have oz : OQ 118 2 RVl No wz (.slice (some ⟨g, 0, none⟩) n n) (List.replicate n ⟨false, 0⟩) := by
        rw [hwz, hg]
        exact (OQ.made w1 118 (⟨false, 0⟩ : Vl) [.bool false, .int .i64 0] n (by simp) (fun _ => rfl) (by unfold maxLen; omega)).keep goodVl (((Chg.refl No _).alloc _).drew) (fun _ _ h => h) (fun _ h => h.elim)
      have HZ := Lib.hid (And.intro cz (And.intro bz (And.intro oz hwz)))
      have hgl : w1.heap.size ≤ g := by omega
      have hgT : w.heap.size < g := by omega
      have hgw := heap_lt bz
      have HG := Lib.hid hg
      rw [← hwz, ← hg]
      clear cz bz oz hwz hg b0 b1
      have hbz := blk_cell (j := 0) HZ.out.2.1 rfl
      clear hl1 hgw hgl hsz
      go_wp2_with fail
      go_loopw [48] (fun i wr => ∃ j : Nat, j ≤ n ∧ i = .int .i64 j ∧ RowKit.Hid (Chg (· = g) wz wr ∧ OQ 118 2 RVl No wr (.slice (some ⟨g, 0, none⟩) n n) (List.replicate n ⟨false, 0⟩))) (fun i _ => n - (intOf i).toNat)
      case atStart => exact ⟨0, by omega, rfl, Lib.hid ⟨Chg.refl _ _, HZ.out.2.2.1⟩⟩
      case round =>
        obtain ⟨j, hj, rfl, hI⟩ := hrel
        by_cases hlt : j < n
        · have hir : j < (List.replicate n (⟨false, 0⟩ : Vl)).length := by simpa using hlt
          have hI2 := Lib.hid (And.intro hlt hir)
          obtain ⟨cs, cur, hcl, hR, hcur, hcell⟩ := OQ.at_ hI.out.2 j hir
          rw [List.getElem_replicate] at hR
          obtain rfl := hR
          have hgr := heap_lt hcur
          have TB := D1.out.2
          have Tr := hI.out.1.block w.heap.size (Nat.lt_of_lt_of_le (heap_lt TB) HZ.out.1.size) (by omega)
          rw [HZ.out.1.blk TB] at Tr
          have Gr := (hI.out.1.block (g + 1) (heap_lt HZ.out.2.1) (by omega)).trans HZ.out.2.1
          have k1 := blk_cell (j := 0) Gr rfl
          have k2 := blk_cell (j := 0) Tr rfl
          have k3 := blk_cell (j := 1) Tr rfl
          have hcc := Lib.hid (And.intro (hcell 0 _ rfl) (And.intro (hcell 1 _ rfl) (And.intro hcur (And.intro Tr Gr))))
          clear hcell hcl hcur Tr Gr TB hir
          go_wp2_with fail
          go_region_held3 (fun w' => w'.cell? ⟨g + 1, 0, none⟩ = some (.slice (some ⟨g, 0, none⟩) n n) ∧ w'.cell? ⟨w.heap.size, 0, none⟩ = some (.int .i64 0) ∧ w'.cell? ⟨w.heap.size, 1, none⟩ = some (strV [])) (first | exact ⟨k1, k2, k3⟩ | exact ⟨q1, q2, q3⟩ | exact ⟨(cell_far _ (show ¬ (g = g + 1) by omega) _ _).trans q1, (cell_far _ (show ¬ (g = w.heap.size) by omega) _ _).trans q2, (cell_far _ (show ¬ (g = w.heap.size) by omega) _ _).trans q3⟩) (first
            | (go_at_call 73; refine (blank_num wr.drew).mono ?_; rintro e w4 ⟨rfl, d⟩; have D4 := Lib.hid ((Chg.refl No wr).drew.trans d (fun _ _ h => h)); have q1 := blk_cell (j := 0) (D4.out.blk hcc.out.2.2.2.2) rfl; have q2 := blk_cell (j := 0) (D4.out.blk hcc.out.2.2.2.1) rfl; have q3 := blk_cell (j := 1) (D4.out.blk hcc.out.2.2.2.1) rfl; have u0 := (D4.out.cell (p := ⟨g, j * 2, none⟩) hgr (fun h => h)).trans hcc.out.1; have u1 := (D4.out.cell (p := ⟨g, j * 2 + 1, none⟩) hgr (fun h => h)).trans hcc.out.2.1; have u2 := D4.out.blk hcc.out.2.2.1; have f0 := blk_frozen u2 (j * 2); obtain ⟨u3, f3⟩ := second_cell (x := .bool false) u2 u1; clear d u2 u1))
          all_goals
            have HJ := Lib.hid (show Chg (· = g) wz ((w4.setCell ⟨g, j * 2, none⟩ (.bool false)).setCell ⟨g, j * 2 + 1, none⟩ (.int .i64 0)) ∧ OQ 118 2 RVl No ((w4.setCell ⟨g, j * 2, none⟩ (.bool false)).setCell ⟨g, j * 2 + 1, none⟩ (.int .i64 0)) (.slice (some ⟨g, 0, none⟩) n n) (List.replicate n ⟨false, 0⟩) from by
              obtain ⟨s1, s2⟩ := OQ.store goodVl (hI.out.2.new goodVl D4.out) (fun _ h => False.elim h) j hI2.out.2 (x := ⟨false, 0⟩) (cs := [.bool false, .int .i64 0]) rfl rfl
              rw [List.set_replicate_self] at s1
              exact ⟨(hI.out.1.trans D4.out (fun _ _ h => False.elim h)).trans s2 (fun _ _ h => h), s1⟩)
            clear q1 q2 q3 u0 f0 u3 f3 k1 k2 k3
            go_wp2
            go_roundw
            case rel =>
              first
                | exact ⟨j + 1, by omega, by go_num, HJ⟩
                | ((repeat apply Exists.intro); exact ⟨⟨j + 1, by omega, by go_num, HJ⟩, rfl⟩)
            case measure => first | (simp [intOf]; done) | (simp [intOf]; omega)
        · have hjn : j = n := by omega
          have HJN := Lib.hid hjn; clear hjn
          have Gr := (hI.out.1.block (g + 1) (heap_lt HZ.out.2.1) (by omega)).trans HZ.out.2.1
          have hG := Lib.hid Gr; clear Gr
          have cC : Chg No w wr := (D1.out.1.trans HZ.out.1 (fun _ _ h => h)).trans hI.out.1 (fun k hk e => by omega)
          have hC := Lib.hid cC; clear cC
          go_wp2_with fail
          refine (hput_c (HH.out.2.1.new hC.out) (g + 1) n n (some ⟨g, 0, none⟩) (blk_cell (j := 0) hG.out rfl) (by omega) hl g0 (by omega)).mono ?_
          rintro e w5 ⟨rfl, O', tv', h5, o5, c5⟩
          go_wp2
          go_ret2
          have hO : ∀ k, w.heap.size < k → ¬ O2 k := fun k hk e => by have := HH.out.2.1.o_lt k e; omega
          refine .inl ⟨HR.out, ?_, O', tv', g + 1, g, h5, (c5.block _ (heap_lt hG.out) (hO _ (by omega))).trans hG.out, hI.out.2.keep goodVl c5 (fun k hk => ?_) (fun _ h => False.elim h), fun k hk => ?_, (hC.out.mono (S' := O2) (fun _ _ h => False.elim h)).trans c5 (fun _ _ h => h)⟩
          · simp only [List.length_append, List.length_singleton]; rfl
          · cases hk; exact hO _ hgT
          · rcases o5 k hk with h | h
            · exact .inl h
            · have := hC.out.size; exact .inr (by omega)
  · have hd : decide (16 + 8 * (n : Int) ≤ most - given) = false := by simp; omega
    have HR := Lib.hid hr; clear hr
    go_wp2_with fail
    refine (room_c (HH.out.2.1.new CX.out) n (by omega) (by omega) m0 m1 g0 (by omega)).mono ?_
    rintro e w1 ⟨he, d1⟩
    rw [hd] at he
    subst he
    have D1 := Lib.hid (CX.out.trans d1 (fun _ _ h => h)); clear d1
    go_wp2
    go_ret2
    exact .inr ⟨by have := HR.out; omega, rfl, D1.out⟩
end
end Go.Proofs.YtbojldbfjgeinaaGreatDoor

namespace Go.Proofs.YtbojldbfjgeinaaGreatDoor
open Go.RowKit
attribute [local go_sem high] eqTy_run
section
variable {S O O2 : Blocks} {w w1 : World} {h wp lm : Nat} {most given : Int} {tv : Value} {ks : List Nat}

theorem at_c (H : HF O2 w h wp lm most given tv ks) (i k : Nat) (hi : ks[i]? = some k) (hl : ks.length ≤ 1000) :
    Calls Tryz.prog 152 #[.pointer (some ⟨h, 0, none⟩), .int .i64 (i + 1)] w fun e w' => e = .returned (.iface 127 (.pointer (some ⟨k, 0, none⟩))) ∧ w' = w := by
  have hil := (List.getElem?_eq_some_iff.1 hi).1
  obtain ⟨ta, tc, htv⟩ := H.th.form
  subst htv
  have hsq : SQ 1 RTg (fun _ => True) w (.slice ta ks.length tc) ks := H.th.sq goodTg (fun _ _ => trivial) (fun _ h => False.elim h)
  obtain ⟨b', o', ds, hv, hcl, hR, hbl', hsb, hcell⟩ := hsq.cells i hil
  subst hv
  rw [show ks[i] = k from (List.getElem?_eq_some_iff.1 hi).2] at hR
  obtain rfl := hR
  have g0 := hcell 0 _ rfl
  rw [Nat.mul_one, Nat.add_zero] at g0
  have y3 := blk_cell (j := 3) H.wc rfl
  have e1 : IntKind.i64.wrap ((i : Int) + 1 - 1) = (i : Int) := by rw [IntWalk.i64_in _ (by omega)]; omega
  clear hcell hcl hsq hi H
  go_enter Tryz.func152, Tryz.ntmps152
  go_wp2
  go_ret
  exact ⟨rfl, rfl⟩
theorem has_m (w : World) (k : Nat) (n c : Nat) (a : Option Addr) (h : w.cell? ⟨k, 0, none⟩ = some (.slice a n c)) (j : Nat) (hj : j < n) : Calls Tryz.prog 294 #[.pointer (some ⟨k, 0, none⟩), .int .i64 j] w fun e w' => e = .returned (.bool true) ∧ w' = w := by
  have hd : decide ((j : Int) < (n : Int)) = true := by simp; omega
  go_enter Tryz.func294, Tryz.ntmps294
  go_wp2
  go_ret
  refine ⟨?_, rfl⟩
  simp [hj]
set_option maxRecDepth 100000 in
set_option maxHeartbeats 3200000 in
theorem slot_c (H : HF O2 w h wp lm most given tv ks) (i k : Nat) (hi : ks[i]? = some k) (hl : ks.length ≤ 1000) (g n : Nat) (d : Int) (nm : Bs) (hk : w.heap[k]? = some (.cells #[.slice (some ⟨g, 0, none⟩) n n, .int .i64 d, strV nm] 132 (0, 0))) (j : Nat) (hj : j < n) :
    Calls Tryz.prog 123 #[.pointer (some ⟨h, 0, none⟩), .int .i64 (i + 1), .int .i64 j] w fun e w' => e = .returned (.tuple #[.pointer (some ⟨g, j * 2, none⟩), .agg #[.int .i64 d, strV nm], .int .i64 0]) ∧ Chg No w w' := by
  have hm : ∀ w, (method 511 127 (.pointer (some ⟨k, 0, none⟩)) "keystone/heap.has").run Tryz.prog w = .ok (294, .pointer (some ⟨k, 0, none⟩)) w := fun _ => by kernel_rfl
  have hta : ∀ w : World, (Instr.typeAssert (.iface 127 (.pointer (some ⟨k, 0, none⟩))) 195 127 true).run Tryz.prog w = .ok (.tuple #[.pointer (some ⟨k, 0, none⟩), .bool true]) w := fun _ => by kernel_rfl
  obtain ⟨wa, hwa⟩ : ∃ wa, wa = w.alloc (.cells #[.int .i64 0, strV []] 55) := ⟨_, rfl⟩
  have cA : Chg No w wa := by rw [hwa]; exact (Chg.refl No w).alloc _
  have B0 : wa.heap[w.heap.size]? = some (.cells #[.int .i64 0, strV []] 55 (0, 0)) := by rw [hwa]; exact heap_alloc_new _ _
  have Bk := cA.blk hk
  have HA := Lib.hid (at_c (H.new cA) i k hi hl)
  have k0 := blk_cell (j := 0) Bk rfl
  have k1 := blk_cell (j := 1) Bk rfl
  have k2 := blk_cell (j := 2) Bk rfl
  have t0 := blk_cell (j := 0) B0 rfl
  have t1 := blk_cell (j := 1) B0 rfl
  have tf0 := blk_frozen B0 0
  have tf1 := (second_cell (x := .int .i64 d) B0 t1)
  have HH := Lib.hid (And.intro H (And.intro cA (And.intro B0 hwa)))
  clear H hi hk cA B0 Bk hwa
  go_enter Tryz.func123, Tryz.ntmps123
  go_wp2_with fail
  change Calls _ _ _ (w.alloc (.cells #[.int .i64 0, strV []] 55)) _
  rw [← HH.out.2.2.2]
  refine HA.out.mono ?_
  rintro e w1 ⟨rfl, rfl⟩
  go_wp2_with fail
  refine (has_m _ k n n _ k0 j hj).mono ?_
  rintro e w2 ⟨rfl, rfl⟩
  go_wp2_with fail
  go_region
  all_goals
    obtain ⟨wq, hwq⟩ : ∃ wq, wq = ((w2.setCell ⟨w.heap.size, 0, none⟩ (.int .i64 d)).setCell ⟨w.heap.size, 1, none⟩ (strV nm)).drew := ⟨_, rfl⟩
    have cq : Chg No w wq := by rw [hwq]; exact ((HH.out.2.1.set_new (Nat.le_refl _) 0 _).set_new (Nat.le_refl _) 1 _).drew
    have bq : wq.heap[w.heap.size]? = some (.cells #[.int .i64 d, strV nm] 55 (0, 0)) := by rw [hwq]; exact setCell_at (setCell_at HH.out.2.2.1 _) _
    change Exit.then _ _ _ _ (((w2.setCell ⟨w.heap.size, 0, none⟩ (.int .i64 d)).setCell ⟨w.heap.size, 1, none⟩ (strV nm)).drew)
    rw [← hwq]
    have q0 := blk_cell (j := 0) bq rfl
    have q1 := blk_cell (j := 1) bq rfl
    have CQ := Lib.hid cq
    clear k0 k1 k2 t0 t1 tf0 tf1 hwq cq
    go_wp2
    exact bodyPost_ret (v := .tuple #[.pointer (some ⟨g, j * 2, none⟩), .agg #[.int .i64 d, strV nm], .int .i64 0]) (by simp [results, Tryz.results123, go_sem, q0, q1]) rfl ⟨rfl, CQ.out⟩
theorem get_c (H : HF O2 w h wp lm most given tv ks) (i k : Nat) (hi : ks[i]? = some k) (hl : ks.length ≤ 1000) (g n : Nat) (d : Int) (nm : Bs) (hk : w.heap[k]? = some (.cells #[.slice (some ⟨g, 0, none⟩) n n, .int .i64 d, strV nm] 132 (0, 0))) (xs : List Vl) (hx : OQ 118 2 RVl No w (.slice (some ⟨g, 0, none⟩) n n) xs) (j : Nat) (x : Vl) (hj : xs[j]? = some x) (hn : xs.length = n) :
    Calls Tryz.prog 70 #[.pointer (some ⟨h, 0, none⟩), .int .i64 (i + 1), .int .i64 j] w fun e w' => e = .returned (.tuple #[.agg #[.bool x.ref, .int .i64 x.n], .int .i64 0]) ∧ Chg No w w' := by
  have hjn := (List.getElem?_eq_some_iff.1 hj).1
  obtain ⟨wa, hwa⟩ : ∃ wa, wa = w.alloc (.cells #[.bool false, .int .i64 0] 118) := ⟨_, rfl⟩
  have cA : Chg No w wa := by rw [hwa]; exact (Chg.refl No w).alloc _
  have B0 : wa.heap[w.heap.size]? = some (.cells #[.bool false, .int .i64 0] 118 (0, 0)) := by rw [hwa]; exact heap_alloc_new _ _
  obtain ⟨cs, cur, hcl, hR, hcur, hcell⟩ := OQ.at_ hx j hjn
  rw [show xs[j] = x from (List.getElem?_eq_some_iff.1 hj).2] at hR
  obtain rfl := hR
  have HS := Lib.hid (slot_c (H.new cA) i k hi hl g n d nm (cA.blk hk) j (by omega))
  have HH := Lib.hid (And.intro cA (And.intro B0 (And.intro hwa (And.intro (hcell 0 _ rfl) (And.intro (hcell 1 _ rfl) (heap_lt hcur))))))
  clear H hi hk hx cA B0 hwa hcell hcl hcur hjn hj
  go_enter Tryz.func70, Tryz.ntmps70
  go_wp2_with fail
  change Calls _ _ _ (w.alloc (.cells #[.bool false, .int .i64 0] 118)) _
  rw [← HH.out.2.2.1]
  refine HS.out.mono ?_
  rintro e w1 ⟨rfl, d1⟩
  have D1 := Lib.hid (HH.out.1.trans d1 (fun _ _ h => h))
  have u0 : ∀ o, (w1.alloc o).cell? ⟨g, j * 2, none⟩ = some (.bool x.ref) := fun o => ((D1.out.alloc o).cell (p := ⟨g, j * 2, none⟩) HH.out.2.2.2.2.2 (fun h => h)).trans HH.out.2.2.2.1
  have u1 : ∀ o, (w1.alloc o).cell? ⟨g, j * 2 + 1, none⟩ = some (.int .i64 x.n) := fun o => ((D1.out.alloc o).cell (p := ⟨g, j * 2 + 1, none⟩) HH.out.2.2.2.2.2 (fun h => h)).trans HH.out.2.2.2.2.1
  have b1 : ∀ o, (w1.alloc o).heap[w.heap.size]? = some (.cells #[.bool false, .int .i64 0] 118 (0, 0)) := fun o => (d1.alloc o).blk HH.out.2.1
  have v0 := fun o => blk_cell (j := 0) (b1 o) rfl
  have v1 := fun o => blk_cell (j := 1) (b1 o) rfl
  have f0 := fun o => blk_frozen (b1 o) 0
  have z1 := fun o v => (second_cell (x := v) (b1 o) (v1 o)).1
  have z2 := fun o v => (second_cell (x := v) (b1 o) (v1 o)).2
  have HB := Lib.hid b1
  clear d1 b1 v1
  go_wp2
  have bq := setCell_at (o := 1) (setCell_at (o := 0) (HB.out (.cells #[.int .i64 d, strV nm] 55)) (.bool x.ref)) (.int .i64 x.n)
  have q0 := blk_cell (j := 0) bq rfl
  have q1 := blk_cell (j := 1) bq rfl
  exact bodyPost_ret (v := .tuple #[.agg #[.bool x.ref, .int .i64 x.n], .int .i64 0]) (by simp [results, Tryz.results70, go_sem, q0, q1]) rfl ⟨rfl, ((D1.out.alloc _).set_new (Nat.le_refl _) 0 _).set_new (Nat.le_refl _) 1 _⟩
theorem hset_c (H : HF O2 w h wp lm most given tv ks) (i k : Nat) (hi : ks[i]? = some k) (hl : ks.length ≤ 1000) (g n : Nat) (d : Int) (nm : Bs) (hk : w.heap[k]? = some (.cells #[.slice (some ⟨g, 0, none⟩) n n, .int .i64 d, strV nm] 132 (0, 0))) (j : Nat) (hj : j < n) (x : Vl) (hx : (x.ref == decide ((⟨d, nm⟩ : Ty) = zTy)) = true) :
    Calls Tryz.prog 71 #[.pointer (some ⟨h, 0, none⟩), .int .i64 (i + 1), .int .i64 j, .agg #[.bool x.ref, .int .i64 x.n]] w fun e w' => e = .returned (.int .i64 44) ∧ Chg No w w' := by
  obtain ⟨wa, hwa⟩ : ∃ wa, wa = w.alloc (.cells #[.bool x.ref, .int .i64 x.n] 118) := ⟨_, rfl⟩
  have cA : Chg No w wa := by rw [hwa]; exact (Chg.refl No w).alloc _
  have B0 : wa.heap[w.heap.size]? = some (.cells #[.bool x.ref, .int .i64 x.n] 118 (0, 0)) := by rw [hwa]; exact heap_alloc_new _ _
  have HS := Lib.hid (slot_c (H.new cA) i k hi hl g n d nm (cA.blk hk) j (by omega))
  have HX := Lib.hid hx
  have HH := Lib.hid (And.intro cA (And.intro B0 hwa))
  clear H hi hk hx cA B0 hwa hj
  go_enter Tryz.func71, Tryz.ntmps71
  go_wp2_with fail
  change Calls _ _ _ (w.alloc (.cells #[.bool x.ref, .int .i64 x.n] 118)) _
  rw [← HH.out.2.2]
  refine HS.out.mono ?_
  rintro e w1 ⟨rfl, d1⟩
  have D1 := Lib.hid (HH.out.1.trans d1 (fun _ _ h => h))
  have T1 := Lib.hid (d1.blk HH.out.2.1)
  clear d1
  obtain ⟨wb, hwb⟩ : ∃ wb, wb = w1.alloc (.cells #[.int .i64 d, strV nm] 55) := ⟨_, rfl⟩
  have cB : Chg No w1 wb := by rw [hwb]; exact (Chg.refl No w1).alloc _
  have BB : wb.heap[w1.heap.size]? = some (.cells #[.int .i64 d, strV nm] 55 (0, 0)) := by rw [hwb]; exact heap_alloc_new _ _
  have BT := cB.blk T1.out
  have x0 : ∀ x : Ext wb, x.v.cell? ⟨w1.heap.size, 0, none⟩ = some (.int .i64 d) := fun x => x.cell (blk_cell BB rfl)
  have x1 : ∀ x : Ext wb, x.v.cell? ⟨w1.heap.size, 1, none⟩ = some (strV nm) := fun x => x.cell (blk_cell BB rfl)
  have y0 : ∀ y : Ext wb, y.v.cell? ⟨w.heap.size, 0, none⟩ = some (.bool x.ref) := fun x => x.cell (blk_cell BT rfl)
  obtain ⟨q, hq⟩ : ∃ q, q = decide ((⟨d, nm⟩ : Ty) = zTy) := ⟨_, rfl⟩
  have hxq : (x.ref == q) = true := by rw [hq]; exact HX.out
  have HN := Lib.hid (fun (W : World) => (by have := number_c W d nm; rw [← hq] at this; exact this.mono (fun e w' h => ⟨h.1, by rw [h.2]; exact (Chg.refl No W).alloc _⟩) : Calls Tryz.prog 67 #[.agg #[.int .i64 d, strV nm]] W fun e w' => e = .returned (.bool q) ∧ Chg No W w'))
  have HBB := Lib.hid (And.intro cB hwb)
  clear hq BT BB cB hwb
  go_wp2_with fail
  change Code.wp _ _ _ _ (w1.alloc (.cells #[.int .i64 d, strV nm] 55))
  rw [← HBB.out.2]
  refine wp_region_ext (by kernel_rfl) (by kernel_rfl) ?_
  repeat (first | go_big_quiet_step (((go_at_call 67; exact Calls.ext_of (HN.out _)))) | quiet_step (((go_at_call 67; exact Calls.ext_of (HN.out _)))))
  refine wpQuiet_nil ?_
  rintro _ ⟨x, rfl⟩
  clear x0 x1 y0
  go_wp2
  go_ret
  exact ⟨rfl, (D1.out.trans HBB.out.1 (fun _ _ h => h)).trans x.c (fun _ _ h => h)⟩
end
end Go.Proofs.YtbojldbfjgeinaaGreatDoor

namespace Go.Proofs.YtbojldbfjgeinaaGreatDoor
open Go.RowKit
attribute [local go_sem high] eqTy_run

/-- A heap over a world of its own. -/
structure HS13 (w w' : World) (S O O2 : Blocks) (b mb : Nat) (nv : Value) (es : List Ent) (h lm : Nat) (most given : Int) (tv : Value) (ks : List Nat) : Prop where
  hw : HW S O w' b mb nv es true
  hf : HF O2 w' h b lm most given tv ks
  ap : ∀ k, O2 k → ¬ (S k ∨ O k)
  new1 : ∀ k, (S k ∨ O k) → w.heap.size ≤ k
  new2 : ∀ k, O2 k → w.heap.size ≤ k
  chg : Chg No w w'
section
variable {w w' w2 : World} {S O O2 : Blocks} {b mb : Nat} {nv : Value} {es : List Ent} {h lm : Nat} {most given : Int} {tv : Value} {ks : List Nat}
theorem HS13.new (H : HS13 w w' S O O2 b mb nv es h lm most given tv ks) (d : Chg No w' w2) : HS13 w w2 S O O2 b mb nv es h lm most given tv ks :=
  ⟨H.hw.new d, H.hf.new d, H.ap, H.new1, H.new2, H.chg.then d⟩
theorem HS13.step (H : HS13 w w' S O O2 b mb nv es h lm most given tv ks) {O' : Blocks} {g' : Int} {tv' : Value} {ks' : List Nat} (hf : HF O' w2 h b lm most g' tv' ks') (hO : ∀ j, O' j → O2 j ∨ w'.heap.size ≤ j) (c : Chg O2 w' w2) : HS13 w w2 S O O' b mb nv es h lm most g' tv' ks' :=
  ⟨H.hw.keep c (fun k hk ho => H.ap k ho (.inl hk)) (fun k hk ho => H.ap k ho (.inr hk)), hf, fun k hk hs => by
    rcases hO k hk with h1 | h1
    · exact H.ap k h1 hs
    · rcases hs with hs | hs
      · have := H.hw.s_lt k hs; omega
      · have := H.hw.o_lt k hs; omega, H.new1, fun k hk => by
    rcases hO k hk with h1 | h1
    · exact H.new2 k h1
    · have := H.chg.size; omega, H.chg.trans c (fun k hk ho => by have := H.new2 k ho; omega)⟩
end
/-- Built of no classes, and a heap over it. -/
theorem start13 {w w1 : World} {S O S2 O2 : Blocks} {b mb b2 : Nat} {nv cv pv : Value} {es : List Ent} {cs : List Cl} {ps : List (List En)} {w2 : World} {lm : Nat} {most : Int} (B : Both w w1 S O b mb nv es S2 O2 b2 cv pv cs ps true) (h : HF (fun k => k = w1.heap.size + 1) w2 (w1.heap.size + 1) b lm most 0 zNil []) (c : Chg No w1 w2) :
    HS13 w w2 S O (fun k => k = w1.heap.size + 1) b mb nv es (w1.heap.size + 1) lm most 0 zNil [] :=
  ⟨B.hw.new c, h, fun k hk hs => by
    subst hk
    rcases hs with hs | hs
    · have := B.hw.s_lt _ hs; omega
    · have := B.hw.o_lt _ hs; omega, B.new1, fun k hk => by have := B.chg.size; omega, B.chg.then c⟩
theorem eqVl_run (d : Nat) (w : World) (x0 y0 : Bool) (x1 y1 : Int) :
    (Op.equalIn (d + 2) 118 (.agg #[.bool x0, .int .i64 x1]) (.agg #[.bool y0, .int .i64 y1])).run Tryz.prog w = .ok (x0 == y0 && (x1 == y1 && true)) w := by
  refine eqOf Tryz.underlying118 (by kernel_rfl) ?_
  refine eqFld (by rfl) (by go_simp; rfl) (by go_simp; rfl) (by go_simp) ?_
  exact eqFld (by rfl) (by go_simp; rfl) (by go_simp; rfl) (by go_simp) eqNo
attribute [local go_sem high] eqVl_run
set_option maxRecDepth 100000 in
set_option maxHeartbeats 3200000 in
theorem known13 (w : World) : Calls Tryz.prog 25 #[] w fun e w' => e = .returned (.bool true) ∧ Chg No w w' := by
  go_enter Tryz.func25, Tryz.ntmps25
  go_wp2_with fail
  refine (built_nil w).mono ?_
  rintro e w1 ⟨S, O, b, mb, nv, es, S2, O2, b2, cv, pv, rfl, hB, -⟩
  have B := Lib.hid hB; clear hB
  go_wp2_with fail
  refine (heapNew_c w1 b 1000).mono ?_
  rintro e w2 ⟨rfl, h2, c2⟩
  have H2 := Lib.hid (start13 B.out h2 c2)
  clear h2 c2
  go_wp2_with fail
  refine (array_num H2.out.hw H2.out.hf H2.out.ap 2 (by omega) (by simp) (by omega) (by omega) (by omega) (by omega)).mono ?_
  rintro e w3 (⟨-, rfl, O', tv', k, g, h3, bk, ok, o3, c3⟩ | ⟨h, -⟩)
  · have H3 := Lib.hid (And.intro (H2.out.step h3 o3 c3) (And.intro bk ok))
    clear h3 o3 c3 bk ok
    go_wp2_with fail
    refine (get_c (w := w3) H3.out.1.hf 0 k rfl (by simp) g 2 0 [] H3.out.2.1 _ H3.out.2.2 0 ⟨false, 0⟩ rfl rfl).mono ?_
    rintro e w4 ⟨rfl, d4⟩
    have H4 := Lib.hid (H3.out.1.new d4)
    have K4 := Lib.hid (d4.blk H3.out.2.1)
    clear d4
    go_wp2_with fail
    have H5 := Lib.hid (H4.out.new ((Chg.refl No w4).alloc (.cells #[.bool false, .int .i64 0] 118)))
    have K5 := Lib.hid (((Chg.refl No w4).alloc (.cells #[.bool false, .int .i64 0] 118)).blk K4.out)
    refine (bytes_c H5.out.hf).mono ?_
    rintro e w5 ⟨rfl, hw5⟩
    rw [show (0 + (16 + 8 * ((2 : Nat) : Int)) : Int) = 32 from rfl]
    subst hw5
    go_wp2_with fail
    refine (hset_c H5.out.hf 0 k rfl (by simp) g 2 0 [] K5.out 0 (by omega) ⟨true, 0⟩ (by decide)).mono ?_
    rintro e w6 ⟨rfl, d6⟩
    have H6 := Lib.hid (H5.out.new d6)
    clear d6
    go_wp2
    go_ret
    exact ⟨rfl, H6.out.chg⟩
  · omega
end Go.Proofs.YtbojldbfjgeinaaGreatDoor
