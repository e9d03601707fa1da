/-
  (*table).put, walked.
-/
import Derived.Test.YtgmmclcpfmnoiaaGreatDoorWorld2
import Derived.Test.YtgmmclcpfmnoiaaGreatDoorInfos
import Derived.Test.YtgmmclcpfmnoiaaGreatDoorTwin
namespace Go.Proofs.YtgmmclcpfmnoiaaGreatDoor
open Go.RowKit

theorem At.lit2 (w : World) (o : Obj) (cs : List Value) (T : Nat) : At ((w.alloc o).alloc (.cells cs.toArray T)) ⟨w.heap.size + 1, 0, none⟩ cs := by
  have h := At.lit (w.alloc o) cs T
  rwa [show (w.alloc o).heap.size = w.heap.size + 1 from by simp] at h
theorem At.lit2d (w : World) (o : Obj) (cs : List Value) (T : Nat) : At ((w.alloc o).alloc (.cells cs.toArray T)).drew ⟨w.heap.size + 1, 0, none⟩ cs := At.lit2 w o cs T
theorem OQ.form {α : Type} {e n : Nat} {R : Reading α} {S : Blocks} {w : World} {v : Value} {xs : List α} (h : OQ e n R S w v xs) : ∃ a c, v = .slice a xs.length c := by
  obtain ⟨css, ho, _⟩ := h
  rcases ho.2 with ⟨h1, h2⟩ | ⟨g, cap, cur, h1, _⟩
  · exact ⟨none, 0, by rw [h1, h2]⟩
  · exact ⟨_, cap, h1⟩
/-- What the walk reads behind the append. -/
theorem put_facts {S O : Blocks} {w w1 : World} {b mb : Nat} {nv : Value} {es : List Ent} {lk : Bool} (h : HW S O w b mb nv es lk) {c1 c2 : Array Value} {T1 T2 : Nat} (g2 : Chg (fun k => some k = nv.ownBlock) ((w.alloc (.cells c1 T1)).alloc (.cells c2 T2)).drew w1) :
    w1.heap[b]? = some (.cells #[nv, .map (some mb), .bool lk] 81 (0, 0)) ∧ (∀ (j : Nat) (u : Value), c1[j]? = some u → w1.cell? ⟨w.heap.size, j, none⟩ = some u) ∧ w.heap.size < w1.heap.size := by
  have hbl := h.o_lt b h.own_b
  have hs := g2.size
  simp at hs
  refine ⟨?_, fun j u hj => ?_, by omega⟩
  · rw [g2.block b (by simp; omega) (fun e => h.ne_nb e.symm)]
    show (((w.alloc (.cells c1 T1)).alloc (.cells c2 T2))).heap[b]? = _
    rw [Below.heap_alloc _ _ b (by simp; omega), Below.heap_alloc _ _ b hbl]
    exact h.wc
  · rw [g2.cell (p := ⟨w.heap.size, j, none⟩) (by simp; omega) (fun e => by have := h.o_lt _ (h.own_n _ e.symm); simp only at this; omega)]
    show (((w.alloc (.cells c1 T1)).alloc (.cells c2 T2))).cell? ⟨w.heap.size, j, none⟩ = _
    rw [World.cell?_alloc_past _ _ _ (by simp)]
    simpa using hj
open Go.Maps Go.WideAt in
theorem StrMap.put_run {P : Program} {k e t : TypeId} {w : World} {b n : Nat} {f : List UInt8 → Option Nat} (h : StrMap P k w b n f) (hk : P.underlying k = some .string) (ht : P.underlying t = some (.map k e)) (hn : n < maxLen) (s : Bs) (hs : s.length ≤ maxLen) (p : Nat) :
    ∃ w', (Instr.mapUpdate t (.map (some b)) (.string ⟨s.toArray⟩) (.pointer (some ⟨p, 0, none⟩))).run P w = .ok () w' ∧ StrMap P k w' b (n + 1) (fun y => if y = s then some p else f y) ∧ w.grownBy w' (some b) := by
  obtain ⟨D, h1, h2⟩ := h
  obtain ⟨w', hr, h3, h4⟩ := h1.update (string_keyed hk) ht hn (str_key hk s hs) (ptrR_mk (some p))
  refine ⟨w', hr, ⟨_, h3, fun y hy => ?_⟩, h4⟩
  show _ = ptrD (if y = s then some p else f y)
  by_cases e : y = s
  · subst e
    rw [if_pos rfl, atKey_put_same (h1.tidy (string_keyed hk)).isMap (by exact trivial)]
  · rw [if_neg e, atKey_put_other (by intro e'; cases e'; exact e rfl)]
    exact h2 y hy
set_option maxRecDepth 100000 in
set_option maxHeartbeats 3200000 in
theorem put_c (S O : Blocks) (w : World) (b mb : Nat) (nv : Value) (es : List Ent) (lk : Bool) (h : HW S O w b mb nv es lk) (c : Cl) (p : List En) (f g m pv : Value)
    (hc : RCl S w c [.int .i64 c.flags, strV c.name, strV c.super, f, g, m]) (hp : SQ 6 REn S w pv p) (hs : ShortCl c) (hnew : ∀ x ∈ es, x.cl.name ≠ c.name) (hle : es.length ≤ 1000) :
    Calls Tryz.prog 32 #[.pointer (some ⟨b, 0, none⟩), .agg #[.int .i64 c.flags, strV c.name, strV c.super, f, g, m], pv] w fun e w' => e = .returned (.tuple #[]) ∧
      ∃ O' nv' k, HW S O' w' b mb nv' (es ++ [⟨k, c, p, [], []⟩]) lk ∧ (∀ k, k < w.heap.size → O' k → O k) ∧ (∀ k, O k → O' k) ∧ Chg O w w' := by
  obtain ⟨f1, g1, m1, hcs, q1, q2, q3⟩ := id hc
  simp only [List.cons.injEq, true_and, and_true] at hcs
  obtain ⟨rfl, rfl, rfl⟩ := hcs
  obtain ⟨a1, d1, rfl, -, -⟩ := q1.form
  obtain ⟨a2, d2, rfl, -, -⟩ := q2.form
  obtain ⟨a3, d3, rfl, -, -⟩ := q3.form
  obtain ⟨a4, d4, rfl, -, -⟩ := hp.form
  clear q1 q2 q3
  have H := Lib.hid h
  have HC := Lib.hid (And.intro hc (And.intro hp (And.intro hs hnew)))
  clear h hc hp hs hnew
  have c0 := H.out.c0
  have c1 := H.out.c1
  have hbl := H.out.o_lt b H.out.own_b
  have f0 := blk_frozen H.out.wc 0
  go_enter Tryz.func32, Tryz.ntmps32
  go_wp2_with fail
  have hA : At ((w.alloc (.cells #[.int .i64 c.flags, strV c.name, strV c.super, .slice a1 c.faces.length d1, .slice a2 c.fields.length d2, .slice a3 c.methods.length d3] 37)).alloc (.cells #[strV c.name] 9)).drew ⟨w.heap.size + 1, 0, none⟩ [strV c.name] := At.lit2d w _ [strV c.name] _
  have HA := Lib.hid (Src.single (P := Tryz.prog) (n := 1) (S := No) (R := RStr) goodStr (x := c.name) rfl rfl (tx := 34) Tryz.underlying34 _ 1 hA)
  clear hA
  have HN := Lib.hid (H.out.names.new goodStr ((((Chg.refl No w).alloc (.cells #[.int .i64 c.flags, strV c.name, strV c.super, .slice a1 c.faces.length d1, .slice a2 c.fields.length d2, .slice a3 c.methods.length d3] 37)).alloc (.cells #[strV c.name] 9)).drew))
  go_region_law (refine step_appQ (S := No) rfl (.tmp 10) (.tmp 13) 34 34 rfl 9 zStr 16 Tryz.underlying34 info_str rfl (by decide) goodStr nv (es.map fun x => x.cl.name) (by simp [Act.eval, Act.put]) HN.out (fun k hk _ => hk.elim) (.slice (some ⟨w.heap.size + 1, 0, none⟩) 1 1) [c.name] [[strV c.name]] (by simp [Act.eval, Act.put]) (Els.single rfl rfl) HA.out (by simp; unfold maxLen; omega) (by simp; omega) ?_; intro nv' w1 g1 g2 g3; obtain ⟨na, nc, rfl⟩ := g1.form; obtain ⟨k0, k1, k2⟩ := put_facts H.out g2; have kb0 : w1.cell? ⟨b, 0, none⟩ = some nv := blk_cell k0 rfl; have kb1 : w1.cell? ⟨b, 1, none⟩ = some (.map (some mb)) := blk_cell k0 rfl; have kbl : b < w1.heap.size := Nat.lt_trans hbl k2; have kf := blk_frozen k0 0; have x0 : w1.cell? ⟨w.heap.size, 0, none⟩ = some (.int .i64 c.flags) := k1 0 (.int .i64 c.flags) rfl; have x1 : w1.cell? ⟨w.heap.size, 1, none⟩ = some (strV c.name) := k1 1 (strV c.name) rfl; have x2 : w1.cell? ⟨w.heap.size, 2, none⟩ = some (strV c.super) := k1 2 (strV c.super) rfl; have x3 : w1.cell? ⟨w.heap.size, 3, none⟩ = some (.slice a1 c.faces.length d1) := k1 3 (.slice a1 c.faces.length d1) rfl; have x4 : w1.cell? ⟨w.heap.size, 4, none⟩ = some (.slice a2 c.fields.length d2) := k1 4 (.slice a2 c.fields.length d2) rfl; have x5 : w1.cell? ⟨w.heap.size, 5, none⟩ = some (.slice a3 c.methods.length d3) := k1 5 (.slice a3 c.methods.length d3) rfl; have G := Lib.hid (And.intro g1 (And.intro g2 g3)); clear g1 g2 g3 k1)
  all_goals
    clear c0 c1 f0
    obtain ⟨n, hnn, hm⟩ := H.out.map
    obtain ⟨ms, mc, hmb⟩ := hm.block
    have hw4 : mb < w.heap.size := H.out.o_lt mb H.out.own_m
    have hbm := H.out.ne_bm
    have hk1 : w1.heap[mb]? = w.heap[mb]? := by
      rw [G.out.2.1.block mb (by simp; omega) (fun e => H.out.ne_nm e.symm)]
      show (((w.alloc _).alloc _)).heap[mb]? = _
      rw [Below.heap_alloc _ _ mb (by simp; omega), Below.heap_alloc _ _ mb hw4]
    have hm2 : StrMap Tryz.prog 9 (((w1.setCell ⟨b, 0, none⟩ (.slice na (es.length + 1) nc)).alloc (.cells #[.int .i64 c.flags, strV c.name, strV c.super, .slice a1 c.faces.length d1, .slice a2 c.fields.length d2, .slice a3 c.methods.length d3, .slice a4 p.length d4, .slice none 0 0, .slice none 0 0] 94)).drew) mb n (atf es) := by
      refine hm.at_block ?_
      show ((w1.setCell ⟨b, 0, none⟩ (.slice na (es.length + 1) nc)).alloc _).heap[mb]? = _
      rw [Below.heap_alloc _ _ mb (by simp; omega), (chg_setCell w1 b 0 _).block mb (by omega) (fun e => hbm e.symm)]
      exact hk1
    obtain ⟨w4, hrun, hm4, hg4⟩ := hm2.put_run Tryz.underlying9 Tryz.underlying77 (by unfold maxLen; omega) c.name HC.out.2.2.1.name w1.heap.size
    have HM := Lib.hid (And.intro hm4 hg4)
    clear hm hmb hk1 hm2 hm4 hg4
    go_wp2_with fail
    go_region
    all_goals go_end0
    all_goals
      have hE : ((es.map fun x => x.cl.name) ++ [c.name]).length = es.length + 1 := by simp
      have h1 := G.out.1
      rw [hE] at h1
      have h2 := ((((Chg.refl (fun k => some k = nv.ownBlock) w).alloc (.cells #[.int .i64 c.flags, strV c.name, strV c.super, .slice a1 c.faces.length d1, .slice a2 c.fields.length d2, .slice a3 c.methods.length d3] 37)).alloc (.cells #[strV c.name] 9)).drew).trans G.out.2.1 (fun _ _ h => h)
      have h3 := G.out.2.2
      rw [hE] at h3
      have h3' : (Value.slice na (es.length + 1) nc).ownBlock = nv.ownBlock ∨ ∃ k, (Value.slice na (es.length + 1) nc).ownBlock = some k ∧ w.heap.size ≤ k := h3.imp id (fun ⟨k, e, hk⟩ => ⟨k, e, by simp at hk; omega⟩)
      have h4 := HM.out.1
      rw [show w1.heap.size = (w1.setCell ⟨b, 0, none⟩ (.slice na (es.length + 1) nc)).heap.size from by simp] at h4
      obtain ⟨O', hW, o1, o2, o3⟩ := H.out.put h1 h2 h3' HC.out.1 HC.out.2.1 HC.out.2.2.1 HC.out.2.2.2 h4 hnn ⟨HM.out.2.os, HM.out.2.tape, HM.out.2.output, HM.out.2.size, HM.out.2.block⟩
      exact ⟨rfl, O', _, _, hW, o1, o2, o3⟩

end Go.Proofs.YtgmmclcpfmnoiaaGreatDoor
