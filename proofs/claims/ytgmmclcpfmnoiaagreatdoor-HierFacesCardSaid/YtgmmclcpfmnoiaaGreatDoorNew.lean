/-
  (*table).put, walked.
-/
import Derived.Test.YtgmmclcpfmnoiaaGreatDoorApp
import Derived.Test.YtgmmclcpfmnoiaaGreatDoorPlain1
import Derived.Test.YtgmmclcpfmnoiaaGreatDoorApi
namespace Go.Proofs.YtgmmclcpfmnoiaaGreatDoor
open Go.RowKit

theorem At.lit2 (w : World) (o : Obj) (cs : List Value) (T : Nat) : At ((w.alloc o).alloc (.cells cs.toArray T)) ⟨w.heap.size + 1, 0, none⟩ cs := by
  have h := At.lit (w.alloc o) cs T
  rwa [show (w.alloc o).heap.size = w.heap.size + 1 from by simp] at h
theorem At.lit2d (w : World) (o : Obj) (cs : List Value) (T : Nat) : At ((w.alloc o).alloc (.cells cs.toArray T)).drew ⟨w.heap.size + 1, 0, none⟩ cs := At.lit2 w o cs T
theorem OQ.form {α : Type} {e n : Nat} {R : Reading α} {S : Blocks} {w : World} {v : Value} {xs : List α} (h : OQ e n R S w v xs) : ∃ a c, v = .slice a xs.length c := by
  obtain ⟨css, ho, _⟩ := h
  rcases ho.2 with ⟨h1, h2⟩ | ⟨g, cap, cur, h1, _⟩
  · exact ⟨none, 0, by rw [h1, h2]⟩
  · exact ⟨_, cap, h1⟩
/-- What the walk reads behind the append. -/
theorem put_facts {S O : Blocks} {w w1 : World} {b mb : Nat} {nv : Value} {es : List Ent} {lk : Bool} (h : HW S O w b mb nv es lk) {c1 c2 : Array Value} {T1 T2 : Nat} (g2 : Chg (fun k => some k = nv.ownBlock) ((w.alloc (.cells c1 T1)).alloc (.cells c2 T2)).drew w1) :
    w1.heap[b]? = some (.cells #[nv, .map (some mb), .bool lk] 81 (0, 0)) ∧ (∀ (j : Nat) (u : Value), c1[j]? = some u → w1.cell? ⟨w.heap.size, j, none⟩ = some u) ∧ w.heap.size < w1.heap.size := by
  have hbl := h.o_lt b h.own_b
  have hs := g2.size
  simp at hs
  refine ⟨?_, fun j u hj => ?_, by omega⟩
  · rw [g2.block b (by simp; omega) (fun e => h.ne_nb e.symm)]
    show (((w.alloc (.cells c1 T1)).alloc (.cells c2 T2))).heap[b]? = _
    rw [Below.heap_alloc _ _ b (by simp; omega), Below.heap_alloc _ _ b hbl]
    exact h.wc
  · rw [g2.cell (p := ⟨w.heap.size, j, none⟩) (by simp; omega) (fun e => by have := h.o_lt _ (h.own_n _ e.symm); simp only at this; omega)]
    show (((w.alloc (.cells c1 T1)).alloc (.cells c2 T2))).cell? ⟨w.heap.size, j, none⟩ = _
    rw [World.cell?_alloc_past _ _ _ (by simp)]
    simpa using hj
open Go.Maps Go.WideAt in
theorem StrMap.put_run {P : Program} {k e t : TypeId} {w : World} {b n : Nat} {f : List UInt8 → Option Nat} (h : StrMap P k w b n f) (hk : P.underlying k = some .string) (ht : P.underlying t = some (.map k e)) (hn : n < maxLen) (s : Bs) (hs : s.length ≤ maxLen) (p : Nat) :
    ∃ w', (Instr.mapUpdate t (.map (some b)) (.string ⟨s.toArray⟩) (.pointer (some ⟨p, 0, none⟩))).run P w = .ok () w' ∧ StrMap P k w' b (n + 1) (fun y => if y = s then some p else f y) ∧ w.grownBy w' (some b) := by
  obtain ⟨D, h1, h2⟩ := h
  obtain ⟨w', hr, h3, h4⟩ := h1.update (string_keyed hk) ht hn (str_key hk s hs) (ptrR_mk (some p))
  refine ⟨w', hr, ⟨_, h3, fun y hy => ?_⟩, h4⟩
  show _ = ptrD (if y = s then some p else f y)
  by_cases e : y = s
  · subst e
    rw [if_pos rfl, atKey_put_same (h1.tidy (string_keyed hk)).isMap (by exact trivial)]
  · rw [if_neg e, atKey_put_other (by intro e'; cases e'; exact e rfl)]
    exact h2 y hy
set_option maxRecDepth 100000 in
set_option maxHeartbeats 3200000 in
theorem put_c (S O : Blocks) (w : World) (b mb : Nat) (nv : Value) (es : List Ent) (lk : Bool) (h : HW S O w b mb nv es lk) (c : Cl) (p : List En) (f g m pv : Value)
    (hc : RCl S w c [.int .i64 c.flags, strV c.name, strV c.super, f, g, m]) (hp : SQ 6 REn S w pv p) (hs : ShortCl c) (hnew : ∀ x ∈ es, x.cl.name ≠ c.name) (hle : es.length ≤ 1000) :
    Calls Tryz.prog 32 #[.pointer (some ⟨b, 0, none⟩), .agg #[.int .i64 c.flags, strV c.name, strV c.super, f, g, m], pv] w fun e w' => e = .returned (.tuple #[]) ∧
      ∃ O' nv' k, HW S O' w' b mb nv' (es ++ [⟨k, c, p, [], []⟩]) lk ∧ (∀ k, k < w.heap.size → O' k → O k) ∧ (∀ k, O k → O' k) ∧ Chg O w w' := by
  obtain ⟨f1, g1, m1, hcs, q1, q2, q3⟩ := id hc
  simp only [List.cons.injEq, true_and, and_true] at hcs
  obtain ⟨rfl, rfl, rfl⟩ := hcs
  obtain ⟨a1, d1, rfl, -, -⟩ := q1.form
  obtain ⟨a2, d2, rfl, -, -⟩ := q2.form
  obtain ⟨a3, d3, rfl, -, -⟩ := q3.form
  obtain ⟨a4, d4, rfl, -, -⟩ := hp.form
  clear q1 q2 q3
  have H := Lib.hid h
  have HC := Lib.hid (And.intro hc (And.intro hp (And.intro hs hnew)))
  clear h hc hp hs hnew
  have c0 := H.out.c0
  have c1 := H.out.c1
  have hbl := H.out.o_lt b H.out.own_b
  have f0 := blk_frozen H.out.wc 0
  go_enter Tryz.func32, Tryz.ntmps32
  go_wp2_with fail
  have hA : At ((w.alloc (.cells #[.int .i64 c.flags, strV c.name, strV c.super, .slice a1 c.faces.length d1, .slice a2 c.fields.length d2, .slice a3 c.methods.length d3] 37)).alloc (.cells #[strV c.name] 9)).drew ⟨w.heap.size + 1, 0, none⟩ [strV c.name] := At.lit2d w _ [strV c.name] _
  have HA := Lib.hid (Src.single (P := Tryz.prog) (n := 1) (S := No) (R := RStr) goodStr (x := c.name) rfl rfl (tx := 34) Tryz.underlying34 _ 1 hA)
  clear hA
  have HN := Lib.hid (H.out.names.new goodStr ((((Chg.refl No w).alloc (.cells #[.int .i64 c.flags, strV c.name, strV c.super, .slice a1 c.faces.length d1, .slice a2 c.fields.length d2, .slice a3 c.methods.length d3] 37)).alloc (.cells #[strV c.name] 9)).drew))
  go_region_law (refine step_appQ (S := No) rfl (.tmp 10) (.tmp 13) 34 34 rfl 9 zStr 16 Tryz.underlying34 info_str rfl (by decide) goodStr nv (es.map fun x => x.cl.name) (by simp [Act.eval]) HN.out (fun k hk _ => hk.elim) (.slice (some ⟨w.heap.size + 1, 0, none⟩) 1 1) [c.name] [[strV c.name]] (by simp [Act.eval]) (Els.single rfl rfl) HA.out (by simp; unfold maxLen; omega) (by simp; omega) ?_; intro nv' w1 g1 g2 g3; obtain ⟨na, nc, rfl⟩ := g1.form; obtain ⟨k0, k1, k2⟩ := put_facts H.out g2; have kb0 : w1.cell? ⟨b, 0, none⟩ = some nv := blk_cell k0 rfl; have kb1 : w1.cell? ⟨b, 1, none⟩ = some (.map (some mb)) := blk_cell k0 rfl; have kbl : b < w1.heap.size := Nat.lt_trans hbl k2; have kf := blk_frozen k0 0; have x0 : w1.cell? ⟨w.heap.size, 0, none⟩ = some (.int .i64 c.flags) := k1 0 (.int .i64 c.flags) rfl; have x1 : w1.cell? ⟨w.heap.size, 1, none⟩ = some (strV c.name) := k1 1 (strV c.name) rfl; have x2 : w1.cell? ⟨w.heap.size, 2, none⟩ = some (strV c.super) := k1 2 (strV c.super) rfl; have x3 : w1.cell? ⟨w.heap.size, 3, none⟩ = some (.slice a1 c.faces.length d1) := k1 3 (.slice a1 c.faces.length d1) rfl; have x4 : w1.cell? ⟨w.heap.size, 4, none⟩ = some (.slice a2 c.fields.length d2) := k1 4 (.slice a2 c.fields.length d2) rfl; have x5 : w1.cell? ⟨w.heap.size, 5, none⟩ = some (.slice a3 c.methods.length d3) := k1 5 (.slice a3 c.methods.length d3) rfl; have G := Lib.hid (And.intro g1 (And.intro g2 g3)); clear g1 g2 g3 k1)
  all_goals
    clear c0 c1 f0
    obtain ⟨n, hnn, hm⟩ := H.out.map
    obtain ⟨ms, mc, hmb⟩ := hm.block
    have hw4 : mb < w.heap.size := H.out.o_lt mb H.out.own_m
    have hbm := H.out.ne_bm
    have hk1 : w1.heap[mb]? = w.heap[mb]? := by
      rw [G.out.2.1.block mb (by simp; omega) (fun e => H.out.ne_nm e.symm)]
      show (((w.alloc _).alloc _)).heap[mb]? = _
      rw [Below.heap_alloc _ _ mb (by simp; omega), Below.heap_alloc _ _ mb hw4]
    have hm2 : StrMap Tryz.prog 9 (((w1.setCell ⟨b, 0, none⟩ (.slice na (es.length + 1) nc)).alloc (.cells #[.int .i64 c.flags, strV c.name, strV c.super, .slice a1 c.faces.length d1, .slice a2 c.fields.length d2, .slice a3 c.methods.length d3, .slice a4 p.length d4, .slice none 0 0, .slice none 0 0] 94)).drew) mb n (atf es) := by
      refine hm.at_block ?_
      show ((w1.setCell ⟨b, 0, none⟩ (.slice na (es.length + 1) nc)).alloc _).heap[mb]? = _
      rw [Below.heap_alloc _ _ mb (by simp; omega), (chg_setCell w1 b 0 _).block mb (by omega) (fun e => hbm e.symm)]
      exact hk1
    obtain ⟨w4, hrun, hm4, hg4⟩ := hm2.put_run Tryz.underlying9 Tryz.underlying77 (by unfold maxLen; omega) c.name HC.out.2.2.1.name w1.heap.size
    have HM := Lib.hid (And.intro hm4 hg4)
    clear hm hmb hk1 hm2 hm4 hg4
    go_wp2_with fail
    go_region
    all_goals go_end0
    all_goals
      have hE : ((es.map fun x => x.cl.name) ++ [c.name]).length = es.length + 1 := by simp
      have h1 := G.out.1
      rw [hE] at h1
      have h2 := ((((Chg.refl (fun k => some k = nv.ownBlock) w).alloc (.cells #[.int .i64 c.flags, strV c.name, strV c.super, .slice a1 c.faces.length d1, .slice a2 c.fields.length d2, .slice a3 c.methods.length d3] 37)).alloc (.cells #[strV c.name] 9)).drew).trans G.out.2.1 (fun _ _ h => h)
      have h3 := G.out.2.2
      rw [hE] at h3
      have h3' : (Value.slice na (es.length + 1) nc).ownBlock = nv.ownBlock ∨ ∃ k, (Value.slice na (es.length + 1) nc).ownBlock = some k ∧ w.heap.size ≤ k := h3.imp id (fun ⟨k, e, hk⟩ => ⟨k, e, by simp at hk; omega⟩)
      have h4 := HM.out.1
      rw [show w1.heap.size = (w1.setCell ⟨b, 0, none⟩ (.slice na (es.length + 1) nc)).heap.size from by simp] at h4
      obtain ⟨O', hW, o1, o2, o3⟩ := H.out.put h1 h2 h3' HC.out.1 HC.out.2.1 HC.out.2.2.1 HC.out.2.2.2 h4 hnn ⟨HM.out.2.os, HM.out.2.tape, HM.out.2.output, HM.out.2.size, HM.out.2.block⟩
      exact ⟨rfl, O', _, _, hW, o1, o2, o3⟩

end Go.Proofs.YtgmmclcpfmnoiaaGreatDoor

namespace Go.Proofs.YtgmmclcpfmnoiaaGreatDoor
open Go.RowKit

theorem size_alloc1 (w : World) (o : Obj) : (w.alloc o).heap.size = w.heap.size + 1 := by simp
theorem HW.init (w : World) : HW No (fun k => k = w.heap.size ∨ k = w.heap.size + 1) ((w.alloc (.map #[] 0)).alloc (.cells #[zNil, .map (some w.heap.size), .bool false] 81)) (w.heap.size + 1) w.heap.size zNil [] false where
  wc := by have h := heap_alloc_new (w.alloc (.map #[] 0)) (.cells #[zNil, .map (some w.heap.size), .bool false] 81); rwa [size_alloc1] at h
  names := OQ.nil _ _ _ _
  map := ⟨0, Nat.le_refl _, (StrMap.made w).at_block (Below.heap_alloc _ _ _ (by simp))⟩
  ents := fun x hx => by cases hx
  nodup := List.nodup_nil
  uniq := List.nodup_nil
  own_b := .inr rfl
  own_m := .inl rfl
  own_n := fun k hk => by cases hk
  own_e := fun x hx => by cases hx
  apart := fun k hk => hk.elim
  s_lt := fun k hk => hk.elim
  o_lt := fun k hk => by simp; omega
  short := fun x hx => by cases hx

def firstCl (k : Nat) : Cl := ⟨0, firstNames[k]?.getD [], firstSuper k, [], [], [initM]⟩
theorem firsts_succ : ∀ k, k < 8 → firsts.take (k + 1) = firsts.take k ++ [firstCl k] := by decide
theorem firsts_new : ∀ k, k < 8 → ∀ c ∈ firsts.take k, c.name ≠ (firstCl k).name := by decide
theorem firsts_short : ∀ k, k < 8 → (firstCl k).name.length ≤ 32 ∧ (firstCl k).super.length ≤ 32 := by decide
theorem firsts_all : firsts.take 8 = firsts := by decide

/-- The value of the method <init>. -/
def initCells : List Value := [.int .i64 0, strV initName, zNil, .bool true, .int .i64 0, strV [], .int .i64 0, .int .i64 0, zNil, zNil]
theorem init_read (S : Blocks) (w : World) : RMt S w initM initCells := ⟨zNil, zNil, zNil, rfl, SQ.nil, SQ.nil, SQ.nil⟩
theorem init_sq (w : World) (S : Blocks) (hS : S w.heap.size) : SQ 10 RMt S (w.alloc (.cells initCells.toArray 32)) (.slice (some ⟨w.heap.size, 0, none⟩) 1 1) [initM] := by
  refine ⟨_, 1, rfl, Nat.le_refl _, (fun h => by cases h), fun p hp _ => ?_⟩
  cases hp
  refine ⟨rfl, by simp, hS, fun i x hi => ?_⟩
  cases i with
  | zero =>
    simp only [List.getElem?_cons_zero, Option.some.injEq] at hi
    subst hi
    exact ⟨initCells, rfl, init_read _ _, by rw [Nat.zero_mul]; exact At.lit w initCells _⟩
  | succ i => simp at hi

def namesV : Array Value := (firstNames.map strV).toArray
theorem names_at : ∀ k, k < 8 → namesV[k]? = some (strV (firstCl k).name) := by
  intro k hk
  have h : ∀ k, k < 8 → firstNames[k]? = some (firstCl k).name := by decide
  unfold namesV
  rw [List.getElem?_toArray, List.getElem?_map, h k hk]; rfl

/-- A world of the first k classes. -/
structure NewI (w : World) (k : Nat) (wr : World) (S O : Blocks) (nv : Value) (es : List Ent) : Prop where
  hw : HW S O wr (w.heap.size + 1) w.heap.size nv es false
  cl : cls es = firsts.take k
  bare : ∀ x ∈ es, x.pool = [] ∧ x.chain = [] ∧ x.faces = []
  newO : ∀ n, O n → w.heap.size ≤ n
  newS : ∀ n, S n → w.heap.size ≤ n
  chg : Chg No w wr
  lit : wr.heap[w.heap.size + 2]? = some (.cells namesV 9 (0, 0))
  notO : ¬ O (w.heap.size + 2)

set_option maxRecDepth 100000 in
set_option maxHeartbeats 3200000 in
theorem new_c (w : World) : Calls Tryz.prog 9 #[] w fun e w' => ∃ S O nv es, e = .returned (.pointer (some ⟨w.heap.size + 1, 0, none⟩)) ∧ NewI w 8 w' S O nv es := by
  have hmm := @run_makeMap Tryz.prog
  go_enter Tryz.func9, Tryz.ntmps9
  go_wp2_with fail
  go_loopw [11, 2] (fun i s wr => ∃ (k : Nat) (S O : Blocks) (nv : Value) (es : List Ent), k ≤ 8 ∧ i = .int .i64 k ∧ s = strV (firstSuper k) ∧ RowKit.Hid (NewI w k wr S O nv es)) (fun i _ _ => 8 - (intOf i).toNat)
  case atStart =>
    refine ⟨0, No, fun k => k = w.heap.size ∨ k = w.heap.size + 1, zNil, [], by omega, rfl, rfl, Lib.hid ?_⟩
    have h0 := HW.init w
    have c0 : Chg No w ((w.alloc (.map #[] 0)).alloc (.cells #[zNil, .map (some w.heap.size), .bool false] 81)) := ((Chg.refl _ w).alloc _).alloc _
    refine ⟨h0.new ((Chg.refl _ _).alloc _), rfl, (fun x hx => by cases hx), (fun n hn => by omega), (fun n hn => hn.elim), c0.alloc _, ?_, by omega⟩
    have := heap_alloc_new ((w.alloc (.map #[] 0)).alloc (.cells #[zNil, .map (some w.heap.size), .bool false] 81)) (.cells namesV 9)
    rwa [size_alloc1, size_alloc1] at this
  case round =>
    obtain ⟨k, S, O, nv, es, hk, rfl, rfl, hI⟩ := hrel
    by_cases hlt : k < 8
    · have g0 : wr.cell? ⟨w.heap.size + 2, k, none⟩ = some (strV (firstCl k).name) := by simp [World.cell?, hI.out.lit, names_at k hlt]
      have hsh := firsts_short k hlt
      have hm1 : HW S O (wr.alloc (.cells initCells.toArray 32)) (w.heap.size + 1) w.heap.size nv es false := hI.out.hw.new ((Chg.refl _ _).alloc _)
      have hm2 : HW (fun n => S n ∨ n = wr.heap.size) O (wr.alloc (.cells initCells.toArray 32)) (w.heap.size + 1) w.heap.size nv es false :=
        hm1.grow (fun n hn => .inl hn) (fun n hn => by
          rw [size_alloc1]
          rcases hn with hn | hn
          · have := hI.out.hw.s_lt n hn; omega
          · omega) (fun n hn ho => by
          have h1 := hI.out.hw.o_lt n ho
          rcases hn with hn | hn
          · exact hI.out.hw.apart n hn ho
          · omega)
      have hq : SQ 10 RMt (fun n => S n ∨ n = wr.heap.size) (wr.alloc (.cells initCells.toArray 32)) (.slice (some ⟨wr.heap.size, 0, none⟩) 1 1) [initM] := init_sq wr _ (.inr rfl)
      have hel : es.length ≤ 1000 := by
        have := congrArg List.length hI.out.cl
        simp [cls] at this
        omega
      have HZ := Lib.hid (And.intro hm2 (And.intro hq hel))
      clear hm1 hm2 hq hel
      go_wp2_with fail
      refine (put_c _ O _ _ _ nv es false HZ.out.1 (firstCl k) [] zNil zNil (.slice (some ⟨wr.heap.size, 0, none⟩) 1 1) zNil ⟨_, _, _, rfl, SQ.nil, SQ.nil, HZ.out.2.1⟩ SQ.nil
        ⟨by unfold Short maxLen; omega, by unfold Short maxLen; omega, fun s hs => by cases hs⟩
        (fun x hx => firsts_new k hlt x.cl (by rw [← hI.out.cl]; exact List.mem_map_of_mem hx)) HZ.out.2.2).mono ?_
      rintro e w1 ⟨rfl, O', nv', kk, hw1, o1, o2, c1⟩
      have hsz := c1.size
      simp at hsz
      have hI1 : NewI w (k + 1) w1 (fun n => S n ∨ n = wr.heap.size) O' nv' (es ++ [⟨kk, firstCl k, [], [], []⟩]) := by
        have hws := hI.out.chg.size
        refine ⟨hw1, ?_, ?_, ?_, ?_, ?_, ?_, ?_⟩
        · rw [firsts_succ k hlt, ← hI.out.cl]; simp [cls]
        · intro x hx
          rcases List.mem_append.1 hx with hx | hx
          · exact hI.out.bare x hx
          · simp only [List.mem_singleton] at hx; subst hx; exact ⟨rfl, rfl, rfl⟩
        · intro n hn
          by_cases hl : n < (wr.alloc (.cells initCells.toArray 32)).heap.size
          · exact hI.out.newO n (o1 n hl hn)
          · simp at hl; omega
        · intro n hn
          rcases hn with hn | hn
          · exact hI.out.newS n hn
          · omega
        · exact (hI.out.chg.alloc (.cells initCells.toArray 32)).trans c1 (fun n hn ho => by have := hI.out.newO n ho; omega)
        · have hl := heap_lt hI.out.lit
          rw [c1.block _ (by simp; omega) hI.out.notO, Below.heap_alloc _ _ _ hl]
          exact hI.out.lit
        · intro ho
          have hl := heap_lt hI.out.lit
          exact hI.out.notO (o1 _ (by simp; omega) ho)
      have HI := Lib.hid hI1
      clear hw1 o1 o2 c1 hI1 g0
      by_cases h2 : k < 2
      · have hfs : firstSuper (k + 1) = (firstCl k).name := by
          rcases (by omega : k = 0 ∨ k = 1) with rfl | rfl <;> rfl
        have HF := Lib.hid hfs; clear hfs
        go_wp2
        go_roundw
        case rel => exact ⟨k + 1, _, _, _, _, by omega, by go_num, by rw [HF.out], HI⟩
        case measure => simp [intOf]; omega
      · have hfs : firstSuper (k + 1) = firstSuper k := by
          obtain ⟨m, rfl⟩ : ∃ m, k = m + 2 := ⟨k - 2, by omega⟩
          rfl
        have HF := Lib.hid hfs; clear hfs
        go_wp2
        go_roundw
        case rel => exact ⟨k + 1, _, _, _, _, by omega, by go_num, by rw [HF.out], HI⟩
        case measure => simp [intOf]; omega
    · have hk8 : k = 8 := by omega
      subst hk8
      go_wp2
      go_ret
      exact ⟨S, O, nv, es, rfl, hI.out⟩

end Go.Proofs.YtgmmclcpfmnoiaaGreatDoor
