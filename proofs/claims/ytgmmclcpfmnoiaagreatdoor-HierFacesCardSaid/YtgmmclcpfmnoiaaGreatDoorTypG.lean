/-
  Package desc's Classes, walked at any types: the classes that they name, each once. Package hier's types.
-/
import Derived.Test.YtgmmclcpfmnoiaaGreatDoorMethG
import Derived.Test.YtgmmclcpfmnoiaaGreatDoorChain
import Derived.Test.YtgmmclcpfmnoiaaGreatDoorFinds
import Derived.Deep.CondSized
namespace Go.Proofs.YtgmmclcpfmnoiaaGreatDoor
open Go.RowKit

/-- The classes that types name. -/
structure ClsOf (ts : List Ty) (out : List Bs) : Prop where
  mem : ∀ s, s ∈ out ↔ s ≠ [] ∧ ∃ t ∈ ts, t.name = s
  len : out.length ≤ ts.length
theorem ClsOf.nil : ClsOf [] [] := ⟨fun s => by simp, Nat.le_refl _⟩
theorem ClsOf.skip {ts : List Ty} {out : List Bs} {t : Ty} (h : ClsOf ts out) (ht : t.name ∈ out ∨ t.name = []) : ClsOf (ts ++ [t]) out := by
  refine ⟨fun s => ?_, by rw [List.length_append]; have := h.len; omega⟩
  rw [h.mem s]
  constructor
  · rintro ⟨h1, t', h2, h3⟩; exact ⟨h1, t', List.mem_append_left _ h2, h3⟩
  · rintro ⟨h1, t', h2, h3⟩
    rcases List.mem_append.1 h2 with h2 | h2
    · exact ⟨h1, t', h2, h3⟩
    · simp only [List.mem_singleton] at h2
      subst h2
      rcases ht with ht | ht
      · rw [h3] at ht
        exact (h.mem s).1 ht
      · exact absurd (h3.symm.trans ht) h1
theorem ClsOf.add {ts : List Ty} {out : List Bs} {t : Ty} (h : ClsOf ts out) (h0 : t.name ≠ []) : ClsOf (ts ++ [t]) (out ++ [t.name]) := by
  refine ⟨fun s => ?_, by rw [List.length_append, List.length_append]; have := h.len; simp; omega⟩
  rw [List.mem_append, h.mem s, List.mem_singleton]
  constructor
  · rintro (⟨h1, t', h2, h3⟩ | rfl)
    · exact ⟨h1, t', List.mem_append_left _ h2, h3⟩
    · exact ⟨h0, t, by simp, rfl⟩
  · rintro ⟨h1, t', h2, h3⟩
    rcases List.mem_append.1 h2 with h2 | h2
    · exact .inl ⟨h1, t', h2, h3⟩
    · simp only [List.mem_singleton] at h2; subst h2; exact .inr h3.symm

/-- The world while they are gathered. -/
structure ClW (w : World) (wr : World) (lv : Value) (T : List Bs) : Prop where
  chg : Chg No w wr
  own : OQ 9 1 RStr No wr lv T
  set : ∃ n, n ≤ T.length ∧ StrSet Tryz.prog 9 3 wr w.heap.size n (fun s => decide (s ∈ T))
  newL : ∀ k, lv.ownBlock = some k → w.heap.size < k
theorem ClW.new {w wr w1 : World} {lv : Value} {T : List Bs} (h : ClW w wr lv T) (d : Chg No wr w1) : ClW w w1 lv T :=
  ⟨h.chg.trans d (fun _ _ h => h), h.own.new goodStr d, let ⟨n, hn, hs⟩ := h.set; ⟨n, hn, hs.at_block (d.block _ hs.lt (fun h => h))⟩, h.newL⟩
theorem ClW.add {w wr w1 w2 : World} {lv lv' : Value} {s : Bs} {T : List Bs} (h : ClW w wr lv T) {n : Nat} (hn : n ≤ T.length) (hs : StrSet Tryz.prog 9 3 w1 w.heap.size (n + 1) (fun y => y == s || decide (y ∈ T)))
    (hg : wr.grownBy w1 (some w.heap.size)) {o : Obj} (ho : OQ 9 1 RStr No w2 lv' (T ++ [s])) (c2 : Chg (fun k => some k = lv.ownBlock) (w1.alloc o) w2) (hl : lv'.ownBlock = lv.ownBlock ∨ ∃ b, lv'.ownBlock = some b ∧ (w1.alloc o).heap.size ≤ b) :
    ClW w w2 lv' (T ++ [s]) := by
  have hc := h.chg.size
  have hsz := hg.size
  refine ⟨?_, ho, ⟨n + 1, by simp; exact hn, ?_⟩, fun k hk => ?_⟩
  · have c1 : Chg No w w1 := h.chg.trans (Chg.grown hg) (fun k hk e => by simp only [Option.some.injEq] at e; omega)
    exact (c1.alloc o).trans c2 (fun k hk e => by have := h.newL k e.symm; omega)
  · have he : (fun y => y == s || decide (y ∈ T)) = fun y => decide (y ∈ T ++ [s]) := by
      funext y
      by_cases h1 : y = s <;> by_cases h2 : y ∈ T <;> simp [h1, h2]
    rw [← he]
    have hlt := hs.lt
    refine hs.at_block ?_
    rw [c2.block _ (by simp; omega) (fun e => by have := h.newL _ e.symm; omega), Below.heap_alloc _ _ _ hlt]
  · rcases hl with hl | ⟨b, hl, hb⟩
    · rw [hl] at hk; exact h.newL k hk
    · rw [hl] at hk
      cases hk
      have hlt := hs.lt
      simp at hb
      omega

set_option maxRecDepth 100000 in
set_option maxHeartbeats 6400000 in
theorem classes_c (S : Blocks) (w : World) (tv : Value) (ts : List Ty) (h : SQ 2 RTy S w tv ts) (hl : ts.length ≤ 4000000) (hs : ∀ t ∈ ts, t.name.length ≤ maxLen) :
    Calls Tryz.prog 79 #[tv] w fun en w' => ∃ v out, en = .returned v ∧ OQ 9 1 RStr No w' v out ∧ ClsOf ts out ∧ Chg No w w' := by
  have hmm := @run_makeMap Tryz.prog
  obtain ⟨a, cap, rfl, -, -⟩ := h.form
  have H := Lib.hid (And.intro h hs); clear h hs
  have HI0 : RowKit.Hid (ClW w (w.alloc (.map #[] 0)) (.slice none 0 0) []) := Lib.hid ⟨(Chg.refl _ w).alloc _, OQ.nil _ _ _ _, ⟨0, Nat.le_refl _, by simpa using StrSet.made (P := Tryz.prog) (k := 9) (e := 3) w⟩, fun k hk => by cases hk⟩
  go_enter Tryz.func79, Tryz.ntmps79
  go_wp2
  go_loopw [3, 12] (fun lv iv wr => ∃ (k : Nat) (T : List Bs) (va : Option Addr) (vc : Nat), k ≤ ts.length ∧ iv = .int .i64 k ∧ lv = .slice va T.length vc ∧ RowKit.Hid (ClW w wr (.slice va T.length vc) T ∧ ClsOf (ts.take k) T)) (fun _ iv _ => ts.length - (intOf iv).toNat)
  case atStart => exact ⟨0, [], none, 0, Nat.zero_le _, rfl, rfl, Lib.hid ⟨HI0.out, by rw [List.take_zero]; exact ClsOf.nil⟩⟩
  case round =>
    obtain ⟨k, T, va, vc, hk, rfl, rfl, hJ⟩ := hrel
    by_cases hlt : k < ts.length
    · obtain ⟨b, o, ds, rfl, hcl, hR, hbl, hsb, hcell⟩ := SQ.cells (H.out.1.new goodTy hJ.out.1.chg) k hlt
      obtain rfl := hR
      have hsn := H.out.2 ts[k] (List.getElem_mem hlt)
      have htk : ts.take (k + 1) = ts.take k ++ [ts[k]] := List.take_succ_eq_append_getElem hlt
      have HTK := Lib.hid htk; clear htk
      obtain ⟨t, hte⟩ : ∃ t, t = ts[k] := ⟨_, rfl⟩
      rw [← hte] at hcell hsn HTK
      clear hte hcl
      have g0 := hcell 0 _ rfl
      have g1 := hcell 1 _ rfl
      rw [Nat.add_zero] at g0
      rw [← Nat.add_assoc] at g1
      clear hcell
      obtain ⟨s, hse⟩ : ∃ s, s = t.name := ⟨_, rfl⟩
      rw [← hse] at g1 hsn
      have HSE := Lib.hid (And.intro hse hsn); clear hse hsn
      obtain ⟨n, hn, hset⟩ := hJ.out.1.set
      have HT := Lib.hid (show StrSet Tryz.prog 9 3 (wr.alloc (.cells #[.int .i64 t.dims, strV s] 26)) w.heap.size n (fun s => decide (s ∈ T)) from hset.at_block (Below.heap_alloc _ _ _ hset.lt))
      have hTl : T.length ≤ k := by have := hJ.out.2.len; rw [List.length_take] at this; omega
      clear hset
      by_cases hsT : s ∈ T
      · have hd : decide (s ∈ T) = true := by simp [hsT]
        have HM := Lib.hid hsT; clear hsT
        go_wp2_with (at_lookup; refine wpList_look_set rfl _ _ 133 rfl 9 3 Tryz.underlying9 Tryz.underlying133 Tryz.underlying3 (zero_int _) w.heap.size n (fun s => decide (s ∈ T)) rfl HT.out s HSE.out.2 rfl ?_; intro cv)
        go_roundw
        case rel => exact ⟨k + 1, T, va, vc, by omega, by go_num, rfl, Lib.hid ⟨hJ.out.1.new ((Chg.refl _ _).alloc _), by rw [HTK.out]; exact hJ.out.2.skip (.inl (by rw [← HSE.out.1]; exact HM.out))⟩⟩
        case measure => simp [intOf]; omega
      · have hd : decide (s ∈ T) = false := by simp [hsT]
        have HM := Lib.hid hsT; clear hsT
        by_cases hs0 : s = []
        · have hie : List.isEmpty s = true := by rw [hs0]; rfl
          have H0 := Lib.hid hs0; clear hs0
          go_wp2_with (at_lookup; refine wpList_look_set rfl _ _ 133 rfl 9 3 Tryz.underlying9 Tryz.underlying133 Tryz.underlying3 (zero_int _) w.heap.size n (fun s => decide (s ∈ T)) rfl HT.out s HSE.out.2 rfl ?_; intro cv)
          go_roundw
          case rel => exact ⟨k + 1, T, va, vc, by omega, by go_num, rfl, Lib.hid ⟨hJ.out.1.new ((Chg.refl _ _).alloc _), by rw [HTK.out]; exact hJ.out.2.skip (.inr (by rw [← HSE.out.1]; exact H0.out))⟩⟩
          case measure => simp [intOf]; omega
        · have hie : List.isEmpty s = false := by cases s with
            | nil => exact absurd rfl hs0
            | cons => rfl
          have H0 := Lib.hid hs0; clear hs0
          have HOW := Lib.hid (fun (w4 : World) (hg : (wr.alloc (.cells #[.int .i64 t.dims, strV s] 26)).grownBy w4 (some w.heap.size)) => ((hJ.out.1.own.new goodStr ((Chg.refl No wr).alloc (.cells #[.int .i64 t.dims, strV s] 26))).keep goodStr (Chg.grown hg) (fun k hk e => by have := hJ.out.1.newL k hk; simp only [Option.some.injEq] at e; omega) (fun k hk => hk.elim)).new goodStr ((Chg.refl No w4).alloc (.cells #[strV s] 9)))
          have HSR := Lib.hid (fun (w4 : World) => Src.single (P := Tryz.prog) (n := 1) (S := No) (R := RStr) goodStr (x := s) rfl rfl (tx := 34) Tryz.underlying34 ⟨w4.heap.size, 0, none⟩ 1 (At.lit w4 [strV s] 9))
          have HTB := Lib.hid (fun (w4 : World) (hg : (wr.alloc (.cells #[.int .i64 t.dims, strV s] 26)).grownBy w4 (some w.heap.size)) => (Chg.grown hg).block wr.heap.size (by simp) (fun e => by have := hJ.out.1.chg.size; have := HT.out.lt; simp only [Option.some.injEq] at e; have h2 := (hJ.out.1.set).choose_spec.2.lt; omega))
          go_wp2_with (first
            | (at_lookup; refine wpList_look_set rfl _ _ 133 rfl 9 3 Tryz.underlying9 Tryz.underlying133 Tryz.underlying3 (zero_int _) w.heap.size n (fun s => decide (s ∈ T)) rfl HT.out s HSE.out.2 rfl ?_; intro cv)
            | (at_mapUpdate; (refine wpList_put_set rfl (.tmp 30) (.tmp 32) (.tmp 34) 133 rfl 9 3 Tryz.underlying9 Tryz.underlying133 Tryz.underlying3 w.heap.size n (fun s => decide (s ∈ T)) rfl HT.out (by unfold maxLen; omega) s HSE.out.2 rfl (T.length : Int) (WalkArith.wf_i64 (by omega)) rfl ?_); intro w4 hset4 hg4; have HG4 := Lib.hid (And.intro hset4 hg4); have y1 : w4.cell? ⟨wr.heap.size, 1, none⟩ = some (strV s) := blk_cell ((HTB.out w4 hg4).trans (heap_alloc_new wr _)) rfl; clear hset4 hg4)
            | (at_builtin; (refine wpList_appQ (S := No) rfl (.tmp 35) (.tmp 38) 34 34 rfl 9 zStr 16 Tryz.underlying34 info_str rfl (by decide) goodStr (.slice va T.length vc) T rfl (HOW.out _ HG4.out.2) (fun k hk _ => hk.elim) (.slice (some ⟨w4.heap.size, 0, none⟩) 1 1) [s] [[strV s]] rfl (Els.single rfl rfl) (HSR.out _) (by simp; unfold maxLen; omega) (by simp; omega) ?_); intro v5 w5 g1 g2 g3; obtain ⟨na5, nc5, rfl, hc5⟩ := g1.form1 (by simp); have HG5 := Lib.hid (And.intro g1 (And.intro g2 g3)); clear g1 g2 g3))
          go_roundw
          case rel =>
            have hF := (hJ.out.1.new ((Chg.refl No wr).alloc (.cells #[.int .i64 t.dims, strV s] 26))).add hn HG4.out.1 HG4.out.2 HG5.out.1 HG5.out.2.1 HG5.out.2.2
            refine ⟨k + 1, T ++ [s], some ⟨na5, 0, none⟩, nc5, by omega, by go_num, by simp, Lib.hid ⟨hF, ?_⟩⟩
            rw [HTK.out, HSE.out.1]
            exact hJ.out.2.add (by rw [← HSE.out.1]; exact H0.out)
          case measure => simp [intOf]; omega
    · go_wp2
      go_ret
      have hd : ts.take k = ts := List.take_of_length_le (by omega)
      exact ⟨_, T, rfl, hJ.out.1.own, by rw [← hd]; exact hJ.out.2, hJ.out.1.chg⟩

end Go.Proofs.YtgmmclcpfmnoiaaGreatDoor

namespace Go.Proofs.YtgmmclcpfmnoiaaGreatDoor
open Go.RowKit

theorem At.of_block {w : World} {b T : Nat} {cs : List Value} (h : w.heap[b]? = some (.cells cs.toArray T (0, 0))) : At w ⟨b, 0, none⟩ cs := fun j u hj => by
  rw [add_mk, Nat.zero_add]
  exact blk_cell h (by rw [List.getElem?_toArray]; exact hj)
theorem OQ.tyNo {e : TypeId} {S : Blocks} {w : World} {v : Value} {xs : List Ty} (h : OQ e 2 RTy S w v xs) : OQ e 2 RTy No w v xs := let ⟨css, h1, h2⟩ := h; ⟨css, h1, h2.1, fun i x cs hi hc => ⟨(h2.2 i x cs hi hc).1, (h2.2 i x cs hi hc).2⟩⟩
theorem app_new {m n : Nat} {v v' : Value} (hs : m ≤ n) (h0 : ∀ k, v.ownBlock = some k → m ≤ k) (h : v'.ownBlock = v.ownBlock ∨ ∃ b, v'.ownBlock = some b ∧ n ≤ b) : ∀ k, v'.ownBlock = some k → m ≤ k := fun k hk => by
  rcases h with h | ⟨b, h, hb⟩
  · rw [h] at hk; exact h0 k hk
  · rw [h] at hk; cases hk; omega
set_option maxRecDepth 100000 in
set_option maxHeartbeats 3200000 in
theorem types_c (S : Blocks) (w : World) (g : Sg) (gv : Value) (hg : SQ 2 RTy S w gv g.params) (hS : ∀ k, S k → k < w.heap.size) (hl : g.params.length ≤ 1000000) :
    Calls Tryz.prog 74 #[.agg (sgA g gv)] w fun en w' => ∃ v, en = .returned v ∧ OQ 26 2 RTy No w' v (g.params ++ [g.result]) ∧ Chg No w w' ∧ ∀ k, v.ownBlock = some k → w.heap.size ≤ k := by
  obtain ⟨a, cap, rfl, -, -⟩ := hg.form
  have HC := Lib.hid (fun (W : World) (hW : Chg No w W) => clone_ty S W _ g.params (hg.new goodTy hW) (fun k hk => Nat.lt_of_lt_of_le (hS k hk) hW.size) (by omega))
  clear hg hS
  have hLen : (g.params ++ [g.result]).length = g.params.length + 1 := by simp
  go_enter Tryz.func74, Tryz.ntmps74
  go_wp2_with fail
  go_region_law (first
    | (refine step_appQ (S := No) rfl (.tmp 5) (.tmp 8) 24 24 rfl 26 (.agg #[zInt, zStr]) 24 Tryz.underlying24 info_ty rfl (by decide) goodTy (.slice va g.params.length vc) g.params (by simp [Act.eval]) (HB.out.1.new goodTy ((Chg.refl No _).alloc _)) (fun k hk _ => hk.elim) (.slice (some ⟨w1.heap.size, 0, none⟩) 1 1) [g.result] [[.int .i64 g.result.dims, strV g.result.name]] (by simp [Act.eval]) (Els.single rfl rfl) (Src.single (P := Tryz.prog) (n := 2) (S := No) (R := RTy) goodTy (x := g.result) rfl rfl (tx := 24) Tryz.underlying24 _ 1 (At.lit w1 _ _)) (by simp; unfold maxLen; omega) (by simp; omega) ?_; intro v' w3 g1 g2 g3; obtain ⟨na, nc, rfl⟩ := g1.form; rw [hLen] at g1 g3; have HG := Lib.hid (And.intro g1 (And.intro (HB.out.2.1.trans (((Chg.refl (fun k => some k = (Value.slice va g.params.length vc).ownBlock) w1).alloc _).trans g2 (fun _ _ h => h)) (fun n hn e => absurd hn (Nat.not_lt.2 (HB.out.2.2 n e.symm)))) g3)); clear g1 g2 g3)
    | (refine step_appQ (S := No) rfl (.tmp 5) (.tmp 8) 24 24 rfl 26 (.agg #[zInt, zStr]) 24 Tryz.underlying24 info_ty rfl (by decide) goodTy (.slice va g.params.length vc) g.params (by simp [Act.eval]) HA.out.1 (fun k hk _ => hk.elim) (.slice (some ⟨w.heap.size + 1, 0, none⟩) 1 1) [g.result] [[.int .i64 g.result.dims, strV g.result.name]] (by simp [Act.eval]) (Els.single rfl rfl) (Src.single (P := Tryz.prog) (n := 2) (S := No) (R := RTy) goodTy (x := g.result) rfl rfl (tx := 24) Tryz.underlying24 _ 1 (At.of_block HA.out.2.2.2)) (by simp; unfold maxLen; omega) (by simp; omega) ?_; intro v' w3 g1 g2 g3; obtain ⟨na, nc, rfl⟩ := g1.form; rw [hLen] at g1 g3; have HGA := Lib.hid (And.intro g1 (And.intro (HA.out.2.1.trans g2 (fun n hn e => absurd hn (Nat.not_lt.2 (HA.out.2.2.1 n e.symm)))) g3)); clear g1 g2 g3)
    | (go_simp; go_at_call 69; refine (HC.out _ (chg_a w _)).mono ?_; rintro e w1 ⟨v, rfl, ho, d, hv⟩; obtain ⟨va, vc, rfl⟩ := ho.form; have b2 := blk_cell (one_blockA d) (j := 2) rfl; have b3 := blk_cell (one_blockA d) (j := 3) rfl; have HB := Lib.hid (And.intro ho.tyNo (And.intro ((chg_a w _).trans d (fun _ _ h => h)) (fun k hk => Nat.le_trans (chg_a w _).size (hv k hk)))); clear ho d hv)
    | (go_simp; go_at_call 69; refine (HC.out _ (chg_b w _ _)).mono ?_; rintro e w1 ⟨v, rfl, ho, d, hv⟩; obtain ⟨va, vc, rfl⟩ := ho.form; have HA := Lib.hid (And.intro ho.tyNo (And.intro ((chg_b w _ _).trans d (fun _ _ h => h)) (And.intro (fun k hk => Nat.le_trans (chg_b w _ _).size (hv k hk)) (two_block d)))); clear ho d hv))
  all_goals (try go_wp2)
  all_goals go_ret
  all_goals first
    | exact ⟨_, rfl, HG.out.1, HG.out.2.1, app_new (Nat.le_trans HB.out.2.1.size (by simp)) HB.out.2.2 HG.out.2.2⟩
    | exact ⟨_, rfl, HGA.out.1, HGA.out.2.1, app_new HA.out.2.1.size HA.out.2.2.1 HGA.out.2.2⟩

end Go.Proofs.YtgmmclcpfmnoiaaGreatDoor
