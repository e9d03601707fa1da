/-
  (*World).Link, walked: over whatever the seven rules answer, where chains and walks are, if all hold.
-/
import Derived.Test.YtgmmclcpfmnoiaaGreatDoorWalkG
import Derived.Test.YtgmmclcpfmnoiaaGreatDoorApi
import Derived.Deep.RegionHeld3
import Derived.Deep.CutRange
namespace Go.Proofs.YtgmmclcpfmnoiaaGreatDoor
open Go.RowKit

def ruleFns : List Nat := [36, 37, 38, 39, 40, 41, 42]
def ruleErrs : List Int := [31, 33, 32, 5, 2, 34, 35]
/-- The rules answer so, each as long as those ahead of it hold. -/
def RulesAre (w : World) (b : Nat) (tail : List Ent) (RB : Nat → Ent → Bool) : Prop :=
  ∀ i, i < 7 → (∀ i', i' < i → ∀ x ∈ tail, RB i' x = true) → ∀ x ∈ tail, ∀ W, Chg No w W → Calls Tryz.prog (ruleFns.getD i 0) #[.pointer (some ⟨b, 0, none⟩), .pointer (some ⟨x.at_, 0, none⟩)] W fun e w' => e = .returned (.bool (RB i x)) ∧ Chg No W w'
/-- The first rule that is broken, at its first class. -/
def Broken (tail : List Ent) (RB : Nat → Ent → Bool) (i j : Nat) : Prop :=
  i < 7 ∧ (∀ i', i' < i → ∀ x ∈ tail, RB i' x = true) ∧ (∀ j', j' < j → ∀ x, tail[j']? = some x → RB i x = true) ∧ ∃ x, tail[j]? = some x ∧ RB i x = false
/-- A class with its chain laid in. -/
def updCF (CH FA : Nat → List Bs) (x : Ent) : Ent := { x with chain := CH x.at_, faces := FA x.at_ }
/-- That, if its block is among these. -/
def updOne (CH FA : Nat → List Bs) (ats : List Nat) (x : Ent) : Ent := if x.at_ ∈ ats then updCF CH FA x else x
theorem updOne_at (CH FA : Nat → List Bs) (ats : List Nat) (x : Ent) : (updOne CH FA ats x).at_ = x.at_ := by unfold updOne; split <;> rfl
theorem updOne_cl (CH FA : Nat → List Bs) (ats : List Nat) (x : Ent) : (updOne CH FA ats x).cl = x.cl := by unfold updOne; split <;> rfl
theorem updOne_more (CH FA : Nat → List Bs) (ats : List Nat) (k : Nat) (y : Ent) : updOne CH FA (ats ++ [k]) y = putCF k (CH k) (FA k) (updOne CH FA ats y) := by
  unfold putCF
  rw [updOne_at]
  by_cases h2 : y.at_ = k
  · rw [if_pos h2]
    unfold updOne updCF
    rw [if_pos (by rw [h2]; simp)]
    by_cases h1 : y.at_ ∈ ats
    · rw [if_pos h1, h2]
    · rw [if_neg h1, h2]
  · rw [if_neg h2]
    unfold updOne
    by_cases h1 : y.at_ ∈ ats
    · rw [if_pos h1, if_pos (List.mem_append_left _ h1)]
    · rw [if_neg h1, if_neg (by simp [h1, h2])]
/-- Those of the first k. -/
def updK (CH FA : Nat → List Bs) (es : List Ent) (k : Nat) : List Ent := es.map (updOne CH FA ((es.take k).map fun x => x.at_))
theorem updK_zero (CH FA : Nat → List Bs) (es : List Ent) : updK CH FA es 0 = es := by
  unfold updK
  rw [List.take_zero]
  conv => rhs; rw [← List.map_id es]
  exact List.map_congr_left fun x _ => by simp [updOne]
theorem updK_all (CH FA : Nat → List Bs) (es : List Ent) : updK CH FA es es.length = es.map (updCF CH FA) := by
  unfold updK
  rw [List.take_length]
  exact List.map_congr_left fun x hx => by unfold updOne; rw [if_pos (List.mem_map_of_mem hx)]
theorem updK_succ (CH FA : Nat → List Bs) (es : List Ent) (k : Nat) {x : Ent} (hx : es[k]? = some x) : updK CH FA es (k + 1) = (updK CH FA es k).map (putCF x.at_ (CH x.at_) (FA x.at_)) := by
  unfold updK
  rw [List.map_map]
  refine List.map_congr_left fun y hy => ?_
  rw [take_snoc hx, List.map_append]
  exact updOne_more CH FA _ _ y
theorem updK_at (CH FA : Nat → List Bs) (es : List Ent) (k j : Nat) {x : Ent} (hx : es[j]? = some x) : ∃ y, (updK CH FA es k)[j]? = some y ∧ y.at_ = x.at_ ∧ y.cl = x.cl := by
  unfold updK
  rw [List.getElem?_map, hx]
  exact ⟨_, rfl, updOne_at .., updOne_cl ..⟩
theorem updK_cls (CH FA : Nat → List Bs) (es : List Ent) (k : Nat) : cls (updK CH FA es k) = cls es := by
  unfold cls updK
  rw [List.map_map]
  exact List.map_congr_left fun x _ => updOne_cl ..
theorem updK_atf (CH FA : Nat → List Bs) (es : List Ent) (k : Nat) : atf (updK CH FA es k) = atf es :=
  atf_map (updOne_at CH FA _) (updOne_cl CH FA _) es
theorem updK_mem (CH FA : Nat → List Bs) (es : List Ent) (k : Nat) {x : Ent} (hx : x ∈ es) : ∃ y ∈ updK CH FA es k, y.at_ = x.at_ ∧ y.cl = x.cl :=
  ⟨_, List.mem_map_of_mem hx, updOne_at .., updOne_cl ..⟩

def rulesV : Array Value := (ruleFns.map fun n => Value.func (.func n) #[] #[]).toArray
def errsV : Array Value := (ruleErrs.map fun n => Value.int .i64 n).toArray
theorem rules_at : ∀ k, k < 7 → rulesV[k]? = some (.func (.func (ruleFns.getD k 0)) #[] #[]) := by
  intro k hk
  rcases (by omega : k = 0 ∨ k = 1 ∨ k = 2 ∨ k = 3 ∨ k = 4 ∨ k = 5 ∨ k = 6) with rfl | rfl | rfl | rfl | rfl | rfl | rfl <;> rfl
theorem errs_at : ∀ k, k < 7 → errsV[k]? = some (.int .i64 (ruleErrs.getD k 0)) := by
  intro k hk
  rcases (by omega : k = 0 ∨ k = 1 ∨ k = 2 ∨ k = 3 ∨ k = 4 ∨ k = 5 ∨ k = 6) with rfl | rfl | rfl | rfl | rfl | rfl | rfl <;> rfl
theorem rules_enter : ∀ k, k < 7 → ∀ (args : Array Value) (w : World), (callFunc (ruleFns.getD k 0) args).run Tryz.prog w = .ok (.enter (ruleFns.getD k 0) args) w := by
  intro k hk
  rcases (by omega : k = 0 ∨ k = 1 ∨ k = 2 ∨ k = 3 ∨ k = 4 ∨ k = 5 ∨ k = 6) with rfl | rfl | rfl | rfl | rfl | rfl | rfl
  · exact enters_of Tryz.func36 (by kernel_rfl) rfl
  · exact enters_of Tryz.func37 (by kernel_rfl) rfl
  · exact enters_of Tryz.func38 (by kernel_rfl) rfl
  · exact enters_of Tryz.func39 (by kernel_rfl) rfl
  · exact enters_of Tryz.func40 (by kernel_rfl) rfl
  · exact enters_of Tryz.func41 (by kernel_rfl) rfl
  · exact enters_of Tryz.func42 (by kernel_rfl) rfl
/-- What holds while the rules are gone through. -/
structure LinkI (w wr : World) : Prop where
  chg : Chg No w wr
  errs : wr.heap[w.heap.size]? = some (.cells errsV 39 (0, 0))
  rules : wr.heap[w.heap.size + 1]? = some (.cells rulesV 92 (0, 0))
theorem LinkI.new {w wr w1 : World} (h : LinkI w wr) (d : Chg No wr w1) : LinkI w w1 :=
  ⟨h.chg.trans d (fun _ _ h => h), (d.block _ (heap_lt h.errs) (fun h => h)).trans h.errs, (d.block _ (heap_lt h.rules) (fun h => h)).trans h.rules⟩
theorem LinkI.start (w : World) : LinkI w ((w.alloc (.cells errsV 39)).alloc (.cells rulesV 92)) := by
  refine ⟨((Chg.refl _ w).alloc _).alloc _, ?_, ?_⟩
  · rw [Below.heap_alloc _ _ _ (by simp)]
    exact heap_alloc_new _ _
  · have := heap_alloc_new (w.alloc (.cells errsV 39)) (.cells rulesV 92)
    rwa [size_alloc1] at this

section
variable {S O : Blocks} {w : World} {b mb : Nat} {nv : Value} {es : List Ent}
theorem HW.look' {lk : Bool} {T : Blocks} {w' : World} (h : HW S O w b mb nv es lk) (c : Chg T w w') (hm : ¬ T mb) {s : Bs} {k : Nat} (hs : Short s) (ha : atf es s = some k) : (Instr.lookup 77 (.map (some mb)) (.string ⟨s.toArray⟩) false).run Tryz.prog w' = .ok (.pointer (some ⟨k, 0, none⟩)) w' := by
  obtain ⟨n, -, hmap⟩ := h.map
  have h2 := hmap.at_block (c.block mb (h.o_lt mb h.own_m) hm)
  have := h2.look Tryz.underlying9 Tryz.underlying77 (by kernel_rfl) s hs
  rwa [ha] at this
theorem HW.c1' {lk : Bool} {T : Blocks} {w' : World} (h : HW S O w b mb nv es lk) (c : Chg T w w') (hb : ¬ T b) : w'.cell? ⟨b, 1, none⟩ = some (.map (some mb)) := by
  rw [c.cell (p := ⟨b, 1, none⟩) (h.o_lt b h.own_b) hb]; exact h.c1
theorem HW.cf {lk : Bool} (h : HW S O w b mb nv es lk) {x : Ent} (hx : x ∈ es) {a : Nat} (ha : x.at_ = a) : ∃ c q, w.cell? ⟨a, 7, none⟩ = some c ∧ w.cell? ⟨a, 8, none⟩ = some q ∧ w.frozen? ⟨a, 7, none⟩ = false ∧ w.frozen? ⟨a, 8, none⟩ = false := by
  subst ha
  obtain ⟨cs, h1, f, g, m, p, c, q, rfl, -⟩ := h.ents x hx
  exact ⟨c, q, blk_cell h1 rfl, blk_cell h1 rfl, blk_frozen h1 7, blk_frozen h1 8⟩
/-- What Link leaves. -/
def Linked (S O : Blocks) (w : World) (b mb : Nat) (nv : Value) (es : List Ent) (CH FA : Nat → List Bs) (RB : Nat → Ent → Bool) (e : Ending) (w' : World) : Prop :=
  (∃ i j x, Broken (es.drop 8) RB i j ∧ (es.drop 8)[j]? = some x ∧ e = .returned (.tuple #[strV x.cl.name, .int .i64 (ruleErrs.getD i 0)]) ∧ Chg No w w') ∨
  ((∀ i, i < 7 → ∀ x ∈ es.drop 8, RB i x = true) ∧ e = .returned (.tuple #[strV [], .int .i64 0]) ∧ Chg O w w' ∧ ∃ S', HW S' O w' b mb nv (es.map (updCF CH FA)) true ∧ ∀ n, S' n → S n ∨ w.heap.size ≤ n)

/-- A class's chain and interfaces laid in. -/
theorem link_step {S' : Blocks} {wr w1 w2 : World} {CH FA : Nat → List Bs} {k : Nat} {x y : Ent} (h : HW S' O wr b mb nv (updK CH FA es k) false) (hx : es[k]? = some x) (hym : y ∈ updK CH FA es k) (hya : y.at_ = x.at_) {v1 v2 : Value} (ho : OQ 9 1 RStr No w1 v1 (CH x.at_))
    (d1 : Chg No wr.drew w1) (hv : ∀ n, v1.ownBlock = some n → wr.drew.heap.size ≤ n) (ho2 : OQ 9 1 RStr No w2 v2 (FA x.at_)) (d12 : Chg No w1 w2) (hv2 : ∀ n, v2.ownBlock = some n → w1.heap.size ≤ n) (c : Chg O w wr) :
    ∃ S2, HW S2 O ((w2.setCell ⟨x.at_, 7, none⟩ v1).setCell ⟨x.at_, 8, none⟩ v2) b mb nv (updK CH FA es (k + 1)) false ∧ Chg O w ((w2.setCell ⟨x.at_, 7, none⟩ v1).setCell ⟨x.at_, 8, none⟩ v2) ∧ ∀ n, S2 n → S' n ∨ wr.heap.size ≤ n := by
  have d2 : Chg No wr w2 := ((Chg.refl No wr).drew.trans d1 (fun _ _ h => h)).trans d12 (fun _ _ h => h)
  have hW := h.new d2
  have hz := d12.size
  have hz1 : wr.heap.size ≤ w1.heap.size := d1.size
  have hG : HW (fun n => S' n ∨ v1.ownBlock = some n ∨ v2.ownBlock = some n) O w2 b mb nv (updK CH FA es k) false := hW.grow (fun n hn => .inl hn) (fun n hn => by
    rcases hn with hn | hn | hn
    · exact hW.s_lt n hn
    · exact Nat.lt_of_lt_of_le (ho.lt n hn) hz
    · exact ho2.lt n hn) (fun n hn hO => by
    have h1 := h.o_lt n hO
    rcases hn with hn | hn | hn
    · exact hW.apart n hn hO
    · have h2 : wr.heap.size ≤ n := hv n hn
      omega
    · have h2 := hv2 n hn
      omega)
  have hS := hG.set hym (cv := v1) (fv := v2) (c := CH y.at_) (f := FA y.at_) ((by rw [hya]; exact ho : OQ 9 1 RStr No w1 v1 (CH y.at_)) |>.new goodStr d12 |>.sq goodStr (fun n hn => .inr (.inl hn)) (fun _ h => h.elim)) ((by rw [hya]; exact ho2 : OQ 9 1 RStr No w2 v2 (FA y.at_)) |>.sq goodStr (fun n hn => .inr (.inr hn)) (fun _ h => h.elim))
  rw [hya] at hS
  refine ⟨_, by rw [updK_succ CH FA es k hx]; exact hS, ?_, fun n hn => by
    rcases hn with hn | hn | hn
    · exact .inl hn
    · exact .inr (hv n hn)
    · have := hv2 n hn; exact .inr (by omega)⟩
  have hO : O x.at_ := by rw [← hya]; exact h.own_e y hym
  exact ((c.then d2).trans (chg_setCell w2 x.at_ 7 v1) (fun n _ e => by rw [e]; exact hO)).trans (chg_setCell _ x.at_ 8 v2) (fun n _ e => by rw [e]; exact hO)
set_option maxRecDepth 100000 in
set_option maxHeartbeats 12800000 in
theorem link_c (h : HW S O w b mb nv es false) (h8 : 8 ≤ es.length) (hle : es.length ≤ 1000) (RB : Nat → Ent → Bool) (hR : RulesAre w b (es.drop 8) RB) (CH FA : Nat → List Bs) (hfl : ∀ x ∈ es, x.cl.faces.length ≤ 1000)
    (hch : (∀ i, i < 7 → ∀ x ∈ es.drop 8, RB i x = true) → ∀ x ∈ es, IsChain (cls es) x.cl.name (CH x.at_) ∧ (CH x.at_).length ≤ 1000 ∧ Walks (cls es) [] (CH x.at_) (FA x.at_) ∧ (FA x.at_).length ≤ 100000) :
    Calls Tryz.prog 11 #[.pointer (some ⟨b, 0, none⟩)] w (Linked S O w b mb nv es CH FA RB) := by
  obtain ⟨ng, nc, hnv, hnc⟩ := h.names.form1 (by intro e; have := congrArg List.length e; rw [List.length_map, List.length_nil] at this; omega)
  rw [List.length_map] at hnv hnc
  obtain ⟨L, hL⟩ : ∃ L, es.length = L + 8 := ⟨es.length - 8, by omega⟩
  rw [hL] at hnv hnc
  subst hnv
  have hbl := h.o_lt b h.own_b
  have c0 := h.c0
  have c1 := h.c1
  have c2 := h.c2
  have hsq : SQ 1 RStr O w (.slice (some ⟨ng, 0, none⟩) (L + 8) nc) (es.map fun x => x.cl.name) := h.names.sq goodStr (fun k hk => h.own_n k hk) (fun _ h => h.elim)
  have HS := Lib.hid (And.intro hsq (And.intro h (And.intro hR hch)))
  have HFL := Lib.hid hfl
  clear hsq h hR hch hfl
  have i1 : ¬ ((L : Int) + 8 < 8) := by omega
  have i2 : ¬ ((nc : Int) < (L : Int) + 8) := by omega
  have HL := Lib.hid hL
  have hL2 : L ≤ 1000 := by omega
  clear hL
  have hnz : (¬ nc = 8) ∨ (nc = 8 ∧ L = 0) := by omega
  have HZ := Lib.hid hnz
  rcases hnz with hnc8 | ⟨hnc8, hz0⟩
  rotate_left
  · clear hz0
    subst hnc8
    go_enter Tryz.func11, Tryz.ntmps11
    go_wp2_with fail
    go_loopw [18] (fun iv wr => ∃ k : Nat, k ≤ 7 ∧ iv = .int .i64 k ∧ RowKit.Hid (LinkI w wr ∧ ∀ i', i' < k → ∀ x ∈ es.drop 8, RB i' x = true)) (fun iv _ => 7 - (intOf iv).toNat)
    case atStart => exact ⟨0, by omega, rfl, Lib.hid ⟨LinkI.start w, fun i' hi => by omega⟩⟩
    case round =>
      obtain ⟨k, hk, rfl, hI⟩ := hrel
      by_cases hlt : k < 7
      · have r0 : wr.cell? ⟨w.heap.size + 1, k, none⟩ = some (.func (.func (ruleFns.getD k 0)) #[] #[]) := blk_cell hI.out.1.rules (rules_at k hlt)
        have n0 := (hI.out.1.chg.cell (p := ⟨b, 0, none⟩) hbl (fun h => h)).trans c0
        have EG := Lib.hid (rules_enter k hlt)
        obtain ⟨gf, hgf⟩ : ∃ gf, gf = ruleFns.getD k 0 := ⟨_, rfl⟩
        rw [← hgf] at r0 EG
        have HGF := Lib.hid hgf; clear hgf
        go_wp2_with fail
        rw [show decide ((k : Int) < 7) = true from by simp; omega]
        go_loopw [30] (fun jv wr => ∃ j : Nat, j ≤ L ∧ jv = .int .i64 j ∧ RowKit.Hid (LinkI w wr ∧ ∀ j', j' < j → ∀ x, (es.drop 8)[j']? = some x → RB k x = true)) (fun jv _ => L - (intOf jv).toNat)
        case atStart => exact ⟨0, by omega, rfl, Lib.hid ⟨hI.out.1, fun j' hj => by omega⟩⟩
        case round =>
          clear r0 n0
          obtain ⟨j, hj, rfl, hJ⟩ := hrel
          by_cases hjl : j < L
          · exfalso; have hzz := HZ.out; omega
          · go_wp2
            go_roundw
            case rel =>
              refine ⟨k + 1, by omega, by go_num, Lib.hid ⟨hJ.out.1, fun i' hi x hx => ?_⟩⟩
              by_cases e : i' = k
              · subst e
                obtain ⟨m, hm⟩ := List.getElem?_of_mem hx
                have hml := (List.getElem?_eq_some_iff.1 hm).1
                rw [List.length_drop, HL.out] at hml
                exact hJ.out.2 m (by omega) x hm
              · exact hI.out.2 i' (by omega) x hx
            case measure => simp [intOf]; omega
      · have hk7 : k = 7 := by omega
        subst hk7
        have n0 := (hI.out.1.chg.cell (p := ⟨b, 0, none⟩) hbl (fun h => h)).trans c0
        have n2 := (hI.out.1.chg.cell (p := ⟨b, 2, none⟩) hbl (fun h => h)).trans c2
        have hch := Lib.hid (HS.out.2.2.2 hI.out.2)
        have hal := Lib.hid hI.out.2
        have hW0 := Lib.hid (HS.out.2.1.new hI.out.1.chg)
        have hC0 := Lib.hid hI.out.1.chg
        go_wp2_with fail
        clear n0 n2
        go_loopw [58] (fun kv wr => ∃ (k : Nat) (S' : Blocks), k ≤ L + 8 ∧ kv = .int .i64 k ∧ RowKit.Hid (HW S' O wr b mb (.slice (some ⟨ng, 0, none⟩) (L + 8) 8) (updK CH FA es k) false ∧ Chg O w wr ∧ ∀ n, S' n → S n ∨ w.heap.size ≤ n)) (fun kv _ => L + 8 - (intOf kv).toNat)
        case atStart => exact ⟨0, S, Nat.zero_le _, rfl, Lib.hid ⟨by rw [updK_zero]; exact hW0.out, hC0.out.mono (fun _ _ h => h.elim), fun _ h => .inl h⟩⟩
        case round =>
          obtain ⟨k, S', hk, rfl, hJ⟩ := hrel
          by_cases hlt : k < L + 8
          · have hke : k < es.length := by rw [HL.out]; exact hlt
            obtain ⟨x, hx⟩ : ∃ x, es[k]? = some x := ⟨_, List.getElem?_eq_getElem hke⟩
            have hxm : x ∈ es := List.mem_of_getElem? hx
            obtain ⟨y, hyk, hya, hyc⟩ := updK_at CH FA es k k hx
            have hym : y ∈ updK CH FA es k := List.mem_of_getElem? hyk
            have hsq : SQ 1 RStr O wr (.slice (some ⟨ng, 0, none⟩) (L + 8) 8) ((updK CH FA es k).map fun x => x.cl.name) := hJ.out.1.names.sq goodStr (fun k hk => hJ.out.1.own_n k hk) (fun _ h => h.elim)
            obtain ⟨b', o, ds, hbe, hcl, hRR, hbl', hsb, hcell⟩ := SQ.cells hsq k (by simp [updK]; exact hke)
            cases hbe
            obtain rfl := hRR
            have g0 := hcell 0 _ rfl
            rw [Nat.mul_one, Nat.add_zero, Nat.zero_add] at g0
            rw [show ((updK CH FA es k).map fun x => x.cl.name)[k]'(by simp [updK]; exact hke) = x.cl.name from by
              rw [List.getElem_map]
              have := List.getElem?_eq_getElem (l := updK CH FA es k) (i := k) (by simp [updK]; exact hke)
              rw [hyk] at this; cases this; rw [hyc]] at g0
            clear hcell hcl hsq
            have hat : atf (updK CH FA es k) x.cl.name = some x.at_ := by rw [updK_atf]; exact (atf_mem HS.out.2.1.uniq hxm).1
            have hsh := (HS.out.2.1.short x hxm).name
            have k1 := hJ.out.1.c1
            have kL := fun n => hJ.out.1.lookEN hsh hat n
            have kD := (hJ.out.1.new (Chg.refl No wr).drew).lookE hsh hat
            clear hke
            obtain ⟨hc1, hc2, hc3, hc4⟩ := hch.out x hxm
            have HCH := Lib.hid (fun (W : World) (hW : Chg No wr W) => chain_c (hJ.out.1.new hW) x.cl.name (CH x.at_) (by rw [updK_cls]; exact hc1) hc2)
            have HWK := Lib.hid (fun (W : World) (hW : Chg No wr W) => walk_c (hJ.out.1.new hW) x.cl.name (CH x.at_) (FA x.at_) (by rw [updK_cls]; exact hc1) hc2 (by rw [updK_cls]; exact hc3) hc4 (fun z hz => by
              obtain ⟨z', hz', rfl⟩ := List.mem_map.1 hz
              rw [updOne_cl]; exact HFL.out z' hz'))
            have NE := Lib.hid (show ¬ (b = x.at_) ∧ ¬ (mb = x.at_) from ⟨fun e => hJ.out.1.ne_be hym (hya.trans e.symm), fun e => hJ.out.1.ne_me hym (hya.trans e.symm)⟩)
            have HX := Lib.hid (And.intro hx (And.intro hxm (And.intro hym (And.intro hya (And.intro hat hsh)))))
            clear hx hxm hyk hya hyc hym hat hsh hc1 hc2 hc3 hc4
            go_wp2_with fail
            go_region_held3 (fun w' => w'.cell? ⟨b, 1, none⟩ = some (.map (some mb)) ∧ (Instr.lookup 77 (.map (some mb)) (.string ⟨x.cl.name.toArray⟩) false).run Tryz.prog w' = .ok (.pointer (some ⟨x.at_, 0, none⟩)) w') (first | exact ⟨k1, kD⟩ | exact ⟨q1, qL⟩ | exact ⟨p1, pL⟩ | exact ⟨r1, rL⟩ | exact ⟨t1, tL⟩) (first
              | (go_at_call 43; refine (HCH.out _ (Chg.refl No wr).drew).mono ?_; rintro e w1 ⟨v1, rfl, ho, d, hv⟩; obtain ⟨va, vc, rfl⟩ := ho.form; have HV := Lib.hid (And.intro ho (And.intro d hv)); have D1 := Lib.hid ((Chg.refl No wr).drew.trans d (fun _ _ h => h)); have q1 := (hJ.out.1.new D1.out).c1; have qL := (hJ.out.1.new D1.out).lookE HX.out.2.2.2.2.2 HX.out.2.2.2.2.1; clear ho d hv)
              | (go_at_call 44; refine (HWK.out _ D1.out).mono ?_; rintro e w2 ⟨v2, rfl, ho2, d, hv2⟩; obtain ⟨va2, vc2, rfl⟩ := ho2.form; have HV2 := Lib.hid (And.intro ho2 hv2); have D2 := Lib.hid (D1.out.trans d (fun _ _ h => h)); have d12 := Lib.hid d; have p1 := (hJ.out.1.new D2.out).c1; have pL := (hJ.out.1.new D2.out).lookE HX.out.2.2.2.2.2 HX.out.2.2.2.2.1; obtain ⟨s7, s8, u7, u8, f7, f8⟩ := (hJ.out.1.new D2.out).cf HX.out.2.2.1 HX.out.2.2.2.1; have ca := chg_setCell w2 x.at_ 7 (.slice va (CH x.at_).length vc); have cb := ca.trans (chg_setCell _ x.at_ 8 (.slice va2 (FA x.at_).length vc2)) (fun _ _ h => h); have r1 := (hJ.out.1.new D2.out).c1' ca NE.out.1; have rL := (hJ.out.1.new D2.out).look' ca NE.out.2 HX.out.2.2.2.2.2 HX.out.2.2.2.2.1; have t1 := (hJ.out.1.new D2.out).c1' cb NE.out.1; have tL := (hJ.out.1.new D2.out).look' cb NE.out.2 HX.out.2.2.2.2.2 HX.out.2.2.2.2.1; clear d ca cb ho2 hv2))
            all_goals
              obtain ⟨S2, hH, hC, hN⟩ := link_step hJ.out.1 HX.out.1 HX.out.2.2.1 HX.out.2.2.2.1 HV.out.1 HV.out.2.1 HV.out.2.2 HV2.out.1 d12.out HV2.out.2 hJ.out.2.1
              have HH := Lib.hid (And.intro hH (And.intro hC (fun (n : Nat) (hn : S2 n) => show S n ∨ w.heap.size ≤ n from by
                rcases hN n hn with h | h
                · exact hJ.out.2.2 n h
                · have := hJ.out.2.1.size; exact .inr (by omega))))
              clear hH hC hN q1 qL p1 pL r1 rL t1 tL u7 u8 f7 f8 k1 kL kD g0
              go_wp2
              go_roundw
              case rel =>
                first
                  | exact ⟨k + 1, S2, by omega, by go_num, HH⟩
                  | ((repeat apply Exists.intro); exact ⟨⟨k + 1, S2, by omega, by go_num, HH⟩, rfl⟩)
              case measure => simp [intOf]; omega
          · have hkl : k = es.length := by rw [HL.out]; omega
            have HKL := Lib.hid hkl; clear hkl
            have n2 := hJ.out.1.c2
            have n1 := blk_frozen hJ.out.1.wc 2
            have hM := Lib.hid (hJ.out.1.mark true)
            have hbO := HS.out.2.1.own_b
            have HbO := Lib.hid hbO; clear hbO
            go_wp2
            go_ret2
            refine .inr ⟨hal.out, rfl, (hJ.out.2.1.trans (chg_setCell _ b 2 _) (fun n _ e => by rw [e]; exact HbO.out)), S', ?_, hJ.out.2.2⟩
            rw [← updK_all]
            have := hM.out
            rwa [HKL.out] at this
  go_enter Tryz.func11, Tryz.ntmps11
  go_wp2_with fail
  go_loopw [18] (fun iv wr => ∃ k : Nat, k ≤ 7 ∧ iv = .int .i64 k ∧ RowKit.Hid (LinkI w wr ∧ ∀ i', i' < k → ∀ x ∈ es.drop 8, RB i' x = true)) (fun iv _ => 7 - (intOf iv).toNat)
  case atStart => exact ⟨0, by omega, rfl, Lib.hid ⟨LinkI.start w, fun i' hi => by omega⟩⟩
  case round =>
    obtain ⟨k, hk, rfl, hI⟩ := hrel
    by_cases hlt : k < 7
    · have r0 : wr.cell? ⟨w.heap.size + 1, k, none⟩ = some (.func (.func (ruleFns.getD k 0)) #[] #[]) := blk_cell hI.out.1.rules (rules_at k hlt)
      have n0 := (hI.out.1.chg.cell (p := ⟨b, 0, none⟩) hbl (fun h => h)).trans c0
      have EG := Lib.hid (rules_enter k hlt)
      obtain ⟨gf, hgf⟩ : ∃ gf, gf = ruleFns.getD k 0 := ⟨_, rfl⟩
      rw [← hgf] at r0 EG
      have HGF := Lib.hid hgf; clear hgf
      go_wp2_with fail
      rw [show decide ((k : Int) < 7) = true from by simp; omega]
      go_loopw [30] (fun jv wr => ∃ j : Nat, j ≤ L ∧ jv = .int .i64 j ∧ RowKit.Hid (LinkI w wr ∧ ∀ j', j' < j → ∀ x, (es.drop 8)[j']? = some x → RB k x = true)) (fun jv _ => L - (intOf jv).toNat)
      case atStart => exact ⟨0, by omega, rfl, Lib.hid ⟨hI.out.1, fun j' hj => by omega⟩⟩
      case round =>
        clear r0 n0
        obtain ⟨j, hj, rfl, hJ⟩ := hrel
        by_cases hjl : j < L
        · have h8j : 8 + j < es.length := by rw [HL.out]; omega
          obtain ⟨x, hx⟩ : ∃ x, es[8 + j]? = some x := ⟨_, List.getElem?_eq_getElem h8j⟩
          have hxt : (es.drop 8)[j]? = some x := by rw [List.getElem?_drop]; exact hx
          have hxm : x ∈ es := List.mem_of_getElem? hx
          obtain ⟨b', o, ds, hbe, hcl, hRR, hbl', hsb, hcell⟩ := SQ.cells (HS.out.1.new goodStr hJ.out.1.chg) (8 + j) (by rw [List.length_map]; exact h8j)
          cases hbe
          obtain rfl := hRR
          have g0 := hcell 0 _ rfl
          rw [Nat.mul_one, Nat.add_zero, Nat.zero_add] at g0
          rw [show (es.map fun x => x.cl.name)[8 + j]'(by rw [List.length_map]; exact h8j) = x.cl.name from by
            rw [List.getElem_map]
            have := List.getElem?_eq_getElem (l := es) (i := 8 + j) h8j
            rw [hx] at this; cases this; rfl] at g0
          clear hcell hcl
          have hW := HS.out.2.1.new hJ.out.1.chg
          have k1 := hW.c1
          have hat := (atf_mem HS.out.2.1.uniq hxm).1
          have kL := hW.lookE (HS.out.2.1.short x hxm).name hat
          have HX := Lib.hid (And.intro hxt (And.intro hxm hx))
          have HCALL : RowKit.Hid (Calls Tryz.prog gf #[.pointer (some ⟨b, 0, none⟩), .pointer (some ⟨x.at_, 0, none⟩)] wr fun e w' => e = .returned (.bool (RB k x)) ∧ Chg No wr w') := Lib.hid (by
            rw [HGF.out]
            exact HS.out.2.2.1 k hlt hI.out.2 x (List.mem_of_getElem? hxt) wr hJ.out.1.chg)
          clear hx hxt hxm hat hW
          cases hrb : RB k x with
          | true =>
            have HB := Lib.hid hrb; clear hrb
            have eg := EG.out
            go_wp2_with fail
            refine HCALL.out.mono ?_
            rintro e w1 ⟨he, d⟩
            rw [HB.out] at he
            subst he
            go_wp2
            go_roundw
            case rel =>
              refine ⟨j + 1, by omega, by go_num, Lib.hid ⟨hJ.out.1.new d, fun j' hj' y hy => ?_⟩⟩
              by_cases e : j' = j
              · subst e
                rw [HX.out.1] at hy
                cases hy
                exact HB.out
              · exact hJ.out.2 j' (by omega) y hy
            case measure => simp [intOf]; omega
          | false =>
            have HB := Lib.hid hrb; clear hrb
            have eg := EG.out
            go_wp2_with fail
            refine HCALL.out.mono ?_
            rintro e w1 ⟨he, d⟩
            rw [HB.out] at he
            subst he
            have I1 := Lib.hid (hJ.out.1.new d); clear d
            have e0 : w1.cell? ⟨w.heap.size, k, none⟩ = some (.int .i64 (ruleErrs.getD k 0)) := blk_cell I1.out.errs (errs_at k hlt)
            go_wp2_with fail
            go_quiet (fail)
            go_wp2
            go_ret2
            refine .inl ⟨k, j, x, ⟨hlt, hI.out.2, hJ.out.2, x, HX.out.1, HB.out⟩, HX.out.1, rfl, I1.out.chg.drewN _⟩
        · go_wp2
          go_roundw
          case rel =>
            refine ⟨k + 1, by omega, by go_num, Lib.hid ⟨hJ.out.1, fun i' hi x hx => ?_⟩⟩
            by_cases e : i' = k
            · subst e
              obtain ⟨m, hm⟩ := List.getElem?_of_mem hx
              have hml := (List.getElem?_eq_some_iff.1 hm).1
              rw [List.length_drop, HL.out] at hml
              exact hJ.out.2 m (by omega) x hm
            · exact hI.out.2 i' (by omega) x hx
          case measure => simp [intOf]; omega
    · have hk7 : k = 7 := by omega
      subst hk7
      have n0 := (hI.out.1.chg.cell (p := ⟨b, 0, none⟩) hbl (fun h => h)).trans c0
      have n2 := (hI.out.1.chg.cell (p := ⟨b, 2, none⟩) hbl (fun h => h)).trans c2
      have hch := Lib.hid (HS.out.2.2.2 hI.out.2)
      have hal := Lib.hid hI.out.2
      have hW0 := Lib.hid (HS.out.2.1.new hI.out.1.chg)
      have hC0 := Lib.hid hI.out.1.chg
      go_wp2_with fail
      clear n0 n2
      go_loopw [58] (fun kv wr => ∃ (k : Nat) (S' : Blocks), k ≤ L + 8 ∧ kv = .int .i64 k ∧ RowKit.Hid (HW S' O wr b mb (.slice (some ⟨ng, 0, none⟩) (L + 8) nc) (updK CH FA es k) false ∧ Chg O w wr ∧ ∀ n, S' n → S n ∨ w.heap.size ≤ n)) (fun kv _ => L + 8 - (intOf kv).toNat)
      case atStart => exact ⟨0, S, Nat.zero_le _, rfl, Lib.hid ⟨by rw [updK_zero]; exact hW0.out, hC0.out.mono (fun _ _ h => h.elim), fun _ h => .inl h⟩⟩
      case round =>
        obtain ⟨k, S', hk, rfl, hJ⟩ := hrel
        by_cases hlt : k < L + 8
        · have hke : k < es.length := by rw [HL.out]; exact hlt
          obtain ⟨x, hx⟩ : ∃ x, es[k]? = some x := ⟨_, List.getElem?_eq_getElem hke⟩
          have hxm : x ∈ es := List.mem_of_getElem? hx
          obtain ⟨y, hyk, hya, hyc⟩ := updK_at CH FA es k k hx
          have hym : y ∈ updK CH FA es k := List.mem_of_getElem? hyk
          have hsq : SQ 1 RStr O wr (.slice (some ⟨ng, 0, none⟩) (L + 8) nc) ((updK CH FA es k).map fun x => x.cl.name) := hJ.out.1.names.sq goodStr (fun k hk => hJ.out.1.own_n k hk) (fun _ h => h.elim)
          obtain ⟨b', o, ds, hbe, hcl, hRR, hbl', hsb, hcell⟩ := SQ.cells hsq k (by simp [updK]; exact hke)
          cases hbe
          obtain rfl := hRR
          have g0 := hcell 0 _ rfl
          rw [Nat.mul_one, Nat.add_zero, Nat.zero_add] at g0
          rw [show ((updK CH FA es k).map fun x => x.cl.name)[k]'(by simp [updK]; exact hke) = x.cl.name from by
            rw [List.getElem_map]
            have := List.getElem?_eq_getElem (l := updK CH FA es k) (i := k) (by simp [updK]; exact hke)
            rw [hyk] at this; cases this; rw [hyc]] at g0
          clear hcell hcl hsq
          have hat : atf (updK CH FA es k) x.cl.name = some x.at_ := by rw [updK_atf]; exact (atf_mem HS.out.2.1.uniq hxm).1
          have hsh := (HS.out.2.1.short x hxm).name
          have k1 := hJ.out.1.c1
          have kL := fun n => hJ.out.1.lookEN hsh hat n
          have kD := (hJ.out.1.new (Chg.refl No wr).drew).lookE hsh hat
          clear hke
          obtain ⟨hc1, hc2, hc3, hc4⟩ := hch.out x hxm
          have HCH := Lib.hid (fun (W : World) (hW : Chg No wr W) => chain_c (hJ.out.1.new hW) x.cl.name (CH x.at_) (by rw [updK_cls]; exact hc1) hc2)
          have HWK := Lib.hid (fun (W : World) (hW : Chg No wr W) => walk_c (hJ.out.1.new hW) x.cl.name (CH x.at_) (FA x.at_) (by rw [updK_cls]; exact hc1) hc2 (by rw [updK_cls]; exact hc3) hc4 (fun z hz => by
            obtain ⟨z', hz', rfl⟩ := List.mem_map.1 hz
            rw [updOne_cl]; exact HFL.out z' hz'))
          have NE := Lib.hid (show ¬ (b = x.at_) ∧ ¬ (mb = x.at_) from ⟨fun e => hJ.out.1.ne_be hym (hya.trans e.symm), fun e => hJ.out.1.ne_me hym (hya.trans e.symm)⟩)
          have HX := Lib.hid (And.intro hx (And.intro hxm (And.intro hym (And.intro hya (And.intro hat hsh)))))
          clear hx hxm hyk hya hyc hym hat hsh hc1 hc2 hc3 hc4
          go_wp2_with fail
          go_region_held3 (fun w' => w'.cell? ⟨b, 1, none⟩ = some (.map (some mb)) ∧ (Instr.lookup 77 (.map (some mb)) (.string ⟨x.cl.name.toArray⟩) false).run Tryz.prog w' = .ok (.pointer (some ⟨x.at_, 0, none⟩)) w') (first | exact ⟨k1, kD⟩ | exact ⟨q1, qL⟩ | exact ⟨p1, pL⟩ | exact ⟨r1, rL⟩ | exact ⟨t1, tL⟩) (first
            | (go_at_call 43; refine (HCH.out _ (Chg.refl No wr).drew).mono ?_; rintro e w1 ⟨v1, rfl, ho, d, hv⟩; obtain ⟨va, vc, rfl⟩ := ho.form; have HV := Lib.hid (And.intro ho (And.intro d hv)); have D1 := Lib.hid ((Chg.refl No wr).drew.trans d (fun _ _ h => h)); have q1 := (hJ.out.1.new D1.out).c1; have qL := (hJ.out.1.new D1.out).lookE HX.out.2.2.2.2.2 HX.out.2.2.2.2.1; clear ho d hv)
            | (go_at_call 44; refine (HWK.out _ D1.out).mono ?_; rintro e w2 ⟨v2, rfl, ho2, d, hv2⟩; obtain ⟨va2, vc2, rfl⟩ := ho2.form; have HV2 := Lib.hid (And.intro ho2 hv2); have D2 := Lib.hid (D1.out.trans d (fun _ _ h => h)); have d12 := Lib.hid d; have p1 := (hJ.out.1.new D2.out).c1; have pL := (hJ.out.1.new D2.out).lookE HX.out.2.2.2.2.2 HX.out.2.2.2.2.1; obtain ⟨s7, s8, u7, u8, f7, f8⟩ := (hJ.out.1.new D2.out).cf HX.out.2.2.1 HX.out.2.2.2.1; have ca := chg_setCell w2 x.at_ 7 (.slice va (CH x.at_).length vc); have cb := ca.trans (chg_setCell _ x.at_ 8 (.slice va2 (FA x.at_).length vc2)) (fun _ _ h => h); have r1 := (hJ.out.1.new D2.out).c1' ca NE.out.1; have rL := (hJ.out.1.new D2.out).look' ca NE.out.2 HX.out.2.2.2.2.2 HX.out.2.2.2.2.1; have t1 := (hJ.out.1.new D2.out).c1' cb NE.out.1; have tL := (hJ.out.1.new D2.out).look' cb NE.out.2 HX.out.2.2.2.2.2 HX.out.2.2.2.2.1; clear d ca cb ho2 hv2))
          all_goals
            obtain ⟨S2, hH, hC, hN⟩ := link_step hJ.out.1 HX.out.1 HX.out.2.2.1 HX.out.2.2.2.1 HV.out.1 HV.out.2.1 HV.out.2.2 HV2.out.1 d12.out HV2.out.2 hJ.out.2.1
            have HH := Lib.hid (And.intro hH (And.intro hC (fun (n : Nat) (hn : S2 n) => show S n ∨ w.heap.size ≤ n from by
              rcases hN n hn with h | h
              · exact hJ.out.2.2 n h
              · have := hJ.out.2.1.size; exact .inr (by omega))))
            clear hH hC hN q1 qL p1 pL r1 rL t1 tL u7 u8 f7 f8 k1 kL kD g0
            go_wp2
            go_roundw
            case rel =>
              first
                | exact ⟨k + 1, S2, by omega, by go_num, HH⟩
                | ((repeat apply Exists.intro); exact ⟨⟨k + 1, S2, by omega, by go_num, HH⟩, rfl⟩)
            case measure => simp [intOf]; omega
        · have hkl : k = es.length := by rw [HL.out]; omega
          have HKL := Lib.hid hkl; clear hkl
          have n2 := hJ.out.1.c2
          have n1 := blk_frozen hJ.out.1.wc 2
          have hM := Lib.hid (hJ.out.1.mark true)
          have hbO := HS.out.2.1.own_b
          have HbO := Lib.hid hbO; clear hbO
          go_wp2
          go_ret2
          refine .inr ⟨hal.out, rfl, (hJ.out.2.1.trans (chg_setCell _ b 2 _) (fun n _ e => by rw [e]; exact HbO.out)), S', ?_, hJ.out.2.2⟩
          rw [← updK_all]
          have := hM.out
          rwa [HKL.out] at this
end

end Go.Proofs.YtgmmclcpfmnoiaaGreatDoor
