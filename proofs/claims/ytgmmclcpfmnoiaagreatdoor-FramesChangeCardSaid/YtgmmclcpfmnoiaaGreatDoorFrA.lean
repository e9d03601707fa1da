/-
  What is known of values: compared, copied, exchanged: rows of such, walked.
-/
import Derived.Test.YtgmmclcpfmnoiaaGreatDoorOpenG
import Derived.Test.YtgmmclcpfmnoiaaGreatDoorEqV
import Derived.Test.YtgmmclcpfmnoiaaGreatDoorClones
import Derived.Test.YtgmmclcpfmnoiaaGreatDoorApp
import Derived.Test.YtgmmclcpfmnoiaaGreatDoorChain
import Derived.Test.YtgmmclcpfmnoiaaGreatDoorOpen1
import Derived.Test.YtgmmclcpfmnoiaaGreatDoorWorld2
import Derived.Test.YtgmmclcpfmnoiaaGreatDoorTwin
import Derived.Test.YtgmmclcpfmnoiaaGreatDoorExt
namespace Go.Proofs.YtgmmclcpfmnoiaaGreatDoor
open Go.RowKit

abbrev vtC (x : Vt) : List Value := [.int .i64 x.kind, .int .i64 x.type.dims, strV x.type.name, .int .i64 x.at_]
abbrev vtV (x : Vt) : Value := .agg #[.int .i64 x.kind, .int .i64 x.type.dims, strV x.type.name, .int .i64 x.at_]
abbrev zVt : Value := .agg #[zInt, zInt, zStr, zInt]
theorem info_vt : (Tryz.prog.info? 65).map (fun i => (i.zero, i.size, i.bytes)) = some (some zVt, 4, 40) := by kernel_rfl
/-- A row of such. -/
def VS (w : World) (v : Value) (xs : List Vt) : Prop := SQ 4 RVt (fun k => k < w.heap.size) w v xs
theorem VS.new {w w' : World} {v : Value} {xs : List Vt} (h : VS w v xs) (c : Chg No w w') : VS w' v xs := (SQ.new goodVt h c).mono goodVt (fun k hk => Nat.lt_of_lt_of_le hk c.size)
theorem vt_any {S T : Blocks} {w : World} {x : Vt} {cs : List Value} (h : RVt S w x cs) : RVt T w x cs := h
theorem vs_of {S : Blocks} {w : World} {v : Value} {xs : List Vt} (h : SQ 4 RVt S w v xs) : VS w v xs := by
  obtain ⟨a, cap, rfl, h1, h2, h3⟩ := h
  exact ⟨a, cap, rfl, h1, h2, fun p hp hx => let ⟨h4, h5, h6, h7⟩ := h3 p hp hx; ⟨h4, h5, h5, h7⟩⟩
abbrev VO (w : World) (v : Value) (xs : List Vt) : Prop := OQ 65 4 RVt No w v xs
theorem VO.vs {w : World} {v : Value} {xs : List Vt} (h : VO w v xs) : VS w v xs := h.sq goodVt h.lt (fun _ h => h.elim)
theorem VS.form {w : World} {v : Value} {xs : List Vt} (h : VS w v xs) : ∃ a cap, v = .slice a xs.length cap ∧ xs.length ≤ cap ∧ (a = none → cap = 0) := SQ.form h
theorem VS.cells {w : World} {a : Option Addr} {len cap : Nat} {xs : List Vt} (h : VS w (.slice a len cap) xs) (k : Nat) (hk : k < xs.length) :
    ∃ b o, a = some ⟨b, o, none⟩ ∧ b < w.heap.size ∧ w.cell? ⟨b, o + k * 4, none⟩ = some (.int .i64 xs[k].kind) ∧ w.cell? ⟨b, o + k * 4 + 1, none⟩ = some (.int .i64 xs[k].type.dims) ∧ w.cell? ⟨b, o + k * 4 + 2, none⟩ = some (strV xs[k].type.name) ∧ w.cell? ⟨b, o + k * 4 + 3, none⟩ = some (.int .i64 xs[k].at_) := by
  obtain ⟨b, o, cs, rfl, hcl, hR, hbl, hsb, hcell⟩ := SQ.cells h k hk
  cases hR
  exact ⟨b, o, rfl, hbl, hcell 0 _ rfl, hcell 1 _ rfl, hcell 2 _ rfl, hcell 3 _ rfl⟩

/-- Are two the same? -/
def vtE (x0 x1 : Int) (x2 : ByteArray) (x3 y0 y1 : Int) (y2 : ByteArray) (y3 : Int) : Bool := (x0 == y0) && (tyEq x1 x2 y1 y2 && ((x3 == y3) && true))
abbrev vtEq (a b : Vt) : Bool := vtE a.kind a.type.dims ⟨a.type.name.toArray⟩ a.at_ b.kind b.type.dims ⟨b.type.name.toArray⟩ b.at_
theorem vtEq_iff (a b : Vt) : vtEq a b = decide (a = b) := by
  obtain ⟨k, ⟨d, n⟩, t⟩ := a
  obtain ⟨k', ⟨d', n'⟩, t'⟩ := b
  unfold vtEq vtE
  rw [tyEq_mk, Bool.eq_iff_iff]
  simp
theorem eqVt_run (d : Nat) (w : World) (x0 y0 x1 y1 x3 y3 : Int) (x2 y2 : ByteArray) :
    (Op.equalIn (d + 3) 65 (.agg #[.int .i64 x0, .int .i64 x1, .string x2, .int .i64 x3]) (.agg #[.int .i64 y0, .int .i64 y1, .string y2, .int .i64 y3])).run Tryz.prog w = .ok (vtE x0 x1 x2 x3 y0 y1 y2 y3) w := by
  refine eqOf Tryz.underlying65 (by kernel_rfl) ?_
  refine eqFld (by rfl) (by go_simp; rfl) (by go_simp; rfl) (by go_simp) ?_
  refine eqFld (by rfl) (by first | (go_simp; done) | (go_simp; rfl)) (by first | (go_simp; done) | (go_simp; rfl)) (eqTy_run d w _ _ _ _) ?_
  exact eqFld (by rfl) (by go_simp; rfl) (by go_simp; rfl) (by go_simp) eqNo
attribute [local go_sem high] eqVt_run

theorem eq_upto {xs ys : List Vt} (h : xs.length = ys.length) (hb : ∀ (j : Nat) (h1 : j < xs.length) (h2 : j < ys.length), xs[j] = ys[j]) : decide (xs = ys) = true := by
  rw [decide_eq_true_iff]
  exact List.ext_getElem h (fun j h1 h2 => hb j h1 h2)
theorem eq_not {xs ys : List Vt} {k : Nat} (h1 : k < xs.length) (h2 : k < ys.length) (hb : vtEq xs[k] ys[k] = false) : decide (xs = ys) = false := by
  rw [decide_eq_false_iff_not]
  rintro rfl
  rw [vtEq_iff] at hb
  simp at hb
theorem eq_len {xs ys : List Vt} (h : xs.length ≠ ys.length) : decide (xs = ys) = false := by
  rw [decide_eq_false_iff_not]
  rintro rfl
  exact h rfl

set_option maxRecDepth 100000 in
set_option maxHeartbeats 1600000 in
theorem equal_vt (w : World) (v u : Value) (xs ys : List Vt) (h : VS w v xs) (h' : VS w u ys) (hl : xs.length ≤ 9223372036854775807) (hl' : ys.length ≤ 9223372036854775807) :
    Calls Tryz.prog 57 #[v, u] w fun en w' => en = .returned (.bool (decide (xs = ys))) ∧ Chg No w w' := by
  obtain ⟨a, cap, hv, -, -⟩ := h.form
  obtain ⟨a', cap', hu, -, -⟩ := h'.form
  have H := Lib.hid (And.intro h h'); clear h h'
  subst hv; subst hu
  go_enter Tryz.func57, Tryz.ntmps57
  by_cases hq : xs.length = ys.length
  · have hqz : ((xs.length : Int) == (ys.length : Int)) = true := by rw [hq]; simp
    go_wp2
    go_loopw [13] (fun i wr => ∃ k : Nat, k ≤ xs.length ∧ i = .int .i64 k ∧ Chg No w wr ∧ RowKit.Hid (∀ (j : Nat) (h1 : j < xs.length) (h2 : j < ys.length), j < k → xs[j] = ys[j])) (fun i _ => xs.length - (intOf i).toNat)
    case atStart => exact ⟨0, Nat.zero_le _, rfl, Chg.refl _ _, Lib.hid (fun j _ _ hj => absurd hj (Nat.not_lt_zero _))⟩
    case round =>
      obtain ⟨k, hk, rfl, hc, hb⟩ := hrel
      by_cases hlt : k < xs.length
      · have hlt' : k < ys.length := by omega
        obtain ⟨b, o, rfl, -, g0, g1, g2, g3⟩ := (H.out.1.new hc).cells k hlt
        obtain ⟨b', o', rfl, -, e0, e1, e2, e3⟩ := (H.out.2.new hc).cells k hlt'
        have hiff := vtEq_iff xs[k] ys[k]
        have hnot := @eq_not xs ys k hlt hlt'
        have HF := Lib.hid (And.intro hiff hnot); clear hiff hnot
        cases hp : vtEq xs[k] ys[k] with
        | true =>
          have HP := Lib.hid hp
          go_wp2_with fail
          go_quiet (fail)
          go_wp2
          go_roundw
          case rel => exact ⟨k + 1, by omega, by go_num, hc.drewN _, Lib.hid (fun j h1 h2 hjk => by
            by_cases e : j = k
            · subst e; have := HF.out.1; rw [HP.out] at this; simpa using this.symm
            · exact hb.out j h1 h2 (by omega))⟩
          case measure => simp [intOf]; omega
        | false =>
          have HP := Lib.hid hp
          go_wp2_with fail
          go_quiet (fail)
          go_wp2
          go_ret
          exact ⟨ret_b (HF.out.2 HP.out), hc.drewN _⟩
      · go_wp2
        go_ret
        exact ⟨ret_b (eq_upto hq (fun j h1 h2 => hb.out j h1 h2 (by omega))), hc⟩
  · have hqz : ((xs.length : Int) == (ys.length : Int)) = false := by rw [beq_eq_false_iff_ne]; omega
    go_wp2
    go_ret
    exact ⟨ret_b (eq_len hq), Chg.refl _ _⟩
set_option maxRecDepth 100000 in
set_option maxHeartbeats 1600000 in
theorem same_vt (w : World) (v u : Value) (xs ys : List Vt) (h : VS w v xs) (h' : VS w u ys) (hl : xs.length ≤ 9223372036854775807) (hl' : ys.length ≤ 9223372036854775807) :
    Calls Tryz.prog 58 #[v, u] w fun en w' => en = .returned (.bool (decide (xs = ys))) ∧ Chg No w w' := by
  obtain ⟨a, cap, hv, -, -⟩ := h.form
  obtain ⟨a', cap', hu, -, -⟩ := h'.form
  have H := Lib.hid (And.intro h h'); clear h h'
  subst hv; subst hu
  go_enter Tryz.func58, Tryz.ntmps58
  by_cases hq : xs.length = ys.length
  · have hqz : ((xs.length : Int) == (ys.length : Int)) = true := by rw [hq]; simp
    go_wp2
    go_loopw [5] (fun i wr => ∃ k : Nat, k ≤ xs.length ∧ i = .int .i64 k ∧ Chg No w wr ∧ RowKit.Hid (∀ (j : Nat) (h1 : j < xs.length) (h2 : j < ys.length), j < k → xs[j] = ys[j])) (fun i _ => xs.length - (intOf i).toNat)
    case atStart => exact ⟨0, Nat.zero_le _, rfl, Chg.refl _ _, Lib.hid (fun j _ _ hj => absurd hj (Nat.not_lt_zero _))⟩
    case round =>
      obtain ⟨k, hk, rfl, hc, hb⟩ := hrel
      by_cases hlt : k < xs.length
      · have hlt' : k < ys.length := by omega
        obtain ⟨b, o, rfl, -, g0, g1, g2, g3⟩ := (H.out.1.new hc).cells k hlt
        obtain ⟨b', o', rfl, -, e0, e1, e2, e3⟩ := (H.out.2.new hc).cells k hlt'
        have hiff := vtEq_iff xs[k] ys[k]
        have hnot := @eq_not xs ys k hlt hlt'
        have HF := Lib.hid (And.intro hiff hnot); clear hiff hnot
        cases hp : vtEq xs[k] ys[k] with
        | true =>
          have HP := Lib.hid hp
          go_wp2_with fail
          go_quiet (fail)
          go_wp2
          go_roundw
          case rel => exact ⟨k + 1, by omega, by go_num, hc.drewN _, Lib.hid (fun j h1 h2 hjk => by
            by_cases e : j = k
            · subst e; have := HF.out.1; rw [HP.out] at this; simpa using this.symm
            · exact hb.out j h1 h2 (by omega))⟩
          case measure => simp [intOf]; omega
        | false =>
          have HP := Lib.hid hp
          go_wp2_with fail
          go_quiet (fail)
          go_wp2
          go_ret
          exact ⟨ret_b (HF.out.2 HP.out), hc.drewN _⟩
      · go_wp2
        go_ret
        exact ⟨ret_b (eq_upto hq (fun j h1 h2 => hb.out j h1 h2 (by omega))), hc⟩
  · have hqz : ((xs.length : Int) == (ys.length : Int)) = false := by rw [beq_eq_false_iff_ne]; omega
    go_wp2
    go_ret
    exact ⟨ret_b (eq_len hq), Chg.refl _ _⟩
set_option maxHeartbeats 800000 in
theorem clone_vt (w : World) (v : Value) (xs : List Vt) (h0 : VS w v xs) (hl : xs.length * 40 ≤ 140737488351232) :
    Calls Tryz.prog 56 #[v] w (Cloned 65 4 RVt No w xs) := by
  have qT : ∀ (w : World) (a : Option Addr) (n c n' c' : Nat), (binOp .eql 66 (.slice a n c) (.slice none n' c')).run Tryz.prog w = .ok (.bool a.isNone) w := fun w a n c n' c' => Lib.run_eql_slice_nil w _ _ a n c n' c' Tryz.underlying66
  obtain ⟨a, cap, hv, hc, hn⟩ := h0.form
  subst hv
  cases a with
  | none =>
    have h0 : xs = [] := List.eq_nil_of_length_eq_zero (by have := hn rfl; omega)
    subst h0
    go_enter Tryz.func56, Tryz.ntmps56
    go_wp2
    go_ret
    exact ⟨_, rfl, OQ.nil _ _ _ _, Chg.refl _ _, fun k hk => by cases hk⟩
  | some p =>
    have h' := h0.new ((Chg.refl No w).alloc (.cells #[] 65))
    obtain ⟨css, hE0, hsrc⟩ := SQ.src goodVt h' (by decide) (P := Tryz.prog) Tryz.underlying66
    have hE : Els 4 RVt No (w.alloc (.cells #[] 65)) xs css := ⟨hE0.1, fun i x cs h1 h2 => hE0.2 i x cs h1 h2⟩
    have hm := made_empty w 65 4 RVt No
    have HH := Lib.hid (And.intro hE (And.intro hsrc hm)); clear hE hE0 hsrc hm h' hn h0
    go_enter Tryz.func56, Tryz.ntmps56
    go_wp2_with (at_builtin; refine wpList_appQ (S := No) rfl (.tmp 5) (.tmp 6) 66 66 rfl 65 zVt 40 Tryz.underlying66 info_vt rfl (by decide) goodVt (.slice (some ⟨w.heap.size, 0, none⟩) 0 0) [] rfl HH.out.2.2 (fun k hk _ => hk.elim) (.slice (some p) xs.length cap) xs css rfl HH.out.1 HH.out.2.1 (by simp only [List.length_nil]; unfold maxLen; omega) (by simp only [List.length_nil]; omega) ?_; intro v' w1 h1 h2 h3; have HR := Lib.hid (And.intro h1 (And.intro h2 h3)); clear h1 h2 h3)
    go_ret
    obtain ⟨h1, h2, h3⟩ := HR.out
    rw [List.nil_append] at h1
    refine ⟨v', rfl, h1, ((Chg.refl No w).alloc (.cells #[] 65)).trans h2 (fun k hk e => by simp [Value.ownBlock] at e; omega), fun k hk => ?_⟩
    rcases h3 with h3 | ⟨b, h3, h4⟩
    · rw [h3] at hk; simp [Value.ownBlock] at hk; omega
    · rw [h3] at hk; cases hk; simp at h4; omega

/-- A row with one in the place of another one. -/
def swapL (xs : List Vt) (a b : Vt) : List Vt := xs.map fun x => if x = a then b else x
theorem swapL_take {xs : List Vt} {a b : Vt} {k : Nat} (hk : k < xs.length) : swapL (xs.take (k + 1)) a b = swapL (xs.take k) a b ++ [if xs[k] = a then b else xs[k]] := by
  rw [List.take_succ_eq_append_getElem hk]; unfold swapL; rw [List.map_append]; rfl
theorem swapL_len (xs : List Vt) (a b : Vt) : (swapL xs a b).length = xs.length := by simp [swapL]
theorem one_src (wr : World) (x : Vt) : Src Tryz.prog 4 66 (.slice (some ⟨wr.heap.size, 0, none⟩) 1 1) 1 ([vtC x] : List (List Value)).flatten (wr.alloc (.cells #[.int .i64 x.kind, .int .i64 x.type.dims, strV x.type.name, .int .i64 x.at_] 65)) :=
  Src.single (n := 4) (S := No) (R := RVt) goodVt (x := x) rfl rfl Tryz.underlying66 _ 1 (At.lit wr (vtC x) 65)
theorem vo_nil (w : World) : VO w (.slice none 0 0) [] := OQ.nil _ _ _ _
theorem box4 {w wr : World} {x : Vt} {T : TypeId} (c : Chg No (w.alloc (.cells #[.int .i64 x.kind, .int .i64 x.type.dims, strV x.type.name, .int .i64 x.at_] T)) wr) :
    wr.cell? ⟨w.heap.size, 0, none⟩ = some (.int .i64 x.kind) ∧ wr.cell? ⟨w.heap.size, 1, none⟩ = some (.int .i64 x.type.dims) ∧ wr.cell? ⟨w.heap.size, 2, none⟩ = some (strV x.type.name) ∧ wr.cell? ⟨w.heap.size, 3, none⟩ = some (.int .i64 x.at_) :=
  ⟨box_keep c rfl, box_keep c rfl, box_keep c rfl, box_keep c rfl⟩
/-- Two boxes. -/
def two4 (w : World) (a b : Vt) : World := (w.alloc (.cells #[.int .i64 a.kind, .int .i64 a.type.dims, strV a.type.name, .int .i64 a.at_] 65)).alloc (.cells #[.int .i64 b.kind, .int .i64 b.type.dims, strV b.type.name, .int .i64 b.at_] 65)
theorem two4_chg (w : World) (a b : Vt) : Chg No w (two4 w a b) := ((Chg.refl _ _).alloc _).alloc _
theorem two4_size (w : World) (a b : Vt) : (two4 w a b).heap.size = w.heap.size + 2 := by simp [two4]
theorem two4_a {w wr : World} {a b : Vt} (c : Chg No (two4 w a b) wr) :
    wr.cell? ⟨w.heap.size, 0, none⟩ = some (.int .i64 a.kind) ∧ wr.cell? ⟨w.heap.size, 1, none⟩ = some (.int .i64 a.type.dims) ∧ wr.cell? ⟨w.heap.size, 2, none⟩ = some (strV a.type.name) ∧ wr.cell? ⟨w.heap.size, 3, none⟩ = some (.int .i64 a.at_) :=
  box4 (x := a) (T := 65) (((Chg.refl No _).alloc _).trans c (fun _ _ h => h))
theorem two4_b {w wr : World} {a b : Vt} (c : Chg No (two4 w a b) wr) :
    wr.cell? ⟨w.heap.size + 1, 0, none⟩ = some (.int .i64 b.kind) ∧ wr.cell? ⟨w.heap.size + 1, 1, none⟩ = some (.int .i64 b.type.dims) ∧ wr.cell? ⟨w.heap.size + 1, 2, none⟩ = some (strV b.type.name) ∧ wr.cell? ⟨w.heap.size + 1, 3, none⟩ = some (.int .i64 b.at_) := by
  have := box4 (x := b) (T := 65) c
  rwa [size_alloc1] at this
set_option maxRecDepth 100000 in
set_option maxHeartbeats 3200000 in
theorem swapped_c (w : World) (v : Value) (xs : List Vt) (a b : Vt) (h : VS w v xs) (hl : xs.length ≤ 1000000) :
    Calls Tryz.prog 59 #[v, vtV a, vtV b] w fun en w' => ∃ v', en = .returned v' ∧ VO w' v' (swapL xs a b) ∧ Chg No w w' ∧ ∀ k, v'.ownBlock = some k → w.heap.size ≤ k := by
  obtain ⟨ad, cap, hv, -, -⟩ := h.form
  have H := Lib.hid h; clear h
  subst hv
  go_enter Tryz.func59, Tryz.ntmps59
  go_wp2
  go_loopw [8, 7] (fun i ov wr => ∃ k : Nat, k ≤ xs.length ∧ i = .int .i64 k ∧ lenOf ov = k ∧ RowKit.Hid (VO wr ov (swapL (xs.take k) a b) ∧ Chg No (two4 w a b) wr ∧ ∀ k, ov.ownBlock = some k → w.heap.size + 2 ≤ k)) (fun i _ _ => xs.length - (intOf i).toNat)
  case atStart => exact ⟨0, Nat.zero_le _, rfl, rfl, Lib.hid ⟨vo_nil _, Chg.refl _ _, fun k hk => by cases hk⟩⟩
  case round =>
    obtain ⟨k, hk, rfl, hlen, hI⟩ := hrel
    by_cases hlt : k < xs.length
    · obtain ⟨bb, o, rfl, hbl, g0, g1, g2, g3⟩ := (H.out.new ((two4_chg w a b).trans hI.out.2.1 (fun _ _ h => h))).cells k hlt
      obtain ⟨a0, a1, a2, a3⟩ := two4_a hI.out.2.1
      have HF := Lib.hid (And.intro (vtEq_iff xs[k] a) (swapL_take (a := a) (b := b) hlt))
      obtain ⟨na, nc, hov⟩ := hI.out.1.form
      rw [swapL_len, List.length_take, Nat.min_eq_left hk] at hov
      subst hov
      cases hp : vtEq xs[k] a with
      | true =>
        have HP := Lib.hid hp
        go_wp2_with fail
        go_quiet (fail)
        have HQ := Lib.hid (hI.out.2.1.drewN nq)
        have HO := Lib.hid (OQ.new goodVt hI.out.1 ((Chg.refl No wr).drewN nq))
        obtain ⟨wq, hwq⟩ : ∃ wq, wq = wr.drewN nq := ⟨_, rfl⟩
        rw [← hwq] at HQ HO ⊢
        clear hwq g0 g1 g2 g3 a0 a1 a2 a3 hp
        obtain ⟨a0, a1, a2, a3⟩ := two4_b HQ.out
        have HA := Lib.hid (And.intro (one_src wq b) (OQ.new goodVt HO.out ((Chg.refl No wq).alloc (.cells #[.int .i64 b.kind, .int .i64 b.type.dims, strV b.type.name, .int .i64 b.at_] 65))))
        go_wp2_with (at_builtin; refine wpList_appQ (S := No) rfl (.tmp 21) (.tmp 23) 66 66 rfl 65 zVt 40 Tryz.underlying66 info_vt rfl (by decide) goodVt (.slice na k nc) (swapL (xs.take k) a b) rfl HA.out.2 (fun k hk _ => hk.elim) (.slice (some ⟨wq.heap.size, 0, none⟩) 1 1) [b] [vtC b] rfl (Els.single rfl rfl) HA.out.1 (by rw [swapL_len, List.length_take]; unfold maxLen; simp; omega) (by rw [swapL_len, List.length_take]; simp; omega) ?_; intro v' w1 e1 e2 e3; have HG := Lib.hid (And.intro e1 (And.intro e2 e3)); clear e1 e2 e3)
        go_roundw
        case rel =>
          obtain ⟨e1, e2, e3⟩ := HG.out
          refine ⟨k + 1, by omega, by go_num, ?_, Lib.hid ⟨?_, (HQ.out.alloc _).trans e2 (fun n hn e => ?_), fun n hn => ?_⟩⟩
          · obtain ⟨na', nc', rfl⟩ := e1.form; simp [lenOf, swapL_len]; omega
          · have hd := HF.out.1; rw [HP.out] at hd
            rw [HF.out.2, if_pos (of_decide_eq_true hd.symm)]; exact e1
          · have := hI.out.2.2 n e.symm; rw [two4_size] at hn; omega
          · rcases e3 with e3 | ⟨m, e3, hm⟩
            · rw [e3] at hn; exact hI.out.2.2 n hn
            · rw [e3] at hn; cases hn; rw [size_alloc1] at hm; have := HQ.out.size; rw [two4_size] at this; omega
        case measure => simp [intOf]; omega
      | false =>
        have HP := Lib.hid hp
        go_wp2_with fail
        go_quiet (fail)
        have HQ := Lib.hid (hI.out.2.1.drewN nq)
        have HO := Lib.hid (OQ.new goodVt hI.out.1 ((Chg.refl No wr).drewN nq))
        have G0 : (wr.drewN nq).cell? _ = _ := g0
        have G1 : (wr.drewN nq).cell? _ = _ := g1
        have G2 : (wr.drewN nq).cell? _ = _ := g2
        have G3 : (wr.drewN nq).cell? _ = _ := g3
        obtain ⟨wq, hwq⟩ : ∃ wq, wq = wr.drewN nq := ⟨_, rfl⟩
        rw [← hwq] at HQ HO G0 G1 G2 G3 ⊢
        clear hwq g0 g1 g2 g3 a0 a1 a2 a3 hp
        obtain ⟨z, hz⟩ : ∃ z, z = xs[k] := ⟨_, rfl⟩
        rw [← hz] at G0 G1 G2 G3 HF HP
        clear hz
        have HA := Lib.hid (And.intro (one_src wq z) (OQ.new goodVt HO.out ((Chg.refl No wq).alloc (.cells #[.int .i64 z.kind, .int .i64 z.type.dims, strV z.type.name, .int .i64 z.at_] 65))))
        go_wp2_with (at_builtin; refine wpList_appQ (S := No) rfl (.tmp 25) (.tmp 30) 66 66 rfl 65 zVt 40 Tryz.underlying66 info_vt rfl (by decide) goodVt (.slice na k nc) (swapL (xs.take k) a b) rfl HA.out.2 (fun k hk _ => hk.elim) (.slice (some ⟨wq.heap.size, 0, none⟩) 1 1) [z] [vtC z] rfl (Els.single rfl rfl) HA.out.1 (by rw [swapL_len, List.length_take]; unfold maxLen; simp; omega) (by rw [swapL_len, List.length_take]; simp; omega) ?_; intro v' w1 e1 e2 e3; have HG := Lib.hid (And.intro e1 (And.intro e2 e3)); clear e1 e2 e3)
        go_roundw
        case rel =>
          obtain ⟨e1, e2, e3⟩ := HG.out
          refine ⟨k + 1, by omega, by go_num, ?_, Lib.hid ⟨?_, (HQ.out.alloc _).trans e2 (fun n hn e => ?_), fun n hn => ?_⟩⟩
          · obtain ⟨na', nc', rfl⟩ := e1.form; simp [lenOf, swapL_len]; omega
          · have hd := HF.out.1; rw [HP.out] at hd
            rw [HF.out.2, if_neg (of_decide_eq_false hd.symm)]; exact e1
          · have := hI.out.2.2 n e.symm; rw [two4_size] at hn; omega
          · rcases e3 with e3 | ⟨m, e3, hm⟩
            · rw [e3] at hn; exact hI.out.2.2 n hn
            · rw [e3] at hn; cases hn; rw [size_alloc1] at hm; have := HQ.out.size; rw [two4_size] at this; omega
        case measure => simp [intOf]; omega
    · have hkl : k = xs.length := by omega
      go_wp2
      go_ret
      obtain ⟨e1, e2, e3⟩ := hI.out
      rw [hkl, List.take_length] at e1
      exact ⟨_, rfl, e1, (two4_chg w a b).trans e2 (fun _ _ h => h), fun n hn => by have := e3 n hn; omega⟩
end Go.Proofs.YtgmmclcpfmnoiaaGreatDoor

namespace Go.Proofs.YtgmmclcpfmnoiaaGreatDoor
open Go.RowKit
attribute [local go_sem high] eqVt_run

abbrev frV (x : Vt) (lv sv : Value) : Value := .agg #[.int .i64 x.kind, .int .i64 x.type.dims, strV x.type.name, .int .i64 x.at_, lv, sv]
abbrev frA (x : Vt) (lv sv : Value) : Array Value := #[.int .i64 x.kind, .int .i64 x.type.dims, strV x.type.name, .int .i64 x.at_, lv, sv]
/-- A frame of one's own is what came out. -/
def FrPost (w : World) (f : Fr) (e : Ending) (w' : World) : Prop := ∃ lv sv, e = .returned (frV f.self_ lv sv) ∧ VO w' lv f.locals_ ∧ VO w' sv f.stack ∧ Chg No w w' ∧ (∀ k, lv.ownBlock = some k → w.heap.size ≤ k) ∧ ∀ k, sv.ownBlock = some k → w.heap.size ≤ k
theorem vo_of {S : Blocks} {w : World} {v : Value} {xs : List Vt} (h : OQ 65 4 RVt S w v xs) : VO w v xs := by
  obtain ⟨css, h1, h2⟩ := h
  exact ⟨css, h1, h2.1, fun i x cs a b => h2.2 i x cs a b⟩
/-- An append onto nil. -/
theorem wpList_appVt {w : World} {ops : Array Oper} {rest : List Oper} {o : Oper} {a : Act} {Q : Exit → Act → World → Prop} (hgd : o.guard = none) (s x : Operand)
    (ho : o.op = .call { callee := .builtin .append, args := #[s, x], argTypes := #[66, 66] }) (hs : a.eval s = .slice none 0 0) (xv : Value) (ys : List Vt) (hx : a.eval x = xv) (hsq : VS w xv ys) (hl : ys.length ≤ 1000000)
    (h : ∀ v' w', VO w' v' ys → Chg No w w' → (∀ k, v'.ownBlock = some k → w.heap.size ≤ k) → wpList Tryz.prog ops Q rest (a.put o.dst v') w') : wpList Tryz.prog ops Q (o :: rest) a w := by
  obtain ⟨css, hE, hsrc⟩ := SQ.src goodVt hsq (by decide) (P := Tryz.prog) Tryz.underlying66
  refine wpList_appQ (S := No) hgd s x _ _ ho 65 zVt 40 Tryz.underlying66 info_vt rfl (by decide) goodVt (.slice none 0 0) [] hs (OQ.nil _ _ _ _) (fun k hk _ => hk.elim) xv ys css hx ⟨hE.1, fun i x cs a b => hE.2 i x cs a b⟩ hsrc (by simp only [List.length_nil]; unfold maxLen; omega) (by simp only [List.length_nil]; omega) ?_
  intro v' w' h1 h2 h3
  refine h v' w' h1 (h2.mono (fun k _ e => by simp [Value.ownBlock] at e)) (fun k hk => ?_)
  rcases h3 with h3 | ⟨b, h3, h4⟩
  · rw [h3] at hk; simp [Value.ownBlock] at hk
  · rw [h3] at hk; cases hk; exact h4

theorem reached_ref (w : World) (f : Vt) (lv sv : Value) : Calls Tryz.prog 26 #[frV f lv sv] w fun e w' => e = .returned (.bool (!(f.kind == 0))) ∧ Chg No w w' := by
  go_enter Tryz.func26, Tryz.ntmps26
  go_wp2
  go_ret
  exact ⟨rfl, (Chg.refl _ _).alloc _⟩
theorem reached_c (w : World) (f : Vt) (lv sv : Value) : Calls Tryz.prog 25 #[frV f lv sv] w fun e w' => e = .returned (.bool (!(f.kind == 0))) ∧ Chg No w w' := by
  go_enter Tryz.func25, Tryz.ntmps25
  go_wp2
  go_ret
  exact ⟨rfl, (Chg.refl _ _).alloc _⟩

/-- A frame, a result, a frame that is made. -/
def three6 (w : World) (x : Vt) (lv sv : Value) (y : Array Value) : World := ((w.alloc (.cells (frA x lv sv) 68)).alloc (.cells #[zInt, zInt, zStr, zInt, zNil, zNil] 68)).alloc (.cells y 68)
theorem three6_chg (w : World) (x : Vt) (lv sv : Value) (y : Array Value) : Chg No w (three6 w x lv sv y) := (((Chg.refl _ _).alloc _).alloc _).alloc _
theorem three6_0 {w wr : World} {x : Vt} {lv sv : Value} {y : Array Value} (c : Chg No (three6 w x lv sv y) wr) : wr.heap[w.heap.size]? = some (.cells (frA x lv sv) 68 (0, 0)) :=
  c.blk (alloc_blk (alloc_blk (alloc_at _ _ rfl)))
theorem three6_1 {w wr : World} {x : Vt} {lv sv : Value} {y : Array Value} (c : Chg No (three6 w x lv sv y) wr) : wr.heap[w.heap.size + 1]? = some (.cells #[zInt, zInt, zStr, zInt, zNil, zNil] 68 (0, 0)) :=
  c.blk (alloc_blk (alloc_at _ _ (by simp)))
theorem three6_2 {w wr : World} {x : Vt} {lv sv : Value} {y : Array Value} (c : Chg No (three6 w x lv sv y) wr) : wr.heap[w.heap.size + 1 + 1]? = some (.cells y 68 (0, 0)) :=
  c.blk (alloc_at _ _ (by simp))
theorem three6_size (w : World) (x : Vt) (lv sv : Value) (y : Array Value) : (three6 w x lv sv y).heap.size = w.heap.size + 1 + 1 + 1 := by simp [three6]
/-- A store into another block. -/
theorem blk_other {w : World} {b r : Nat} {o : Obj} (h : w.heap[b]? = some o) (hne : b ≠ r) (j : Nat) (v : Value) : (w.setCell ⟨r, j, none⟩ v).heap[b]? = some o :=
  ((chg_setCell w r j v).block b (heap_lt h) hne).trans h
theorem VO.set {w : World} {v : Value} {xs : List Vt} (h : VO w v xs) {b : Nat} (hb : ∀ k, v.ownBlock = some k → k ≠ b) (j : Nat) (u : Value) : VO (w.setCell ⟨b, j, none⟩ u) v xs :=
  OQ.keep goodVt h (chg_setCell w b j u) hb (fun _ h => h.elim)
theorem VO.six {w : World} {v : Value} {xs : List Vt} (h : VO w v xs) {b : Nat} (hb : ∀ k, v.ownBlock = some k → k ≠ b) (u0 u1 u2 u3 u4 u5 : Value) :
    VO ((((((w.setCell ⟨b, 0, none⟩ u0).setCell ⟨b, 1, none⟩ u1).setCell ⟨b, 2, none⟩ u2).setCell ⟨b, 3, none⟩ u3).setCell ⟨b, 4, none⟩ u4).setCell ⟨b, 5, none⟩ u5) v xs :=
  (((((h.set hb _ _).set hb _ _).set hb _ _).set hb _ _).set hb _ _).set hb _ _
theorem Chg.six {w w' : World} (h : Chg No w w') {b : Nat} (hb : w.heap.size ≤ b) (u0 u1 u2 u3 u4 u5 : Value) :
    Chg No w ((((((w'.setCell ⟨b, 0, none⟩ u0).setCell ⟨b, 1, none⟩ u1).setCell ⟨b, 2, none⟩ u2).setCell ⟨b, 3, none⟩ u3).setCell ⟨b, 4, none⟩ u4).setCell ⟨b, 5, none⟩ u5) :=
  (((((h.set_new hb _ _).set_new hb _ _).set_new hb _ _).set_new hb _ _).set_new hb _ _).set_new hb _ _

set_option maxRecDepth 100000 in
set_option maxHeartbeats 3200000 in
theorem twin_ref (w : World) (f : Fr) (lv sv : Value) (h1 : VS w lv f.locals_) (h2 : VS w sv f.stack) (l1 : f.locals_.length ≤ 1000000) (l2 : f.stack.length ≤ 1000000) :
    Calls Tryz.prog 20 #[frV f.self_ lv sv] w (FrPost w f) := by
  obtain ⟨fs, fl, fk⟩ := f
  obtain ⟨a1, c1, hv1, -, -⟩ := h1.form
  obtain ⟨a2, c2, hv2, -, -⟩ := h2.form
  have H := Lib.hid (And.intro h1 h2); clear h1 h2
  simp only at hv1 hv2
  subst hv1; subst hv2
  go_enter Tryz.func20, Tryz.ntmps20
  have C0 := Lib.hid (three6_chg w fs (.slice a1 fl.length c1) (.slice a2 fk.length c2) (frA fs zNil zNil))
  have H3 := Lib.hid (H.out.1.new C0.out)
  go_wp2_with (first
    | (at_builtin; refine wpList_appVt rfl (.tmp 8) (.tmp 10) rfl rfl (.slice a1 fl.length c1) fl rfl H3.out l1 ?_; intro v1 w1 e1 e2 e3; obtain ⟨na, nc, rfl⟩ := e1.form; have E1 := Lib.hid (And.intro e1 (And.intro (show Chg No (three6 w fs (.slice a1 fl.length c1) (.slice a2 fk.length c2) (frA fs zNil zNil)) w1 from e2) e3)); clear e1 e2 e3; have B1 := Lib.hid (And.intro (three6_0 E1.out.2.1) (And.intro (three6_1 E1.out.2.1) (three6_2 E1.out.2.1))); have x4 : w1.cell? ⟨w.heap.size + 1 + 1, 4, none⟩ = some zNil := blk_cell B1.out.2.2 rfl; have f4 := blk_frozen B1.out.2.2 4; have KK := Lib.hid (And.intro (blk_other B1.out.1 (r := w.heap.size + 1 + 1) (by omega) 4 (.slice na fl.length nc)) (And.intro (blk_other B1.out.2.1 (r := w.heap.size + 1 + 1) (by omega) 4 (.slice na fl.length nc)) (setCell_at (o := 4) B1.out.2.2 (.slice na fl.length nc)))); have C1 := Lib.hid ((C0.out.trans E1.out.2.1 (fun _ _ h => h)).set_new (b := w.heap.size + 1 + 1) (by omega) 4 (.slice na fl.length nc)); have y5 : (w1.setCell ⟨w.heap.size + 1 + 1, 4, none⟩ (.slice na fl.length nc)).cell? ⟨w.heap.size + 1 + 1, 5, none⟩ = some zNil := blk_cell KK.out.2.2 rfl; have b5 : (w1.setCell ⟨w.heap.size + 1 + 1, 4, none⟩ (.slice na fl.length nc)).cell? ⟨w.heap.size, 5, none⟩ = some (.slice a2 fk.length c2) := blk_cell KK.out.1 rfl; have HS := Lib.hid (H.out.2.new C1.out))
    | (at_builtin; refine wpList_appVt rfl (.tmp 14) (.tmp 16) rfl rfl (.slice a2 fk.length c2) fk rfl HS.out l2 ?_; intro v2 w2 e1 e2 e3; obtain ⟨ma, mc, rfl⟩ := e1.form; have E2 := Lib.hid (And.intro e1 (And.intro e2 e3)); clear e1 e2 e3; clear x4 f4 y5 b5; have B2 := Lib.hid (And.intro (E2.out.2.1.blk KK.out.2.1) (E2.out.2.1.blk KK.out.2.2)); have x5 : w2.cell? ⟨w.heap.size + 1 + 1, 5, none⟩ = some zNil := blk_cell B2.out.2 rfl; have f5 := blk_frozen B2.out.2 5; have z0 : w2.cell? ⟨w.heap.size + 1 + 1, 0, none⟩ = some (.int .i64 fs.kind) := blk_cell B2.out.2 rfl; have z1 : w2.cell? ⟨w.heap.size + 1 + 1, 1, none⟩ = some (.int .i64 fs.type.dims) := blk_cell B2.out.2 rfl; have z2 : w2.cell? ⟨w.heap.size + 1 + 1, 2, none⟩ = some (strV fs.type.name) := blk_cell B2.out.2 rfl; have z3 : w2.cell? ⟨w.heap.size + 1 + 1, 3, none⟩ = some (.int .i64 fs.at_) := blk_cell B2.out.2 rfl; have z4 : w2.cell? ⟨w.heap.size + 1 + 1, 4, none⟩ = some (.slice na fl.length nc) := blk_cell B2.out.2 rfl; have r0 : w2.cell? ⟨w.heap.size + 1, 0, none⟩ = some zInt := blk_cell B2.out.1 rfl; have r1 : w2.cell? ⟨w.heap.size + 1, 1, none⟩ = some zInt := blk_cell B2.out.1 rfl; have r2 : w2.cell? ⟨w.heap.size + 1, 2, none⟩ = some zStr := blk_cell B2.out.1 rfl; have r3 : w2.cell? ⟨w.heap.size + 1, 3, none⟩ = some zInt := blk_cell B2.out.1 rfl; have r4 : w2.cell? ⟨w.heap.size + 1, 4, none⟩ = some zNil := blk_cell B2.out.1 rfl; have r5 : w2.cell? ⟨w.heap.size + 1, 5, none⟩ = some zNil := blk_cell B2.out.1 rfl; have y0 := blk_frozen B2.out.1 0; have y1 := blk_frozen B2.out.1 1; have y2 := blk_frozen B2.out.1 2; have y3 := blk_frozen B2.out.1 3; have y4 := blk_frozen B2.out.1 4; have y5 := blk_frozen B2.out.1 5; have K3 := Lib.hid (And.intro (blk_other B2.out.1 (r := w.heap.size + 1 + 1) (by omega) 5 (.slice ma fk.length mc)) (setCell_at (o := 5) B2.out.2 (.slice ma fk.length mc))); have C2 := Lib.hid ((C1.out.trans E2.out.2.1 (fun _ _ h => h)).set_new (b := w.heap.size + 1 + 1) (by omega) 5 (.slice ma fk.length mc))))
  refine bodyPost_ret (v := frV fs (.slice na fl.length nc) (.slice ma fk.length mc)) (by simp [results, Tryz.results20, go_sem, r0, r1, r2, r3, r4, r5]) rfl ⟨_, _, rfl, ?_, ?_, ?_, ?_, ?_⟩
  · have hs := E1.out.2.1.size
    rw [three6_size] at hs
    have h0 : ∀ k, (Value.slice na fl.length nc).ownBlock = some k → w.heap.size + 1 + 1 + 1 ≤ k := fun k hk => by have h9 : (three6 w fs (.slice a1 fl.length c1) (.slice a2 fk.length c2) (frA fs zNil zNil)).heap.size ≤ k := E1.out.2.2 k hk; rwa [three6_size] at h9
    have h1 := VO.set E1.out.1 (b := w.heap.size + 1 + 1) (fun k hk => by have := h0 k hk; omega) 4 (.slice na fl.length nc)
    have h2 := VO.set (OQ.new goodVt h1 E2.out.2.1) (b := w.heap.size + 1 + 1) (fun k hk => by have := h0 k hk; omega) 5 (.slice ma fk.length mc)
    exact VO.six h2 (b := w.heap.size + 1) (fun k hk => by have := h0 k hk; omega) _ _ _ _ _ _
  · have h0 : ∀ k, (Value.slice ma fk.length mc).ownBlock = some k → w.heap.size + 1 + 1 + 1 ≤ k := fun k hk => by
      have h9 := E2.out.2.2 k hk
      have h8 := E1.out.2.1.size
      rw [three6_size] at h8
      have h7 : w1.heap.size ≤ k := by simpa using h9
      omega
    have h2 := VO.set E2.out.1 (b := w.heap.size + 1 + 1) (fun k hk => by have := h0 k hk; omega) 5 (.slice ma fk.length mc)
    exact VO.six h2 (b := w.heap.size + 1) (fun k hk => by have := h0 k hk; omega) _ _ _ _ _ _
  · exact Chg.six C2.out (by omega) _ _ _ _ _ _
  · intro k hk
    have h9 : (three6 w fs (.slice a1 fl.length c1) (.slice a2 fk.length c2) (frA fs zNil zNil)).heap.size ≤ k := E1.out.2.2 k hk
    rw [three6_size] at h9
    omega
  · intro k hk
    have h9 := E2.out.2.2 k hk
    have h8 := E1.out.2.1.size
    rw [three6_size] at h8
    have h7 : w1.heap.size ≤ k := by simpa using h9
    omega
end Go.Proofs.YtgmmclcpfmnoiaaGreatDoor

namespace Go.Proofs.YtgmmclcpfmnoiaaGreatDoor
open Go.RowKit
attribute [local go_sem high] eqVt_run

theorem grow_run (w : World) (m : Nat) (hm : 0 < m) (hb : m ≤ 1000000) :
    ∃ c cur, m ≤ c ∧ c ≤ maxLen ∧ cur.size = c * 4 ∧ (Builtin.append_ #[66, 3] 66 #[.slice none 0 0, .int .i64 m]).run Tryz.prog w = .ok (.slice (some ⟨w.heap.size, 0, none⟩) m c) (w.drew.alloc (.cells cur 65)) := by
  obtain ⟨i, hi, hz0, hz1, hz2⟩ := info_parts info_vt
  have hge := grownCap_ge w m 0 65
  have h63 : m ≤ maxLen := by unfold maxLen; omega
  have hcm : grownCap w m 0 65 ≤ maxLen := grownCap_le_maxLen w m 0 65 h63
  have hfit : Builtin.nextslicecap m 0 * 40 ≤ 281474976710656 := growslice_fits_wide (by omega) (by omega)
  have hw : IntKind.i64.wrap (m : Int) = m := by rw [IntKind.wrap_i64]; omega
  refine ⟨grownCap w m 0 65, Builtin.zeroCells zVt.cells m ++ Builtin.zeroCells zVt.cells (grownCap w m 0 65 - m), hge, hcm, ?_, ?_⟩
  · simp only [Array.size_append, size_zeroCells]
    have : zVt.cells.size = 4 := rfl
    rw [this]; omega
  · have h1 : ¬ ((m : Int) < 0) := by omega
    have h2 : ¬ ((281474976710656 : Int) < (m : Int) * 40) := by omega
    have h3 : ¬ (m ≤ 0) := by omega
    have h3' : ¬ (m = 0) := by omega
    have h4 : ¬ ((9223372036854775807 : Int) < (m : Int)) := by omega
    have h5 : ¬ (281474976710656 < Builtin.nextslicecap m 0 * 40) := by omega
    simp [Builtin.append_, run_underlying Tryz.underlying66, run_underlying Tryz.underlying3, sizeOf, typeInfo, zeroValue, hi, hz0, hz1, hz2, asInt, asIntOf, hw, h1, h2, h3, h3', h4, h5, Question.forced, run_firstCells_none, newRow, grownCap]
    intro h; omega
theorem wpList_growVt {w : World} {ops : Array Oper} {rest : List Oper} {o : Oper} {a : Act} {Q : Exit → Act → World → Prop} (hgd : o.guard = none) (s x : Operand)
    (ho : o.op = .call { callee := .builtin .append, args := #[s, x], argTypes := #[66, 3] }) (hty : o.type = 66) (hs : a.eval s = .slice none 0 0) (m : Nat) (hx : a.eval x = .int .i64 m) (hm : 0 < m) (hb : m ≤ 1000000)
    (h : ∀ c cur w', m ≤ c → c ≤ maxLen → cur.size = c * 4 → w'.heap[w.heap.size]? = some (.cells cur 65 (0, 0)) → Chg No w w' → wpList Tryz.prog ops Q rest (a.put o.dst (.slice (some ⟨w.heap.size, 0, none⟩) m c)) w') : wpList Tryz.prog ops Q (o :: rest) a w := by
  refine wpList_plain hgd fun K hK => ?_
  obtain ⟨c, cur, h1, h2, h3, hr⟩ := grow_run w m hm hb
  unfold Oper.wp execOp
  simp only [ho, hty, resolve, invoke, builtin, Sem.run_bind, Sem.run_pure, Result.andThen_ok, List.map_toArray, List.map_cons, List.map_nil, hs, hx, hr]
  exact hK _ _ (h c cur _ h1 h2 h3 (heap_alloc_new w.drew _) ((Chg.refl No w).drew.alloc _))
/-- What a call leaves that makes a row. -/
def VRow (w : World) (xs : List Vt) (e : Ending) (w' : World) : Prop := ∃ v', e = .returned v' ∧ VO w' v' xs ∧ Chg No w w' ∧ ∀ k, v'.ownBlock = some k → w.heap.size ≤ k
set_option maxRecDepth 100000 in
set_option maxHeartbeats 1600000 in
theorem grow_vt (w : World) (m : Nat) (hm : 0 < m) (hb : m ≤ 1000000) : Calls Tryz.prog 120 #[.slice none 0 0, .int .i64 m] w (VRow w []) := by
  have hm0 : ¬ ((m : Int) < 0) := by omega
  have hm1 : (0 : Int) < m := by omega
  have hw : IntKind.i64.wrap ((m : Int) - 0) = m := by rw [IntWalk.i64_in _ (by omega)]; omega
  go_enter Tryz.func120, Tryz.ntmps120
  go_wp2_with (at_builtin; refine wpList_growVt rfl (.tmp 20) (.tmp 21) rfl rfl rfl m rfl hm hb ?_; intro c cur w1 e1 e2 e3 e4 e5; have E := Lib.hid (And.intro e2 (And.intro e3 (And.intro e4 e5))); clear e2 e3 e4 e5)
  go_ret
  obtain ⟨e2, e3, e4, e5⟩ := E.out
  exact ⟨_, rfl, ⟨[], ⟨rfl, .inr ⟨w.heap.size, c, cur, rfl, Nat.zero_le _, e4, Nat.zero_le _, e2, e3, by simp⟩⟩, Els.nil⟩, e5, fun k hk => by simp [Value.ownBlock] at hk; omega⟩

/-- An append of a row onto a row of one's own. -/
theorem wpList_appVo {w : World} {ops : Array Oper} {rest : List Oper} {o : Oper} {a : Act} {Q : Exit → Act → World → Prop} (hgd : o.guard = none) (s x : Operand)
    (ho : o.op = .call { callee := .builtin .append, args := #[s, x], argTypes := #[66, 66] }) (v : Value) (xs : List Vt) (hs : a.eval s = v) (hown : VO w v xs) (xv : Value) (ys : List Vt) (hx : a.eval x = xv) (hsq : VS w xv ys) (hl : xs.length + ys.length ≤ 1000000)
    (h : ∀ v' w', VO w' v' (xs ++ ys) → Chg (fun k => some k = v.ownBlock) w w' → (v'.ownBlock = v.ownBlock ∨ ∃ b, v'.ownBlock = some b ∧ w.heap.size ≤ b) → wpList Tryz.prog ops Q rest (a.put o.dst v') w') : wpList Tryz.prog ops Q (o :: rest) a w := by
  obtain ⟨css, hE, hsrc⟩ := SQ.src goodVt hsq (by decide) (P := Tryz.prog) Tryz.underlying66
  exact wpList_appQ (S := No) hgd s x _ _ ho 65 zVt 40 Tryz.underlying66 info_vt rfl (by decide) goodVt v xs hs hown (fun k hk _ => hk.elim) xv ys css hx ⟨hE.1, fun i x cs a b => hE.2 i x cs a b⟩ hsrc (by unfold maxLen; omega) (by omega) h
/-- What holds between the appends. -/
def VCat (w w' : World) (r : Nat) (T : TypeId) (v : Value) (xs : List Vt) (v0 v1 v2 : Value) (xs0 xs1 xs2 : List Vt) : Prop :=
  VO w' v xs ∧ Chg No w w' ∧ (∀ k, v.ownBlock = some k → w.heap.size ≤ k) ∧ VS w' v0 xs0 ∧ VS w' v1 xs1 ∧ VS w' v2 xs2 ∧ w'.heap[r]? = some (.cells #[v0, v1, v2] T (0, 0))
theorem cat_start {w w' : World} {r : Nat} {T : TypeId} {v v0 v1 v2 : Value} {xs xs0 xs1 xs2 : List Vt} (h : VS w v0 xs0 ∧ VS w v1 xs1 ∧ VS w v2 xs2 ∧ w.heap[r]? = some (.cells #[v0, v1, v2] T (0, 0))) (o : VO w' v xs) (d : Chg No w w') (m : ∀ k, v.ownBlock = some k → w.heap.size ≤ k) : VCat w w' r T v xs v0 v1 v2 xs0 xs1 xs2 :=
  ⟨o, d, m, h.1.new d, h.2.1.new d, h.2.2.1.new d, d.blk h.2.2.2⟩
theorem cat_step {w0 w w' : World} {r : Nat} {T : TypeId} {v v' v0 v1 v2 : Value} {xs ys xs0 xs1 xs2 : List Vt} (h0 : VS w0 v0 xs0 ∧ VS w0 v1 xs1 ∧ VS w0 v2 xs2 ∧ w0.heap[r]? = some (.cells #[v0, v1, v2] T (0, 0))) (h : VCat w0 w r T v xs v0 v1 v2 xs0 xs1 xs2) (o : VO w' v' ys) (d : Chg (fun k => some k = v.ownBlock) w w') (m : v'.ownBlock = v.ownBlock ∨ ∃ b, v'.ownBlock = some b ∧ w.heap.size ≤ b) : VCat w0 w' r T v' ys v0 v1 v2 xs0 xs1 xs2 := by
  have D := h.2.1.trans d (fun n hn e => by have := h.2.2.1 n e.symm; omega)
  refine cat_start h0 o D (fun k hk => ?_)
  rcases m with m | ⟨b, m, hb⟩
  · rw [m] at hk; exact h.2.2.1 k hk
  · rw [m] at hk; cases hk; have := h.2.1.size; omega
set_option maxRecDepth 100000 in
set_option maxHeartbeats 3200000 in
theorem concat3 (w : World) (r : Nat) (v0 v1 v2 : Value) (xs0 xs1 xs2 : List Vt) (T : TypeId) (hr : w.heap[r]? = some (.cells #[v0, v1, v2] T (0, 0))) (h0 : VS w v0 xs0) (h1 : VS w v1 xs1) (h2 : VS w v2 xs2) (b0 : 0 < xs0.length) (b1 : xs0.length ≤ 1000) (b2 : xs1.length ≤ 1000) (b3 : xs2.length ≤ 1000) :
    Calls Tryz.prog 95 #[.slice (some ⟨r, 0, none⟩) 3 3] w (VRow w (xs0 ++ (xs1 ++ xs2))) := by
  obtain ⟨a0, c0, hv0, -, -⟩ := h0.form
  obtain ⟨a1, c1, hv1, -, -⟩ := h1.form
  obtain ⟨a2, c2, hv2, -, -⟩ := h2.form
  have H := Lib.hid (And.intro h0 (And.intro h1 (And.intro h2 hr))); clear h0 h1 h2
  subst hv0; subst hv1; subst hv2
  have q0 := blk_cell (j := 0) hr rfl
  have q1 := blk_cell (j := 1) hr rfl
  have q2 := blk_cell (j := 2) hr rfl
  clear hr
  have w0 : IntKind.i64.wrap (0 + (xs0.length : Int)) = xs0.length := by rw [IntWalk.i64_in _ (by omega)]; omega
  have w1 : IntKind.i64.wrap ((xs0.length : Int) + xs1.length) = ((xs0.length + xs1.length : Nat) : Int) := by rw [IntWalk.i64_in _ (by omega)]; omega
  have w2 : IntKind.i64.wrap (((xs0.length + xs1.length : Nat) : Int) + xs2.length) = ((xs0.length + xs1.length + xs2.length : Nat) : Int) := by rw [IntWalk.i64_in _ (by omega)]; omega
  have n0 : ¬ ((xs0.length : Int) < 0) := by omega
  have n1 : ¬ (((xs0.length + xs1.length : Nat) : Int) < 0) := by omega
  have n2 : ¬ (((xs0.length + xs1.length + xs2.length : Nat) : Int) < 0) := by omega
  go_enter Tryz.func95, Tryz.ntmps95
  go_wp2
  refine wp_loop_rounds 4 ?_
  rw [rounds_succ]
  go_wp2
  rw [rounds_succ]
  go_wp2
  rw [rounds_succ]
  go_wp2
  rw [rounds_succ]
  go_wp2_with fail
  have hN : ((xs0.length : Int) + xs1.length + xs2.length) = ((xs0.length + xs1.length + xs2.length : Nat) : Int) := by omega
  have hg := grow_vt w (xs0.length + xs1.length + xs2.length) (by omega) (by omega)
  rw [← hN] at hg
  refine hg.mono ?_
  clear hg hN
  rintro e g0 ⟨v0, rfl, o0, d0, m0⟩
  obtain ⟨na0, nc0, hv0⟩ := o0.form
  rw [List.length_nil] at hv0
  subst hv0
  have E0 := Lib.hid (cat_start H.out o0 d0 m0)
  clear o0 d0 m0 q0 q1 q2
  have u0 : g0.cell? ⟨r, 0, none⟩ = some (.slice a0 xs0.length c0) := blk_cell E0.out.2.2.2.2.2.2 rfl
  have u1 : g0.cell? ⟨r, 1, none⟩ = some (.slice a1 xs1.length c1) := blk_cell E0.out.2.2.2.2.2.2 rfl
  have u2 : g0.cell? ⟨r, 2, none⟩ = some (.slice a2 xs2.length c2) := blk_cell E0.out.2.2.2.2.2.2 rfl
  go_wp2
  refine wp_loop_rounds 4 ?_
  rw [rounds_succ]
  go_wp2_with (at_builtin; refine wpList_appVo rfl (.tmp 31) (.tmp 32) rfl _ [] rfl E0.out.1 (.slice a0 xs0.length c0) xs0 rfl E0.out.2.2.2.1 (by simp only [List.length_nil]; omega) ?_; intro v1 g1 e1 e2 e3; rw [List.nil_append] at e1; obtain ⟨na1, nc1, rfl⟩ := e1.form; have E1 := Lib.hid (cat_step H.out E0.out e1 e2 e3); clear e1 e2 e3; have s1 : g1.cell? ⟨r, 1, none⟩ = some (.slice a1 xs1.length c1) := blk_cell E1.out.2.2.2.2.2.2 rfl)
  rw [rounds_succ]
  go_wp2_with (at_builtin; refine wpList_appVo rfl (.tmp 31) (.tmp 32) rfl _ xs0 rfl E1.out.1 (.slice a1 xs1.length c1) xs1 rfl E1.out.2.2.2.2.1 (by omega) ?_; intro v2 g2 e1 e2 e3; obtain ⟨na2, nc2, hv2⟩ := e1.form; rw [List.length_append] at hv2; subst hv2; have E2 := Lib.hid (cat_step H.out E1.out e1 e2 e3); clear e1 e2 e3; have s2 : g2.cell? ⟨r, 2, none⟩ = some (.slice a2 xs2.length c2) := blk_cell E2.out.2.2.2.2.2.2 rfl)
  rw [rounds_succ]
  go_wp2_with (at_builtin; refine wpList_appVo rfl (.tmp 31) (.tmp 32) rfl _ (xs0 ++ xs1) rfl E2.out.1 (.slice a2 xs2.length c2) xs2 rfl E2.out.2.2.2.2.2.1 (by rw [List.length_append]; omega) ?_; intro v3 g3 e1 e2 e3; obtain ⟨na3, nc3, hv3⟩ := e1.form; rw [List.length_append, List.length_append] at hv3; subst hv3; have E3 := Lib.hid (cat_step H.out E2.out e1 e2 e3); clear e1 e2 e3)
  rw [rounds_succ]
  go_wp2
  go_ret
  have h := E3.out.1
  rw [List.append_assoc] at h
  exact ⟨_, rfl, h, E3.out.2.1, E3.out.2.2.1⟩
end Go.Proofs.YtgmmclcpfmnoiaaGreatDoor
