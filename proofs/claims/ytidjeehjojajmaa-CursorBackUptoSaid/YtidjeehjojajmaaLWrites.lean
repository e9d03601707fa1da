/-
  The walk of CursorWrites: the program's writer and the reference's, handed the same calls, hold the same bytes and the same error.
-/
import Derived.Test.YtidjeehjojajmaaLRows
namespace Go.Proofs.Ytidjeehjojajmaa
open Go.RowKit

/-- A writer of the program and one of the reference, apart, from block base on. -/
structure WX (base : Nat) (w : World) (a x : Nat) (sa sx : Value) (s t : WS) : Prop where
  wa : Wr w a sa s
  wx : Xw w x sx t
  ne : a ≠ x
  ax : sa.ownBlock ≠ some x
  xa : sx.ownBlock ≠ some a
  ss : ∀ k, sa.ownBlock = some k → sx.ownBlock ≠ some k
  la : ∀ k, Fp a sa k → base ≤ k
  lx : ∀ k, Fp x sx k → base ≤ k
theorem WX.new {base : Nat} {w w' : World} {a x : Nat} {sa sx : Value} {s t : WS} (h : WX base w a x sa sx s t) (c : Chg No w w') : WX base w' a x sa sx s t :=
  ⟨h.wa.new c, h.wx.new c, h.ne, h.ax, h.xa, h.ss, h.la, h.lx⟩
theorem WX.stepA {base : Nat} {w w' : World} {a x : Nat} {sa sx sa' : Value} {s s' t : WS} (h : WX base w a x sa sx s t) (h1 : Wr w' a sa' s') (st : WStep a w sa w' sa') : WX base w' a x sa' sx s' t := by
  have hbl := h.wx.lt
  have hal := h.wa.lt
  have hla : base ≤ a := h.la a (.inl rfl)
  have hb : Xw w' x sx t := h.wx.chg st.chg (fun e => by
    rcases e with e | e
    · exact h.ne e.symm
    · exact h.ax e) (fun k hk e => by
    rcases e with e | e
    · exact h.xa (by rw [hk, e])
    · exact h.ss k e hk)
  refine ⟨h1, hb, h.ne, ?_, h.xa, ?_, ?_, h.lx⟩
  · rcases st.at_ with e | ⟨k, e, hk⟩
    · rw [e]; exact h.ax
    · rw [e]; intro e'; cases e'; omega
  · intro k hk e
    rcases st.at_ with e' | ⟨m, e', hm⟩
    · exact h.ss k (e' ▸ hk) e
    · rw [e'] at hk; cases hk
      have := h.wx.slt _ e; omega
  · intro k hk
    rcases hk with hk | hk
    · rw [hk]; exact hla
    · rcases st.at_ with e' | ⟨m, e', hm⟩
      · exact h.la k (.inr (e' ▸ hk))
      · rw [e'] at hk; cases hk; omega
theorem WX.stepX {base : Nat} {w w' : World} {a x : Nat} {sa sx sx' : Value} {s t t' : WS} (h : WX base w a x sa sx s t) (h1 : Xw w' x sx' t') (st : WStep x w sx w' sx') : WX base w' a x sa sx' s t' := by
  have hbl := h.wx.lt
  have hal := h.wa.lt
  have hlx : base ≤ x := h.lx x (.inl rfl)
  have hb : Wr w' a sa s := h.wa.chg st.chg (fun e => by
    rcases e with e | e
    · exact h.ne e
    · exact h.xa e) (fun k hk e => by
    rcases e with e | e
    · exact h.ax (by rw [hk, e])
    · exact h.ss k hk e)
  refine ⟨hb, h1, h.ne, h.ax, ?_, ?_, h.la, ?_⟩
  · rcases st.at_ with e | ⟨k, e, hk⟩
    · rw [e]; exact h.xa
    · rw [e]; intro e'; cases e'; omega
  · intro k hk e
    rcases st.at_ with e' | ⟨m, e', hm⟩
    · exact h.ss k hk (e' ▸ e)
    · rw [e'] at e; cases e
      have := h.wa.slt _ hk; omega
  · intro k hk
    rcases hk with hk | hk
    · rw [hk]; exact hlx
    · rcases st.at_ with e' | ⟨m, e', hm⟩
      · exact h.lx k (.inr (e' ▸ hk))
      · rw [e'] at hk; cases hk; omega
theorem box_cellw {w w1 : World} {a : Nat} {sa sa1 : Value} {s : WS} {c : Array Value} {T : Nat} (h : Wr w a sa s) (st : WStep a (w.alloc (.cells c T)) sa w1 sa1) (j : Nat) : w1.cell? ⟨w.heap.size, j, none⟩ = c[j]? := by
  have h1 := h.lt
  have h2 := h.slt
  rw [st.chg.cell (p := ⟨w.heap.size, j, none⟩) (by simp) (fun e => by
    rcases e with e | e
    · simp only at e; omega
    · have := h2 _ e; simp only at this; omega)]
  simp

theorem size_alloc (w : World) (o : Obj) : (w.alloc o).heap.size = w.heap.size + 1 := by simp
/-- A literal right behind one more block. -/
theorem lit_at {α : Type} {enc : α → Value} (w : World) (o : Obj) (T : Nat) (xs : List α) : SL enc ((w.alloc o).alloc (.cells (xs.map enc).toArray T)) (.slice (some ⟨w.heap.size + 1, 0, none⟩) xs.length xs.length) xs := by
  have h := SL.lit (enc := enc) (w.alloc o) T xs
  rwa [size_alloc] at h
theorem free_at {w : World} {o : Obj} {b : Nat} {sl : Value} {s : WS} (h : Wr (w.alloc o) b sl s) (n c : Nat) : ∀ k, (Value.slice (some ⟨w.heap.size + 1, 0, none⟩) n c).ownBlock = some k → ¬ Fp b sl k := by
  have h1 := h.free n c
  rwa [size_alloc] at h1

/-- What a call writes. -/
def WS.item (s : WS) (c : Item) : WS :=
  if c.kind = 1 then s.u1 c.n else if c.kind = 2 then s.u2 c.n else if c.kind = 3 then s.n8 c.n else if c.kind = 4 then s.put c.b else if c.kind = 5 then s.txt c.b else s
theorem WS.item_len (s : WS) (c : Item) : (s.item c).bs.length ≤ s.bs.length + (256 + c.b.length) := by
  have h1 := WS.u1_len s c.n
  have h2 := WS.u2_len s c.n
  have h3 := WS.n8_len s c.n
  have h4 := WS.put_len s c.b
  have h5 := WS.txt_len s c.b
  unfold WS.item
  repeat' split
  all_goals omega

def Put (W : World) (a x : Nat) (s' : WS) (e : Ending) (w' : World) : Prop :=
  ∃ sa' sx', e = .returned (.tuple #[]) ∧ WX W.heap.size w' a x sa' sx' s' s' ∧ Chg No W w'

set_option maxRecDepth 100000 in
set_option maxHeartbeats 1600000 in
theorem put_c (W w : World) (hc : Chg No W w) (a x : Nat) (sa sx : Value) (s : WS) (h : WX W.heap.size w a x sa sx s s) (c : Item) (v : Value) (hv : BW W v c.b) (hr : -9223372036854775808 ≤ c.n ∧ c.n ≤ 9223372036854775807) (hm : s.bs.length + 256 + c.b.length ≤ WMax) :
    Calls Try.prog 31 #[.pointer (some ⟨a, 0, none⟩), .pointer (some ⟨x, 0, none⟩), .agg #[.int .i64 c.kind, .int .i64 c.n, v]] w (Put W a x (s.item c)) := by
  obtain ⟨av, cap, rfl⟩ := hv.form
  obtain ⟨kind, n, b⟩ := c
  simp only at hv hr hm ⊢
  have hA := h.new ((Chg.refl _ _).alloc (.cells #[.int .i64 kind, .int .i64 n, .slice av b.length cap] 48))
  have hcA := hc.alloc (.cells #[.int .i64 kind, .int .i64 n, .slice av b.length cap] 48)
  by_cases k1 : kind = 1
  · subst k1
    have hs : s.item ⟨1, n, b⟩ = s.u1 n := by unfold WS.item; simp
    have HS := Lib.hid (And.intro hs (And.intro h (And.intro hA (And.intro hcA (And.intro hv (And.intro hr hm)))))); clear hs h hA hcA hv hr hm
    go_enter Try.func31, Try.ntmps31
    go_wp2_with fail
    refine (wU1 a _ _ s (HS.out.2.2.1.wa.new ((Chg.refl _ _).alloc _)) _ [n] (lit_at (enc := iv) w _ 3 [n]) (free_at HS.out.2.2.1.wa _ _) (by have := HS.out.2.2.2.2.2.2; simp only [List.length_cons, List.length_nil]; omega) (by simp)).mono ?_
    rintro e w1 ⟨sa1, rfl, h1, st1⟩
    replace st1 := (WStep.new ((Chg.refl _ _).alloc _)).trans st1
    have hB := HS.out.2.2.1.stepA h1 st1
    have hcB := chg_step HS.out.2.2.2.1 st1 HS.out.2.2.1.la
    have hbx : w1.cell? ⟨w.heap.size, 1, none⟩ = some (.int .i64 n) := box_cellw HS.out.2.1.wa st1 1
    replace hcB := Lib.hid hcB
    clear st1 h1
    go_wp2_with fail
    refine (xU1w x _ _ s hB.wx n (by have := HS.out.2.2.2.2.2.2; omega) HS.out.2.2.2.2.2.1.2).mono ?_
    rintro e w2 ⟨sx1, rfl, h2, st2⟩
    go_wp2
    go_end0
    exact ⟨sa1, sx1, rfl, by rw [HS.out.1]; exact hB.stepX h2 st2, chg_step hcB.out st2 hB.lx⟩
  by_cases k2 : kind = 2
  · subst k2
    have hs : s.item ⟨2, n, b⟩ = s.u2 n := by unfold WS.item; simp
    have HS := Lib.hid (And.intro hs (And.intro h (And.intro hA (And.intro hcA (And.intro hv (And.intro hr hm)))))); clear hs h hA hcA hv hr hm
    go_enter Try.func31, Try.ntmps31
    go_wp2_with fail
    refine (wU2 a _ _ s (HS.out.2.2.1.wa.new ((Chg.refl _ _).alloc _)) _ [n] (lit_at (enc := iv) w _ 3 [n]) (free_at HS.out.2.2.1.wa _ _) (by have := HS.out.2.2.2.2.2.2; simp only [List.length_cons, List.length_nil]; omega) (by simp)).mono ?_
    rintro e w1 ⟨sa1, rfl, h1, st1⟩
    replace st1 := (WStep.new ((Chg.refl _ _).alloc _)).trans st1
    have hB := HS.out.2.2.1.stepA h1 st1
    have hcB := chg_step HS.out.2.2.2.1 st1 HS.out.2.2.1.la
    have hbx : w1.cell? ⟨w.heap.size, 1, none⟩ = some (.int .i64 n) := box_cellw HS.out.2.1.wa st1 1
    replace hcB := Lib.hid hcB
    clear st1 h1
    go_wp2_with fail
    refine (xU2w x _ _ s hB.wx n (by have := HS.out.2.2.2.2.2.2; omega) HS.out.2.2.2.2.2.1.2).mono ?_
    rintro e w2 ⟨sx1, rfl, h2, st2⟩
    go_wp2
    go_end0
    exact ⟨sa1, sx1, rfl, by rw [HS.out.1]; exact hB.stepX h2 st2, chg_step hcB.out st2 hB.lx⟩
  by_cases k3 : kind = 3
  · subst k3
    have hs : s.item ⟨3, n, b⟩ = s.n8 n := by unfold WS.item; simp
    have HS := Lib.hid (And.intro hs (And.intro h (And.intro hA (And.intro hcA (And.intro hv (And.intro hr hm)))))); clear hs h hA hcA hv hr hm
    go_enter Try.func31, Try.ntmps31
    go_wp2_with fail
    refine (wN8 a _ _ s (HS.out.2.2.1.wa.new ((Chg.refl _ _).alloc _)) _ [n] (lit_at (enc := iv) w _ 2 [n]) (free_at HS.out.2.2.1.wa _ _) (by have := HS.out.2.2.2.2.2.2; simp only [List.length_cons, List.length_nil]; omega) (by simp) (fun m hm => by simp only [List.mem_singleton] at hm; rw [hm]; exact HS.out.2.2.2.2.2.1)).mono ?_
    rintro e w1 ⟨sa1, rfl, h1, st1⟩
    replace st1 := (WStep.new ((Chg.refl _ _).alloc _)).trans st1
    have hB := HS.out.2.2.1.stepA h1 st1
    have hcB := chg_step HS.out.2.2.2.1 st1 HS.out.2.2.1.la
    have hbx : w1.cell? ⟨w.heap.size, 1, none⟩ = some (.int .i64 n) := box_cellw HS.out.2.1.wa st1 1
    replace hcB := Lib.hid hcB
    clear st1 h1
    go_wp2_with fail
    refine (xN8w x _ _ s hB.wx n (by have := HS.out.2.2.2.2.2.2; omega) HS.out.2.2.2.2.2.1).mono ?_
    rintro e w2 ⟨sx1, rfl, h2, st2⟩
    go_wp2
    go_end0
    exact ⟨sa1, sx1, rfl, by rw [HS.out.1]; exact hB.stepX h2 st2, chg_step hcB.out st2 hB.lx⟩
  by_cases k4 : kind = 4
  · subst k4
    have hs : s.item ⟨4, n, b⟩ = s.put b := by unfold WS.item; simp
    have HS := Lib.hid (And.intro hs (And.intro h (And.intro hA (And.intro hcA (And.intro hv (And.intro hr hm)))))); clear hs h hA hcA hv hr hm
    go_enter Try.func31, Try.ntmps31
    go_wp2_with fail
    refine (wBytes a _ _ s HS.out.2.2.1.wa _ b (HS.out.2.2.2.2.1.new HS.out.2.2.2.1) (by have := HS.out.2.2.2.2.2.2; omega)).mono ?_
    rintro e w1 ⟨sa1, rfl, h1, st1⟩
    have hB := HS.out.2.2.1.stepA h1 st1
    have hcB := chg_step HS.out.2.2.2.1 st1 HS.out.2.2.1.la
    have hbx : w1.cell? ⟨w.heap.size, 2, none⟩ = some (.slice av b.length cap) := box_cellw HS.out.2.1.wa st1 2
    replace hcB := Lib.hid hcB
    clear st1 h1
    go_wp2_with fail
    refine (xBytesw x _ _ s hB.wx _ b (HS.out.2.2.2.2.1.new hcB.out) (by have := HS.out.2.2.2.2.2.2; omega)).mono ?_
    rintro e w2 ⟨sx1, rfl, h2, st2⟩
    go_wp2
    go_end0
    exact ⟨sa1, sx1, rfl, by rw [HS.out.1]; exact hB.stepX h2 st2, chg_step hcB.out st2 hB.lx⟩
  by_cases k5 : kind = 5
  · subst k5
    have hs : s.item ⟨5, n, b⟩ = s.txt b := by unfold WS.item; simp
    have hs1 := BW.str (P := Try.prog) (hv.new hcA) 22 9 5 Try.underlying22 Try.underlying5 Try.underlying9
    have HS := Lib.hid (And.intro hs (And.intro h (And.intro hA (And.intro hcA (And.intro hv (And.intro hr hm)))))); clear hs h hA hcA hv hr hm
    go_enter Try.func31, Try.ntmps31
    go_wp2_with fail
    refine (wText a _ _ s (HS.out.2.2.1.wa.new ((Chg.refl _ _).alloc _)) _ [b] (lit_at (enc := sv) w _ 9 [b]) (free_at HS.out.2.2.1.wa _ _) (by have := HS.out.2.2.2.2.2.2; simp only [List.length_cons, List.length_nil]; omega) (by simp)).mono ?_
    rintro e w1 ⟨sa1, rfl, h1, st1⟩
    replace st1 := (WStep.new ((Chg.refl _ _).alloc _)).trans st1
    have hB := HS.out.2.2.1.stepA h1 st1
    have hcB := chg_step HS.out.2.2.2.1 st1 HS.out.2.2.1.la
    have hbx : w1.cell? ⟨w.heap.size, 2, none⟩ = some (.slice av b.length cap) := box_cellw HS.out.2.1.wa st1 2
    have hs2 := BW.str (P := Try.prog) (HS.out.2.2.2.2.1.new hcB) 22 9 5 Try.underlying22 Try.underlying5 Try.underlying9
    replace hcB := Lib.hid hcB
    clear st1 h1 hs1
    go_wp2_with fail
    refine (xTextw x _ _ s hB.wx b (by have := HS.out.2.2.2.2.2.2; omega)).mono ?_
    rintro e w2 ⟨sx1, rfl, h2, st2⟩
    go_wp2
    go_end0
    exact ⟨sa1, sx1, rfl, by rw [HS.out.1]; exact hB.stepX h2 st2, chg_step hcB.out st2 hB.lx⟩
  have hs : s.item ⟨kind, n, b⟩ = s := by unfold WS.item; simp [k1, k2, k3, k4, k5]
  have HS := Lib.hid (And.intro hs (And.intro hA hcA)); clear hs h hA hcA hv hr hm
  have e1 : (kind == 1) = false := by simpa using k1
  have e2 : (kind == 2) = false := by simpa using k2
  have e3 : (kind == 3) = false := by simpa using k3
  have e4 : (kind == 4) = false := by simpa using k4
  have e5 : (kind == 5) = false := by simpa using k5
  go_enter Try.func31, Try.ntmps31
  go_wp2
  go_end0
  exact ⟨sa, sx, rfl, by rw [HS.out.1]; exact HS.out.2.1, HS.out.2.2⟩

theorem sum_take_succ (xs : List Item) (k : Nat) (hk : k < xs.length) : ((xs.take (k + 1)).map fun x => x.b.length).sum = ((xs.take k).map fun x => x.b.length).sum + xs[k].b.length := by
  rw [List.take_succ_eq_append_getElem hk, List.map_append, List.sum_append]; rfl
theorem sum_take_le (xs : List Item) (k : Nat) : ((xs.take k).map fun x => x.b.length).sum ≤ (xs.map fun x => x.b.length).sum := by
  have h : (xs.map fun x => x.b.length).sum = ((xs.take k).map fun x => x.b.length).sum + ((xs.drop k).map fun x => x.b.length).sum := by
    conv => lhs; rw [← List.take_append_drop k xs]
    rw [List.map_append, List.sum_append]
  omega

set_option maxRecDepth 100000 in
set_option maxHeartbeats 3200000 in
theorem writes_walk (W : World) (v0 : Value) (xs : List Item) (hx : IS W v0 xs) (hr : ∀ x ∈ xs, -9223372036854775808 ≤ x.n ∧ x.n ≤ 9223372036854775807) (hs : (xs.map fun x => x.b.length).sum ≤ 1048576) :
    Calls Try.prog 10 #[v0] W fun e w' => e = .returned (.bool true) ∧ Chg No W w' := by
  obtain ⟨a1, cap1, hv1, hcap1, -, -⟩ := id hx
  have HX := Lib.hid (And.intro hx (And.intro hr hs))
  clear hx hr hs
  subst hv1
  go_enter Try.func10, Try.ntmps10
  go_wp2_with fail
  refine (known_c W).mono ?_
  rintro e w1 ⟨rfl, hc1⟩
  go_wp2_with fail
  refine (newWriter w1).mono ?_
  rintro e w2 ⟨a, rfl, hA, hal, hc2⟩
  have z1 := hc1.size
  have z2 := hc2.size
  have hlt := hA.lt
  have hW : WX W.heap.size (w2.alloc (.cells #[.slice none 0 0, .int .i64 0] 61)) a w2.heap.size (.slice none 0 0) (.slice none 0 0) ⟨[], 0⟩ ⟨[], 0⟩ :=
    ⟨hA.new ((Chg.refl _ _).alloc _), ⟨heap_alloc_new _ _, OB.nil _, (fun h => by cases h)⟩, by omega, (fun e => by cases e), (fun e => by cases e), (fun k hk => by cases hk), fp_nil (by omega), fp_nil (by omega)⟩
  have hc3 := (hc1.then hc2).alloc (.cells #[.slice none 0 0, .int .i64 0] 61)
  have HZ := Lib.hid (And.intro hW hc3)
  clear hW hc3 hA hal hlt z1 z2 hc1 hc2
  go_wp2
  go_loopw [5] (fun i wr => ∃ (k : Nat) (sa sx : Value) (s : WS), k ≤ xs.length ∧ k ≤ 300 ∧ i = .int .i64 k ∧ WX W.heap.size wr a w2.heap.size sa sx s s ∧ s.bs.length ≤ 256 * k + ((xs.take k).map fun x => x.b.length).sum ∧ Chg No W wr) (fun i _ => 300 - (intOf i).toNat)
  case atStart => exact ⟨0, _, _, _, Nat.zero_le _, Nat.zero_le _, rfl, HZ.out.1, by simp, HZ.out.2⟩
  case round =>
    clear HZ
    obtain ⟨k, sa, sx, s, hk, hk3, rfl, hW, hsl, hc⟩ := hrel
    by_cases hlt : k < xs.length
    · by_cases hlt2 : k < 300
      · obtain ⟨b, o, cs, rfl, hcl, ⟨u, rfl, hu⟩, hbl, hcell⟩ := SLn.cells HX.out.1 k hlt
        have g0 := (hc.cell (p := ⟨b, o + (k * 3 + 0), none⟩) hbl (fun h => h)).trans (hcell 0 _ rfl)
        have g1 := (hc.cell (p := ⟨b, o + (k * 3 + 1), none⟩) hbl (fun h => h)).trans (hcell 1 _ rfl)
        have g2 := (hc.cell (p := ⟨b, o + (k * 3 + 2), none⟩) hbl (fun h => h)).trans (hcell 2 _ rfl)
        rw [Nat.add_zero] at g0
        rw [← Nat.add_assoc] at g1 g2
        obtain ⟨au, capu, hue⟩ := hu.form
        have hnr := HX.out.2.1 xs[k] (List.getElem_mem hlt)
        have hs1 := sum_take_succ xs k hlt
        have hs2 := sum_take_le xs (k + 1)
        have hs3 := HX.out.2.2
        have hil := WS.item_len s xs[k]
        have hmx : s.bs.length + 256 + xs[k].b.length ≤ WMax := by unfold WMax; omega
        have hsl2 : (s.item xs[k]).bs.length ≤ 256 * (k + 1) + ((xs.take (k + 1)).map fun x => x.b.length).sum := by omega
        have hdn : (s.item xs[k]).bs.length ≤ 225179981368000 := by omega
        subst hue
        have HP := Lib.hid (And.intro hW (And.intro hc (And.intro hu (And.intro hnr hmx))))
        have HQ := Lib.hid (And.intro hsl2 hdn)
        clear hcell hcl hs1 hs2 hs3 hil hmx hsl2 hdn hW hc hu hnr hsl
        go_wp2_with fail
        refine (put_c W _ HP.out.2.1 a _ sa sx s HP.out.1 xs[k] _ HP.out.2.2.1 HP.out.2.2.2.1 HP.out.2.2.2.2).mono ?_
        rintro e wa ⟨sa1, sx1, rfl, hWa, hca⟩
        obtain ⟨ax, capx, hsx, -⟩ := hWa.wx.own.bs
        subst hsx
        have cx0 := hWa.wx.c0
        have HR := Lib.hid (And.intro hWa hca)
        clear g0 g1 g2 HP hWa hca
        go_wp2
        go_quiet (first
          | (go_at_call 27; exact Calls.quiet_of_same (wLen a _ _ _ (HR.out.1.wa.drewN _))))
        clear cx0
        go_wp2_with fail
        refine (wDone a _ _ _ (HR.out.1.wa.drewN _) HQ.out.2).mono ?_
        rintro e wb ⟨v, rfl, hv, hvn, hcb⟩
        have hWb := (HR.out.1.new ((Chg.refl _ _).drewN _)).new hcb
        have hcB := (HR.out.2.drewN _).then hcb
        have cx0 := hWb.wx.c0
        have cx1 := hWb.wx.c1
        have hs2 := fun n => BS.str (P := Try.prog) (hWb.wx.own.bs.new ((Chg.refl _ _).drewN n)) 22 9 5 Try.underlying22 Try.underlying5 Try.underlying9
        have HS := Lib.hid (And.intro hWb hcB)
        clear hvn hcb hWb hcB HR
        by_cases he : (s.item xs[k]).err = 0
        · rw [if_pos he] at hv
          obtain ⟨av, capv, hvv, -⟩ := hv.bs
          have hs1 := fun n => BS.str (P := Try.prog) (hv.bs.new ((Chg.refl _ _).drewN n)) 22 9 5 Try.underlying22 Try.underlying5 Try.underlying9
          subst hvv
          rw [he] at cx1 ⊢
          clear hv
          replace he := Lib.hid he
          go_wp2
          go_quiet (fail)
          go_wp2
          go_roundw
          case rel => exact ⟨k + 1, sa1, _, _, by omega, by omega, by go_num, HS.out.1.new ((Chg.refl _ _).drewN _), HQ.out.1, HS.out.2.drewN _⟩
          case measure => simp [intOf]; omega
        · rw [if_neg he] at hv
          obtain ⟨av, capv, hvv, -⟩ := hv.bs
          have hs1 := fun n => BS.str (P := Try.prog) (hv.bs.new ((Chg.refl _ _).drewN n)) 22 9 5 Try.underlying22 Try.underlying5 Try.underlying9
          subst hvv
          have he1 : ((s.item xs[k]).err == 0) = false := by simpa using he
          have he2 : ((s.item xs[k]).err != 0) = true := by simpa using he
          clear hv
          replace he := Lib.hid he
          go_wp2
          go_quiet (fail)
          go_wp2
          go_roundw
          case rel => exact ⟨k + 1, sa1, _, _, by omega, by omega, by go_num, HS.out.1.new ((Chg.refl _ _).drewN _), HQ.out.1, HS.out.2.drewN _⟩
          case measure => simp [intOf]; omega
      · go_wp2
        go_ret
        exact ⟨ret_true (by simp), hc⟩
    · go_wp2
      go_ret
      exact ⟨ret_true (by simp), hc⟩

end Go.Proofs.Ytidjeehjojajmaa
