/-
  One call of both readers ('asked'): where both stand alike they answer alike, and stand alike behind it.
-/
import Derived.Test.YtidjeehjojajmaaLStays
namespace Go.Proofs.Ytidjeehjojajmaa
open Go.RowKit

/-- A reader's state behind a call. -/
def RS.ask (s : RS) (c : Item) : RS :=
  if c.kind = 1 then (s.take 1).2 else if c.kind = 2 then (s.take 2).2 else if c.kind = 3 then (s.take 8).2 else if c.kind = 4 then (s.take c.n).2 else if c.kind = 5 then s.text.2 else s

/-- Both readers in one state. -/
structure Both (w : World) (r x : Nat) (sl sx : Value) (s : RS) : Prop where
  rd : Rd 69 w r sl s
  xd : Rd 45 w x sx s
  ne : r ≠ x
  a : sl.ownBlock ≠ some x
  b : sx.ownBlock ≠ some r
theorem box_cell {w w1 : World} {r : Nat} {c : Array Value} {T : Nat} (hr : r < w.heap.size) (c1 : Chg (· = r) (w.alloc (.cells c T)).drew w1) (j : Nat) : w1.cell? ⟨w.heap.size, j, none⟩ = c[j]? := by
  rw [c1.cell (p := ⟨w.heap.size, j, none⟩) (by simp) (fun e => by simp only at e; omega)]
  simp
theorem Both.drew {w : World} {r x : Nat} {sl sx : Value} {s : RS} (h : Both w r x sl sx s) : Both w.drew r x sl sx s := ⟨h.rd.drew, h.xd.drew, h.ne, h.a, h.b⟩
theorem chg2 {w w1 w2 : World} {r x : Nat} {o : Obj} (c1 : Chg (· = r) (w.alloc o) w1) (c2 : Chg (· = x) w1 w2) : Chg (fun k => k = r ∨ k = x) w w2 :=
  ((Chg.refl (fun k => k = r ∨ k = x) w).alloc o).trans ((c1.mono (S' := fun k => k = r ∨ k = x) (fun _ _ h => .inl h)).trans c2 (fun _ _ h => .inr h)) (fun _ _ h => h)
theorem chg2' {w w1 w2 : World} {r x : Nat} {o : Obj} (c1 : Chg (· = r) (w.alloc o).drew w1) (c2 : Chg (· = x) w1 w2) : Chg (fun k => k = r ∨ k = x) w w2 :=
  ((Chg.refl (fun k => k = r ∨ k = x) w).alloc o).drew.trans ((c1.mono (S' := fun k => k = r ∨ k = x) (fun _ _ h => .inl h)).trans c2 (fun _ _ h => .inr h)) (fun _ _ h => h)
theorem Both.new {w w' : World} {r x : Nat} {sl sx : Value} {s : RS} (h : Both w r x sl sx s) (c : Chg No w w') : Both w' r x sl sx s := ⟨h.rd.new c, h.xd.new c, h.ne, h.a, h.b⟩
theorem Both.mk1 {w w1 w2 : World} {r x : Nat} {sl sx : Value} {s s' : RS} (h : Both w r x sl sx s) (h1 : Rd 69 w1 r sl s') (h2 : Rd 45 w2 x sx s') (c2 : Chg (· = x) w1 w2) : Both w2 r x sl sx s' :=
  ⟨h1.chg c2 (fun e => h.ne e) (fun k hk e => h.a (by rw [hk, e])), h2, h.ne, h.a, h.b⟩
theorem Both.over {w w1 : World} {r x : Nat} {sl sx : Value} {s : RS} (h : Both w r x sl sx s) (c : Chg (· = r) w w1) : Rd 45 w1 x sx s :=
  h.xd.chg c (fun e => h.ne e.symm) (fun k hk e => h.b (by rw [hk, e]))

def Asked (w : World) (r x : Nat) (sl sx : Value) (s' : RS) (e : Ending) (w' : World) : Prop :=
  e = .returned (.bool true) ∧ Both w' r x sl sx s' ∧ Chg (fun k => k = r ∨ k = x) w w'

set_option maxRecDepth 100000 in
set_option maxHeartbeats 1600000 in
/-- The last test, behind the switch. -/
theorem asked_c (w : World) (r x : Nat) (sl sx : Value) (s : RS) (h : Both w r x sl sx s) (c : Item) (v : Value) (hv : ∃ a cap, v = .slice a c.b.length cap) :
    Calls Try.prog 24 #[.pointer (some ⟨r, 0, none⟩), .pointer (some ⟨x, 0, none⟩), .agg #[.int .i64 c.kind, .int .i64 c.n, v]] w (Asked w r x sl sx (s.ask c)) := by
  obtain ⟨a, cap, rfl⟩ := hv
  obtain ⟨kind, n, b⟩ := c
  have hA := h.new ((Chg.refl _ _).alloc (.cells #[.int .i64 kind, .int .i64 n, .slice a b.length cap] 48))
  by_cases k1 : kind = 1
  · subst k1
    have hs : s.ask ⟨1, n, b⟩ = (s.take 1).2 := by unfold RS.ask; simp
    have HS := Lib.hid hs; clear hs
    go_enter Try.func24, Try.ntmps24
    go_wp2_with fail
    refine (rU1 _ r _ sl s hA.rd).mono ?_
    rintro e w1 ⟨rfl, h1, c1⟩
    go_wp2_with fail
    refine (xU1 _ x _ sx s (hA.over c1)).mono ?_
    rintro e w2 ⟨rfl, h2, c2⟩
    have hB := hA.mk1 h1 h2 c2
    have HC := Lib.hid (chg2 c1 c2); clear c1 c2
    have q1 := hB.xd.c1
    have q2 := hB.xd.c2
    go_wp2
    go_quiet (first
      | (go_at_call 17; exact Calls.quiet_of_same (rAt _ r _ sl _ (hB.rd.drewN _)))
      | (go_at_call 18; exact Calls.quiet_of_same (rErr _ r _ sl _ (hB.rd.drewN _)))
      | (go_at_call 19; exact Calls.quiet_of (rLeft _ r _ sl _ (hB.rd.drewN _)))
      | (go_at_call 42; exact Calls.quiet_of (xLeft _ x _ sx _ (hB.xd.drewN _))))
    go_wp2
    go_ret
    rw [HS.out]
    exact ⟨ret_true (by simp), hB.new ((Chg.refl _ _).drewN _), HC.out.drewN _⟩
  by_cases k2 : kind = 2
  · subst k2
    have hs : s.ask ⟨2, n, b⟩ = (s.take 2).2 := by unfold RS.ask; simp
    have HS := Lib.hid hs; clear hs
    go_enter Try.func24, Try.ntmps24
    go_wp2_with fail
    refine (rU2 _ r _ sl s hA.rd).mono ?_
    rintro e w1 ⟨rfl, h1, c1⟩
    go_wp2_with fail
    refine (xU2 _ x _ sx s (hA.over c1)).mono ?_
    rintro e w2 ⟨rfl, h2, c2⟩
    have hB := hA.mk1 h1 h2 c2
    have HC := Lib.hid (chg2 c1 c2); clear c1 c2
    have q1 := hB.xd.c1
    have q2 := hB.xd.c2
    go_wp2
    go_quiet (first
      | (go_at_call 17; exact Calls.quiet_of_same (rAt _ r _ sl _ (hB.rd.drewN _)))
      | (go_at_call 18; exact Calls.quiet_of_same (rErr _ r _ sl _ (hB.rd.drewN _)))
      | (go_at_call 19; exact Calls.quiet_of (rLeft _ r _ sl _ (hB.rd.drewN _)))
      | (go_at_call 42; exact Calls.quiet_of (xLeft _ x _ sx _ (hB.xd.drewN _))))
    go_wp2
    go_ret
    rw [HS.out]
    exact ⟨ret_true (by simp), hB.new ((Chg.refl _ _).drewN _), HC.out.drewN _⟩
  by_cases k3 : kind = 3
  · subst k3
    have hs : s.ask ⟨3, n, b⟩ = (s.take 8).2 := by unfold RS.ask; simp
    have HS := Lib.hid hs; clear hs
    go_enter Try.func24, Try.ntmps24
    go_wp2_with fail
    refine (rN8 _ r _ sl s hA.rd).mono ?_
    rintro e w1 ⟨rfl, h1, c1⟩
    go_wp2_with fail
    refine (xN8 _ x _ sx s (hA.over c1)).mono ?_
    rintro e w2 ⟨rfl, h2, c2⟩
    have hB := hA.mk1 h1 h2 c2
    have HC := Lib.hid (chg2 c1 c2); clear c1 c2
    have q1 := hB.xd.c1
    have q2 := hB.xd.c2
    go_wp2
    go_quiet (first
      | (go_at_call 17; exact Calls.quiet_of_same (rAt _ r _ sl _ (hB.rd.drewN _)))
      | (go_at_call 18; exact Calls.quiet_of_same (rErr _ r _ sl _ (hB.rd.drewN _)))
      | (go_at_call 19; exact Calls.quiet_of (rLeft _ r _ sl _ (hB.rd.drewN _)))
      | (go_at_call 42; exact Calls.quiet_of (xLeft _ x _ sx _ (hB.xd.drewN _))))
    go_wp2
    go_ret
    rw [HS.out]
    exact ⟨ret_true (by simp), hB.new ((Chg.refl _ _).drewN _), HC.out.drewN _⟩
  by_cases k4 : kind = 4
  · subst k4
    have hrl : r < w.heap.size := h.rd.lt
    have hs : s.ask ⟨4, n, b⟩ = (s.take n).2 := by unfold RS.ask; simp
    have HS := Lib.hid hs; clear hs
    go_enter Try.func24, Try.ntmps24
    go_wp2
    go_region_with (first
      | (go_at_call 20; refine (rBytes _ r _ sl s hA.rd.drew _).mono ?_; rintro e w1 ⟨v1, rfl, g1, f1, h1, c1⟩; have hbx := box_cell hrl c1 1; have hs1 := BS.str (P := Try.prog) g1.bs 22 9 5 Try.underlying22 Try.underlying5 Try.underlying9)
      | (go_at_call 40; refine (xBytes _ x _ sx s (hA.drew.over c1) _).mono ?_; rintro e w2 ⟨v2, rfl, g2, f2, h2, c2⟩; have hs1' := BS.str (P := Try.prog) (g1.chg c2 (fun k hk e => by have h8 := f1 k hk; have h9 := hA.xd.lt; simp at h8 h9; omega)).bs 22 9 5 Try.underlying22 Try.underlying5 Try.underlying9; have hs2 := BS.str (P := Try.prog) g2.bs 22 9 5 Try.underlying22 Try.underlying5 Try.underlying9))
    all_goals
      have hB := hA.drew.mk1 h1 h2 c2
      have HC := Lib.hid (chg2' c1 c2); clear c1 c2
      have q1 := hB.xd.c1
      have q2 := hB.xd.c2
      go_wp2
      go_quiet (first
        | (go_at_call 17; exact Calls.quiet_of_same (rAt _ r _ sl _ (hB.rd.drewN _)))
        | (go_at_call 18; exact Calls.quiet_of_same (rErr _ r _ sl _ (hB.rd.drewN _)))
        | (go_at_call 19; exact Calls.quiet_of (rLeft _ r _ sl _ (hB.rd.drewN _)))
        | (go_at_call 42; exact Calls.quiet_of (xLeft _ x _ sx _ (hB.xd.drewN _))))
      go_wp2
      go_ret
      rw [HS.out]
      exact ⟨ret_true (by simp), hB.new ((Chg.refl _ _).drewN _), HC.out.drewN _⟩
  by_cases k5 : kind = 5
  · subst k5
    have hs : s.ask ⟨5, n, b⟩ = s.text.2 := by unfold RS.ask; simp
    have HS := Lib.hid hs; clear hs
    go_enter Try.func24, Try.ntmps24
    go_wp2_with fail
    refine (rText _ r _ sl s hA.rd).mono ?_
    rintro e w1 ⟨rfl, h1, c1⟩
    go_wp2_with fail
    refine (xText _ x _ sx s (hA.over c1)).mono ?_
    rintro e w2 ⟨rfl, h2, c2⟩
    have hB := hA.mk1 h1 h2 c2
    have HC := Lib.hid (chg2 c1 c2); clear c1 c2
    have q1 := hB.xd.c1
    have q2 := hB.xd.c2
    go_wp2
    go_quiet (first
      | (go_at_call 17; exact Calls.quiet_of_same (rAt _ r _ sl _ (hB.rd.drewN _)))
      | (go_at_call 18; exact Calls.quiet_of_same (rErr _ r _ sl _ (hB.rd.drewN _)))
      | (go_at_call 19; exact Calls.quiet_of (rLeft _ r _ sl _ (hB.rd.drewN _)))
      | (go_at_call 42; exact Calls.quiet_of (xLeft _ x _ sx _ (hB.xd.drewN _))))
    go_wp2
    go_ret
    rw [HS.out]
    exact ⟨ret_true (by simp), hB.new ((Chg.refl _ _).drewN _), HC.out.drewN _⟩
  have hs : s.ask ⟨kind, n, b⟩ = s := by unfold RS.ask; simp [k1, k2, k3, k4, k5]
  have HS := Lib.hid hs; clear hs
  have e1 : (kind == 1) = false := by simpa using k1
  have e2 : (kind == 2) = false := by simpa using k2
  have e3 : (kind == 3) = false := by simpa using k3
  have e4 : (kind == 4) = false := by simpa using k4
  have e5 : (kind == 5) = false := by simpa using k5
  have hB := hA
  go_enter Try.func24, Try.ntmps24
  have q1 := hB.xd.c1
  have q2 := hB.xd.c2
  go_wp2
  go_quiet (first
    | (go_at_call 17; exact Calls.quiet_of_same (rAt _ r _ sl _ (hB.rd.drewN _)))
    | (go_at_call 18; exact Calls.quiet_of_same (rErr _ r _ sl _ (hB.rd.drewN _)))
    | (go_at_call 19; exact Calls.quiet_of (rLeft _ r _ sl _ (hB.rd.drewN _)))
    | (go_at_call 42; exact Calls.quiet_of (xLeft _ x _ sx _ (hB.xd.drewN _))))
  go_wp2
  go_ret
  rw [HS.out]
  exact ⟨ret_true (by simp), hB.new ((Chg.refl _ _).drewN _), (Chg.refl _ w).alloc _ |>.drewN _⟩

end Go.Proofs.Ytidjeehjojajmaa
