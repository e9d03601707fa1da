/-
  The reader's calls (package cursor): what each does to the reader and what it answers, for readers that hold at most 2^47 bytes.
-/
import Derived.Test.YtidjeehjojajmaaBase
namespace Go.Proofs.Ytidjeehjojajmaa
open Go.RowKit

/-- A reader's bytes, place and error. -/
structure RS where
  bs : List UInt8
  at_ : Nat
  err : Int

def RS.fail (s : RS) (e : Int) : RS := if s.err = 0 then { s with err := e } else s
theorem fail_yes {s : RS} (h : s.err = 0) (e : Int) : s.fail e = { s with err := e } := by unfold RS.fail; rw [if_pos h]
theorem fail_no {s : RS} (h : ¬ s.err = 0) (e : Int) : s.fail e = s := by unfold RS.fail; rw [if_neg h]
def RS.take (s : RS) (n : Int) : List UInt8 × RS :=
  if s.err ≠ 0 then ([], s) else if n < 0 then ([], { s with err := 1 }) else if (s.bs.length : Int) - s.at_ < n then ([], { s with err := 11 })
  else ((s.bs.drop s.at_).take n.toNat, { s with at_ := s.at_ + n.toNat })

/-- Block r is a reader (of type T) in that state, its bytes in the slice sl. -/
structure Rd (T : Nat) (w : World) (r : Nat) (sl : Value) (s : RS) : Prop where
  cells : w.heap[r]? = some (.cells #[sl, .int .i64 s.at_, .int .i64 s.err] T (0, 0))
  bytes : BS w sl s.bs
  apart : sl.ownBlock ≠ some r
  within : s.at_ ≤ s.bs.length
  small : s.bs.length ≤ 140737488351232

section
variable {T : Nat} {w w' : World} {r : Nat} {sl : Value} {s : RS}
theorem Rd.c0 (h : Rd T w r sl s) : w.cell? ⟨r, 0, none⟩ = some sl := by simp [World.cell?, h.cells]
theorem Rd.c1 (h : Rd T w r sl s) : w.cell? ⟨r, 1, none⟩ = some (.int .i64 s.at_) := by simp [World.cell?, h.cells]
theorem Rd.c2 (h : Rd T w r sl s) : w.cell? ⟨r, 2, none⟩ = some (.int .i64 s.err) := by simp [World.cell?, h.cells]
theorem Rd.fz (h : Rd T w r sl s) (o : Nat) : w.frozen? ⟨r, o, none⟩ = false := by simp [World.frozen?, h.cells]
theorem Rd.lt (h : Rd T w r sl s) : r < w.heap.size := heap_lt h.cells
theorem Rd.chg {S : Nat → Prop} (h : Rd T w r sl s) (c : Chg S w w') (hr : ¬ S r) (hs : ∀ k, sl.ownBlock = some k → ¬ S k) : Rd T w' r sl s :=
  ⟨(c.block r h.lt hr).trans h.cells, h.bytes.chg c hs, h.apart, h.within, h.small⟩
theorem Rd.new (h : Rd T w r sl s) (c : Chg No w w') : Rd T w' r sl s := h.chg c (fun h => h) (fun _ _ h => h)
theorem Rd.drewN (h : Rd T w r sl s) (n : Nat) : Rd T (w.drewN n) r sl s := h.new ((Chg.refl _ _).drewN n)
theorem Rd.drew (h : Rd T w r sl s) : Rd T w.drew r sl s := h.new (Chg.refl _ _).drew
theorem heap_setCell_same {w : World} {r o : Nat} {c : Array Value} {T : Nat} (h : w.heap[r]? = some (.cells c T (0, 0))) (v : Value) :
    (w.setCell ⟨r, o, none⟩ v).heap[r]? = some (.cells (c.setIfInBounds o v) T (0, 0)) := by
  simp only [World.setCell, Array.getElem?_modify, if_true, h, Option.map_some]; rfl
theorem chg_setCell (w : World) (r o : Nat) (v : Value) : Chg (· = r) w (w.setCell ⟨r, o, none⟩ v) := Chg.setCell (S := (· = r)) (p := ⟨r, o, none⟩) (Chg.refl _ _) (fun _ => rfl) _
/-- The reader with another place, another error. -/
theorem Rd.set1 (h : Rd T w r sl s) (n : Nat) (hn : n ≤ s.bs.length) : Rd T (w.setCell ⟨r, 1, none⟩ (.int .i64 n)) r sl { s with at_ := n } := by
  have hc : Chg (· = r) w (w.setCell ⟨r, 1, none⟩ (.int .i64 n)) := chg_setCell w r 1 _
  exact ⟨by rw [heap_setCell_same h.cells]; rfl, h.bytes.chg hc (fun k hk e => h.apart (by rw [hk, e])), h.apart, hn, h.small⟩
theorem Rd.set2 (h : Rd T w r sl s) (n : Int) : Rd T (w.setCell ⟨r, 2, none⟩ (.int .i64 n)) r sl { s with err := n } := by
  have hc : Chg (· = r) w (w.setCell ⟨r, 2, none⟩ (.int .i64 n)) := chg_setCell w r 2 _
  exact ⟨by rw [heap_setCell_same h.cells]; rfl, h.bytes.chg hc (fun k hk e => h.apart (by rw [hk, e])), h.apart, h.within, h.small⟩
end

/-- What a call that reads leaves: bytes l in a slice, the reader in state s'. -/
def Takes (T : Nat) (w : World) (r : Nat) (sl : Value) (l : List UInt8) (s' : RS) (e : Ending) (w' : World) : Prop :=
  ∃ v, e = .returned v ∧ BS w' v l ∧ (∀ k, v.ownBlock = some k → sl.ownBlock = some k) ∧ Rd T w' r sl s' ∧ Chg (· = r) w w'
def Tells (T : Nat) (w : World) (r : Nat) (sl : Value) (v : Value) (s' : RS) (e : Ending) (w' : World) : Prop :=
  e = .returned v ∧ Rd T w' r sl s' ∧ Chg (· = r) w w'

set_option maxHeartbeats 400000 in
theorem fail_any (T r : Nat) (w : World) (sl : Value) (s : RS) (h : Rd T w r sl s) (e : Int) :
    Calls Try.prog 43 #[.pointer (some ⟨r, 0, none⟩), .int .i64 e] w (Tells T w r sl (.tuple #[]) (s.fail e)) := by
  have h2 := h.c2
  have hf := h.fz 2
  by_cases h0 : s.err = 0
  · have hb : (s.err == 0) = true := by simp [h0]
    have H0 := Lib.hid h0; clear h0
    go_enter Try.func43, Try.ntmps43
    go_wp2
    go_end0
    exact ⟨rfl, by rw [fail_yes H0.out]; exact h.set2 e, chg_setCell _ _ _ _⟩
  · have hb : (s.err == 0) = false := by simp [h0]
    have H0 := Lib.hid h0; clear h0
    go_enter Try.func43, Try.ntmps43
    go_wp2
    go_end0
    exact ⟨rfl, by rw [fail_no H0.out]; exact h, Chg.refl _ _⟩

theorem take_err {s : RS} (n : Int) (h : ¬ s.err = 0) : s.take n = ([], s) := by unfold RS.take; rw [if_pos h]
theorem take_neg {s : RS} {n : Int} (h : s.err = 0) (hn : n < 0) : s.take n = ([], { s with err := 1 }) := by unfold RS.take; rw [if_neg (by omega), if_pos hn]
theorem take_cut {s : RS} {n : Int} (h : s.err = 0) (hn : ¬ n < 0) (hl : (s.bs.length : Int) - s.at_ < n) : s.take n = ([], { s with err := 11 }) := by unfold RS.take; rw [if_neg (by omega), if_neg hn, if_pos hl]
theorem take_ok {s : RS} {n : Int} (h : s.err = 0) (hn : ¬ n < 0) (hl : ¬ (s.bs.length : Int) - s.at_ < n) : s.take n = ((s.bs.drop s.at_).take n.toNat, { s with at_ := s.at_ + n.toNat }) := by
  unfold RS.take; rw [if_neg (by omega), if_neg hn, if_neg hl]

theorem set_drewN (w : World) (r a b : Nat) (v : Value) : Chg (· = r) w (((w.drewN a).setCell ⟨r, 1, none⟩ v).drewN b) :=
  (Chg.trans (S := (· = r)) (S' := (· = r)) ((Chg.refl _ w).drewN a) (chg_setCell _ r 1 _) (fun _ _ h => h)).drewN b
theorem take_done {T : Nat} {w : World} {r : Nat} {sl : Value} {s : RS} (h : Rd T w r sl s) (h0 : s.err = 0) {n : Int} (hn : 0 ≤ n) (hl : (s.at_ : Int) + n ≤ s.bs.length) {bb oo cap : Nat}
    (hsl : sl = .slice (some ⟨bb, oo, none⟩) s.bs.length cap) (hat : At w ⟨bb, oo, none⟩ (s.bs.map bv)) (hb : bb < w.heap.size) (o' m c' : Nat) (hm : m = n.toNat) (hc : m ≤ c') (ho : o' = oo + s.at_ ∨ m = 0) (a b : Nat) :
    Takes T w r sl (s.take n).1 (s.take n).2 (.returned (.slice (some ⟨bb, o', none⟩) m c')) (((w.drewN a).setCell ⟨r, 1, none⟩ (.int .i64 ((s.at_ : Int) + n))).drewN b) := by
  rw [take_ok h0 (by omega) (by omega)]
  have he : (.int .i64 ((s.at_ : Int) + n) : Value) = .int .i64 ((s.at_ + n.toNat : Nat) : Int) := by congr 1; omega
  have hR := ((h.drewN a).set1 (s.at_ + n.toNat) (by omega)).drewN b
  have hc1 := set_drewN w r a b (.int .i64 ((s.at_ + n.toNat : Nat) : Int))
  rw [he]
  subst hm
  show Takes T w r sl ((s.bs.drop s.at_).take n.toNat) { s with at_ := s.at_ + n.toNat } _ _
  have hlen : ((s.bs.drop s.at_).take n.toNat).length = n.toNat := by rw [List.length_take, List.length_drop]; omega
  have hne : bb ≠ r := fun e => h.apart (by rw [hsl, e]; rfl)
  refine ⟨_, rfl, ⟨_, c', by rw [hlen], by omega, (fun h => by cases h), fun p hp => ?_⟩, ?_, hR, hc1⟩
  · cases hp
    refine ⟨rfl, Nat.lt_of_lt_of_le hb hc1.size, ?_⟩
    rcases ho with rfl | ho
    · rw [List.map_take, List.map_drop]
      exact ((hat.drop s.at_).take n.toNat).chg hc1 hne hb
    · rw [ho, List.take_zero]; exact At.nil _ _
  · intro k hk; rw [hsl]; exact hk
theorem take_nil {T : Nat} {w : World} {r : Nat} {sl : Value} {s : RS} (h : Rd T w r sl s) (h0 : s.err = 0) (hb : s.bs.length = 0) (a b : Nat) :
    Takes T w r sl (s.take 0).1 (s.take 0).2 (.returned (.slice none 0 0)) (((w.drewN a).setCell ⟨r, 1, none⟩ (.int .i64 0)).drewN b) := by
  have hw := h.within
  rw [take_ok h0 (by omega) (by omega)]
  have hR := ((h.drewN a).set1 (s.at_ + (0 : Int).toNat) (by simp; omega)).drewN b
  have ha : s.at_ + (0 : Int).toNat = 0 := by simp; omega
  rw [ha] at hR ⊢
  exact ⟨_, rfl, by simpa using SL.nil _, (fun k hk => by cases hk), hR, set_drewN w r a b _⟩

set_option maxHeartbeats 400000 in
theorem take_c (T r : Nat) (w : World) (sl : Value) (s : RS) (h : Rd T w r sl s) (n : Int) :
    Calls Try.prog 35 #[.pointer (some ⟨r, 0, none⟩), .int .i64 n] w (Takes T w r sl (s.take n).1 (s.take n).2) := by
  have c0 := h.c0
  have c1 := h.c1
  have c2 := h.c2
  have hf := h.fz 1
  by_cases h0 : s.err = 0
  · have hb : (s.err == 0) = true := by simp [h0]
    have H0 := Lib.hid h0; clear h0
    by_cases hn : n < 0
    · go_enter Try.func35, Try.ntmps35
      go_wp2_with (go_at_call 43; refine (fail_any T r _ sl s h _).mono ?_; rintro e w' ⟨rfl, hr, hc⟩)
      go_ret
      rw [take_neg H0.out hn]; rw [fail_yes H0.out] at hr
      exact ⟨.slice none 0 0, rfl, SL.nil _, (fun k hk => by cases hk), hr, hc⟩
    · by_cases hl : (s.bs.length : Int) - s.at_ < n
      · obtain ⟨a, cap, hsl, hcap, hnil, hcells⟩ := h.bytes
        rw [hsl] at c0
        have hd : decide ((s.bs.length : Int) - s.at_ < n) = true := by simpa using hl
        have hs := h.small
        have hw := h.within
        go_enter Try.func35, Try.ntmps35
        go_wp2
        go_quiet (fail)
        go_wp2_with (go_at_call 43; refine (fail_any T r _ sl s (h.drewN _) _).mono ?_; rintro e w' ⟨rfl, hr, hc⟩)
        go_ret
        rw [take_cut H0.out (by omega) (by omega)]; rw [fail_yes H0.out] at hr
        exact ⟨.slice none 0 0, rfl, SL.nil _, (fun k hk => by cases hk), hr, ((Chg.refl _ _).drewN _).trans hc (fun _ _ h => h)⟩
      · obtain ⟨a, cap, hsl, hcap, hnil, hcells⟩ := h.bytes
        rw [hsl] at c0
        have hd : decide ((s.bs.length : Int) - s.at_ < n) = false := by simpa using hl
        have hs := h.small
        have hw := h.within
        cases a with
        | none =>
          obtain rfl := hnil rfl
          have hb0 : s.bs.length = 0 := by omega
          have ha0 : s.at_ = 0 := by omega
          obtain rfl : n = 0 := by omega
          have hset := fun a b => take_nil h H0.out hb0 a b
          have HT := Lib.hid hset; clear hset
          rw [hb0] at c0 hd
          rw [ha0] at c1 hd
          have HX := Lib.hid (And.intro hb0 ha0); clear hb0 ha0 hl hs hw hcap
          go_enter Try.func35, Try.ntmps35
          go_wp2
          go_quiet (fail)
          go_wp2
          go_quiet (fail)
          go_wp2
          go_ret
          exact HT.out _ _
        | some p =>
          obtain ⟨hsp, hblt, hat⟩ := hcells p rfl
          obtain ⟨bb, oo, sp⟩ := p
          cases hsp
          have hn0 : 0 ≤ n := by omega
          have hl2 : (s.at_ : Int) + n ≤ s.bs.length := by omega
          have hset := fun o' m c' hm hc ho a b => take_done h H0.out hn0 hl2 hsl hat hblt o' m c' hm hc ho a b
          have HT := Lib.hid hset; clear hset hat
          have HSL := Lib.hid hsl; clear hsl hcells
          go_enter Try.func35, Try.ntmps35
          go_wp2
          go_quiet (fail)
          go_wp2
          go_quiet (fail)
          go_wp2
          all_goals
            go_ret
            exact HT.out _ _ _ (by omega) (by omega) (by omega) _ _
  · have hb : (s.err == 0) = false := by simp [h0]
    have H0 := Lib.hid h0; clear h0
    go_enter Try.func35, Try.ntmps35
    go_wp2
    go_ret
    rw [take_err n H0.out]
    exact ⟨.slice none 0 0, rfl, SL.nil _, (fun k hk => by cases hk), h, Chg.refl _ _⟩

end Go.Proofs.Ytidjeehjojajmaa
