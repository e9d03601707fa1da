/-
  More of the reader: Bytes, NewReader; and the reference's reader, whose calls do the same.
-/
import Derived.Test.YtidjeehjojajmaaRdr2
namespace Go.Proofs.Ytidjeehjojajmaa
open Go.RowKit

/-- What Bytes answers: new memory. -/
def Gives (T : Nat) (w : World) (r : Nat) (sl : Value) (l : List UInt8) (s' : RS) (e : Ending) (w' : World) : Prop :=
  ∃ v, e = .returned v ∧ OB w' v l ∧ (∀ k, v.ownBlock = some k → w.heap.size ≤ k) ∧ Rd T w' r sl s' ∧ Chg (· = r) w w'

set_option maxHeartbeats 400000 in
theorem rBytes (T r : Nat) (w : World) (sl : Value) (s : RS) (h : Rd T w r sl s) (n : Int) :
    Calls Try.prog 20 #[.pointer (some ⟨r, 0, none⟩), .int .i64 n] w (Gives T w r sl (s.take n).1 (s.take n).2) := by
  have hlen : (s.take n).1.length ≤ 140737488351232 := by
    have h1 := h.small
    unfold RS.take
    split
    · simp
    · split
      · simp
      · split
        · simp
        · simp; omega
  go_enter Try.func20, Try.ntmps20
  go_wp2_with (first
    | (go_at_call 35; refine (take_c T r _ sl s h _).mono ?_; rintro e w' ⟨v, rfl, hv, ho, hr, hc⟩)
    | (go_at_call 33; refine (clone_c _ _ _ hv (by omega)).mono ?_; rintro e w2 ⟨v2, rfl, hv2, hn2, hc2⟩))
  go_ret
  exact ⟨v2, rfl, hv2, (fun k hk => Nat.le_trans hc.size (hn2 k hk)), hr.new hc2, hc.then hc2⟩

set_option maxHeartbeats 400000 in
theorem newReader (w : World) (v : Value) (bs : List UInt8) (h : BS w v bs) (hs : bs.length ≤ 140737488351232) :
    Calls Try.prog 13 #[v] w fun e w' => ∃ r sl, e = .returned (.pointer (some ⟨r, 0, none⟩)) ∧ Rd 69 w' r sl ⟨bs, 0, 0⟩ ∧ w.heap.size ≤ r ∧ (∀ k, sl.ownBlock = some k → w.heap.size ≤ k ∧ k ≠ r) ∧ Chg No w w' := by
  go_enter Try.func13, Try.ntmps13
  go_wp2_with (go_at_call 33; refine (clone_c _ _ _ h (by omega)).mono ?_; rintro e w2 ⟨v2, rfl, hv2, hn2, hc2⟩; rcases hv2.form with ⟨hv, _⟩ | ⟨g, cap, cur, hv, _⟩ <;> rw [hv])
  all_goals
    go_ret
    refine ⟨w2.heap.size, v2, rfl, ⟨by rw [hv]; exact heap_alloc_new _ _, hv2.bs.new ((Chg.refl _ _).alloc _), (fun hk => ?_), Nat.zero_le _, hs⟩, hc2.size, (fun k hk => ?_), hc2.alloc _⟩
    · have := hv2.bs.lt _ hk; omega
    · have h1 := hv2.bs.lt _ hk
      have h2 := hn2 k hk
      exact ⟨h2, by omega⟩

set_option maxHeartbeats 400000 in
theorem xtake (T r : Nat) (w : World) (sl : Value) (s : RS) (h : Rd T w r sl s) (n : Int) :
    Calls Try.prog 50 #[.pointer (some ⟨r, 0, none⟩), .int .i64 n] w (Takes T w r sl (s.take n).1 (s.take n).2) := by
  have c0 := h.c0
  have c1 := h.c1
  have c2 := h.c2
  have hf := h.fz 1
  have hf2 := h.fz 2
  by_cases h0 : s.err = 0
  · have hb : (s.err == 0) = true := by simp [h0]
    have hb' : (s.err != 0) = false := by simp [h0]
    have H0 := Lib.hid h0; clear h0
    by_cases hn : n < 0
    · have hd : decide (n < 0) = true := by simpa using hn
      have htk := take_neg H0.out hn
      have hr := fun a => (h.set2 1).drewN a
      have HT := Lib.hid (And.intro htk hr); clear htk hr
      go_enter Try.func50, Try.ntmps50
      go_wp2
      go_quiet (fail)
      go_wp2
      go_ret
      rw [HT.out.1]
      exact ⟨.slice none 0 0, rfl, SL.nil _, (fun k hk => by cases hk), HT.out.2 _, (chg_setCell _ _ _ _).drewN _⟩
    · have hd0 : decide (n < 0) = false := by simpa using hn
      obtain ⟨a, cap, hsl, hcap, hnil, hcells⟩ := h.bytes
      rw [hsl] at c0
      have hs := h.small
      have hw := h.within
      by_cases hl : (s.bs.length : Int) - s.at_ < n
      · have hd : decide ((s.bs.length : Int) - s.at_ < n) = true := by simpa using hl
        have htk := take_cut H0.out hn hl
        have hr := fun a => (h.drewN a).set2 11
        have HT := Lib.hid (And.intro htk hr); clear htk hr hcells
        go_enter Try.func50, Try.ntmps50
        go_wp2
        go_quiet (fail)
        go_wp2
        go_ret
        rw [HT.out.1]
        exact ⟨.slice none 0 0, rfl, SL.nil _, (fun k hk => by cases hk), HT.out.2 _, Chg.trans (S := (· = r)) (S' := (· = r)) ((Chg.refl _ _).drewN _) (chg_setCell _ _ _ _) (fun _ _ h => h)⟩
      · have hd : decide ((s.bs.length : Int) - s.at_ < n) = false := by simpa using hl
        cases a with
        | none =>
          obtain rfl := hnil rfl
          have hb0 : s.bs.length = 0 := by omega
          have ha0 : s.at_ = 0 := by omega
          obtain rfl : n = 0 := by omega
          have hset := fun a b => take_nil h H0.out hb0 a b
          have HT := Lib.hid hset; clear hset
          rw [hb0] at c0 hd
          rw [ha0] at c1 hd
          have HX := Lib.hid (And.intro hb0 ha0); clear hb0 ha0 hl hs hw hcap
          go_enter Try.func50, Try.ntmps50
          go_wp2
          go_quiet (fail)
          go_wp2
          go_quiet (fail)
          go_wp2
          go_ret
          exact HT.out _ _
        | some p =>
          obtain ⟨hsp, hblt, hat⟩ := hcells p rfl
          obtain ⟨bb, oo, sp⟩ := p
          cases hsp
          have hn0 : 0 ≤ n := by omega
          have hl2 : (s.at_ : Int) + n ≤ s.bs.length := by omega
          have hset := fun o' m c' hm hc ho a b => take_done h H0.out hn0 hl2 hsl hat hblt o' m c' hm hc ho a b
          have HT := Lib.hid hset; clear hset hat
          have HSL := Lib.hid hsl; clear hsl hcells
          go_enter Try.func50, Try.ntmps50
          go_wp2
          go_quiet (fail)
          go_wp2
          go_quiet (fail)
          go_wp2
          all_goals
            go_ret
            exact HT.out _ _ _ (by omega) (by omega) (by omega) _ _
  · have hb : (s.err == 0) = false := by simp [h0]
    have hb' : (s.err != 0) = true := by simp [h0]
    have H0 := Lib.hid h0; clear h0
    go_enter Try.func50, Try.ntmps50
    go_wp2
    go_quiet (fail)
    go_wp2
    go_ret
    rw [take_err n H0.out]
    exact ⟨.slice none 0 0, rfl, SL.nil _, (fun k hk => by cases hk), h.drewN _, (Chg.refl _ _).drewN _⟩

set_option maxHeartbeats 400000 in
theorem xnumber (T r : Nat) (w : World) (sl : Value) (s : RS) (h : Rd T w r sl s) (n : Nat) (hn : n ≤ 8) :
    Calls Try.prog 49 #[.pointer (some ⟨r, 0, none⟩), .int .i64 n] w (Tells T w r sl (.int .u64 (beN (s.take n).1)) (s.take n).2) := by
  have hlen := take_len s n
  go_enter Try.func49, Try.ntmps49
  go_wp2_with (go_at_call 50; refine (xtake T r _ sl s h _).mono ?_; rintro e w' ⟨v, rfl, hv, ho, hr, hc⟩; obtain ⟨a, cap, rfl, hcap, hnil, hcells⟩ := hv)
  generalize (s.take n).1 = l at *
  have H := Lib.hid (And.intro hr (And.intro hc h)); clear hr hc h
  go_loop [7, 6] (fun i v => ∃ k : Nat, k ≤ l.length ∧ i = .int .i64 k ∧ v = .int .u64 (beN (l.take k))) (fun i _ => l.length - (intOf i).toNat)
  case atStart => exact ⟨0, Nat.zero_le _, rfl, rfl⟩
  case round =>
    obtain ⟨k, hk, rfl, rfl⟩ := hrel
    by_cases hlt : k < l.length
    · obtain ⟨bb, oo, rfl, hcell0⟩ := SL.cell (enc := bv) hcells hnil hcap k hlt
      have hcell : w'.cell? ⟨bb, oo + k, none⟩ = some (.int .u8 (l[k].toNat : Int)) := hcell0
      clear hcell0
      have hsn := Lib.hid (beN_take_succ l k hlt)
      have hb := beN_take_lt l k
      have hp := pow_le_56 (k := k) (by omega)
      have hb2 := l[k].toNat_lt
      generalize beN (l.take k) = B at *
      have hb3 : B < 72057594037927936 := by omega
      clear hb hp hcells
      go_wp2
      go_round
      case rel => exact ⟨k + 1, by omega, by go_num, by rw [or_join B _ hb3 hb2, hsn.out]⟩
      case measure => simp [intOf]; omega
    · obtain rfl : k = l.length := by omega
      rw [List.take_length]
      go_wp2
      go_ret
      exact ⟨rfl, H.out.1, H.out.2.1⟩

set_option maxHeartbeats 400000 in
theorem xU1 (T r : Nat) (w : World) (sl : Value) (s : RS) (h : Rd T w r sl s) :
    Calls Try.prog 37 #[.pointer (some ⟨r, 0, none⟩)] w (Tells T w r sl (.int .i64 (beN (s.take 1).1)) (s.take 1).2) := by
  have hb := beN_small s 1 (by omega)
  go_enter Try.func37, Try.ntmps37
  go_wp2_with (go_at_call 49; refine (xnumber T r _ sl s h 1 (by omega)).mono ?_; rintro e w' ⟨rfl, hr, hc⟩)
  go_ret
  exact ⟨u_ret (wrap64_small hb), hr, hc⟩

set_option maxHeartbeats 400000 in
theorem xU2 (T r : Nat) (w : World) (sl : Value) (s : RS) (h : Rd T w r sl s) :
    Calls Try.prog 38 #[.pointer (some ⟨r, 0, none⟩)] w (Tells T w r sl (.int .i64 (beN (s.take 2).1)) (s.take 2).2) := by
  have hb := beN_small s 2 (by omega)
  go_enter Try.func38, Try.ntmps38
  go_wp2_with (go_at_call 49; refine (xnumber T r _ sl s h 2 (by omega)).mono ?_; rintro e w' ⟨rfl, hr, hc⟩)
  go_ret
  exact ⟨u_ret (wrap64_small hb), hr, hc⟩

set_option maxHeartbeats 400000 in
theorem xN8 (T r : Nat) (w : World) (sl : Value) (s : RS) (h : Rd T w r sl s) :
    Calls Try.prog 39 #[.pointer (some ⟨r, 0, none⟩)] w (Tells T w r sl (.int .i64 (wrap64 (beN (s.take 8).1))) (s.take 8).2) := by
  go_enter Try.func39, Try.ntmps39
  go_wp2_with (go_at_call 49; refine (xnumber T r _ sl s h 8 (by omega)).mono ?_; rintro e w' ⟨rfl, hr, hc⟩)
  go_ret
  exact ⟨rfl, hr, hc⟩

set_option maxHeartbeats 400000 in
theorem xLeft (T r : Nat) (w : World) (sl : Value) (s : RS) (h : Rd T w r sl s) :
    Calls Try.prog 42 #[.pointer (some ⟨r, 0, none⟩)] w fun e w' => e = .returned (.int .i64 ((s.bs.length : Int) - s.at_)) ∧ ∃ n, w' = w.drewN n := by
  have c0 := h.c0
  have c1 := h.c1
  obtain ⟨a, cap, hsl, hcap, hnil, hcells⟩ := h.bytes
  have hs := h.small
  have hw := h.within
  rw [hsl] at c0
  have HSL := Lib.hid hsl; clear hsl hcells
  go_enter Try.func42, Try.ntmps42
  go_wp2
  go_quiet (fail)
  go_wp2
  go_ret
  exact ⟨rfl, _, rfl⟩

set_option maxHeartbeats 400000 in
theorem xText (T r : Nat) (w : World) (sl : Value) (s : RS) (h : Rd T w r sl s) :
    Calls Try.prog 41 #[.pointer (some ⟨r, 0, none⟩)] w (Tells T w r sl (.string ⟨s.text.1.toArray⟩) s.text.2) := by
  have c1 := h.c1
  by_cases he : ((s.take 1).2.take (beN (s.take 1).1)).2.err = 0
  · have hb : (((s.take 1).2.take (beN (s.take 1).1)).2.err != 0) = false := by simp [he]
    have hx := text_ok he
    have HX := Lib.hid hx; clear hx he
    go_enter Try.func41, Try.ntmps41
    go_wp2_with (first
      | (go_at_call 37; refine (xU1 T r _ sl s h).mono ?_; rintro e w1 ⟨rfl, hr1, hc1⟩)
      | (go_at_call 50; refine (xtake T r _ sl _ hr1 _).mono ?_; rintro e w2 ⟨v, rfl, hv, ho, hr2, hc2⟩; have c2 := hr2.c2; have hs := hv.str (P := Try.prog) 22 9 5 Try.underlying22 Try.underlying5 Try.underlying9))
    go_ret
    rw [HX.out]
    exact ⟨rfl, hr2, hc1.trans hc2 (fun _ _ h => h)⟩
  · have hb : (((s.take 1).2.take (beN (s.take 1).1)).2.err != 0) = true := by simp [he]
    have hx := text_bad he
    have HX := Lib.hid hx; clear hx he
    have hbd : s.at_ ≤ s.bs.length := h.within
    go_enter Try.func41, Try.ntmps41
    go_wp2_with (first
      | (go_at_call 37; refine (xU1 T r _ sl s h).mono ?_; rintro e w1 ⟨rfl, hr1, hc1⟩)
      | (go_at_call 50; refine (xtake T r _ sl _ hr1 _).mono ?_; rintro e w2 ⟨v, rfl, hv, ho, hr2, hc2⟩; have c2 := hr2.c2; have c1' := hr2.c1; have hf := hr2.fz 1))
    go_ret
    rw [HX.out]
    exact ⟨rfl, hr2.set1 s.at_ (by rw [RS.take_same, RS.take_same]; exact hbd), (hc1.trans hc2 (fun _ _ h => h)).trans (chg_setCell _ _ _ _) (fun _ _ h => h)⟩

set_option maxHeartbeats 400000 in
theorem xBytes (T r : Nat) (w : World) (sl : Value) (s : RS) (h : Rd T w r sl s) (n : Int) :
    Calls Try.prog 40 #[.pointer (some ⟨r, 0, none⟩), .int .i64 n] w (Gives T w r sl (s.take n).1 (s.take n).2) := by
  have hlen : (s.take n).1.length ≤ 140737488351232 := by
    have h1 := h.small
    unfold RS.take
    split
    · simp
    · split
      · simp
      · split
        · simp
        · simp; omega
  go_enter Try.func40, Try.ntmps40
  go_wp2_with (first
    | (go_at_call 50; refine (xtake T r _ sl s h _).mono ?_; rintro e w' ⟨v, rfl, hv, ho, hr, hc⟩)
    | (at_builtin; refine wpList_append_K rfl (.tmp 6) (.tmp 9) 22 22 rfl 5 (.int .u8 0) 1 1 Try.underlying22 Try.info5 rfl (by omega) (.slice none 0 0) 0 [] rfl (World.ownsRow_nil _ 0 _ 1) v (s.take n).1.length ((s.take n).1.map bv) rfl (hv.src Try.underlying22) (by unfold maxLen; omega) (by omega) ?_; intro v' w2 h1 h2 h3))
  go_ret
  have hc2 : Chg No w' w2 := (Chg.grown h2).mono (fun _ _ h => by cases h)
  refine ⟨v', rfl, OB.append (bs := []) h1 (by simp), (fun k hk => ?_), hr.new hc2, hc.then hc2⟩
  rcases h3 with h3 | ⟨b, h3, h4⟩
  · rw [h3] at hk; cases hk
  · rw [h3] at hk; cases hk; exact Nat.le_trans hc.size h4

end Go.Proofs.Ytidjeehjojajmaa
