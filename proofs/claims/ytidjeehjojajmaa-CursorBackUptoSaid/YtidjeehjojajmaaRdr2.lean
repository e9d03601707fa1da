/-
  The reader's calls, more of them: number, U1, U2, N8, At, Err, Left, Text; and slices.Clone at []byte.
-/
import Derived.Test.YtidjeehjojajmaaRdr
namespace Go.Proofs.Ytidjeehjojajmaa
open Go.RowKit

/-- The number that bytes say, the highest first. -/
def beN (l : List UInt8) : Nat := l.foldl (fun v b => v * 256 + b.toNat) 0

theorem beN_snoc (l : List UInt8) (b : UInt8) : beN (l ++ [b]) = beN l * 256 + b.toNat := by unfold beN; rw [List.foldl_append]; rfl
theorem beN_take_succ (l : List UInt8) (k : Nat) (h : k < l.length) : beN (l.take (k + 1)) = beN (l.take k) * 256 + l[k].toNat := by
  rw [List.take_succ_eq_append_getElem h, beN_snoc]
theorem beN_take_lt (l : List UInt8) (k : Nat) : beN (l.take k) < 256 ^ k := by
  induction k with
  | zero => simp [beN]
  | succ k ih =>
    rw [Nat.pow_succ]
    by_cases h : k < l.length
    · rw [beN_take_succ l k h]
      have := l[k].toNat_lt
      omega
    · rw [List.take_of_length_le (by omega)]
      rw [List.take_of_length_le (by omega)] at ih
      have : 0 < 256 ^ k := Nat.pow_pos (by omega)
      omega
theorem take_len (s : RS) (n : Nat) : (s.take n).1.length ≤ n := by
  unfold RS.take
  split
  · simp
  · split
    · simp
    · split
      · simp
      · simp; omega
theorem pow_le_56 {k : Nat} (h : k < 8) : 256 ^ k ≤ 72057594037927936 := by
  have : 256 ^ k ≤ 256 ^ 7 := Nat.pow_le_pow_right (by omega) (by omega)
  omega

theorem or_join (B : Nat) (b : UInt8) (h : B < 72057594037927936) (hb : b.toNat < 2 ^ 8) : bits BinOp.or IntKind.u64 ((B : Int) * 256) (b.toNat : Int) = ((B * 256 + b.toNat : Nat) : Int) := by
  have e : ((B : Int) * 256) = ((B * 256 : Nat) : Int) := by omega
  rw [e, u64_or_nat _ _ (by omega) (by omega), nat_join 8 (B * 256) b.toNat (by omega) hb]
theorem beN_small (s : RS) (n : Nat) (h : n ≤ 7) : beN (s.take n).1 < 72057594037927936 := by
  have h1 := take_len s n
  have h2 := beN_take_lt (s.take n).1 n
  rw [List.take_of_length_le h1] at h2
  have h3 := pow_le_56 (k := n) (by omega)
  omega

set_option maxHeartbeats 400000 in
theorem number_c (T r : Nat) (w : World) (sl : Value) (s : RS) (h : Rd T w r sl s) (n : Nat) (hn : n ≤ 8) :
    Calls Try.prog 34 #[.pointer (some ⟨r, 0, none⟩), .int .i64 n] w (Tells T w r sl (.int .u64 (beN (s.take n).1)) (s.take n).2) := by
  have hlen := take_len s n
  go_enter Try.func34, Try.ntmps34
  go_wp2_with (go_at_call 35; refine (take_c T r _ sl s h _).mono ?_; rintro e w' ⟨v, rfl, hv, ho, hr, hc⟩; obtain ⟨a, cap, rfl, hcap, hnil, hcells⟩ := hv)
  generalize (s.take n).1 = l at *
  have H := Lib.hid (And.intro hr (And.intro hc h)); clear hr hc h
  go_loop [14, 5] (fun i v => ∃ k : Nat, k ≤ l.length ∧ i = .int .i64 k ∧ v = .int .u64 (beN (l.take k))) (fun i _ => l.length - (intOf i).toNat)
  case atStart => exact ⟨0, Nat.zero_le _, rfl, rfl⟩
  case round =>
    obtain ⟨k, hk, rfl, rfl⟩ := hrel
    by_cases hlt : k < l.length
    · obtain ⟨bb, oo, rfl, hcell0⟩ := SL.cell (enc := bv) hcells hnil hcap k hlt
      have hcell : w'.cell? ⟨bb, oo + k, none⟩ = some (.int .u8 (l[k].toNat : Int)) := hcell0
      clear hcell0
      have hsn := Lib.hid (beN_take_succ l k hlt)
      have hb := beN_take_lt l k
      have hp := pow_le_56 (k := k) (by omega)
      have hb2 := l[k].toNat_lt
      generalize beN (l.take k) = B at *
      have hb3 : B < 72057594037927936 := by omega
      clear hb hp hcells
      go_wp2
      go_round
      case rel => exact ⟨k + 1, by omega, by go_num, by rw [or_join B _ hb3 hb2, hsn.out]⟩
      case measure => simp [intOf]; omega
    · obtain rfl : k = l.length := by omega
      rw [List.take_length]
      go_wp2
      go_ret
      exact ⟨rfl, H.out.1, H.out.2.1⟩

theorem u_ret {a b : Int} (h : a = b) : Ending.returned (.int .i64 a) = .returned (.int .i64 b) := by rw [h]
theorem wrap64_small {n : Nat} (h : n < 72057594037927936) : wrap64 (n : Int) = n := by unfold wrap64; omega

set_option maxHeartbeats 400000 in
theorem rU1 (T r : Nat) (w : World) (sl : Value) (s : RS) (h : Rd T w r sl s) :
    Calls Try.prog 16 #[.pointer (some ⟨r, 0, none⟩)] w (Tells T w r sl (.int .i64 (beN (s.take 1).1)) (s.take 1).2) := by
  have hb := beN_small s 1 (by omega)
  go_enter Try.func16, Try.ntmps16
  go_wp2_with (go_at_call 34; refine (number_c T r _ sl s h 1 (by omega)).mono ?_; rintro e w' ⟨rfl, hr, hc⟩)
  go_ret
  exact ⟨u_ret (wrap64_small hb), hr, hc⟩

set_option maxHeartbeats 400000 in
theorem rU2 (T r : Nat) (w : World) (sl : Value) (s : RS) (h : Rd T w r sl s) :
    Calls Try.prog 15 #[.pointer (some ⟨r, 0, none⟩)] w (Tells T w r sl (.int .i64 (beN (s.take 2).1)) (s.take 2).2) := by
  have hb := beN_small s 2 (by omega)
  go_enter Try.func15, Try.ntmps15
  go_wp2_with (go_at_call 34; refine (number_c T r _ sl s h 2 (by omega)).mono ?_; rintro e w' ⟨rfl, hr, hc⟩)
  go_ret
  exact ⟨u_ret (wrap64_small hb), hr, hc⟩

set_option maxHeartbeats 400000 in
theorem rN8 (T r : Nat) (w : World) (sl : Value) (s : RS) (h : Rd T w r sl s) :
    Calls Try.prog 14 #[.pointer (some ⟨r, 0, none⟩)] w (Tells T w r sl (.int .i64 (wrap64 (beN (s.take 8).1))) (s.take 8).2) := by
  go_enter Try.func14, Try.ntmps14
  go_wp2_with (go_at_call 34; refine (number_c T r _ sl s h 8 (by omega)).mono ?_; rintro e w' ⟨rfl, hr, hc⟩)
  go_ret
  exact ⟨rfl, hr, hc⟩

set_option maxHeartbeats 400000 in
theorem rAt (T r : Nat) (w : World) (sl : Value) (s : RS) (h : Rd T w r sl s) :
    Calls Try.prog 17 #[.pointer (some ⟨r, 0, none⟩)] w fun e w' => e = .returned (.int .i64 s.at_) ∧ w' = w := by
  have c1 := h.c1
  go_enter Try.func17, Try.ntmps17
  go_wp2
  go_ret
  exact ⟨rfl, rfl⟩

set_option maxHeartbeats 400000 in
theorem rErr (T r : Nat) (w : World) (sl : Value) (s : RS) (h : Rd T w r sl s) :
    Calls Try.prog 18 #[.pointer (some ⟨r, 0, none⟩)] w fun e w' => e = .returned (.int .i64 s.err) ∧ w' = w := by
  have c2 := h.c2
  go_enter Try.func18, Try.ntmps18
  go_wp2
  go_ret
  exact ⟨rfl, rfl⟩

set_option maxHeartbeats 400000 in
theorem rLeft (T r : Nat) (w : World) (sl : Value) (s : RS) (h : Rd T w r sl s) :
    Calls Try.prog 19 #[.pointer (some ⟨r, 0, none⟩)] w fun e w' => e = .returned (.int .i64 ((s.bs.length : Int) - s.at_)) ∧ ∃ n, w' = w.drewN n := by
  have c0 := h.c0
  have c1 := h.c1
  obtain ⟨a, cap, hsl, hcap, hnil, hcells⟩ := h.bytes
  have hs := h.small
  have hw := h.within
  rw [hsl] at c0
  have HSL := Lib.hid hsl; clear hsl hcells
  go_enter Try.func19, Try.ntmps19
  go_wp2
  go_quiet (fail)
  go_wp2
  go_ret
  exact ⟨rfl, _, rfl⟩

/-- The text at the reader's place, and the reader behind it. -/
def RS.text (s : RS) : List UInt8 × RS :=
  let a := s.take 1
  let b := a.2.take (beN a.1)
  if b.2.err = 0 then b else ([], { b.2 with at_ := s.at_ })
theorem text_ok {s : RS} (h : ((s.take 1).2.take (beN (s.take 1).1)).2.err = 0) : s.text = (s.take 1).2.take (beN (s.take 1).1) := by unfold RS.text; simp only []; rw [if_pos h]
theorem text_bad {s : RS} (h : ¬ ((s.take 1).2.take (beN (s.take 1).1)).2.err = 0) : s.text = ([], { ((s.take 1).2.take (beN (s.take 1).1)).2 with at_ := s.at_ }) := by unfold RS.text; simp only []; rw [if_neg h]

theorem RS.take_same (s : RS) (n : Int) : (s.take n).2.bs = s.bs := by
  unfold RS.take; split
  · rfl
  · split
    · rfl
    · split <;> rfl
set_option maxHeartbeats 400000 in
theorem rText (T r : Nat) (w : World) (sl : Value) (s : RS) (h : Rd T w r sl s) :
    Calls Try.prog 25 #[.pointer (some ⟨r, 0, none⟩)] w (Tells T w r sl (.string ⟨s.text.1.toArray⟩) s.text.2) := by
  have c1 := h.c1
  by_cases he : ((s.take 1).2.take (beN (s.take 1).1)).2.err = 0
  · have hb : (((s.take 1).2.take (beN (s.take 1).1)).2.err != 0) = false := by simp [he]
    have hx := text_ok he
    have HX := Lib.hid hx; clear hx he
    go_enter Try.func25, Try.ntmps25
    go_wp2
    go_region_with (first
      | (go_at_call 16; refine (rU1 T r _ sl s h.drew).mono ?_; rintro e w1 ⟨rfl, hr1, hc1⟩)
      | (go_at_call 35; refine (take_c T r _ sl _ hr1 _).mono ?_; rintro e w2 ⟨v, rfl, hv, ho, hr2, hc2⟩))
    have c2 := hr2.c2
    have hs := hv.str (P := Try.prog) 22 9 5 Try.underlying22 Try.underlying5 Try.underlying9
    go_wp2
    go_ret
    rw [HX.out]
    exact ⟨rfl, hr2, (Chg.refl _ _).drew.trans (hc1.trans hc2 (fun _ _ h => h)) (fun _ _ h => h)⟩
  · have hb : (((s.take 1).2.take (beN (s.take 1).1)).2.err != 0) = true := by simp [he]
    have hx := text_bad he
    have HX := Lib.hid hx; clear hx he
    have hbd : s.at_ ≤ s.bs.length := h.within
    go_enter Try.func25, Try.ntmps25
    go_wp2
    go_region_with (first
      | (go_at_call 16; refine (rU1 T r _ sl s h.drew).mono ?_; rintro e w1 ⟨rfl, hr1, hc1⟩)
      | (go_at_call 35; refine (take_c T r _ sl _ hr1 _).mono ?_; rintro e w2 ⟨v, rfl, hv, ho, hr2, hc2⟩))
    have c2 := hr2.c2
    have c1' := hr2.c1
    have hf := hr2.fz 1
    go_wp2
    go_ret
    rw [HX.out]
    exact ⟨rfl, hr2.set1 s.at_ (by rw [RS.take_same, RS.take_same]; exact hbd), ((Chg.refl _ _).drew.trans (hc1.trans hc2 (fun _ _ h => h)) (fun _ _ h => h)).trans (chg_setCell _ _ _ _) (fun _ _ h => h)⟩

theorem Try.info5 : (Try.prog.info? 5).map (fun i => (i.zero, i.size, i.bytes)) = some (some (.int .u8 0), 1, 1) := by kernel_rfl

set_option maxHeartbeats 400000 in
theorem clone_c (w : World) (v : Value) (bs : List UInt8) (h : BS w v bs) (hs : bs.length ≤ 225179981368000) :
    Calls Try.prog 33 #[v] w fun e w' => ∃ v', e = .returned v' ∧ OB w' v' bs ∧ (∀ k, v'.ownBlock = some k → w.heap.size ≤ k) ∧ Chg No w w' := by
  have hsrc := h.src (P := Try.prog) Try.underlying22
  obtain ⟨a, cap, rfl, hcap, hnil, hcells⟩ := h
  have heq := fun W => Go.Lib.run_eql_slice_nil (P := Try.prog) W 22 5 a bs.length cap 0 0 Try.underlying22
  cases a with
  | none =>
    have hl : bs = [] := List.eq_nil_of_length_eq_zero (by have := hnil rfl; omega)
    subst hl
    obtain rfl := hnil rfl
    have heq : ∀ W, (binOp .eql 22 (.slice none 0 0) (.slice none 0 0)).run Try.prog W = .ok (.bool true) W := heq
    clear hsrc hcells hnil
    go_enter Try.func33, Try.ntmps33
    go_wp2
    go_ret
    exact ⟨.slice none 0 0, rfl, OB.nil _, (fun k hk => by cases hk), Chg.refl _ _⟩
  | some p =>
    have hsrc' : Src Try.prog 1 22 (.slice (some p) bs.length cap) bs.length (bs.map bv) (w.alloc (.cells #[] 5)) :=
      BS.src (SL.new (w := w) (v := .slice (some p) bs.length cap) ⟨_, _, rfl, hcap, hnil, hcells⟩ ((Chg.refl _ _).alloc _)) Try.underlying22
    have HS := Lib.hid hsrc'; clear hsrc hsrc' hcells hnil
    have hown := World.ownsRow_made (base := 0) (e := 5) (size := 1) w #[] 0 (Nat.zero_le _) (by unfold maxLen; omega) rfl
    go_enter Try.func33, Try.ntmps33
    go_wp2_with (at_builtin; refine wpList_append_K rfl (.tmp 5) (.tmp 6) 22 22 rfl 5 (.int .u8 0) 1 1 Try.underlying22 Try.info5 rfl (by omega) (.slice (some ⟨w.heap.size, 0, none⟩) 0 0) 0 [] rfl hown (.slice (some p) bs.length cap) bs.length (bs.map bv) rfl HS.out (by unfold maxLen; omega) (by omega) ?_; intro v' w' h1 h2 h3)
    go_ret
    refine ⟨v', rfl, ?_, ?_, ?_⟩
    · exact OB.append (bs := []) h1 (by simp)
    · intro k hk
      rcases h3 with h3 | ⟨b, h3, h4⟩
      · rw [h3] at hk; cases hk; exact Nat.le_refl _
      · rw [h3] at hk; cases hk; simp at h4; omega
    · have hc := Chg.grown h2
      exact ((Chg.refl No w).alloc _).trans hc (fun k hk he => by simp [Value.ownBlock] at he; omega)

end Go.Proofs.Ytidjeehjojajmaa
