/-
  The writer's U1 and U2: each element in turn, the first that may not be written ends it.
-/
import Derived.Test.YtidjeehjojajmaaWrt
namespace Go.Proofs.Ytidjeehjojajmaa
open Go.RowKit

/-- A byte of a number from 0 to 255. -/
def nb (n : Int) : UInt8 := UInt8.ofNat n.toNat
theorem nb_toNat {n : Int} (h0 : 0 ≤ n) (h1 : n ≤ 255) : ((nb n).toNat : Int) = n := by
  unfold nb; rw [UInt8.toNat_ofNat']; omega
theorem bs_lit1 (w : World) (n : Int) (h0 : 0 ≤ n) (h1 : n ≤ 255) : BS (w.alloc (.cells #[.int .u8 n] 5)) (.slice (some ⟨w.heap.size, 0, none⟩) 1 1) [nb n] := by
  refine ⟨_, 1, rfl, Nat.le_refl _, (fun h => by cases h), fun p hp => ?_⟩
  cases hp
  refine ⟨rfl, by simp, fun j u hj => ?_⟩
  rw [add_mk]
  cases j with
  | zero => simp [bv, nb_toNat h0 h1] at hj; subst hj; simp
  | succ j => simp at hj

theorem bs_lit2 (w : World) (n : Int) (h0 : 0 ≤ n) (h1 : n ≤ 65535) : BS (w.alloc (.cells #[.int .u8 (n / 256), .int .u8 (n % 256)] 5)) (.slice (some ⟨w.heap.size, 0, none⟩) 2 2) [nb (n / 256), nb (n % 256)] := by
  refine ⟨_, 2, rfl, Nat.le_refl _, (fun h => by cases h), fun p hp => ?_⟩
  cases hp
  refine ⟨rfl, by simp, fun j u hj => ?_⟩
  rw [add_mk]
  match j with
  | 0 => simp [bv, nb_toNat (show 0 ≤ n / 256 by omega) (by omega)] at hj; subst hj; simp
  | 1 => simp [bv, nb_toNat (show 0 ≤ n % 256 by omega) (by omega)] at hj; subst hj; simp
  | j + 2 => simp at hj

def WS.u1 (s : WS) (n : Int) : WS := if n < 0 ∨ 255 < n then s.fail 1 else s.put [nb n]
def WS.u2 (s : WS) (n : Int) : WS := if n < 0 ∨ 65535 < n then s.fail 1 else s.put [nb (n / 256), nb (n % 256)]

theorem WS.fail_stays {s : WS} {e : Int} (he : e ≠ 0) : (s.fail e).err ≠ 0 := by
  unfold WS.fail; split
  · exact he
  · assumption
theorem WS.u1_stays {s : WS} (h : s.err ≠ 0) (n : Int) : s.u1 n = s := by
  unfold WS.u1; split
  · exact WS.fail_no h 1
  · exact WS.put_no h _
theorem WS.u2_stays {s : WS} (h : s.err ≠ 0) (n : Int) : s.u2 n = s := by
  unfold WS.u2; split
  · exact WS.fail_no h 1
  · exact WS.put_no h _
theorem foldl_stays {α : Type} (f : WS → α → WS) (hf : ∀ s, s.err ≠ 0 → ∀ x, f s x = s) (s : WS) (h : s.err ≠ 0) (l : List α) : l.foldl f s = s := by
  induction l with
  | nil => rfl
  | cons x l ih => rw [List.foldl_cons, hf s h x, ih]
theorem foldl_len {α : Type} (f : WS → α → WS) (c : Nat) (hf : ∀ s x, (f s x).bs.length ≤ s.bs.length + c) (s : WS) (l : List α) : (l.foldl f s).bs.length ≤ s.bs.length + c * l.length := by
  induction l generalizing s with
  | nil => simp
  | cons x l ih => rw [List.foldl_cons]; have := ih (f s x); have := hf s x; rw [List.length_cons, Nat.mul_succ]; omega
theorem foldl_take_succ {α β : Type} (f : β → α → β) (s : β) (l : List α) (k : Nat) (h : k < l.length) : (l.take (k + 1)).foldl f s = f ((l.take k).foldl f s) l[k] := by
  rw [List.take_succ_eq_append_getElem h, List.foldl_append]; rfl
theorem WS.u1_len (s : WS) (n : Int) : (s.u1 n).bs.length ≤ s.bs.length + 1 := by
  unfold WS.u1; split
  · rw [WS.fail_bs]; omega
  · exact WS.put_len s _
theorem WS.u2_len (s : WS) (n : Int) : (s.u2 n).bs.length ≤ s.bs.length + 2 := by
  unfold WS.u2; split
  · rw [WS.fail_bs]; omega
  · exact WS.put_len s _
/-- An element that may not be written ends it. -/
theorem foldl_bad {α : Type} (f : WS → α → WS) (hf : ∀ s, s.err ≠ 0 → ∀ x, f s x = s) (s : WS) (l : List α) (k : Nat) (h : k < l.length) (hb : (f ((l.take k).foldl f s) l[k]).err ≠ 0) : l.foldl f s = f ((l.take k).foldl f s) l[k] := by
  have hl : l.foldl f s = (l.drop (k + 1)).foldl f ((l.take (k + 1)).foldl f s) := by rw [← List.foldl_append, List.take_append_drop]
  rw [hl, foldl_take_succ f s l k h, foldl_stays f hf _ hb]

set_option maxHeartbeats 800000 in
theorem wU1 (b : Nat) (w : World) (sl : Value) (s : WS) (h : Wr w b sl s) (v : Value) (ns : List Int) (hv : SL iv w v ns) (hd : ∀ k, v.ownBlock = some k → ¬ Fp b sl k) (hm : s.bs.length + 1 * ns.length ≤ WMax) (hsm : ns.length ≤ 140737488351232) :
    Calls Try.prog 26 #[.pointer (some ⟨b, 0, none⟩), v] w (Wrote b w sl (ns.foldl WS.u1 s)) := by
  have HV := Lib.hid hv
  have HS := Lib.hid h
  obtain ⟨a, cap, rfl, hcap, hnil, hcells⟩ := hv
  have HD := Lib.hid (And.intro hd (And.intro hnil hcells)); clear hd hnil hcells
  have HM := Lib.hid hm; clear hm h
  go_enter Try.func26, Try.ntmps26
  go_wp2
  go_loopw [8] (fun i wr => ∃ (k : Nat) (sl1 : Value), k ≤ ns.length ∧ i = .int .i64 k ∧ Wr wr b sl1 ((ns.take k).foldl WS.u1 s) ∧ WStep b w sl wr sl1) (fun i _ => ns.length - (intOf i).toNat)
  case atStart => exact ⟨0, sl, Nat.zero_le _, rfl, HS.out, WStep.refl _ _ _⟩
  case round =>
    obtain ⟨k, sl1, hk, rfl, hw, hst⟩ := hrel
    by_cases hlt : k < ns.length
    · have hv1 : SL iv wr (.slice a ns.length cap) ns := HV.out.chg hst.chg HD.out.1
      obtain ⟨a', cap', he, hcap', hnil', hcells'⟩ := hv1
      cases he
      obtain ⟨bb, oo, rfl, hcell0⟩ := SL.cell (enc := iv) hcells' hnil' hcap' k hlt
      have hcell : wr.cell? ⟨bb, oo + k, none⟩ = some (.int .i64 ns[k]) := hcell0
      clear hcell0 hcells' hnil'
      have hbad := foldl_bad WS.u1 (fun s h x => WS.u1_stays h x) s ns k hlt
      have hnx := foldl_take_succ WS.u1 s ns k hlt
      have hlen := foldl_len WS.u1 1 WS.u1_len s (ns.take k)
      have hmx := HM.out
      rw [List.length_take] at hlen
      have hmx2 : ((ns.take k).foldl WS.u1 s).bs.length + 1 ≤ WMax := by omega
      generalize (ns.take k).foldl WS.u1 s = s1 at *
      generalize ns[k] = n at *
      have HB := Lib.hid (And.intro hbad (And.intro hnx (And.intro hmx2 (And.intro hw hst)))); clear hbad hnx hmx2 hmx hlen hst
      by_cases hlo : n < 0
      · go_wp2_with (go_at_call 43; refine (wfail b _ sl1 s1 hw _).mono ?_; rintro e w2 ⟨sl2, rfl, hw2, hst2⟩)
        refine bodyPost_ret (results_none rfl _ _ _) rfl ?_
        have hu : s1.u1 n = s1.fail 1 := by unfold WS.u1; rw [if_pos (.inl hlo)]
        refine ⟨sl2, rfl, ?_, HB.out.2.2.2.2.trans hst2⟩
        rw [HB.out.1 (by rw [hu]; exact WS.fail_stays (by omega)), hu]; exact hw2
      · by_cases hhi : 255 < n
        · go_wp2_with (go_at_call 43; refine (wfail b _ sl1 s1 hw _).mono ?_; rintro e w2 ⟨sl2, rfl, hw2, hst2⟩)
          refine bodyPost_ret (results_none rfl _ _ _) rfl ?_
          have hu : s1.u1 n = s1.fail 1 := by unfold WS.u1; rw [if_pos (.inr hhi)]
          refine ⟨sl2, rfl, ?_, HB.out.2.2.2.2.trans hst2⟩
          rw [HB.out.1 (by rw [hu]; exact WS.fail_stays (by omega)), hu]; exact hw2
        · have hu : s1.u1 n = s1.put [nb n] := by unfold WS.u1; rw [if_neg (by omega)]
          have h0 : 0 ≤ n := by omega
          have h1 : n ≤ 255 := by omega
          have HU := Lib.hid hu; clear hu
          go_wp2_with (go_at_call 36; refine (wput b _ sl1 s1 (hw.new ((Chg.refl _ _).alloc _)) _ _ (.inl (bs_lit1 _ n h0 h1)) HB.out.2.2.1).mono ?_; rintro e w2 ⟨sl2, rfl, hw2, hst2⟩)
          go_roundw
          case rel => exact ⟨k + 1, sl2, by omega, by go_num, by rw [HB.out.2.1, HU.out]; exact hw2, HB.out.2.2.2.2.trans ((WStep.new ((Chg.refl _ _).alloc _)).trans hst2)⟩
          case measure => simp [intOf]; omega
    · obtain rfl : k = ns.length := by omega
      rw [List.take_length] at hw
      go_wp2
      go_end0
      exact ⟨sl1, rfl, hw, hst⟩

set_option maxHeartbeats 800000 in
theorem wU2 (b : Nat) (w : World) (sl : Value) (s : WS) (h : Wr w b sl s) (v : Value) (ns : List Int) (hv : SL iv w v ns) (hd : ∀ k, v.ownBlock = some k → ¬ Fp b sl k) (hm : s.bs.length + 2 * ns.length ≤ WMax) (hsm : ns.length ≤ 140737488351232) :
    Calls Try.prog 28 #[.pointer (some ⟨b, 0, none⟩), v] w (Wrote b w sl (ns.foldl WS.u2 s)) := by
  have HV := Lib.hid hv
  have HS := Lib.hid h
  obtain ⟨a, cap, rfl, hcap, hnil, hcells⟩ := hv
  have HD := Lib.hid (And.intro hd (And.intro hnil hcells)); clear hd hnil hcells
  have HM := Lib.hid hm; clear hm h
  go_enter Try.func28, Try.ntmps28
  go_wp2
  go_loopw [8] (fun i wr => ∃ (k : Nat) (sl1 : Value), k ≤ ns.length ∧ i = .int .i64 k ∧ Wr wr b sl1 ((ns.take k).foldl WS.u2 s) ∧ WStep b w sl wr sl1) (fun i _ => ns.length - (intOf i).toNat)
  case atStart => exact ⟨0, sl, Nat.zero_le _, rfl, HS.out, WStep.refl _ _ _⟩
  case round =>
    obtain ⟨k, sl1, hk, rfl, hw, hst⟩ := hrel
    by_cases hlt : k < ns.length
    · have hv1 : SL iv wr (.slice a ns.length cap) ns := HV.out.chg hst.chg HD.out.1
      obtain ⟨a', cap', he, hcap', hnil', hcells'⟩ := hv1
      cases he
      obtain ⟨bb, oo, rfl, hcell0⟩ := SL.cell (enc := iv) hcells' hnil' hcap' k hlt
      have hcell : wr.cell? ⟨bb, oo + k, none⟩ = some (.int .i64 ns[k]) := hcell0
      clear hcell0 hcells' hnil'
      have hbad := foldl_bad WS.u2 (fun s h x => WS.u2_stays h x) s ns k hlt
      have hnx := foldl_take_succ WS.u2 s ns k hlt
      have hlen := foldl_len WS.u2 2 WS.u2_len s (ns.take k)
      have hmx := HM.out
      rw [List.length_take] at hlen
      have hmx2 : ((ns.take k).foldl WS.u2 s).bs.length + 2 ≤ WMax := by omega
      generalize (ns.take k).foldl WS.u2 s = s1 at *
      generalize ns[k] = n at *
      have HB := Lib.hid (And.intro hbad (And.intro hnx (And.intro hmx2 (And.intro hw hst)))); clear hbad hnx hmx2 hmx hlen hst
      by_cases hlo : n < 0
      · go_wp2_with (go_at_call 43; refine (wfail b _ sl1 s1 hw _).mono ?_; rintro e w2 ⟨sl2, rfl, hw2, hst2⟩)
        refine bodyPost_ret (results_none rfl _ _ _) rfl ?_
        have hu : s1.u2 n = s1.fail 1 := by unfold WS.u2; rw [if_pos (.inl hlo)]
        refine ⟨sl2, rfl, ?_, HB.out.2.2.2.2.trans hst2⟩
        rw [HB.out.1 (by rw [hu]; exact WS.fail_stays (by omega)), hu]; exact hw2
      · by_cases hhi : 65535 < n
        · go_wp2_with (go_at_call 43; refine (wfail b _ sl1 s1 hw _).mono ?_; rintro e w2 ⟨sl2, rfl, hw2, hst2⟩)
          refine bodyPost_ret (results_none rfl _ _ _) rfl ?_
          have hu : s1.u2 n = s1.fail 1 := by unfold WS.u2; rw [if_pos (.inr hhi)]
          refine ⟨sl2, rfl, ?_, HB.out.2.2.2.2.trans hst2⟩
          rw [HB.out.1 (by rw [hu]; exact WS.fail_stays (by omega)), hu]; exact hw2
        · have hu : s1.u2 n = s1.put [nb (n / 256), nb (n % 256)] := by unfold WS.u2; rw [if_neg (by omega)]
          have h0 : 0 ≤ n := by omega
          have h1 : n ≤ 65535 := by omega
          have HU := Lib.hid hu; clear hu
          go_wp2_with (go_at_call 36; refine (wput b _ sl1 s1 (hw.new ((Chg.refl _ _).alloc _)) _ _ (.inl (bs_lit2 _ n h0 h1)) HB.out.2.2.1).mono ?_; rintro e w2 ⟨sl2, rfl, hw2, hst2⟩)
          go_roundw
          case rel => exact ⟨k + 1, sl2, by omega, by go_num, by rw [HB.out.2.1, HU.out]; exact hw2, HB.out.2.2.2.2.trans ((WStep.new ((Chg.refl _ _).alloc _)).trans hst2)⟩
          case measure => simp [intOf]; omega
    · obtain rfl : k = ns.length := by omega
      rw [List.take_length] at hw
      go_wp2
      go_end0
      exact ⟨sl1, rfl, hw, hst⟩

end Go.Proofs.Ytidjeehjojajmaa
