/-
  The writer's N8, Bytes, Len, Done and NewWriter.
-/
import Derived.Test.YtidjeehjojajmaaWrt2
namespace Go.Proofs.Ytidjeehjojajmaa
open Go.RowKit

/-- Byte j (the highest first) of a number of eight bytes. -/
def n8b (n : Int) (j : Nat) : UInt8 := nb (n / 2 ^ (56 - 8 * (j : Int)).toNat % 256)
def n8l (n : Int) : List UInt8 := (List.range 8).map (n8b n)
def WS.n8 (s : WS) (n : Int) : WS := s.put (n8l n)
def WS.txt (s : WS) (t : List UInt8) : WS := if 255 < t.length then s.fail 5 else s.put (nb t.length :: t)

theorem bs_wrap1 (w : World) (n : Int) : BS (w.alloc (.cells #[.int .u8 (IntKind.u8.wrap n)] 5)) (.slice (some ⟨w.heap.size, 0, none⟩) 1 1) [nb (n % 256)] := by
  have h : IntKind.u8.wrap n = n % 256 := by simp [IntKind.wrap, IntKind.bits, IntKind.signed]
  rw [h]
  exact bs_lit1 w (n % 256) (by omega) (by omega)
theorem WS.put_nil (s : WS) : s.put [] = s := by unfold WS.put; split <;> simp
theorem WS.put_put (s : WS) (l m : List UInt8) : (s.put l).put m = s.put (l ++ m) := by
  unfold WS.put
  by_cases h : s.err = 0 <;> simp [h]
theorem put_range_succ (s : WS) (n : Int) (j : Nat) : s.put ((List.range (j + 1)).map (n8b n)) = (s.put ((List.range j).map (n8b n))).put [n8b n j] := by
  rw [List.range_succ, List.map_append, WS.put_put]; rfl

set_option maxHeartbeats 800000 in
theorem wN8 (b : Nat) (w : World) (sl : Value) (s : WS) (h : Wr w b sl s) (v : Value) (ns : List Int) (hv : SL iv w v ns) (hd : ∀ k, v.ownBlock = some k → ¬ Fp b sl k) (hm : s.bs.length + 8 * ns.length ≤ WMax) (hsm : ns.length ≤ 140737488351232) (hr : ∀ n ∈ ns, -9223372036854775808 ≤ n ∧ n ≤ 9223372036854775807):
    Calls Try.prog 29 #[.pointer (some ⟨b, 0, none⟩), v] w (Wrote b w sl (ns.foldl WS.n8 s)) := by
  have HV := Lib.hid hv
  have HS := Lib.hid h
  obtain ⟨a, cap, rfl, hcap, hnil, hcells⟩ := hv
  have HD := Lib.hid (And.intro hd (And.intro hnil hcells)); clear hd hnil hcells
  have HM := Lib.hid (And.intro hm hr); clear hm h hr
  go_enter Try.func29, Try.ntmps29
  go_wp2
  go_loopw [9] (fun i wr => ∃ (k : Nat) (sl1 : Value), k ≤ ns.length ∧ i = .int .i64 k ∧ Wr wr b sl1 ((ns.take k).foldl WS.n8 s) ∧ WStep b w sl wr sl1) (fun i _ => ns.length - (intOf i).toNat)
  case atStart => exact ⟨0, sl, Nat.zero_le _, rfl, HS.out, WStep.refl _ _ _⟩
  case round =>
    obtain ⟨k, sl1, hk, rfl, hw, hst⟩ := hrel
    by_cases hlt : k < ns.length
    · have hv1 : SL iv wr (.slice a ns.length cap) ns := HV.out.chg hst.chg HD.out.1
      obtain ⟨a', cap', he, hcap', hnil', hcells'⟩ := hv1
      cases he
      obtain ⟨bb, oo, rfl, hcell0⟩ := SL.cell (enc := iv) hcells' hnil' hcap' k hlt
      have hcell : wr.cell? ⟨bb, oo + k, none⟩ = some (.int .i64 ns[k]) := hcell0
      clear hcell0 hcells' hnil'
      have hnx := foldl_take_succ WS.n8 s ns k hlt
      have hlen := foldl_len WS.n8 8 (fun s n => WS.put_len s (n8l n)) s (ns.take k)
      have hmx := HM.out.1
      have hrg := HM.out.2 ns[k] (List.getElem_mem hlt)
      rw [List.length_take] at hlen
      have hmx2 : ((ns.take k).foldl WS.n8 s).bs.length + 8 ≤ WMax := by omega
      generalize (ns.take k).foldl WS.n8 s = s1 at *
      generalize ns[k] = n at *
      have HB := Lib.hid (And.intro hnx (And.intro hmx2 (And.intro hw hst))); clear hnx hmx2 hmx hlen hst hw
      have HK := Lib.hid hk; clear hk
      go_wp2
      go_loopw [6] (fun i wr2 => ∃ (j : Nat) (sl2 : Value), j ≤ 8 ∧ i = .int .i64 (56 - 8 * (j : Int)) ∧ Wr wr2 b sl2 (s1.put ((List.range j).map (n8b n))) ∧ WStep b wr sl1 wr2 sl2) (fun i _ => ((intOf i) + 8).toNat)
      case atStart => exact ⟨0, sl1, Nat.zero_le _, rfl, by rw [List.range_zero, List.map_nil, WS.put_nil]; exact HB.out.2.2.1, WStep.refl _ _ _⟩
      case round =>
        obtain ⟨j, sl2, hj, rfl, hw2, hst2⟩ := hrel
        by_cases hj8 : j < 8
        · have hl2 := WS.put_len s1 ((List.range j).map (n8b n))
          have hmx3 := HB.out.2.1
          rw [List.length_map, List.length_range] at hl2
          have hput := put_range_succ s1 n j
          have hmx4 : (s1.put ((List.range j).map (n8b n))).bs.length + 1 ≤ WMax := by omega
          generalize s1.put ((List.range j).map (n8b n)) = s2 at *
          have HC := Lib.hid (And.intro hput (And.intro hmx4 (And.intro hw2 hst2))); clear hput hmx4 hl2 hmx3 hst2
          go_wp2
          go_region_with (go_at_call 36; refine (wput b _ sl2 s2 ((hw2.new ((Chg.refl _ _).alloc _)).drew) _ [n8b n j] (.inl ((bs_wrap1 _ _).new (Chg.refl _ _).drew)) HC.out.2.1).mono ?_; rintro e w3 ⟨sl3, rfl, hw3, hst3⟩)
          go_wp2
          go_roundw
          case rel => exact ⟨j + 1, sl3, by omega, by go_num, by rw [HC.out.1]; exact hw3, HC.out.2.2.2.trans ((WStep.new ((Chg.refl _ _).alloc _).drew).trans hst3)⟩
          case measure => simp [intOf]; omega
        · obtain rfl : j = 8 := by omega
          go_wp2
          go_roundw
          case rel => exact ⟨k + 1, sl2, by omega, by go_num, by rw [HB.out.1]; exact hw2, HB.out.2.2.2.trans hst2⟩
          case measure => simp [intOf]; omega
    · obtain rfl : k = ns.length := by omega
      rw [List.take_length] at hw
      go_wp2
      go_end0
      exact ⟨sl1, rfl, hw, hst⟩

set_option maxHeartbeats 400000 in
theorem wBytes (b : Nat) (w : World) (sl : Value) (s : WS) (h : Wr w b sl s) (v : Value) (l : List UInt8) (hv : BW w v l) (hm : s.bs.length + l.length ≤ WMax) :
    Calls Try.prog 22 #[.pointer (some ⟨b, 0, none⟩), v] w (Wrote b w sl (s.put l)) := by
  go_enter Try.func22, Try.ntmps22
  go_wp2_with (go_at_call 36; refine (wput b _ sl s h _ l hv hm).mono ?_; rintro e w2 ⟨sl2, rfl, hw2, hst2⟩)
  go_end0
  exact ⟨sl2, rfl, hw2, hst2⟩

set_option maxHeartbeats 400000 in
theorem wLen (b : Nat) (w : World) (sl : Value) (s : WS) (h : Wr w b sl s) :
    Calls Try.prog 27 #[.pointer (some ⟨b, 0, none⟩)] w fun e w' => e = .returned (.int .i64 s.bs.length) ∧ w' = w := by
  have c0 := h.c0
  obtain ⟨a, cap, hsl, _⟩ := h.own.bs
  rw [hsl] at c0
  have HS := Lib.hid hsl; clear hsl
  go_enter Try.func27, Try.ntmps27
  go_wp2
  go_ret
  exact ⟨rfl, rfl⟩

/-- What Done answers. -/
def Done (b : Nat) (w : World) (sl : Value) (s : WS) (e : Ending) (w' : World) : Prop :=
  ∃ v, e = .returned (.tuple #[v, .int .i64 s.err]) ∧ OB w' v (if s.err = 0 then s.bs else []) ∧ (∀ k, v.ownBlock = some k → w.heap.size ≤ k) ∧ Chg No w w'

set_option maxHeartbeats 400000 in
theorem wDone (b : Nat) (w : World) (sl : Value) (s : WS) (h : Wr w b sl s) (hs : s.bs.length ≤ 225179981368000) :
    Calls Try.prog 23 #[.pointer (some ⟨b, 0, none⟩)] w (Done b w sl s) := by
  have c0 := h.c0
  have c2 := h.c2
  by_cases h0 : s.err = 0
  · have hb : (s.err != 0) = false := by simp [h0]
    have H0 := Lib.hid h0; clear h0
    go_enter Try.func23, Try.ntmps23
    go_wp2_with (go_at_call 33; refine (clone_c _ _ _ h.own.bs (by omega)).mono ?_; rintro e w2 ⟨v2, rfl, hv2, hn2, hc2⟩)
    go_ret2
    exact ⟨v2, by rw [H0.out]; rfl, by rw [if_pos H0.out]; exact hv2, hn2, hc2⟩
  · have hb : (s.err != 0) = true := by simp [h0]
    have H0 := Lib.hid h0; clear h0
    go_enter Try.func23, Try.ntmps23
    go_wp2
    go_quiet (fail)
    go_wp2
    go_ret2
    exact ⟨.slice none 0 0, rfl, by rw [if_neg H0.out]; exact OB.nil _, (fun k hk => by cases hk), (Chg.refl _ _).drewN _⟩

set_option maxHeartbeats 400000 in
theorem newWriter (w : World) :
    Calls Try.prog 21 #[] w fun e w' => ∃ b, e = .returned (.pointer (some ⟨b, 0, none⟩)) ∧ Wr w' b (.slice none 0 0) ⟨[], 0⟩ ∧ w.heap.size ≤ b ∧ Chg No w w' := by
  go_enter Try.func21, Try.ntmps21
  go_wp2
  go_ret
  exact ⟨w.heap.size, rfl, ⟨heap_alloc_new _ _, OB.nil _, (fun h => by cases h)⟩, Nat.le_refl _, (Chg.refl _ _).alloc _⟩

end Go.Proofs.Ytidjeehjojajmaa
