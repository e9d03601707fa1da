/-
  The reference's writer: its calls do to its bytes and its error what the program's do.
-/
import Derived.Test.YtidjeehjojajmaaWrt4
namespace Go.Proofs.Ytidjeehjojajmaa
open Go.RowKit

/-- Block b is a reference's writer in that state, its bytes in the slice sl. -/
structure Xw (w : World) (b : Nat) (sl : Value) (s : WS) : Prop where
  cells : w.heap[b]? = some (.cells #[sl, .int .i64 s.err] 61 (0, 0))
  own : OB w sl s.bs
  apart : sl.ownBlock ≠ some b

section
variable {w w' : World} {b : Nat} {sl : Value} {s : WS}
theorem Xw.c0 (h : Xw w b sl s) : w.cell? ⟨b, 0, none⟩ = some sl := by simp [World.cell?, h.cells]
theorem Xw.c1 (h : Xw w b sl s) : w.cell? ⟨b, 1, none⟩ = some (.int .i64 s.err) := by simp [World.cell?, h.cells]
theorem Xw.fz (h : Xw w b sl s) (o : Nat) : w.frozen? ⟨b, o, none⟩ = false := by simp [World.frozen?, h.cells]
theorem Xw.lt (h : Xw w b sl s) : b < w.heap.size := heap_lt h.cells
theorem Xw.slt (h : Xw w b sl s) : ∀ k, sl.ownBlock = some k → k < w.heap.size := h.own.bs.lt
theorem Xw.chg {S : Nat → Prop} (h : Xw w b sl s) (c : Chg S w w') (hr : ¬ S b) (hs : ∀ k, sl.ownBlock = some k → ¬ S k) : Xw w' b sl s :=
  ⟨(c.block b h.lt hr).trans h.cells, h.own.chg c hs, h.apart⟩
theorem Xw.new (h : Xw w b sl s) (c : Chg No w w') : Xw w' b sl s := h.chg c (fun h => h) (fun _ _ h => h)
theorem Xw.drew (h : Xw w b sl s) : Xw w.drew b sl s := h.new (Chg.refl _ _).drew
theorem Xw.drewN (h : Xw w b sl s) (n : Nat) : Xw (w.drewN n) b sl s := h.new ((Chg.refl _ _).drewN n)
theorem Xw.set1 (h : Xw w b sl s) (n : Int) : Xw (w.setCell ⟨b, 1, none⟩ (.int .i64 n)) b sl { s with err := n } :=
  ⟨by rw [heap_setCell_same h.cells]; rfl, h.own.chg (chg_setCell w b 1 _) (fun k hk e => h.apart (by rw [hk, e])), h.apart⟩
theorem Xw.appended {l : List UInt8} {v' : Value} {n : Nat} {w1 : World} (h : Xw w b sl s) (h1 : w1.ownsRow 0 5 1 v' n (s.bs.map bv ++ l.map bv)) (hn : n = s.bs.length + l.length) (h2 : w.grownBy w1 sl.ownBlock)
    (h3 : v'.ownBlock = sl.ownBlock ∨ ∃ k, v'.ownBlock = some k ∧ w.heap.size ≤ k) : Xw (w1.setCell ⟨b, 0, none⟩ v') b v' { s with bs := s.bs ++ l } ∧ WStep b w sl (w1.setCell ⟨b, 0, none⟩ v') v' := by
  have hb1 : w1.heap[b]? = w.heap[b]? := h2.block b h.lt (fun e => h.apart e.symm)
  have hlt := h.lt
  have hne : v'.ownBlock ≠ some b := by
    rcases h3 with e | ⟨k, e, hk⟩
    · rw [e]; exact h.apart
    · rw [e]; intro e'; cases e'; omega
  refine ⟨⟨?_, ?_, hne⟩, ?_, h3⟩
  · rw [heap_setCell_same (hb1.trans h.cells)]; rfl
  · exact (OB.append h1 hn).chg (chg_setCell w1 b 0 v') (fun k hk e => hne (by rw [hk, e]))
  · exact ((Chg.grown h2).mono (fun k _ e => .inr e.symm)).trans (chg_setCell w1 b 0 v') (fun k _ e => .inl e)
theorem Xw.after {w1 : World} (h : Xw w b sl s) (hg : w.grownBy w1 sl.ownBlock) : w1.cell? ⟨b, 0, none⟩ = some sl ∧ w1.frozen? ⟨b, 0, none⟩ = false :=
  ⟨hg.cell h.c0 (fun e => h.apart e.symm), (World.frozen?_of_block (hg.block b h.lt (fun e => h.apart e.symm))).trans (h.fz 0)⟩
end

/-- What a call of the reference's writer leaves. -/
def Xrote (b : Nat) (w : World) (sl : Value) (s' : WS) (e : Ending) (w' : World) : Prop :=
  ∃ sl', e = .returned (.tuple #[]) ∧ Xw w' b sl' s' ∧ WStep b w sl w' sl'

/-- Byte j of a number in n bytes, the highest first. -/
def beb (v : Int) (n j : Nat) : UInt8 := nb (v / 2 ^ (8 * ((n : Int) - 1 - (j : Int))).toNat % 256)

theorem xput_range_succ (s : WS) (v : Int) (n j : Nat) : s.put ((List.range (j + 1)).map (beb v n)) = (s.put ((List.range j).map (beb v n))).put [beb v n j] := by
  rw [List.range_succ, List.map_append, WS.put_put]; rfl

set_option maxHeartbeats 800000 in
theorem xput (b : Nat) (w : World) (sl : Value) (s : WS) (h : Xw w b sl s) (v : Int) (n : Nat) (hv : 0 ≤ v ∧ v < 18446744073709551616) (hn : n ≤ 8) (hm : s.bs.length + n ≤ WMax) :
    Calls Try.prog 52 #[.pointer (some ⟨b, 0, none⟩), .int .u64 v, .int .i64 n] w (Xrote b w sl (s.put ((List.range n).map (beb v n)))) := by
  have c1 := h.c1
  by_cases he : s.err = 0
  · have hb : (s.err != 0) = false := by simp [he]
    have HS := Lib.hid (And.intro h (And.intro he (And.intro hm hv))); clear h he hm hv
    go_enter Try.func52, Try.ntmps52
    go_wp2
    go_loopw [6] (fun i wr => ∃ (j : Nat) (sl1 : Value), j ≤ n ∧ i = .int .i64 ((n : Int) - 1 - j) ∧ Xw wr b sl1 (s.put ((List.range j).map (beb v n))) ∧ WStep b w sl wr sl1) (fun i _ => ((intOf i) + 1).toNat)
    case atStart => exact ⟨0, sl, Nat.zero_le _, by simp, by rw [List.range_zero, List.map_nil, WS.put_nil]; exact HS.out.1, WStep.refl _ _ _⟩
    case round =>
      obtain ⟨j, sl1, hj, rfl, hw, hst⟩ := hrel
      by_cases hlt : j < n
      · have hl := WS.put_len s ((List.range j).map (beb v n))
        rw [List.length_map, List.length_range] at hl
        have hm2 := HS.out.2.2.1
        have hput := xput_range_succ s v n j
        have he1 : (s.put ((List.range j).map (beb v n))).err = 0 := by rw [WS.put_yes HS.out.2.1]; exact HS.out.2.1
        have hmx : (s.put ((List.range j).map (beb v n))).bs.length + 1 ≤ 225179981368000 := by unfold WMax at hm2; omega
        generalize s.put ((List.range j).map (beb v n)) = s1 at *
        have c0 := hw.c0
        have hf := hw.fz 0
        have HC := Lib.hid (And.intro hput (And.intro he1 (And.intro hmx (And.intro hw hst)))); clear hput he1 hmx hst hl hm2
        have hvb := HS.out.2.2.2
        have hbl := hw.lt
        have hown := (hw.new (((Chg.refl _ _).alloc (.cells #[.int .u8 (IntKind.u8.wrap ((v : Int) / 2 ^ (8 * ((n : Int) - 1 - (j : Int))).toNat))] 5)).drew))
        have hsrc := BS.src (P := Try.prog) (((bs_wrap1 wr ((v : Int) / 2 ^ (8 * ((n : Int) - 1 - (j : Int))).toNat)).new (Chg.refl _ _).drew) : BS _ _ _) Try.underlying22
        have hap := hw.apart
        have HO := Lib.hid (And.intro hown hsrc); clear hown hsrc
        have he0 : (0 : Int) ≤ 8 * ((n : Int) - 1 - (j : Int)) := by omega
        have hew : IntKind.i64.wrap (8 * ((n : Int) - 1 - (j : Int))) = 8 * ((n : Int) - 1 - (j : Int)) := IntWalk.i64_in _ (by omega)
        have hem : min (8 * ((n : Int) - 1 - (j : Int))).toNat 64 = (8 * ((n : Int) - 1 - (j : Int))).toNat := by omega
        go_wp2
        go_region_law (refine step_append_K rfl (.tmp 22) (.tmp 28) 22 22 rfl 5 (.int .u8 0) 1 1 Try.underlying22 Try.info5 rfl (by omega) sl1 s1.bs.length (s1.bs.map bv) rfl HO.out.1.own _ 1 _ rfl HO.out.2 (by have := HC.out.2.2.1; unfold maxLen; omega) (by have := HC.out.2.2.1; omega) ?_; intro v' w1 h1 hg h3; obtain ⟨a', c', rfl⟩ := ownsRow_slice h1; obtain ⟨hcc, hff⟩ := HO.out.1.after hg; have HX := Lib.hid (And.intro h1 (And.intro hg h3)); clear h1 hg h3)
        all_goals
          go_wp2
          go_roundw
          case rel =>
            obtain ⟨hx1, hx2⟩ := HO.out.1.appended HX.out.1 rfl HX.out.2.1 HX.out.2.2
            exact ⟨j + 1, _, by omega, by go_num, by rw [HC.out.1, WS.put_yes HC.out.2.1]; exact hx1, HC.out.2.2.2.2.trans ((WStep.new ((Chg.refl _ _).alloc _).drew).trans hx2)⟩
          case measure => simp [intOf]; omega
      · obtain rfl : j = n := by omega
        go_wp2
        go_end0
        exact ⟨sl1, rfl, hw, hst⟩
  · have hb : (s.err != 0) = true := by simp [he]
    have HE := Lib.hid he; clear he
    go_enter Try.func52, Try.ntmps52
    go_wp2
    refine bodyPost_ret (results_none rfl _ _ _) rfl ?_
    exact ⟨sl, rfl, by rw [WS.put_no HE.out]; exact h, WStep.refl _ _ _⟩

theorem WStep.set (b o : Nat) (w : World) (sl v : Value) : WStep b w sl (w.setCell ⟨b, o, none⟩ v) sl := ⟨(chg_setCell _ _ _ _).mono (fun _ _ e => .inl e), .inl rfl⟩
theorem range1 {v : Int} (h0 : 0 ≤ v) (h1 : v ≤ 255) : (List.range 1).map (beb v 1) = [nb v] := by
  have h : v % 256 = v := by omega
  simp [beb, h]
theorem range2 {v : Int} (h0 : 0 ≤ v) (h1 : v ≤ 65535) : (List.range 2).map (beb v 2) = [nb (v / 256), nb (v % 256)] := by
  have h : v / 256 % 256 = v / 256 := by omega
  simp [beb, List.range_succ, h]
theorem u64_range (n : Int) : 0 ≤ IntKind.u64.wrap n ∧ IntKind.u64.wrap n < 18446744073709551616 := by rw [IntKind.wrap_u64]; omega

set_option maxHeartbeats 400000 in
theorem xuns1 (b : Nat) (w : World) (sl : Value) (s : WS) (h : Xw w b sl s) (n : Int) (hm : s.bs.length + 1 ≤ WMax) (hr : n ≤ 9223372036854775807) :
    Calls Try.prog 51 #[.pointer (some ⟨b, 0, none⟩), .int .i64 n, .int .i64 1] w (Xrote b w sl (s.u1 n)) := by
  have c1 := h.c1
  have hf := h.fz 1
  have HM := Lib.hid hm; clear hm
  by_cases he : s.err = 0
  · by_cases hb : n < 0 ∨ 256 ≤ n
    · have hu : s.u1 n = ({ s with err := 1 } : WS) := by unfold WS.u1; rw [if_pos (by omega), WS.fail_yes he]
      have hp : ∀ l, ({ s with err := 1 } : WS).put l = { s with err := 1 } := fun l => WS.put_no (by simp) l
      have hx := h.set1 1
      have H := Lib.hid (And.intro hu (And.intro hp hx)); clear hu hp hx
      have hbe : (s.err == 0) = true := by simp [he]
      clear he
      rcases hb with hb | hb
      all_goals
        go_enter Try.func51, Try.ntmps51
        go_wp2_with (go_at_call 52; refine (xput b _ sl { s with err := 1 } H.out.2.2 _ 1 (by first | exact u64_range _ | omega) (by omega) HM.out).mono ?_; rintro e w2 ⟨sl2, rfl, hw2, hst2⟩)
        go_end0
        rw [H.out.2.1] at hw2
        exact ⟨sl2, rfl, by rw [H.out.1]; exact hw2, (WStep.set _ _ _ _ _).trans hst2⟩
    · have hu : s.u1 n = s.put [nb n] := by unfold WS.u1; rw [if_neg (by omega)]
      have h0 : 0 ≤ n := by omega
      have h1 : n < 256 := by omega
      have hrg := range1 h0 (by omega)
      have hbe : (s.err == 0) = true := by simp [he]
      have H := Lib.hid (And.intro hu hrg); clear hu hrg hb he
      go_enter Try.func51, Try.ntmps51
      go_wp2_with (go_at_call 52; refine (xput b _ sl s h _ 1 (by first | exact u64_range _ | omega) (by omega) HM.out).mono ?_; rintro e w2 ⟨sl2, rfl, hw2, hst2⟩)
      go_end0
      rw [H.out.2] at hw2
      exact ⟨sl2, rfl, by rw [H.out.1]; exact hw2, hst2⟩
  · have hbe : (s.err == 0) = false := by simp [he]
    have hu := WS.u1_stays he n
    have hp : ∀ l, s.put l = s := fun l => WS.put_no he l
    have H := Lib.hid (And.intro hu hp); clear hu hp he
    by_cases h0 : 0 ≤ n
    all_goals
      go_enter Try.func51, Try.ntmps51
      go_wp2_with (go_at_call 52; refine (xput b _ sl s h _ 1 (by first | exact u64_range _ | omega) (by omega) HM.out).mono ?_; rintro e w2 ⟨sl2, rfl, hw2, hst2⟩)
      go_end0
      rw [H.out.2] at hw2
      exact ⟨sl2, rfl, by rw [H.out.1]; exact hw2, hst2⟩

set_option maxHeartbeats 400000 in
theorem xU1w (b : Nat) (w : World) (sl : Value) (s : WS) (h : Xw w b sl s) (n : Int) (hm : s.bs.length + 1 ≤ WMax) (hr : n ≤ 9223372036854775807) :
    Calls Try.prog 44 #[.pointer (some ⟨b, 0, none⟩), .int .i64 n] w (Xrote b w sl (s.u1 n)) := by
  go_enter Try.func44, Try.ntmps44
  go_wp2_with (go_at_call 51; refine (xuns1 b _ sl s h n hm hr).mono ?_; rintro e w2 ⟨sl2, rfl, hw2, hst2⟩)
  go_end0
  exact ⟨sl2, rfl, hw2, hst2⟩

set_option maxHeartbeats 400000 in
theorem xuns2 (b : Nat) (w : World) (sl : Value) (s : WS) (h : Xw w b sl s) (n : Int) (hm : s.bs.length + 2 ≤ WMax) (hr : n ≤ 9223372036854775807) :
    Calls Try.prog 51 #[.pointer (some ⟨b, 0, none⟩), .int .i64 n, .int .i64 2] w (Xrote b w sl (s.u2 n)) := by
  have c1 := h.c1
  have hf := h.fz 1
  have HM := Lib.hid hm; clear hm
  by_cases he : s.err = 0
  · by_cases hb : n < 0 ∨ 65536 ≤ n
    · have hu : s.u2 n = ({ s with err := 1 } : WS) := by unfold WS.u2; rw [if_pos (by omega), WS.fail_yes he]
      have hp : ∀ l, ({ s with err := 1 } : WS).put l = { s with err := 1 } := fun l => WS.put_no (by simp) l
      have hx := h.set1 1
      have H := Lib.hid (And.intro hu (And.intro hp hx)); clear hu hp hx
      have hbe : (s.err == 0) = true := by simp [he]
      clear he
      rcases hb with hb | hb
      all_goals
        go_enter Try.func51, Try.ntmps51
        go_wp2_with (go_at_call 52; refine (xput b _ sl { s with err := 1 } H.out.2.2 _ 2 (by first | exact u64_range _ | omega) (by omega) HM.out).mono ?_; rintro e w2 ⟨sl2, rfl, hw2, hst2⟩)
        go_end0
        rw [H.out.2.1] at hw2
        exact ⟨sl2, rfl, by rw [H.out.1]; exact hw2, (WStep.set _ _ _ _ _).trans hst2⟩
    · have hu : s.u2 n = s.put [nb (n / 256), nb (n % 256)] := by unfold WS.u2; rw [if_neg (by omega)]
      have h0 : 0 ≤ n := by omega
      have h1 : n < 65536 := by omega
      have hrg := range2 h0 (by omega)
      have hbe : (s.err == 0) = true := by simp [he]
      have H := Lib.hid (And.intro hu hrg); clear hu hrg hb he
      go_enter Try.func51, Try.ntmps51
      go_wp2_with (go_at_call 52; refine (xput b _ sl s h _ 2 (by first | exact u64_range _ | omega) (by omega) HM.out).mono ?_; rintro e w2 ⟨sl2, rfl, hw2, hst2⟩)
      go_end0
      rw [H.out.2] at hw2
      exact ⟨sl2, rfl, by rw [H.out.1]; exact hw2, hst2⟩
  · have hbe : (s.err == 0) = false := by simp [he]
    have hu := WS.u2_stays he n
    have hp : ∀ l, s.put l = s := fun l => WS.put_no he l
    have H := Lib.hid (And.intro hu hp); clear hu hp he
    by_cases h0 : 0 ≤ n
    all_goals
      go_enter Try.func51, Try.ntmps51
      go_wp2_with (go_at_call 52; refine (xput b _ sl s h _ 2 (by first | exact u64_range _ | omega) (by omega) HM.out).mono ?_; rintro e w2 ⟨sl2, rfl, hw2, hst2⟩)
      go_end0
      rw [H.out.2] at hw2
      exact ⟨sl2, rfl, by rw [H.out.1]; exact hw2, hst2⟩

set_option maxHeartbeats 400000 in
theorem xU2w (b : Nat) (w : World) (sl : Value) (s : WS) (h : Xw w b sl s) (n : Int) (hm : s.bs.length + 2 ≤ WMax) (hr : n ≤ 9223372036854775807) :
    Calls Try.prog 45 #[.pointer (some ⟨b, 0, none⟩), .int .i64 n] w (Xrote b w sl (s.u2 n)) := by
  go_enter Try.func45, Try.ntmps45
  go_wp2_with (go_at_call 51; refine (xuns2 b _ sl s h n hm hr).mono ?_; rintro e w2 ⟨sl2, rfl, hw2, hst2⟩)
  go_end0
  exact ⟨sl2, rfl, hw2, hst2⟩

theorem range8 (n : Int) (hn : -9223372036854775808 ≤ n ∧ n ≤ 9223372036854775807) : (List.range 8).map (beb (IntKind.u64.wrap n) 8) = n8l n := by
  rw [IntKind.wrap_u64]
  unfold n8l
  refine List.map_congr_left fun j hj => ?_
  have hj8 : j < 8 := List.mem_range.1 hj
  unfold beb n8b
  congr 1
  have he : (8 * (((8 : Nat) : Int) - 1 - (j : Int))).toNat = (56 - 8 * (j : Int)).toNat := by omega
  rw [he]
  generalize hk : (56 - 8 * (j : Int)).toNat = k
  have : k = 0 ∨ k = 8 ∨ k = 16 ∨ k = 24 ∨ k = 32 ∨ k = 40 ∨ k = 48 ∨ k = 56 := by omega
  rcases this with rfl | rfl | rfl | rfl | rfl | rfl | rfl | rfl <;> omega

set_option maxHeartbeats 400000 in
theorem xN8w (b : Nat) (w : World) (sl : Value) (s : WS) (h : Xw w b sl s) (n : Int) (hm : s.bs.length + 8 ≤ WMax) (hr : -9223372036854775808 ≤ n ∧ n ≤ 9223372036854775807) :
    Calls Try.prog 46 #[.pointer (some ⟨b, 0, none⟩), .int .i64 n] w (Xrote b w sl (s.n8 n)) := by
  have hrg := range8 n hr
  have H := Lib.hid (And.intro hrg hm); clear hrg hm hr
  go_enter Try.func46, Try.ntmps46
  go_wp2_with (go_at_call 52; refine (xput b _ sl s h (IntKind.u64.wrap n) 8 (u64_range _) (by omega) H.out.2).mono ?_; rintro e w2 ⟨sl2, rfl, hw2, hst2⟩)
  go_end0
  rw [H.out.1] at hw2
  exact ⟨sl2, rfl, hw2, hst2⟩

set_option maxHeartbeats 400000 in
theorem xBytesw (b : Nat) (w : World) (sl : Value) (s : WS) (h : Xw w b sl s) (v : Value) (l : List UInt8) (hv : BW w v l) (hm : s.bs.length + l.length ≤ WMax) :
    Calls Try.prog 47 #[.pointer (some ⟨b, 0, none⟩), v] w (Xrote b w sl (s.put l)) := by
  have c1 := h.c1
  have c0 := h.c0
  have hm : s.bs.length + l.length ≤ 225179981368000 := hm
  by_cases he : s.err = 0
  · have hb : (s.err == 0) = true := by simp [he]
    have HE := Lib.hid he; clear he
    go_enter Try.func47, Try.ntmps47
    go_wp2_with (at_builtin; refine wpList_append_K rfl (.tmp 13) (.tmp 14) 22 22 rfl 5 (.int .u8 0) 1 1 Try.underlying22 Try.info5 rfl (by omega) sl s.bs.length (s.bs.map bv) rfl h.own v l.length (l.map bv) rfl (BW.src hv Try.underlying22) (by unfold maxLen; omega) (by omega) ?_; intro v' w1 h1 hg h3; obtain ⟨a', c', rfl⟩ := ownsRow_slice h1; have hX := Lib.hid (h.appended h1 rfl hg h3); obtain ⟨hc1, hf1⟩ := h.after hg; clear h1 hg h3)
    go_end0
    rw [WS.put_yes HE.out]
    exact ⟨_, rfl, hX.out.1, hX.out.2⟩
  · have hb : (s.err == 0) = false := by simp [he]
    have HE := Lib.hid he; clear he
    go_enter Try.func47, Try.ntmps47
    go_wp2
    go_end0
    exact ⟨sl, rfl, by rw [WS.put_no HE.out]; exact h, WStep.refl _ _ _⟩

set_option maxHeartbeats 800000 in
theorem xTextw (b : Nat) (w : World) (sl : Value) (s : WS) (h : Xw w b sl s) (l : List UInt8) (hm : s.bs.length + 1 + l.length ≤ WMax) :
    Calls Try.prog 48 #[.pointer (some ⟨b, 0, none⟩), .string ⟨l.toArray⟩] w (Xrote b w sl (s.txt l)) := by
  have c1 := h.c1
  have hf := h.fz 1
  have hl : l.length ≤ 225179981368000 := by unfold WMax at hm; omega
  have HM := Lib.hid hm; clear hm
  by_cases he : s.err = 0
  · have hbe : (s.err == 0) = true := by simp [he]
    by_cases hb : 255 < l.length
    · have hu : s.txt l = ({ s with err := 5 } : WS) := by unfold WS.txt; rw [if_pos hb, WS.fail_yes he]
      have hp : ∀ l, ({ s with err := 5 } : WS).put l = { s with err := 5 } := fun l => WS.put_no (by simp) l
      have hx := h.set1 5
      have H := Lib.hid (And.intro hu (And.intro hp hx)); clear hu hp hx
      clear he
      go_enter Try.func48, Try.ntmps48
      go_wp2_with fail
      refine (xput b _ sl { s with err := 5 } H.out.2.2 _ 1 (by first | exact u64_range _ | omega) (by omega) (by have := HM.out; simp only []; omega)).mono ?_
      rintro e w2 ⟨sl2, rfl, hw2, hst2⟩
      rw [H.out.2.1] at hw2
      obtain ⟨v3, w3, hcv, hb3, hc3, hn3⟩ := str_bytes (P := Try.prog) w2 l 9 22 5 Try.underlying9 Try.underlying22 Try.underlying5
      go_wp2_with fail
      refine (xBytesw b _ sl2 _ (hw2.new hc3) _ l (.inl hb3) (by have := HM.out; simp only []; omega)).mono ?_
      rintro e w4 ⟨sl4, rfl, hw4, hst4⟩
      rw [H.out.2.1] at hw4
      go_wp2
      go_end0
      exact ⟨sl4, rfl, by rw [H.out.1]; exact hw4, (WStep.set _ _ _ _ _).trans (hst2.trans ((WStep.new hc3).trans hst4))⟩
    · have hu : s.txt l = (s.put [nb l.length]).put l := by unfold WS.txt; rw [if_neg hb, WS.put_put]; rfl
      have hrg := range1 (v := (l.length : Int)) (by omega) (by omega)
      have hpl := WS.put_len s [nb l.length]
      have H := Lib.hid (And.intro hu (And.intro hrg hpl)); clear hu hrg he hpl
      go_enter Try.func48, Try.ntmps48
      go_wp2_with fail
      refine (xput b _ sl s h _ 1 (by first | exact u64_range _ | omega) (by omega) (by have := HM.out; omega)).mono ?_
      rintro e w2 ⟨sl2, rfl, hw2, hst2⟩
      rw [H.out.2.1] at hw2
      obtain ⟨v3, w3, hcv, hb3, hc3, hn3⟩ := str_bytes (P := Try.prog) w2 l 9 22 5 Try.underlying9 Try.underlying22 Try.underlying5
      go_wp2_with fail
      refine (xBytesw b _ sl2 _ (hw2.new hc3) _ l (.inl hb3) (by have h1 := HM.out; have h2 := H.out.2.2; simp only [List.length_cons, List.length_nil] at h2; omega)).mono ?_
      rintro e w4 ⟨sl4, rfl, hw4, hst4⟩
      go_wp2
      go_end0
      exact ⟨sl4, rfl, by rw [H.out.1]; exact hw4, hst2.trans ((WStep.new hc3).trans hst4)⟩
  · have hbe : (s.err == 0) = false := by simp [he]
    have hu := WS.txt_stays he l
    have hp : ∀ l, s.put l = s := fun l => WS.put_no he l
    have H := Lib.hid (And.intro hu hp); clear hu hp he
    go_enter Try.func48, Try.ntmps48
    go_wp2_with fail
    refine (xput b _ sl s h _ 1 (by first | exact u64_range _ | omega) (by omega) (by have := HM.out; omega)).mono ?_
    rintro e w2 ⟨sl2, rfl, hw2, hst2⟩
    rw [H.out.2] at hw2
    obtain ⟨v3, w3, hcv, hb3, hc3, hn3⟩ := str_bytes (P := Try.prog) w2 l 9 22 5 Try.underlying9 Try.underlying22 Try.underlying5
    go_wp2_with fail
    refine (xBytesw b _ sl2 _ (hw2.new hc3) _ l (.inl hb3) (by have := HM.out; omega)).mono ?_
    rintro e w4 ⟨sl4, rfl, hw4, hst4⟩
    rw [H.out.2] at hw4
    go_wp2
    go_end0
    exact ⟨sl4, rfl, by rw [H.out.1]; exact hw4, hst2.trans ((WStep.new hc3).trans hst4)⟩

end Go.Proofs.Ytidjeehjojajmaa
