/-
  The walk of CursorReads: whatever is read of any bytes, by any calls, is as the reference has it.
-/
import Derived.Test.YtidjeehjojajmaaAsked
namespace Go.Proofs.Ytidjeehjojajmaa
open Go.RowKit

set_option maxRecDepth 100000 in
set_option maxHeartbeats 1600000 in
theorem reads_walk (W : World) (v0 v1 : Value) (bs : List UInt8) (xs : List Item) (hb : BS W v0 bs) (hx : IS W v1 xs) (hl : bs.length ≤ 140737488351232) :
    Calls Try.prog 6 #[v0, v1] W fun e w' => e = .returned (.bool true) ∧ Chg No W w' := by
  obtain ⟨a1, cap1, hv1, hcap1, -, -⟩ := id hx
  have HX := Lib.hid hx
  clear hx
  subst hv1
  obtain ⟨a0, cap0, hv0, hcap0, -, -⟩ := id hb
  have HB := Lib.hid hb
  clear hb
  subst hv0
  go_enter Try.func6, Try.ntmps6
  go_wp2_with fail
  refine (known_c W).mono ?_
  rintro e w1 ⟨rfl, hc1⟩
  obtain ⟨i0, hi, hz0, hz1, hz2⟩ := info_parts Try.info5
  have HI := Lib.hid (And.intro hi (And.intro hz0 (And.intro hz1 hz2))); clear hi hz0 hz1 hz2
  go_wp2_with (first
    | (at_make; refine wpList_make_own _ rfl (.const (.int .i64 0)) (.tmp 13) 22 rfl 0 5 i0 (.int .u8 0) 1 Try.underlying22 HI.out.1 HI.out.2.1 HI.out.2.2.1 .i64 .i64 _ (bs.length + 8) rfl rfl (by omega) (by rw [HI.out.2.2.2]; omega) (by unfold maxLen; omega) (Nat.zero_le _) ?_; intro w2 ho2 hg2; have hc2 := hc1.then ((Chg.grown hg2).mono (S' := No) (fun _ _ h => by cases h)))
    | (at_builtin; refine wpList_append_K rfl (.tmp 14) (.tmp 15) 22 22 rfl 5 (.int .u8 0) 1 1 Try.underlying22 Try.info5 rfl (by omega) (.slice (some ⟨w1.heap.size, 0, none⟩) 0 (bs.length + 8)) 0 [] rfl ho2 (.slice a0 bs.length cap0) bs.length (bs.map bv) rfl (BS.src (HB.out.new hc2) Try.underlying22) (by unfold maxLen; omega) (by omega) ?_; intro v' w3 h1 hg h3))
  have hv : OB w3 v' bs := OB.append (bs := []) h1 (by simp)
  have hz := hc1.size
  have hz2 := hg2.size
  have hc3 : Chg No W w3 := hc2.trans (Chg.grown hg) (fun k hk e => by simp [Value.ownBlock] at e; omega)
  have hvb : ∀ k, v'.ownBlock = some k → W.heap.size ≤ k := fun k hk => by
    rcases h3 with h3 | ⟨b, h3, h4⟩
    · rw [h3] at hk; simp [Value.ownBlock] at hk; omega
    · rw [h3] at hk; cases hk; omega
  have hz3 := hc3.size
  refine (newReader w3 v' bs hv.bs hl).mono ?_
  rintro e w4 ⟨r, sl, rfl, hr, hrlt, hsl, hc4⟩
  have hx0 : Rd 45 (w4.alloc (.cells #[.slice a0 bs.length cap0, .int .i64 0, .int .i64 0] 45)) w4.heap.size (.slice a0 bs.length cap0) ⟨bs, 0, 0⟩ :=
    ⟨heap_alloc_new _ _, HB.out.new (((hc3.then hc4)).alloc _), (fun e => by have := HB.out.lt _ e; have := hc4.size; omega), Nat.zero_le _, hl⟩
  have hrl := hr.lt
  have hvl := hv.bs.lt
  have hB : Both (w4.alloc (.cells #[.slice a0 bs.length cap0, .int .i64 0, .int .i64 0] 45)) r w4.heap.size sl (.slice a0 bs.length cap0) ⟨bs, 0, 0⟩ :=
    ⟨hr.new ((Chg.refl _ _).alloc _), hx0, by omega, (fun e => by have := hr.bytes.lt _ e; omega), (fun e => by have := HB.out.lt _ e; omega)⟩
  have hva : ∀ k, v'.ownBlock = some k → k ≠ r ∧ k ≠ w4.heap.size := fun k hk => by have h8 := hvl k hk; have h9 := hc4.size; omega
  have hlo : W.heap.size ≤ r ∧ W.heap.size ≤ w4.heap.size := by have := hc4.size; omega
  obtain ⟨x, hxe⟩ : ∃ x, x = w4.heap.size := ⟨_, rfl⟩
  have hc5 : Chg No w4 (w4.alloc (.cells #[.slice a0 bs.length cap0, .int .i64 0, .int .i64 0] 45)) := (Chg.refl _ _).alloc _
  have HZ := Lib.hid (And.intro hB (And.intro ((hv.new hc4).new hc5) (And.intro hva (And.intro hlo ((hc3.then hc4).then hc5)))))
  clear hc5
  clear hB hva hlo hvl hrl hx0 hr hrlt hsl hz3 hvb hc3 hz hz2 hv h1 hg h3 hc2 hg2 ho2 hc1
  replace hxe := Lib.hid hxe
  go_wp2
  go_loopw [8] (fun i wr => ∃ (k : Nat) (s : RS), k ≤ xs.length ∧ k ≤ 300 ∧ i = .int .i64 k ∧ Both wr r w4.heap.size sl (.slice a0 bs.length cap0) s ∧ OB wr v' bs ∧ Chg No W wr) (fun i _ => 300 - (intOf i).toNat)
  case atStart => exact ⟨0, _, Nat.zero_le _, Nat.zero_le _, rfl, HZ.out.1, HZ.out.2.1, HZ.out.2.2.2.2⟩
  case round =>
    obtain ⟨k, s, hk, hk3, rfl, hB, hv, hc⟩ := hrel
    have hs1 := BS.str (P := Try.prog) hv.bs 22 9 5 Try.underlying22 Try.underlying5 Try.underlying9
    have hs2 := BS.str (P := Try.prog) (HB.out.new hc) 22 9 5 Try.underlying22 Try.underlying5 Try.underlying9
    by_cases hlt : k < xs.length
    · by_cases hlt2 : k < 300
      · clear hs1 hs2
        obtain ⟨b, o, cs, rfl, hcl, ⟨u, rfl, hu⟩, hbl, hcell⟩ := SLn.cells (SLn.new (n := 3) (R := RItem) (fun h c => RItem.new h c) HX.out hc) k hlt
        have g0 := hcell 0 _ rfl
        have g1 := hcell 1 _ rfl
        have g2 := hcell 2 _ rfl
        rw [Nat.add_zero] at g0
        rw [← Nat.add_assoc] at g1 g2
        obtain ⟨au, capu, hue⟩ := hu.form
        subst hue
        clear hcell hcl
        go_wp2_with fail
        refine (asked_c wr r _ sl _ s hB xs[k] _ ⟨au, capu, rfl⟩).mono ?_
        rintro e wa ⟨rfl, hBa, hca⟩
        have hva2 : OB wa v' bs := hv.chg hca (fun k hk e => by have := HZ.out.2.2.1 k hk; omega)
        have hcW : Chg No W wa := hc.trans hca (fun k hk e => by have := HZ.out.2.2.2.1; omega)
        clear hB hc hca hv g0 g1 g2 hu
        go_wp2
        go_roundw
        case rel => exact ⟨k + 1, _, by omega, by omega, by go_num, hBa, hva2, hcW⟩
        case measure => simp [intOf]; omega
      · go_wp2
        go_ret
        exact ⟨ret_true (by simp), hc⟩
    · go_wp2
      go_ret
      exact ⟨ret_true (by simp), hc⟩

end Go.Proofs.Ytidjeehjojajmaa
