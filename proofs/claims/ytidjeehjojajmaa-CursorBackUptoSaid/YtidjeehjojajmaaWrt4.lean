/-
  The writer's Text: each text behind its length, the first that is too long ends it.
-/
import Derived.Test.YtidjeehjojajmaaWrt3
namespace Go.Proofs.Ytidjeehjojajmaa
open Go.RowKit

theorem WS.txt_stays {s : WS} (h : s.err ≠ 0) (t : List UInt8) : s.txt t = s := by
  unfold WS.txt; split
  · exact WS.fail_no h 5
  · exact WS.put_no h _
theorem WS.txt_len (s : WS) (t : List UInt8) : (s.txt t).bs.length ≤ s.bs.length + 256 := by
  unfold WS.txt; split
  · rw [WS.fail_bs]; omega
  · have := WS.put_len s (nb t.length :: t); rw [List.length_cons] at this; omega

set_option maxHeartbeats 800000 in
theorem wText (b : Nat) (w : World) (sl : Value) (s : WS) (h : Wr w b sl s) (v : Value) (ns : List (List UInt8)) (hv : SL sv w v ns) (hd : ∀ k, v.ownBlock = some k → ¬ Fp b sl k) (hm : s.bs.length + 256 * ns.length ≤ WMax) (hsm : ns.length ≤ 140737488351232) :
    Calls Try.prog 30 #[.pointer (some ⟨b, 0, none⟩), v] w (Wrote b w sl (ns.foldl WS.txt s)) := by
  have HV := Lib.hid hv
  have HS := Lib.hid h
  obtain ⟨a, cap, rfl, hcap, hnil, hcells⟩ := hv
  have HD := Lib.hid (And.intro hd (And.intro hnil hcells)); clear hd hnil hcells
  have HM := Lib.hid hm; clear hm h
  go_enter Try.func30, Try.ntmps30
  go_wp2
  go_loopw [8] (fun i wr => ∃ (k : Nat) (sl1 : Value), k ≤ ns.length ∧ i = .int .i64 k ∧ Wr wr b sl1 ((ns.take k).foldl WS.txt s) ∧ WStep b w sl wr sl1) (fun i _ => ns.length - (intOf i).toNat)
  case atStart => exact ⟨0, sl, Nat.zero_le _, rfl, HS.out, WStep.refl _ _ _⟩
  case round =>
    obtain ⟨k, sl1, hk, rfl, hw, hst⟩ := hrel
    by_cases hlt : k < ns.length
    · have hv1 : SL sv wr (.slice a ns.length cap) ns := HV.out.chg hst.chg HD.out.1
      obtain ⟨a', cap', he, hcap', hnil', hcells'⟩ := hv1
      cases he
      obtain ⟨bb, oo, rfl, hcell0⟩ := SL.cell (enc := sv) hcells' hnil' hcap' k hlt
      have hcell : wr.cell? ⟨bb, oo + k, none⟩ = some (.string ⟨ns[k].toArray⟩) := hcell0
      clear hcell0 hcells' hnil'
      have hbad := foldl_bad WS.txt (fun s h x => WS.txt_stays h x) s ns k hlt
      have hnx := foldl_take_succ WS.txt s ns k hlt
      have hlen := foldl_len WS.txt 256 WS.txt_len s (ns.take k)
      have hmx := HM.out
      rw [List.length_take] at hlen
      have hmx2 : ((ns.take k).foldl WS.txt s).bs.length + 256 ≤ WMax := by omega
      generalize (ns.take k).foldl WS.txt s = s1 at *
      generalize ns[k] = t at *
      have HB := Lib.hid (And.intro hbad (And.intro hnx (And.intro hmx2 (And.intro hw hst)))); clear hbad hnx hmx2 hmx hlen hst
      have HK := Lib.hid hk; clear hk
      by_cases hlo : 255 < t.length
      · go_wp2_with (go_at_call 43; refine (wfail b _ sl1 s1 hw _).mono ?_; rintro e w2 ⟨sl2, rfl, hw2, hst2⟩)
        refine bodyPost_ret (results_none rfl _ _ _) rfl ?_
        have hu : s1.txt t = s1.fail 5 := by unfold WS.txt; rw [if_pos hlo]
        refine ⟨sl2, rfl, ?_, HB.out.2.2.2.2.trans hst2⟩
        rw [HB.out.1 (by rw [hu]; exact WS.fail_stays (by omega)), hu]; exact hw2
      · have hu : s1.txt t = (s1.put [nb t.length]).put t := by unfold WS.txt; rw [if_neg hlo, WS.put_put]; rfl
        have hln := WS.put_len s1 [nb t.length]
        have HU := Lib.hid (And.intro hu hln); clear hu hln
        have hlo' : t.length ≤ 255 := by omega
        have hm1 : s1.bs.length + [nb (t.length : Int)].length ≤ WMax := by have := HB.out.2.2.1; simp; omega
        have HM1 := Lib.hid hm1; clear hm1
        go_wp2_with fail
        refine (wput b _ sl1 s1 (hw.new ((Chg.refl _ _).alloc _)) _ _ (.inl (bs_lit1 _ (t.length : Int) (by omega) (by omega))) HM1.out).mono ?_
        rintro e w2 ⟨sl2, rfl, hw2, hst2⟩
        obtain ⟨v3, w3, hcv, hb3, hc3, hn3⟩ := str_bytes (P := Try.prog) w2 t 9 22 5 Try.underlying9 Try.underlying22 Try.underlying5
        have hm2 : (s1.put [nb (t.length : Int)]).bs.length + t.length ≤ WMax := by have h1 := HB.out.2.2.1; have h2 := HU.out.2; simp only [List.length_cons, List.length_nil] at h2; omega
        have HM2 := Lib.hid hm2; clear hm2
        go_wp2_with fail
        refine (wput b _ sl2 _ (hw2.new hc3) _ _ (.inl hb3) HM2.out).mono ?_
        rintro e w4 ⟨sl4, rfl, hw4, hst4⟩
        go_wp2
        go_roundw
        case rel => exact ⟨k + 1, sl4, by omega, by go_num, by rw [HB.out.2.1, HU.out.1]; exact hw4, HB.out.2.2.2.2.trans ((WStep.new ((Chg.refl _ _).alloc _)).trans (hst2.trans ((WStep.new hc3).trans hst4)))⟩
        case measure => simp [intOf]; omega
    · obtain rfl : k = ns.length := by omega
      rw [List.take_length] at hw
      go_wp2
      go_end0
      exact ⟨sl1, rfl, hw, hst⟩

end Go.Proofs.Ytidjeehjojajmaa
