/-
  The walk of CursorStays: behind its first error a reader answers nothing, and stands where it stood.
-/
import Derived.Test.YtidjeehjojajmaaLNumbers
namespace Go.Proofs.Ytidjeehjojajmaa
open Go.RowKit

theorem tmod_bound (n : Int) (l : Nat) : -((l : Int) + 1) < n.tmod ((l : Int) + 1) ∧ n.tmod ((l : Int) + 1) < (l : Int) + 1 := by
  rcases Int.le_total 0 n with h | h
  · rw [Int.tmod_eq_emod_of_nonneg h]
    have h1 := Int.emod_nonneg n (show ((l : Int) + 1) ≠ 0 by omega)
    have h2 := Int.emod_lt_of_pos n (show 0 < ((l : Int) + 1) by omega)
    omega
  · have e : n.tmod ((l : Int) + 1) = -((-n).tmod ((l : Int) + 1)) := by rw [Int.neg_tmod]; omega
    rw [e, Int.tmod_eq_emod_of_nonneg (by omega)]
    have h1 := Int.emod_nonneg (-n) (show ((l : Int) + 1) ≠ 0 by omega)
    have h2 := Int.emod_lt_of_pos (-n) (show 0 < ((l : Int) + 1) by omega)
    omega
theorem stuck_take (bs : List UInt8) (m : Nat) (n : Int) : RS.take ⟨bs, m, 11⟩ n = ([], ⟨bs, m, 11⟩) := take_err (s := ⟨bs, m, 11⟩) n (by simp)
theorem stuck_text (bs : List UInt8) (m : Nat) : RS.text ⟨bs, m, 11⟩ = ([], ⟨bs, m, 11⟩) := by
  rw [text_bad (by rw [stuck_take, stuck_take]; simp), stuck_take, stuck_take]
theorem cut_take (bs : List UInt8) (m : Nat) (hm : m ≤ bs.length) : RS.take ⟨bs, m, 0⟩ ((bs.length : Int) - m + 1) = ([], ⟨bs, m, 11⟩) := take_cut (s := ⟨bs, m, 0⟩) rfl (by omega) (by simp only; omega)
/-- A reader that has an error answers so. -/
theorem sU1 (T r : Nat) (w : World) (sl : Value) (bs : List UInt8) (m : Nat) (h : Rd T w r sl ⟨bs, m, 11⟩) : Calls Try.prog 16 #[.pointer (some ⟨r, 0, none⟩)] w (Tells T w r sl (.int .i64 0) ⟨bs, m, 11⟩) := by
  have := rU1 T r w sl _ h; rw [stuck_take] at this; exact this
theorem sU2 (T r : Nat) (w : World) (sl : Value) (bs : List UInt8) (m : Nat) (h : Rd T w r sl ⟨bs, m, 11⟩) : Calls Try.prog 15 #[.pointer (some ⟨r, 0, none⟩)] w (Tells T w r sl (.int .i64 0) ⟨bs, m, 11⟩) := by
  have := rU2 T r w sl _ h; rw [stuck_take] at this; exact this
theorem sN8 (T r : Nat) (w : World) (sl : Value) (bs : List UInt8) (m : Nat) (h : Rd T w r sl ⟨bs, m, 11⟩) : Calls Try.prog 14 #[.pointer (some ⟨r, 0, none⟩)] w (Tells T w r sl (.int .i64 0) ⟨bs, m, 11⟩) := by
  have := rN8 T r w sl _ h; rw [stuck_take] at this
  rw [show (0 : Int) = wrap64 ((beN [] : Nat) : Int) from by simp [beN, wrap64]]; exact this
theorem sText (T r : Nat) (w : World) (sl : Value) (bs : List UInt8) (m : Nat) (h : Rd T w r sl ⟨bs, m, 11⟩) : Calls Try.prog 25 #[.pointer (some ⟨r, 0, none⟩)] w (Tells T w r sl (.string ⟨#[]⟩) ⟨bs, m, 11⟩) := by
  have := rText T r w sl _ h; rw [stuck_text] at this; exact this
/-- What Bytes answers where it answers nothing. -/
def Nothing (T : Nat) (w : World) (r : Nat) (sl : Value) (s' : RS) (e : Ending) (w' : World) : Prop :=
  ∃ a cap, e = .returned (.slice a 0 cap) ∧ Rd T w' r sl s' ∧ Chg (· = r) w w'
theorem gives_nothing {T : Nat} {w : World} {r : Nat} {sl : Value} {s : RS} {e : Ending} {w' : World} (h : Gives T w r sl [] s e w') : Nothing T w r sl s e w' := by
  obtain ⟨v, rfl, hv, _, hr, hc⟩ := h
  obtain ⟨a, cap, rfl, _⟩ := hv.bs
  exact ⟨a, cap, rfl, hr, hc⟩
theorem sBytes (T r : Nat) (w : World) (sl : Value) (bs : List UInt8) (m : Nat) (h : Rd T w r sl ⟨bs, m, 11⟩) (n : Int) : Calls Try.prog 20 #[.pointer (some ⟨r, 0, none⟩), .int .i64 n] w (Nothing T w r sl ⟨bs, m, 11⟩) := by
  have := rBytes T r w sl _ h n; rw [stuck_take] at this; exact this.mono fun _ _ h => gives_nothing h
theorem cBytes (T r : Nat) (w : World) (sl : Value) (bs : List UInt8) (m : Nat) (h : Rd T w r sl ⟨bs, m, 0⟩) : Calls Try.prog 20 #[.pointer (some ⟨r, 0, none⟩), .int .i64 ((bs.length : Int) - m + 1)] w (Nothing T w r sl ⟨bs, m, 11⟩) := by
  have := rBytes T r w sl _ h ((bs.length : Int) - m + 1); rw [cut_take bs m h.within] at this; exact this.mono fun _ _ h => gives_nothing h

set_option maxRecDepth 100000 in
set_option maxHeartbeats 3200000 in
theorem stays_walk (W : World) (v0 : Value) (bs : List UInt8) (skip : Int) (a2 : Option Addr) (len2 cap2 : Nat) (hb : BS W v0 bs) (hl : bs.length ≤ 140737488351232) (hg : -9223372036854775808 ≤ skip ∧ skip ≤ 9223372036854775807) (hl2 : len2 ≤ 140737488351232) :
    Calls Try.prog 7 #[v0, .int .i64 skip, .slice a2 len2 cap2] W fun e w' => e = .returned (.bool true) ∧ Chg No W w' := by
  go_enter Try.func7, Try.ntmps7
  go_wp2_with fail
  refine (known_c W).mono ?_
  rintro e w1 ⟨rfl, hc1⟩
  go_wp2_with fail
  refine (newReader w1 v0 bs (hb.new hc1) hl).mono ?_
  rintro e w2 ⟨r, sl, rfl, hr, hrlt, hsl, hc2⟩
  obtain ⟨a0, cap0, hv0, hcap0, -, -⟩ := hb
  subst hv0
  have hbd := tmod_bound skip bs.length
  have hz := hc1.size
  have hcW := hc1.then hc2
  have hlr : W.heap.size ≤ r := by omega
  clear hc1 hc2 hsl hrlt hz
  obtain ⟨n, hn⟩ : ∃ n : Nat, n = (skip.tmod ((bs.length : Int) + 1)).natAbs := ⟨_, rfl⟩
  have hnl : n ≤ bs.length := by omega
  by_cases hneg : skip.tmod ((bs.length : Int) + 1) < 0
  all_goals
    first
      | (have hnn : skip.tmod ((bs.length : Int) + 1) = -(n : Int) := by omega
         have hpos : 0 < n := by omega)
      | (have hnn : skip.tmod ((bs.length : Int) + 1) = (n : Int) := by omega)
    clear hn hneg hbd
    go_wp2_with fail
    refine (rBytes _ r _ sl _ hr n).mono ?_
    rintro e w3 ⟨vx, rfl, hvx, hnx, hr3, hc3⟩
    rw [ntake_ok bs 0 n (by omega)] at hvx hr3
    have hln : ((bs.drop 0).take n).length = n := by rw [List.length_take, List.length_drop]; omega
    obtain ⟨ax, capx, hvx2, -⟩ := hvx.bs
    simp only [hln] at hvx2
    subst hvx2
    replace hr3 : Rd 69 w3 r sl ⟨bs, n, 0⟩ := by rw [Nat.zero_add] at hr3; exact hr3
    have hc3W := hcW.trans hc3 (fun k hk e => by omega)
    clear hr hvx hnx hln hc3
    go_wp2_with fail
    refine (cBytes _ r _ sl bs n hr3).mono ?_
    rintro e w4 ⟨ay, capy, rfl, hr4, hc4⟩
    have hc4W := hc3W.trans hc4 (fun k hk e => by omega)
    go_wp2_with fail
    refine (rErr _ r _ sl _ hr4).mono ?_
    rintro e w5 ⟨rfl, rfl⟩
    go_wp2_with fail
    refine (rAt _ r _ sl _ hr4).mono ?_
    rintro e w6 ⟨rfl, rfl⟩
    have HX := Lib.hid (And.intro hr4 hc4W)
    clear hr3 hc3W hr4 hc4W hc4 hcW hnn
    go_wp2
    go_loopw [10] (fun i wr => ∃ k : Nat, k ≤ 100 ∧ i = .int .i64 k ∧ Rd 69 wr r sl ⟨bs, n, 11⟩ ∧ Chg No W wr) (fun i _ => 100 - (intOf i).toNat)
    case atStart => exact ⟨0, Nat.zero_le _, rfl, HX.out.1, HX.out.2⟩
    case round =>
      obtain ⟨k, hk, rfl, hr, hc⟩ := hrel
      by_cases hlt : k < len2
      · by_cases hlt2 : k < 100
        · have hk0 := hlr
          go_wp2_with fail
          refine (sU1 _ r _ sl bs n hr).mono ?_
          rintro e wa ⟨rfl, hra, hca⟩
          have hcaW := hc.trans hca (fun k hk e => by omega)
          go_wp2_with fail
          refine (sU2 _ r _ sl bs n hra).mono ?_
          rintro e wb ⟨rfl, hrb, hcb⟩
          have hcbW := hcaW.trans hcb (fun k hk e => by omega)
          go_wp2_with fail
          refine (sN8 _ r _ sl bs n hrb).mono ?_
          rintro e wc ⟨rfl, hrc, hcc⟩
          have hccW := hcbW.trans hcc (fun k hk e => by omega)
          go_wp2_with fail
          refine (sBytes _ r _ sl bs n hrc _).mono ?_
          rintro e wd ⟨ad, capd, rfl, hrd, hcd⟩
          have hcdW := hccW.trans hcd (fun k hk e => by omega)
          go_wp2_with fail
          refine (sBytes _ r _ sl bs n hrd _).mono ?_
          rintro e we ⟨ae, cape, rfl, hre, hce⟩
          have hceW := hcdW.trans hce (fun k hk e => by omega)
          go_wp2_with fail
          refine (sText _ r _ sl bs n hre).mono ?_
          rintro e wf ⟨rfl, hrf, hcf⟩
          have hcfW := hceW.trans hcf (fun k hk e => by omega)
          go_wp2_with fail
          refine (rAt _ r _ sl _ hrf).mono ?_
          rintro e wg ⟨rfl, rfl⟩
          clear hca hcb hcc hcd hce hcf hra hrb hrc hrd hre hcaW hcbW hccW hcdW hceW hr hc
          go_wp2_with fail
          refine (rLeft _ r _ sl _ hrf).mono ?_
          rintro e wh ⟨rfl, q, rfl⟩
          have hrh := hrf.drewN q
          have hch := hcfW.drewN q
          go_wp2_with fail
          refine (rErr _ r _ sl _ hrh).mono ?_
          rintro e wi ⟨rfl, rfl⟩
          go_wp2
          go_roundw
          case rel => exact ⟨k + 1, by omega, by go_num, hrh, hch⟩
          case measure => simp [intOf]; omega
        · go_wp2
          go_ret
          exact ⟨rfl, hc⟩
      · go_wp2
        go_ret
        exact ⟨rfl, hc⟩

end Go.Proofs.Ytidjeehjojajmaa
