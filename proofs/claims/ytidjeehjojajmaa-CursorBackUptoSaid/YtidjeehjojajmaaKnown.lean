/-
  The chapter's first example, as the laws ask it ahead of all else: 'known' answers true, and nothing that was there has turned.
-/
import Derived.Test.YtidjeehjojajmaaXwr
namespace Go.Proofs.Ytidjeehjojajmaa
open Go.RowKit

theorem ret_true {b : Bool} (h : b = true) : Ending.returned (.bool b) = .returned (.bool true) := by rw [h]
theorem SL.cellAt {α : Type} {enc : α → Value} {W w : World} {a : Option Addr} {n cap : Nat} {xs : List α} (h : SL enc W (.slice a n cap) xs) (c : Chg No W w) (k : Nat) (hk : k < xs.length) : ∃ b o, a = some ⟨b, o, none⟩ ∧ w.cell? ⟨b, o + k, none⟩ = some (enc xs[k]) := by
  obtain ⟨a', cap', he, h1, h2, h3⟩ := h.new c
  cases he
  exact SL.cell h3 h2 h1 k hk
theorem SL.lit {α : Type} {enc : α → Value} (w : World) (T : Nat) (xs : List α) : SL enc (w.alloc (.cells (xs.map enc).toArray T)) (.slice (some ⟨w.heap.size, 0, none⟩) xs.length xs.length) xs := by
  refine ⟨_, _, rfl, Nat.le_refl _, (fun h => by cases h), fun p hp => ?_⟩
  cases hp
  refine ⟨rfl, by simp, fun j u hj => ?_⟩
  rw [add_mk, Nat.zero_add]
  simpa using hj

theorem known_put : (([(258 : Int)]).foldl WS.u2 ⟨[], 0⟩) = ⟨[1, 2], 0⟩ := by rfl
theorem known_txt : (([([97, 98] : List UInt8)]).foldl WS.txt ⟨[1, 2], 0⟩) = ⟨[1, 2, 2, 97, 98], 0⟩ := by rfl
theorem known_r1 : (RS.take ⟨[1, 2, 2, 97, 98], 0, 0⟩ 2) = ([1, 2], ⟨[1, 2, 2, 97, 98], 2, 0⟩) := by rfl
theorem known_r2 : (RS.text ⟨[1, 2, 2, 97, 98], 2, 0⟩) = ([97, 98], ⟨[1, 2, 2, 97, 98], 5, 0⟩) := by rfl
theorem known_r3 : (RS.take ⟨[1, 2, 2, 97, 98], 5, 0⟩ 1) = ([], ⟨[1, 2, 2, 97, 98], 5, 11⟩) := by rfl

set_option maxHeartbeats 1000000 in
theorem known_c (w : World) : Calls Try.prog 12 #[] w fun e w' => e = .returned (.bool true) ∧ Chg No w w' := by
  go_enter Try.func12, Try.ntmps12
  go_wp2_with fail
  refine (newWriter w).mono ?_
  rintro e w1 ⟨b, rfl, hw1, hb1, hc1⟩
  go_wp2_with fail
  refine (wU2 b _ _ _ (hw1.new ((Chg.refl _ _).alloc _)) _ [258] (SL.lit (enc := iv) w1 3 [258]) (hw1.free _ _) (by decide) (by decide)).mono ?_
  rintro e w2 ⟨sl2, rfl, hw2, hst2⟩
  rw [known_put] at hw2
  have hst2 : WStep b w1 (.slice none 0 0) w2 sl2 := (WStep.new ((Chg.refl _ _).alloc _)).trans hst2
  go_wp2_with fail
  refine (wText b _ _ _ (hw2.new ((Chg.refl _ _).alloc _)) _ [[97, 98]] (SL.lit (enc := sv) w2 9 [[97, 98]]) (hw2.free _ _) (by decide) (by decide)).mono ?_
  rintro e w3 ⟨sl3, rfl, hw3, hst3⟩
  rw [known_txt] at hw3
  have hst3 : WStep b w1 (.slice none 0 0) w3 sl3 := hst2.trans ((WStep.new ((Chg.refl _ _).alloc _)).trans hst3)
  go_wp2_with fail
  refine (wDone b _ _ _ hw3 (by decide)).mono ?_
  rintro e w4 ⟨v, rfl, hv, hn4, hc4⟩
  replace hv : OB w4 v [1, 2, 2, 97, 98] := hv
  have hs := BS.str (P := Try.prog) hv.bs 22 9 5 Try.underlying22 Try.underlying5 Try.underlying9
  have HC : Chg No w w4 := (hc1.trans hst3.chg (fun n hn hf => by
    rcases hf with hf | hf
    · omega
    · cases hf)).then hc4
  have HS4 := HC.size
  replace HC := Lib.hid HC
  clear hst2 hst3 hc4 hc1
  go_wp2_with fail
  refine (newReader _ _ _ hv.bs (by decide)).mono ?_
  rintro e w5 ⟨r, sl, rfl, hr, hlt, hsl, hc5⟩
  replace HC := Lib.hid (HC.out.then hc5)
  go_wp2_with fail
  refine (rU2 _ r _ sl _ hr).mono ?_
  rintro e w6 ⟨rfl, hr6, hc6⟩
  rw [known_r1] at hr6
  go_wp2_with fail
  refine (rText _ r _ sl _ hr6).mono ?_
  rintro e w7 ⟨rfl, hr7, hc7⟩
  rw [known_r2] at hr7
  go_wp2_with fail
  refine (rU1 _ r _ sl _ hr7).mono ?_
  rintro e w8 ⟨rfl, hr8, hc8⟩
  rw [known_r3] at hr8
  go_wp2_with fail
  refine (rErr _ r _ sl _ hr8).mono ?_
  rintro e w9 ⟨rfl, rfl⟩
  go_wp2_with fail
  refine (rAt _ r _ sl _ hr8).mono ?_
  rintro e w10 ⟨rfl, rfl⟩
  go_wp2
  go_ret
  have hs4 := HC.out.size
  refine ⟨rfl, HC.out.trans ((hc6.trans hc7 (fun _ _ h => h)).trans hc8 (fun _ _ h => h)) (fun n hn hf => ?_)⟩
  have h1 := hlt
  have h2 : w.heap.size ≤ w4.heap.size := HS4
  omega

end Go.Proofs.Ytidjeehjojajmaa
