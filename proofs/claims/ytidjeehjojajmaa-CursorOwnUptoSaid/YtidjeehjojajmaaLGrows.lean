/-
  The walk of CursorGrows: a writer that is written to behind Done goes on where it stood; one with an error has it for good.
-/
import Derived.Test.YtidjeehjojajmaaLRows
namespace Go.Proofs.Ytidjeehjojajmaa
open Go.RowKit

theorem bytes_cat (a b : List UInt8) : (ByteArray.mk a.toArray) ++ (ByteArray.mk b.toArray) = ByteArray.mk (a ++ b).toArray := by
  apply ByteArray.ext
  simp
/-- What Done told lies apart from the writer. -/
theorem Wr.done_free {w : World} {b : Nat} {sl v : Value} {s : WS} (h : Wr w b sl s) (hn : ∀ k, v.ownBlock = some k → w.heap.size ≤ k) : ∀ k, v.ownBlock = some k → ¬ Fp b sl k := fun k hk e => by
  have h1 := hn k hk
  rcases e with e | e
  · have := h.lt; omega
  · have := h.slt k e; omega

set_option maxRecDepth 100000 in
set_option maxHeartbeats 6400000 in
theorem grows_walk (W : World) (v0 v1 : Value) (l m : List UInt8) (bad : Int) (h0 : BS W v0 l) (h1 : BS W v1 m) (hl : l.length ≤ 1048576) (hm : m.length ≤ 1048576) (hb : -9223372036854775808 ≤ bad ∧ bad ≤ 9223372036854775807) :
    Calls Try.prog 8 #[v0, v1, .int .i64 bad] W fun e w' => e = .returned (.bool true) ∧ Chg No W w' := by
  have H := Lib.hid (And.intro h0 h1)
  clear h0 h1
  go_enter Try.func8, Try.ntmps8
  go_wp2_with fail
  refine (known_c W).mono ?_
  rintro e wk ⟨rfl, hck⟩
  go_wp2_with fail
  refine (newWriter wk).mono ?_
  rintro e w1 ⟨b, rfl, hw1, hbl, hc1⟩
  have hcW1 := hck.then hc1
  have hlo1 : ∀ k, Fp b (.slice none 0 0) k → W.heap.size ≤ k := fp_nil (by have := hck.size; omega)
  go_wp2_with fail
  refine (wBytes b w1 _ _ hw1 v0 l (.inl (H.out.1.new hcW1)) (by unfold WMax; simp; omega)).mono ?_
  rintro e w2 ⟨sl2, rfl, hw2, hst2⟩
  have hcW2 := chg_step hcW1 hst2 hlo1
  rw [WS.put_yes (s := ⟨[], 0⟩) rfl] at hw2
  replace hw2 : Wr w2 b sl2 ⟨l, 0⟩ := hw2
  go_wp2_with fail
  refine (wDone b w2 _ _ hw2 (by simp only; omega)).mono ?_
  rintro e w3 ⟨x, rfl, hx, hxn, hc3⟩
  replace hx : OB w3 x l := hx
  have hw3 := hw2.new hc3
  have hcW3 := hcW2.then hc3
  go_wp2_with fail
  refine (wBytes b w3 _ _ hw3 v1 m (.inl (H.out.2.new hcW3)) (by unfold WMax; simp; omega)).mono ?_
  rintro e w4 ⟨sl4, rfl, hw4, hst4⟩
  have hlo3 : ∀ k, Fp b sl2 k → W.heap.size ≤ k := fun k hk => by
    rcases hk with hk | hk
    · exact hlo1 k (.inl hk)
    · rcases hst2.at_ with e | ⟨j, e, hj⟩
      · exact hlo1 k (.inr (e ▸ hk))
      · rw [e] at hk; cases hk; have := hcW1.size; omega
  have hcW4 := chg_step hcW3 hst4 hlo3
  rw [WS.put_yes (s := ⟨l, 0⟩) rfl] at hw4
  replace hw4 : Wr w4 b sl4 ⟨l ++ m, 0⟩ := hw4
  have hx4 : OB w4 x l := hx.chg hst4.chg (hw2.done_free hxn)
  have hlo4 : ∀ k, Fp b sl4 k → W.heap.size ≤ k := fun k hk => by
    rcases hk with hk | hk
    · exact hlo1 k (.inl hk)
    · rcases hst4.at_ with e | ⟨j, e, hj⟩
      · exact hlo3 k (.inr (e ▸ hk))
      · rw [e] at hk; cases hk; have := hcW3.size; omega
  clear hw1 hbl hc1 hst2 hlo1 hw2 hx hxn hc3 hw3 hst4 hlo3 hck hcW1 hcW2 hcW3
  go_wp2_with fail
  refine (wDone b w4 _ _ hw4 (by simp only [List.length_append]; omega)).mono ?_
  rintro e w5 ⟨y, rfl, hy, hyn, hc5⟩
  replace hy : OB w5 y (l ++ m) := hy
  have hw5 := hw4.new hc5
  have hcW5 := hcW4.then hc5
  have hs1 := BS.str (P := Try.prog) (hx4.new hc5).bs 22 9 5 Try.underlying22 Try.underlying5 Try.underlying9
  have hs2 := BS.str (P := Try.prog) hy.bs 22 9 5 Try.underlying22 Try.underlying5 Try.underlying9
  have hs3 := BS.str (P := Try.prog) (H.out.1.new hcW5) 22 9 5 Try.underlying22 Try.underlying5 Try.underlying9
  have hs4 := BS.str (P := Try.prog) (H.out.2.new hcW5) 22 9 5 Try.underlying22 Try.underlying5 Try.underlying9
  have hcat := bytes_cat l m
  have HZ := Lib.hid (And.intro hw5 (And.intro hy (And.intro hcW5 hlo4)))
  clear hw5 hy hcW5 hlo4 hx4 hw4 hcW4 hc5 hyn
  go_wp2_with fail
  clear hs1 hs2 hs3 hs4 hcat
  have hlen : (l ++ m).length ≤ 2097152 := by rw [List.length_append]; omega
  generalize hlm : l ++ m = lm at *
  refine (wU1 b _ _ _ (HZ.out.1.new ((Chg.refl _ _).alloc _)) _ [bad] (SL.lit (enc := iv) w5 3 [bad]) (HZ.out.1.free _ _) (by unfold WMax; simp only [List.length_cons, List.length_nil]; omega) (by simp)).mono ?_
  rintro e w6 ⟨sl6, rfl, hw6, hst6⟩
  replace hw6 : Wr w6 b sl6 (WS.u1 ⟨lm, 0⟩ bad) := hw6
  have hst6 : WStep b w5 sl4 w6 sl6 := (WStep.new ((Chg.refl _ _).alloc _)).trans hst6
  have hcW6 := chg_step HZ.out.2.2.1 hst6 HZ.out.2.2.2
  obtain ⟨ay, capy, hyv, -⟩ := HZ.out.2.1.bs
  by_cases hgood : 0 ≤ bad ∧ bad ≤ 255
  · obtain ⟨hg0, hg1⟩ := hgood
    have hg2 : bad < 256 := by omega
    rw [show WS.u1 ⟨lm, 0⟩ bad = ⟨lm ++ [nb bad], 0⟩ from by unfold WS.u1; rw [if_neg (by omega), WS.put_yes rfl]] at hw6
    go_wp2_with fail
    refine (wDone b w6 _ _ hw6 (by simp only [List.length_append, List.length_cons, List.length_nil]; omega)).mono ?_
    rintro e w7 ⟨z, rfl, hz, hzn, hc7⟩
    replace hz : OB w7 z (lm ++ [nb bad]) := hz
    have hcW7 := hcW6.then hc7
    have hln : (lm ++ [nb bad]).length = lm.length + 1 := by simp
    obtain ⟨az, capz, hzv, hz1, hz2, hz3⟩ := hz.bs
    obtain ⟨bz, oz, haz, hcell⟩ := SL.cell (enc := bv) hz3 hz2 hz1 lm.length (by omega)
    have hel : (lm ++ [nb bad])[lm.length]'(by omega) = nb bad := by simp
    rw [hel] at hcell
    have hcell2 : w7.cell? ⟨bz, oz + lm.length, none⟩ = some (.int .u8 bad) := by rw [hcell]; unfold bv; rw [nb_toNat hg0 hg1]
    subst haz
    rw [hln] at hzv hz1
    have HF := Lib.hid hcW7
    clear hcell hz1 hz2 hz3 hz hzn hc7 hcW7 hcW6 hw6 hst6 hel hln
    subst hyv
    subst hzv
    go_wp2
    go_ret
    exact ⟨rfl, HF.out⟩
  · have hbad : bad < 0 ∨ 256 ≤ bad := by omega
    rw [show WS.u1 ⟨lm, 0⟩ bad = ⟨lm, 1⟩ from by unfold WS.u1; rw [if_pos (by omega), WS.fail_yes rfl]] at hw6
    have hlo6 : ∀ k, Fp b sl6 k → W.heap.size ≤ k := fun k hk => by
      rcases hk with hk | hk
      · exact HZ.out.2.2.2 k (.inl hk)
      · rcases hst6.at_ with e | ⟨j, e, hj⟩
        · exact HZ.out.2.2.2 k (.inr (e ▸ hk))
        · rw [e] at hk; cases hk; have := HZ.out.2.2.1.size; omega
    go_wp2_with fail
    refine (wDone b w6 _ _ hw6 (by simp only; omega)).mono ?_
    rintro e w7 ⟨z, rfl, hz, hzn, hc7⟩
    replace hz : OB w7 z [] := hz
    have hw7 := hw6.new hc7
    have hcW7 := hcW6.then hc7
    obtain ⟨az, capz, hzv, -⟩ := hz.bs
    subst hyv
    subst hzv
    clear hgood
    rcases hbad with hbad | hbad
    all_goals
      go_wp2_with fail
      refine (wBytes b w7 _ _ hw7 v0 l (.inl (H.out.1.new hcW7)) (by unfold WMax; simp only; omega)).mono ?_
      rintro e w8 ⟨sl8, rfl, hw8, hst8⟩
      have hcW8 := chg_step hcW7 hst8 hlo6
      rw [WS.put_no (s := ⟨lm, 1⟩) (by simp)] at hw8
      go_wp2_with fail
      refine (wDone b w8 _ _ hw8 (by simp only; omega)).mono ?_
      rintro e w9 ⟨u, rfl, hu, hun, hc9⟩
      replace hu : OB w9 u [] := hu
      obtain ⟨au, capu, huv, -⟩ := hu.bs
      have hw9 := hw8.new hc9
      have hcW9 := hcW8.then hc9
      subst huv
      clear hz hzn hc7 hw7 hcW7 hst8 hw8 hcW8 hun hc9 hcW6 hst6 hw6 hlo6
      go_wp2_with fail
      refine (wLen b w9 _ _ hw9).mono ?_
      rintro e w10 ⟨rfl, rfl⟩
      go_wp2
      go_ret
      exact ⟨rfl, hcW9⟩

end Go.Proofs.Ytidjeehjojajmaa
