/-
  The walk of CursorBack: what was written is read again by the same calls, and nothing is left.
-/
import Derived.Test.YtidjeehjojajmaaEnc
import Derived.Test.YtidjeehjojajmaaLReads
namespace Go.Proofs.Ytidjeehjojajmaa
open Go.RowKit

theorem rLeftC (T r : Nat) (w : World) (sl : Value) (s : RS) (h : Rd T w r sl s) :
    Calls Try.prog 19 #[.pointer (some ⟨r, 0, none⟩)] w fun e w' => e = .returned (.int .i64 ((s.bs.length : Int) - s.at_)) ∧ Rd T w' r sl s ∧ Chg No w w' :=
  (rLeft T r w sl s h).mono fun _ _ ⟨h1, n, h2⟩ => ⟨h1, by rw [h2]; exact h.drewN n, by rw [h2]; exact (Chg.refl _ _).drewN n⟩
theorem ret_bool {a b : Bool} (h : a = b) : Ending.returned (.bool b) = .returned (.bool a) := by rw [h]

set_option maxRecDepth 100000 in
set_option maxHeartbeats 800000 in
theorem right_c (w : World) (c : Item) (v : Value) (hv : ∃ a cap, v = .slice a c.b.length cap) :
    Calls Try.prog 32 #[.agg #[.int .i64 c.kind, .int .i64 c.n, v]] w fun e w' => e = .returned (.bool (rightI c)) ∧ Chg No w w' := by
  obtain ⟨a, cap, rfl⟩ := hv
  obtain ⟨kind, n, b⟩ := c
  have HC := Lib.hid ((Chg.refl No w).alloc (.cells #[.int .i64 kind, .int .i64 n, .slice a b.length cap] 48))
  by_cases k1 : kind = 1
  · subst k1
    have hs : rightI ⟨1, n, b⟩ = (decide (0 ≤ n) && decide (n < 256)) := by unfold rightI; simp
    by_cases h0 : 0 ≤ n
    · by_cases h1 : n < 256
      · have HS := Lib.hid (hs.trans (by simp [h0, h1] : _ = true)); clear hs
        go_enter Try.func32, Try.ntmps32
        go_wp2
        go_ret
        exact ⟨ret_bool (HS.out.trans (by simp [h0, h1])), HC.out⟩
      · have HS := Lib.hid (hs.trans (by simp [h1] : _ = false)); clear hs
        go_enter Try.func32, Try.ntmps32
        go_wp2
        go_ret
        exact ⟨ret_bool (HS.out.trans (by simp [h1])), HC.out⟩
    · have HS := Lib.hid (hs.trans (by simp [h0] : _ = false)); clear hs
      go_enter Try.func32, Try.ntmps32
      go_wp2
      go_ret
      exact ⟨ret_bool (HS.out.trans (by simp [h0])), HC.out⟩
  by_cases k2 : kind = 2
  · subst k2
    have hs : rightI ⟨2, n, b⟩ = (decide (0 ≤ n) && decide (n < 65536)) := by unfold rightI; simp
    by_cases h0 : 0 ≤ n
    · by_cases h1 : n < 65536
      · have HS := Lib.hid (hs.trans (by simp [h0, h1] : _ = true)); clear hs
        go_enter Try.func32, Try.ntmps32
        go_wp2
        go_ret
        exact ⟨ret_bool (HS.out.trans (by simp [h0, h1])), HC.out⟩
      · have HS := Lib.hid (hs.trans (by simp [h1] : _ = false)); clear hs
        go_enter Try.func32, Try.ntmps32
        go_wp2
        go_ret
        exact ⟨ret_bool (HS.out.trans (by simp [h1])), HC.out⟩
    · have HS := Lib.hid (hs.trans (by simp [h0] : _ = false)); clear hs
      go_enter Try.func32, Try.ntmps32
      go_wp2
      go_ret
      exact ⟨ret_bool (HS.out.trans (by simp [h0])), HC.out⟩
  by_cases k5 : kind = 5
  · subst k5
    have hs : rightI ⟨5, n, b⟩ = decide (b.length < 256) := by unfold rightI; simp
    by_cases h0 : b.length < 256
    · have HS := Lib.hid (hs.trans (by simp [h0] : _ = true)); clear hs
      go_enter Try.func32, Try.ntmps32
      go_wp2
      go_ret
      exact ⟨ret_bool (HS.out.trans (by simp; omega)), HC.out⟩
    · have HS := Lib.hid (hs.trans (by simp [h0] : _ = false)); clear hs
      go_enter Try.func32, Try.ntmps32
      go_wp2
      go_ret
      exact ⟨ret_bool (HS.out.trans (by simp; omega)), HC.out⟩
  have e1 : (kind == 1) = false := by simpa using k1
  have e2 : (kind == 2) = false := by simpa using k2
  have e5 : (kind == 5) = false := by simpa using k5
  have hs : rightI ⟨kind, n, b⟩ = (decide (kind = 3) || decide (kind = 4)) := by unfold rightI; simp [k1, k2, k5]
  have HS := Lib.hid hs; clear hs
  by_cases k3 : kind = 3
  · subst k3
    go_enter Try.func32, Try.ntmps32
    go_wp2
    go_ret
    exact ⟨ret_bool (HS.out.trans (by simp)), HC.out⟩
  by_cases k4 : kind = 4
  · subst k4
    go_enter Try.func32, Try.ntmps32
    go_wp2
    go_ret
    exact ⟨ret_bool (HS.out.trans (by simp)), HC.out⟩
  have e3 : (kind == 3) = false := by simpa using k3
  have e4 : (kind == 4) = false := by simpa using k4
  go_enter Try.func32, Try.ntmps32
  go_wp2
  go_ret
  exact ⟨ret_bool (HS.out.trans (by simp [k3, k4])), HC.out⟩

theorem right1 {c : Item} (h : rightI c = true) (k : c.kind = 1) : encI c = [nb c.n] ∧ 0 ≤ c.n ∧ c.n < 256 := by
  unfold rightI at h; rw [if_pos k] at h; simp only [Bool.and_eq_true, decide_eq_true_eq] at h
  exact ⟨by unfold encI; rw [if_pos k], h⟩
theorem right2 {c : Item} (h : rightI c = true) (k : c.kind = 2) : encI c = [nb (c.n / 256), nb (c.n % 256)] ∧ 0 ≤ c.n ∧ c.n < 65536 := by
  unfold rightI at h; rw [if_neg (by omega), if_pos k] at h; simp only [Bool.and_eq_true, decide_eq_true_eq] at h
  exact ⟨by unfold encI; rw [if_neg (by omega), if_pos k], h⟩
theorem right3 {c : Item} (k : c.kind = 3) : encI c = n8l c.n := by unfold encI; rw [if_neg (by omega), if_neg (by omega), if_pos k]
theorem right4 {c : Item} (k : c.kind = 4) : encI c = c.b := by unfold encI; rw [if_neg (by omega), if_neg (by omega), if_neg (by omega), if_pos k]
theorem right5 {c : Item} (h : rightI c = true) (k : c.kind = 5) : encI c = nb c.b.length :: c.b ∧ c.b.length < 256 := by
  unfold rightI at h; rw [if_neg (by omega), if_neg (by omega), if_pos k] at h; simp only [decide_eq_true_eq] at h
  exact ⟨by unfold encI; rw [if_neg (by omega), if_neg (by omega), if_neg (by omega), if_neg (by omega)], h⟩
theorem right_kind {c : Item} (h : rightI c = true) : c.kind = 1 ∨ c.kind = 2 ∨ c.kind = 3 ∨ c.kind = 4 ∨ c.kind = 5 := by
  unfold rightI at h
  by_cases k1 : c.kind = 1
  · exact .inl k1
  by_cases k2 : c.kind = 2
  · exact .inr (.inl k2)
  by_cases k5 : c.kind = 5
  · exact .inr (.inr (.inr (.inr k5)))
  rw [if_neg k1, if_neg k2, if_neg k5] at h
  simp only [Bool.or_eq_true, decide_eq_true_eq] at h
  omega
/-- The reader's place ahead of the call's bytes. -/
abbrev RAt (A : List UInt8) (c : Item) (C : List UInt8) : RS := ⟨A ++ encI c ++ C, A.length, 0⟩
abbrev RBe (A : List UInt8) (c : Item) (C : List UInt8) : RS := ⟨A ++ encI c ++ C, (A ++ encI c).length, 0⟩
theorem take_item (A : List UInt8) (c : Item) (C : List UInt8) (n : Int) (hn : n = (encI c).length) : (RAt A c C).take n = (encI c, RBe A c C) := by
  have := take_enc A (encI c) C n hn
  rw [this, ← List.length_append]
theorem backU1 (r : Nat) (w : World) (sl : Value) (A C : List UInt8) (c : Item) (h : Rd 69 w r sl (RAt A c C)) (hr : rightI c = true) (k : c.kind = 1) :
    Calls Try.prog 16 #[.pointer (some ⟨r, 0, none⟩)] w (Tells 69 w r sl (.int .i64 c.n) (RBe A c C)) := by
  obtain ⟨h1, h2, h3⟩ := right1 hr k
  have := rU1 _ r w sl _ h
  rw [take_item A c C 1 (by rw [h1]; rfl)] at this
  simp only [h1, beN1 h2 h3] at this ⊢
  exact this
theorem backU2 (r : Nat) (w : World) (sl : Value) (A C : List UInt8) (c : Item) (h : Rd 69 w r sl (RAt A c C)) (hr : rightI c = true) (k : c.kind = 2) :
    Calls Try.prog 15 #[.pointer (some ⟨r, 0, none⟩)] w (Tells 69 w r sl (.int .i64 c.n) (RBe A c C)) := by
  obtain ⟨h1, h2, h3⟩ := right2 hr k
  have := rU2 _ r w sl _ h
  rw [take_item A c C 2 (by rw [h1]; rfl)] at this
  simp only [h1, beN2 h2 h3] at this ⊢
  exact this
theorem backN8 (r : Nat) (w : World) (sl : Value) (A C : List UInt8) (c : Item) (h : Rd 69 w r sl (RAt A c C)) (hr : -9223372036854775808 ≤ c.n ∧ c.n ≤ 9223372036854775807) (k : c.kind = 3) :
    Calls Try.prog 14 #[.pointer (some ⟨r, 0, none⟩)] w (Tells 69 w r sl (.int .i64 c.n) (RBe A c C)) := by
  have h1 := right3 k
  have := rN8 _ r w sl _ h
  rw [take_item A c C 8 (by rw [h1]; rfl)] at this
  simp only [h1, beN8 hr.1 hr.2] at this ⊢
  exact this
theorem backBytes (r : Nat) (w : World) (sl : Value) (A C : List UInt8) (c : Item) (h : Rd 69 w r sl (RAt A c C)) (k : c.kind = 4) :
    Calls Try.prog 20 #[.pointer (some ⟨r, 0, none⟩), .int .i64 c.b.length] w (Gives 69 w r sl c.b (RBe A c C)) := by
  have h1 := right4 k
  have := rBytes _ r w sl _ h c.b.length
  rw [take_item A c C c.b.length (by rw [h1])] at this
  simp only [h1] at this ⊢
  exact this
theorem backText (r : Nat) (w : World) (sl : Value) (A C : List UInt8) (c : Item) (h : Rd 69 w r sl (RAt A c C)) (hr : rightI c = true) (k : c.kind = 5) :
    Calls Try.prog 25 #[.pointer (some ⟨r, 0, none⟩)] w (Tells 69 w r sl (.string ⟨c.b.toArray⟩) (RBe A c C)) := by
  obtain ⟨h1, h2⟩ := right5 hr k
  have := rText _ r w sl _ h
  have ht := text_enc A c.b C h2
  rw [← h1] at ht
  rw [show (RAt A c C).text = (c.b, RBe A c C) from by rw [ht, ← List.length_append]] at this
  exact this
theorem encs_zero (xs : List Item) : (encs xs 0).length = 0 := by simp [encs]
theorem step_lo {W w w2 : World} {b : Nat} {sb sb2 : Value} (hc : Chg No W w) (hlo : ∀ j, Fp b sb j → W.heap.size ≤ j) (st : WStep b w sb w2 sb2) : ∀ j, Fp b sb2 j → W.heap.size ≤ j := fun j hj => by
  rcases hj with hj | hj
  · exact hlo j (.inl hj)
  · rcases st.at_ with e | ⟨i, e, hi⟩
    · exact hlo j (.inr (e ▸ hj))
    · rw [e] at hj; cases hj; have := hc.size; omega

set_option maxRecDepth 100000 in
set_option maxHeartbeats 6400000 in
theorem back_walk (W : World) (v0 : Value) (xs : List Item) (hx : IS W v0 xs) (hr : ∀ x ∈ xs, -9223372036854775808 ≤ x.n ∧ x.n ≤ 9223372036854775807) (hs : (xs.map fun x => x.b.length).sum ≤ 1048576) :
    Calls Try.prog 11 #[v0] W fun e w' => e = .returned (.bool true) ∧ Chg No W w' := by
  obtain ⟨a1, cap1, hv1, hcap1, -, -⟩ := id hx
  have HX := Lib.hid (And.intro hx (And.intro hr hs))
  clear hx hr hs
  subst hv1
  go_enter Try.func11, Try.ntmps11
  go_wp2_with fail
  refine (known_c W).mono ?_
  rintro e w1 ⟨rfl, hc1⟩
  go_wp2_with fail
  refine (newWriter w1).mono ?_
  rintro e w2 ⟨b, rfl, hB, hbl, hc2⟩
  have z1 := hc1.size
  have HZ := Lib.hid (And.intro hB (And.intro (hc1.then hc2) (fp_nil (base := W.heap.size) (a := b) (by omega))))
  clear hB hbl hc1 hc2 z1
  go_wp2
  go_loopw [5, 4] (fun i m wr => ∃ (k : Nat) (sb : Value), k ≤ xs.length ∧ k ≤ 300 ∧ i = .int .i64 k ∧ m = .int .i64 (encs xs k).length ∧ Wr wr b sb ⟨encs xs k, 0⟩ ∧ (∀ j, Fp b sb j → W.heap.size ≤ j) ∧ Chg No W wr ∧ (∀ j (h : j < xs.length), j < k → rightI xs[j] = true)) (fun i _ _ => 300 - (intOf i).toNat)
  case atStart => exact ⟨0, _, Nat.zero_le _, Nat.zero_le _, rfl, rfl, HZ.out.1, HZ.out.2.2, HZ.out.2.1, fun j _ h => absurd h (Nat.not_lt_zero j)⟩
  case round =>
    clear HZ
    obtain ⟨k, sb, hk, hk3, rfl, rfl, hB, hlo, hc, hall⟩ := hrel
    have hall := Lib.hid hall
    by_cases hin : k < xs.length ∧ k < 300
    · obtain ⟨hlt, hlt2⟩ := hin
      · obtain ⟨bb, oo, cs, rfl, hcl, ⟨u, rfl, hu⟩, hbl, hcell⟩ := SLn.cells HX.out.1 k hlt
        have g0 := (hc.cell (p := ⟨bb, oo + (k * 3 + 0), none⟩) hbl (fun h => h)).trans (hcell 0 _ rfl)
        have g1 := (hc.cell (p := ⟨bb, oo + (k * 3 + 1), none⟩) hbl (fun h => h)).trans (hcell 1 _ rfl)
        have g2 := (hc.cell (p := ⟨bb, oo + (k * 3 + 2), none⟩) hbl (fun h => h)).trans (hcell 2 _ rfl)
        rw [Nat.add_zero] at g0
        rw [← Nat.add_assoc] at g1 g2
        obtain ⟨au, capu, hue⟩ := hu.form
        have hnr := HX.out.2.1 xs[k] (List.getElem_mem hlt)
        subst hue
        have HP := Lib.hid (And.intro hB (And.intro hlo (And.intro hc (And.intro hu (And.intro hnr hbl)))))
        clear hcell hcl hB hlo hc hu hnr
        go_wp2_with fail
        refine (right_c _ xs[k] _ ⟨au, capu, rfl⟩).mono ?_
        rintro e wa ⟨rfl, hca⟩
        have g0' := (hca.cell (p := ⟨bb, oo + k * 3, none⟩) (Nat.lt_of_lt_of_le HP.out.2.2.2.2.2 HP.out.2.2.1.size) (fun h => h)).trans g0
        have g1' := (hca.cell (p := ⟨bb, oo + k * 3 + 1, none⟩) (Nat.lt_of_lt_of_le HP.out.2.2.2.2.2 HP.out.2.2.1.size) (fun h => h)).trans g1
        have g2' := (hca.cell (p := ⟨bb, oo + k * 3 + 2, none⟩) (Nat.lt_of_lt_of_le HP.out.2.2.2.2.2 HP.out.2.2.1.size) (fun h => h)).trans g2
        have HA := Lib.hid hca
        clear hca g0 g1 g2
        cases hrt : rightI xs[k] with
        | false =>
          go_wp2
          go_ret
          exact ⟨rfl, HP.out.2.2.1.then HA.out⟩
        | true =>
          have hnx := encs_succ xs k hlt
          have hit : WS.item ⟨encs xs k, 0⟩ xs[k] = ⟨encs xs (k + 1), 0⟩ := by rw [item_enc _ hrt, WS.put_yes rfl, hnx]
          have hel := encs_len xs (k + 1) (by omega)
          have hs3 := HX.out.2.2
          have hll : (encs xs (k + 1)).length = (encs xs k).length + (encI xs[k]).length := by rw [hnx, List.length_append]
          have hbs : xs[k].b.length ≤ 1048576 := by
            have h1 := sum_take_succ xs k hlt
            have h2 := sum_take_le xs (k + 1)
            omega
          have hlk : (encs xs k).length ≤ 1050976 := by omega
          have hal : ∀ j (h : j < xs.length), j < k + 1 → rightI xs[j] = true := fun j h hj => by
            by_cases e : j < k
            · exact hall.out j h e
            · have : j = k := by omega
              subst this; exact hrt
          have hA := (HP.out.1.new HA.out).new ((Chg.refl _ _).alloc (.cells #[.int .i64 xs[k].kind, .int .i64 xs[k].n, .slice au xs[k].b.length capu] 48))
          have hcA := (HP.out.2.2.1.then HA.out).alloc (.cells #[.int .i64 xs[k].kind, .int .i64 xs[k].n, .slice au xs[k].b.length capu] 48)
          have hWa := HP.out.1.new HA.out
          have HT := Lib.hid (And.intro hA (And.intro hcA (And.intro HP.out.2.1 (And.intro hal (And.intro hWa (And.intro HP.out.2.2.2.2.1 HP.out.2.2.2.1))))))
          have HE := Lib.hid (And.intro hit (And.intro hll hlk))
          have hkind := right_kind hrt
          clear hnx hit hel hs3 hll hal hA hcA hWa HA HP
          by_cases k1 : xs[k].kind = 1
          · have HU : WS.u1 ⟨encs xs k, 0⟩ xs[k].n = ⟨encs xs (k + 1), 0⟩ := by rw [← HE.out.1]; unfold WS.item; rw [if_pos k1]
            have hl1 : (encs xs (k + 1)).length = (encs xs k).length + 1 := by rw [HE.out.2.1, (right1 hrt k1).1]; rfl
            replace HU := Lib.hid (And.intro HU hl1); clear hl1
            have ek : (xs[k].kind == 1) = true := by simp [k1]
            have HK := Lib.hid hkind
            clear hkind k1
            have hW0 := (HT.out.1).new ((Chg.refl _ _).alloc (.cells #[.int .i64 xs[k].n] 3))
            go_wp2_with fail
            refine (wU1 b _ _ _ hW0 _ [xs[k].n] (lit_at (enc := iv) wa _ 3 [xs[k].n]) (free_at HT.out.1 _ _) (by have := HE.out.2.2; unfold WMax; simp only [List.length_cons, List.length_nil]; omega) (by simp)).mono ?_
            rintro e w2 ⟨sb2, rfl, h2, st2⟩
            replace h2 : Wr w2 b sb2 (WS.u1 ⟨encs xs k, 0⟩ xs[k].n) := h2
            replace st2 := (WStep.new ((Chg.refl _ _).alloc _)).trans st2
            rw [HU.out.1] at h2
            have HD := Lib.hid (And.intro h2 (And.intro (chg_step HT.out.2.1 st2 HT.out.2.2.1) (step_lo HT.out.2.1 HT.out.2.2.1 st2)))
            clear h2 st2 hW0
            have hlk := HE.out.2.2
            go_wp2
            go_roundw
            case rel => exact ⟨k + 1, sb2, by omega, by omega, by go_num, by rw [HU.out.2]; go_num, HD.out.1, HD.out.2.2, HD.out.2.1, HT.out.2.2.2.1⟩
            case measure => simp [intOf]; omega
          by_cases k2 : xs[k].kind = 2
          · have HU : WS.u2 ⟨encs xs k, 0⟩ xs[k].n = ⟨encs xs (k + 1), 0⟩ := by rw [← HE.out.1]; unfold WS.item; rw [if_neg k1, if_pos k2]
            have hl1 : (encs xs (k + 1)).length = (encs xs k).length + 2 := by rw [HE.out.2.1, (right2 hrt k2).1]; rfl
            replace HU := Lib.hid (And.intro HU hl1); clear hl1
            have e1 : (xs[k].kind == 1) = false := by simp [k1]
            have ek : (xs[k].kind == 2) = true := by simp [k2]
            have HK := Lib.hid hkind
            clear hkind k2
            have hW0 := (HT.out.1).new ((Chg.refl _ _).alloc (.cells #[.int .i64 xs[k].n] 3))
            go_wp2_with fail
            refine (wU2 b _ _ _ hW0 _ [xs[k].n] (lit_at (enc := iv) wa _ 3 [xs[k].n]) (free_at HT.out.1 _ _) (by have := HE.out.2.2; unfold WMax; simp only [List.length_cons, List.length_nil]; omega) (by simp)).mono ?_
            rintro e w2 ⟨sb2, rfl, h2, st2⟩
            replace h2 : Wr w2 b sb2 (WS.u2 ⟨encs xs k, 0⟩ xs[k].n) := h2
            replace st2 := (WStep.new ((Chg.refl _ _).alloc _)).trans st2
            rw [HU.out.1] at h2
            have HD := Lib.hid (And.intro h2 (And.intro (chg_step HT.out.2.1 st2 HT.out.2.2.1) (step_lo HT.out.2.1 HT.out.2.2.1 st2)))
            clear h2 st2 hW0
            have hlk := HE.out.2.2
            go_wp2
            go_roundw
            case rel => exact ⟨k + 1, sb2, by omega, by omega, by go_num, by rw [HU.out.2]; go_num, HD.out.1, HD.out.2.2, HD.out.2.1, HT.out.2.2.2.1⟩
            case measure => simp [intOf]; omega
          by_cases k3 : xs[k].kind = 3
          · have HU : WS.n8 ⟨encs xs k, 0⟩ xs[k].n = ⟨encs xs (k + 1), 0⟩ := by rw [← HE.out.1]; unfold WS.item; rw [if_neg k1, if_neg k2, if_pos k3]
            have hl1 : (encs xs (k + 1)).length = (encs xs k).length + 8 := by rw [HE.out.2.1, right3 k3]; rfl
            replace HU := Lib.hid (And.intro HU hl1); clear hl1
            have e1 : (xs[k].kind == 1) = false := by simp [k1]
            have e2 : (xs[k].kind == 2) = false := by simp [k2]
            have ek : (xs[k].kind == 3) = true := by simp [k3]
            have HK := Lib.hid hkind
            clear hkind k3
            have hW0 := (HT.out.1).new ((Chg.refl _ _).alloc (.cells #[.int .i64 xs[k].n] 2))
            go_wp2_with fail
            refine (wN8 b _ _ _ hW0 _ [xs[k].n] (lit_at (enc := iv) wa _ 2 [xs[k].n]) (free_at HT.out.1 _ _) (by have := HE.out.2.2; unfold WMax; simp only [List.length_cons, List.length_nil]; omega) (by simp) (fun m hm => by simp only [List.mem_singleton] at hm; rw [hm]; exact HT.out.2.2.2.2.2.1)).mono ?_
            rintro e w2 ⟨sb2, rfl, h2, st2⟩
            replace h2 : Wr w2 b sb2 (WS.n8 ⟨encs xs k, 0⟩ xs[k].n) := h2
            replace st2 := (WStep.new ((Chg.refl _ _).alloc _)).trans st2
            rw [HU.out.1] at h2
            have HD := Lib.hid (And.intro h2 (And.intro (chg_step HT.out.2.1 st2 HT.out.2.2.1) (step_lo HT.out.2.1 HT.out.2.2.1 st2)))
            clear h2 st2 hW0
            have hlk := HE.out.2.2
            go_wp2
            go_roundw
            case rel => exact ⟨k + 1, sb2, by omega, by omega, by go_num, by rw [HU.out.2]; go_num, HD.out.1, HD.out.2.2, HD.out.2.1, HT.out.2.2.2.1⟩
            case measure => simp [intOf]; omega
          by_cases k4 : xs[k].kind = 4
          · have HU : WS.put ⟨encs xs k, 0⟩ xs[k].b = ⟨encs xs (k + 1), 0⟩ := by rw [← HE.out.1]; unfold WS.item; rw [if_neg k1, if_neg k2, if_neg k3, if_pos k4]
            have hl1 : (encs xs (k + 1)).length = (encs xs k).length + xs[k].b.length := by rw [HE.out.2.1, right4 k4]
            replace HU := Lib.hid (And.intro HU hl1); clear hl1
            have e1 : (xs[k].kind == 1) = false := by simp [k1]
            have e2 : (xs[k].kind == 2) = false := by simp [k2]
            have e3 : (xs[k].kind == 3) = false := by simp [k3]
            have ek : (xs[k].kind == 4) = true := by simp [k4]
            clear hkind k4
            go_wp2_with fail
            refine (wBytes b _ _ _ HT.out.1 _ xs[k].b (HT.out.2.2.2.2.2.2.new HT.out.2.1) (by have := HE.out.2.2; unfold WMax; simp only; omega)).mono ?_
            rintro e w2 ⟨sb2, rfl, h2, st2⟩
            rw [HU.out.1] at h2
            have hbx : w2.cell? ⟨wa.heap.size, 2, none⟩ = some (.slice au xs[k].b.length capu) := box_cellw HT.out.2.2.2.2.1 st2 2
            have HD := Lib.hid (And.intro h2 (And.intro (chg_step HT.out.2.1 st2 HT.out.2.2.1) (step_lo HT.out.2.1 HT.out.2.2.1 st2)))
            clear h2 st2
            have hlk := HE.out.2.2
            go_wp2
            go_roundw
            case rel => exact ⟨k + 1, sb2, by omega, by omega, by go_num, by rw [HU.out.2]; go_num, HD.out.1, HD.out.2.2, HD.out.2.1, HT.out.2.2.2.1⟩
            case measure => simp [intOf]; omega
          have k5 : xs[k].kind = 5 := by omega
          · have HU : WS.txt ⟨encs xs k, 0⟩ xs[k].b = ⟨encs xs (k + 1), 0⟩ := by rw [← HE.out.1]; unfold WS.item; rw [if_neg k1, if_neg k2, if_neg k3, if_neg k4, if_pos k5]
            have hl1 : (encs xs (k + 1)).length = (encs xs k).length + (xs[k].b.length + 1) := by rw [HE.out.2.1, (right5 hrt k5).1]; rfl
            replace HU := Lib.hid (And.intro HU hl1); clear hl1
            have e1 : (xs[k].kind == 1) = false := by simp [k1]
            have e2 : (xs[k].kind == 2) = false := by simp [k2]
            have e3 : (xs[k].kind == 3) = false := by simp [k3]
            have e4 : (xs[k].kind == 4) = false := by simp [k4]
            have ek : (xs[k].kind == 5) = true := by simp [k5]
            clear hkind k5
            have hs1 := BW.str (P := Try.prog) (HT.out.2.2.2.2.2.2.new HT.out.2.1) 22 9 5 Try.underlying22 Try.underlying5 Try.underlying9
            have hW0 := (HT.out.1).new ((Chg.refl _ _).alloc (.cells #[.string ⟨xs[k].b.toArray⟩] 9))
            go_wp2_with fail
            refine (wText b _ _ _ hW0 _ [xs[k].b] (lit_at (enc := sv) wa _ 9 [xs[k].b]) (free_at HT.out.1 _ _) (by have := HE.out.2.2; unfold WMax; simp only [List.length_cons, List.length_nil]; omega) (by simp)).mono ?_
            rintro e w2 ⟨sb2, rfl, h2, st2⟩
            replace h2 : Wr w2 b sb2 (WS.txt ⟨encs xs k, 0⟩ xs[k].b) := h2
            replace st2 := (WStep.new ((Chg.refl _ _).alloc _)).trans st2
            rw [HU.out.1] at h2
            have hbx : w2.cell? ⟨wa.heap.size, 2, none⟩ = some (.slice au xs[k].b.length capu) := box_cellw HT.out.2.2.2.2.1 st2 2
            have HD := Lib.hid (And.intro h2 (And.intro (chg_step HT.out.2.1 st2 HT.out.2.2.1) (step_lo HT.out.2.1 HT.out.2.2.1 st2)))
            clear h2 st2 hW0 hs1
            have hlk := HE.out.2.2
            go_wp2
            go_roundw
            case rel => exact ⟨k + 1, sb2, by omega, by omega, by go_num, by rw [HU.out.2]; go_num, HD.out.1, HD.out.2.2, HD.out.2.1, HT.out.2.2.2.1⟩
            case measure => simp [intOf]; omega
    · have hbd := encs_len xs k hk3
      have hsum := HX.out.2.2
      have hlk : (encs xs k).length ≤ 1050976 := by omega
      clear hbd hsum
      have HB := Lib.hid (And.intro hB hc)
      have hcases : ¬ k < xs.length ∨ (k < xs.length ∧ ¬ k < 300) := by omega
      clear hB hc hin hlo
      rcases hcases with hend | ⟨hend, hend2⟩
      all_goals
        have HE := Lib.hid (show ∀ j, j < k → j < xs.length ∧ j < 300 from fun j hj => by omega)
        have HF := Lib.hid (show ¬ k < xs.length ∨ (k < xs.length ∧ ¬ k < 300) from by omega)
        go_wp2_with fail
        clear hend
        try clear hend2
        refine (wDone b _ _ _ HB.out.1 (by simp only; omega)).mono ?_
        rintro e wd ⟨v, rfl, hv, hvn, hcd⟩
        replace hv : OB wd v (encs xs k) := hv
        have hBd := HB.out.1.new hcd
        have hcW := HB.out.2.then hcd
        obtain ⟨av, capv, hvv, -⟩ := hv.bs
        subst hvv
        have HV := Lib.hid (And.intro hv (And.intro hBd hcW))
        clear hv hvn hcd hBd hcW HB
        go_wp2_with fail
        refine (wLen b wd _ _ HV.out.2.1).mono ?_
        rintro e we ⟨rfl, rfl⟩
        go_wp2_with fail
        refine (newReader _ _ (encs xs k) HV.out.1.bs (by omega)).mono ?_
        rintro e wr2 ⟨r, sr, rfl, hrd, hrl, -, hcr⟩
        have HR := Lib.hid (And.intro hrd (And.intro (HV.out.2.2.then hcr) (Nat.le_trans HV.out.2.2.size hrl)))
        clear hrd hrl hcr HV
        go_wp2
        go_loopw [10] (fun i wq => ∃ (j : Nat), j ≤ k ∧ i = .int .i64 j ∧ Rd 69 wq r sr ⟨encs xs k, (encs xs j).length, 0⟩ ∧ Chg No W wq) (fun i _ => k - (intOf i).toNat)
        case atStart => exact ⟨0, Nat.zero_le _, rfl, by rw [encs_zero]; exact HR.out.1, HR.out.2.1⟩
        case round =>
          obtain ⟨j, hj, rfl, hrd, hc⟩ := hrel
          have hrb := HR.out.2.2
          clear HR
          by_cases hlt : j < k
          · obtain ⟨hlen, hj3⟩ := HE.out j hlt
            obtain ⟨bb, oo, cs, rfl, hcl, ⟨u, rfl, hu⟩, hbl, hcell⟩ := SLn.cells HX.out.1 j hlen
            have g0 := (hc.cell (p := ⟨bb, oo + (j * 3 + 0), none⟩) hbl (fun h => h)).trans (hcell 0 _ rfl)
            have g1 := (hc.cell (p := ⟨bb, oo + (j * 3 + 1), none⟩) hbl (fun h => h)).trans (hcell 1 _ rfl)
            have g2 := (hc.cell (p := ⟨bb, oo + (j * 3 + 2), none⟩) hbl (fun h => h)).trans (hcell 2 _ rfl)
            rw [Nat.add_zero] at g0
            rw [← Nat.add_assoc] at g1 g2
            obtain ⟨au, capu, hue⟩ := hu.form
            have hnr := HX.out.2.1 xs[j] (List.getElem_mem hlen)
            subst hue
            have hrt := hall.out j hlen hlt
            obtain ⟨C, hC⟩ := encs_split xs j k hlt hk
            have hsx := encs_succ xs j hlen
            rw [hC] at hrd
            have hcA := hc.alloc (.cells #[.int .i64 xs[j].kind, .int .i64 xs[j].n, .slice au xs[j].b.length capu] 48)
            have hA : Rd 69 _ r sr (RAt (encs xs j) xs[j] C) := hrd.new ((Chg.refl _ _).alloc (.cells #[.int .i64 xs[j].kind, .int .i64 xs[j].n, .slice au xs[j].b.length capu] 48))
            have hrlt := hrd.lt
            have hkind := right_kind hrt
            have HT := Lib.hid (And.intro hA (And.intro hcA (And.intro hrt (And.intro hnr (And.intro hu (And.intro hC hsx))))))
            clear hcell hcl hrd hc hu hnr hrt hC hsx hA hcA
            have HRL := Lib.hid (And.intro hrlt hrb)
            clear hrlt hrb
            by_cases k1 : xs[j].kind = 1
            · have hcall := backU1 r _ sr (encs xs j) C xs[j] HT.out.1.drew HT.out.2.2.1 k1
              have ek : (xs[j].kind == 1) = true := by simp [k1]
              clear hkind k1
              have HC := Lib.hid hcall
              clear hcall
              go_wp2
              go_region_with (go_at_call 16; refine HC.out.mono ?_; rintro e w1 ⟨rfl, h1, c1⟩; have hbx := box_cell HRL.out.1 c1 1)
              all_goals
                have HD := Lib.hid (And.intro h1 (HT.out.2.1.drew.trans c1 (fun q hq e => by have := HRL.out.2; omega)))
                clear h1 c1
                go_wp2
                go_roundw
                case rel => exact ⟨j + 1, by omega, by go_num, by rw [HT.out.2.2.2.2.2.1, HT.out.2.2.2.2.2.2]; exact HD.out.1, HD.out.2⟩
                case measure => simp [intOf]; omega
            by_cases k2 : xs[j].kind = 2
            · have hcall := backU2 r _ sr (encs xs j) C xs[j] HT.out.1.drew HT.out.2.2.1 k2
              have e1 : (xs[j].kind == 1) = false := by simp [k1]
              have ek : (xs[j].kind == 2) = true := by simp [k2]
              clear hkind k2
              have HC := Lib.hid hcall
              clear hcall
              go_wp2
              go_region_with (go_at_call 15; refine HC.out.mono ?_; rintro e w1 ⟨rfl, h1, c1⟩; have hbx := box_cell HRL.out.1 c1 1)
              all_goals
                have HD := Lib.hid (And.intro h1 (HT.out.2.1.drew.trans c1 (fun q hq e => by have := HRL.out.2; omega)))
                clear h1 c1
                go_wp2
                go_roundw
                case rel => exact ⟨j + 1, by omega, by go_num, by rw [HT.out.2.2.2.2.2.1, HT.out.2.2.2.2.2.2]; exact HD.out.1, HD.out.2⟩
                case measure => simp [intOf]; omega
            by_cases k3 : xs[j].kind = 3
            · have hcall := backN8 r _ sr (encs xs j) C xs[j] HT.out.1.drew HT.out.2.2.2.1 k3
              have e1 : (xs[j].kind == 1) = false := by simp [k1]
              have e2 : (xs[j].kind == 2) = false := by simp [k2]
              have ek : (xs[j].kind == 3) = true := by simp [k3]
              clear hkind k3
              have HC := Lib.hid hcall
              clear hcall
              go_wp2
              go_region_with (go_at_call 14; refine HC.out.mono ?_; rintro e w1 ⟨rfl, h1, c1⟩; have hbx := box_cell HRL.out.1 c1 1)
              all_goals
                have HD := Lib.hid (And.intro h1 (HT.out.2.1.drew.trans c1 (fun q hq e => by have := HRL.out.2; omega)))
                clear h1 c1
                go_wp2
                go_roundw
                case rel => exact ⟨j + 1, by omega, by go_num, by rw [HT.out.2.2.2.2.2.1, HT.out.2.2.2.2.2.2]; exact HD.out.1, HD.out.2⟩
                case measure => simp [intOf]; omega
            by_cases k4 : xs[j].kind = 4
            · have hcall := backBytes r _ sr (encs xs j) C xs[j] HT.out.1.drew k4
              have e1 : (xs[j].kind == 1) = false := by simp [k1]
              have e2 : (xs[j].kind == 2) = false := by simp [k2]
              have e3 : (xs[j].kind == 3) = false := by simp [k3]
              have ek : (xs[j].kind == 4) = true := by simp [k4]
              clear hkind k4
              have HC := Lib.hid hcall
              clear hcall
              have hs0 := BW.str (P := Try.prog) (HT.out.2.2.2.2.1.new HT.out.2.1.drew) 22 9 5 Try.underlying22 Try.underlying5 Try.underlying9
              go_wp2
              go_region_with (go_at_call 20; refine HC.out.mono ?_; rintro e w1 ⟨v1, rfl, q1, q2, h1, c1⟩; have hbx := box_cell HRL.out.1 c1 2; have HD := Lib.hid (And.intro h1 (HT.out.2.1.drew.trans c1 (fun q hq e => by have := HRL.out.2; omega))); have hs1 := BS.str (P := Try.prog) q1.bs 22 9 5 Try.underlying22 Try.underlying5 Try.underlying9; have hs2 := BW.str (P := Try.prog) (HT.out.2.2.2.2.1.new HD.out.2) 22 9 5 Try.underlying22 Try.underlying5 Try.underlying9; clear h1 c1 q1 q2)
              all_goals
                go_wp2
                go_roundw
                case rel => exact ⟨j + 1, by omega, by go_num, by rw [HT.out.2.2.2.2.2.1, HT.out.2.2.2.2.2.2]; exact HD.out.1, HD.out.2⟩
                case measure => simp [intOf]; omega
            have k5 : xs[j].kind = 5 := by omega
            · have hcall := backText r _ sr (encs xs j) C xs[j] HT.out.1.drew HT.out.2.2.1 k5
              have e1 : (xs[j].kind == 1) = false := by simp [k1]
              have e2 : (xs[j].kind == 2) = false := by simp [k2]
              have e3 : (xs[j].kind == 3) = false := by simp [k3]
              have e4 : (xs[j].kind == 4) = false := by simp [k4]
              have ek : (xs[j].kind == 5) = true := by simp [k5]
              clear hkind k5
              have HC := Lib.hid hcall
              clear hcall
              have hs0 := BW.str (P := Try.prog) (HT.out.2.2.2.2.1.new HT.out.2.1.drew) 22 9 5 Try.underlying22 Try.underlying5 Try.underlying9
              go_wp2
              go_region_with (go_at_call 25; refine HC.out.mono ?_; rintro e w1 ⟨rfl, h1, c1⟩; have hbx := box_cell HRL.out.1 c1 2; have HD := Lib.hid (And.intro h1 (HT.out.2.1.drew.trans c1 (fun q hq e => by have := HRL.out.2; omega))); have hs2 := BW.str (P := Try.prog) (HT.out.2.2.2.2.1.new HD.out.2) 22 9 5 Try.underlying22 Try.underlying5 Try.underlying9; clear h1 c1)
              all_goals
                go_wp2
                go_roundw
                case rel => exact ⟨j + 1, by omega, by go_num, by rw [HT.out.2.2.2.2.2.1, HT.out.2.2.2.2.2.2]; exact HD.out.1, HD.out.2⟩
                case measure => simp [intOf]; omega
          · obtain rfl : j = k := by omega
            have HZ := Lib.hid hc
            clear hc hlt hj
            rcases HF.out with hend | ⟨hend, hend2⟩
            all_goals
              go_wp2_with fail
              clear hend
              try clear hend2
              refine (rLeftC _ r _ sr _ hrd).mono ?_
              rintro e wf ⟨rfl, hrf, hcf⟩
              go_wp2_with fail
              refine (rAt _ r _ sr _ hrf).mono ?_
              rintro e wg ⟨rfl, rfl⟩
              go_wp2_with fail
              refine (rErr _ r _ sr _ hrf).mono ?_
              rintro e wg ⟨rfl, rfl⟩
              go_wp2
              go_ret
              exact ⟨ret_true (by simp), HZ.out.then hcf⟩

end Go.Proofs.Ytidjeehjojajmaa
