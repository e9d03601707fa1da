/-
  The walk of CursorRows: several elements handed in at once come out as if they were handed in one by one.
-/
import Derived.Test.YtidjeehjojajmaaLNumbers
namespace Go.Proofs.Ytidjeehjojajmaa
open Go.RowKit

/-- Two writers that lie apart, from block number base on. -/
structure TwoW (base : Nat) (w : World) (a b : Nat) (sa sb : Value) (s t : WS) : Prop where
  wa : Wr w a sa s
  wb : Wr w b sb t
  ne : a ≠ b
  ab : sa.ownBlock ≠ some b
  ba : sb.ownBlock ≠ some a
  ss : ∀ k, sa.ownBlock = some k → sb.ownBlock ≠ some k
  la : ∀ k, Fp a sa k → base ≤ k
  lb : ∀ k, Fp b sb k → base ≤ k
theorem TwoW.swap {base : Nat} {w : World} {a b : Nat} {sa sb : Value} {s t : WS} (h : TwoW base w a b sa sb s t) : TwoW base w b a sb sa t s :=
  ⟨h.wb, h.wa, h.ne.symm, h.ba, h.ab, fun k hk e => h.ss k e hk, h.lb, h.la⟩
theorem TwoW.new {base : Nat} {w w' : World} {a b : Nat} {sa sb : Value} {s t : WS} (h : TwoW base w a b sa sb s t) (c : Chg No w w') : TwoW base w' a b sa sb s t :=
  ⟨h.wa.new c, h.wb.new c, h.ne, h.ab, h.ba, h.ss, h.la, h.lb⟩
theorem TwoW.step {base : Nat} {w w' : World} {a b : Nat} {sa sb sa' : Value} {s s' t : WS} (h : TwoW base w a b sa sb s t) (h1 : Wr w' a sa' s') (st : WStep a w sa w' sa') : TwoW base w' a b sa' sb s' t := by
  have hbl := h.wb.lt
  have hal := h.wa.lt
  have hla : base ≤ a := h.la a (.inl rfl)
  have hb : Wr w' b sb t := h.wb.chg st.chg (fun e => by
    rcases e with e | e
    · exact h.ne e.symm
    · exact h.ab e) (fun k hk e => by
    rcases e with e | e
    · exact h.ba (by rw [hk, e])
    · exact h.ss k e hk)
  refine ⟨h1, hb, h.ne, ?_, h.ba, ?_, ?_, h.lb⟩
  · rcases st.at_ with e | ⟨k, e, hk⟩
    · rw [e]; exact h.ab
    · rw [e]; intro e'; cases e'; omega
  · intro k hk e
    rcases st.at_ with e' | ⟨m, e', hm⟩
    · exact h.ss k (e' ▸ hk) e
    · rw [e'] at hk; cases hk
      have := h.wb.slt _ e; omega
  · intro k hk
    rcases hk with hk | hk
    · rw [hk]; exact hla
    · rcases st.at_ with e' | ⟨m, e', hm⟩
      · exact h.la k (.inr (e' ▸ hk))
      · rw [e'] at hk; cases hk; omega
theorem fp_nil {base a : Nat} (h : base ≤ a) : ∀ k, Fp a (.slice none 0 0) k → base ≤ k := fun k hk => by
  rcases hk with rfl | hk
  · exact h
  · cases hk
/-- Nothing old has turned. -/
theorem chg_step {W w w' : World} {a : Nat} {sa sa' : Value} (c : Chg No W w) (st : WStep a w sa w' sa') (hl : ∀ k, Fp a sa k → W.heap.size ≤ k) : Chg No W w' :=
  c.trans st.chg (fun k hk e => by have := hl k e; omega)
theorem not_fp {W w : World} {α : Type} {enc : α → Value} {a : Nat} {sa v : Value} {xs : List α} (hv : SL enc W v xs) (hl : ∀ k, Fp a sa k → W.heap.size ≤ k) : ∀ k, v.ownBlock = some k → ¬ Fp a sa k := fun k hk e => by
  have h1 := hv.lt k hk
  have h2 := hl k e
  omega

theorem WS.n8_len (s : WS) (n : Int) : (s.n8 n).bs.length ≤ s.bs.length + 8 := WS.put_len s (n8l n)
/-- All that is written, in turn. -/
def rows1 (one : List Int) : WS := one.foldl WS.u1 ⟨[], 0⟩
def rows2 (one two : List Int) : WS := two.foldl WS.u2 (rows1 one)
def rows3 (one two eight : List Int) : WS := eight.foldl WS.n8 (rows2 one two)
def rows4 (one two eight : List Int) (l : List (List UInt8)) : WS := l.foldl WS.txt (rows3 one two eight)
theorem rows1_len (one : List Int) : (rows1 one).bs.length ≤ one.length := by have := foldl_len WS.u1 1 WS.u1_len ⟨[], 0⟩ one; simpa [rows1] using this
theorem rows2_len (one two : List Int) : (rows2 one two).bs.length ≤ one.length + 2 * two.length := by have := foldl_len WS.u2 2 WS.u2_len (rows1 one) two; have := rows1_len one; unfold rows2; omega
theorem rows3_len (one two eight : List Int) : (rows3 one two eight).bs.length ≤ one.length + 2 * two.length + 8 * eight.length := by have := foldl_len WS.n8 8 WS.n8_len (rows2 one two) eight; have := rows2_len one two; unfold rows3; omega

set_option maxRecDepth 100000 in
set_option maxHeartbeats 6400000 in
theorem rows_walk (W : World) (v0 v1 v2 v3 : Value) (one two eight : List Int) (l : List (List UInt8)) (h0 : SL iv W v0 one) (h1 : SL iv W v1 two) (h2 : SL iv W v2 eight) (h3 : SL sv W v3 l)
    (l0 : one.length * 8 ≤ 140737488351232) (l1 : two.length * 8 ≤ 140737488351232) (l2 : eight.length * 8 ≤ 140737488351232) (l3 : l.length ≤ 140737488351232) (hr : ∀ n ∈ eight, -9223372036854775808 ≤ n ∧ n ≤ 9223372036854775807) :
    Calls Try.prog 9 #[v0, v1, v2, v3] W fun e w' => e = .returned (.bool true) ∧ Chg No W w' := by
  obtain ⟨a0, cap0, hv0, -⟩ := id h0
  obtain ⟨a1, cap1, hv1, -⟩ := id h1
  obtain ⟨a2, cap2, hv2, -⟩ := id h2
  obtain ⟨a3, cap3, hv3, -⟩ := id h3
  have H := Lib.hid (And.intro h0 (And.intro h1 (And.intro h2 (And.intro h3 hr))))
  clear h0 h1 h2 h3 hr
  subst hv0; subst hv1; subst hv2; subst hv3
  go_enter Try.func9, Try.ntmps9
  go_wp2_with fail
  refine (known_c W).mono ?_
  rintro e wk ⟨rfl, hck⟩
  go_wp2_with fail
  refine (newWriter wk).mono ?_
  rintro e wm ⟨a, rfl, hA, hAl, hcm⟩
  go_wp2_with fail
  refine (newWriter wm).mono ?_
  rintro e wn ⟨b, rfl, hB, hBl, hcn⟩
  have hal := hA.lt
  have z1 := hck.size
  have z2 := hcm.size
  have hT : TwoW W.heap.size wn a b (.slice none 0 0) (.slice none 0 0) ⟨[], 0⟩ ⟨[], 0⟩ :=
    ⟨hA.new hcn, hB, by omega, (fun e => by cases e), (fun e => by cases e), (fun k hk => by cases hk), fp_nil (by omega), fp_nil (by omega)⟩
  have hc := (hck.then hcm).then hcn
  clear hA hAl hcm hB hBl hcn hal z1 z2 hck
  by_cases hbig : 100 < l.length
  · go_wp2
    go_ret
    exact ⟨rfl, hc⟩
  · go_wp2_with fail
    refine (wU1 a _ _ _ hT.wa _ one (H.out.1.new hc) (not_fp (w := W) H.out.1 hT.la) (by have := l0; unfold WMax; simp; omega) (by omega)).mono ?_
    rintro e w1 ⟨sa1, rfl, hA, hst⟩
    replace hc := chg_step hc hst hT.la
    replace hT := hT.step hA hst
    clear hA hst
    go_wp2_with fail
    refine (wU2 a _ _ _ hT.wa _ two (H.out.2.1.new hc) (not_fp (w := W) H.out.2.1 hT.la) (by have h8 := rows1_len one; unfold rows1 at h8; unfold WMax; omega) (by omega)).mono ?_
    rintro e w2 ⟨sa2, rfl, hA, hst⟩
    replace hc := chg_step hc hst hT.la
    replace hT := hT.step hA hst
    clear hA hst
    go_wp2_with fail
    refine (wN8 a _ _ _ hT.wa _ eight (H.out.2.2.1.new hc) (not_fp (w := W) H.out.2.2.1 hT.la) (by have h8 := rows2_len one two; unfold rows2 rows1 at h8; unfold WMax; omega) (by omega) H.out.2.2.2.2).mono ?_
    rintro e w3 ⟨sa3, rfl, hA, hst⟩
    replace hc := chg_step hc hst hT.la
    replace hT := hT.step hA hst
    clear hA hst
    go_wp2_with fail
    refine (wText a _ _ _ hT.wa _ l (H.out.2.2.2.1.new hc) (not_fp (w := W) H.out.2.2.2.1 hT.la) (by have h8 := rows3_len one two eight; unfold rows3 rows2 rows1 at h8; unfold WMax; omega) l3).mono ?_
    rintro e w4 ⟨sa4, rfl, hA, hst⟩
    replace hc := chg_step hc hst hT.la
    replace hT := hT.step hA hst
    clear hA hst
    change TwoW W.heap.size w4 a b sa4 (.slice none 0 0) (rows4 one two eight l) ⟨[], 0⟩ at hT
    have HT := Lib.hid (And.intro hT hc); clear hT hc
    go_wp2
    go_loopw [11] (fun i wr => ∃ (k : Nat) (sb : Value), k ≤ one.length ∧ i = .int .i64 k ∧ TwoW W.heap.size wr a b sa4 sb (rows4 one two eight l) ((one.take k).foldl WS.u1 ⟨[], 0⟩) ∧ Chg No W wr) (fun i _ => one.length - (intOf i).toNat)
    case atStart => exact ⟨0, _, Nat.zero_le _, rfl, HT.out.1, HT.out.2⟩
    case round =>
      clear HT
      obtain ⟨k, sb, hk, rfl, hT, hc⟩ := hrel
      by_cases hlt : k < one.length
      · obtain ⟨bb, oo, ha, hcell0⟩ := SL.cellAt H.out.1 hc k hlt
        subst ha
        have hcell : wr.cell? ⟨bb, oo + k, none⟩ = some (.int .i64 one[k]) := hcell0
        clear hcell0
        have hnx := foldl_take_succ WS.u1 ⟨[], 0⟩ one k hlt
        have hlen := foldl_len WS.u1 1 WS.u1_len ⟨[], 0⟩ (one.take k)
        rw [List.length_take] at hlen
        
        have hmx : ((one.take k).foldl WS.u1 ⟨[], 0⟩).bs.length + 1 * 1 ≤ WMax := by first | (unfold WMax; omega) | (simp only [List.length_nil] at hlen; unfold WMax; omega)
        generalize (one.take k).foldl WS.u1 ⟨[], 0⟩ = s1 at *
        have HB := Lib.hid (And.intro hnx (And.intro hmx (And.intro hT hc)))
        clear hnx hmx hlen hT hc
        go_wp2_with fail
        refine (wU1 b _ _ s1 (HB.out.2.2.1.wb.new ((Chg.refl _ _).alloc _)) _ [one[k]] (SL.lit (enc := iv) _ 3 [one[k]]) (HB.out.2.2.1.wb.free _ _) HB.out.2.1 (by simp)).mono ?_
        rintro e w2 ⟨sb2, rfl, hw2, hst2⟩
        have hst3 : WStep b _ sb w2 sb2 := (WStep.new ((Chg.refl _ _).alloc _)).trans hst2
        have hT2 := (HB.out.2.2.1.swap.step hw2 hst3).swap
        have hc2 := chg_step HB.out.2.2.2 hst3 HB.out.2.2.1.lb
        clear hw2 hst2 hst3 hcell
        go_wp2
        go_roundw
        case rel => exact ⟨k + 1, sb2, by omega, by go_num, by rw [HB.out.1]; exact hT2, hc2⟩
        case measure => simp [intOf]; omega
      · obtain rfl : k = one.length := by omega
        rw [List.take_length] at hT
        change TwoW W.heap.size _ a b sa4 sb (rows4 one two eight l) (rows1 one) at hT
        have HT := Lib.hid (And.intro hT hc); clear hT hc
        go_wp2
        go_loopw [12] (fun i wr => ∃ (k : Nat) (sb : Value), k ≤ two.length ∧ i = .int .i64 k ∧ TwoW W.heap.size wr a b sa4 sb (rows4 one two eight l) ((two.take k).foldl WS.u2 (rows1 one)) ∧ Chg No W wr) (fun i _ => two.length - (intOf i).toNat)
        case atStart => exact ⟨0, _, Nat.zero_le _, rfl, HT.out.1, HT.out.2⟩
        case round =>
          clear HT
          obtain ⟨k, sb, hk, rfl, hT, hc⟩ := hrel
          by_cases hlt : k < two.length
          · obtain ⟨bb, oo, ha, hcell0⟩ := SL.cellAt H.out.2.1 hc k hlt
            subst ha
            have hcell : wr.cell? ⟨bb, oo + k, none⟩ = some (.int .i64 two[k]) := hcell0
            clear hcell0
            have hnx := foldl_take_succ WS.u2 (rows1 one) two k hlt
            have hlen := foldl_len WS.u2 2 WS.u2_len (rows1 one) (two.take k)
            rw [List.length_take] at hlen
            have h7 := rows1_len one
            have hmx : ((two.take k).foldl WS.u2 (rows1 one)).bs.length + 2 * 1 ≤ WMax := by first | (unfold WMax; omega) | (simp only [List.length_nil] at hlen; unfold WMax; omega)
            generalize (two.take k).foldl WS.u2 (rows1 one) = s1 at *
            have HB := Lib.hid (And.intro hnx (And.intro hmx (And.intro hT hc)))
            clear hnx hmx hlen hT hc h7
            go_wp2_with fail
            refine (wU2 b _ _ s1 (HB.out.2.2.1.wb.new ((Chg.refl _ _).alloc _)) _ [two[k]] (SL.lit (enc := iv) _ 3 [two[k]]) (HB.out.2.2.1.wb.free _ _) HB.out.2.1 (by simp)).mono ?_
            rintro e w2 ⟨sb2, rfl, hw2, hst2⟩
            have hst3 : WStep b _ sb w2 sb2 := (WStep.new ((Chg.refl _ _).alloc _)).trans hst2
            have hT2 := (HB.out.2.2.1.swap.step hw2 hst3).swap
            have hc2 := chg_step HB.out.2.2.2 hst3 HB.out.2.2.1.lb
            clear hw2 hst2 hst3 hcell
            go_wp2
            go_roundw
            case rel => exact ⟨k + 1, sb2, by omega, by go_num, by rw [HB.out.1]; exact hT2, hc2⟩
            case measure => simp [intOf]; omega
          · obtain rfl : k = two.length := by omega
            rw [List.take_length] at hT
            change TwoW W.heap.size _ a b sa4 sb (rows4 one two eight l) (rows2 one two) at hT
            have HT := Lib.hid (And.intro hT hc); clear hT hc
            go_wp2
            go_loopw [13] (fun i wr => ∃ (k : Nat) (sb : Value), k ≤ eight.length ∧ i = .int .i64 k ∧ TwoW W.heap.size wr a b sa4 sb (rows4 one two eight l) ((eight.take k).foldl WS.n8 (rows2 one two)) ∧ Chg No W wr) (fun i _ => eight.length - (intOf i).toNat)
            case atStart => exact ⟨0, _, Nat.zero_le _, rfl, HT.out.1, HT.out.2⟩
            case round =>
              clear HT
              obtain ⟨k, sb, hk, rfl, hT, hc⟩ := hrel
              by_cases hlt : k < eight.length
              · obtain ⟨bb, oo, ha, hcell0⟩ := SL.cellAt H.out.2.2.1 hc k hlt
                subst ha
                have hcell : wr.cell? ⟨bb, oo + k, none⟩ = some (.int .i64 eight[k]) := hcell0
                clear hcell0
                have hnx := foldl_take_succ WS.n8 (rows2 one two) eight k hlt
                have hlen := foldl_len WS.n8 8 WS.n8_len (rows2 one two) (eight.take k)
                rw [List.length_take] at hlen
                have h7 := rows2_len one two
                have hmx : ((eight.take k).foldl WS.n8 (rows2 one two)).bs.length + 8 * 1 ≤ WMax := by first | (unfold WMax; omega) | (simp only [List.length_nil] at hlen; unfold WMax; omega)
                generalize (eight.take k).foldl WS.n8 (rows2 one two) = s1 at *
                have HB := Lib.hid (And.intro hnx (And.intro hmx (And.intro hT hc)))
                clear hnx hmx hlen hT hc h7
                go_wp2_with fail
                refine (wN8 b _ _ s1 (HB.out.2.2.1.wb.new ((Chg.refl _ _).alloc _)) _ [eight[k]] (SL.lit (enc := iv) _ 2 [eight[k]]) (HB.out.2.2.1.wb.free _ _) HB.out.2.1 (by simp) (fun n hn => by simp only [List.mem_singleton] at hn; rw [hn]; exact H.out.2.2.2.2 _ (List.getElem_mem hlt))).mono ?_
                rintro e w2 ⟨sb2, rfl, hw2, hst2⟩
                have hst3 : WStep b _ sb w2 sb2 := (WStep.new ((Chg.refl _ _).alloc _)).trans hst2
                have hT2 := (HB.out.2.2.1.swap.step hw2 hst3).swap
                have hc2 := chg_step HB.out.2.2.2 hst3 HB.out.2.2.1.lb
                clear hw2 hst2 hst3 hcell
                go_wp2
                go_roundw
                case rel => exact ⟨k + 1, sb2, by omega, by go_num, by rw [HB.out.1]; exact hT2, hc2⟩
                case measure => simp [intOf]; omega
              · obtain rfl : k = eight.length := by omega
                rw [List.take_length] at hT
                change TwoW W.heap.size _ a b sa4 sb (rows4 one two eight l) (rows3 one two eight) at hT
                have HT := Lib.hid (And.intro hT hc); clear hT hc
                go_wp2
                go_loopw [14] (fun i wr => ∃ (k : Nat) (sb : Value), k ≤ l.length ∧ i = .int .i64 k ∧ TwoW W.heap.size wr a b sa4 sb (rows4 one two eight l) ((l.take k).foldl WS.txt (rows3 one two eight)) ∧ Chg No W wr) (fun i _ => l.length - (intOf i).toNat)
                case atStart => exact ⟨0, _, Nat.zero_le _, rfl, HT.out.1, HT.out.2⟩
                case round =>
                  clear HT
                  obtain ⟨k, sb, hk, rfl, hT, hc⟩ := hrel
                  by_cases hlt : k < l.length
                  · obtain ⟨bb, oo, ha, hcell0⟩ := SL.cellAt H.out.2.2.2.1 hc k hlt
                    subst ha
                    have hcell : wr.cell? ⟨bb, oo + k, none⟩ = some (.string ⟨l[k].toArray⟩) := hcell0
                    clear hcell0
                    have hnx := foldl_take_succ WS.txt (rows3 one two eight) l k hlt
                    have hlen := foldl_len WS.txt 256 WS.txt_len (rows3 one two eight) (l.take k)
                    rw [List.length_take] at hlen
                    have h7 := rows3_len one two eight
                    have hmx : ((l.take k).foldl WS.txt (rows3 one two eight)).bs.length + 256 * 1 ≤ WMax := by first | (unfold WMax; omega) | (simp only [List.length_nil] at hlen; unfold WMax; omega)
                    generalize (l.take k).foldl WS.txt (rows3 one two eight) = s1 at *
                    have HB := Lib.hid (And.intro hnx (And.intro hmx (And.intro hT hc)))
                    clear hnx hmx hlen hT hc h7
                    go_wp2_with fail
                    refine (wText b _ _ s1 (HB.out.2.2.1.wb.new ((Chg.refl _ _).alloc _)) _ [l[k]] (SL.lit (enc := sv) _ 9 [l[k]]) (HB.out.2.2.1.wb.free _ _) HB.out.2.1 (by simp)).mono ?_
                    rintro e w2 ⟨sb2, rfl, hw2, hst2⟩
                    have hst3 : WStep b _ sb w2 sb2 := (WStep.new ((Chg.refl _ _).alloc _)).trans hst2
                    have hT2 := (HB.out.2.2.1.swap.step hw2 hst3).swap
                    have hc2 := chg_step HB.out.2.2.2 hst3 HB.out.2.2.1.lb
                    clear hw2 hst2 hst3 hcell
                    go_wp2
                    go_roundw
                    case rel => exact ⟨k + 1, sb2, by omega, by go_num, by rw [HB.out.1]; exact hT2, hc2⟩
                    case measure => simp [intOf]; omega
                  · obtain rfl : k = l.length := by omega
                    rw [List.take_length] at hT
                    change TwoW W.heap.size _ a b sa4 sb (rows4 one two eight l) (rows4 one two eight l) at hT
                    have HT := Lib.hid (And.intro hT hc); clear hT hc
                    go_wp2_with fail
                    refine (wDone a _ _ _ HT.out.1.wa (by have h8 := foldl_len WS.txt 256 WS.txt_len (rows3 one two eight) l; have h7 := rows3_len one two eight; unfold rows4; omega)).mono ?_
                    rintro e w5 ⟨x, rfl, hx, hxn, hc5⟩
                    have hT5 := HT.out.1.new hc5
                    go_wp2_with fail
                    refine (wDone b _ _ _ hT5.wb (by have h8 := foldl_len WS.txt 256 WS.txt_len (rows3 one two eight) l; have h7 := rows3_len one two eight; unfold rows4; omega)).mono ?_
                    rintro e w6 ⟨y, rfl, hy, hyn, hc6⟩
                    have hT6 := hT5.new hc6
                    have hs1 := BS.str (P := Try.prog) (hx.new hc6).bs 22 9 5 Try.underlying22 Try.underlying5 Try.underlying9
                    have hs2 := BS.str (P := Try.prog) hy.bs 22 9 5 Try.underlying22 Try.underlying5 Try.underlying9
                    have hcf := (HT.out.2.then hc5).then hc6
                    go_wp2_with fail
                    refine (wLen a _ _ _ hT6.wa).mono ?_
                    rintro e w7 ⟨rfl, rfl⟩
                    go_wp2_with fail
                    refine (wLen b _ _ _ hT6.wb).mono ?_
                    rintro e w8 ⟨rfl, rfl⟩
                    generalize (if (rows4 one two eight l).err = 0 then (rows4 one two eight l).bs else []) = res at *
                    go_wp2
                    go_ret
                    exact ⟨ret_true (by simp), hcf⟩

end Go.Proofs.Ytidjeehjojajmaa
