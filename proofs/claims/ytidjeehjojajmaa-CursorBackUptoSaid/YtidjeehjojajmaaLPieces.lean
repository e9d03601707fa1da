/-
  The walk of CursorPieces: bytes read in pieces of any lengths are the bytes.
-/
import Derived.Test.YtidjeehjojajmaaKnown
namespace Go.Proofs.Ytidjeehjojajmaa
open Go.RowKit

theorem rtake_ok (bs : List UInt8) (m : Nat) (n : Int) (h0 : 0 ≤ n) (hl : (m : Int) + n ≤ bs.length) : RS.take ⟨bs, m, 0⟩ n = ((bs.drop m).take n.toNat, ⟨bs, m + n.toNat, 0⟩) :=
  take_ok (s := ⟨bs, m, 0⟩) rfl (by omega) (by first | omega | (simp only; omega))
theorem take_add_drop (bs : List UInt8) (m n : Nat) : bs.take m ++ (bs.drop m).take n = bs.take (m + n) := by rw [List.take_add]

theorem ret_true {b : Bool} (h : b = true) : Ending.returned (.bool b) = .returned (.bool true) := by rw [h]
theorem tmod9 (n : Int) : -9 < n.tmod 9 ∧ n.tmod 9 < 9 := by
  rcases Int.le_total 0 n with h | h
  · rw [Int.tmod_eq_emod_of_nonneg h]; omega
  · have : n.tmod 9 = -((-n).tmod 9) := by rw [Int.neg_tmod]; omega
    rw [this, Int.tmod_eq_emod_of_nonneg (by omega)]; omega
theorem SL.cellAt {α : Type} {enc : α → Value} {W w : World} {a : Option Addr} {n cap : Nat} {xs : List α} (h : SL enc W (.slice a n cap) xs) (c : Chg No W w) (k : Nat) (hk : k < xs.length) : ∃ b o, a = some ⟨b, o, none⟩ ∧ w.cell? ⟨b, o + k, none⟩ = some (enc xs[k]) := by
  obtain ⟨a', cap', he, h1, h2, h3⟩ := h.new c
  cases he
  exact SL.cell h3 h2 h1 k hk
theorem rLeftC (T r : Nat) (w : World) (sl : Value) (s : RS) (h : Rd T w r sl s) :
    Calls Try.prog 19 #[.pointer (some ⟨r, 0, none⟩)] w fun e w' => e = .returned (.int .i64 ((s.bs.length : Int) - s.at_)) ∧ Rd T w' r sl s ∧ Chg No w w' :=
  (rLeft T r w sl s h).mono fun e w' ⟨h1, n, h2⟩ => ⟨h1, by rw [h2]; exact h.drewN n, by rw [h2]; exact (Chg.refl _ _).drewN n⟩
/-- A slice of one's own and a reader lie apart. -/
def Apart (base r : Nat) (sl va : Value) : Prop := base ≤ r ∧ ∀ k, va.ownBlock = some k → k ≠ r ∧ sl.ownBlock ≠ some k ∧ base ≤ k

theorem all_appended {W wb wc : World} {T r n : Nat} {sl va v' : Value} {s : RS} {l1 l2 : List UInt8} (hap : Apart W.heap.size r sl va) (hr : Rd T wb r sl s) (hc : Chg No W wb)
    (h1 : wc.ownsRow 0 5 1 v' n (l1.map bv ++ l2.map bv)) (hn : n = l1.length + l2.length) (hg : wb.grownBy wc va.ownBlock) (h3 : v'.ownBlock = va.ownBlock ∨ ∃ b, v'.ownBlock = some b ∧ wb.heap.size ≤ b) :
    OB wc v' (l1 ++ l2) ∧ Rd T wc r sl s ∧ Apart W.heap.size r sl v' ∧ Chg No W wc := by
  have hcg := Chg.grown hg
  have hlt := hr.lt
  have hslt := hr.bytes.lt
  have hsz := hc.size
  refine ⟨OB.append h1 hn, hr.chg hcg (fun e => (hap.2 r e.symm).1 rfl) (fun k hk e => (hap.2 k e.symm).2.1 hk), ⟨hap.1, fun k hk => ?_⟩, hc.trans hcg (fun k hk e => ?_)⟩
  · rcases h3 with h3 | ⟨b, h3, hb⟩
    · exact hap.2 k (h3 ▸ hk)
    · rw [h3] at hk; cases hk
      exact ⟨by omega, (fun e => by have := hslt _ e; omega), by omega⟩
  · have := (hap.2 k e.symm).2.2; omega

set_option maxRecDepth 100000 in
set_option maxHeartbeats 1600000 in
theorem pieces_walk (W : World) (v0 v1 : Value) (bs : List UInt8) (ns : List Int) (hb : BS W v0 bs) (hn : SL iv W v1 ns) (hl : bs.length ≤ 140737488351232) (hl1 : ns.length ≤ 140737488351232) (hwf : ∀ n ∈ ns, -9223372036854775808 ≤ n ∧ n ≤ 9223372036854775807) :
    Calls Try.prog 4 #[v0, v1] W fun e w' => e = .returned (.bool true) ∧ Chg No W w' := by
  go_enter Try.func4, Try.ntmps4
  go_wp2_with fail
  refine (known_c W).mono ?_
  rintro e w1 ⟨rfl, hc1⟩
  go_wp2_with fail
  refine (newReader w1 v0 bs (hb.new hc1) hl).mono ?_
  rintro e w2 ⟨r, sl, rfl, hr, hrlt, hsl, hc2⟩
  have H := Lib.hid (And.intro hb (And.intro hn (And.intro hwf (hc1.then hc2))))
  have HR := Lib.hid (And.intro hr (And.intro (Nat.le_trans hc1.size hrlt) hsl)); clear hb hn hwf hc1 hc2 hr hrlt hsl
  obtain ⟨a1, cap1, hv1, hcap1, hnil1, hcells1⟩ := H.out.2.1
  subst hv1
  clear hnil1 hcells1
  go_wp2
  go_loopw [7, 6] (fun i va wr => ∃ k m : Nat, k ≤ ns.length ∧ k ≤ 200 ∧ i = .int .i64 k ∧ m ≤ bs.length ∧ Rd 69 wr r sl ⟨bs, m, 0⟩ ∧ OB wr va (bs.take m) ∧ Apart W.heap.size r sl va ∧ Chg No W wr) (fun i _ _ => 200 - (intOf i).toNat)
  case atStart => exact ⟨0, 0, Nat.zero_le _, Nat.zero_le _, rfl, Nat.zero_le _, HR.out.1, OB.nil _, ⟨HR.out.2.1, fun k hk => by cases hk⟩, H.out.2.2.2⟩
  case round =>
    obtain ⟨k, m, hk, hk2, rfl, hm, hr, hva, hap, hc⟩ := hrel
    by_cases hlt : k < ns.length ∧ k < 200
    · obtain ⟨hlt, hlt2⟩ := hlt
      obtain ⟨bb, oo, ha, hcell0⟩ := H.out.2.1.cellAt hc k hlt
      have hrg := H.out.2.2.1 ns[k] (List.getElem_mem hlt)
      subst ha
      have hm9 := tmod9 ns[k]
      have hcell : wr.cell? ⟨bb, oo + k, none⟩ = some (.int .i64 ns[k]) := hcell0
      clear hcell0
      generalize ns[k] = n0 at *
      obtain ⟨n, hn⟩ : ∃ n : Nat, n = (n0.tmod 9).natAbs := ⟨_, rfl⟩
      by_cases hneg : n0.tmod 9 < 0
      · have hn8 : n ≤ 8 := by omega
        have hnn : n0.tmod 9 = -(n : Int) := by omega
        have hpos : 0 < n := by omega
        clear hn hneg
        go_wp2_with fail
        refine (rLeftC _ r _ sl _ hr).mono ?_
        rintro e wz ⟨rfl, hrz, hcz⟩
        by_cases hbrk : (bs.length : Int) - (m : Int) < (n : Int)
        · clear hcell hm9
          go_wp2_with fail
          refine (rLeftC _ r _ sl _ hrz).mono ?_
          rintro e wa ⟨rfl, hra, hca⟩
          go_wp2_with fail
          refine (rBytes _ r _ sl _ hra _).mono ?_
          rintro e wb ⟨vb, rfl, hvb, hnb, hrb, hcb⟩
          rw [rtake_ok bs m _ (by first | omega | (simp only; omega)) (by first | omega | (simp only; omega))] at hvb hrb
          have hlb : (bs.drop m).take ((bs.length : Int) - m).toNat = bs.drop m := List.take_of_length_le (by rw [List.length_drop]; omega)
          have hmb : m + ((bs.length : Int) - m).toNat = bs.length := by omega
          simp only [hlb, hmb] at hvb hrb
          have hcW : Chg No W wb := ((hc.then hcz).then hca).trans hcb (fun k hk e => by have := hap.1; omega)
          have hvab : OB wb u6 (bs.take m) := ((hva.new hcz).new hca).chg hcb (fun k hk e => (hap.2 k hk).1 e)
          have hlen1 : (bs.take m).length = m := by rw [List.length_take]; omega
          have hlen2 : (bs.drop m).length = bs.length - m := List.length_drop
          have HT := Lib.hid (And.intro hvab (And.intro hvb.bs (And.intro hrb (And.intro hcW (And.intro hlen1 hlen2))))); clear hvab hvb hrb hcW hlen1 hlen2 hlb hmb hcb
          go_wp2_with (at_builtin; refine wpList_append_K rfl (.tmp 63) (.tmp 67) 22 22 rfl 5 (.int .u8 0) 1 1 Try.underlying22 Try.info5 rfl (by omega) u6 (bs.take m).length ((bs.take m).map bv) rfl HT.out.1 vb (bs.drop m).length ((bs.drop m).map bv) rfl (BS.src HT.out.2.1 Try.underlying22) (by rw [HT.out.2.2.2.2.1, HT.out.2.2.2.2.2]; unfold maxLen; omega) (by rw [HT.out.2.2.2.2.1, HT.out.2.2.2.2.2]; omega) ?_; intro v' wc h1 hg h3; obtain ⟨hx1, hx2, hx3, hx4⟩ := all_appended hap HT.out.2.2.1 HT.out.2.2.2.1 h1 rfl hg h3; rw [List.take_append_drop] at hx1; have hs1 := BS.str (P := Try.prog) hx1.bs 22 9 5 Try.underlying22 Try.underlying5 Try.underlying9; have hs0 := BS.str (P := Try.prog) (H.out.1.new hx4) 22 9 5 Try.underlying22 Try.underlying5 Try.underlying9; clear h1 hg h3)
          refine (rLeftC _ r _ sl _ hx2).mono ?_
          rintro e wd ⟨rfl, hrd, hcd⟩
          go_wp2
          go_ret
          exact ⟨ret_true (by simp), hx4.then hcd⟩
        · go_wp2_with fail
          refine (rBytes _ r _ sl _ hrz _).mono ?_
          rintro e wb ⟨vb, rfl, hvb, hnb, hrb, hcb⟩
          rw [rtake_ok bs m _ (by omega) (by omega)] at hvb hrb
          have hlb : (n : Int).toNat = n := by omega
          simp only [hlb] at hvb hrb
          have hcW : Chg No W wb := (hc.then hcz).trans hcb (fun k hk e => by have := hap.1; omega)
          have hvab : OB wb u6 (bs.take m) := (hva.new hcz).chg hcb (fun k hk e => (hap.2 k hk).1 e)
          have hlen1 : (bs.take m).length = m := by rw [List.length_take]; omega
          have hlen2 : ((bs.drop m).take n).length = n := by rw [List.length_take, List.length_drop]; omega
          have HT := Lib.hid (And.intro hvab (And.intro hvb.bs (And.intro hrb (And.intro hcW (And.intro hlen1 hlen2))))); clear hvab hvb hrb hcW hlen1 hlen2 hlb hcb
          go_wp2_with (at_builtin; refine wpList_append_K rfl (.tmp 38) (.tmp 41) 22 22 rfl 5 (.int .u8 0) 1 1 Try.underlying22 Try.info5 rfl (by omega) u6 (bs.take m).length ((bs.take m).map bv) rfl HT.out.1 vb ((bs.drop m).take n).length (((bs.drop m).take n).map bv) rfl (BS.src HT.out.2.1 Try.underlying22) (by rw [HT.out.2.2.2.2.1, HT.out.2.2.2.2.2]; unfold maxLen; omega) (by rw [HT.out.2.2.2.2.1, HT.out.2.2.2.2.2]; omega) ?_; intro v' wc h1 hg h3; obtain ⟨hx1, hx2, hx3, hx4⟩ := all_appended hap HT.out.2.2.1 HT.out.2.2.2.1 h1 rfl hg h3; rw [take_add_drop] at hx1; clear h1 hg h3)
          refine (rAt _ r _ sl _ hx2).mono ?_
          rintro e wd ⟨rfl, rfl⟩
          go_wp2_with fail
          refine (rLeftC _ r _ sl _ hx2).mono ?_
          rintro e we ⟨rfl, hre, hce⟩
          obtain ⟨a0, cap0, hv0, hcap0, -, -⟩ := H.out.1
          subst hv0
          obtain ⟨a3, cap3, hv3, hcap3, -, -⟩ := hx1.bs
          have hmn : (bs.take (m + n)).length = m + n := by rw [List.length_take]; omega
          rw [hmn] at hv3
          subst hv3
          go_wp2_with fail
          refine (rAt _ r _ sl _ hre).mono ?_
          rintro e wf ⟨rfl, rfl⟩
          go_wp2_with fail
          refine (rErr _ r _ sl _ hre).mono ?_
          rintro e wg ⟨rfl, rfl⟩
          go_wp2
          go_roundw
          case rel => exact ⟨k + 1, m + n, by omega, by omega, by go_num, by omega, hre, hx1.new hce, hx3, hx4.then hce⟩
          case measure => simp [intOf]; omega
      · have hn8 : n ≤ 8 := by omega
        have hnn : n0.tmod 9 = (n : Int) := by omega
        clear hn hneg
        go_wp2_with fail
        refine (rLeftC _ r _ sl _ hr).mono ?_
        rintro e wz ⟨rfl, hrz, hcz⟩
        by_cases hbrk : (bs.length : Int) - (m : Int) < (n : Int)
        · clear hcell hm9
          go_wp2_with fail
          refine (rLeftC _ r _ sl _ hrz).mono ?_
          rintro e wa ⟨rfl, hra, hca⟩
          go_wp2_with fail
          refine (rBytes _ r _ sl _ hra _).mono ?_
          rintro e wb ⟨vb, rfl, hvb, hnb, hrb, hcb⟩
          rw [rtake_ok bs m _ (by first | omega | (simp only; omega)) (by first | omega | (simp only; omega))] at hvb hrb
          have hlb : (bs.drop m).take ((bs.length : Int) - m).toNat = bs.drop m := List.take_of_length_le (by rw [List.length_drop]; omega)
          have hmb : m + ((bs.length : Int) - m).toNat = bs.length := by omega
          simp only [hlb, hmb] at hvb hrb
          have hcW : Chg No W wb := ((hc.then hcz).then hca).trans hcb (fun k hk e => by have := hap.1; omega)
          have hvab : OB wb u6 (bs.take m) := ((hva.new hcz).new hca).chg hcb (fun k hk e => (hap.2 k hk).1 e)
          have hlen1 : (bs.take m).length = m := by rw [List.length_take]; omega
          have hlen2 : (bs.drop m).length = bs.length - m := List.length_drop
          have HT := Lib.hid (And.intro hvab (And.intro hvb.bs (And.intro hrb (And.intro hcW (And.intro hlen1 hlen2))))); clear hvab hvb hrb hcW hlen1 hlen2 hlb hmb hcb
          go_wp2_with (at_builtin; refine wpList_append_K rfl (.tmp 63) (.tmp 67) 22 22 rfl 5 (.int .u8 0) 1 1 Try.underlying22 Try.info5 rfl (by omega) u6 (bs.take m).length ((bs.take m).map bv) rfl HT.out.1 vb (bs.drop m).length ((bs.drop m).map bv) rfl (BS.src HT.out.2.1 Try.underlying22) (by rw [HT.out.2.2.2.2.1, HT.out.2.2.2.2.2]; unfold maxLen; omega) (by rw [HT.out.2.2.2.2.1, HT.out.2.2.2.2.2]; omega) ?_; intro v' wc h1 hg h3; obtain ⟨hx1, hx2, hx3, hx4⟩ := all_appended hap HT.out.2.2.1 HT.out.2.2.2.1 h1 rfl hg h3; rw [List.take_append_drop] at hx1; have hs1 := BS.str (P := Try.prog) hx1.bs 22 9 5 Try.underlying22 Try.underlying5 Try.underlying9; have hs0 := BS.str (P := Try.prog) (H.out.1.new hx4) 22 9 5 Try.underlying22 Try.underlying5 Try.underlying9; clear h1 hg h3)
          refine (rLeftC _ r _ sl _ hx2).mono ?_
          rintro e wd ⟨rfl, hrd, hcd⟩
          go_wp2
          go_ret
          exact ⟨ret_true (by simp), hx4.then hcd⟩
        · go_wp2_with fail
          refine (rBytes _ r _ sl _ hrz _).mono ?_
          rintro e wb ⟨vb, rfl, hvb, hnb, hrb, hcb⟩
          rw [rtake_ok bs m _ (by omega) (by omega)] at hvb hrb
          have hlb : (n : Int).toNat = n := by omega
          simp only [hlb] at hvb hrb
          have hcW : Chg No W wb := (hc.then hcz).trans hcb (fun k hk e => by have := hap.1; omega)
          have hvab : OB wb u6 (bs.take m) := (hva.new hcz).chg hcb (fun k hk e => (hap.2 k hk).1 e)
          have hlen1 : (bs.take m).length = m := by rw [List.length_take]; omega
          have hlen2 : ((bs.drop m).take n).length = n := by rw [List.length_take, List.length_drop]; omega
          have HT := Lib.hid (And.intro hvab (And.intro hvb.bs (And.intro hrb (And.intro hcW (And.intro hlen1 hlen2))))); clear hvab hvb hrb hcW hlen1 hlen2 hlb hcb
          go_wp2_with (at_builtin; refine wpList_append_K rfl (.tmp 38) (.tmp 41) 22 22 rfl 5 (.int .u8 0) 1 1 Try.underlying22 Try.info5 rfl (by omega) u6 (bs.take m).length ((bs.take m).map bv) rfl HT.out.1 vb ((bs.drop m).take n).length (((bs.drop m).take n).map bv) rfl (BS.src HT.out.2.1 Try.underlying22) (by rw [HT.out.2.2.2.2.1, HT.out.2.2.2.2.2]; unfold maxLen; omega) (by rw [HT.out.2.2.2.2.1, HT.out.2.2.2.2.2]; omega) ?_; intro v' wc h1 hg h3; obtain ⟨hx1, hx2, hx3, hx4⟩ := all_appended hap HT.out.2.2.1 HT.out.2.2.2.1 h1 rfl hg h3; rw [take_add_drop] at hx1; clear h1 hg h3)
          refine (rAt _ r _ sl _ hx2).mono ?_
          rintro e wd ⟨rfl, rfl⟩
          go_wp2_with fail
          refine (rLeftC _ r _ sl _ hx2).mono ?_
          rintro e we ⟨rfl, hre, hce⟩
          obtain ⟨a0, cap0, hv0, hcap0, -, -⟩ := H.out.1
          subst hv0
          obtain ⟨a3, cap3, hv3, hcap3, -, -⟩ := hx1.bs
          have hmn : (bs.take (m + n)).length = m + n := by rw [List.length_take]; omega
          rw [hmn] at hv3
          subst hv3
          go_wp2_with fail
          refine (rAt _ r _ sl _ hre).mono ?_
          rintro e wf ⟨rfl, rfl⟩
          go_wp2_with fail
          refine (rErr _ r _ sl _ hre).mono ?_
          rintro e wg ⟨rfl, rfl⟩
          go_wp2
          go_roundw
          case rel => exact ⟨k + 1, m + n, by omega, by omega, by go_num, by omega, hre, hx1.new hce, hx3, hx4.then hce⟩
          case measure => simp [intOf]; omega
    · by_cases hkn : k < ns.length
      · have hk200 : ¬ k < 200 := fun h => hlt ⟨hkn, h⟩
        go_wp2_with fail
        refine (rLeftC _ r _ sl _ hr).mono ?_
        rintro e wa ⟨rfl, hra, hca⟩
        go_wp2_with fail
        refine (rBytes _ r _ sl _ hra _).mono ?_
        rintro e wb ⟨vb, rfl, hvb, hnb, hrb, hcb⟩
        rw [rtake_ok bs m _ (by first | omega | (simp only; omega)) (by first | omega | (simp only; omega))] at hvb hrb
        have hlb : (bs.drop m).take ((bs.length : Int) - m).toNat = bs.drop m := List.take_of_length_le (by rw [List.length_drop]; omega)
        have hmb : m + ((bs.length : Int) - m).toNat = bs.length := by omega
        simp only [hlb, hmb] at hvb hrb
        have hcW : Chg No W wb := (hc.then hca).trans hcb (fun k hk e => by have := hap.1; omega)
        have hvab : OB wb u6 (bs.take m) := (hva.new hca).chg hcb (fun k hk e => (hap.2 k hk).1 e)
        have hlen1 : (bs.take m).length = m := by rw [List.length_take]; omega
        have hlen2 : (bs.drop m).length = bs.length - m := List.length_drop
        have HT := Lib.hid (And.intro hvab (And.intro hvb.bs (And.intro hrb (And.intro hcW (And.intro hlen1 hlen2))))); clear hvab hvb hrb hcW hlen1 hlen2 hlb hmb hcb
        go_wp2_with (at_builtin; refine wpList_append_K rfl (.tmp 63) (.tmp 67) 22 22 rfl 5 (.int .u8 0) 1 1 Try.underlying22 Try.info5 rfl (by omega) u6 (bs.take m).length ((bs.take m).map bv) rfl HT.out.1 vb (bs.drop m).length ((bs.drop m).map bv) rfl (BS.src HT.out.2.1 Try.underlying22) (by rw [HT.out.2.2.2.2.1, HT.out.2.2.2.2.2]; unfold maxLen; omega) (by rw [HT.out.2.2.2.2.1, HT.out.2.2.2.2.2]; omega) ?_; intro v' wc h1 hg h3; obtain ⟨hx1, hx2, hx3, hx4⟩ := all_appended hap HT.out.2.2.1 HT.out.2.2.2.1 h1 rfl hg h3; rw [List.take_append_drop] at hx1; have hs1 := BS.str (P := Try.prog) hx1.bs 22 9 5 Try.underlying22 Try.underlying5 Try.underlying9; have hs0 := BS.str (P := Try.prog) (H.out.1.new hx4) 22 9 5 Try.underlying22 Try.underlying5 Try.underlying9; clear h1 hg h3)
        refine (rLeftC _ r _ sl _ hx2).mono ?_
        rintro e wd ⟨rfl, hrd, hcd⟩
        go_wp2
        go_ret
        exact ⟨ret_true (by simp), hx4.then hcd⟩
      · clear hlt
        go_wp2_with fail
        refine (rLeftC _ r _ sl _ hr).mono ?_
        rintro e wa ⟨rfl, hra, hca⟩
        go_wp2_with fail
        refine (rBytes _ r _ sl _ hra _).mono ?_
        rintro e wb ⟨vb, rfl, hvb, hnb, hrb, hcb⟩
        rw [rtake_ok bs m _ (by first | omega | (simp only; omega)) (by first | omega | (simp only; omega))] at hvb hrb
        have hlb : (bs.drop m).take ((bs.length : Int) - m).toNat = bs.drop m := List.take_of_length_le (by rw [List.length_drop]; omega)
        have hmb : m + ((bs.length : Int) - m).toNat = bs.length := by omega
        simp only [hlb, hmb] at hvb hrb
        have hcW : Chg No W wb := (hc.then hca).trans hcb (fun k hk e => by have := hap.1; omega)
        have hvab : OB wb u6 (bs.take m) := (hva.new hca).chg hcb (fun k hk e => (hap.2 k hk).1 e)
        have hlen1 : (bs.take m).length = m := by rw [List.length_take]; omega
        have hlen2 : (bs.drop m).length = bs.length - m := List.length_drop
        have HT := Lib.hid (And.intro hvab (And.intro hvb.bs (And.intro hrb (And.intro hcW (And.intro hlen1 hlen2))))); clear hvab hvb hrb hcW hlen1 hlen2 hlb hmb hcb
        go_wp2_with (at_builtin; refine wpList_append_K rfl (.tmp 63) (.tmp 67) 22 22 rfl 5 (.int .u8 0) 1 1 Try.underlying22 Try.info5 rfl (by omega) u6 (bs.take m).length ((bs.take m).map bv) rfl HT.out.1 vb (bs.drop m).length ((bs.drop m).map bv) rfl (BS.src HT.out.2.1 Try.underlying22) (by rw [HT.out.2.2.2.2.1, HT.out.2.2.2.2.2]; unfold maxLen; omega) (by rw [HT.out.2.2.2.2.1, HT.out.2.2.2.2.2]; omega) ?_; intro v' wc h1 hg h3; obtain ⟨hx1, hx2, hx3, hx4⟩ := all_appended hap HT.out.2.2.1 HT.out.2.2.2.1 h1 rfl hg h3; rw [List.take_append_drop] at hx1; have hs1 := BS.str (P := Try.prog) hx1.bs 22 9 5 Try.underlying22 Try.underlying5 Try.underlying9; have hs0 := BS.str (P := Try.prog) (H.out.1.new hx4) 22 9 5 Try.underlying22 Try.underlying5 Try.underlying9; clear h1 hg h3)
        refine (rLeftC _ r _ sl _ hx2).mono ?_
        rintro e wd ⟨rfl, hrd, hcd⟩
        go_wp2
        go_ret
        exact ⟨ret_true (by simp), hx4.then hcd⟩

end Go.Proofs.Ytidjeehjojajmaa
