/-
  Package desc, walked: types and signatures as texts.
-/
import Derived.Test.YtgmmclcpfmnoiaaGreatDoorDescW
namespace Go.Proofs.YtgmmclcpfmnoiaaGreatDoor
open Go.RowKit
attribute [local go_sem high] eqTy_run

theorem ret_pair {a b : ByteArray} {m n : Int} (h : a = b) (hn : m = n) : Ending.returned (.tuple #[.string a, .int .i64 m]) = .returned (.tuple #[.string b, .int .i64 n]) := by rw [h, hn]
theorem repeatL_rep (c : UInt8) : ∀ k, Lib.repeatL [c] k = List.replicate k c
  | 0 => rfl
  | k + 1 => by rw [Lib.repeatL, repeatL_rep c k]; rfl
theorem repeat_c (w : World) (k : Nat) (hk : k ≤ 8) : Calls Tryz.prog 201 #[.string ⟨#[91]⟩, .int .i64 k] w fun e w' => e = .returned (strV (List.replicate k 91)) ∧ Chg No w w' := by
  match k, hk with
  | 0, _ =>
    refine (Tryz.strings_Repeat_zero ⟨#[91]⟩ w).mono ?_
    rintro e w' ⟨rfl, rfl⟩
    exact ⟨rfl, Chg.refl _ _⟩
  | 1, _ =>
    refine (Tryz.strings_Repeat_one ⟨#[91]⟩ w).mono ?_
    rintro e w' ⟨rfl, rfl⟩
    exact ⟨rfl, Chg.refl _ _⟩
  | k + 2, hk =>
    refine (Tryz.strings_Repeat_main ⟨#[91]⟩ (k + 2) w (by omega) (by omega) (by simp [ByteArray.size]; omega) (by simp [ByteArray.size])).mono ?_
    rintro e w' ⟨rfl, hb⟩
    refine ⟨?_, Chg.ofBelow hb⟩
    have := repeatL_rep 91 (k + 2)
    rw [show (ByteArray.mk #[91]).data.toList = [91] from rfl, this]
theorem bs_app (a b : Bs) : (ByteArray.mk a.toArray) ++ (ByteArray.mk b.toArray) = ⟨(a ++ b).toArray⟩ := by
  apply ByteArray.ext
  simp
set_option maxRecDepth 100000 in
set_option maxHeartbeats 1600000 in
theorem typeText_c (w : World) (t : Ty) (hl : t.name.length ≤ maxLen) : Calls Tryz.prog 176 #[tyV t] w fun e w' => e = .returned (.tuple #[strV (typeText t).1, .int .i64 (typeText t).2]) ∧ Chg No w w' := by
  obtain ⟨d, nm⟩ := t
  simp only at hl
  unfold maxLen at hl
  go_enter Tryz.func176, Tryz.ntmps176
  go_wp2_with fail
  have h := tyCheck_c (w.alloc (.cells #[.int .i64 d, strV nm] 26)) d nm (by omega)
  by_cases he : tyErr ⟨d, nm⟩ = 0
  · rw [he] at h
    refine h.mono ?_
    rintro e w1 ⟨rfl, rfl⟩
    clear h
    have hd : 0 ≤ d ∧ d ≤ 8 := by
      unfold tyErr at he
      split at he
      · cases he
      · rename_i hn; simp only at hn; omega
    obtain ⟨k, rfl⟩ : ∃ k : Nat, d = k := ⟨d.toNat, by omega⟩
    have hn : nm.length ≤ 32 := by
      unfold tyErr at he
      split at he
      · cases he
      · split at he
        · cases he
        · rename_i h2
          simp only [not_and, ne_eq, Bool.not_eq_false] at h2
          by_cases hz : nm = []
          · rw [hz]; simp
          · have := h2 hz
            unfold nameB at this
            simp at this
            omega
    have hk8 : k ≤ 8 := by omega
    have HE := Lib.hid he
    clear he hl hd
    go_wp2_with fail
    refine (repeat_c _ k (by omega)).mono ?_
    rintro e w2 ⟨rfl, d2⟩
    have c0 : w2.cell? ⟨w.heap.size, 1, none⟩ = some (strV nm) := blk_cell (d2.blk (alloc_blk (alloc_at w (.cells #[.int .i64 (k : Int), strV nm] 26) rfl))) rfl
    have D2 : RowKit.Hid (Chg No w w2) := Lib.hid ((((Chg.refl No w).alloc _).alloc _).trans d2 (fun _ _ h => h))
    clear d2
    by_cases hnm : nm = []
    · subst hnm
      go_wp2
      go_ret2
      refine ⟨?_, D2.out⟩
      unfold typeText
      rw [if_pos HE.out]
      refine ret_pair ?_ rfl
      apply ByteArray.ext
      apply Array.ext'
      simp [tyBody, tyTail]
    · have hne := ne_isEmpty hnm
      have HN := Lib.hid hnm
      clear hnm
      go_wp2
      go_ret2
      refine ⟨?_, D2.out⟩
      unfold typeText
      rw [if_pos HE.out]
      refine ret_pair ?_ rfl
      apply ByteArray.ext
      simp [tyBody, tyTail, HN.out]
  · have he' : (tyErr ⟨d, nm⟩ == 0) = false := by simp [he]
    refine h.mono ?_
    rintro e w1 ⟨rfl, rfl⟩
    have HE := Lib.hid he
    clear h he
    go_wp2
    go_ret2
    refine ⟨?_, ((Chg.refl _ _).alloc _).alloc _⟩
    unfold typeText
    rw [if_neg HE.out]
    rfl

/-! Signatures. -/
theorem parText_snoc (l : List Ty) (t : Ty) (h : (parText l).2 = 0) : parText (l ++ [t]) = if tyErr t = 0 then ((parText l).1 ++ tyBody t, 0) else ([], tyErr t) := by
  induction l with
  | nil => unfold parText; simp [parText]
  | cons x r ih =>
    unfold parText at h
    rw [List.cons_append]
    by_cases hx : tyErr x = 0
    · rw [if_pos hx] at h
      have hr : (parText r).2 = 0 := by
        by_cases hz : (parText r).2 = 0
        · exact hz
        · simp only [hz, if_false] at h
      rw [show parText (x :: (r ++ [t])) = (if tyErr x = 0 then (match parText (r ++ [t]) with | (s, e) => if e = 0 then (tyBody x ++ s, 0) else ([], e)) else ([], tyErr x)) from rfl, if_pos hx, ih hr]
      rw [show parText (x :: r) = (if tyErr x = 0 then (match parText r with | (s, e) => if e = 0 then (tyBody x ++ s, 0) else ([], e)) else ([], tyErr x)) from rfl, if_pos hx]
      by_cases ht : tyErr t = 0
      · simp [ht, hr]
      · simp [ht]
    · rw [if_neg hx] at h
      exact absurd h hx
theorem parText_bad (l m : List Ty) (h : (parText l).2 ≠ 0) : parText (l ++ m) = ([], (parText l).2) := by
  induction l with
  | nil => exact absurd rfl h
  | cons x r ih =>
    rw [List.cons_append]
    rw [show parText (x :: r) = (if tyErr x = 0 then (match parText r with | (s, e) => if e = 0 then (tyBody x ++ s, 0) else ([], e)) else ([], tyErr x)) from rfl] at h ⊢
    rw [show parText (x :: (r ++ m)) = (if tyErr x = 0 then (match parText (r ++ m) with | (s, e) => if e = 0 then (tyBody x ++ s, 0) else ([], e)) else ([], tyErr x)) from rfl]
    by_cases hx : tyErr x = 0
    · rw [if_pos hx] at h ⊢
      rw [if_pos hx]
      by_cases hr : (parText r).2 = 0
      · simp [hr] at h
      · rw [ih hr]; simp [hr]
    · rw [if_neg hx, if_neg hx]
theorem tyBody_len {t : Ty} (h : tyErr t = 0) : (tyBody t).length ≤ 42 := by
  unfold tyErr at h
  split at h
  · cases h
  · rename_i hd
    have hn : t.name.length ≤ 32 := by
      split at h
      · cases h
      · rename_i h2
        simp only [not_and, ne_eq, Bool.not_eq_false] at h2
        by_cases hz : t.name = []
        · rw [hz]; simp
        · have := h2 hz
          unfold nameB at this
          simp at this
          omega
    unfold tyBody tyTail
    split <;> simp <;> omega

theorem sig_par {g : Sg} {k : Nat} (h16 : ¬ 16 < g.params.length) (hk : k < g.params.length) (hz : (parText (g.params.take k)).2 = 0) (he : tyErr g.params[k] ≠ 0) : sigText g = ([], tyErr g.params[k]) := by
  have h1 := parText_snoc (g.params.take k) g.params[k] hz
  rw [if_neg he, ← List.take_succ_eq_append_getElem hk] at h1
  have h2 := parText_bad (g.params.take (k + 1)) (g.params.drop (k + 1)) (by rw [h1]; exact he)
  rw [List.take_append_drop, h1] at h2
  unfold sigText
  rw [if_neg h16, h2, if_pos he]
theorem sig_next {l : List Ty} {k : Nat} (hk : k < l.length) (hz : (parText (l.take k)).2 = 0) (he : tyErr l[k] = 0) : parText (l.take (k + 1)) = ((parText (l.take k)).1 ++ tyBody l[k], 0) := by
  rw [List.take_succ_eq_append_getElem hk, parText_snoc _ _ hz, if_pos he]
set_option maxRecDepth 100000 in
set_option maxHeartbeats 1600000 in
theorem sigText_c (S : Blocks) (w : World) (g : Sg) (v : Value) (h : SQ 2 RTy S w v g.params) (hnm : ∀ t ∈ g.params, t.name.length ≤ maxLen) (hr : g.result.name.length ≤ maxLen) :
    Calls Tryz.prog 151 #[.agg #[v, .bool g.void, .int .i64 g.result.dims, strV g.result.name]] w fun e w' => e = .returned (.tuple #[strV (sigText g).1, .int .i64 (sigText g).2]) ∧ Chg No w w' := by
  obtain ⟨a, cap, hv, hcap, -⟩ := h.form
  have H := Lib.hid (And.intro h (And.intro hnm hr)); clear h hnm hr
  subst hv
  obtain ⟨n, hn⟩ : ∃ n, n = g.params.length := ⟨_, rfl⟩
  rw [← hn] at hcap ⊢
  have HN := Lib.hid hn
  clear hn
  go_enter Tryz.func151, Tryz.ntmps151
  by_cases h16 : 16 < n
  · have h16' : (16 : Int) < (n : Int) := by omega
    have H16 := Lib.hid h16; clear h16
    go_wp2
    go_ret2
    refine ⟨?_, (Chg.refl _ _).alloc _⟩
    unfold sigText
    rw [if_pos (by rw [← HN.out]; exact H16.out)]
    rfl
  · have h16' : ¬ ((16 : Int) < (n : Int)) := by omega
    have hn16 : n ≤ 16 := by omega
    obtain ⟨W, hW⟩ : ∃ W, W = w.alloc (.cells #[.slice a n cap, .bool g.void, .int .i64 g.result.dims, strV g.result.name] 28) := ⟨_, rfl⟩
    have hWc : Chg No w W := by rw [hW]; exact (Chg.refl _ _).alloc _
    have hWb : W.heap[w.heap.size]? = some (.cells #[.slice a n cap, .bool g.void, .int .i64 g.result.dims, strV g.result.name] 28 (0, 0)) := by rw [hW]; exact alloc_at _ _ rfl
    have HW := Lib.hid (And.intro hWc (And.intro hWb hW))
    clear h16 hW hWc hWb
    go_wp2
    go_loopw [18, 4] (fun i ov wr => ∃ (k : Nat) (acc : Bs), k ≤ n ∧ i = .int .i64 k ∧ ov = strV (40 :: acc) ∧ acc.length ≤ 42 * k ∧ RowKit.Hid (parText (g.params.take k) = (acc, 0) ∧ Chg No W wr)) (fun i _ _ => n - (intOf i).toNat)
    case atStart => exact ⟨0, [], Nat.zero_le _, rfl, rfl, by simp, Lib.hid ⟨rfl, by rw [HW.out.2.2]; exact Chg.refl _ _⟩⟩
    case round =>
      obtain ⟨k, acc, hk, rfl, rfl, hacc, hI⟩ := hrel
      by_cases hlt : k < n
      · have hkp : k < g.params.length := by rw [← HN.out]; exact hlt
        have cI := HW.out.1.trans hI.out.2 (fun _ _ h => h)
        obtain ⟨b, o, cs, rfl, hcl, hR, hbl, hsb, hcell⟩ := SQ.cells (H.out.1.new goodTy cI) k hkp
        have hR' := hR; clear hR
        obtain rfl := hR'
        have g0 := hcell 0 _ rfl
        have g1 := hcell 1 _ rfl
        rw [Nat.add_zero] at g0
        rw [← Nat.add_assoc] at g1
        have hnk := H.out.2.1 g.params[k] (List.getElem_mem hkp)
        have HK := Lib.hid (And.intro hnk (And.intro hkp cI))
        clear hcl hcell hnk cI
        obtain ⟨t, htt⟩ : ∃ t, t = g.params[k] := ⟨_, rfl⟩
        have HT := Lib.hid htt
        rw [← htt] at g0 g1
        clear htt
        go_wp2_with fail
        have ht := typeText_c (wr.alloc (.cells #[.int .i64 t.dims, strV t.name] 26)) t (by rw [HT.out]; exact HK.out.1)
        by_cases he : tyErr t = 0
        · rw [show typeText t = (tyBody t, 0) from by unfold typeText; rw [if_pos he]] at ht
          have hbl2 := tyBody_len he
          refine ht.mono ?_
          rintro e w1 ⟨rfl, d1⟩
          have D1 := Lib.hid (((Chg.refl No wr).alloc _).trans d1 (fun _ _ h => h))
          have HE := Lib.hid he
          have happ := bs_app (40 :: acc) (tyBody t)
          clear ht d1 he
          go_wp2
          go_roundw
          case rel =>
            refine ⟨k + 1, acc ++ tyBody t, by omega, by go_num, ?_, by rw [List.length_append]; omega, Lib.hid ⟨?_, hI.out.2.trans D1.out (fun _ _ h => h)⟩⟩
            · first | rfl | simp [strV]
            · have h0 := hI.out.1
              rw [sig_next HK.out.2.1 (by rw [h0]) (by rw [← HT.out]; exact HE.out), h0, ← HT.out]
          case measure => simp [intOf]; omega
        · have he' : (tyErr t == 0) = false := by simp [he]
          rw [show typeText t = ([], tyErr t) from by unfold typeText; rw [if_neg he]] at ht
          refine ht.mono ?_
          rintro e w1 ⟨rfl, d1⟩
          have D1 := Lib.hid (((Chg.refl No wr).alloc _).trans d1 (fun _ _ h => h))
          have HE := Lib.hid he
          clear ht d1 he
          go_wp2
          go_ret2
          refine ⟨?_, HK.out.2.2.trans D1.out (fun _ _ h => h)⟩
          rw [sig_par (by rw [← HN.out]; omega) HK.out.2.1 (by rw [hI.out.1]) (by rw [← HT.out]; exact HE.out), ← HT.out]
          rfl
      · have hkn : k = n := by omega
        have hall : parText g.params = (acc, 0) := by
          have h0 := hI.out.1
          rw [hkn, HN.out, List.take_length] at h0
          exact h0
        have hB := hI.out.2.blk HW.out.2.1
        have b1 : wr.cell? ⟨w.heap.size, 1, none⟩ = some (.bool g.void) := blk_cell hB rfl
        have b2 : wr.cell? ⟨w.heap.size, 2, none⟩ = some (.int .i64 g.result.dims) := blk_cell hB rfl
        have b3 : wr.cell? ⟨w.heap.size, 3, none⟩ = some (strV g.result.name) := blk_cell hB rfl
        have hs0 : sigText g = if g.void = true ∧ g.result ≠ zTy then ([], 1) else if tyErr g.result ≠ 0 then ([], tyErr g.result) else (40 :: (acc ++ (41 :: (if g.void = true then [86] else tyBody g.result))), 0) := by
          unfold sigText
          rw [if_neg (by rw [← HN.out]; omega), hall, if_neg (by simp)]
        have hS := Lib.hid hs0
        have hbB := Lib.hid hB
        have hteq := tyEq_mk g.result.dims 0 g.result.name []
        clear hs0 hall hB
        cases hvd : g.void with
        | true =>
          rw [hvd] at b1
          by_cases hz : g.result = zTy
          · have hq : tyEq g.result.dims ⟨g.result.name.toArray⟩ 0 ⟨#[]⟩ = true := by rw [hteq]; simp [hz]
            have HZ := Lib.hid (And.intro hvd hz)
            clear hteq hvd hz
            go_wp2_with fail
            have ht := typeText_c wr g.result (H.out.2.2)
            rw [show typeText g.result = ([73], 0) from by rw [HZ.out.2]; rfl] at ht
            refine ht.mono ?_
            rintro e w1 ⟨rfl, d1⟩
            have D1 := Lib.hid d1
            have c1 : w1.cell? ⟨w.heap.size, 1, none⟩ = some (.bool true) := (d1.cell (p := ⟨w.heap.size, 1, none⟩) (heap_lt hbB.out) (fun h => h)).trans b1
            clear ht d1
            go_wp2
            go_ret2
            refine ⟨?_, (HW.out.1.trans hI.out.2 (fun _ _ h => h)).trans D1.out (fun _ _ h => h)⟩
            rw [hS.out, HZ.out.1, HZ.out.2]
            rw [if_neg (by simp), if_neg (by decide)]
            refine ret_pair ?_ rfl
            apply ByteArray.ext
            apply Array.ext'
            simp
          · have hq : tyEq g.result.dims ⟨g.result.name.toArray⟩ 0 ⟨#[]⟩ = false := by rw [hteq]; exact decide_eq_false (fun e => hz e)
            have HZ := Lib.hid (And.intro hvd hz)
            clear hteq hvd hz
            go_wp2
            go_ret2
            refine ⟨?_, HW.out.1.trans hI.out.2 (fun _ _ h => h)⟩
            rw [hS.out, if_pos HZ.out]
            rfl
        | false =>
          rw [hvd] at b1
          have HZ := Lib.hid hvd
          clear hteq hvd
          go_wp2_with fail
          have ht := typeText_c wr g.result (H.out.2.2)
          by_cases he : tyErr g.result = 0
          · rw [show typeText g.result = (tyBody g.result, 0) from by unfold typeText; rw [if_pos he]] at ht
            have hbl2 := tyBody_len he
            refine ht.mono ?_
            rintro e w1 ⟨rfl, d1⟩
            have D1 := Lib.hid d1
            have c1 : w1.cell? ⟨w.heap.size, 1, none⟩ = some (.bool false) := (d1.cell (p := ⟨w.heap.size, 1, none⟩) (heap_lt hbB.out) (fun h => h)).trans b1
            have HE := Lib.hid he
            clear ht d1 he
            go_wp2
            go_ret2
            refine ⟨?_, (HW.out.1.trans hI.out.2 (fun _ _ h => h)).trans D1.out (fun _ _ h => h)⟩
            rw [hS.out, HZ.out, if_neg (by simp), if_neg (by simp [HE.out])]
            refine ret_pair ?_ rfl
            apply ByteArray.ext
            apply Array.ext'
            simp
          · have he' : (tyErr g.result == 0) = false := by simp [he]
            rw [show typeText g.result = ([], tyErr g.result) from by unfold typeText; rw [if_neg he]] at ht
            refine ht.mono ?_
            rintro e w1 ⟨rfl, d1⟩
            have D1 := Lib.hid d1
            have HE := Lib.hid he
            clear ht d1 he
            go_wp2
            go_ret2
            refine ⟨?_, (HW.out.1.trans hI.out.2 (fun _ _ h => h)).trans D1.out (fun _ _ h => h)⟩
            rw [hS.out, HZ.out, if_neg (by simp), if_pos HE.out]
            rfl
end Go.Proofs.YtgmmclcpfmnoiaaGreatDoor

namespace Go.Proofs.YtgmmclcpfmnoiaaGreatDoor
open Go.RowKit
attribute [local go_sem high] eqTy_run

theorem method_c (w : World) (s : Bs) (hl : s.length ≤ maxLen) : Calls Tryz.prog 150 #[strV s] w fun e w' => e = .returned (.bool (methB s)) ∧ Chg No w w' := by
  have h := name_c w s (by unfold maxLen at hl; omega)
  by_cases hi : s = [60, 105, 110, 105, 116, 62]
  · subst hi
    go_enter Tryz.func150, Tryz.ntmps150
    go_wp2
    go_ret
    exact ⟨rfl, Chg.refl _ _⟩
  · have hq : (s == [60, 105, 110, 105, 116, 62]) = false := by simp [hi]
    have hq2 : ((ByteArray.mk s.toArray).toList == (ByteArray.mk #[60, 105, 110, 105, 116, 62]).toList) = false := by
      have := str_eq s [60, 105, 110, 105, 116, 62]
      rw [this]; exact hq
    have HI := Lib.hid hq
    clear hi
    go_enter Tryz.func150, Tryz.ntmps150
    go_wp2_with fail
    refine h.mono ?_
    rintro e w1 ⟨rfl, rfl⟩
    clear h hq hq2
    go_wp2
    go_ret
    exact ⟨ret_b (by unfold methB; rw [HI.out]; simp), Chg.refl _ _⟩
set_option maxRecDepth 100000 in
set_option maxHeartbeats 1600000 in
theorem equal_ty {S T : Blocks} (w : World) (v u : Value) (xs ys : List Ty) (h : SQ 2 RTy S w v xs) (h' : SQ 2 RTy T w u ys) (hl : xs.length ≤ 9223372036854775807) (hl' : ys.length ≤ 9223372036854775807) :
    Calls Tryz.prog 135 #[v, u] w fun en w' => en = .returned (.bool (decide (xs = ys))) ∧ Chg No w w' := by
  obtain ⟨a, cap, hv, -, -⟩ := h.form
  obtain ⟨a', cap', hu, -, -⟩ := h'.form
  have H := Lib.hid (And.intro h h'); clear h h'
  subst hv; subst hu
  go_enter Tryz.func135, Tryz.ntmps135
  by_cases hq : xs.length = ys.length
  · have hqz : ((xs.length : Int) == (ys.length : Int)) = true := by rw [hq]; simp
    go_wp2
    go_loopw [13] (fun i wr => ∃ k : Nat, k ≤ xs.length ∧ i = .int .i64 k ∧ Chg No w wr ∧ RowKit.Hid (∀ (j : Nat) (h1 : j < xs.length) (h2 : j < ys.length), j < k → xs[j] = ys[j])) (fun i _ => xs.length - (intOf i).toNat)
    case atStart => exact ⟨0, Nat.zero_le _, rfl, Chg.refl _ _, Lib.hid (fun j _ _ hj => absurd hj (Nat.not_lt_zero _))⟩
    case round =>
      obtain ⟨k, hk, rfl, hc, hb⟩ := hrel
      by_cases hlt : k < xs.length
      · have hlt' : k < ys.length := by omega
        obtain ⟨b, o, cs, rfl, hcl, hR, hbl, hsb, hcell⟩ := SQ.cells (H.out.1.new goodTy hc) k hlt
        obtain rfl : cs = _ := hR
        have g0 := hcell 0 _ rfl
        have g1 := hcell 1 _ rfl
        rw [Nat.add_zero] at g0
        rw [← Nat.add_assoc] at g1
        obtain ⟨b', o', cs', rfl, hcl', hR', hbl', hsb', hcell'⟩ := SQ.cells (H.out.2.new goodTy hc) k hlt'
        obtain rfl : cs' = _ := hR'
        have e0 := hcell' 0 _ rfl
        have e1 := hcell' 1 _ rfl
        rw [Nat.add_zero] at e0
        rw [← Nat.add_assoc] at e1
        clear hcell hcell' hcl hcl'
        have HF := Lib.hid (tyEq_mk xs[k].dims ys[k].dims xs[k].name ys[k].name)
        cases hp : tyEq xs[k].dims ⟨xs[k].name.toArray⟩ ys[k].dims ⟨ys[k].name.toArray⟩ with
        | true =>
          have HP := Lib.hid hp
          go_wp2_with fail
          go_quiet (fail)
          go_wp2
          go_roundw
          case rel => exact ⟨k + 1, by omega, by go_num, hc.drewN _, Lib.hid (fun j h1 h2 hjk => by
            by_cases e : j = k
            · subst e; have h0 := HF.out; rw [HP.out] at h0; exact of_decide_eq_true h0.symm
            · exact hb.out j h1 h2 (by omega))⟩
          case measure => simp [intOf]; omega
        | false =>
          have HP := Lib.hid hp
          go_wp2_with fail
          go_quiet (fail)
          go_wp2
          go_ret
          refine ⟨ret_b ?_, hc.drewN _⟩
          rw [decide_eq_false_iff_not]
          rintro rfl
          have h0 := HF.out
          rw [HP.out] at h0
          exact of_decide_eq_false h0.symm rfl
      · go_wp2
        go_ret
        exact ⟨ret_b (by rw [decide_eq_true_iff]; exact List.ext_getElem hq (fun j h1 h2 => hb.out j h1 h2 (by omega))), hc⟩
  · have hqz : ((xs.length : Int) == (ys.length : Int)) = false := by rw [beq_eq_false_iff_ne]; omega
    go_wp2
    go_ret
    exact ⟨ret_b (by rw [decide_eq_false_iff_not]; rintro rfl; exact hq rfl), Chg.refl _ _⟩

theorem sg_eq {g k : Sg} : decide (g = k) = ((g.void == k.void) && (decide (g.result = k.result) && decide (g.params = k.params))) := by
  obtain ⟨a, b, c⟩ := g
  obtain ⟨a', b', c'⟩ := k
  rw [Bool.eq_iff_iff]
  simp
  constructor
  · rintro ⟨h1, h2, h3⟩; exact ⟨h2, h3, h1⟩
  · rintro ⟨h1, h2, h3⟩; exact ⟨h3, h1, h2⟩
abbrev sgA (g : Sg) (v : Value) : Array Value := #[v, .bool g.void, .int .i64 g.result.dims, strV g.result.name]
set_option maxRecDepth 100000 in
set_option maxHeartbeats 1600000 in
theorem sgSame_c {S T : Blocks} (w : World) (g k : Sg) (v u : Value) (h : SQ 2 RTy S w v g.params) (h' : SQ 2 RTy T w u k.params) (hl : g.params.length ≤ maxLen) (hl' : k.params.length ≤ maxLen) :
    Calls Tryz.prog 112 #[.agg (sgA g v), .agg (sgA k u)] w fun en w' => en = .returned (.bool (decide (g = k))) ∧ Chg No w w' := by
  obtain ⟨a, cap, hv, -, -⟩ := h.form
  obtain ⟨a', cap', hu, -, -⟩ := h'.form
  have H := Lib.hid (And.intro h (And.intro h' (@sg_eq g k))); clear h h'
  subst hv; subst hu
  unfold maxLen at hl hl'
  have cW : Chg No w ((w.alloc (.cells (sgA g (.slice a g.params.length cap)) 28)).alloc (.cells (sgA k (.slice a' k.params.length cap')) 28)) := ((Chg.refl _ _).alloc _).alloc _
  have HW := Lib.hid cW; clear cW
  cases hb : g.void == k.void with
  | false =>
    have hb' : (k.void == g.void) = false := by rw [beq_eq_false_iff_ne] at hb ⊢; exact fun e => hb e.symm
    have HB := Lib.hid hb
    go_enter Tryz.func112, Tryz.ntmps112
    go_wp2
    go_ret
    exact ⟨ret_b (by rw [H.out.2.2, HB.out]; rfl), HW.out⟩
  | true =>
    have hve : g.void = k.void := eq_of_beq hb
    have hteq := tyEq_mk g.result.dims k.result.dims g.result.name k.result.name
    cases hr : tyEq g.result.dims ⟨g.result.name.toArray⟩ k.result.dims ⟨k.result.name.toArray⟩ with
    | false =>
      have HB := Lib.hid (And.intro hb (show decide (g.result = k.result) = false by rw [hr] at hteq; exact hteq.symm))
      clear hteq hve
      go_enter Tryz.func112, Tryz.ntmps112
      go_wp2
      go_ret
      exact ⟨ret_b (by rw [H.out.2.2, HB.out.1, HB.out.2]; rfl), HW.out⟩
    | true =>
      have HB := Lib.hid (And.intro hb (show decide (g.result = k.result) = true by rw [hr] at hteq; exact hteq.symm))
      clear hteq hve
      go_enter Tryz.func112, Tryz.ntmps112
      go_wp2_with fail
      refine (equal_ty _ _ _ g.params k.params (H.out.1.new goodTy HW.out) (H.out.2.1.new goodTy HW.out) hl hl').mono ?_
      rintro e w1 ⟨rfl, d1⟩
      have D1 := Lib.hid (HW.out.trans d1 (fun _ _ h => h))
      clear d1
      go_wp2
      go_ret
      exact ⟨ret_b (by rw [H.out.2.2, HB.out.1, HB.out.2]; simp), D1.out⟩
end Go.Proofs.YtgmmclcpfmnoiaaGreatDoor
