/-
  The walk of CursorNumbers: two bytes are a number, eight are one with its sign; three readers of the same bytes stand alike.
-/
import Derived.Test.YtidjeehjojajmaaKnown
namespace Go.Proofs.Ytidjeehjojajmaa
open Go.RowKit

theorem ntake_ok (bs : List UInt8) (m n : Nat) (hl : m + n ≤ bs.length) : RS.take ⟨bs, m, 0⟩ (n : Int) = ((bs.drop m).take n, ⟨bs, m + n, 0⟩) := by
  rw [take_ok (s := ⟨bs, m, 0⟩) rfl (by omega) (by simp only; omega)]
  simp
/-- The number that n bytes from place m on say. -/
def seg (bs : List UInt8) (m n : Nat) : Nat := beN ((bs.drop m).take n)
theorem beN_append (l m : List UInt8) : beN (l ++ m) = beN l * 256 ^ m.length + beN m := by
  unfold beN
  rw [List.foldl_append]
  generalize l.foldl (fun v b => v * 256 + b.toNat) 0 = a
  induction m generalizing a with
  | nil => simp
  | cons x m ih =>
    have h1 := ih (a * 256 + x.toNat)
    have h2 := ih (0 * 256 + x.toNat)
    simp only [List.foldl_cons] at *
    rw [h1, h2, List.length_cons, Nat.pow_succ]
    generalize 256 ^ m.length = p
    rw [Nat.add_mul, Nat.add_mul, Nat.mul_assoc, Nat.mul_comm 256 p]
    omega
theorem seg_add (bs : List UInt8) (m a b : Nat) (h : m + a + b ≤ bs.length) : seg bs m (a + b) = seg bs m a * 256 ^ b + seg bs (m + a) b := by
  unfold seg
  rw [List.take_add, beN_append, List.drop_drop, List.length_take, List.length_drop]
  congr 3
  omega
theorem seg_lt (bs : List UInt8) (m n : Nat) : seg bs m n < 256 ^ n := by
  have := beN_take_lt (bs.drop m) n; exact this
theorem seg_one (bs : List UInt8) (m : Nat) : seg bs m 1 < 256 := seg_lt bs m 1
theorem seg_two (bs : List UInt8) (m : Nat) (h : m + 2 ≤ bs.length) : seg bs m 2 = 256 * seg bs m 1 + seg bs (m + 1) 1 := by
  have := seg_add bs m 1 1 h; simpa [Nat.mul_comm] using this
theorem seg_zero (bs : List UInt8) (m : Nat) : seg bs m 0 = 0 := by simp [seg, beN]
theorem seg_48 (bs : List UInt8) (m k : Nat) (hk : k < 4) : seg bs m (2 * k) < 281474976710656 := by
  have := seg_lt bs m (2 * k)
  have h2 : 256 ^ (2 * k) ≤ 256 ^ 6 := Nat.pow_le_pow_right (by omega) (by omega)
  omega
theorem or_join16 (B n : Nat) (h : B < 281474976710656) (hn : n < 65536) : bits BinOp.or IntKind.u64 ((B : Int) * 65536) (n : Int) = ((B * 65536 + n : Nat) : Int) := by
  have e : ((B : Int) * 65536) = ((B * 65536 : Nat) : Int) := by omega
  rw [e, u64_or_nat _ _ (by omega) (by omega), nat_join 16 (B * 65536) n (by omega) hn]

theorem rN8_at (T r : Nat) (w : World) (sl : Value) (bs : List UInt8) (m : Nat) (h : Rd T w r sl ⟨bs, m, 0⟩) (hl : m + 8 ≤ bs.length) :
    Calls Try.prog 14 #[.pointer (some ⟨r, 0, none⟩)] w (Tells T w r sl (.int .i64 (wrap64 (seg bs m 8))) ⟨bs, m + 8, 0⟩) := by
  have := rN8 T r w sl _ h
  rw [show (8 : Int) = ((8 : Nat) : Int) from rfl, ntake_ok bs m 8 hl] at this
  exact this
theorem rU2_at (T r : Nat) (w : World) (sl : Value) (bs : List UInt8) (m : Nat) (h : Rd T w r sl ⟨bs, m, 0⟩) (hl : m + 2 ≤ bs.length) :
    Calls Try.prog 15 #[.pointer (some ⟨r, 0, none⟩)] w (Tells T w r sl (.int .i64 (256 * (seg bs m 1 : Int) + (seg bs (m + 1) 1 : Int))) ⟨bs, m + 2, 0⟩) := by
  have := rU2 T r w sl _ h
  rw [show (2 : Int) = ((2 : Nat) : Int) from rfl, ntake_ok bs m 2 hl] at this
  have e : (256 * (seg bs m 1 : Int) + (seg bs (m + 1) 1 : Int)) = ((beN ((bs.drop m).take 2) : Nat) : Int) := by
    have := seg_two bs m hl
    unfold seg at *
    omega
  rw [e]
  exact this
theorem rU1_at (T r : Nat) (w : World) (sl : Value) (bs : List UInt8) (m : Nat) (h : Rd T w r sl ⟨bs, m, 0⟩) (hl : m + 1 ≤ bs.length) :
    Calls Try.prog 16 #[.pointer (some ⟨r, 0, none⟩)] w (Tells T w r sl (.int .i64 (seg bs m 1)) ⟨bs, m + 1, 0⟩) := by
  have := rU1 T r w sl _ h
  rw [show (1 : Int) = ((1 : Nat) : Int) from rfl, ntake_ok bs m 1 hl] at this
  exact this
theorem wrap_back (bs : List UInt8) (m : Nat) : IntKind.u64.wrap (wrap64 (seg bs m 8)) = (seg bs m 8 : Int) := by
  have h := seg_lt bs m 8
  have h8 : (256 : Nat) ^ 8 = 18446744073709551616 := by decide
  rw [IntKind.wrap_u64]
  unfold wrap64
  omega
/-- Three readers that lie apart. -/
structure Three (base r s t : Nat) (a b c : Value) : Prop where
  rs : r ≠ s
  rt : r ≠ t
  st : s ≠ t
  a : ∀ k, a.ownBlock = some k → k ≠ s ∧ k ≠ t
  b : ∀ k, b.ownBlock = some k → k ≠ r ∧ k ≠ t
  c : ∀ k, c.ownBlock = some k → k ≠ r ∧ k ≠ s
  lr : base ≤ r
  ls : base ≤ s
  lt : base ≤ t

set_option maxRecDepth 100000 in
set_option maxHeartbeats 3200000 in
theorem numbers_walk (W : World) (v0 : Value) (bs : List UInt8) (hb : BS W v0 bs) (hl : bs.length ≤ 140737488351232) :
    Calls Try.prog 3 #[v0] W fun e w' => e = .returned (.bool true) ∧ Chg No W w' := by
  go_enter Try.func3, Try.ntmps3
  go_wp2_with fail
  refine (known_c W).mono ?_
  rintro e w1 ⟨rfl, hc1⟩
  go_wp2_with fail
  refine (newReader w1 v0 bs (hb.new hc1) hl).mono ?_
  rintro e w2 ⟨r, slr, rfl, hr, hrlt, hslr, hc2⟩
  go_wp2_with fail
  refine (newReader w2 v0 bs ((hb.new hc1).new hc2) hl).mono ?_
  rintro e w3 ⟨s, sls, rfl, hs, hslt, hsls, hc3⟩
  go_wp2_with fail
  refine (newReader w3 v0 bs (((hb.new hc1).new hc2).new hc3) hl).mono ?_
  rintro e w4 ⟨t, slt, rfl, ht, htlt, hsltt, hc4⟩
  have hr0 := hr.lt
  have hs0 := hs.lt
  have hr1 := hr.bytes.lt
  have hs1 := hs.bytes.lt
  have z1 := hc1.size
  have z2 := hc2.size
  have z3 := hc3.size
  have HD : Three W.heap.size r s t slr sls slt := ⟨by omega, by omega, by omega, (fun k hk => by have := hr1 k hk; omega), (fun k hk => by have h1 := hs1 k hk; have h2 := (hsls k hk).1; omega), (fun k hk => by have h2 := (hsltt k hk).1; omega), by omega, by omega, by omega⟩
  have hR4 := (hr.new hc3).new hc4
  have hS4 := hs.new hc4
  have hc := ((hc1.then hc2).then hc3).then hc4
  obtain ⟨a0, cap0, hv0, hcap0, -, -⟩ := hb
  subst hv0
  have H := Lib.hid (And.intro hR4 (And.intro hS4 (And.intro ht hc)))
  clear hr hs ht hrlt hslr hslt hsls htlt hsltt hc1 hc2 hc3 hc4 hr0 hs0 hr1 hs1 z1 z2 z3 hR4 hS4 hc
  go_wp2
  go_loopw [6] (fun i wr => ∃ j : Nat, 8 * j ≤ bs.length ∧ j ≤ 50 ∧ i = .int .i64 (8 * (j : Int)) ∧ Rd 69 wr r slr ⟨bs, 8 * j, 0⟩ ∧ Rd 69 wr s sls ⟨bs, 8 * j, 0⟩ ∧ Rd 69 wr t slt ⟨bs, 8 * j, 0⟩ ∧ Chg No W wr) (fun i _ => 400 - (intOf i).toNat)
  case atStart => exact ⟨0, Nat.zero_le _, Nat.zero_le _, rfl, H.out.1, H.out.2.1, H.out.2.2.1, H.out.2.2.2⟩
  case round =>
    obtain ⟨j, hj, hj50, rfl, hr, hs, ht, hc⟩ := hrel
    by_cases hlt : 8 * j + 8 ≤ bs.length ∧ j < 50
    · obtain ⟨hlt, hlt2⟩ := hlt
      go_wp2_with fail
      refine (rN8_at _ t _ slt bs _ ht hlt).mono ?_
      rintro e wa ⟨rfl, hta, hca⟩
      have hra := hr.chg hca HD.rt (fun k hk e => (HD.a k hk).2 e)
      have hsa := hs.chg hca HD.st (fun k hk e => (HD.b k hk).2 e)
      have hcW := hc.trans hca (fun k hk e => by have := HD.lt; omega)
      have HA := Lib.hid (And.intro hra (And.intro hsa (And.intro hta hcW)))
      clear hr hs ht hc hra hsa hta hcW hca
      go_wp2
      go_loopw [9, 8] (fun i u wr => ∃ k : Nat, k ≤ 4 ∧ i = .int .i64 k ∧ u = .int .u64 (seg bs (8 * j) (2 * k)) ∧ Rd 69 wr r slr ⟨bs, 8 * j + 2 * k, 0⟩ ∧ Rd 69 wr s sls ⟨bs, 8 * j + 2 * k, 0⟩ ∧ Rd 69 wr t slt ⟨bs, 8 * j + 8, 0⟩ ∧ Chg No W wr) (fun i _ _ => 4 - (intOf i).toNat)
      case atStart => exact ⟨0, Nat.zero_le _, rfl, by simp [seg_zero], HA.out.1, HA.out.2.1, HA.out.2.2.1, HA.out.2.2.2⟩
      case round =>
        obtain ⟨k, hk, rfl, rfl, hr, hs, ht, hc⟩ := hrel
        by_cases hk4 : k < 4
        · have hseg := seg_add bs (8 * j) (2 * k) 2 (by omega)
          have htwo := seg_two bs (8 * j + 2 * k) (by omega)
          have hB := seg_48 bs (8 * j) k hk4
          have ha := seg_one bs (8 * j + 2 * k)
          have hb1 := seg_one bs (8 * j + 2 * k + 1)
          have HS := Lib.hid (And.intro hseg htwo); clear hseg htwo
          go_wp2_with fail
          refine (rU2_at _ r _ slr bs _ hr (by omega)).mono ?_
          rintro e wb ⟨rfl, hrb, hcb⟩
          go_wp2_with fail
          refine (rU1_at _ s _ sls bs _ (hs.chg hcb (fun e => HD.rs e.symm) (fun k hk e => (HD.b k hk).1 e)) (by omega)).mono ?_
          rintro e wc ⟨rfl, hsc, hcc⟩
          go_wp2_with fail
          refine (rU1_at _ s _ sls bs _ hsc (by omega)).mono ?_
          rintro e wd ⟨rfl, hsd, hcd⟩
          have hcs := hcc.trans hcd (fun _ _ h => h)
          have hrd := hrb.chg hcs HD.rs (fun k hk e => (HD.a k hk).1 e)
          have htd := (ht.chg hcb (fun e => HD.rt e.symm) (fun k hk e => (HD.c k hk).1 e)).chg hcs (fun e => HD.st e.symm) (fun k hk e => (HD.c k hk).2 e)
          have hcW := (hc.trans hcb (fun k hk e => by have := HD.lr; omega)).trans hcs (fun k hk e => by have := HD.ls; omega)
          clear hcs hcb hcc hcd hrb hsc hr hs ht hc
          go_wp2
          go_roundw
          case rel =>
            refine ⟨k + 1, by omega, by go_num, ?_, by rw [show 8 * j + 2 * (k + 1) = 8 * j + 2 * k + 2 from by omega]; exact hrd, by rw [show 8 * j + 2 * (k + 1) = 8 * j + 2 * k + 1 + 1 from by omega]; exact hsd, htd, hcW⟩
            have h2 := HS.out.1
            have h3 := HS.out.2
            rw [h3] at h2
            rw [show 2 * (k + 1) = 2 * k + 2 from by omega, h2]
            have e : (256 * (seg bs (8 * j + 2 * k) 1 : Int) + (seg bs (8 * j + 2 * k + 1) 1 : Int)) = ((256 * seg bs (8 * j + 2 * k) 1 + seg bs (8 * j + 2 * k + 1) 1 : Nat) : Int) := by omega
            rw [e, or_join16 _ _ hB (by omega)]
          case measure => simp [intOf]; omega
        · obtain rfl : k = 4 := by omega
          have hwr := wrap_back bs (8 * j)
          rw [show 2 * 4 = 8 from rfl] at hr hs
          go_wp2_with fail
          refine (rAt _ t _ slt _ ht).mono ?_
          rintro e wb ⟨rfl, rfl⟩
          go_wp2_with fail
          refine (rAt _ r _ slr _ hr).mono ?_
          rintro e wb ⟨rfl, rfl⟩
          go_wp2_with fail
          refine (rAt _ s _ sls _ hs).mono ?_
          rintro e wb ⟨rfl, rfl⟩
          go_wp2
          go_roundw
          case rel => exact ⟨j + 1, by omega, by omega, by go_num, hr, hs, ht, hc⟩
          case measure => simp [intOf]; omega
    · by_cases hlt1 : 8 * j + 8 ≤ bs.length
      · have hj2 : ¬ j < 50 := fun h => hlt ⟨hlt1, h⟩
        go_wp2_with fail
        refine (rErr _ r _ slr _ hr).mono ?_
        rintro e wb ⟨rfl, rfl⟩
        go_wp2_with fail
        refine (rErr _ t _ slt _ ht).mono ?_
        rintro e wb ⟨rfl, rfl⟩
        go_wp2
        go_ret
        exact ⟨rfl, hc⟩
      · go_wp2_with fail
        refine (rErr _ r _ slr _ hr).mono ?_
        rintro e wb ⟨rfl, rfl⟩
        go_wp2_with fail
        refine (rErr _ t _ slt _ ht).mono ?_
        rintro e wb ⟨rfl, rfl⟩
        go_wp2
        go_ret
        exact ⟨rfl, hc⟩

end Go.Proofs.Ytidjeehjojajmaa
