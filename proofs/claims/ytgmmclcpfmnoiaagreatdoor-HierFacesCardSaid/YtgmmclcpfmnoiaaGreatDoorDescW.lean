/-
  Package desc, walked: the texts of types.
-/
import Derived.Test.YtgmmclcpfmnoiaaGreatDoorTextW1
import Derived.Test.YtgmmclcpfmnoiaaGreatDoorPlain1
import Derived.Test.YtgmmclcpfmnoiaaGreatDoorShelf
import Derived.Test.YtgmmclcpfmnoiaaGreatDoorExt
import Derived.Test.YtgmmclcpfmnoiaaGreatDoorExt
namespace Go.Proofs.YtgmmclcpfmnoiaaGreatDoor
open Go.RowKit
attribute [local go_sem high] eqTy_run

theorem ext_take (s : Bs) (n : Nat) : (ByteArray.mk s.toArray).extract 0 n = ⟨(s.take n).toArray⟩ := by
  apply ByteArray.ext
  simp [ByteArray.data_extract]
theorem ext_drop (s : Bs) (n : Nat) : (ByteArray.mk s.toArray).extract n s.length = ⟨(s.drop n).toArray⟩ := by
  apply ByteArray.ext
  simp only [ByteArray.data_extract, List.extract_toArray]
  rw [List.extract_eq_take_drop, List.take_of_length_le (by simp)]
/-- Does a text begin with a byte? -/
def pre1 (s : Bs) (c : UInt8) : Bool := match s with
  | [] => false
  | x :: _ => c == x
theorem hasPre_c (w : World) (s : Bs) (c : UInt8) : Calls Tryz.prog 134 #[strV s, .string ⟨#[c]⟩] w fun e w' => e = .returned (.bool (pre1 s c)) ∧ w' = w := by
  refine (Tryz.strings_HasPrefix ⟨s.toArray⟩ ⟨#[c]⟩ w).mono ?_
  rintro e w' ⟨rfl, rfl⟩
  refine ⟨ret_b ?_, rfl⟩
  unfold pre1 Lib.hasPrefix
  cases s with
  | nil => rfl
  | cons x r => simp [List.isPrefixOf]
theorem trim_c (w : World) (s : Bs) (c : UInt8) (hc : c.toNat < 128) : Calls Tryz.prog 158 #[strV s, .string ⟨#[c]⟩] w fun e w' => e = .returned (strV (s.dropWhile (· == c))) ∧ w' = w := by
  refine (Tryz.strings_TrimLeft_one ⟨s.toArray⟩ c hc w).mono ?_
  rintro e w' ⟨rfl, rfl⟩
  exact ⟨rfl, rfl⟩
theorem brk_drop (s : Bs) : s.dropWhile (· == 91) = s.drop (brk s) := by
  induction s with
  | nil => rfl
  | cons x r ih =>
    unfold brk
    by_cases h : x = 91
    · subst h; simp [ih]
    · simp [h]
theorem cut_index (c : UInt8) (s : Bs) : (match cutAt c s with
    | none => Lib.indexByte s c = -1
    | some (a, b) => Lib.indexByte s c = (a.length : Int) ∧ s.take a.length = a ∧ s.drop (a.length + 1) = b) := by
  induction s with
  | nil => rfl
  | cons x r ih =>
    unfold cutAt Lib.indexByte
    by_cases h : x = c
    · subst h; simp
    · simp only [h, if_false]
      have hb : (x == c) = false := by simp [h]
      cases hr : cutAt c r with
      | none => rw [hr] at ih; simp only at ih ⊢; simp [hb, ih]
      | some p =>
        obtain ⟨a, b⟩ := p
        rw [hr] at ih
        simp only at ih ⊢
        obtain ⟨i1, i2, i3⟩ := ih
        have hn : ¬ ((a.length : Int) = -1) := by omega
        simp [hb, i1, i2, i3, hn]
set_option maxRecDepth 100000 in
set_option maxHeartbeats 1600000 in
theorem scut_c (w : World) (s : Bs) (c : UInt8) (hl : s.length ≤ maxLen) : Calls Tryz.prog 186 #[strV s, .string ⟨#[c]⟩] w fun e w' => (e = match cutAt c s with
    | none => .returned (.tuple #[strV s, strV [], .bool false])
    | some (a, b) => .returned (.tuple #[strV a, strV b, .bool true])) ∧ Chg No w w' := by
  have hci := cut_index c s
  unfold maxLen at hl
  cases hr : cutAt c s with
  | none =>
    rw [hr] at hci
    simp only at hci ⊢
    have HC := Lib.hid hci; clear hci hr
    go_enter Tryz.func186, Tryz.ntmps186
    go_wp2_with fail
    have h := Tryz.stringslite_Index_one ⟨s.toArray⟩ c w
    rw [show (ByteArray.mk s.toArray).data.toList = s from rfl, HC.out] at h
    refine h.mono ?_
    rintro e w1 ⟨rfl, rfl⟩
    clear h
    go_wp2
    go_ret3
    exact ⟨rfl, Chg.refl _ _⟩
  | some p =>
    obtain ⟨a, b⟩ := p
    rw [hr] at hci
    simp only at hci ⊢
    obtain ⟨i1, i2, i3⟩ := hci
    have hal : a.length < s.length := by
      have := congrArg List.length (cutAt_len hr)
      rw [List.length_append, List.length_cons] at this; omega
    have HC := Lib.hid (And.intro i1 (And.intro i2 i3)); clear i1 i2 i3 hr
    have hn1 : a.length ≤ s.length := by omega
    have hn2 : a.length + 1 ≤ s.length := by omega
    have hw : IntKind.i64.wrap ((a.length : Int) + 1) = (a.length : Int) + 1 := by rw [IntWalk.i64_in _ (by omega)]
    go_enter Tryz.func186, Tryz.ntmps186
    go_wp2_with fail
    have h := Tryz.stringslite_Index_one ⟨s.toArray⟩ c w
    rw [show (ByteArray.mk s.toArray).data.toList = s from rfl, HC.out.1] at h
    refine h.mono ?_
    rintro e w1 ⟨rfl, rfl⟩
    clear h
    go_wp2_with fail
    go_quiet (fail)
    go_wp2
    go_ret3
    rw [ext_take, ext_drop, HC.out.2.1, HC.out.2.2]
    exact ⟨rfl, (Chg.refl _ _).drewN _⟩

theorem cut_c (w : World) (s : Bs) (c : UInt8) (hl : s.length ≤ maxLen) : Calls Tryz.prog 159 #[strV s, .string ⟨#[c]⟩] w fun e w' => (e = match cutAt c s with
    | none => .returned (.tuple #[strV s, strV [], .bool false])
    | some (a, b) => .returned (.tuple #[strV a, strV b, .bool true])) ∧ Chg No w w' := by
  have h := scut_c w s c hl
  cases hr : cutAt c s with
  | none =>
    rw [hr] at h
    clear hr
    go_enter Tryz.func159, Tryz.ntmps159
    go_wp2_with fail
    refine h.mono ?_
    rintro e w1 ⟨rfl, c1⟩
    clear h
    go_wp2
    go_ret3
    exact ⟨rfl, c1⟩
  | some p =>
    obtain ⟨a, b⟩ := p
    rw [hr] at h
    clear hr
    go_enter Tryz.func159, Tryz.ntmps159
    go_wp2_with fail
    refine h.mono ?_
    rintro e w1 ⟨rfl, c1⟩
    clear h
    go_wp2
    go_ret3
    exact ⟨rfl, c1⟩

/-- A type is what came out, what is left, whether there was one. -/
def FirstPost (w : World) (s : Bs) (e : Ending) (w' : World) : Prop := (e = match firstTy s with
    | some (t, r) => .returned (.tuple #[tyV t, strV r, .bool true])
    | none => .returned (.tuple #[tyV zTy, strV [], .bool false])) ∧ Chg No w w'
theorem t2 {w : World} {r : Nat} {T : TypeId} (h : w.heap[r]? = some (.cells #[.int .i64 0, strV []] T (0, 0))) : w.cell? ⟨r, 0, none⟩ = some (.int .i64 0) ∧ w.cell? ⟨r, 1, none⟩ = some (strV []) ∧ w.frozen? ⟨r, 0, none⟩ = false ∧ w.frozen? ⟨r, 1, none⟩ = false :=
  ⟨blk_cell h rfl, blk_cell h rfl, blk_frozen h 0, blk_frozen h 1⟩
section
variable {s : Bs} {c : UInt8} {r a b nm : Bs}
theorem first_many (h : 8 < brk s) : firstTy s = none := by unfold firstTy; rw [if_pos h]
theorem first_nil (h : ¬ 8 < brk s) (hq : s.drop (brk s) = []) : firstTy s = none := by unfold firstTy; rw [if_neg h, hq]
theorem first_I (h : ¬ 8 < brk s) (hq : s.drop (brk s) = 73 :: r) : firstTy s = some (⟨(brk s : Int), []⟩, r) := by unfold firstTy; rw [if_neg h, hq]; first | rfl | simp
theorem first_none (h : ¬ 8 < brk s) (hq : s.drop (brk s) = c :: r) (hc : c ≠ 73) (hcut : cutAt 59 (c :: r) = none) : firstTy s = none := by
  unfold firstTy; rw [if_neg h, hq]
  simp only [hc, if_false]
  split
  · rename_i h76
    unfold cutAt at hcut
    rw [if_neg (by rw [h76]; decide)] at hcut
    cases hr : cutAt 59 r with
    | none => rfl
    | some p => rw [hr] at hcut; cases hcut
  · rfl
theorem first_noL (h : ¬ 8 < brk s) (hq : s.drop (brk s) = c :: r) (hc : c ≠ 73) (hcut : cutAt 59 (c :: r) = some (a, b)) (hp : pre1 a 76 = false) : firstTy s = none := by
  unfold firstTy; rw [if_neg h, hq]
  simp only [hc, if_false]
  split
  · rename_i h76
    unfold cutAt at hcut
    rw [if_neg (by rw [h76]; decide)] at hcut
    cases hr : cutAt 59 r with
    | none => simp [hr] at hcut
    | some p => obtain ⟨x, y⟩ := p; rw [hr] at hcut; cases hcut; rw [h76] at hp; simp [pre1] at hp
  · rfl
theorem first_L (h : ¬ 8 < brk s) (hq : s.drop (brk s) = c :: r) (hcut : cutAt 59 (c :: r) = some (76 :: nm, b)) : firstTy s = if nameB nm = true then some (⟨(brk s : Int), nm⟩, b) else none := by
  have hc : c = 76 ∧ cutAt 59 r = some (nm, b) := by
    unfold cutAt at hcut
    split at hcut
    · cases hcut
    · cases hr : cutAt 59 r with
      | none => simp [hr] at hcut
      | some p => obtain ⟨x, y⟩ := p; rw [hr] at hcut; cases hcut; exact ⟨rfl, rfl⟩
  unfold firstTy; rw [if_neg h, hq]
  simp only [hc.1, hc.2]
  first | rfl | simp
end
theorem pre1_cons {a : Bs} {c : UInt8} (h : pre1 a c = true) : ∃ nm, a = c :: nm := by
  cases a with
  | nil => cases h
  | cons x r => unfold pre1 at h; have := eq_of_beq h; subst this; exact ⟨r, rfl⟩
theorem ext_one (c : UInt8) (r : Bs) : (ByteArray.mk (c :: r).toArray).extract 1 (r.length + 1) = ⟨r.toArray⟩ := by
  have := ext_drop (c :: r) 1
  simpa using this
set_option maxRecDepth 100000 in
set_option maxHeartbeats 1600000 in
theorem first_c (w : World) (s : Bs) (hl : s.length ≤ maxLen) : Calls Tryz.prog 133 #[strV s] w (FirstPost w s) := by
  have hb := brk_le s
  have hl' := hl
  unfold maxLen at hl'
  obtain ⟨n, hn⟩ : ∃ n, n = brk s := ⟨_, rfl⟩
  obtain ⟨q, hq⟩ : ∃ q, q = s.drop n := ⟨_, rfl⟩
  have hql : q.length = s.length - n := by rw [hq, List.length_drop]
  have hsub : (s.length : Int) - (q.length : Int) = (n : Int) := by omega
  have hdw : s.dropWhile (· == 91) = q := by rw [brk_drop, hq, hn]
  have hex : (ByteArray.mk s.toArray).extract n s.length = ⟨q.toArray⟩ := by rw [ext_drop, hq]
  rw [← hn] at hb
  have hqm : q.length ≤ maxLen := by unfold maxLen; omega
  have HD := Lib.hid (And.intro hn (And.intro hq (And.intro hdw (And.intro hql hqm))))
  have hT := (t2 (alloc_at w (.cells #[.int .i64 0, strV []] 26) rfl))
  go_enter Tryz.func133, Tryz.ntmps133
  go_wp2_with fail
  have h := trim_c (w.alloc (.cells #[.int .i64 0, strV []] 26)) s 91 (by decide)
  rw [hdw] at h
  refine h.mono ?_
  rintro e w1 ⟨rfl, rfl⟩
  clear h hn hq hdw hql hqm
  by_cases h8 : 8 < n
  · have h8' : (8 : Int) < (n : Int) := by omega
    have H8 := Lib.hid h8; clear h8
    go_wp2
    refine bodyPost_ret (v := .tuple #[tyV zTy, strV [], .bool false]) (by simp [results, Tryz.results133, go_sem]) rfl ⟨?_, ?_⟩
    · rw [first_many (by rw [← HD.out.1]; exact H8.out)]
    · exact (Chg.refl _ _).alloc _
  · have h8' : ¬ ((8 : Int) < (n : Int)) := by omega
    have H8 := Lib.hid (show ¬ 8 < brk s by rw [← HD.out.1]; exact h8); clear h8
    have HQ := Lib.hid (show s.drop (brk s) = q by rw [← HD.out.1]; exact HD.out.2.1.symm)
    go_wp2_with fail
    cases q with
    | nil =>
      refine (hasPre_c _ [] 73).mono ?_
      rintro e w1 ⟨rfl, rfl⟩
      clear hsub hex
      go_wp2_with fail
      have h := cut_c (w.alloc (.cells #[.int .i64 0, strV []] 26)) [] 59 HD.out.2.2.2.2
      rw [show cutAt 59 [] = none from rfl] at h
      refine h.mono ?_
      rintro e w1 ⟨rfl, d1⟩
      clear h
      obtain ⟨r0, r1, f0, f1⟩ := t2 (d1.blk (alloc_at w (.cells #[.int .i64 0, strV []] 26) rfl))
      have D1 := Lib.hid d1; clear d1
      go_wp2
      refine bodyPost_ret (v := .tuple #[tyV zTy, strV [], .bool false]) (by simp [results, Tryz.results133, go_sem, r0, r1]) rfl ⟨?_, ?_⟩
      · rw [first_nil H8.out HQ.out]
      · exact ((((Chg.refl No w).alloc _).trans D1.out (fun _ _ h => h)).set_new (Nat.le_refl _) _ _).set_new (Nat.le_refl _) _ _
    | cons c r =>
      by_cases hc : c = 73
      · subst hc
        have hp : pre1 (73 :: r) 73 = true := rfl
        have h := hasPre_c (w.alloc (.cells #[.int .i64 0, strV []] 26)) (73 :: r) 73
        rw [hp] at h
        refine h.mono ?_
        rintro e w1 ⟨rfl, rfl⟩
        clear h hp hsub hex
        have he := ext_one 73 r
        go_wp2_with fail
        go_region
        go_wp2
        refine bodyPost_ret (v := .tuple #[tyV ⟨(n : Int), []⟩, strV r, .bool true]) (by simp [results, Tryz.results133, go_sem]) rfl ⟨?_, ?_⟩
        · rw [first_I H8.out HQ.out, ← HD.out.1]
        · exact ((Chg.refl No w).alloc _).drewN _
      · have hp : pre1 (c :: r) 73 = false := by unfold pre1; simp; exact fun e => hc e.symm
        have h := hasPre_c (w.alloc (.cells #[.int .i64 0, strV []] 26)) (c :: r) 73
        rw [hp] at h
        refine h.mono ?_
        rintro e w1 ⟨rfl, rfl⟩
        clear h hp hsub hex
        go_wp2_with fail
        have h := cut_c (w.alloc (.cells #[.int .i64 0, strV []] 26)) (c :: r) 59 HD.out.2.2.2.2
        cases hcut : cutAt 59 (c :: r) with
        | none =>
          rw [hcut] at h
          refine h.mono ?_
          rintro e w1 ⟨rfl, d1⟩
          obtain ⟨r0, r1, f0, f1⟩ := t2 (d1.blk (alloc_at w (.cells #[.int .i64 0, strV []] 26) rfl))
          have D1 := Lib.hid d1
          have HC := Lib.hid (And.intro hc hcut)
          clear d1 h hcut hc
          go_wp2
          refine bodyPost_ret (v := .tuple #[tyV zTy, strV [], .bool false]) (by simp [results, Tryz.results133, go_sem, r0, r1]) rfl ⟨?_, ?_⟩
          · rw [first_none H8.out HQ.out HC.out.1 HC.out.2]
          · exact ((((Chg.refl No w).alloc _).trans D1.out (fun _ _ h => h)).set_new (Nat.le_refl _) _ _).set_new (Nat.le_refl _) _ _
        | some p =>
          obtain ⟨a, b⟩ := p
          have ham : a.length ≤ maxLen := by
            have h1 := congrArg List.length (cutAt_len hcut)
            have h2 := HD.out.2.2.2.2
            rw [List.length_append] at h1; omega
          rw [hcut] at h
          refine h.mono ?_
          rintro e w1 ⟨rfl, d1⟩
          obtain ⟨r0, r1, f0, f1⟩ := t2 (d1.blk (alloc_at w (.cells #[.int .i64 0, strV []] 26) rfl))
          have D1 := Lib.hid d1
          have HC := Lib.hid (And.intro hc (And.intro hcut ham))
          clear d1 h hcut hc ham
          go_wp2_with fail
          have h := hasPre_c w1 a 76
          cases hp : pre1 a 76 with
          | false =>
            rw [hp] at h
            refine h.mono ?_
            rintro e w2 ⟨rfl, rfl⟩
            have HP := Lib.hid hp
            clear h hp
            go_wp2
            refine bodyPost_ret (v := .tuple #[tyV zTy, strV [], .bool false]) (by simp [results, Tryz.results133, go_sem, r0, r1]) rfl ⟨?_, ?_⟩
            · rw [first_noL H8.out HQ.out HC.out.1 HC.out.2.1 HP.out]
            · exact ((((Chg.refl No w).alloc _).trans D1.out (fun _ _ h => h)).set_new (Nat.le_refl _) _ _).set_new (Nat.le_refl _) _ _
          | true =>
            rw [hp] at h
            refine h.mono ?_
            rintro e w2 ⟨rfl, rfl⟩
            obtain ⟨nm, rfl⟩ := pre1_cons hp
            have he := ext_one 76 nm
            clear h hp
            go_wp2_with fail
            have h := name_c w2 nm (by have := HC.out.2.2; unfold maxLen at this; simp at this; omega)
            cases hb : nameB nm with
            | false =>
              rw [hb] at h
              refine h.mono ?_
              rintro e w3 ⟨rfl, rfl⟩
              have HB := Lib.hid hb
              clear h hb
              go_wp2
              refine bodyPost_ret (v := .tuple #[tyV zTy, strV [], .bool false]) (by simp [results, Tryz.results133, go_sem, r0, r1]) rfl ⟨?_, ?_⟩
              · rw [first_L H8.out HQ.out HC.out.2.1, if_neg (by rw [HB.out]; decide)]
              · exact ((((Chg.refl No w).alloc _).trans D1.out (fun _ _ h => h)).set_new (Nat.le_refl _) _ _).set_new (Nat.le_refl _) _ _
            | true =>
              rw [hb] at h
              refine h.mono ?_
              rintro e w3 ⟨rfl, rfl⟩
              have HB := Lib.hid hb
              clear h hb
              go_wp2
              refine bodyPost_ret (v := .tuple #[tyV ⟨(n : Int), nm⟩, strV b, .bool true]) (by simp [results, Tryz.results133, go_sem, r0, r1]) rfl ⟨?_, ?_⟩
              · rw [first_L H8.out HQ.out HC.out.2.1, if_pos HB.out, ← HD.out.1]
              · exact ((((Chg.refl No w).alloc _).trans D1.out (fun _ _ h => h)).set_new (Nat.le_refl _) _ _).set_new (Nat.le_refl _) _ _

/-- A type's value and a number. -/
theorem t2b {w : World} {r : Nat} {T : TypeId} {t : Ty} (h : w.heap[r]? = some (.cells #[.int .i64 t.dims, strV t.name] T (0, 0))) : w.cell? ⟨r, 0, none⟩ = some (.int .i64 t.dims) ∧ w.cell? ⟨r, 1, none⟩ = some (strV t.name) := ⟨blk_cell h rfl, blk_cell h rfl⟩
set_option maxRecDepth 100000 in
set_option maxHeartbeats 1600000 in
theorem type_c (w : World) (s : Bs) (hl : s.length ≤ maxLen) : Calls Tryz.prog 108 #[strV s] w fun e w' => e = .returned (.tuple #[tyV (typeRead s).1, .int .i64 (typeRead s).2]) ∧ Chg No w w' := by
  have h := first_c (w.alloc (.cells #[.int .i64 0, strV []] 26)) s hl
  unfold FirstPost at h
  go_enter Tryz.func108, Tryz.ntmps108
  go_wp2_with fail
  cases hf : firstTy s with
  | none =>
    rw [hf] at h
    refine h.mono ?_
    rintro e w1 ⟨rfl, d1⟩
    obtain ⟨r0, r1, f0, f1⟩ := t2 (d1.blk (alloc_at w (.cells #[.int .i64 0, strV []] 26) rfl))
    have hlt := heap_lt (d1.blk (alloc_at w (.cells #[.int .i64 0, strV []] 26) rfl))
    have D1 := Lib.hid d1
    have HF := Lib.hid hf
    clear h d1 hf
    go_wp2
    refine bodyPost_ret (v := .tuple #[tyV zTy, .int .i64 15]) (by simp [results, Tryz.results108, go_sem, r0, r1, hlt]) rfl ⟨?_, ?_⟩
    · unfold typeRead; rw [HF.out]
    · exact (((((Chg.refl No w).alloc _).trans D1.out (fun _ _ h => h)).set_new (Nat.le_refl _) _ _).set_new (Nat.le_refl _) _ _).alloc _
  | some p =>
    obtain ⟨t, r⟩ := p
    rw [hf] at h
    refine h.mono ?_
    rintro e w1 ⟨rfl, d1⟩
    obtain ⟨r0, r1, f0, f1⟩ := t2 (d1.blk (alloc_at w (.cells #[.int .i64 0, strV []] 26) rfl))
    have hlt := heap_lt (d1.blk (alloc_at w (.cells #[.int .i64 0, strV []] 26) rfl))
    have D1 := Lib.hid d1
    have HF := Lib.hid hf
    clear h d1 hf
    cases r with
    | nil =>
      go_wp2
      refine bodyPost_ret (v := .tuple #[tyV t, .int .i64 0]) (by simp [results, Tryz.results108, go_sem, r0, r1, hlt]) rfl ⟨?_, ?_⟩
      · unfold typeRead; rw [HF.out]
      · exact (((((Chg.refl No w).alloc _).trans D1.out (fun _ _ h => h)).set_new (Nat.le_refl _) _ _).set_new (Nat.le_refl _) _ _).alloc _
    | cons x r =>
      go_wp2
      refine bodyPost_ret (v := .tuple #[tyV zTy, .int .i64 15]) (by simp [results, Tryz.results108, go_sem, r0, r1, hlt]) rfl ⟨?_, ?_⟩
      · unfold typeRead; rw [HF.out]
      · exact (((((Chg.refl No w).alloc _).trans D1.out (fun _ _ h => h)).set_new (Nat.le_refl _) _ _).set_new (Nat.le_refl _) _ _).alloc _
end Go.Proofs.YtgmmclcpfmnoiaaGreatDoor
