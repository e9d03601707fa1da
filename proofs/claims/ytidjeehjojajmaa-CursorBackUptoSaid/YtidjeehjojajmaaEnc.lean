/-
  What a call writes, and that it reads back: no program in sight.
-/
import Derived.Test.YtidjeehjojajmaaLWrites
namespace Go.Proofs.Ytidjeehjojajmaa
open Go.RowKit

/-- A call that the layout takes. -/
def rightI (c : Item) : Bool :=
  if c.kind = 1 then decide (0 ≤ c.n) && decide (c.n < 256)
  else if c.kind = 2 then decide (0 ≤ c.n) && decide (c.n < 65536)
  else if c.kind = 5 then decide (c.b.length < 256)
  else decide (c.kind = 3) || decide (c.kind = 4)
/-- What it writes. -/
def encI (c : Item) : List UInt8 :=
  if c.kind = 1 then [nb c.n] else if c.kind = 2 then [nb (c.n / 256), nb (c.n % 256)] else if c.kind = 3 then n8l c.n else if c.kind = 4 then c.b else nb c.b.length :: c.b
theorem encI_len (c : Item) : (encI c).length ≤ 8 + c.b.length := by
  unfold encI
  split
  · simp; omega
  · split
    · simp; omega
    · split
      · have : (n8l c.n).length = 8 := by simp [n8l]
        omega
      · split
        · omega
        · simp; omega

theorem beN1 {n : Int} (h0 : 0 ≤ n) (h1 : n < 256) : ((beN [nb n] : Nat) : Int) = n := by
  have := nb_toNat h0 (by omega)
  simp only [beN, List.foldl]
  omega
theorem beN2 {n : Int} (h0 : 0 ≤ n) (h1 : n < 65536) : ((beN [nb (n / 256), nb (n % 256)] : Nat) : Int) = n := by
  have h2 := nb_toNat (n := n / 256) (by omega) (by omega)
  have h3 := nb_toNat (n := n % 256) (by omega) (by omega)
  simp only [beN, List.foldl]
  omega
theorem n8b_at (n : Int) (j k : Nat) (h : (56 - 8 * (j : Int)).toNat = k) : ((n8b n j).toNat : Int) = n / 2 ^ k % 256 := by
  unfold n8b
  rw [h]
  exact nb_toNat (Int.emod_nonneg _ (by decide)) (by have := Int.emod_lt_of_pos (n / 2 ^ k) (b := 256) (by decide); omega)
theorem beN_8 (b0 b1 b2 b3 b4 b5 b6 b7 : UInt8) : beN [b0, b1, b2, b3, b4, b5, b6, b7] = ((((((b0.toNat * 256 + b1.toNat) * 256 + b2.toNat) * 256 + b3.toNat) * 256 + b4.toNat) * 256 + b5.toNat) * 256 + b6.toNat) * 256 + b7.toNat := by simp [beN]
theorem beN8 {n : Int} (h0 : -9223372036854775808 ≤ n) (h1 : n ≤ 9223372036854775807) : wrap64 ((beN (n8l n) : Nat) : Int) = n := by
  have e : n8l n = [n8b n 0, n8b n 1, n8b n 2, n8b n 3, n8b n 4, n8b n 5, n8b n 6, n8b n 7] := rfl
  rw [e, beN_8]
  have b0 := n8b_at n 0 56 rfl
  have b1 := n8b_at n 1 48 rfl
  have b2 := n8b_at n 2 40 rfl
  have b3 := n8b_at n 3 32 rfl
  have b4 := n8b_at n 4 24 rfl
  have b5 := n8b_at n 5 16 rfl
  have b6 := n8b_at n 6 8 rfl
  have b7 := n8b_at n 7 0 rfl
  generalize (n8b n 0).toNat = c0 at *
  generalize (n8b n 1).toNat = c1 at *
  generalize (n8b n 2).toNat = c2 at *
  generalize (n8b n 3).toNat = c3 at *
  generalize (n8b n 4).toNat = c4 at *
  generalize (n8b n 5).toNat = c5 at *
  generalize (n8b n 6).toNat = c6 at *
  generalize (n8b n 7).toNat = c7 at *
  have q0 : n / 2 ^ 0 = n := by omega
  have q2 : n / 2 ^ 16 = n / 2 ^ 8 / 256 := by omega
  have q3 : n / 2 ^ 24 = n / 2 ^ 16 / 256 := by omega
  have q4 : n / 2 ^ 32 = n / 2 ^ 24 / 256 := by omega
  have q5 : n / 2 ^ 40 = n / 2 ^ 32 / 256 := by omega
  have q6 : n / 2 ^ 48 = n / 2 ^ 40 / 256 := by omega
  have q7 : n / 2 ^ 56 = n / 2 ^ 48 / 256 := by omega
  have q1 : n / 2 ^ 8 = n / 256 := by omega
  rw [q0] at b7
  generalize n / 2 ^ 56 = p7 at *
  generalize n / 2 ^ 48 = p6 at *
  generalize n / 2 ^ 40 = p5 at *
  generalize n / 2 ^ 32 = p4 at *
  generalize n / 2 ^ 24 = p3 at *
  generalize n / 2 ^ 16 = p2 at *
  generalize n / 2 ^ 8 = p1 at *
  have hs : ((((((((((c0 * 256 + c1) * 256 + c2) * 256 + c3) * 256 + c4) * 256 + c5) * 256 + c6) * 256 + c7 : Nat)) : Int)) = n - 18446744073709551616 * (p7 / 256) := by omega
  rw [hs]
  unfold wrap64
  omega

theorem item_enc (s : WS) {c : Item} (h : rightI c = true) : s.item c = s.put (encI c) := by
  unfold rightI at h
  unfold WS.item encI
  by_cases k1 : c.kind = 1
  · simp only [k1, if_true] at h ⊢
    simp only [Bool.and_eq_true, decide_eq_true_eq] at h
    unfold WS.u1; rw [if_neg (by omega)]
  · rw [if_neg k1] at h ⊢
    rw [if_neg k1]
    by_cases k2 : c.kind = 2
    · simp only [k2, if_true] at h ⊢
      simp only [Bool.and_eq_true, decide_eq_true_eq] at h
      unfold WS.u2; rw [if_neg (by omega)]
    · rw [if_neg k2] at h ⊢
      rw [if_neg k2]
      by_cases k3 : c.kind = 3
      · rw [if_pos k3, if_pos k3]; rfl
      · rw [if_neg k3, if_neg k3]
        by_cases k4 : c.kind = 4
        · rw [if_pos k4, if_pos k4]
        · rw [if_neg k4, if_neg k4]
          by_cases k5 : c.kind = 5
          · rw [if_pos k5] at h ⊢
            simp only [decide_eq_true_eq] at h
            unfold WS.txt; rw [if_neg (by omega)]
          · rw [if_neg k5] at h
            simp [k3, k4] at h

theorem take_enc (A e C : List UInt8) (n : Int) (hn : n = e.length) : RS.take ⟨A ++ e ++ C, A.length, 0⟩ n = (e, ⟨A ++ e ++ C, A.length + e.length, 0⟩) := by
  subst hn
  rw [take_ok rfl (by omega) (by simp only [List.length_append]; omega)]
  simp
theorem text_enc (A b C : List UInt8) (h : b.length < 256) : RS.text ⟨A ++ (nb b.length :: b) ++ C, A.length, 0⟩ = (b, ⟨A ++ (nb b.length :: b) ++ C, A.length + (nb b.length :: b).length, 0⟩) := by
  have e1 : RS.take ⟨A ++ (nb b.length :: b) ++ C, A.length, 0⟩ 1 = ([nb b.length], ⟨A ++ (nb b.length :: b) ++ C, A.length + 1, 0⟩) := by
    have := take_enc A [nb b.length] (b ++ C) 1 (by simp)
    simpa using this
  have e2 : ((beN [nb b.length] : Nat) : Int) = b.length := beN1 (by omega) (by omega)
  have e3 : RS.take ⟨A ++ (nb b.length :: b) ++ C, A.length + 1, 0⟩ b.length = (b, ⟨A ++ (nb b.length :: b) ++ C, A.length + 1 + b.length, 0⟩) := by
    have := take_enc (A ++ [nb b.length]) b C b.length rfl
    simpa using this
  unfold RS.text
  simp only [e1, e2, e3, if_true]
  simp only [List.length_cons]
  rw [show A.length + 1 + b.length = A.length + (b.length + 1) from by omega]
/-- All that the first calls write. -/
def encs (xs : List Item) (k : Nat) : List UInt8 := (xs.take k).flatMap encI
theorem encs_succ (xs : List Item) (k : Nat) (h : k < xs.length) : encs xs (k + 1) = encs xs k ++ encI xs[k] := by
  unfold encs; rw [List.take_succ_eq_append_getElem h, List.flatMap_append]; simp
theorem encs_split (xs : List Item) (k K : Nat) (h : k < K) (hK : K ≤ xs.length) : ∃ C, encs xs K = encs xs k ++ encI (xs[k]'(by omega)) ++ C := by
  rw [← encs_succ xs k (by omega)]
  refine ⟨((xs.drop (k + 1)).take (K - (k + 1))).flatMap encI, ?_⟩
  unfold encs
  rw [← List.flatMap_append]
  congr 1
  rw [← List.take_add]
  congr 1
  omega
theorem encs_len (xs : List Item) (k : Nat) (h : k ≤ 300) : (encs xs k).length ≤ 2400 + (xs.map fun x => x.b.length).sum := by
  have h1 : ∀ l : List Item, (l.flatMap encI).length ≤ 8 * l.length + (l.map fun x => x.b.length).sum := by
    intro l
    induction l with
    | nil => simp
    | cons x r ih => have := encI_len x; simp only [List.flatMap_cons, List.length_append, List.length_cons, List.map_cons, List.sum_cons]; omega
  have h2 := h1 (xs.take k)
  have h3 := sum_take_le xs k
  have h4 : (xs.take k).length ≤ k := by rw [List.length_take]; omega
  unfold encs
  omega

end Go.Proofs.Ytidjeehjojajmaa
