/-
  slices.Clone, walked at each type of elements: a new row that holds the same elements; nil stays nil.
-/
import Derived.Test.YtgmmclcpfmnoiaaGreatDoorInfos
import Derived.Lib.SliceRun
namespace Go.Proofs.YtgmmclcpfmnoiaaGreatDoor
open Go.RowKit

/-- What Clone leaves. -/
def Cloned {α : Type} (e n : Nat) (R : Reading α) (S : Blocks) (w : World) (xs : List α) (en : Ending) (w' : World) : Prop :=
  ∃ v', en = .returned v' ∧ OQ e n R S w' v' xs ∧ Chg No w w' ∧ ∀ k, v'.ownBlock = some k → w.heap.size ≤ k
theorem made_empty {α : Type} (w : World) (e n : Nat) (R : Reading α) (S : Blocks) : OQ e n R S (w.alloc (.cells #[] e)) (.slice (some ⟨w.heap.size, 0, none⟩) 0 0) ([] : List α) :=
  ⟨[], World.ownsRow_made (base := 0) (e := e) (size := n) w #[] 0 (Nat.zero_le _) (by unfold maxLen; omega) (by simp), Els.nil⟩

set_option maxHeartbeats 800000 in
theorem clone_str (S : Blocks) (w : World) (v : Value) (xs : List Bs) (h : SQ 1 RStr S w v xs) (hS : ∀ k, S k → k < w.heap.size) (hl : xs.length * 16 ≤ 140737488351232) :
    Calls Tryz.prog 48 #[v] w (Cloned 9 1 RStr S w xs) := by
  have qT : ∀ (w : World) (a : Option Addr) (n c n' c' : Nat), (binOp .eql 34 (.slice a n c) (.slice none n' c')).run Tryz.prog w = .ok (.bool a.isNone) w := fun w a n c n' c' => Lib.run_eql_slice_nil w _ _ a n c n' c' Tryz.underlying34
  obtain ⟨a, cap, hv, hc, hn⟩ := h.form
  subst hv
  cases a with
  | none =>
    have h0 : xs = [] := List.eq_nil_of_length_eq_zero (by have := hn rfl; omega)
    subst h0
    go_enter Tryz.func48, Tryz.ntmps48
    go_wp2
    go_ret
    exact ⟨_, rfl, OQ.nil _ _ _ _, Chg.refl _ _, fun k hk => by cases hk⟩
  | some p =>
    have h' := h.new goodStr ((Chg.refl No w).alloc (.cells #[] 9))
    obtain ⟨css, hE, hsrc⟩ := h'.src goodStr (by decide) (P := Tryz.prog) Tryz.underlying34
    have hm := made_empty w 9 1 RStr S
    have HH := Lib.hid (And.intro hE (And.intro hsrc hm)); clear hE hsrc hm h' hn h
    go_enter Tryz.func48, Tryz.ntmps48
    go_wp2_with (at_builtin; refine wpList_appQ rfl (.tmp 5) (.tmp 6) 34 34 rfl 9 zStr 16 Tryz.underlying34 info_str rfl (by decide) goodStr (.slice (some ⟨w.heap.size, 0, none⟩) 0 0) [] rfl HH.out.2.2 (fun k hk e => by have := hS k hk; simp [Value.ownBlock] at e; omega) (.slice (some p) xs.length cap) xs css rfl HH.out.1 HH.out.2.1 (by simp only [List.length_nil]; unfold maxLen; omega) (by simp only [List.length_nil]; omega) ?_; intro v' w1 h1 h2 h3; have HR := Lib.hid (And.intro h1 (And.intro h2 h3)); clear h1 h2 h3)
    go_ret
    obtain ⟨h1, h2, h3⟩ := HR.out
    rw [List.nil_append] at h1
    refine ⟨v', rfl, h1, ((Chg.refl No w).alloc (.cells #[] 9)).trans h2 (fun k hk e => by simp [Value.ownBlock] at e; omega), fun k hk => ?_⟩
    rcases h3 with h3 | ⟨b, h3, h4⟩
    · rw [h3] at hk; simp [Value.ownBlock] at hk; omega
    · rw [h3] at hk; cases hk; simp at h4; omega

set_option maxHeartbeats 800000 in
theorem clone_byte (S : Blocks) (w : World) (v : Value) (xs : List UInt8) (h : SQ 1 RByte S w v xs) (hS : ∀ k, S k → k < w.heap.size) (hl : xs.length * 1 ≤ 140737488351232) :
    Calls Tryz.prog 70 #[v] w (Cloned 5 1 RByte S w xs) := by
  have qT : ∀ (w : World) (a : Option Addr) (n c n' c' : Nat), (binOp .eql 29 (.slice a n c) (.slice none n' c')).run Tryz.prog w = .ok (.bool a.isNone) w := fun w a n c n' c' => Lib.run_eql_slice_nil w _ _ a n c n' c' Tryz.underlying29
  obtain ⟨a, cap, hv, hc, hn⟩ := h.form
  subst hv
  cases a with
  | none =>
    have h0 : xs = [] := List.eq_nil_of_length_eq_zero (by have := hn rfl; omega)
    subst h0
    go_enter Tryz.func70, Tryz.ntmps70
    go_wp2
    go_ret
    exact ⟨_, rfl, OQ.nil _ _ _ _, Chg.refl _ _, fun k hk => by cases hk⟩
  | some p =>
    have h' := h.new goodByte ((Chg.refl No w).alloc (.cells #[] 5))
    obtain ⟨css, hE, hsrc⟩ := h'.src goodByte (by decide) (P := Tryz.prog) Tryz.underlying29
    have hm := made_empty w 5 1 RByte S
    have HH := Lib.hid (And.intro hE (And.intro hsrc hm)); clear hE hsrc hm h' hn h
    go_enter Tryz.func70, Tryz.ntmps70
    go_wp2_with (at_builtin; refine wpList_appQ rfl (.tmp 5) (.tmp 6) 29 29 rfl 5 (.int .u8 0) 1 Tryz.underlying29 info_byte rfl (by decide) goodByte (.slice (some ⟨w.heap.size, 0, none⟩) 0 0) [] rfl HH.out.2.2 (fun k hk e => by have := hS k hk; simp [Value.ownBlock] at e; omega) (.slice (some p) xs.length cap) xs css rfl HH.out.1 HH.out.2.1 (by simp only [List.length_nil]; unfold maxLen; omega) (by simp only [List.length_nil]; omega) ?_; intro v' w1 h1 h2 h3; have HR := Lib.hid (And.intro h1 (And.intro h2 h3)); clear h1 h2 h3)
    go_ret
    obtain ⟨h1, h2, h3⟩ := HR.out
    rw [List.nil_append] at h1
    refine ⟨v', rfl, h1, ((Chg.refl No w).alloc (.cells #[] 5)).trans h2 (fun k hk e => by simp [Value.ownBlock] at e; omega), fun k hk => ?_⟩
    rcases h3 with h3 | ⟨b, h3, h4⟩
    · rw [h3] at hk; simp [Value.ownBlock] at hk; omega
    · rw [h3] at hk; cases hk; simp at h4; omega

set_option maxHeartbeats 800000 in
theorem clone_ty (S : Blocks) (w : World) (v : Value) (xs : List Ty) (h : SQ 2 RTy S w v xs) (hS : ∀ k, S k → k < w.heap.size) (hl : xs.length * 24 ≤ 140737488351232) :
    Calls Tryz.prog 69 #[v] w (Cloned 26 2 RTy S w xs) := by
  have qT : ∀ (w : World) (a : Option Addr) (n c n' c' : Nat), (binOp .eql 24 (.slice a n c) (.slice none n' c')).run Tryz.prog w = .ok (.bool a.isNone) w := fun w a n c n' c' => Lib.run_eql_slice_nil w _ _ a n c n' c' Tryz.underlying24
  obtain ⟨a, cap, hv, hc, hn⟩ := h.form
  subst hv
  cases a with
  | none =>
    have h0 : xs = [] := List.eq_nil_of_length_eq_zero (by have := hn rfl; omega)
    subst h0
    go_enter Tryz.func69, Tryz.ntmps69
    go_wp2
    go_ret
    exact ⟨_, rfl, OQ.nil _ _ _ _, Chg.refl _ _, fun k hk => by cases hk⟩
  | some p =>
    have h' := h.new goodTy ((Chg.refl No w).alloc (.cells #[] 26))
    obtain ⟨css, hE, hsrc⟩ := h'.src goodTy (by decide) (P := Tryz.prog) Tryz.underlying24
    have hm := made_empty w 26 2 RTy S
    have HH := Lib.hid (And.intro hE (And.intro hsrc hm)); clear hE hsrc hm h' hn h
    go_enter Tryz.func69, Tryz.ntmps69
    go_wp2_with (at_builtin; refine wpList_appQ rfl (.tmp 5) (.tmp 6) 24 24 rfl 26 (.agg #[zInt, zStr]) 24 Tryz.underlying24 info_ty rfl (by decide) goodTy (.slice (some ⟨w.heap.size, 0, none⟩) 0 0) [] rfl HH.out.2.2 (fun k hk e => by have := hS k hk; simp [Value.ownBlock] at e; omega) (.slice (some p) xs.length cap) xs css rfl HH.out.1 HH.out.2.1 (by simp only [List.length_nil]; unfold maxLen; omega) (by simp only [List.length_nil]; omega) ?_; intro v' w1 h1 h2 h3; have HR := Lib.hid (And.intro h1 (And.intro h2 h3)); clear h1 h2 h3)
    go_ret
    obtain ⟨h1, h2, h3⟩ := HR.out
    rw [List.nil_append] at h1
    refine ⟨v', rfl, h1, ((Chg.refl No w).alloc (.cells #[] 26)).trans h2 (fun k hk e => by simp [Value.ownBlock] at e; omega), fun k hk => ?_⟩
    rcases h3 with h3 | ⟨b, h3, h4⟩
    · rw [h3] at hk; simp [Value.ownBlock] at hk; omega
    · rw [h3] at hk; cases hk; simp at h4; omega

set_option maxHeartbeats 800000 in
theorem clone_fd (S : Blocks) (w : World) (v : Value) (xs : List Fd) (h : SQ 4 RFd S w v xs) (hS : ∀ k, S k → k < w.heap.size) (hl : xs.length * 48 ≤ 140737488351232) :
    Calls Tryz.prog 67 #[v] w (Cloned 41 4 RFd S w xs) := by
  have qT : ∀ (w : World) (a : Option Addr) (n c n' c' : Nat), (binOp .eql 35 (.slice a n c) (.slice none n' c')).run Tryz.prog w = .ok (.bool a.isNone) w := fun w a n c n' c' => Lib.run_eql_slice_nil w _ _ a n c n' c' Tryz.underlying35
  obtain ⟨a, cap, hv, hc, hn⟩ := h.form
  subst hv
  cases a with
  | none =>
    have h0 : xs = [] := List.eq_nil_of_length_eq_zero (by have := hn rfl; omega)
    subst h0
    go_enter Tryz.func67, Tryz.ntmps67
    go_wp2
    go_ret
    exact ⟨_, rfl, OQ.nil _ _ _ _, Chg.refl _ _, fun k hk => by cases hk⟩
  | some p =>
    have h' := h.new goodFd ((Chg.refl No w).alloc (.cells #[] 41))
    obtain ⟨css, hE, hsrc⟩ := h'.src goodFd (by decide) (P := Tryz.prog) Tryz.underlying35
    have hm := made_empty w 41 4 RFd S
    have HH := Lib.hid (And.intro hE (And.intro hsrc hm)); clear hE hsrc hm h' hn h
    go_enter Tryz.func67, Tryz.ntmps67
    go_wp2_with (at_builtin; refine wpList_appQ rfl (.tmp 5) (.tmp 6) 35 35 rfl 41 (.agg #[zInt, zStr, zInt, zStr]) 48 Tryz.underlying35 info_fd rfl (by decide) goodFd (.slice (some ⟨w.heap.size, 0, none⟩) 0 0) [] rfl HH.out.2.2 (fun k hk e => by have := hS k hk; simp [Value.ownBlock] at e; omega) (.slice (some p) xs.length cap) xs css rfl HH.out.1 HH.out.2.1 (by simp only [List.length_nil]; unfold maxLen; omega) (by simp only [List.length_nil]; omega) ?_; intro v' w1 h1 h2 h3; have HR := Lib.hid (And.intro h1 (And.intro h2 h3)); clear h1 h2 h3)
    go_ret
    obtain ⟨h1, h2, h3⟩ := HR.out
    rw [List.nil_append] at h1
    refine ⟨v', rfl, h1, ((Chg.refl No w).alloc (.cells #[] 41)).trans h2 (fun k hk e => by simp [Value.ownBlock] at e; omega), fun k hk => ?_⟩
    rcases h3 with h3 | ⟨b, h3, h4⟩
    · rw [h3] at hk; simp [Value.ownBlock] at hk; omega
    · rw [h3] at hk; cases hk; simp at h4; omega

set_option maxHeartbeats 800000 in
theorem clone_hd (S : Blocks) (w : World) (v : Value) (xs : List Hd) (h : SQ 4 RHd S w v xs) (hS : ∀ k, S k → k < w.heap.size) (hl : xs.length * 40 ≤ 140737488351232) :
    Calls Tryz.prog 71 #[v] w (Cloned 132 4 RHd S w xs) := by
  have qT : ∀ (w : World) (a : Option Addr) (n c n' c' : Nat), (binOp .eql 30 (.slice a n c) (.slice none n' c')).run Tryz.prog w = .ok (.bool a.isNone) w := fun w a n c n' c' => Lib.run_eql_slice_nil w _ _ a n c n' c' Tryz.underlying30
  obtain ⟨a, cap, hv, hc, hn⟩ := h.form
  subst hv
  cases a with
  | none =>
    have h0 : xs = [] := List.eq_nil_of_length_eq_zero (by have := hn rfl; omega)
    subst h0
    go_enter Tryz.func71, Tryz.ntmps71
    go_wp2
    go_ret
    exact ⟨_, rfl, OQ.nil _ _ _ _, Chg.refl _ _, fun k hk => by cases hk⟩
  | some p =>
    have h' := h.new goodHd ((Chg.refl No w).alloc (.cells #[] 132))
    obtain ⟨css, hE, hsrc⟩ := h'.src goodHd (by decide) (P := Tryz.prog) Tryz.underlying30
    have hm := made_empty w 132 4 RHd S
    have HH := Lib.hid (And.intro hE (And.intro hsrc hm)); clear hE hsrc hm h' hn h
    go_enter Tryz.func71, Tryz.ntmps71
    go_wp2_with (at_builtin; refine wpList_appQ rfl (.tmp 5) (.tmp 6) 30 30 rfl 132 (.agg #[zInt, zInt, zInt, zStr]) 40 Tryz.underlying30 info_hd rfl (by decide) goodHd (.slice (some ⟨w.heap.size, 0, none⟩) 0 0) [] rfl HH.out.2.2 (fun k hk e => by have := hS k hk; simp [Value.ownBlock] at e; omega) (.slice (some p) xs.length cap) xs css rfl HH.out.1 HH.out.2.1 (by simp only [List.length_nil]; unfold maxLen; omega) (by simp only [List.length_nil]; omega) ?_; intro v' w1 h1 h2 h3; have HR := Lib.hid (And.intro h1 (And.intro h2 h3)); clear h1 h2 h3)
    go_ret
    obtain ⟨h1, h2, h3⟩ := HR.out
    rw [List.nil_append] at h1
    refine ⟨v', rfl, h1, ((Chg.refl No w).alloc (.cells #[] 132)).trans h2 (fun k hk e => by simp [Value.ownBlock] at e; omega), fun k hk => ?_⟩
    rcases h3 with h3 | ⟨b, h3, h4⟩
    · rw [h3] at hk; simp [Value.ownBlock] at hk; omega
    · rw [h3] at hk; cases hk; simp at h4; omega

set_option maxHeartbeats 800000 in
theorem clone_mt (S : Blocks) (w : World) (v : Value) (xs : List Mt) (h : SQ 10 RMt S w v xs) (hS : ∀ k, S k → k < w.heap.size) (hl : xs.length * 144 ≤ 140737488351232) :
    Calls Tryz.prog 68 #[v] w (Cloned 32 10 RMt S w xs) := by
  have qT : ∀ (w : World) (a : Option Addr) (n c n' c' : Nat), (binOp .eql 33 (.slice a n c) (.slice none n' c')).run Tryz.prog w = .ok (.bool a.isNone) w := fun w a n c n' c' => Lib.run_eql_slice_nil w _ _ a n c n' c' Tryz.underlying33
  obtain ⟨a, cap, hv, hc, hn⟩ := h.form
  subst hv
  cases a with
  | none =>
    have h0 : xs = [] := List.eq_nil_of_length_eq_zero (by have := hn rfl; omega)
    subst h0
    go_enter Tryz.func68, Tryz.ntmps68
    go_wp2
    go_ret
    exact ⟨_, rfl, OQ.nil _ _ _ _, Chg.refl _ _, fun k hk => by cases hk⟩
  | some p =>
    have h' := h.new goodMt ((Chg.refl No w).alloc (.cells #[] 32))
    obtain ⟨css, hE, hsrc⟩ := h'.src goodMt (by decide) (P := Tryz.prog) Tryz.underlying33
    have hm := made_empty w 32 10 RMt S
    have HH := Lib.hid (And.intro hE (And.intro hsrc hm)); clear hE hsrc hm h' hn h
    go_enter Tryz.func68, Tryz.ntmps68
    go_wp2_with (at_builtin; refine wpList_appQ rfl (.tmp 5) (.tmp 6) 33 33 rfl 32 (.agg #[zInt, zStr, zNil, .bool false, zInt, zStr, zInt, zInt, zNil, zNil]) 144 Tryz.underlying33 info_mt rfl (by decide) goodMt (.slice (some ⟨w.heap.size, 0, none⟩) 0 0) [] rfl HH.out.2.2 (fun k hk e => by have := hS k hk; simp [Value.ownBlock] at e; omega) (.slice (some p) xs.length cap) xs css rfl HH.out.1 HH.out.2.1 (by simp only [List.length_nil]; unfold maxLen; omega) (by simp only [List.length_nil]; omega) ?_; intro v' w1 h1 h2 h3; have HR := Lib.hid (And.intro h1 (And.intro h2 h3)); clear h1 h2 h3)
    go_ret
    obtain ⟨h1, h2, h3⟩ := HR.out
    rw [List.nil_append] at h1
    refine ⟨v', rfl, h1, ((Chg.refl No w).alloc (.cells #[] 32)).trans h2 (fun k hk e => by simp [Value.ownBlock] at e; omega), fun k hk => ?_⟩
    rcases h3 with h3 | ⟨b, h3, h4⟩
    · rw [h3] at hk; simp [Value.ownBlock] at hk; omega
    · rw [h3] at hk; cases hk; simp at h4; omega

set_option maxHeartbeats 800000 in
theorem clone_cl (S : Blocks) (w : World) (v : Value) (xs : List Cl) (h : SQ 6 RCl S w v xs) (hS : ∀ k, S k → k < w.heap.size) (hl : xs.length * 112 ≤ 140737488351232) :
    Calls Tryz.prog 66 #[v] w (Cloned 37 6 RCl S w xs) := by
  have qT : ∀ (w : World) (a : Option Addr) (n c n' c' : Nat), (binOp .eql 38 (.slice a n c) (.slice none n' c')).run Tryz.prog w = .ok (.bool a.isNone) w := fun w a n c n' c' => Lib.run_eql_slice_nil w _ _ a n c n' c' Tryz.underlying38
  obtain ⟨a, cap, hv, hc, hn⟩ := h.form
  subst hv
  cases a with
  | none =>
    have h0 : xs = [] := List.eq_nil_of_length_eq_zero (by have := hn rfl; omega)
    subst h0
    go_enter Tryz.func66, Tryz.ntmps66
    go_wp2
    go_ret
    exact ⟨_, rfl, OQ.nil _ _ _ _, Chg.refl _ _, fun k hk => by cases hk⟩
  | some p =>
    have h' := h.new goodCl ((Chg.refl No w).alloc (.cells #[] 37))
    obtain ⟨css, hE, hsrc⟩ := h'.src goodCl (by decide) (P := Tryz.prog) Tryz.underlying38
    have hm := made_empty w 37 6 RCl S
    have HH := Lib.hid (And.intro hE (And.intro hsrc hm)); clear hE hsrc hm h' hn h
    go_enter Tryz.func66, Tryz.ntmps66
    go_wp2_with (at_builtin; refine wpList_appQ rfl (.tmp 5) (.tmp 6) 38 38 rfl 37 (.agg #[zInt, zStr, zStr, zNil, zNil, zNil]) 112 Tryz.underlying38 info_cl rfl (by decide) goodCl (.slice (some ⟨w.heap.size, 0, none⟩) 0 0) [] rfl HH.out.2.2 (fun k hk e => by have := hS k hk; simp [Value.ownBlock] at e; omega) (.slice (some p) xs.length cap) xs css rfl HH.out.1 HH.out.2.1 (by simp only [List.length_nil]; unfold maxLen; omega) (by simp only [List.length_nil]; omega) ?_; intro v' w1 h1 h2 h3; have HR := Lib.hid (And.intro h1 (And.intro h2 h3)); clear h1 h2 h3)
    go_ret
    obtain ⟨h1, h2, h3⟩ := HR.out
    rw [List.nil_append] at h1
    refine ⟨v', rfl, h1, ((Chg.refl No w).alloc (.cells #[] 37)).trans h2 (fun k hk e => by simp [Value.ownBlock] at e; omega), fun k hk => ?_⟩
    rcases h3 with h3 | ⟨b, h3, h4⟩
    · rw [h3] at hk; simp [Value.ownBlock] at hk; omega
    · rw [h3] at hk; cases hk; simp at h4; omega

set_option maxHeartbeats 800000 in
theorem clone_en (S : Blocks) (w : World) (v : Value) (xs : List En) (h : SQ 6 REn S w v xs) (hS : ∀ k, S k → k < w.heap.size) (hl : xs.length * 56 ≤ 140737488351232) :
    Calls Tryz.prog 65 #[v] w (Cloned 122 6 REn S w xs) := by
  have qT : ∀ (w : World) (a : Option Addr) (n c n' c' : Nat), (binOp .eql 45 (.slice a n c) (.slice none n' c')).run Tryz.prog w = .ok (.bool a.isNone) w := fun w a n c n' c' => Lib.run_eql_slice_nil w _ _ a n c n' c' Tryz.underlying45
  obtain ⟨a, cap, hv, hc, hn⟩ := h.form
  subst hv
  cases a with
  | none =>
    have h0 : xs = [] := List.eq_nil_of_length_eq_zero (by have := hn rfl; omega)
    subst h0
    go_enter Tryz.func65, Tryz.ntmps65
    go_wp2
    go_ret
    exact ⟨_, rfl, OQ.nil _ _ _ _, Chg.refl _ _, fun k hk => by cases hk⟩
  | some p =>
    have h' := h.new goodEn ((Chg.refl No w).alloc (.cells #[] 122))
    obtain ⟨css, hE, hsrc⟩ := h'.src goodEn (by decide) (P := Tryz.prog) Tryz.underlying45
    have hm := made_empty w 122 6 REn S
    have HH := Lib.hid (And.intro hE (And.intro hsrc hm)); clear hE hsrc hm h' hn h
    go_enter Tryz.func65, Tryz.ntmps65
    go_wp2_with (at_builtin; refine wpList_appQ rfl (.tmp 5) (.tmp 6) 45 45 rfl 122 (.agg #[zInt, zStr, zInt, zInt, zInt, zInt]) 56 Tryz.underlying45 info_en rfl (by decide) goodEn (.slice (some ⟨w.heap.size, 0, none⟩) 0 0) [] rfl HH.out.2.2 (fun k hk e => by have := hS k hk; simp [Value.ownBlock] at e; omega) (.slice (some p) xs.length cap) xs css rfl HH.out.1 HH.out.2.1 (by simp only [List.length_nil]; unfold maxLen; omega) (by simp only [List.length_nil]; omega) ?_; intro v' w1 h1 h2 h3; have HR := Lib.hid (And.intro h1 (And.intro h2 h3)); clear h1 h2 h3)
    go_ret
    obtain ⟨h1, h2, h3⟩ := HR.out
    rw [List.nil_append] at h1
    refine ⟨v', rfl, h1, ((Chg.refl No w).alloc (.cells #[] 122)).trans h2 (fun k hk e => by simp [Value.ownBlock] at e; omega), fun k hk => ?_⟩
    rcases h3 with h3 | ⟨b, h3, h4⟩
    · rw [h3] at hk; simp [Value.ownBlock] at hk; omega
    · rw [h3] at hk; cases hk; simp at h4; omega

end Go.Proofs.YtgmmclcpfmnoiaaGreatDoor
