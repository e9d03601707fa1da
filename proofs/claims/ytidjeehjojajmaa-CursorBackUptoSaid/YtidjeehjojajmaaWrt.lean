/-
  The writer's calls (package cursor): what each does to the writer, as long as it holds fewer than 2^48 * 4/5 bytes.
-/
import Derived.Test.YtidjeehjojajmaaRdr3
namespace Go.Proofs.Ytidjeehjojajmaa
open Go.RowKit

/-- A writer's bytes and error. -/
structure WS where
  bs : List UInt8
  err : Int

def WS.fail (s : WS) (e : Int) : WS := if s.err = 0 then { s with err := e } else s
def WS.put (s : WS) (l : List UInt8) : WS := if s.err = 0 then { s with bs := s.bs ++ l } else s
theorem WS.fail_yes {s : WS} (h : s.err = 0) (e : Int) : s.fail e = { s with err := e } := by unfold WS.fail; rw [if_pos h]
theorem WS.fail_no {s : WS} (h : ¬ s.err = 0) (e : Int) : s.fail e = s := by unfold WS.fail; rw [if_neg h]
theorem WS.put_yes {s : WS} (h : s.err = 0) (l : List UInt8) : s.put l = { s with bs := s.bs ++ l } := by unfold WS.put; rw [if_pos h]
theorem WS.put_no {s : WS} (h : ¬ s.err = 0) (l : List UInt8) : s.put l = s := by unfold WS.put; rw [if_neg h]
theorem WS.put_len (s : WS) (l : List UInt8) : (s.put l).bs.length ≤ s.bs.length + l.length := by unfold WS.put; split <;> simp
theorem WS.fail_bs (s : WS) (e : Int) : (s.fail e).bs = s.bs := by unfold WS.fail; split <;> rfl

/-- So many bytes a writer may hold. -/
def WMax : Nat := 225179981368000

/-- Block b is a writer in that state, its bytes in the slice sl. -/
structure Wr (w : World) (b : Nat) (sl : Value) (s : WS) : Prop where
  cells : w.heap[b]? = some (.cells #[sl, .int .i64 0, .int .i64 s.err] 71 (0, 0))
  own : OB w sl s.bs
  apart : sl.ownBlock ≠ some b

/-- What a writer's calls may change. -/
def Fp (b : Nat) (sl : Value) : Nat → Prop := fun k => k = b ∨ sl.ownBlock = some k
/-- A step of the writer at block b: its bytes lie where they lay, or in new memory. -/
structure WStep (b : Nat) (w : World) (sl : Value) (w' : World) (sl' : Value) : Prop where
  chg : Chg (Fp b sl) w w'
  at_ : sl'.ownBlock = sl.ownBlock ∨ ∃ k, sl'.ownBlock = some k ∧ w.heap.size ≤ k

theorem WStep.refl (b : Nat) (w : World) (sl : Value) : WStep b w sl w sl := ⟨Chg.refl _ _, .inl rfl⟩
theorem WStep.new {b : Nat} {w w' : World} {sl : Value} (c : Chg No w w') : WStep b w sl w' sl := ⟨c.mono (fun _ _ h => h.elim), .inl rfl⟩
theorem WStep.trans {b : Nat} {w w1 w2 : World} {sl sl1 sl2 : Value} (h : WStep b w sl w1 sl1) (k : WStep b w1 sl1 w2 sl2) : WStep b w sl w2 sl2 := by
  refine ⟨h.chg.trans k.chg (fun n hn hs => ?_), ?_⟩
  · rcases hs with hs | hs
    · exact .inl hs
    · rcases h.at_ with e | ⟨m, e, hm⟩
      · exact .inr (e ▸ hs)
      · rw [e] at hs; cases hs; omega
  · rcases k.at_ with e | ⟨m, e, hm⟩
    · rcases h.at_ with e' | ⟨m, e', hm⟩
      · exact .inl (e.trans e')
      · exact .inr ⟨m, e.trans e', hm⟩
    · exact .inr ⟨m, e, Nat.le_trans h.chg.size hm⟩

section
variable {w w' : World} {b : Nat} {sl : Value} {s : WS}
theorem Wr.c0 (h : Wr w b sl s) : w.cell? ⟨b, 0, none⟩ = some sl := by simp [World.cell?, h.cells]
theorem Wr.c2 (h : Wr w b sl s) : w.cell? ⟨b, 2, none⟩ = some (.int .i64 s.err) := by simp [World.cell?, h.cells]
theorem Wr.fz (h : Wr w b sl s) (o : Nat) : w.frozen? ⟨b, o, none⟩ = false := by simp [World.frozen?, h.cells]
theorem Wr.lt (h : Wr w b sl s) : b < w.heap.size := heap_lt h.cells
theorem Wr.slt (h : Wr w b sl s) : ∀ k, sl.ownBlock = some k → k < w.heap.size := h.own.bs.lt
theorem Wr.chg {S : Nat → Prop} (h : Wr w b sl s) (c : Chg S w w') (hr : ¬ S b) (hs : ∀ k, sl.ownBlock = some k → ¬ S k) : Wr w' b sl s :=
  ⟨(c.block b h.lt hr).trans h.cells, h.own.chg c hs, h.apart⟩
theorem Wr.new (h : Wr w b sl s) (c : Chg No w w') : Wr w' b sl s := h.chg c (fun h => h) (fun _ _ h => h)
theorem Wr.drew (h : Wr w b sl s) : Wr w.drew b sl s := h.new (Chg.refl _ _).drew
theorem Wr.drewN (h : Wr w b sl s) (n : Nat) : Wr (w.drewN n) b sl s := h.new ((Chg.refl _ _).drewN n)
theorem Wr.set2 (h : Wr w b sl s) (n : Int) : Wr (w.setCell ⟨b, 2, none⟩ (.int .i64 n)) b sl { s with err := n } :=
  ⟨by rw [heap_setCell_same h.cells]; rfl, h.own.chg (chg_setCell w b 2 _) (fun k hk e => h.apart (by rw [hk, e])), h.apart⟩
theorem Wr.free (h : Wr w b sl s) (n c : Nat) : ∀ k, (Value.slice (some ⟨w.heap.size, 0, none⟩) n c).ownBlock = some k → ¬ Fp b sl k := fun k hk hf => by
  simp only [Value.ownBlock, Option.some.injEq] at hk
  subst hk
  rcases hf with hf | hf
  · have := h.lt; omega
  · have := h.slt _ hf; omega
/-- Behind an append and the store of what it left. -/
theorem Wr.appended {l : List UInt8} {v' : Value} {n : Nat} {w1 : World} (h : Wr w b sl s) (h1 : w1.ownsRow 0 5 1 v' n (s.bs.map bv ++ l.map bv)) (hn : n = s.bs.length + l.length) (h2 : w.grownBy w1 sl.ownBlock)
    (h3 : v'.ownBlock = sl.ownBlock ∨ ∃ k, v'.ownBlock = some k ∧ w.heap.size ≤ k) : Wr (w1.setCell ⟨b, 0, none⟩ v') b v' { s with bs := s.bs ++ l } ∧ WStep b w sl (w1.setCell ⟨b, 0, none⟩ v') v' := by
  have hb1 : w1.heap[b]? = w.heap[b]? := h2.block b h.lt (fun e => h.apart e.symm)
  have hlt := h.lt
  have hne : v'.ownBlock ≠ some b := by
    rcases h3 with e | ⟨k, e, hk⟩
    · rw [e]; exact h.apart
    · rw [e]; intro e'; cases e'; omega
  refine ⟨⟨?_, ?_, hne⟩, ?_, h3⟩
  · rw [heap_setCell_same (hb1.trans h.cells)]; rfl
  · exact (OB.append h1 hn).chg (chg_setCell w1 b 0 v') (fun k hk e => hne (by rw [hk, e]))
  · exact ((Chg.grown h2).mono (fun k _ e => .inr e.symm)).trans (chg_setCell w1 b 0 v') (fun k _ e => .inl e)
end

/-- What a writer's call leaves. -/
def Wrote (b : Nat) (w : World) (sl : Value) (s' : WS) (e : Ending) (w' : World) : Prop :=
  ∃ sl', e = .returned (.tuple #[]) ∧ Wr w' b sl' s' ∧ WStep b w sl w' sl'

theorem ownsRow_slice {w : World} {e n size : Nat} {v : Value} {xs : List Value} (h : w.ownsRow 0 e size v n xs) : ∃ a c, v = .slice a n c := by
  rcases h.2 with ⟨h, h'⟩ | ⟨g, cap, cur, h, _⟩
  · exact ⟨none, 0, by rw [h, h']⟩
  · exact ⟨_, _, h⟩

set_option maxHeartbeats 400000 in
theorem wfail (b : Nat) (w : World) (sl : Value) (s : WS) (h : Wr w b sl s) (e : Int) :
    Calls Try.prog 43 #[.pointer (some ⟨b, 0, none⟩), .int .i64 e] w (Wrote b w sl (s.fail e)) := by
  have h2 := h.c2
  have hf := h.fz 2
  by_cases h0 : s.err = 0
  · have hb : (s.err == 0) = true := by simp [h0]
    have H0 := Lib.hid h0; clear h0
    go_enter Try.func43, Try.ntmps43
    go_wp2
    go_end0
    exact ⟨sl, rfl, by rw [WS.fail_yes H0.out]; exact h.set2 e, (chg_setCell _ _ _ _).mono (fun _ _ e => .inl e), .inl rfl⟩
  · have hb : (s.err == 0) = false := by simp [h0]
    have H0 := Lib.hid h0; clear h0
    go_enter Try.func43, Try.ntmps43
    go_wp2
    go_end0
    exact ⟨sl, rfl, by rw [WS.fail_no H0.out]; exact h, WStep.refl _ _ _⟩

set_option maxHeartbeats 400000 in
theorem wput (b : Nat) (w : World) (sl : Value) (s : WS) (h : Wr w b sl s) (v : Value) (l : List UInt8) (hv : BW w v l) (hm : s.bs.length + l.length ≤ WMax) :
    Calls Try.prog 36 #[.pointer (some ⟨b, 0, none⟩), v] w (Wrote b w sl (s.put l)) := by
  have h2 := h.c2
  have h0 := h.c0
  have hf := h.fz 0
  have hm : s.bs.length + l.length ≤ 225179981368000 := hm
  by_cases he : s.err = 0
  · have hb : (s.err == 0) = true := by simp [he]
    have HE := Lib.hid he; clear he
    have hlt := h.lt
    have hap := h.apart
    go_enter Try.func36, Try.ntmps36
    go_wp2_with (at_builtin; refine wpList_append_K rfl (.tmp 13) (.tmp 14) 22 22 rfl 5 (.int .u8 0) 1 1 Try.underlying22 Try.info5 rfl (by omega) sl s.bs.length (s.bs.map bv) rfl h.own v l.length (l.map bv) rfl (BW.src hv Try.underlying22) (by unfold maxLen; omega) (by omega) ?_; intro v' w1 h1 hg h3; obtain ⟨a', c', rfl⟩ := ownsRow_slice h1; have hX := Lib.hid (h.appended h1 rfl hg h3); have hc1 : w1.cell? ⟨b, 0, none⟩ = some sl := (hg.cell h0 (fun e => hap e.symm)); have hf1 : w1.frozen? ⟨b, 0, none⟩ = false := (World.frozen?_of_block (hg.block b hlt (fun e => hap e.symm))).trans hf; clear h1 hg h3)
    go_end0
    rw [WS.put_yes HE.out]
    exact ⟨_, rfl, hX.out.1, hX.out.2⟩
  · have hb : (s.err == 0) = false := by simp [he]
    have HE := Lib.hid he; clear he
    go_enter Try.func36, Try.ntmps36
    go_wp2
    go_end0
    exact ⟨sl, rfl, by rw [WS.put_no HE.out]; exact h, WStep.refl _ _ _⟩

end Go.Proofs.Ytidjeehjojajmaa
