/-
  The name of the i-th class, as the law makes it: two bytes in memory, as a string, behind "C".
-/
import Derived.Test.YtmpmfbnglfgobaaGreatDoorKnownH
namespace Go.Proofs.YtmpmfbnglfgobaaGreatDoor
open Go.RowKit

def cn2 (i : Nat) : Bs := [UInt8.ofNat (65 + i / 26), UInt8.ofNat (97 + i % 26)]
theorem cn2_cells (i : Nat) (hi : i < 45) : (cn2 i).map bv = [.int .u8 (65 + (i : Int) / 26), .int .u8 (97 + (i : Int) % 26)] := by
  have h1 : (65 + i / 26) % 2 ^ 8 = 65 + i / 26 := Nat.mod_eq_of_lt (by omega)
  have h2 : (97 + i % 26) % 2 ^ 8 = 97 + i % 26 := Nat.mod_eq_of_lt (by omega)
  unfold cn2 bv
  simp only [List.map_cons, List.map_nil, UInt8.toNat_ofNat', h1, h2]
  have e1 : ((65 + i / 26 : Nat) : Int) = 65 + (i : Int) / 26 := by push_cast; rfl
  have e2 : ((97 + i % 26 : Nat) : Int) = 97 + (i : Int) % 26 := by push_cast; rfl
  rw [e1, e2]
theorem cn_bs (W : World) (i : Nat) (hi : i < 45) (z : Int) (hz : z = i) (n : Nat) (hn : n = W.heap.size) : BS (W.alloc (.cells #[.int .u8 (65 + z / 26), .int .u8 (97 + z % 26)] 5)) (.slice (some ⟨n, 0, none⟩) 2 2) (cn2 i) := by
  subst hz hn
  refine ⟨_, _, rfl, by simp [cn2], (fun h => by cases h), fun p hp => ?_⟩
  cases hp
  refine ⟨rfl, by simp, fun j u hj => ?_⟩
  rw [cn2_cells i hi] at hj
  rw [add_mk, Nat.zero_add]
  exact box_keep (Chg.refl No _) (by rw [List.getElem?_toArray]; exact hj)
theorem cn_conv (W : World) (i : Nat) (hi : i < 45) (z : Int) (hz : z = i) (n : Nat) (hn : n = W.heap.size) :
    (convert 28 9 (.slice (some ⟨n, 0, none⟩) 2 2)).run Tryz.prog (W.alloc (.cells #[.int .u8 (65 + z / 26), .int .u8 (97 + z % 26)] 5)) = .ok (.string ⟨(cn2 i).toArray⟩) (W.alloc (.cells #[.int .u8 (65 + z / 26), .int .u8 (97 + z % 26)] 5)) :=
  (cn_bs W i hi z hz n hn).str 28 9 5 Tryz.underlying28 Tryz.underlying5 Tryz.underlying9
theorem cn_add (W : World) (i : Nat) : (Op.stringOp .add ⟨#[67]⟩ ⟨(cn2 i).toArray⟩).run Tryz.prog W = .ok (strV (cName i)) W := by
  have := run_string_add_lists (P := Tryz.prog) W [67] (cn2 i) (by simp) (by simp [cn2])
  exact this
/-- The module's box. -/
def MBox (W : World) (M : Nat) (v : Value) : Prop := W.heap[M]? = some (.cells #[zNil, v] 27 (0, 0))
theorem MBox.cells {W : World} {M : Nat} {v : Value} (h : MBox W M v) : W.cell? ⟨M, 0, none⟩ = some zNil ∧ W.cell? ⟨M, 1, none⟩ = some v := by
  unfold MBox at h
  constructor <;> simp [World.cell?, h]
theorem MBox.lt {W : World} {M : Nat} {v : Value} (h : MBox W M v) : M < W.heap.size := heap_lt h
theorem MBox.chg {W W' : World} {M : Nat} {v : Value} {T : Blocks} (h : MBox W M v) (c : Chg T W W') (hT : ¬ T M) : MBox W' M v := (c.block _ h.lt hT).trans h
theorem MBox.at {W W' : World} {M : Nat} {v : Value} (h : MBox W M v) (c : Chg No W W') : W'.cell? ⟨M, 1, none⟩ = some v := (h.chg c (fun h => h)).cells.2
theorem MBox.frozen {W : World} {M : Nat} {v : Value} (h : MBox W M v) : W.frozen? ⟨M, 1, none⟩ = false := by
  unfold MBox at h
  simp [World.frozen?, h]

/-- The module while its classes are gathered. -/
structure DeepI (w : World) (M n : Nat) (c : Bool) (k : Nat) (wr : World) (v : Value) : Prop where
  chg : Chg No w wr
  box : MBox wr M v
  own : OQ 33 6 RCl No wr v ((List.range k).map (cClass n c))
  apart : v.ownBlock ≠ some M
  new : ∀ j, v.ownBlock = some j → w.heap.size ≤ j
theorem deep_elem (W : World) (n : Nat) (c : Bool) (k : Nat) (sup : Bs) (hs : (cClass n c k).super = sup) (q : Nat) (hq : q = W.heap.size) :
    Els 6 RCl No (W.alloc (.cells #[.int .i64 0, strV (cName k), strV sup, zNil, zNil, zNil] 33)) [cClass n c k] [[.int .i64 0, strV (cName k), strV sup, zNil, zNil, zNil]] ∧
    Src Tryz.prog 6 25 (.slice (some ⟨q, 0, none⟩) 1 1) [cClass n c k].length [[Value.int .i64 0, strV (cName k), strV sup, zNil, zNil, zNil]].flatten (W.alloc (.cells #[.int .i64 0, strV (cName k), strV sup, zNil, zNil, zNil] 33)) := by
  subst hs hq
  have hA := At.lit W (clCells (cClass n c k)) 33
  exact ⟨Els.single (n := 6) (R := RCl) (S := No) (x := cClass n c k) (clCells_read No _ (c := cClass n c k) ⟨rfl, rfl, rfl⟩) rfl,
    Src.single (P := Tryz.prog) (n := 6) (S := No) (R := RCl) goodCl (clCells_read No _ (c := cClass n c k) ⟨rfl, rfl, rfl⟩) rfl (tx := 25) Tryz.underlying25 _ 1 hA⟩
theorem DeepI.step {w : World} {M n : Nat} {c : Bool} {k : Nat} {wr wa w2 : World} {v v' : Value} (h : DeepI w M n c k wr v) (hM : w.heap.size ≤ M) (x : Chg No wr wa) (g1 : OQ 33 6 RCl No w2 v' ((List.range k).map (cClass n c) ++ [cClass n c k]))
    (g2 : Chg (fun k => some k = v.ownBlock) wa w2) (g3 : v'.ownBlock = v.ownBlock ∨ ∃ b, v'.ownBlock = some b ∧ wa.heap.size ≤ b) : MBox w2 M v ∧ DeepI w M n c (k + 1) (w2.setCell ⟨M, 1, none⟩ v') v' := by
  have hy := h.box.chg (T := fun q => some q = v.ownBlock) ((x.mono (fun _ _ h => h.elim)).trans g2 (fun _ _ h => h)) (fun e => h.apart e.symm)
  have hlt := h.box.lt
  have hsz := x.size
  have ha : v'.ownBlock ≠ some M := fun e => by
    rcases g3 with g3 | ⟨b, g3, g4⟩
    · rw [g3] at e; exact h.apart e
    · rw [g3] at e; cases e; omega
  have hc : Chg No w w2 := (h.chg.trans x (fun _ _ h => h)).trans g2 (fun q hq e => absurd hq (Nat.not_lt.2 (h.new q e.symm)))
  refine ⟨hy, hc.setCell (p := ⟨M, 1, none⟩) (fun hl => absurd hl (Nat.not_lt.2 hM)) _, ?_, ?_, ha, fun j hj => ?_⟩
  · exact setCell_at hy _
  · rw [List.range_succ, List.map_append]
    exact g1.keep goodCl (chg_setCell w2 M 1 v') (fun q hq e => ha (e ▸ hq)) (fun _ h => h.elim)
  · rcases g3 with g3 | ⟨b, g3, g4⟩
    · rw [g3] at hj; exact h.new j hj
    · rw [g3] at hj
      cases hj
      have := h.chg.size
      omega
theorem deep_fit (n k j : Nat) (c : Bool) (h : k ≤ 45) : ((List.range k).map (cClass n c)).length + [cClass n c j].length ≤ maxLen ∧
    ((((List.range k).map (cClass n c)).length + [cClass n c j].length) + (((List.range k).map (cClass n c)).length + [cClass n c j].length) / 4 + 192) * 112 ≤ 281474976710656 := by
  rw [List.length_map, List.length_range, List.length_cons, List.length_nil]
  unfold maxLen
  omega

end Go.Proofs.YtmpmfbnglfgobaaGreatDoor
