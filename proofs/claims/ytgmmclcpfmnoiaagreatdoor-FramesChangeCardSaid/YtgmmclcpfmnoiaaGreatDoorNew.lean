/-
  hier.New, walked: the world of the eight classes that are there from the beginning.
-/
import Derived.Test.YtgmmclcpfmnoiaaGreatDoorPut
import Derived.Test.YtgmmclcpfmnoiaaGreatDoorDeepSpec
namespace Go.Proofs.YtgmmclcpfmnoiaaGreatDoor
open Go.RowKit

theorem size_alloc1 (w : World) (o : Obj) : (w.alloc o).heap.size = w.heap.size + 1 := by simp
theorem HW.init (w : World) : HW No (fun k => k = w.heap.size ∨ k = w.heap.size + 1) ((w.alloc (.map #[] 0)).alloc (.cells #[zNil, .map (some w.heap.size), .bool false] 81)) (w.heap.size + 1) w.heap.size zNil [] false where
  wc := by have h := heap_alloc_new (w.alloc (.map #[] 0)) (.cells #[zNil, .map (some w.heap.size), .bool false] 81); rwa [size_alloc1] at h
  names := OQ.nil _ _ _ _
  map := ⟨0, Nat.le_refl _, (StrMap.made w).at_block (Below.heap_alloc _ _ _ (by simp))⟩
  ents := fun x hx => by cases hx
  nodup := List.nodup_nil
  uniq := List.nodup_nil
  own_b := .inr rfl
  own_m := .inl rfl
  own_n := fun k hk => by cases hk
  own_e := fun x hx => by cases hx
  apart := fun k hk => hk.elim
  s_lt := fun k hk => hk.elim
  o_lt := fun k hk => by simp; omega
  short := fun x hx => by cases hx

def firstCl (k : Nat) : Cl := ⟨0, firstNames[k]?.getD [], firstSuper k, [], [], [initM]⟩
theorem firsts_succ : ∀ k, k < 8 → firsts.take (k + 1) = firsts.take k ++ [firstCl k] := by decide
theorem firsts_new : ∀ k, k < 8 → ∀ c ∈ firsts.take k, c.name ≠ (firstCl k).name := by decide
theorem firsts_short : ∀ k, k < 8 → (firstCl k).name.length ≤ 32 ∧ (firstCl k).super.length ≤ 32 := by decide
theorem firsts_all : firsts.take 8 = firsts := by decide

/-- The value of the method <init>. -/
def initCells : List Value := [.int .i64 0, strV initName, zNil, .bool true, .int .i64 0, strV [], .int .i64 0, .int .i64 0, zNil, zNil]
theorem init_read (S : Blocks) (w : World) : RMt S w initM initCells := ⟨zNil, zNil, zNil, rfl, SQ.nil, SQ.nil, SQ.nil⟩
theorem init_sq (w : World) (S : Blocks) (hS : S w.heap.size) : SQ 10 RMt S (w.alloc (.cells initCells.toArray 32)) (.slice (some ⟨w.heap.size, 0, none⟩) 1 1) [initM] := by
  refine ⟨_, 1, rfl, Nat.le_refl _, (fun h => by cases h), fun p hp _ => ?_⟩
  cases hp
  refine ⟨rfl, by simp, hS, fun i x hi => ?_⟩
  cases i with
  | zero =>
    simp only [List.getElem?_cons_zero, Option.some.injEq] at hi
    subst hi
    exact ⟨initCells, rfl, init_read _ _, by rw [Nat.zero_mul]; exact At.lit w initCells _⟩
  | succ i => simp at hi

def namesV : Array Value := (firstNames.map strV).toArray
theorem names_at : ∀ k, k < 8 → namesV[k]? = some (strV (firstCl k).name) := by
  intro k hk
  have h : ∀ k, k < 8 → firstNames[k]? = some (firstCl k).name := by decide
  unfold namesV
  rw [List.getElem?_toArray, List.getElem?_map, h k hk]; rfl

/-- A world of the first k classes. -/
structure NewI (w : World) (k : Nat) (wr : World) (S O : Blocks) (nv : Value) (es : List Ent) : Prop where
  hw : HW S O wr (w.heap.size + 1) w.heap.size nv es false
  cl : cls es = firsts.take k
  bare : ∀ x ∈ es, x.pool = [] ∧ x.chain = [] ∧ x.faces = []
  newO : ∀ n, O n → w.heap.size ≤ n
  newS : ∀ n, S n → w.heap.size ≤ n
  chg : Chg No w wr
  lit : wr.heap[w.heap.size + 2]? = some (.cells namesV 9 (0, 0))
  notO : ¬ O (w.heap.size + 2)

set_option maxRecDepth 100000 in
set_option maxHeartbeats 3200000 in
theorem new_c (w : World) : Calls Tryz.prog 9 #[] w fun e w' => ∃ S O nv es, e = .returned (.pointer (some ⟨w.heap.size + 1, 0, none⟩)) ∧ NewI w 8 w' S O nv es := by
  have hmm := @run_makeMap Tryz.prog
  go_enter Tryz.func9, Tryz.ntmps9
  go_wp2_with fail
  go_loopw [11, 2] (fun i s wr => ∃ (k : Nat) (S O : Blocks) (nv : Value) (es : List Ent), k ≤ 8 ∧ i = .int .i64 k ∧ s = strV (firstSuper k) ∧ RowKit.Hid (NewI w k wr S O nv es)) (fun i _ _ => 8 - (intOf i).toNat)
  case atStart =>
    refine ⟨0, No, fun k => k = w.heap.size ∨ k = w.heap.size + 1, zNil, [], by omega, rfl, rfl, Lib.hid ?_⟩
    have h0 := HW.init w
    have c0 : Chg No w ((w.alloc (.map #[] 0)).alloc (.cells #[zNil, .map (some w.heap.size), .bool false] 81)) := ((Chg.refl _ w).alloc _).alloc _
    refine ⟨h0.new ((Chg.refl _ _).alloc _), rfl, (fun x hx => by cases hx), (fun n hn => by omega), (fun n hn => hn.elim), c0.alloc _, ?_, by omega⟩
    have := heap_alloc_new ((w.alloc (.map #[] 0)).alloc (.cells #[zNil, .map (some w.heap.size), .bool false] 81)) (.cells namesV 9)
    rwa [size_alloc1, size_alloc1] at this
  case round =>
    obtain ⟨k, S, O, nv, es, hk, rfl, rfl, hI⟩ := hrel
    by_cases hlt : k < 8
    · have g0 : wr.cell? ⟨w.heap.size + 2, k, none⟩ = some (strV (firstCl k).name) := by simp [World.cell?, hI.out.lit, names_at k hlt]
      have hsh := firsts_short k hlt
      have hm1 : HW S O (wr.alloc (.cells initCells.toArray 32)) (w.heap.size + 1) w.heap.size nv es false := hI.out.hw.new ((Chg.refl _ _).alloc _)
      have hm2 : HW (fun n => S n ∨ n = wr.heap.size) O (wr.alloc (.cells initCells.toArray 32)) (w.heap.size + 1) w.heap.size nv es false :=
        hm1.grow (fun n hn => .inl hn) (fun n hn => by
          rw [size_alloc1]
          rcases hn with hn | hn
          · have := hI.out.hw.s_lt n hn; omega
          · omega) (fun n hn ho => by
          have h1 := hI.out.hw.o_lt n ho
          rcases hn with hn | hn
          · exact hI.out.hw.apart n hn ho
          · omega)
      have hq : SQ 10 RMt (fun n => S n ∨ n = wr.heap.size) (wr.alloc (.cells initCells.toArray 32)) (.slice (some ⟨wr.heap.size, 0, none⟩) 1 1) [initM] := init_sq wr _ (.inr rfl)
      have hel : es.length ≤ 1000 := by
        have := congrArg List.length hI.out.cl
        simp [cls] at this
        omega
      have HZ := Lib.hid (And.intro hm2 (And.intro hq hel))
      clear hm1 hm2 hq hel
      go_wp2_with fail
      refine (put_c _ O _ _ _ nv es false HZ.out.1 (firstCl k) [] zNil zNil (.slice (some ⟨wr.heap.size, 0, none⟩) 1 1) zNil ⟨_, _, _, rfl, SQ.nil, SQ.nil, HZ.out.2.1⟩ SQ.nil
        ⟨by unfold Short maxLen; omega, by unfold Short maxLen; omega, fun s hs => by cases hs⟩
        (fun x hx => firsts_new k hlt x.cl (by rw [← hI.out.cl]; exact List.mem_map_of_mem hx)) HZ.out.2.2).mono ?_
      rintro e w1 ⟨rfl, O', nv', kk, hw1, o1, o2, c1⟩
      have hsz := c1.size
      simp at hsz
      have hI1 : NewI w (k + 1) w1 (fun n => S n ∨ n = wr.heap.size) O' nv' (es ++ [⟨kk, firstCl k, [], [], []⟩]) := by
        have hws := hI.out.chg.size
        refine ⟨hw1, ?_, ?_, ?_, ?_, ?_, ?_, ?_⟩
        · rw [firsts_succ k hlt, ← hI.out.cl]; simp [cls]
        · intro x hx
          rcases List.mem_append.1 hx with hx | hx
          · exact hI.out.bare x hx
          · simp only [List.mem_singleton] at hx; subst hx; exact ⟨rfl, rfl, rfl⟩
        · intro n hn
          by_cases hl : n < (wr.alloc (.cells initCells.toArray 32)).heap.size
          · exact hI.out.newO n (o1 n hl hn)
          · simp at hl; omega
        · intro n hn
          rcases hn with hn | hn
          · exact hI.out.newS n hn
          · omega
        · exact (hI.out.chg.alloc (.cells initCells.toArray 32)).trans c1 (fun n hn ho => by have := hI.out.newO n ho; omega)
        · have hl := heap_lt hI.out.lit
          rw [c1.block _ (by simp; omega) hI.out.notO, Below.heap_alloc _ _ _ hl]
          exact hI.out.lit
        · intro ho
          have hl := heap_lt hI.out.lit
          exact hI.out.notO (o1 _ (by simp; omega) ho)
      have HI := Lib.hid hI1
      clear hw1 o1 o2 c1 hI1 g0
      by_cases h2 : k < 2
      · have hfs : firstSuper (k + 1) = (firstCl k).name := by
          rcases (by omega : k = 0 ∨ k = 1) with rfl | rfl <;> rfl
        have HF := Lib.hid hfs; clear hfs
        go_wp2
        go_roundw
        case rel => exact ⟨k + 1, _, _, _, _, by omega, by go_num, by rw [HF.out], HI⟩
        case measure => simp [intOf]; omega
      · have hfs : firstSuper (k + 1) = firstSuper k := by
          obtain ⟨m, rfl⟩ : ∃ m, k = m + 2 := ⟨k - 2, by omega⟩
          rfl
        have HF := Lib.hid hfs; clear hfs
        go_wp2
        go_roundw
        case rel => exact ⟨k + 1, _, _, _, _, by omega, by go_num, by rw [HF.out], HI⟩
        case measure => simp [intOf]; omega
    · have hk8 : k = 8 := by omega
      subst hk8
      go_wp2
      go_ret
      exact ⟨S, O, nv, es, rfl, hI.out⟩

end Go.Proofs.YtgmmclcpfmnoiaaGreatDoor
