/-
  Plain words that the walks of this seat use: a world that keeps all old blocks but some ('Chg'), cells that read as a list ('At'), a slice that reads as bytes ('BS'), a slice of one's own ('ownsRow' at base 0), append onto it.
-/
import Derived.Test.YtgmmclcpfmnoiaaGreatDoorProg
import Derived.WalkKit
import Derived.WalkSpells
import Derived.WalkLawsBesides
import Derived.Deep.QuietTactic
import Derived.Deep.RegionWith
import Derived.BigQuiet
import Derived.Deep.AppendSrc
import Derived.Deep.DeepAppendWide
import Derived.Lib.Hide
import Derived.Lib.ConvBytes
import Derived.Deep.RegionLaw
namespace Go.Proofs.YtgmmclcpfmnoiaaGreatDoor
open Go.RowKit

/-- Old blocks that S does not name are as they were; no block has gone. -/
structure Chg (S : Nat → Prop) (w w' : World) : Prop where
  os : w'.os = w.os
  tape : w'.tape = w.tape
  output : w'.output = w.output
  size : w.heap.size ≤ w'.heap.size
  block : ∀ k, k < w.heap.size → ¬ S k → w'.heap[k]? = w.heap[k]?

def No : Nat → Prop := fun _ => False

theorem Chg.refl (S : Nat → Prop) (w : World) : Chg S w w := ⟨rfl, rfl, rfl, Nat.le_refl _, fun _ _ _ => rfl⟩
theorem Chg.trans {S S' : Nat → Prop} {a b c : World} (h : Chg S a b) (k : Chg S' b c) (hS : ∀ n, n < a.heap.size → S' n → S n) : Chg S a c :=
  ⟨k.os.trans h.os, k.tape.trans h.tape, k.output.trans h.output, Nat.le_trans h.size k.size, fun i hi hn => (k.block i (Nat.lt_of_lt_of_le hi h.size) (fun hs => hn (hS i hi hs))).trans (h.block i hi hn)⟩
theorem Chg.mono {S S' : Nat → Prop} {a b : World} (h : Chg S a b) (hS : ∀ n, n < a.heap.size → S n → S' n) : Chg S' a b :=
  ⟨h.os, h.tape, h.output, h.size, fun i hi hn => h.block i hi (fun hs => hn (hS i hi hs))⟩
theorem Chg.then {S : Nat → Prop} {a b c : World} (h : Chg S a b) (k : Chg No b c) : Chg S a c := h.trans k (fun _ _ h => h.elim)
theorem Chg.drew {S : Nat → Prop} {a b : World} (h : Chg S a b) : Chg S a b.drew := ⟨h.os, h.tape, h.output, h.size, h.block⟩
theorem Chg.drewN {S : Nat → Prop} {a b : World} (h : Chg S a b) (n : Nat) : Chg S a (b.drewN n) := ⟨h.os, h.tape, h.output, h.size, h.block⟩
theorem Chg.alloc {S : Nat → Prop} {a b : World} (h : Chg S a b) (o : Obj) : Chg S a (b.alloc o) :=
  ⟨h.os, h.tape, h.output, Nat.le_trans h.size (by simp), fun k hk hn => (Below.heap_alloc b o k (Nat.lt_of_lt_of_le hk h.size)).trans (h.block k hk hn)⟩
theorem Chg.setCell {S : Nat → Prop} {a b : World} (h : Chg S a b) {p : Addr} (hp : p.block < a.heap.size → S p.block) (u : Value) : Chg S a (b.setCell p u) :=
  ⟨h.os, h.tape, h.output, by simpa using h.size, fun k hk hn => by
    have hne : k ≠ p.block := fun e => hn (by subst e; exact hp hk)
    exact (Below.heap_setCell b p u k hne).trans (h.block k hk hn)⟩
theorem Chg.grown {w w' : World} {row : Option Nat} (h : w.grownBy w' row) : Chg (fun k => some k = row) w w' :=
  ⟨h.os, h.tape, h.output, h.size, fun k hk hn => h.block k hk hn⟩
theorem Chg.below {S : Nat → Prop} {B : Nat} {w w' : World} (h : Chg S w w') (hB : B ≤ w.heap.size) (hS : ∀ k, k < B → ¬ S k) : Below B w w' :=
  ⟨h.os, h.tape, h.output, h.size, fun k hk => h.block k (Nat.lt_of_lt_of_le hk hB) (hS k hk)⟩
theorem Chg.ofBelow {S : Nat → Prop} {w w' : World} (h : Below w.heap.size w w') : Chg S w w' := ⟨h.os, h.tape, h.output, h.size, fun k hk _ => h.block k hk⟩
theorem Chg.cell {S : Nat → Prop} {w w' : World} (h : Chg S w w') {p : Addr} (hlt : p.block < w.heap.size) (hn : ¬ S p.block) : w'.cell? p = w.cell? p := World.cell?_of_block (h.block _ hlt hn)
theorem Chg.frozen {S : Nat → Prop} {w w' : World} (h : Chg S w w') {p : Addr} (hlt : p.block < w.heap.size) (hn : ¬ S p.block) : w'.frozen? p = w.frozen? p := World.frozen?_of_block (h.block _ hlt hn)

theorem heap_lt {w : World} {k : Nat} {o : Obj} (h : w.heap[k]? = some o) : k < w.heap.size := by
  rcases Nat.lt_or_ge k w.heap.size with h' | h'
  · exact h'
  · rw [Array.getElem?_eq_none h'] at h; cases h

/-- From an address on the cells are xs. -/
def At (w : World) (a : Addr) (xs : List Value) : Prop := ∀ j u, xs[j]? = some u → w.cell? (a.add j) = some u

theorem add_block (a : Addr) (j : Nat) : (a.add j).block = a.block := by unfold Addr.add; split <;> rfl
theorem add_mk (b o j : Nat) : (⟨b, o, none⟩ : Addr).add j = ⟨b, o + j, none⟩ := by unfold Addr.add; split <;> simp_all
theorem add_add (b o i j : Nat) : ((⟨b, o + i, none⟩ : Addr).add j) = (⟨b, o, none⟩ : Addr).add (i + j) := by rw [add_mk, add_mk, Nat.add_assoc]

theorem At.chg {S : Nat → Prop} {w w' : World} {a : Addr} {xs : List Value} (h : At w a xs) (c : Chg S w w') (hn : ¬ S a.block) (hlt : a.block < w.heap.size) : At w' a xs := fun j u hj => by
  rw [c.cell (by rw [add_block]; exact hlt) (by rw [add_block]; exact hn)]; exact h j u hj
theorem At.take {w : World} {a : Addr} {xs : List Value} (h : At w a xs) (n : Nat) : At w a (xs.take n) := fun j u hj => by
  rw [List.getElem?_take] at hj
  split at hj
  · exact h j u hj
  · cases hj
theorem At.drop {w : World} {b o : Nat} {xs : List Value} (h : At w ⟨b, o, none⟩ xs) (n : Nat) : At w ⟨b, o + n, none⟩ (xs.drop n) := fun j u hj => by
  rw [List.getElem?_drop] at hj
  rw [add_add]; exact h _ u hj
theorem At.nil (w : World) (a : Addr) : At w a [] := fun j u hj => by simp at hj

def bv (x : UInt8) : Value := .int .u8 (x.toNat : Int)

/-- A slice that reads as a list, each element one cell. -/
def SL {α : Type} (enc : α → Value) (w : World) (v : Value) (xs : List α) : Prop :=
  ∃ a cap, v = .slice a xs.length cap ∧ xs.length ≤ cap ∧ (a = none → cap = 0) ∧ ∀ p, a = some p → p.spot = none ∧ p.block < w.heap.size ∧ At w p (xs.map enc)
/-- A slice that reads as bytes. -/
abbrev BS (w : World) (v : Value) (bs : List UInt8) : Prop := SL bv w v bs
def iv (n : Int) : Value := .int .i64 n
def sv (s : List UInt8) : Value := .string ⟨s.toArray⟩

section
variable {α : Type} {enc : α → Value} {w w' : World} {v : Value} {xs : List α}
theorem SL.nil (w : World) : SL enc w (.slice none 0 0) [] := ⟨none, 0, rfl, Nat.le_refl _, fun _ => rfl, fun p h => by cases h⟩
theorem SL.chg {S : Nat → Prop} (h : SL enc w v xs) (c : Chg S w w') (hn : ∀ k, v.ownBlock = some k → ¬ S k) : SL enc w' v xs := by
  obtain ⟨a, cap, rfl, h1, h2, h3⟩ := h
  refine ⟨a, cap, rfl, h1, h2, fun p hp => ?_⟩
  subst hp
  obtain ⟨h4, h5, h6⟩ := h3 p rfl
  exact ⟨h4, Nat.lt_of_lt_of_le h5 c.size, h6.chg c (hn _ rfl) h5⟩
theorem SL.new (h : SL enc w v xs) (c : Chg No w w') : SL enc w' v xs := h.chg c (fun _ _ h => h)
theorem SL.lt (h : SL enc w v xs) : ∀ k, v.ownBlock = some k → k < w.heap.size := by
  obtain ⟨a, cap, rfl, h1, h2, h3⟩ := h
  intro k hk
  cases a with
  | none => cases hk
  | some p => simp only [Value.ownBlock, Option.some.injEq] at hk; rw [← hk]; exact (h3 p rfl).2.1
/-- An element's cell. -/
theorem SL.cell {a : Option Addr} {cap : Nat} (h : ∀ p, a = some p → p.spot = none ∧ p.block < w.heap.size ∧ At w p (xs.map enc)) (hn : a = none → cap = 0) (hc : xs.length ≤ cap) (k : Nat) (hk : k < xs.length) :
    ∃ b o, a = some ⟨b, o, none⟩ ∧ w.cell? ⟨b, o + k, none⟩ = some (enc xs[k]) := by
  cases a with
  | none => have := hn rfl; omega
  | some p =>
    obtain ⟨h1, h2, h3⟩ := h p rfl
    obtain ⟨b, o, sp⟩ := p
    cases h1
    refine ⟨b, o, rfl, ?_⟩
    have := h3 k (enc xs[k]) (by rw [List.getElem?_map, List.getElem?_eq_getElem hk]; rfl)
    rwa [add_mk] at this
end

/-- A slice of one's own that holds bytes (its elements' type is number 5). -/
def OB (w : World) (v : Value) (bs : List UInt8) : Prop := w.ownsRow 0 5 1 v bs.length (bs.map bv)

theorem OB.form {w : World} {v : Value} {bs : List UInt8} (h : OB w v bs) : (v = .slice none 0 0 ∧ bs = []) ∨ ∃ g cap cur, v = .slice (some ⟨g, 0, none⟩) bs.length cap ∧ w.heap[g]? = some (.cells cur 5 (0, 0)) ∧ bs.length ≤ cap ∧ cap ≤ maxLen ∧ cur.size = cap ∧ cur.toList.take bs.length = bs.map bv := by
  obtain ⟨_, h⟩ := h
  rcases h with ⟨h1, h2⟩ | ⟨g, cap, cur, h1, _, h2, h3, h4, h5, h6⟩
  · exact .inl ⟨h1, List.eq_nil_of_length_eq_zero h2⟩
  · exact .inr ⟨g, cap, cur, h1, h2, h3, h4, by simpa using h5, by simpa using h6⟩
theorem OB.bs {w : World} {v : Value} {bs : List UInt8} (h : OB w v bs) : BS w v bs := by
  have hc := h
  rcases h.form with ⟨rfl, rfl⟩ | ⟨g, cap, cur, rfl, h2, h3, h4, h5, h6⟩
  · exact SL.nil w
  · refine ⟨_, cap, rfl, h3, (fun h => by cases h), fun p hp => ?_⟩
    cases hp
    exact ⟨rfl, heap_lt h2, fun j u hj => World.ownsRow.cells (g := g) hc rfl j u hj⟩
theorem OB.chg {S : Nat → Prop} {w w' : World} {v : Value} {bs : List UInt8} (h : OB w v bs) (c : Chg S w w') (hn : ∀ k, v.ownBlock = some k → ¬ S k) : OB w' v bs := by
  obtain ⟨h0, h⟩ := h
  refine ⟨h0, ?_⟩
  rcases h with h | ⟨g, cap, cur, rfl, h1, h2, h3⟩
  · exact .inl h
  · exact .inr ⟨g, cap, cur, rfl, h1, (c.block g (heap_lt h2) (hn g rfl)).trans h2, h3⟩
theorem OB.new {w w' : World} {v : Value} {bs : List UInt8} (h : OB w v bs) (c : Chg No w w') : OB w' v bs := h.chg c (fun _ _ h => h)
theorem OB.append {w : World} {v : Value} {n : Nat} {bs cs : List UInt8} (h : w.ownsRow 0 5 1 v n (bs.map bv ++ cs.map bv)) (hn : n = bs.length + cs.length) : OB w v (bs ++ cs) := by
  unfold OB; rw [List.length_append, List.map_append, ← hn]; exact h
theorem OB.nil (w : World) : OB w (.slice none 0 0) [] := World.ownsRow_nil w 0 _ 1

/-- append onto a row of one's own, of whatever source; what comes lies where it lay, or in a new block. -/
theorem run_append_K {P : Program} (w : World) (t tx ty e : TypeId) (i : TypeInfo) (z : Value) (size bytes : Nat) (ht : P.underlying t = some (.slice e)) (hi : P.info? e = some i) (hz : i.zero = some z)
    (hsize : i.size = size) (hby : i.bytes = bytes) (hzs : z.cells.size = size) (hsz : 0 < size)
    (v : Value) (n : Nat) (xs : List Value) (hown : w.ownsRow 0 e size v n xs) (x : Value) (m : Nat) (news : List Value) (hs : Src P size tx x m news w)
    (h63 : n + m ≤ maxLen) (hbytes : ((n + m) + (n + m) / 4 + 192) * bytes ≤ 281474976710656) :
    ∃ v' w', (Builtin.append_ #[t, tx] ty #[v, x]).run P w = .ok v' w' ∧ w'.ownsRow 0 e size v' (n + m) (xs ++ news) ∧ w.grownBy w' v.ownBlock ∧
      (v'.ownBlock = v.ownBlock ∨ ∃ b, v'.ownBlock = some b ∧ w.heap.size ≤ b) := by
  subst hsize
  subst hby
  have hl := hs.newsLen
  have h1 := hs.one
  have hsmall : n + m ≤ 9223372036854775807 := by simp only [maxLen] at h63; omega
  have hlen : (xs ++ news).length = (n + m) * i.size := by rw [List.length_append, hown.1, hl, Nat.add_mul]
  have grown : ∀ (old : Nat), old < n + m → ∀ (row : Option Nat),
      (w.drew.alloc (.cells ((xs ++ news).toArray ++ Builtin.zeroCells z.cells (grownCap w (n + m) old e - (n + m))) e)).ownsRow 0 e i.size
        (.slice (some ⟨w.heap.size, 0, none⟩) (n + m) (grownCap w (n + m) old e)) (n + m) (xs ++ news) ∧
      w.grownBy (w.drew.alloc (.cells ((xs ++ news).toArray ++ Builtin.zeroCells z.cells (grownCap w (n + m) old e - (n + m))) e)) row := by
    intro old ho row
    have hge := grownCap_ge w (n + m) old e
    have hcm : grownCap w (n + m) old e ≤ maxLen := grownCap_le_maxLen w (n + m) old e h63
    refine ⟨⟨hlen, .inr ⟨w.heap.size, _, _, rfl, Nat.zero_le _, heap_alloc_new w.drew _, hge, hcm, ?_, ?_⟩⟩, ⟨rfl, rfl, rfl, by simp, fun k hk _ => Below.heap_alloc w.drew _ k hk⟩⟩
    · rw [Array.size_append, List.size_toArray, size_zeroCells, hzs, hlen, ← Nat.add_mul]
      congr 1
      omega
    · rw [Array.toList_append, ← hlen]
      exact List.take_left
  rcases hown.2 with ⟨rfl, rfl⟩ | ⟨g, cap, cur, rfl, hbg, hg, hnc, hcm, hcs, htake⟩
  · have hx : xs = [] := List.eq_nil_of_length_eq_zero (by simpa using hown.1)
    subst hx
    by_cases hm : m = 0
    · subst hm
      have hn : news = [] := List.eq_nil_of_length_eq_zero (by simpa using hl)
      subst hn
      refine ⟨.slice none 0 0, w, ?_, World.ownsRow_nil w 0 e i.size, ⟨rfl, rfl, rfl, Nat.le_refl _, fun _ _ _ => rfl⟩, .inl rfl⟩
      rcases hs.kind with ⟨e', hk⟩ | hk <;> simp [Builtin.append_, run_underlying ht, run_underlying hk, sizeOf, typeInfo, hi, hs.len, hs.cells]
    · have hr := run_append_grow_src (P := P) w t tx ty e i z ht hi hz none 0 0 [] (run_firstCells_none w.drew i.size 0 0 0) x m news hs (by omega) (by omega)
        (growslice_fits_wide (by omega) hbytes)
      exact ⟨_, _, hr, (grown 0 (by omega) none).1, (grown 0 (by omega) _).2, .inr ⟨_, rfl, Nat.le_refl _⟩⟩
  · by_cases hroom : n + m ≤ cap
    · have hfit : n * i.size + news.length ≤ cur.size := by rw [hl, hcs, ← Nat.add_mul]; exact Nat.mul_le_mul_right _ hroom
      have hf := hs.cells
      have hst := run_storeCells_at P g (n * i.size) e news 0 cur w hg (by simpa using hfit) h1
      simp only [Nat.add_zero] at hst
      have hr : (Builtin.append_ #[t, tx] ty #[.slice (some ⟨g, 0, none⟩) n cap, x]).run P w = .ok (.slice (some ⟨g, 0, none⟩) (n + m) cap) (w.setRow g (cur.toList.take (n * i.size) ++ news ++ cur.toList.drop (n * i.size + news.length)).toArray) := by
        rcases hs.kind with ⟨e', hk⟩ | hk <;> simp [Builtin.append_, run_underlying ht, run_underlying hk, sizeOf, typeInfo, hi, hs.len, hroom, hf, Addr.add_lit, hst]
      refine ⟨_, _, hr, ⟨hlen, .inr ⟨g, cap, _, rfl, hbg, setRow_heap w g cur _ e _ hg, hroom, hcm, ?_, ?_⟩⟩, ⟨rfl, rfl, rfl, by simp, fun k _ hk => setRow_other w g k _ (fun e => hk (by simp [Value.ownBlock, e]))⟩, .inl rfl⟩
      · simp only [List.size_toArray, List.length_append, List.length_take, List.length_drop, Array.length_toList]
        omega
      · rw [htake, ← hlen]
        exact List.take_left
    · have holds : ∀ j u, xs[j]? = some u → w.cell? ((⟨g, 0, none⟩ : Addr).add j) = some u := hown.cells (g := g) rfl
      have hr := run_append_grow_src (P := P) w t tx ty e i z ht hi hz (some ⟨g, 0, none⟩) n cap xs (run_firstCells_some w.drew i.size n ⟨g, 0, none⟩ n cap xs hown.1 (by simpa using holds)) x m news hs (by omega) (by omega) (growslice_fits_wide (by omega) hbytes)
      exact ⟨_, _, hr, (grown cap (by omega) none).1, (grown cap (by omega) _).2, .inr ⟨_, rfl, Nat.le_refl _⟩⟩

/-- The operation, for the walk. -/
theorem wpList_append_K {P : Program} {w : World} {ops : Array Oper} {rest : List Oper} {o : Oper} {a : Act} {Q : Exit → Act → World → Prop} (hgd : o.guard = none) (s x : Operand) (t tx : TypeId)
    (ho : o.op = .call { callee := .builtin .append, args := #[s, x], argTypes := #[t, tx] })
    (e : TypeId) (z : Value) (size bytes : Nat) (ht : P.underlying t = some (.slice e)) (hinfo : (P.info? e).map (fun i => (i.zero, i.size, i.bytes)) = some (some z, size, bytes)) (hzs : z.cells.size = size) (hsz : 0 < size)
    (v : Value) (n : Nat) (xs : List Value) (hs : a.eval s = v) (hown : w.ownsRow 0 e size v n xs)
    (xv : Value) (m : Nat) (news : List Value) (hx : a.eval x = xv) (hsrc : Src P size tx xv m news w)
    (h63 : n + m ≤ maxLen) (hbytes : ((n + m) + (n + m) / 4 + 192) * bytes ≤ 281474976710656)
    (h : ∀ v' w', w'.ownsRow 0 e size v' (n + m) (xs ++ news) → w.grownBy w' v.ownBlock → (v'.ownBlock = v.ownBlock ∨ ∃ b, v'.ownBlock = some b ∧ w.heap.size ≤ b) → wpList P ops Q rest (a.put o.dst v') w') : wpList P ops Q (o :: rest) a w := by
  obtain ⟨i, hi, hz0, hz1, hz2⟩ := info_parts hinfo
  refine wpList_plain hgd fun K hK => ?_
  obtain ⟨v', w', hr, h2, h3, h4⟩ := run_append_K (P := P) w t tx o.type e i z size bytes ht hi hz0 hz1 hz2 hzs hsz v n xs hown xv m news hsrc h63 hbytes
  unfold Oper.wp execOp
  simp only [ho, resolve, invoke, builtin, Sem.run_bind, Sem.run_pure, Result.andThen_ok, List.map_toArray, List.map_cons, List.map_nil, hs, hx, hr]
  exact hK _ _ (h v' w' h2 h3 h4)

/-- The same at a step of a region that draws its order (for 'go_region_law'). -/
theorem step_append_K {P : Program} {w : World} {ops : Array Oper} {o : Oper} {a : Act} {K : Act → World → Prop} {Q : Exit → Act → World → Prop} {E : Prop} (hgd : o.guard = none) (s x : Operand) (t tx : TypeId)
    (ho : o.op = .call { callee := .builtin .append, args := #[s, x], argTypes := #[t, tx] })
    (e : TypeId) (z : Value) (size bytes : Nat) (ht : P.underlying t = some (.slice e)) (hinfo : (P.info? e).map (fun i => (i.zero, i.size, i.bytes)) = some (some z, size, bytes)) (hzs : z.cells.size = size) (hsz : 0 < size)
    (v : Value) (n : Nat) (xs : List Value) (hs : a.eval s = v) (hown : w.ownsRow 0 e size v n xs)
    (xv : Value) (m : Nat) (news : List Value) (hx : a.eval x = xv) (hsrc : Src P size tx xv m news w)
    (h63 : n + m ≤ maxLen) (hbytes : ((n + m) + (n + m) / 4 + 192) * bytes ≤ 281474976710656)
    (h : ∀ v' w', w'.ownsRow 0 e size v' (n + m) (xs ++ news) → w.grownBy w' v.ownBlock → (v'.ownBlock = v.ownBlock ∨ ∃ b, v'.ownBlock = some b ∧ w.heap.size ≤ b) → K (a.put o.dst v') w') :
    if Region.wanted o (yielded ops a.tmps) = true then Oper.wp P o a w K Q else E := by
  have hw : Region.wanted o (yielded ops a.tmps) = true := by simp [Region.wanted, hgd]
  rw [if_pos hw]
  obtain ⟨i, hi, hz0, hz1, hz2⟩ := info_parts hinfo
  obtain ⟨v', w', hr, h2, h3, h4⟩ := run_append_K (P := P) w t tx o.type e i z size bytes ht hi hz0 hz1 hz2 hzs hsz v n xs hown xv m news hsrc h63 hbytes
  unfold Oper.wp execOp
  simp only [ho, resolve, invoke, builtin, Sem.run_bind, Sem.run_pure, Result.andThen_ok, List.map_toArray, List.map_cons, List.map_nil, hs, hx, hr]
  exact h v' w' h2 h3 h4

theorem BS.src {P : Program} {w : World} {v : Value} {bs : List UInt8} (h : BS w v bs) {tx e' : TypeId} (hk : P.underlying tx = some (.slice e')) : Src P 1 tx v bs.length (bs.map bv) w := by
  obtain ⟨a, cap, rfl, h1, h2, h3⟩ := h
  have h1c : ∀ u ∈ bs.map bv, u.oneCell' = true := fun u hu => by obtain ⟨_, _, rfl⟩ := List.mem_map.1 hu; rfl
  cases a with
  | none =>
    have hl : bs = [] := List.eq_nil_of_length_eq_zero (by have := h2 rfl; omega)
    subst hl
    exact Src.ofNil w hk cap
  | some p =>
    obtain ⟨_, _, h6⟩ := h3 p rfl
    exact Src.ofSlice w hk p bs.length cap (bs.map bv) (by simp) h6 h1c

/-- string(b). -/
theorem BS.str {P : Program} {w : World} {v : Value} {bs : List UInt8} (h : BS w v bs) (src dst e : TypeId) (hs : P.underlying src = some (.slice e)) (he : P.underlying e = some (.int .u8)) (hd : P.underlying dst = some .string) :
    (convert src dst v).run P w = .ok (.string ⟨bs.toArray⟩) w := by
  obtain ⟨a, cap, rfl, h1, h2, h3⟩ := h
  rw [run_convert_bytes_string w src dst e a bs.length cap hs he hd]
  cases a with
  | none =>
    have : bs = [] := List.eq_nil_of_length_eq_zero (by have := h2 rfl; omega)
    subst this
    rfl
  | some p =>
    obtain ⟨_, _, h6⟩ := h3 p rfl
    have hm : bs.map bv = (bs.map fun b => (b.toNat : Int)).map (Value.int .u8) := by rw [List.map_map]; rfl
    have hl : (loadCells p bs.length).run P w = .ok ((bs.map fun b => (b.toNat : Int)).map (Value.int .u8)).toArray w := by
      have := run_loadCells_list (P := P) w p (bs.map bv) h6
      rw [List.length_map] at this
      rw [this, hm]
    rw [run_bytesToString w p bs.length cap _ hl]
    congr 2
    have key : ∀ (l : List UInt8) (r : ByteArray), ((l.map fun b => (b.toNat : Int)).foldl (fun r n => r.push (UInt8.ofNat n.toNat)) r) = ⟨(r.data.toList ++ l).toArray⟩ := by
      intro l
      induction l with
      | nil => intro r; simp
      | cons x l ih => intro r; rw [List.map_cons, List.foldl_cons, ih]; simp [ByteArray.push]
    rw [key]; simp

/-- A slice that reads as bytes; of an empty one nothing more is asked. -/
def BW (w : World) (v : Value) (bs : List UInt8) : Prop := BS w v bs ∨ (bs = [] ∧ ∃ a cap, v = .slice a 0 cap)
theorem BW.new {w w' : World} {v : Value} {bs : List UInt8} (h : BW w v bs) (c : Chg No w w') : BW w' v bs := h.imp (·.new c) (fun h => h)
theorem BW.form {w : World} {v : Value} {bs : List UInt8} (h : BW w v bs) : ∃ a cap, v = .slice a bs.length cap := by
  rcases h with ⟨a, cap, h, _⟩ | ⟨rfl, h⟩
  · exact ⟨a, cap, h⟩
  · exact h
theorem BW.src {P : Program} {w : World} {v : Value} {bs : List UInt8} (h : BW w v bs) {tx e' : TypeId} (hk : P.underlying tx = some (.slice e')) : Src P 1 tx v bs.length (bs.map bv) w := by
  rcases h with h | ⟨rfl, a, cap, rfl⟩
  · exact h.src hk
  · cases a with
    | none => exact Src.ofNil w hk cap
    | some p => exact Src.ofSlice w hk p 0 cap [] rfl (fun j u hj => by simp at hj) (fun u hu => by cases hu)
theorem BW.str {P : Program} {w : World} {v : Value} {bs : List UInt8} (h : BW w v bs) (src dst e : TypeId) (hs : P.underlying src = some (.slice e)) (he : P.underlying e = some (.int .u8)) (hd : P.underlying dst = some .string) :
    (convert src dst v).run P w = .ok (.string ⟨bs.toArray⟩) w := by
  rcases h with h | ⟨rfl, a, cap, rfl⟩
  · exact h.str src dst e hs he hd
  · rw [run_convert_bytes_string w src dst e a 0 cap hs he hd]
    cases a with
    | none => rfl
    | some p =>
      have hl : (loadCells p 0).run P w = .ok (([] : List Int).map (Value.int .u8)).toArray w := run_loadCells_list (P := P) w p [] (fun j u hj => by simp at hj)
      rw [run_bytesToString w p 0 cap [] hl]
      rfl

/-- A slice that reads as a list, each element n cells of which R tells. -/
def SLn {α : Type} (n : Nat) (R : World → α → List Value → Prop) (w : World) (v : Value) (xs : List α) : Prop :=
  ∃ a cap, v = .slice a xs.length cap ∧ xs.length ≤ cap ∧ (a = none → cap = 0) ∧ ∀ p, a = some p → p.spot = none ∧ p.block < w.heap.size ∧ ∀ i x, xs[i]? = some x → ∃ cs, cs.length = n ∧ R w x cs ∧ At w (p.add (i * n)) cs
theorem SLn.new {α : Type} {n : Nat} {R : World → α → List Value → Prop} (hR : ∀ {w w' x cs}, R w x cs → Chg No w w' → R w' x cs) {w w' : World} {v : Value} {xs : List α} (h : SLn n R w v xs) (c : Chg No w w') : SLn n R w' v xs := by
  obtain ⟨a, cap, rfl, h1, h2, h3⟩ := h
  refine ⟨a, cap, rfl, h1, h2, fun p hp => ?_⟩
  obtain ⟨h4, h5, h6⟩ := h3 p hp
  refine ⟨h4, Nat.lt_of_lt_of_le h5 c.size, fun i x hx => ?_⟩
  obtain ⟨cs, h7, h8, h9⟩ := h6 i x hx
  exact ⟨cs, h7, hR h8 c, h9.chg c (fun h => h) (by rw [add_block]; exact h5)⟩
/-- An element's cells. -/
theorem SLn.cells {α : Type} {n : Nat} {R : World → α → List Value → Prop} {w : World} {a : Option Addr} {len cap : Nat} {xs : List α} (h : SLn n R w (.slice a len cap) xs) (k : Nat) (hk : k < xs.length) :
    ∃ b o cs, a = some ⟨b, o, none⟩ ∧ cs.length = n ∧ R w xs[k] cs ∧ b < w.heap.size ∧ ∀ j u, cs[j]? = some u → w.cell? ⟨b, o + (k * n + j), none⟩ = some u := by
  obtain ⟨a', cap', he, h1, h2, h3⟩ := h
  cases he
  cases a with
  | none => have := h2 rfl; omega
  | some p =>
    obtain ⟨h4, h5, h6⟩ := h3 p rfl
    obtain ⟨b, o, sp⟩ := p
    cases h4
    obtain ⟨cs, h7, h8, h9⟩ := h6 k xs[k] (List.getElem?_eq_getElem hk)
    refine ⟨b, o, cs, rfl, h7, h8, h5, fun j u hj => ?_⟩
    have := h9 j u hj
    rwa [add_mk, add_mk, Nat.add_assoc] at this

/-- A call of a reader, a writer. -/
structure Item where
  kind : Int
  n : Int
  b : List UInt8
instance : Inhabited Item := ⟨⟨0, 0, []⟩⟩
def RItem (w : World) (x : Item) (cs : List Value) : Prop := ∃ v, cs = [.int .i64 x.kind, .int .i64 x.n, v] ∧ BW w v x.b
theorem RItem.new {w w' : World} {x : Item} {cs : List Value} (h : RItem w x cs) (c : Chg No w w') : RItem w' x cs := by
  obtain ⟨v, h1, h2⟩ := h; exact ⟨v, h1, h2.new c⟩
abbrev IS (w : World) (v : Value) (xs : List Item) : Prop := SLn 3 RItem w v xs

/-- []byte(s): new memory that reads as the string's bytes. -/
theorem str_bytes {P : Program} (w : World) (l : List UInt8) (src dst e : TypeId) (hs : P.underlying src = some .string) (hd : P.underlying dst = some (.slice e)) (he : P.underlying e = some (.int .u8)) :
    ∃ v w', (convert src dst (.string ⟨l.toArray⟩)).run P w = .ok v w' ∧ BS w' v l ∧ Chg No w w' ∧ (∀ k, v.ownBlock = some k → w.heap.size ≤ k) := by
  have hsz : (ByteArray.mk l.toArray).size = l.length := by simp [ByteArray.size]
  refine ⟨_, _, Go.Lib.run_convert_string_bytes w src dst e ⟨l.toArray⟩ hs hd he, ⟨_, _, by rw [hsz], grownCap_ge _ _ _ _, (fun h => by cases h), fun p hp => ?_⟩, ⟨rfl, rfl, rfl, by rw [Go.Lib.bytesWorld_size]; omega, fun k hk _ => Go.Lib.bytesWorld_at_old w e _ k hk⟩, fun k hk => ?_⟩
  · cases hp
    refine ⟨rfl, by rw [Go.Lib.bytesWorld_size]; exact Nat.lt_succ_self _, fun j u hj => ?_⟩
    rw [List.getElem?_map] at hj
    obtain ⟨x, hx, rfl⟩ := Option.map_eq_some_iff.1 hj
    have hlt : j < l.length := (List.getElem?_eq_some_iff.1 hx).1
    rw [add_mk, Nat.zero_add, Go.Lib.bytesWorld_cell w e _ j (by rw [hsz]; exact hlt)]
    simp [bv, hx]
  · simp [Value.ownBlock] at hk; omega

end Go.Proofs.YtgmmclcpfmnoiaaGreatDoor
