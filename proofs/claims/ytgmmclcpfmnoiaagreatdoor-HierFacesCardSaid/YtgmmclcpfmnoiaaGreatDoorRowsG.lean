/-
  A block of elements of several cells each, where each cell may read in blocks of its own: kept, stored into, told as a slice.
-/
import Derived.Test.YtgmmclcpfmnoiaaGreatDoorPlain1
import Derived.Test.YtgmmclcpfmnoiaaGreatDoorFinds
namespace Go.Proofs.YtgmmclcpfmnoiaaGreatDoor
open Go.RowKit

/-- Readings whose cells each read in blocks of their own. -/
abbrev Reading3 (α : Type) := (Nat → Blocks) → World → α → List Value → Prop
def RRow {α : Type} (e n : Nat) (R : Reading3 α) (w : World) (g : Nat) (xs : List α) (A : Nat → Nat → Blocks) : Prop :=
  ∃ cur : Array Value, w.heap[g]? = some (.cells cur e (0, 0)) ∧ ∀ (i : Nat) (x : α), xs[i]? = some x → ∃ cs : List Value, cs.length = n ∧ R (A i) w x cs ∧ ∀ (j : Nat) (u : Value), cs[j]? = some u → cur[i * n + j]? = some u
section
variable {α : Type} {e n : Nat} {R : Reading3 α} {w w' : World} {g : Nat} {xs : List α} {A A' : Nat → Nat → Blocks} {U T : Blocks}
theorem RRow.lt (h : RRow e n R w g xs A) : g < w.heap.size := let ⟨_, h1, _⟩ := h; heap_lt h1
theorem RRow.frozen (h : RRow e n R w g xs A) (j : Nat) : w.frozen? ⟨g, j, none⟩ = false := let ⟨_, h1, _⟩ := h; blk_frozen h1 j
theorem RRow.cells (h : RRow e n R w g xs A) {i : Nat} {x : α} (hx : xs[i]? = some x) : ∃ cs : List Value, cs.length = n ∧ R (A i) w x cs ∧ ∀ (j : Nat) (u : Value), cs[j]? = some u → w.cell? ⟨g, i * n + j, none⟩ = some u := by
  obtain ⟨cur, h1, h2⟩ := h
  obtain ⟨cs, c1, c2, c3⟩ := h2 i x hx
  exact ⟨cs, c1, c2, fun j u hj => blk_cell h1 (c3 j u hj)⟩
theorem RRow.step (h : RRow e n R w g xs A) (c : Chg U w w') (hg : ¬ U g) (hold : ∀ (i : Nat) (x : α) (cs : List Value), xs[i]? = some x → cs.length = n → R (A i) w x cs → (∀ (j : Nat) (u : Value), cs[j]? = some u → w.cell? ⟨g, i * n + j, none⟩ = some u) → R (A' i) w' x cs) : RRow e n R w' g xs A' := by
  obtain ⟨cur, h1, h2⟩ := h
  refine ⟨cur, (c.block g (heap_lt h1) hg).trans h1, fun i x hx => ?_⟩
  obtain ⟨cs, c1, c2, c3⟩ := h2 i x hx
  exact ⟨cs, c1, hold i x cs hx c1 c2 (fun j u hj => blk_cell h1 (c3 j u hj)), c3⟩
theorem RRow.set (h : RRow e n R w g xs A) {k : Nat} {y : α} (hy : xs[k]? = some y) {j : Nat} (hj : j < n) (v : Value) (hk : ∀ cs : List Value, cs.length = n → R (A k) w y cs → R (A' k) (w.setCell ⟨g, k * n + j, none⟩ v) y (cs.set j v))
    (ho : ∀ (i : Nat) (x : α) (cs : List Value), i ≠ k → xs[i]? = some x → R (A i) w x cs → R (A' i) (w.setCell ⟨g, k * n + j, none⟩ v) x cs) : RRow e n R (w.setCell ⟨g, k * n + j, none⟩ v) g xs A' := by
  obtain ⟨cur, h1, h2⟩ := h
  refine ⟨cur.setIfInBounds (k * n + j) v, setCell_at h1 _, fun i x hx => ?_⟩
  obtain ⟨cs, c1, c2, c3⟩ := h2 i x hx
  by_cases e : i = k
  · subst e
    rw [hy] at hx; cases hx
    refine ⟨cs.set j v, by rw [List.length_set]; exact c1, hk cs c1 c2, fun m u hm => ?_⟩
    by_cases e2 : j = m
    · subst e2
      rw [List.getElem?_set_self (by omega)] at hm
      cases hm
      have hlt : i * n + j < cur.size := (Array.getElem?_eq_some_iff.1 (c3 j _ (List.getElem?_eq_getElem (by omega)))).1
      rw [Array.getElem?_setIfInBounds_self_of_lt hlt]
    · rw [List.getElem?_set_ne e2] at hm
      rw [Array.getElem?_setIfInBounds_ne (by omega)]
      exact c3 m u hm
  · refine ⟨cs, c1, ho i x cs e hx c2, fun m u hm => ?_⟩
    have hmn : m < n := by rw [← c1]; exact (List.getElem?_eq_some_iff.1 hm).1
    rw [Array.getElem?_setIfInBounds_ne (by
      intro e3
      rcases Nat.lt_or_gt_of_ne e with h | h
      · have := Nat.mul_le_mul_right n (show i + 1 ≤ k from h)
        rw [Nat.add_mul] at this; omega
      · have := Nat.mul_le_mul_right n (show k + 1 ≤ i from h)
        rw [Nat.add_mul] at this; omega)]
    exact c3 m u hm
theorem RRow.sq (h : RRow e n R w g xs A) {R1 : Reading α} (hR : ∀ (i : Nat) (x : α) (cs : List Value), xs[i]? = some x → R (A i) w x cs → R1 T w x cs) (hT : T g) {cap : Nat} (hc : xs.length ≤ cap) : SQ n R1 T w (.slice (some ⟨g, 0, none⟩) xs.length cap) xs := by
  have hlt := h.lt
  obtain ⟨cur, h1, h2⟩ := h
  refine ⟨_, cap, rfl, hc, (fun h => by cases h), fun p hp _ => ?_⟩
  cases hp
  refine ⟨rfl, hlt, hT, fun i x hi => ?_⟩
  obtain ⟨cs, c1, c2, c3⟩ := h2 i x hi
  refine ⟨cs, c1, hR i x cs hi c2, fun j u hj => ?_⟩
  rw [add_mk, add_mk, Nat.zero_add]
  exact blk_cell h1 (c3 j u hj)
theorem OQ.rrow {S : Blocks} {R1 : Reading α} {v : Value} (h : OQ e n R1 S w v xs) (hne : xs ≠ []) (hR : ∀ (x : α) (cs : List Value), R1 S w x cs → R (fun _ => S) w x cs) : ∃ g cap, v = .slice (some ⟨g, 0, none⟩) xs.length cap ∧ xs.length ≤ cap ∧ RRow e n R w g xs (fun _ _ => S) := by
  obtain ⟨css, ⟨h0, ho⟩, hE⟩ := h
  rcases ho with ⟨_, h2⟩ | ⟨g, cap, cur, rfl, _, h3, h4, _, h5, h6⟩
  · exact absurd (List.eq_nil_of_length_eq_zero h2) hne
  · refine ⟨g, cap, rfl, h4, cur, h3, fun i x hx => ?_⟩
    have hil : i < css.length := by rw [hE.1]; exact (List.getElem?_eq_some_iff.1 hx).1
    have hcs := List.getElem?_eq_getElem hil
    obtain ⟨c1, c2⟩ := hE.2 i x css[i] hx hcs
    refine ⟨css[i], c1, hR x _ c2, fun j u hj => ?_⟩
    have hjn : j < n := by rw [← c1]; exact (List.getElem?_eq_some_iff.1 hj).1
    have hf := flat_at hE.lens i j hcs hjn
    have hlt : i * n + j < css.flatten.length := (List.getElem?_eq_some_iff.1 (hf.trans hj)).1
    have h7 : (cur.toList.take css.flatten.length)[i * n + j]? = some u := by
      have e : cur.toList.take css.flatten.length = css.flatten := by
        first
          | simpa [hE.flat_len] using h6
          | (rw [hE.flat_len]; simpa using h6)
      rw [e, hf]; exact hj
    rw [List.getElem?_take, if_pos hlt] at h7
    simpa using h7
end

/-- A class's cells, each in blocks of its own; a method's. -/
def RCl3 : Reading3 Cl := fun A w x cs => ∃ f g m, cs = [.int .i64 x.flags, strV x.name, strV x.super, f, g, m] ∧ SQ 1 RStr (A 3) w f x.faces ∧ SQ 4 RFd (A 4) w g x.fields ∧ SQ 10 RMt (A 5) w m x.methods
def RMt3 : Reading3 Mt := fun A w x cs => ∃ v c h, cs = [.int .i64 x.flags, strV x.name, v, .bool x.sig.void, .int .i64 x.sig.result.dims, strV x.sig.result.name, .int .i64 x.stack, .int .i64 x.locals_, c, h] ∧
  SQ 2 RTy (A 2) w v x.sig.params ∧ SQ 1 RByte (A 8) w c x.code ∧ SQ 4 RHd (A 9) w h x.handlers
theorem RCl3.keep {A A' : Nat → Blocks} {U : Blocks} {w w' : World} {x : Cl} {cs : List Value} (h : RCl3 A w x cs) (c : Chg U w w') (hn : ∀ j, 3 ≤ j → j ≤ 5 → ∀ k, A j k → ¬ U k) (hA : ∀ j, 3 ≤ j → j ≤ 5 → ∀ k, A j k → A' j k) : RCl3 A' w' x cs :=
  let ⟨f, g, m, h1, h2, h3, h4⟩ := h
  ⟨f, g, m, h1, (h2.keep goodStr c (hn 3 (by omega) (by omega))).mono goodStr (hA 3 (by omega) (by omega)), (h3.keep goodFd c (hn 4 (by omega) (by omega))).mono goodFd (hA 4 (by omega) (by omega)), (h4.keep goodMt c (hn 5 (by omega) (by omega))).mono goodMt (hA 5 (by omega) (by omega))⟩
theorem RMt3.keep {A A' : Nat → Blocks} {U : Blocks} {w w' : World} {x : Mt} {cs : List Value} (h : RMt3 A w x cs) (c : Chg U w w') (hn : ∀ j, 2 ≤ j → j ≤ 9 → ∀ k, A j k → ¬ U k) (hA : ∀ j, 2 ≤ j → j ≤ 9 → ∀ k, A j k → A' j k) : RMt3 A' w' x cs :=
  let ⟨f, g, m, h1, h2, h3, h4⟩ := h
  ⟨f, g, m, h1, (h2.keep goodTy c (hn 2 (by omega) (by omega))).mono goodTy (hA 2 (by omega) (by omega)), (h3.keep goodByte c (hn 8 (by omega) (by omega))).mono goodByte (hA 8 (by omega) (by omega)), (h4.keep goodHd c (hn 9 (by omega) (by omega))).mono goodHd (hA 9 (by omega) (by omega))⟩

/-- Blocks between two, but for one. -/
def Rng (lo hi g : Nat) : Blocks := fun n => lo ≤ n ∧ n < hi ∧ n ≠ g
/-- Those ahead of element k, and its cells ahead of m, in T, the rest in S. -/
def stepA (S T : Blocks) (k m : Nat) : Nat → Nat → Blocks := fun i j n => if i < k ∨ (i = k ∧ j < m) then T n else S n
theorem stepA_lt {S T : Blocks} {k m i j : Nat} (h : i < k ∨ (i = k ∧ j < m)) : stepA S T k m i j = T := by funext n; unfold stepA; rw [if_pos h]
theorem stepA_ge {S T : Blocks} {k m i j : Nat} (h : ¬ (i < k ∨ (i = k ∧ j < m))) : stepA S T k m i j = S := by funext n; unfold stepA; rw [if_neg h]

theorem rng_mono {lo hi hi' g n : Nat} (h : Rng lo hi g n) (hh : hi ≤ hi') : Rng lo hi' g n := ⟨h.1, Nat.lt_of_lt_of_le h.2.1 hh, h.2.2⟩
theorem stepA_mono {S T T' : Blocks} {k m k' m' i j n : Nat} (hT : ∀ n, T n → T' n) (hi : (i < k ∨ (i = k ∧ j < m)) ↔ (i < k' ∨ (i = k' ∧ j < m'))) (h : stepA S T k m i j n) : stepA S T' k' m' i j n := by
  by_cases e : i < k ∨ (i = k ∧ j < m)
  · rw [stepA_lt e] at h; rw [stepA_lt (hi.1 e)]; exact hT n h
  · rw [stepA_ge e] at h; rw [stepA_ge (fun q => e (hi.2 q))]; exact h
theorem stepA_not {S T U : Blocks} {k m i j n : Nat} (hS : ∀ n, S n → ¬ U n) (hT : ∀ n, T n → ¬ U n) (h : stepA S T k m i j n) : ¬ U n := by
  by_cases e : i < k ∨ (i = k ∧ j < m)
  · rw [stepA_lt e] at h; exact hT n h
  · rw [stepA_ge e] at h; exact hS n h

/-- What holds of a module's classes while they are gone over: those ahead of k, and cells ahead of j of class k, are new. -/
structure TgI (w : World) (g : Nat) (m : Md) (pv cv : Value) (S : Blocks) (k j : Nat) (wr : World) : Prop where
  chg : Chg No w wr
  row : RRow 37 6 RCl3 wr g m.classes (stepA S (Rng (w.heap.size + 2) wr.heap.size g) k j)
  pool : SQ 6 REn (Rng (w.heap.size + 2) wr.heap.size g) wr pv m.pool
  mod : wr.heap[w.heap.size]? = some (.cells #[pv, cv] 47 (0, 0))
  res : wr.heap[w.heap.size + 1]? = some (.cells #[zNil, zNil] 47 (0, 0))
section
variable {w wr w1 : World} {g : Nat} {m : Md} {pv cv : Value} {S : Blocks} {k j : Nat}
theorem TgI.new (h : TgI w g m pv cv S k j wr) (d : Chg No wr w1) : TgI w g m pv cv S k j w1 where
  chg := h.chg.trans d (fun _ _ h => h)
  row := h.row.step d (fun h => h) (fun _i _x _cs _ _ hR _ => hR.keep d (fun _ _ _ _ _ h => h) (fun _j _ _ _n hn => stepA_mono (fun _n hn => rng_mono hn d.size) Iff.rfl hn))
  pool := (h.pool.new goodEn d).mono goodEn (fun _n hn => rng_mono hn d.size)
  mod := (d.block _ (heap_lt h.mod) (fun h => h)).trans h.mod
  res := (d.block _ (heap_lt h.res) (fun h => h)).trans h.res
/-- One cell of class k. -/
theorem TgI.put (h : TgI w g m pv cv S k j wr) (hS : ∀ n, S n → n < w.heap.size) (hg : w.heap.size + 2 ≤ g) {x : Cl} (hx : m.classes[k]? = some x) (v : Value)
    (hv : (j = 3 ∧ SQ 1 RStr (Rng (w.heap.size + 2) wr.heap.size g) wr v x.faces) ∨ (j = 4 ∧ SQ 4 RFd (Rng (w.heap.size + 2) wr.heap.size g) wr v x.fields) ∨ (j = 5 ∧ SQ 10 RMt (Rng (w.heap.size + 2) wr.heap.size g) wr v x.methods)) :
    TgI w g m pv cv S k (j + 1) (wr.setCell ⟨g, k * 6 + j, none⟩ v) := by
  have d := chg_setCell wr g (k * 6 + j) v
  have hsz : (wr.setCell ⟨g, k * 6 + j, none⟩ v).heap.size = wr.heap.size := by simp [World.setCell]
  have hSg : ∀ n, S n → ¬ n = g := fun n hn e => by have := hS n hn; omega
  have hTg : ∀ n, Rng (w.heap.size + 2) wr.heap.size g n → ¬ n = g := fun n hn => hn.2.2
  have hj : j < 6 := by rcases hv with h | h | h <;> omega
  refine ⟨h.chg.set_new (by omega) _ _, ?_, ?_, (d.block _ (heap_lt h.mod) (by omega)).trans h.mod, (d.block _ (heap_lt h.res) (by omega)).trans h.res⟩
  · rw [hsz]
    refine h.row.set hx hj v (fun cs hl hR => ?_) (fun i y cs hi hy hR => hR.keep d (fun j _ _ n hn => stepA_not (U := fun n => n = g) hSg hTg hn) (fun j _ _ n hn => stepA_mono (fun _ h => h) (by omega) hn))
    obtain ⟨f, q, mm, rfl, h2, h3, h4⟩ := hR
    have k2 := h2.keep goodStr d (fun n hn => stepA_not (U := fun n => n = g) hSg hTg hn)
    have k3 := h3.keep goodFd d (fun n hn => stepA_not (U := fun n => n = g) hSg hTg hn)
    have k4 := h4.keep goodMt d (fun n hn => stepA_not (U := fun n => n = g) hSg hTg hn)
    rcases hv with ⟨rfl, hv⟩ | ⟨rfl, hv⟩ | ⟨rfl, hv⟩
    · exact ⟨v, q, mm, rfl, (hv.keep goodStr d hTg).mono goodStr (fun n hn => by rw [stepA_lt (by omega)]; exact hn), k3.mono goodFd (fun n hn => stepA_mono (fun _ h => h) (by omega) hn), k4.mono goodMt (fun n hn => stepA_mono (fun _ h => h) (by omega) hn)⟩
    · exact ⟨f, v, mm, rfl, k2.mono goodStr (fun n hn => stepA_mono (fun _ h => h) (by omega) hn), (hv.keep goodFd d hTg).mono goodFd (fun n hn => by rw [stepA_lt (by omega)]; exact hn), k4.mono goodMt (fun n hn => stepA_mono (fun _ h => h) (by omega) hn)⟩
    · exact ⟨f, q, v, rfl, k2.mono goodStr (fun n hn => stepA_mono (fun _ h => h) (by omega) hn), k3.mono goodFd (fun n hn => stepA_mono (fun _ h => h) (by omega) hn), (hv.keep goodMt d hTg).mono goodMt (fun n hn => by rw [stepA_lt (by omega)]; exact hn)⟩
  · rw [hsz]; exact h.pool.keep goodEn d hTg
theorem TgI.next (h : TgI w g m pv cv S k 6 wr) : TgI w g m pv cv S (k + 1) 3 wr :=
  ⟨h.chg, h.row.step (Chg.refl No wr) (fun h => h) (fun i x cs _ _ hR _ => hR.keep (Chg.refl No wr) (fun _ _ _ _ _ h => h) (fun j _ _ n hn => stepA_mono (fun _ h => h) (by omega) hn)), h.pool, h.mod, h.res⟩

/-- What holds while class k's methods are gone over. -/
structure MgI (ws : World) (h : Nat) (ms : List Mt) (S : Blocks) (q j : Nat) (wr : World) : Prop where
  chg : Chg (· = h) ws wr
  row : RRow 32 10 RMt3 wr h ms (stepA S (Rng ws.heap.size wr.heap.size h) q j)
theorem MgI.new {ws : World} {h : Nat} {ms : List Mt} {q : Nat} (hI : MgI ws h ms S q j wr) (d : Chg No wr w1) : MgI ws h ms S q j w1 where
  chg := hI.chg.trans d (fun _ _ h => h.elim)
  row := hI.row.step d (fun h => h) (fun _i _x _cs _ _ hR _ => hR.keep d (fun _ _ _ _ _ h => h) (fun _j _ _ _n hn => stepA_mono (fun _n hn => rng_mono hn d.size) Iff.rfl hn))
theorem MgI.put {ws : World} {h : Nat} {ms : List Mt} {q : Nat} (hI : MgI ws h ms S q j wr) (hS : ∀ n, S n → n < h) {x : Mt} (hx : ms[q]? = some x) (v : Value)
    (hv : (j = 2 ∧ SQ 2 RTy (Rng ws.heap.size wr.heap.size h) wr v x.sig.params) ∨ (j = 8 ∧ SQ 1 RByte (Rng ws.heap.size wr.heap.size h) wr v x.code) ∨ (j = 9 ∧ SQ 4 RHd (Rng ws.heap.size wr.heap.size h) wr v x.handlers)) :
    MgI ws h ms S q (if j = 2 then 8 else j + 1) (wr.setCell ⟨h, q * 10 + j, none⟩ v) := by
  have d := chg_setCell wr h (q * 10 + j) v
  have hsz : (wr.setCell ⟨h, q * 10 + j, none⟩ v).heap.size = wr.heap.size := by simp [World.setCell]
  have hSg : ∀ n, S n → ¬ n = h := fun n hn e => by have := hS n hn; omega
  have hTg : ∀ n, Rng ws.heap.size wr.heap.size h n → ¬ n = h := fun n hn => hn.2.2
  have hj : j < 10 := by rcases hv with h | h | h <;> omega
  refine ⟨hI.chg.trans d (fun _ _ h => h), ?_⟩
  rw [hsz]
  refine hI.row.set hx hj v (fun cs hl hR => ?_) (fun i y cs hi hy hR => hR.keep d (fun j _ _ n hn => stepA_not (U := fun n => n = h) hSg hTg hn) (fun j _ _ n hn => stepA_mono (fun _ h => h) (by omega) hn))
  obtain ⟨f, c, mm, rfl, h2, h3, h4⟩ := hR
  have k2 := h2.keep goodTy d (fun n hn => stepA_not (U := fun n => n = h) hSg hTg hn)
  have k3 := h3.keep goodByte d (fun n hn => stepA_not (U := fun n => n = h) hSg hTg hn)
  have k4 := h4.keep goodHd d (fun n hn => stepA_not (U := fun n => n = h) hSg hTg hn)
  rcases hv with ⟨rfl, hv⟩ | ⟨rfl, hv⟩ | ⟨rfl, hv⟩
  · exact ⟨v, c, mm, rfl, (hv.keep goodTy d hTg).mono goodTy (fun n hn => by rw [stepA_lt (by simp)]; exact hn), k3.mono goodByte (fun n hn => stepA_mono (fun _ h => h) (by simp) hn), k4.mono goodHd (fun n hn => stepA_mono (fun _ h => h) (by simp) hn)⟩
  · exact ⟨f, v, mm, rfl, k2.mono goodTy (fun n hn => stepA_mono (fun _ h => h) (by simp) hn), (hv.keep goodByte d hTg).mono goodByte (fun n hn => by rw [stepA_lt (by simp)]; exact hn), k4.mono goodHd (fun n hn => stepA_mono (fun _ h => h) (by simp) hn)⟩
  · exact ⟨f, c, v, rfl, k2.mono goodTy (fun n hn => stepA_mono (fun _ h => h) (by simp) hn), k3.mono goodByte (fun n hn => stepA_mono (fun _ h => h) (by simp) hn), (hv.keep goodHd d hTg).mono goodHd (fun n hn => by rw [stepA_lt (by simp)]; exact hn)⟩
theorem MgI.next {ws : World} {h : Nat} {ms : List Mt} {q : Nat} (hI : MgI ws h ms S q 10 wr) : MgI ws h ms S (q + 1) 2 wr :=
  ⟨hI.chg, hI.row.step (Chg.refl No wr) (fun h => h) (fun i x cs _ _ hR _ => hR.keep (Chg.refl No wr) (fun _ _ _ _ _ h => h) (fun j _ _ n hn => stepA_mono (fun _ h => h) (by omega) hn))⟩

/-- The slice of class k's new methods laid in, ahead of their loop: they still read elsewhere. -/
structure TgH (w : World) (g : Nat) (m : Md) (pv cv : Value) (S : Blocks) (k h n cap : Nat) (ws : World) : Prop where
  chg : Chg No w ws
  row : RRow 37 6 RCl3 ws g m.classes (fun i j => if i = k ∧ j = 5 then (fun _ => True) else stepA S (Rng (w.heap.size + 2) h g) k 5 i j)
  pool : SQ 6 REn (Rng (w.heap.size + 2) h g) ws pv m.pool
  mod : ws.heap[w.heap.size]? = some (.cells #[pv, cv] 47 (0, 0))
  res : ws.heap[w.heap.size + 1]? = some (.cells #[zNil, zNil] 47 (0, 0))
  cell : ws.cell? ⟨g, k * 6 + 5, none⟩ = some (.slice (some ⟨h, 0, none⟩) n cap)
theorem TgH.start (h : TgI w g m pv cv S k 5 wr) (hS : ∀ n, S n → n < w.heap.size) (hg : w.heap.size + 2 ≤ g) {x : Cl} (hx : m.classes[k]? = some x) (d : Chg No wr w1) {hb n cap : Nat} (hb' : wr.heap.size ≤ hb) (hqg : SQ 10 RMt (fun n => n ≠ g) w1 (.slice (some ⟨hb, 0, none⟩) n cap) x.methods) :
    TgH w g m pv cv S k hb n cap (w1.setCell ⟨g, k * 6 + 5, none⟩ (.slice (some ⟨hb, 0, none⟩) n cap)) := by
  have c := chg_setCell w1 g (k * 6 + 5) (.slice (some ⟨hb, 0, none⟩) n cap)
  have hSg : ∀ n, S n → ¬ n = g := fun n hn e => by have := hS n hn; omega
  have hTg : ∀ n, Rng (w.heap.size + 2) hb g n → ¬ n = g := fun n hn => hn.2.2
  have h1 : RRow 37 6 RCl3 w1 g m.classes (stepA S (Rng (w.heap.size + 2) hb g) k 5) := h.row.step d (fun h => h) (fun i x cs _ _ hR _ => hR.keep d (fun _ _ _ _ _ h => h) (fun j _ _ n hn => stepA_mono (fun n hn => rng_mono hn hb') Iff.rfl hn))
  have hmod := (d.block _ (heap_lt h.mod) (fun h => h)).trans h.mod
  have hres := (d.block _ (heap_lt h.res) (fun h => h)).trans h.res
  have hgl := h1.lt
  refine ⟨(h.chg.trans d (fun _ _ h => h)).set_new (by omega) _ _, ?_, ((h.pool.new goodEn d).mono goodEn (fun n hn => rng_mono hn hb')).keep goodEn c hTg, (c.block _ (heap_lt hmod) (by omega)).trans hmod, (c.block _ (heap_lt hres) (by omega)).trans hres, ?_⟩
  · refine h1.set hx (by omega) _ (fun cs hl hR => ?_) (fun i y cs hi hy hR => hR.keep c (fun j _ _ n hn => stepA_not (U := fun n => n = g) hSg hTg hn) (fun j _ _ n hn => by rw [if_neg (fun e => hi e.1)]; exact hn))
    obtain ⟨f, q, mm, rfl, h2, h3, h4⟩ := hR
    refine ⟨f, q, _, rfl, ?_, ?_, ?_⟩
    · dsimp only; rw [if_neg (by omega)]; exact h2.keep goodStr c (fun n hn => stepA_not (U := fun n => n = g) hSg hTg hn)
    · dsimp only; rw [if_neg (by omega)]; exact h3.keep goodFd c (fun n hn => stepA_not (U := fun n => n = g) hSg hTg hn)
    · dsimp only; rw [if_pos (by omega)]; exact (hqg.keep goodMt c (fun n hn => hn)).mono goodMt (fun _ _ => trivial)
  · obtain ⟨cs, hl, -, hc⟩ := h1.cells hx
    obtain ⟨cur, q1, q2⟩ := h1
    obtain ⟨cs, q3, q4, q5⟩ := q2 k x hx
    refine blk_cell (setCell_at q1 _) ?_
    have hlt : k * 6 + 5 < cur.size := (Array.getElem?_eq_some_iff.1 (q5 5 _ (List.getElem?_eq_getElem (by omega)))).1
    rw [Array.getElem?_setIfInBounds_self_of_lt hlt]
/-- Behind their loop. -/
theorem TgH.done {ws : World} {h n cap : Nat} (H : TgH w g m pv cv S k h n cap ws) {x : Cl} (hx : m.classes[k]? = some x) (hS : ∀ n, S n → n < w.heap.size) (hgh : g < h) (hgw : w.heap.size + 2 ≤ g) (hhs : h < ws.heap.size) (hn : n = x.methods.length) (hc : x.methods.length ≤ cap)
    (hI : MgI ws h x.methods S x.methods.length 2 wr) : TgI w g m pv cv S (k + 1) 3 wr where
  chg := H.chg.trans hI.chg (fun n hn e => by omega)
  row := by
    refine H.row.step hI.chg (by omega) (fun i y cs hy hl hR hcell => ?_)
    have hsz := hI.chg.size
    have hSh : ∀ n, S n → ¬ n = h := fun n hn e => by have := hS n hn; omega
    have hTh : ∀ n, Rng (w.heap.size + 2) h g n → ¬ n = h := fun n hn e => by have := hn.2.1; omega
    have hT : ∀ n, Rng (w.heap.size + 2) h g n → Rng (w.heap.size + 2) wr.heap.size g n := fun n hn => rng_mono hn (by omega)
    by_cases e : i = k
    · subst e
      rw [hx] at hy; cases hy
      obtain ⟨f, q, mm, rfl, h2, h3, h4⟩ := hR
      have h5 := hcell 5 mm rfl
      rw [H.cell] at h5
      cases h5
      dsimp only at h2 h3
      rw [if_neg (by omega)] at h2 h3
      refine ⟨f, q, _, rfl, (h2.keep goodStr hI.chg (fun n hn => stepA_not (U := fun n => n = h) hSh hTh hn)).mono goodStr (fun n hn => ?_), (h3.keep goodFd hI.chg (fun n hn => stepA_not (U := fun n => n = h) hSh hTh hn)).mono goodFd (fun n hn => ?_), ?_⟩
      · rw [stepA_lt (by omega)] at hn ⊢; exact hT n hn
      · rw [stepA_lt (by omega)] at hn ⊢; exact hT n hn
      · subst hn
        have hT2 : ∀ n, Rng ws.heap.size wr.heap.size h n → Rng (w.heap.size + 2) wr.heap.size g n := fun n hn => ⟨by have := hn.1; omega, hn.2.1, by have := hn.1; omega⟩
        refine hI.row.sq (fun i y cs hy hR => ?_) ?_ hc
        · obtain ⟨v, c, hh, rfl, r1, r2, r3⟩ := hR
          have hil := (List.getElem?_eq_some_iff.1 hy).1
          rw [stepA_lt (by omega)] at r1 r2 r3
          exact ⟨v, c, hh, rfl, r1.mono goodTy (fun n hn => by rw [stepA_lt (by omega)]; exact hT2 n hn), r2.mono goodByte (fun n hn => by rw [stepA_lt (by omega)]; exact hT2 n hn), r3.mono goodHd (fun n hn => by rw [stepA_lt (by omega)]; exact hT2 n hn)⟩
        · rw [stepA_lt (by omega)]; exact ⟨by omega, by omega, by omega⟩
    · exact hR.keep hI.chg (fun j _ _ n hn => by rw [if_neg (fun h => e h.1)] at hn; exact stepA_not (U := fun n => n = h) hSh hTh hn) (fun j _ _ n hn => by rw [if_neg (fun h => e h.1)] at hn; exact stepA_mono hT (by omega) hn)
  pool := (H.pool.keep goodEn hI.chg (fun n hn e => by have := hn.2.1; omega)).mono goodEn (fun n hn => rng_mono hn (by have := hI.chg.size; omega))
  mod := (hI.chg.block _ (heap_lt H.mod) (by omega)).trans H.mod
  res := (hI.chg.block _ (heap_lt H.res) (by omega)).trans H.res
end

/-- What Twin leaves. -/
def TwinnedG (w : World) (m : Md) (e : Ending) (w' : World) : Prop :=
  ∃ pv cv, e = .returned (.agg #[pv, cv]) ∧ SQ 6 REn (fun n => w.heap.size ≤ n ∧ n < w'.heap.size) w' pv m.pool ∧ SQ 6 RCl (fun n => w.heap.size ≤ n ∧ n < w'.heap.size) w' cv m.classes ∧ Chg No w w'

end Go.Proofs.YtgmmclcpfmnoiaaGreatDoor
