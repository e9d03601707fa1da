/-
  append onto a row of one's own whose elements have several cells, for the walk; its sources.
-/
import Derived.Test.YtgmmclcpfmnoiaaGreatDoorEls
import Derived.Test.YtgmmclcpfmnoiaaGreatDoorStrSet
namespace Go.Proofs.YtgmmclcpfmnoiaaGreatDoor
open Go.RowKit

section
variable {α : Type} {n : Nat} {R : Reading α} {S T : Blocks} {w w' : World} {v : Value} {xs ys : List α} {css : List (List Value)}

theorem Els.single {x : α} {cs : List Value} (hR : R S w x cs) (hl : cs.length = n) : Els n R S w [x] [cs] := by
  refine ⟨rfl, fun i y ds hi hd => ?_⟩
  cases i with
  | zero => simp only [List.getElem?_cons_zero, Option.some.injEq] at hi hd; subst hi; subst hd; exact ⟨hl, hR⟩
  | succ i => simp at hi
/-- One element that lies from an address on. -/
theorem Src.single {P : Program} {x : α} {cs : List Value} (g : Good R) (hR : R S w x cs) (hl : cs.length = n) {tx e' : TypeId} (hk : P.underlying tx = some (.slice e')) (p : Addr) (c : Nat) (hp : At w p cs) :
    Src P n tx (.slice (some p) 1 c) 1 ([cs] : List (List Value)).flatten w :=
  Src.ofSlice w hk p 1 c _ (by simp [hl]) (by simpa using (show ∀ (j : Nat) (u : Value), cs[j]? = some u → w.cell? (p.add j) = some u from hp)) (fun u hu => g.one hR u (by simpa using hu))
theorem At.lit (w : World) (cs : List Value) (T : TypeId) : At (w.alloc (.cells cs.toArray T)) ⟨w.heap.size, 0, none⟩ cs := fun j u hj => by
  rw [add_mk, Nat.zero_add]
  simp [hj]

/-- The operation, for the walk. -/
theorem wpList_appQ {P : Program} {ops : Array Oper} {rest : List Oper} {o : Oper} {a : Act} {Q : Exit → Act → World → Prop} (hgd : o.guard = none) (s x : Operand) (t tx : TypeId)
    (ho : o.op = .call { callee := .builtin .append, args := #[s, x], argTypes := #[t, tx] })
    (e : TypeId) (z : Value) (bytes : Nat) (ht : P.underlying t = some (.slice e)) (hinfo : (P.info? e).map (fun i => (i.zero, i.size, i.bytes)) = some (some z, n, bytes)) (hzs : z.cells.size = n) (hsz : 0 < n)
    (g : Good R) (v : Value) (xs : List α) (hs : a.eval s = v) (hown : OQ e n R S w v xs) (hv : ∀ k, S k → v.ownBlock ≠ some k)
    (xv : Value) (ys : List α) (css : List (List Value)) (hx : a.eval x = xv) (hE : Els n R S w ys css) (hsrc : Src P n tx xv ys.length css.flatten w)
    (h63 : xs.length + ys.length ≤ maxLen) (hbytes : ((xs.length + ys.length) + (xs.length + ys.length) / 4 + 192) * bytes ≤ 281474976710656)
    (h : ∀ v' w', OQ e n R S w' v' (xs ++ ys) → Chg (fun k => some k = v.ownBlock) w w' → (v'.ownBlock = v.ownBlock ∨ ∃ b, v'.ownBlock = some b ∧ w.heap.size ≤ b) → wpList P ops Q rest (a.put o.dst v') w') : wpList P ops Q (o :: rest) a w := by
  obtain ⟨ds, ho1, hE0⟩ := hown
  refine wpList_append_K hgd s x t tx ho e z n bytes ht hinfo hzs hsz v xs.length ds.flatten hs ho1 xv ys.length css.flatten hx hsrc h63 hbytes fun v' w' h1 h2 h3 => ?_
  have hc := Chg.grown h2
  refine h v' w' ?_ hc h3
  exact OQ.append h1 rfl (hE0.keep g hc (fun k hk e => hv k hk e.symm)) (hE.keep g hc (fun k hk e => hv k hk e.symm))
/-- The same at a step of a region that draws its order. -/
theorem step_appQ {P : Program} {ops : Array Oper} {o : Oper} {a : Act} {K : Act → World → Prop} {Q : Exit → Act → World → Prop} {E : Prop} (hgd : o.guard = none) (s x : Operand) (t tx : TypeId)
    (ho : o.op = .call { callee := .builtin .append, args := #[s, x], argTypes := #[t, tx] })
    (e : TypeId) (z : Value) (bytes : Nat) (ht : P.underlying t = some (.slice e)) (hinfo : (P.info? e).map (fun i => (i.zero, i.size, i.bytes)) = some (some z, n, bytes)) (hzs : z.cells.size = n) (hsz : 0 < n)
    (g : Good R) (v : Value) (xs : List α) (hs : a.eval s = v) (hown : OQ e n R S w v xs) (hv : ∀ k, S k → v.ownBlock ≠ some k)
    (xv : Value) (ys : List α) (css : List (List Value)) (hx : a.eval x = xv) (hE : Els n R S w ys css) (hsrc : Src P n tx xv ys.length css.flatten w)
    (h63 : xs.length + ys.length ≤ maxLen) (hbytes : ((xs.length + ys.length) + (xs.length + ys.length) / 4 + 192) * bytes ≤ 281474976710656)
    (h : ∀ v' w', OQ e n R S w' v' (xs ++ ys) → Chg (fun k => some k = v.ownBlock) w w' → (v'.ownBlock = v.ownBlock ∨ ∃ b, v'.ownBlock = some b ∧ w.heap.size ≤ b) → K (a.put o.dst v') w') :
    if Region.wanted o (yielded ops a.tmps) = true then Oper.wp P o a w K Q else E := by
  obtain ⟨ds, ho1, hE0⟩ := hown
  refine step_append_K hgd s x t tx ho e z n bytes ht hinfo hzs hsz v xs.length ds.flatten hs ho1 xv ys.length css.flatten hx hsrc h63 hbytes fun v' w' h1 h2 h3 => ?_
  have hc := Chg.grown h2
  refine h v' w' ?_ hc h3
  exact OQ.append h1 rfl (hE0.keep g hc (fun k hk e => hv k hk e.symm)) (hE.keep g hc (fun k hk e => hv k hk e.symm))
end

end Go.Proofs.YtgmmclcpfmnoiaaGreatDoor
