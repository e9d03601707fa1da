/-
  The rules of Link at a world of classes without interfaces, fields, methods of their own.
-/
import Derived.Test.YtmpmfbnglfgobaaGreatDoorOwes
import Derived.Test.YtmpmfbnglfgobaaGreatDoorFree
import Derived.Test.YtmpmfbnglfgobaaGreatDoorLink
namespace Go.Proofs.YtmpmfbnglfgobaaGreatDoor
open Go.RowKit

structure PlainWorld (es : List Ent) (CHN : Bs → List Bs) : Prop where
  len8 : 8 < es.length
  le : es.length ≤ 1000
  pool : ∀ x ∈ es, x.pool = []
  tail : ∀ x ∈ es.drop 8, PlainCl x.cl
  bare : ∀ x ∈ es, x.cl.flags = 0 ∧ x.cl.faces = [] ∧ (x.cl.methods = [] ∨ x.cl.methods = [initM]) ∧ x.cl.name ≠ []
  sup : ∀ x ∈ es.drop 8, ∃ y ∈ es, atf es x.cl.super = some y.at_
  supAll : ∀ c ∈ cls es, c.super = [] ∨ ∃ d, fnd (cls es) c.super = some d
  chain : (∀ x ∈ es.drop 8, ¬ Reach (cls es) x.cl.name x.cl.name) → ∀ x ∈ es, IsChain (cls es) x.cl.name (CHN x.cl.name) ∧ (CHN x.cl.name).length ≤ 1000 ∧ ∀ t ∈ CHN x.cl.name, ∃ y ∈ es, atf es t = some y.at_
open Classical in
noncomputable def RBp (es : List Ent) (CHN : Bs → List Bs) (i : Nat) (x : Ent) : Bool :=
  if i = 2 then decide (¬ Reach (cls es) x.cl.name x.cl.name) else if i = 3 then decide ((CHN x.cl.name).length ≤ 32) else true
theorem RBp_free {es : List Ent} {CHN : Bs → List Bs} {x : Ent} (h : RBp es CHN 2 x = true) : ¬ Reach (cls es) x.cl.name x.cl.name := by
  unfold RBp at h
  simpa using h

theorem rules_plain {S O : Blocks} {w : World} {b mb : Nat} {nv : Value} {es : List Ent} (h : HW S O w b mb nv es false) {CHN : Bs → List Bs} (p : PlainWorld es CHN) : RulesAre w b (es.drop 8) (RBp es CHN) := by
  intro i hi hb x hx W hW
  have hxm : x ∈ es := List.mem_of_mem_drop hx
  have hw := h.new hW
  have hpc := p.tail x hx
  have hch : 2 < i → IsChain (cls es) x.cl.name (CHN x.cl.name) ∧ (CHN x.cl.name).length ≤ 1000 ∧ ∀ t ∈ CHN x.cl.name, ∃ y ∈ es, atf es t = some y.at_ := fun h2 => p.chain (fun y hy => RBp_free (hb 2 h2 y hy)) x hxm
  have hnm := (p.bare x hxm).2.2.2
  rcases (by omega : i = 0 ∨ i = 1 ∨ i = 2 ∨ i = 3 ∨ i = 4 ∨ i = 5 ∨ i = 6) with rfl | rfl | rfl | rfl | rfl | rfl | rfl
  · obtain ⟨y, hy, hk⟩ := p.sup x hx
    exact (stands_plain hw x hxm hpc.faces y.at_ hk).mono fun e w' ⟨he, hc⟩ => ⟨by rw [he]; rfl, hc⟩
  · obtain ⟨y, hy, hk⟩ := p.sup x hx
    exact (kinds_plain hw x hxm hpc.faces y hy hk (by unfold isFaceB; rw [(p.bare y hy).1]; rfl)).mono fun e w' ⟨he, hc⟩ => ⟨by rw [he]; rfl, hc⟩
  · refine (free_c hw p.le (fun c hc => ⟨p.supAll c hc, fun s hs => ?_⟩) (fun c hc => ?_) (fun c hc => ?_) x hxm).mono fun e w' ⟨r, he, hr, hc⟩ => ⟨?_, hc⟩
    · obtain ⟨y, hy, rfl⟩ := List.mem_map.1 hc
      rw [(p.bare y hy).2.1] at hs; cases hs
    · obtain ⟨y, hy, rfl⟩ := List.mem_map.1 hc
      exact (p.bare y hy).2.2.2
    · obtain ⟨y, hy, rfl⟩ := List.mem_map.1 hc
      rw [(p.bare y hy).2.1]; simp
    · rw [he]
      have : RBp es CHN 2 x = r := by
        unfold RBp
        cases r <;> simp_all
      rw [this]
  · obtain ⟨c1, c2, -⟩ := hch (by omega)
    exact (short_c hw x hxm _ c1 c2).mono fun e w' ⟨he, hc⟩ => ⟨by rw [he]; unfold RBp; simp, hc⟩
  · exact (named_plain hw x hxm hpc.fields hpc.methods (p.pool x hxm)).mono fun e w' ⟨he, hc⟩ => ⟨by rw [he]; rfl, hc⟩
  · obtain ⟨c1, c2, -⟩ := hch (by omega)
    exact (overrides_plain hw x hxm hpc.flags hpc.methods _ c1 c2 hnm).mono fun e w' ⟨he, hc⟩ => ⟨by rw [he]; rfl, hc⟩
  · obtain ⟨c1, c2, c3⟩ := hch (by omega)
    refine (owes_plain hw x hxm hpc.flags _ c1 c2 hnm (fun t ht => ?_)).mono fun e w' ⟨he, hc⟩ => ⟨by rw [he]; rfl, hc⟩
    obtain ⟨y, hy, hk⟩ := c3 t ht
    exact ⟨y, hy, hk, (p.bare y hy).2.1, (p.bare y hy).2.2.1⟩

end Go.Proofs.YtmpmfbnglfgobaaGreatDoor
