/-
  Link at a world of classes without interfaces, fields, methods of their own; the laws' small helpers.
-/
import Derived.Test.YtmpmfbnglfgobaaGreatDoorPlainW
import Derived.Test.YtmpmfbnglfgobaaGreatDoorCommon
import Derived.Test.YtmpmfbnglfgobaaGreatDoorKnownSpec
namespace Go.Proofs.YtmpmfbnglfgobaaGreatDoor
open Go.RowKit

/-- The chain of the class in a block. -/
noncomputable def CHat (es : List Ent) (a : Nat) : List Bs := match es.find? (fun x => x.at_ == a) with | some x => chainOf (cls es) x.cl.name | none => []
theorem CHat_of {es : List Ent} (h : (es.map fun x => x.at_).Nodup) {x : Ent} (hx : x ∈ es) : CHat es x.at_ = chainOf (cls es) x.cl.name := by
  have key : ∀ l : List Ent, (l.map fun x => x.at_).Nodup → x ∈ l → l.find? (fun y => y.at_ == x.at_) = some x := by
    intro l hl hx
    induction l with
    | nil => cases hx
    | cons a r ih =>
      rw [List.map_cons, List.nodup_cons] at hl
      rw [List.find?_cons]
      rcases List.mem_cons.1 hx with rfl | hr
      · simp
      · have hne : (a.at_ == x.at_) = false := by
          rw [beq_eq_false_iff_ne]
          intro e
          exact hl.1 (by rw [e]; exact List.mem_map_of_mem hr)
        rw [hne]
        exact ih hl.2 hr
  unfold CHat
  rw [key es h hx]

def LinkedP (S O : Blocks) (w : World) (b mb : Nat) (nv : Value) (es : List Ent) (e : Ending) (w' : World) : Prop :=
  (∃ i j x, Broken (es.drop 8) (RBp es (chainOf (cls es))) i j ∧ (es.drop 8)[j]? = some x ∧ e = .returned (.tuple #[strV x.cl.name, .int .i64 (ruleErrs.getD i 0)]) ∧ Chg No w w') ∨
  ((∀ i, i < 7 → ∀ x ∈ es.drop 8, RBp es (chainOf (cls es)) i x = true) ∧ e = .returned (.tuple #[strV [], .int .i64 0]) ∧ Chg O w w' ∧ ∃ S' es', HW S' O w' b mb nv es' true ∧ ∀ x ∈ es, ∃ y ∈ es', y.cl = x.cl ∧ y.chain = chainOf (cls es) x.cl.name)
theorem link_plain {S O : Blocks} {w : World} {b mb : Nat} {nv : Value} {es : List Ent} (h : HW S O w b mb nv es false) (p : PlainWorld es (chainOf (cls es))) :
    Calls Tryz.prog 8 #[.pointer (some ⟨b, 0, none⟩)] w (LinkedP S O w b mb nv es) := by
  refine (link_c h p.len8 p.le (RBp es (chainOf (cls es))) (rules_plain h p) (CHat es) (fun hall x hx => ?_)).mono fun e w' hl => ?_
  · rw [CHat_of h.nodup hx]
    obtain ⟨c1, c2, c3⟩ := p.chain (fun y hy => RBp_free (hall 2 (by omega) y hy)) x hx
    exact ⟨c1, c2, fun t ht => by obtain ⟨y, hy, hk⟩ := c3 t ht; exact ⟨y, hy, hk, (p.bare y hy).2.1⟩⟩
  · rcases hl with ⟨i, j, x, h1, h2, h3, h4⟩ | ⟨h1, h2, h3, S', h4⟩
    · exact .inl ⟨i, j, x, h1, h2, h3, h4⟩
    · refine .inr ⟨h1, h2, h3, S', _, h4, fun x hx => ⟨_, List.mem_map_of_mem hx, rfl, ?_⟩⟩
      exact CHat_of h.nodup hx

theorem first_bare : ∀ c ∈ firsts, c.flags = 0 ∧ c.faces = [] ∧ c.methods = [initM] ∧ c.name ≠ [] ∧ c.name.length ≤ 32 := by decide
theorem first_name : ∀ i, i < 8 → ∀ c, firsts[i]? = some c → c.name = firstNames[i]?.getD [] := by decide
theorem first_sup : ∀ c ∈ firsts, c.super = [] ∨ ∃ d ∈ firsts, d.name = c.super := by decide
/-- A world of the first classes and such. -/
theorem plainWorld {es : List Ent} {tl : List Cl} (hcl : cls es = firsts ++ tl) (h0 : 0 < tl.length) (hl : tl.length ≤ 100) (hp : ∀ x ∈ es, x.pool = []) (ht : ∀ c ∈ tl, PlainCl c) (hsup : ∀ c ∈ tl, ∃ d, fnd (firsts ++ tl) c.super = some d)
    (hfst : ∀ c ∈ firsts, fnd (firsts ++ tl) c.name = some c) (hch : ∀ c ∈ tl, (∀ c ∈ tl, ¬ Reach (firsts ++ tl) c.name c.name) → ∃ l, IsChain (firsts ++ tl) c.name l ∧ l.length ≤ 1000 ∧ ∀ t ∈ l, ∃ d, fnd (firsts ++ tl) t = some d) : PlainWorld es (chainOf (cls es)) := by
  have hlen : es.length = 8 + tl.length := by
    have := congrArg List.length hcl
    rw [List.length_append] at this
    simp only [cls, List.length_map] at this
    rw [this]; rfl
  have hat : ∀ {s : Bs} {d : Cl}, fnd (firsts ++ tl) s = some d → ∃ y ∈ es, atf es s = some y.at_ := fun {s d} hd => by
    rw [← hcl] at hd
    obtain ⟨x, hx, -, -, hk⟩ := fnd_some hd
    exact ⟨x, hx, hk⟩
  have htail : ∀ x ∈ es.drop 8, x.cl ∈ tl := fun x hx => by
    have h1 : x.cl ∈ (cls es).drop 8 := by unfold cls; rw [← List.map_drop]; exact List.mem_map_of_mem hx
    rw [hcl] at h1
    rwa [show (firsts ++ tl).drop 8 = tl from List.drop_left' (by rfl)] at h1
  have htail2 : ∀ c ∈ tl, ∃ x ∈ es.drop 8, x.cl = c := fun c hc => by
    have h1 : c ∈ (cls es).drop 8 := by rw [hcl, show (firsts ++ tl).drop 8 = tl from List.drop_left' (by rfl)]; exact hc
    unfold cls at h1
    rw [← List.map_drop] at h1
    obtain ⟨x, hx, he⟩ := List.mem_map.1 h1
    exact ⟨x, hx, he⟩
  have hall : ∀ x ∈ es, x.cl ∈ firsts ∨ x.cl ∈ tl := fun x hx => by
    have h1 : x.cl ∈ cls es := List.mem_map_of_mem hx
    rw [hcl] at h1
    exact List.mem_append.1 h1
  refine ⟨by omega, by omega, hp, fun x hx => ht _ (htail x hx), fun x hx => ?_, fun x hx => ?_, fun c hc => ?_, fun hr x hx => ?_⟩
  · rcases hall x hx with h | h
    · obtain ⟨a1, a2, a3, a4, -⟩ := first_bare x.cl h
      exact ⟨a1, a2, .inr a3, a4⟩
    · have hpc := ht x.cl h
      refine ⟨hpc.flags, hpc.faces, .inl hpc.methods, fun e => ?_⟩
      have := hpc.name
      rw [e] at this
      simp [nameB] at this
  · obtain ⟨d, hd⟩ := hsup x.cl (htail x hx)
    exact hat hd
  · rw [hcl] at hc ⊢
    rcases List.mem_append.1 hc with h | h
    · rcases first_sup c h with e | ⟨d, hd, e⟩
      · exact .inl e
      · exact .inr ⟨d, by rw [← e]; exact hfst d hd⟩
    · exact .inr (hsup c h)
  · rw [hcl] at hr ⊢
    have hr' : ∀ c ∈ tl, ¬ Reach (firsts ++ tl) c.name c.name := fun c hc => by
      obtain ⟨y, hy, e⟩ := htail2 c hc
      have := hr y hy
      rwa [e] at this
    have fin : ∀ {l : List Bs}, IsChain (firsts ++ tl) x.cl.name l → l.length ≤ 1000 → (∀ t ∈ l, ∃ d, fnd (firsts ++ tl) t = some d) →
        IsChain (firsts ++ tl) x.cl.name (chainOf (firsts ++ tl) x.cl.name) ∧ (chainOf (firsts ++ tl) x.cl.name).length ≤ 1000 ∧ ∀ t ∈ chainOf (firsts ++ tl) x.cl.name, ∃ y ∈ es, atf es t = some y.at_ := fun {l} h1 h2 h3 => by
      rw [h1.of]
      exact ⟨h1, h2, fun t ht => by obtain ⟨d, hd⟩ := h3 t ht; exact hat hd⟩
    rcases hall x hx with h | h
    · obtain ⟨i, hi⟩ := List.getElem?_of_mem h
      have hi8 : i < 8 := (List.getElem?_eq_some_iff.1 hi).1
      obtain ⟨l, h1, h2, h3⟩ := first_chain (cs := firsts ++ tl) i hi8 hfst
      rw [← first_name i hi8 x.cl hi] at h1
      exact fin h1 (by omega) (fun t ht => by obtain ⟨c, -, hc⟩ := h3 t ht; exact ⟨c, hc⟩)
    · obtain ⟨l, h1, h2, h3⟩ := hch x.cl h hr'
      exact fin h1 h2 h3

end Go.Proofs.YtmpmfbnglfgobaaGreatDoor
