/-
  Link, walked at any world of classes behind the first ones, over what the rule named answers.
-/
import Derived.Test.YtgmmclcpfmnoiaaGreatDoorLinkG
import Derived.Test.YtgmmclcpfmnoiaaGreatDoorApi
import Derived.Test.YtgmmclcpfmnoiaaGreatDoorRuleJ
import Derived.Test.YtgmmclcpfmnoiaaGreatDoorRuleG
import Derived.Test.YtgmmclcpfmnoiaaGreatDoorFree
namespace Go.Proofs.YtgmmclcpfmnoiaaGreatDoor
open Go.RowKit

/-- What a machine may hold; the first classes stand first. -/
structure WG (es : List Ent) (tl : List Cl) : Prop where
  wok : WOk es
  cl : cls es = firsts ++ tl
  le : es.length ≤ 900
section
variable {es : List Ent} {tl : List Cl}
theorem WG.len (h : WG es tl) : es.length = 8 + tl.length := by
  have := congrArg List.length h.cl
  rw [List.length_append] at this
  simp only [cls, List.length_map] at this
  rw [this]; rfl
theorem WG.tail (h : WG es tl) : (es.drop 8).map (·.cl) = tl := by
  have : (cls es).drop 8 = tl := by rw [h.cl]; exact List.drop_left' (by rfl)
  unfold cls at this
  rw [← List.map_drop] at this
  exact this
theorem WG.mem (h : WG es tl) {x : Ent} (hx : x ∈ es.drop 8) : x.cl ∈ tl := by rw [← h.tail]; exact List.mem_map_of_mem hx
theorem WG.of (h : WG es tl) {c : Cl} (hc : c ∈ tl) : ∃ x ∈ es.drop 8, x.cl = c := by rw [← h.tail] at hc; exact List.mem_map.1 hc

open Classical in
/-- The rules, plainly. -/
noncomputable def RBg (es : List Ent) (NB : Ent → Bool) (i : Nat) (x : Ent) : Bool :=
  if i = 0 then standsB (cls es) x.cl
  else if i = 1 then kindsB (cls es) x.cl
  else if i = 2 then decide (¬ Reach (cls es) x.cl.name x.cl.name)
  else if i = 3 then decide ((chainOf (cls es) x.cl.name).length ≤ 32)
  else if i = 4 then NB x
  else if i = 5 then overridesB (cls es) x.cl (chainOf (cls es) x.cl.name).tail
  else owesB (cls es) x.cl (chainOf (cls es) x.cl.name) (walkOf (cls es) x.cl.name)
theorem WG.sound (h : WG es tl) {NB : Ent → Bool} (h0 : ∀ x ∈ es.drop 8, RBg es NB 0 x = true) (h2 : ∀ x ∈ es.drop 8, RBg es NB 2 x = true) : Sound (cls es) := by
  rw [h.cl]
  refine sound_of (fun c hc => ?_) (fun c hc => ?_) (fun c hc => ?_)
  · obtain ⟨x, hx, rfl⟩ := h.of hc
    exact h.wok.name x (List.mem_of_mem_drop hx)
  · obtain ⟨x, hx, rfl⟩ := h.of hc
    have := h0 x hx
    rw [← h.cl]
    exact this
  · obtain ⟨x, hx, rfl⟩ := h.of hc
    have := h2 x hx
    unfold RBg at this
    rw [← h.cl]
    simpa using this
theorem WG.cw (h : WG es tl) (hu : (es.map fun x => x.cl.name).Nodup) (hs : Sound (cls es)) {x : Ent} (hx : x ∈ es) : IsChain (cls es) x.cl.name (chainOf (cls es) x.cl.name) ∧ Walks (cls es) [] (chainOf (cls es) x.cl.name) (walkOf (cls es) x.cl.name) ∧ (chainOf (cls es) x.cl.name).length ≤ 1000 ∧ (walkOf (cls es) x.cl.name).length ≤ 1000 ∧
    ∀ s ∈ walkOf (cls es) x.cl.name ++ chainOf (cls es) x.cl.name, ∃ k, atf es s = some k := by
  obtain ⟨h1, h2⟩ := sound_cw hs (atf_mem hu hx).2 (List.mem_map_of_mem hx)
  have hcl : (cls es).length ≤ 900 := by unfold cls; rw [List.length_map]; exact h.le
  refine ⟨h1, h2, ?_, ?_, fun s hs' => ?_⟩
  · have := chain_len hs h1; have := rank_le (cs := cls es) x.cl.name; omega
  · have := walks_len h2; omega
  · have key : ∃ c, fnd (cls es) s = some c := by
      rcases List.mem_append.1 hs' with h | h
      · exact (walks_mem h2 ⟨List.nodup_nil, fun s hs => by cases hs⟩).2 s h
      · exact chain_mem h1 s h
    obtain ⟨c, hc⟩ := key
    obtain ⟨y, -, -, -, hy⟩ := fnd_some hc
    exact ⟨_, hy⟩
end

section
variable {S O : Blocks} {w : World} {b mb : Nat} {nv : Value} {es : List Ent} {tl : List Cl}
theorem rules_g (h : HW S O w b mb nv es false) (g : WG es tl) (NB : Ent → Bool) (hNB : ∀ x ∈ es.drop 8, ∀ W, Chg No w W → Calls Tryz.prog 40 #[.pointer (some ⟨b, 0, none⟩), .pointer (some ⟨x.at_, 0, none⟩)] W fun e w' => e = .returned (.bool (NB x)) ∧ Chg No W w') : RulesAre w b (es.drop 8) (RBg es NB) := by
  intro i hi hb x hx W hW
  have hxm : x ∈ es := List.mem_of_mem_drop hx
  have hw := h.new hW
  have hsnd : 2 < i → Sound (cls es) := fun h2 => g.sound (hb 0 (by omega)) (hb 2 h2)
  rcases (by omega : i = 0 ∨ i = 1 ∨ i = 2 ∨ i = 3 ∨ i = 4 ∨ i = 5 ∨ i = 6) with rfl | rfl | rfl | rfl | rfl | rfl | rfl
  · exact stands_c hw g.wok x hxm
  · exact kinds_c hw g.wok x hxm (hb 0 (by omega) x hx)
  · refine (free_c hw (by have := g.le; omega) (fun c hc => ?_) (fun c hc => ?_) (fun c hc => ?_) x hxm).mono fun e w' ⟨r, he, hr, hc⟩ => ⟨?_, hc⟩
    · rw [g.cl] at hc
      rcases List.mem_append.1 hc with h1 | h1
      · refine ⟨?_, fun s hs => by rw [first_nf c h1] at hs; cases hs⟩
        by_cases h0 : c.super = []
        · exact .inl h0
        · obtain ⟨⟨d, hd, he⟩, -⟩ := first_up c h1 h0
          exact .inr ⟨d, by rw [← he, g.cl]; exact first_fnd d hd⟩
      · obtain ⟨y, hy, rfl⟩ := g.of h1
        have := hb 0 (by omega) y hy
        have this : standsB (cls es) y.cl = true := this
        unfold standsB at this
        rw [Bool.and_eq_true, List.all_eq_true] at this
        exact ⟨.inr (thereB_some.1 this.1), fun s hs => thereB_some.1 (this.2 s hs)⟩
    · obtain ⟨y, hy, rfl⟩ := List.mem_map.1 hc
      exact g.wok.name y hy
    · obtain ⟨y, hy, rfl⟩ := List.mem_map.1 hc
      exact g.wok.faces y hy
    · rw [he]
      have : RBg es NB 2 x = r := by
        unfold RBg
        cases r <;> simp_all
      rw [this]
  · obtain ⟨c1, -, c3, -⟩ := g.cw h.uniq (hsnd (by omega)) hxm
    exact (short_c hw x hxm _ c1 c3).mono fun e w' ⟨he, hc⟩ => ⟨by rw [he]; unfold RBg; simp, hc⟩
  · exact hNB x hx W hW
  · obtain ⟨c1, -, c3, -, c5⟩ := g.cw h.uniq (hsnd (by omega)) hxm
    have hst : standsB (cls es) x.cl = true := hb 0 (by omega) x hx
    have h2 := chain_two c1 (g.wok.name x hxm) (atf_mem h.uniq hxm).2 (super_ne (hsnd (by omega)) (by
      unfold standsB at hst
      rw [Bool.and_eq_true] at hst
      exact hst.1))
    exact overrides_c hw g.wok x hxm _ c1 c3 h2 (fun s hs => c5 s (List.mem_append_right _ hs))
  · obtain ⟨c1, c2, c3, c4, c5⟩ := g.cw h.uniq (hsnd (by omega)) hxm
    exact owes_c hw g.wok x hxm _ _ c1 c3 c2 (by omega) c5

/-- What a list of names tells of the class in a block. -/
def atK (es : List Ent) (F : Bs → List Bs) (a : Nat) : List Bs := match es.find? (fun x => x.at_ == a) with | some x => F x.cl.name | none => []
theorem atK_of {F : Bs → List Bs} (h : (es.map fun x => x.at_).Nodup) {x : Ent} (hx : x ∈ es) : atK es F x.at_ = F x.cl.name := by
  have key : ∀ l : List Ent, (l.map fun x => x.at_).Nodup → x ∈ l → l.find? (fun y => y.at_ == x.at_) = some x := by
    intro l hl hx
    induction l with
    | nil => cases hx
    | cons a r ih =>
      rw [List.map_cons, List.nodup_cons] at hl
      rw [List.find?_cons]
      rcases List.mem_cons.1 hx with rfl | hr
      · simp
      · have hne : (a.at_ == x.at_) = false := by
          rw [beq_eq_false_iff_ne]
          intro e
          exact hl.1 (by rw [e]; exact List.mem_map_of_mem hr)
        rw [hne]
        exact ih hl.2 hr
  unfold atK
  rw [key es h hx]
/-- A linked world's classes. -/
noncomputable def linkE (es : List Ent) (x : Ent) : Ent := { x with chain := chainOf (cls es) x.cl.name, faces := walkOf (cls es) x.cl.name }
def LinkedR (S O : Blocks) (w : World) (b mb : Nat) (nv : Value) (es : List Ent) (NB : Ent → Bool) (e : Ending) (w' : World) : Prop :=
  (∃ i j x, Broken (es.drop 8) (RBg es NB) i j ∧ (es.drop 8)[j]? = some x ∧ e = .returned (.tuple #[strV x.cl.name, .int .i64 (ruleErrs.getD i 0)]) ∧ Chg No w w') ∨
  ((∀ i, i < 7 → ∀ x ∈ es.drop 8, RBg es NB i x = true) ∧ e = .returned (.tuple #[strV [], .int .i64 0]) ∧ Chg O w w' ∧ ∃ S', HW S' O w' b mb nv (es.map (linkE es)) true ∧ ∀ n, S' n → S n ∨ w.heap.size ≤ n)
theorem link_g (h : HW S O w b mb nv es false) (g : WG es tl) (NB : Ent → Bool) (hNB : ∀ x ∈ es.drop 8, ∀ W, Chg No w W → Calls Tryz.prog 40 #[.pointer (some ⟨b, 0, none⟩), .pointer (some ⟨x.at_, 0, none⟩)] W fun e w' => e = .returned (.bool (NB x)) ∧ Chg No W w') :
    Calls Tryz.prog 11 #[.pointer (some ⟨b, 0, none⟩)] w (LinkedR S O w b mb nv es NB) := by
  refine (link_c h (by rw [g.len]; omega) (by have := g.le; omega) (RBg es NB) (rules_g h g NB hNB) (atK es (chainOf (cls es))) (atK es (walkOf (cls es))) g.wok.faces (fun hall x hx => ?_)).mono fun e w' hl => ?_
  · rw [atK_of h.nodup hx, atK_of h.nodup hx]
    obtain ⟨c1, c2, c3, c4, -⟩ := g.cw h.uniq (g.sound (hall 0 (by omega)) (hall 2 (by omega))) hx
    exact ⟨c1, c3, c2, by omega⟩
  · rcases hl with ⟨i, j, x, h1, h2, h3, h4⟩ | ⟨h1, h2, h3, S', h4, h5⟩
    · exact .inl ⟨i, j, x, h1, h2, h3, h4⟩
    · refine .inr ⟨h1, h2, h3, S', ?_, h5⟩
      have e : es.map (linkE es) = es.map (updCF (atK es (chainOf (cls es))) (atK es (walkOf (cls es)))) := List.map_congr_left fun x hx => by
        unfold linkE updCF
        rw [atK_of h.nodup hx, atK_of h.nodup hx]
      rw [e]
      exact h4
end

end Go.Proofs.YtgmmclcpfmnoiaaGreatDoor
