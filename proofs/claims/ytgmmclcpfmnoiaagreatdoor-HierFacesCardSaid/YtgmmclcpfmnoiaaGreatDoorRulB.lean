/-
  Which rule the law HierRules's worlds break, and at which class: plainly.
-/
import Derived.Test.YtgmmclcpfmnoiaaGreatDoorRulA
namespace Go.Proofs.YtgmmclcpfmnoiaaGreatDoor
open Go.RowKit

abbrev NBn (es : List Ent) (x : Ent) : Bool := namedB0 (cls es) x.cl
section
variable {es : List Ent} {kk : Nat}
theorem r_wg (hk : kk < 9) (hcl : cls es = rCs kk) : WG es [rA, rI, xCl kk] := wg_of hcl (by
  rw [hcl]
  intro c hc
  refine r_ok kk hk c ?_
  rcases List.mem_append.1 hc with h | h
  · exact List.mem_append_left _ h
  · refine List.mem_append_right _ ?_
    simp only [List.mem_cons, List.not_mem_nil, or_false] at h ⊢
    rcases h with h | h | h
    · exact .inl h
    · exact .inr (.inl h)
    · exact .inr (.inr (.inl h))) (by simp)
theorem r_rule (hk : kk < 9) (hcl : cls es = rCs kk) {x : Ent} (hx : x.cl ∈ [rA, rI, xCl kk]) {i : Nat} (h2 : i ≠ 2) (hi : i < 2 ∨ 4 < kk) : RBg es (NBn es) i x = RBd (rCs kk) i x.cl := by
  rw [← hcl]
  rcases (by omega : i < 2 ∨ (1 < i ∧ 4 < kk)) with h | ⟨h, h4⟩
  · exact RBd_of01 h
  · exact RBd_of (by rw [hcl]; exact r_chains kk hk h4 x.cl hx) h2 h
theorem rIx_two : ∀ k, k < 9 → 2 < rIx k → 4 < k := by decide
theorem rIx_ne : ∀ k, k < 8 → k ≠ 4 → rIx k ≠ 2 ∧ (rIx k < 2 ∨ 4 < k) := by decide
theorem r_upto (hk : kk < 9) (hcl : cls es = rCs kk) {i : Nat} (hi : i < rIx kk) {x : Ent} (hx : x ∈ es.drop 8) : RBg es (NBn es) i x = true := by
  have hm := drop_cl (tl := [rA, rI, xCl kk]) hcl hx
  by_cases h2 : i = 2
  · subst h2
    have h4 := rIx_two kk hk hi
    unfold RBg
    rw [if_neg (by omega), if_neg (by omega), if_pos rfl, hcl]
    simp only [decide_eq_true_eq]
    exact no_reach_of (fun _ => true) rkR (fun c hc _ t ht hne => ⟨rfl, r_rank kk hk h4 c hc t ht hne⟩) rfl
  · rw [r_rule hk hcl hm h2 (by
      rcases (by omega : i < 2 ∨ 2 < i) with h | h
      · exact .inl h
      · exact .inr (rIx_two kk hk (by omega)))]
    exact r_before kk hk i hi h2 x.cl hm
theorem r_here (hk : kk < 8) (hcl : cls es = rCs kk) {x : Ent} (hx : x ∈ es.drop 8) : (x.cl = xCl kk ∧ RBg es (NBn es) (rIx kk) x = false) ∨ RBg es (NBn es) (rIx kk) x = true := by
  have hm := drop_cl (tl := [rA, rI, xCl kk]) hcl hx
  by_cases h4 : kk = 4
  · subst h4
    have hi : rIx 4 = 2 := rfl
    rw [hi]
    unfold RBg
    rw [if_neg (by omega), if_neg (by omega), if_pos rfl, hcl]
    simp only [List.mem_cons, List.not_mem_nil, or_false] at hm
    have hfree : ∀ {s : Bs}, (!(s == [88])) = true → ¬ Reach (rCs 4) s s := fun {s} hs => no_reach_of (fun s => !(s == [88])) rkR (fun c hc hp t ht hne => r_rank4 c hc hp t ht hne) hs
    rcases hm with h | h | h
    · right; rw [h]; simp only [decide_eq_true_eq]; exact hfree (s := [65]) (by decide)
    · right; rw [h]; simp only [decide_eq_true_eq]; exact hfree (s := [73]) (by decide)
    · left
      refine ⟨h, ?_⟩
      rw [h]
      simp only [decide_eq_false_iff_not, Classical.not_not]
      exact .one ⟨xCl 4, by decide, List.mem_cons_self .., by decide⟩
  · obtain ⟨n1, n2⟩ := rIx_ne kk hk h4
    rw [r_rule (by omega) hcl hm n1 n2]
    obtain ⟨a1, a2, a3⟩ := r_at kk hk h4
    simp only [List.mem_cons, List.not_mem_nil, or_false] at hm
    rcases hm with h | h | h
    · right; rw [h]; exact a1
    · right; rw [h]; exact a2
    · left; rw [h]; exact ⟨rfl, a3⟩
theorem xCl_name : ∀ k, (xCl k).name = [88] := fun k => by
  match k with
  | 0 => rfl | 1 => rfl | 2 => rfl | 3 => rfl | 4 => rfl | 5 => rfl | 6 => rfl | 7 => rfl | _ + 8 => rfl
theorem rWant_of : ∀ k, k < 8 → ruleErrs.getD (rIx k) 0 = rWant k ∧ rIx k < 7 := by decide
theorem r_broken (hk : kk < 8) (hcl : cls es = rCs kk) {i j : Nat} {x : Ent} (h : Broken (es.drop 8) (RBg es (NBn es)) i j) (hx : (es.drop 8)[j]? = some x) : x.cl.name = [88] ∧ ruleErrs.getD i 0 = rWant kk := by
  obtain ⟨hi, h1, h2, y, hy, hr⟩ := h
  rw [hx] at hy; cases hy
  have hxm := List.mem_of_getElem? hx
  have hge : ¬ i < rIx kk := fun hlt => by rw [r_upto (by omega) hcl hlt hxm] at hr; cases hr
  have hle : ¬ rIx kk < i := fun hlt => by
    have hX : xCl kk ∈ (es.drop 8).map (·.cl) := by rw [(r_wg (by omega) hcl).tail]; simp
    obtain ⟨z, hz, hzc⟩ := List.mem_map.1 hX
    have hbad : RBg es (NBn es) (rIx kk) z = false := by
      rcases r_here hk hcl hz with h | h
      · exact h.2
      · exfalso
        by_cases h4 : kk = 4
        · subst h4
          have hi : rIx 4 = 2 := rfl
          rw [hi] at h
          unfold RBg at h
          rw [if_neg (by omega), if_neg (by omega), if_pos rfl, hcl, hzc] at h
          simp only [decide_eq_true_eq] at h
          exact h (.one ⟨xCl 4, by decide, List.mem_cons_self .., by decide⟩)
        · obtain ⟨n1, n2⟩ := rIx_ne kk hk h4
          rw [r_rule (by omega) hcl (by rw [hzc]; simp) n1 n2, hzc, (r_at kk hk h4).2.2] at h
          cases h
    rw [h1 _ hlt z hz] at hbad
    cases hbad
  have hie : i = rIx kk := by omega
  subst hie
  rcases r_here hk hcl hxm with h | h
  · exact ⟨by rw [h.1]; exact xCl_name kk, (rWant_of kk hk).1⟩
  · rw [h] at hr; cases hr
/-- Not all rules hold. -/
theorem r_not_all (hk : kk < 8) (hcl : cls es = rCs kk) (h : ∀ i, i < 7 → ∀ x ∈ es.drop 8, RBg es (NBn es) i x = true) : False := by
  have hX : xCl kk ∈ (es.drop 8).map (·.cl) := by rw [(r_wg (by omega) hcl).tail]; simp
  obtain ⟨z, hz, hzc⟩ := List.mem_map.1 hX
  have hz2 := h _ (rWant_of kk hk).2 z hz
  by_cases h4 : kk = 4
  · subst h4
    have hi : rIx 4 = 2 := rfl
    rw [hi] at hz2
    unfold RBg at hz2
    rw [if_neg (by omega), if_neg (by omega), if_pos rfl, hcl, hzc] at hz2
    simp only [decide_eq_true_eq] at hz2
    exact hz2 (.one ⟨xCl 4, by decide, List.mem_cons_self .., by decide⟩)
  · obtain ⟨n1, n2⟩ := rIx_ne kk hk h4
    rw [r_rule (by omega) hcl (by rw [hzc]; simp) n1 n2, hzc, (r_at kk hk h4).2.2] at hz2
    cases hz2
/-- The last kind is right. -/
theorem r_right (hcl : cls es = rCs 8) : ∀ i, i < 7 → ∀ x ∈ es.drop 8, RBg es (NBn es) i x = true := fun i hi x hx => r_upto (by omega) hcl (by show i < 7; exact hi) hx
/-- Mended, a world is right. -/
theorem m_wg (hk : kk < 9) (hcl : cls es = rCs2 kk) : WG es [rA, rI, xCl kk, nCl'] := wg_of hcl (by rw [hcl]; exact r_ok kk hk) (by simp)
theorem m_right (hk : kk < 9) (h05 : kk = 0 ∨ kk = 5) (hcl : cls es = rCs2 kk) : ∀ i, i < 7 → ∀ x ∈ es.drop 8, RBg es (NBn es) i x = true := fun i hi x hx => by
  have hm := drop_cl (tl := [rA, rI, xCl kk, nCl']) hcl hx
  by_cases h2 : i = 2
  · subst h2
    unfold RBg
    rw [if_neg (by omega), if_neg (by omega), if_pos rfl, hcl]
    simp only [decide_eq_true_eq]
    exact no_reach_of (fun _ => true) rkR (fun c hc _ t ht hne => ⟨rfl, m_rank kk hk h05 c hc t ht hne⟩) rfl
  · have : RBg es (NBn es) i x = RBd (rCs2 kk) i x.cl := by
      rw [← hcl]
      rcases (by omega : i < 2 ∨ 1 < i) with h | h
      · exact RBd_of01 h
      · exact RBd_of (by rw [hcl]; exact m_chains kk hk h05 x.cl hm) h2 h
    rw [this]
    exact m_all kk hk h05 i hi h2 x.cl hm
end

end Go.Proofs.YtgmmclcpfmnoiaaGreatDoor
