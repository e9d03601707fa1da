/-
  What the switch of HierRules leaves at the class X.
-/
import Derived.Test.YtgmmclcpfmnoiaaGreatDoorRulC
namespace Go.Proofs.YtgmmclcpfmnoiaaGreatDoor
open Go.RowKit

abbrev xCc (k : Nat) (fv dv mv : Value) : List Value := [.int .i64 0, strV [88], strV (xCl k).super, fv, dv, mv]
def XR (k : Nat) (W9 : World) (n : Nat) (wy : World) (fv dv mv : Value) : Prop :=
  Chg (· = n + 9) W9 wy ∧ wy.heap[n + 9]? = some (.cells (xCc k fv dv mv).toArray 37 (0, 0)) ∧ RCl (fun j => n ≤ j ∧ j < wy.heap.size ∧ j ≠ n + 9) wy (xCl k) (xCc k fv dv mv)
section
variable {W9 : World} {n : Nat}
theorem size_setC (w : World) (p : Addr) (v : Value) : (w.setCell p v).heap.size = w.heap.size := by simp [World.setCell]
theorem xr_super {k : Nat} (hk : k = 0 ∨ k = 2 ∨ k = 4) (hX : W9.heap[n + 9]? = some (.cells xC0.toArray 37 (0, 0))) :
    XR k W9 n (W9.setCell ⟨n + 9, 2, none⟩ (strV (xCl k).super)) zNil zNil zNil := by
  refine ⟨chg_setCell _ _ _ _, setCell_at (o := 2) hX _, ?_⟩
  rcases hk with rfl | rfl | rfl
  · exact ⟨zNil, zNil, zNil, rfl, SQ.nil, SQ.nil, SQ.nil⟩
  · exact ⟨zNil, zNil, zNil, rfl, SQ.nil, SQ.nil, SQ.nil⟩
  · exact ⟨zNil, zNil, zNil, rfl, SQ.nil, SQ.nil, SQ.nil⟩
/-- A row of one element, just laid. -/
theorem one_new {α : Type} {m : Nat} {R : Reading α} {S : Blocks} (w : World) {g T : Nat} (hg : g = w.heap.size) (x : α) (cs : List Value) (hl : cs.length = m) (hR : R S (w.alloc (.cells cs.toArray T)) x cs) (hS : S g) : SQ m R S (w.alloc (.cells cs.toArray T)) (.slice (some ⟨g, 0, none⟩) 1 1) [x] := by
  refine sq_lit (T := T) [x] [cs] ?_ (Els.single hR hl) hS
  rw [show [cs].flatten = cs from by simp]
  exact alloc_at _ _ hg
theorem xr_face {k : Nat} {s : Bs} (hk : xCl k = ⟨0, [88], [65], [s], [], []⟩) (hs : W9.heap.size = n + 10) (hX : W9.heap[n + 9]? = some (.cells xC0.toArray 37 (0, 0))) :
    XR k W9 n ((W9.setCell ⟨n + 9, 3, none⟩ (.slice (some ⟨n + 10, 0, none⟩) 1 1)).alloc (.cells #[strV s] 9)) (.slice (some ⟨n + 10, 0, none⟩) 1 1) zNil zNil := by
  have hz : (W9.setCell ⟨n + 9, 3, none⟩ (.slice (some ⟨n + 10, 0, none⟩) 1 1)).heap.size = n + 10 := (size_setC _ _ _).trans hs
  unfold XR xCc
  rw [hk]
  refine ⟨(chg_setCell _ _ _ _).alloc _, alloc_blk (setCell_at (o := 3) hX _), ⟨_, _, _, rfl, ?_, SQ.nil, SQ.nil⟩⟩
  exact one_new _ hz.symm s [strV s] rfl rfl ⟨by omega, by rw [size_al1]; omega, by omega⟩
theorem xr_seven (hs : W9.heap.size = n + 10) (hX : W9.heap[n + 9]? = some (.cells xC0.toArray 37 (0, 0))) :
    XR 7 W9 n (((W9.setCell ⟨n + 9, 2, none⟩ (strV objectName)).setCell ⟨n + 9, 3, none⟩ (.slice (some ⟨n + 10, 0, none⟩) 1 1)).alloc (.cells #[strV [73]] 9)) (.slice (some ⟨n + 10, 0, none⟩) 1 1) zNil zNil := by
  have hz : ((W9.setCell ⟨n + 9, 2, none⟩ (strV objectName)).setCell ⟨n + 9, 3, none⟩ (.slice (some ⟨n + 10, 0, none⟩) 1 1)).heap.size = n + 10 := (size_setC _ _ _).trans ((size_setC _ _ _).trans hs)
  refine ⟨((chg_setCell _ _ _ _).trans (chg_setCell _ _ _ _) (fun _ _ h => h)).alloc _, alloc_blk (setCell_at (o := 3) (setCell_at (o := 2) hX _) _), ⟨_, _, _, rfl, ?_, SQ.nil, SQ.nil⟩⟩
  exact one_new _ hz.symm ([73] : Bs) [strV [73]] rfl rfl ⟨by omega, by rw [size_al1]; omega, by omega⟩
theorem xr_field (hs : W9.heap.size = n + 10) (hX : W9.heap[n + 9]? = some (.cells xC0.toArray 37 (0, 0))) :
    XR 5 W9 n ((W9.setCell ⟨n + 9, 4, none⟩ (.slice (some ⟨n + 10, 0, none⟩) 1 1)).alloc (.cells #[.int .i64 0, strV [113], .int .i64 0, strV noneN] 41)) zNil (.slice (some ⟨n + 10, 0, none⟩) 1 1) zNil := by
  have hz : (W9.setCell ⟨n + 9, 4, none⟩ (.slice (some ⟨n + 10, 0, none⟩) 1 1)).heap.size = n + 10 := (size_setC _ _ _).trans hs
  refine ⟨(chg_setCell _ _ _ _).alloc _, alloc_blk (setCell_at (o := 4) hX _), ⟨_, _, _, rfl, SQ.nil, ?_, SQ.nil⟩⟩
  exact one_new _ hz.symm (⟨0, [113], ⟨0, noneN⟩⟩ : Fd) [.int .i64 0, strV [113], .int .i64 0, strV noneN] rfl rfl ⟨by omega, by rw [size_al1]; omega, by omega⟩
theorem xr_meth (hs : W9.heap.size = n + 10) (hX : W9.heap[n + 9]? = some (.cells xC0.toArray 37 (0, 0))) (h3 : W9.heap[n + 3]? = some (.cells #[.int .u8 42] 5 (0, 0))) :
    XR 6 W9 n ((W9.setCell ⟨n + 9, 5, none⟩ (.slice (some ⟨n + 10, 0, none⟩) 1 1)).alloc (.cells (sMc (n + 3)).toArray 32)) zNil zNil (.slice (some ⟨n + 10, 0, none⟩) 1 1) := by
  have hz : (W9.setCell ⟨n + 9, 5, none⟩ (.slice (some ⟨n + 10, 0, none⟩) 1 1)).heap.size = n + 10 := (size_setC _ _ _).trans hs
  have hc := (chg_setCell W9 (n + 9) 5 (.slice (some ⟨n + 10, 0, none⟩) 1 1)).alloc (.cells (sMc (n + 3)).toArray 32)
  refine ⟨hc, alloc_blk (setCell_at (o := 5) hX _), ⟨_, _, _, rfl, SQ.nil, SQ.nil, ?_⟩⟩
  exact one_new _ hz.symm sM (sMc (n + 3)) rfl (sM_read (byte42 ((hc.block _ (by omega) (by omega)).trans h3) ⟨by omega, by rw [size_al1]; omega, by omega⟩)) ⟨by omega, by rw [size_al1]; omega, by omega⟩
end

/-- The same, made since an earlier world. -/
structure LB (w0 : World) (S O : Blocks) (w : World) (b mb : Nat) (nv : Value) (es : List Ent) (lk : Bool) (tl : List Cl) : Prop where
  lw : LW S O w b mb nv es lk tl
  chg : Chg No w0 w
  newO : ∀ q, O q → w0.heap.size ≤ q
section
variable {w0 w : World} {S O : Blocks} {b mb : Nat} {nv : Value} {es : List Ent} {lk : Bool} {tl : List Cl}
theorem LB.new {w1 : World} (h : LB w0 S O w b mb nv es lk tl) (d : Chg No w w1) : LB w0 S O w1 b mb nv es lk tl := ⟨h.lw.new d, h.chg.trans d (fun _ _ h => h), h.newO⟩
theorem LB.of_new (h : NewI w0 8 w S O nv es) : LB w0 S O w (w0.heap.size + 1) w0.heap.size nv es false [] := ⟨LW.of_new h, h.chg, h.newO⟩
theorem LB.next {w1 : World} (h : LB w0 S O w b mb nv es lk tl) (d : Chg O w w1) : Chg No w0 w1 := h.chg.trans d (fun q hq h' => absurd hq (Nat.not_lt.2 (h.newO q h')))
theorem lb_add (h : LB w0 S O w b mb nv es false tl) (M : Blocks) (cs : List Cl) (cv : Value) (hm : SQ 6 RCl M w cv cs) (hM : ∀ k, M k → k < w.heap.size) (hret : ∀ c ∈ cs, ∀ x ∈ c.methods, x.flags ≠ 2 → RetM x) (hok : ∀ c ∈ cs, okClB c = true) (herr : (moduleE ⟨[], cs⟩).err = 0) (hn : (cs.map (·.name)).Nodup) (hnew : ∀ c ∈ cs, ∀ d ∈ firsts ++ tl, d.name ≠ c.name) (hl : tl.length + cs.length ≤ 64) :
    Calls Tryz.prog 10 #[.pointer (some ⟨b, 0, none⟩), .agg #[zNil, cv]] w fun e w' => e = .returned (.int .i64 0) ∧ ∃ S' O' nv' es', LB w0 S' O' w' b mb nv' es' false (tl ++ cs) := by
  refine (lw_add h.lw M cs cv hm hM hret hok herr hn hnew hl).mono ?_
  rintro e w' ⟨rfl, d, S', O', nv', es', h1, h2⟩
  refine ⟨rfl, S', O', nv', es', h1, h.next d, fun q hq => ?_⟩
  by_cases hlt : q < w.heap.size
  · exact h.newO q (h2 q hlt hq)
  · have := h.chg.size; omega
/-- What Link of such a world tells. -/
def LinkedB (w0 : World) (S O : Blocks) (_w : World) (b mb : Nat) (nv : Value) (es : List Ent) (tl : List Cl) (e : Ending) (w' : World) : Prop :=
  (∃ i j x, Broken (es.drop 8) (RBg es (NBn es)) i j ∧ (es.drop 8)[j]? = some x ∧ e = .returned (.tuple #[strV x.cl.name, .int .i64 (ruleErrs.getD i 0)]) ∧ LB w0 S O w' b mb nv es false tl) ∨
  ((∀ i, i < 7 → ∀ x ∈ es.drop 8, RBg es (NBn es) i x = true) ∧ e = .returned (.tuple #[strV [], .int .i64 0]) ∧ ∃ S', LB w0 S' O w' b mb nv (es.map (linkE es)) true tl)
theorem lb_link (h : LB w0 S O w b mb nv es false tl) (g : WG es tl) (hok : ∀ c ∈ firsts ++ tl, okClB c = true) :
    Calls Tryz.prog 11 #[.pointer (some ⟨b, 0, none⟩)] w (LinkedB w0 S O w b mb nv es tl) := by
  refine (lw_link h.lw g hok).mono ?_
  rintro e w' (⟨i, j, x, h1, h2, h3, h4⟩ | ⟨h1, h2, h3, S', h4, -⟩)
  · exact .inl ⟨i, j, x, h1, h2, h3, h.new h4⟩
  · refine .inr ⟨h1, h2, S', ⟨h4, by rw [cls_link]; exact h.lw.cl, fun x hx => ?_⟩, h.next h3, h.newO⟩
    obtain ⟨y, hy, rfl⟩ := List.mem_map.1 hx
    exact h.lw.pool y hy
theorem retM_s : RetM sM := ⟨.inr (.inr ⟨rfl, rfl⟩), rfl, rfl, rfl, rfl⟩
theorem x_ret (k : Nat) : ∀ x ∈ (xCl k).methods, x.flags ≠ 2 → RetM x := fun x hx _ => by
  have : x = sM := by
    match k, hx with
    | 0, hx => cases hx
    | 1, hx => cases hx
    | 2, hx => cases hx
    | 3, hx => cases hx
    | 4, hx => cases hx
    | 5, hx => cases hx
    | 6, hx => simpa [xCl] using hx
    | 7, hx => cases hx
    | _ + 8, hx => cases hx
  rw [this]; exact retM_s
theorem good_ret : ∀ c ∈ rGood, ∀ x ∈ c.methods, x.flags ≠ 2 → RetM x := fun c hc x hx hf => by
  simp only [List.mem_cons, List.not_mem_nil, or_false] at hc
  rcases hc with rfl | rfl
  · have : x = mM := by simpa [rA] using hx
    rw [this]; exact retM_m
  · have : x = aM := by simpa [rI] using hx
    rw [this] at hf; exact absurd rfl hf
theorem good_new : ∀ c ∈ rGood, ∀ d ∈ firsts ++ [], d.name ≠ c.name := by decide
theorem x_new : ∀ k, k < 9 → ∀ c ∈ [xCl k], ∀ d ∈ firsts ++ rGood, d.name ≠ c.name := by decide
theorem n_newN : ∀ k, k < 9 → ∀ c ∈ [nCl'], ∀ d ∈ firsts ++ (rGood ++ [xCl k]), d.name ≠ c.name := by decide
theorem x_okc : ∀ k, k < 9 → ∀ c ∈ [xCl k], okClB c = true := by decide
theorem all_okc : ∀ k, k < 9 → ∀ c ∈ firsts ++ (rGood ++ [xCl k]), okClB c = true := by decide
theorem all_okn : ∀ k, k < 9 → ∀ c ∈ firsts ++ (rGood ++ [xCl k] ++ [nCl']), okClB c = true := by decide
theorem rWant_ne : ∀ k, k < 8 → rWant k ≠ 0 := by decide
end

end Go.Proofs.YtgmmclcpfmnoiaaGreatDoor
