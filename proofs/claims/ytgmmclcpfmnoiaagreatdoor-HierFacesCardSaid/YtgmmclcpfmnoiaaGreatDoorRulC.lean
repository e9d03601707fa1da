/-
  A world of literal classes with empty pools: Add and Link, in short; Add on a linked world.
-/
import Derived.Test.YtgmmclcpfmnoiaaGreatDoorRulB
import Derived.Test.YtgmmclcpfmnoiaaGreatDoorNearC
namespace Go.Proofs.YtgmmclcpfmnoiaaGreatDoor
open Go.RowKit

/-- A world's state with the classes told behind the first eight. -/
structure LW (S O : Blocks) (w : World) (b mb : Nat) (nv : Value) (es : List Ent) (lk : Bool) (tl : List Cl) : Prop where
  hw : HW S O w b mb nv es lk
  cl : cls es = firsts ++ tl
  pool : ∀ x ∈ es, x.pool = []
section
variable {S O : Blocks} {w : World} {b mb : Nat} {nv : Value} {es : List Ent} {tl : List Cl}
theorem LW.new {lk : Bool} {w1 : World} (h : LW S O w b mb nv es lk tl) (d : Chg No w w1) : LW S O w1 b mb nv es lk tl := ⟨h.hw.new d, h.cl, h.pool⟩
theorem LW.of_new {w0 : World} (h : NewI w0 8 w S O nv es) : LW S O w (w0.heap.size + 1) w0.heap.size nv es false [] := ⟨h.hw, by rw [h.cl, firsts_all, List.append_nil], fun x hx => (h.bare x hx).1⟩
theorem firsts_len : firsts.length = 8 := rfl
theorem lw_add (h : LW S O w b mb nv es false tl) (M : Blocks) (cs : List Cl) (cv : Value) (hm : SQ 6 RCl M w cv cs) (hM : ∀ k, M k → k < w.heap.size) (hret : ∀ c ∈ cs, ∀ x ∈ c.methods, x.flags ≠ 2 → RetM x) (hok : ∀ c ∈ cs, okClB c = true) (herr : (moduleE ⟨[], cs⟩).err = 0) (hn : (cs.map (·.name)).Nodup) (hnew : ∀ c ∈ cs, ∀ d ∈ firsts ++ tl, d.name ≠ c.name) (hl : tl.length + cs.length ≤ 64) :
    Calls Tryz.prog 10 #[.pointer (some ⟨b, 0, none⟩), .agg #[zNil, cv]] w fun e w' => e = .returned (.int .i64 0) ∧ Chg O w w' ∧ ∃ S' O' nv' es', LW S' O' w' b mb nv' es' false (tl ++ cs) ∧ ∀ k, k < w.heap.size → O' k → O k := by
  have hlen : es.length = 8 + tl.length := by
    have := congrArg List.length h.cl
    rw [List.length_append, firsts_len] at this
    simpa [cls] using this
  refine (add_c S O M w b mb nv es h.hw ⟨[], cs⟩ zNil cv SQ.nil hm hM
    (fun W _ => (pool_empty W none 0).mono fun e w' ⟨he, hw⟩ => ⟨by rw [he]; rfl, by rw [hw]; exact Chg.refl _ _⟩)
    (fun c hc => bodyAns_ret (hret c hc))
    (fun c hc => (okClB_ok (hok c hc)).1) ⟨Nat.zero_le _, Nat.le_trans (by omega : cs.length ≤ 64) (by decide), fun c hc => (okClB_ok (hok c hc)).2.1⟩ herr hn
    (fun c hc => atf_new h.cl (hnew c hc)) (by show cs.length ≤ _; omega) (by omega) (by show es.length + cs.length ≤ _; omega)).mono ?_
  rintro e w' ⟨rfl, S2, O2, nv2, es2, hA⟩
  exact ⟨rfl, hA.chg, S2, O2, nv2, es2, ⟨hA.hw, by rw [hA.cl, h.cl, List.append_assoc], fun x hx => (hA.bare x hx).elim (fun h' => h.pool x h') (fun h' => h'.1)⟩, hA.oldO⟩
theorem lw_link (h : LW S O w b mb nv es false tl) (g : WG es tl) (hok : ∀ c ∈ firsts ++ tl, okClB c = true) :
    Calls Tryz.prog 11 #[.pointer (some ⟨b, 0, none⟩)] w (LinkedR S O w b mb nv es (NBn es)) :=
  link_g h.hw g (NBn es) (fun x hx W hW => named0_c (h.hw.new hW) g.wok x (List.mem_of_mem_drop hx) (wg_sz (by rw [h.cl]; exact hok) x (List.mem_of_mem_drop hx)) (h.pool x (List.mem_of_mem_drop hx)))
/-- Add on a linked world. -/
theorem add_linked_c (h : HW S O w b mb nv es true) (mv : Value) (cv : Value) :
    Calls Tryz.prog 10 #[.pointer (some ⟨b, 0, none⟩), .agg #[mv, cv]] w fun e w' => e = .returned (.int .i64 51) ∧ Chg No w w' := by
  have hbl := h.o_lt b h.own_b
  have hw1 := (h.new ((Chg.refl No w).alloc (.cells #[mv, cv] 47))).c2
  go_enter Tryz.func10, Tryz.ntmps10
  go_wp2_with fail
  go_ret
  exact ⟨rfl, (Chg.refl No w).alloc _⟩
end
theorem findX {es : List Ent} {tl : List Cl} (hcl : cls es = firsts ++ tl) {s : Bs} {c : Cl} (h : fnd (firsts ++ tl) s = some c) : ∃ y, es.find? (fun x => x.cl.name == s) = some y ∧ y ∈ es ∧ y.cl = c := by
  rw [← hcl, find_cls, Option.map_eq_some_iff] at h
  obtain ⟨y, h1, h2⟩ := h
  exact ⟨y, h1, List.mem_of_find?_eq_some h1, h2⟩
/-- What the last kind's Pick tells. -/
theorem r_pick {es : List Ent} (hcl : cls es = rCs 8) : ∃ x ∈ es.map (linkE es), x.cl.name = [88] ∧ x.chain.length ≤ 1000000 ∧ (∀ s ∈ x.chain, ∃ k, atf (es.map (linkE es)) s = some k) ∧ ∃ y, y.cl.name = [65] ∧ pickX (es.map (linkE es)) x mName vSig = some (y, 0) := by
  have hcl3 : cls (es.map (linkE es)) = rCs 8 := by rw [cls_link]; exact hcl
  obtain ⟨x, -, hx, hxc⟩ := findX hcl (s := [88]) (c := xCl 8) (by decide)
  have hch : chainOf (cls es) [88] = [[88], [65], objectName] := by
    rw [hcl]
    exact (chF_is (cs := rCs 8) (n := 40) (s := [88]) (by decide)).of
  have hchain : (linkE es x).chain = [[88], [65], objectName] := by
    show chainOf (cls es) x.cl.name = _
    rw [hxc]; exact hch
  obtain ⟨x', f1, m1, c1⟩ := findX hcl3 (s := [88]) (c := xCl 8) (by decide)
  obtain ⟨y', f2, m2, c2⟩ := findX hcl3 (s := [65]) (c := rA) (by decide)
  refine ⟨linkE es x, List.mem_map_of_mem hx, by show x.cl.name = _; rw [hxc]; rfl, by rw [hchain]; decide, ?_, y', by rw [c2]; rfl, ?_⟩
  · intro s hs
    rw [hchain] at hs
    simp only [List.mem_cons, List.not_mem_nil, or_false] at hs
    have : ∃ c, fnd (cls (es.map (linkE es))) s = some c := by
      rw [hcl3]
      rcases hs with rfl | rfl | rfl
      · exact ⟨xCl 8, by decide⟩
      · exact ⟨rA, by decide⟩
      · exact Option.isSome_iff_exists.1 (by decide)
    obtain ⟨c, hc⟩ := this
    obtain ⟨z, -, -, -, hz⟩ := fnd_some hc
    exact ⟨_, hz⟩
  · unfold pickX
    rw [hchain, show (isFaceB (linkE es x).cl || mName == initName) = false from by show (isFaceB x.cl || _) = _; rw [hxc]; rfl]
    have : nearX (es.map (linkE es)) mName vSig [[88], [65], objectName] = some (y', 0) := by
      unfold nearX
      rw [f1]
      simp only [c1]
      show nearX (es.map (linkE es)) mName vSig [[65], objectName] = _
      unfold nearX
      rw [f2]
      simp only [c2]
      rfl
    rw [this]
    simp only [c2]
    rfl

end Go.Proofs.YtgmmclcpfmnoiaaGreatDoor
