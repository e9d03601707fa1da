/-
  The worlds of no modules, by the program and by the document: made and linked.
-/
import Derived.Test.YtgmmclcpfmnoiaaGreatDoorLinkG
import Derived.Test.YtgmmclcpfmnoiaaGreatDoorRefLink
import Derived.Test.YtgmmclcpfmnoiaaGreatDoorKnownSpec
import Derived.Test.YtgmmclcpfmnoiaaGreatDoorAsks
namespace Go.Proofs.YtgmmclcpfmnoiaaGreatDoor
open Go.RowKit

/-- What belongs to the class in a block. -/
def atOf (es : List Ent) (f : Bs → List Bs) (a : Nat) : List Bs := match es.find? (fun x => x.at_ == a) with | some x => f x.cl.name | none => []
theorem atOf_of {es : List Ent} (f : Bs → List Bs) (h : (es.map fun x => x.at_).Nodup) {x : Ent} (hx : x ∈ es) : atOf es f x.at_ = f x.cl.name := by
  have key : ∀ l : List Ent, (l.map fun x => x.at_).Nodup → x ∈ l → l.find? (fun y => y.at_ == x.at_) = some x := by
    intro l hl hx
    induction l with
    | nil => cases hx
    | cons a r ih =>
      rw [List.map_cons, List.nodup_cons] at hl
      rw [List.find?_cons]
      rcases List.mem_cons.1 hx with rfl | hr
      · simp
      · have hne : (a.at_ == x.at_) = false := by
          rw [beq_eq_false_iff_ne]
          intro e
          exact hl.1 (by rw [e]; exact List.mem_map_of_mem hr)
        rw [hne]
        exact ih hl.2 hr
  unfold atOf
  rw [key es h hx]

theorem firsts_fnd : ∀ c ∈ firsts, fnd firsts c.name = some c := by decide
theorem firsts_len : firsts.length = 8 := by decide
theorem walks_bare {cs : List Cl} (h : ∀ s c, fnd cs s = some c → c.faces = []) : ∀ (l : List Bs), (∀ s ∈ l, ∃ c, fnd cs s = some c) → Walks cs [] l [] := by
  intro l
  induction l with
  | nil => intro _; exact .nil
  | cons s l ih =>
    intro hl
    obtain ⟨c, hc⟩ := hl s (List.mem_cons_self ..)
    exact .cons hc (by rw [h s c hc]; exact .nil) (ih (fun t ht => hl t (List.mem_cons_of_mem _ ht)))
theorem firsts_name : ∀ c ∈ firsts, ∃ i, i < 8 ∧ c.name = firstNames[i]?.getD [] := by decide

section
variable {S O : Blocks} {w : World} {b mb : Nat} {nv : Value} {es : List Ent}
theorem base_chain {s : Bs} (h : ∃ c ∈ firsts, c.name = s) : IsChain firsts s (chainOf firsts s) ∧ (chainOf firsts s).length ≤ 3 ∧ Walks firsts [] (chainOf firsts s) [] := by
  obtain ⟨c, hc, rfl⟩ := h
  obtain ⟨i, hi, hn⟩ := firsts_name c hc
  obtain ⟨l, h1, h2, h3⟩ := first_chain (cs := firsts) i hi firsts_fnd
  rw [← hn] at h1
  rw [h1.of]
  exact ⟨h1, h2, walks_bare (fun s c h => firsts_faces c (fnd_mem h).1) l (fun s hs => by obtain ⟨c, -, h⟩ := h3 s hs; exact ⟨c, h⟩)⟩
/-- What is behind Link at a world of the first classes alone. -/
theorem link_base (h : HW S O w b mb nv es false) (hcl : cls es = firsts) :
    Calls Tryz.prog 11 #[.pointer (some ⟨b, 0, none⟩)] w fun e w' => e = .returned (.tuple #[strV [], .int .i64 0]) ∧ Chg O w w' ∧ ∃ S' es', HW S' O w' b mb nv es' true ∧ cls es' = firsts ∧ ∀ n, S' n → S n ∨ w.heap.size ≤ n := by
  have hlen : es.length = 8 := by
    have := congrArg List.length hcl
    rw [firsts_len] at this
    simpa [cls] using this
  have hd : es.drop 8 = [] := List.drop_of_length_le (by omega)
  refine (link_c h (by omega) (by omega) (fun _ _ => true) (fun i hi _ x hx => by rw [hd] at hx; cases hx) (atOf es (chainOf firsts)) (atOf es (fun _ => [])) (fun x hx => ?_) (fun _ x hx => ?_)).mono fun e w' hl => ?_
  · have : x.cl ∈ firsts := by rw [← hcl]; exact List.mem_map_of_mem hx
    rw [firsts_faces _ this]; simp
  · rw [atOf_of _ h.nodup hx, atOf_of _ h.nodup hx, hcl]
    obtain ⟨h1, h2, h3⟩ := base_chain ⟨x.cl, by rw [← hcl]; exact List.mem_map_of_mem hx, rfl⟩
    exact ⟨h1, by omega, h3, by simp⟩
  · rcases hl with ⟨i, j, x, h1, h2, h3, h4⟩ | ⟨-, h2, h3, S', h4, h5⟩
    · rw [hd] at h2; simp at h2
    · refine ⟨h2, h3, S', _, h4, ?_, h5⟩
      rw [← hcl]
      unfold cls
      rw [List.map_map]
      rfl
end

/-- The two worlds, side by side. -/
structure Both (w w' : World) (S O : Blocks) (b mb : Nat) (nv : Value) (es : List Ent) (S2 O2 : Blocks) (b2 : Nat) (cv pv : Value) (cs : List Cl) (ps : List (List En)) (lk : Bool) : Prop where
  hw : HW S O w' b mb nv es lk
  rw_ : RW S2 O2 w' b2 cv pv cs ps lk
  ap : ∀ k, (S k ∨ O k) → ¬ (S2 k ∨ O2 k)
  new1 : ∀ k, (S k ∨ O k) → w.heap.size ≤ k
  new2 : ∀ k, (S2 k ∨ O2 k) → w.heap.size ≤ k
  chg : Chg No w w'
theorem Both.new {w w' w2 : World} {S O : Blocks} {b mb : Nat} {nv : Value} {es : List Ent} {S2 O2 : Blocks} {b2 : Nat} {cv pv : Value} {cs : List Cl} {ps : List (List En)} {lk : Bool} (h : Both w w' S O b mb nv es S2 O2 b2 cv pv cs ps lk) (d : Chg No w' w2) : Both w w2 S O b mb nv es S2 O2 b2 cv pv cs ps lk :=
  ⟨h.hw.new d, h.rw_.new d, h.ap, h.new1, h.new2, h.chg.then d⟩
set_option maxRecDepth 100000 in
set_option maxHeartbeats 6400000 in
theorem built_nil (w : World) : Calls Tryz.prog 52 #[.slice none 0 0] w fun e w' => ∃ S O b mb nv es S2 O2 b2 cv pv, e = .returned (.tuple #[.pointer (some ⟨b, 0, none⟩), .pointer (some ⟨b2, 0, none⟩), .bool true]) ∧
    Both w w' S O b mb nv es S2 O2 b2 cv pv firsts (List.replicate 8 []) true ∧ cls es = firsts := by
  go_enter Tryz.func52, Tryz.ntmps52
  go_wp2_with fail
  refine (new_c _).mono ?_
  rintro e w1 ⟨S, O, nv, es, rfl, h1⟩
  have H1 := Lib.hid h1; clear h1
  go_wp2_with fail
  refine (refNew_c _).mono ?_
  rintro e w2 ⟨S2, O2, cv, pv, rfl, h2⟩
  have H2 := Lib.hid h2; clear h2
  go_wp2
  refine wp_loop_rounds 1 ?_
  rw [rounds_succ]
  go_wp2_with fail
  refine (link_base (H1.out.hw.new H2.out.chg) (by rw [H1.out.cl]; exact firsts_all)).mono ?_
  rintro e w3 ⟨rfl, d3, S', es', h3, h4, h5⟩
  have H3 := Lib.hid (And.intro h3 (And.intro h4 (And.intro h5 d3))); clear h3 h4 h5 d3
  have r3 : RW S2 O2 w3 w1.heap.size cv pv (firsts.take 8) (List.replicate 8 []) false := H2.out.rw_.keep H3.out.2.2.2 (fun k hk ho => by
    have a1 := H2.out.newS k hk; have a2 := H1.out.hw.o_lt k ho; omega) (fun k hk ho => by
    have a1 := (H2.out.newO k hk).2; have a2 := H1.out.hw.o_lt k ho; omega)
  rw [firsts_all] at r3
  have R3 := Lib.hid r3; clear r3
  go_wp2_with fail
  refine (refLink_c R3.out (by decide) (by decide) (fun _ _ => 0) (fun r i _ _ h8 hlt => by rw [firsts_len] at hlt; omega)).mono ?_
  rintro e w4 hl
  obtain ⟨-, rfl, d4, h4⟩ : (∀ r i : Nat, 1 ≤ r → r ≤ 7 → 8 ≤ i → i < firsts.length → (0 : Int) = 0) ∧ e = .returned (.tuple #[strV [], .int .i64 0]) ∧ Chg O2 w3 w4 ∧ RW S2 O2 w4 w1.heap.size cv pv firsts (List.replicate 8 []) true := by
    rcases hl with ⟨r, i, c, hb, -⟩ | hl
    · exact absurd rfl hb.bad
    · exact hl
  have hO2 : ∀ k, O2 k → w1.heap.size ≤ k := fun k hk => (H2.out.newO k hk).2
  have hS' : ∀ k, S' k → w.heap.size ≤ k ∧ (k < w1.heap.size ∨ w2.heap.size ≤ k) := fun k hk => by
    rcases H3.out.2.2.1 k hk with h | h
    · exact ⟨H1.out.newS k h, .inl (H1.out.hw.s_lt k h)⟩
    · have z1 := H1.out.chg.size; have z2 := H2.out.chg.size; exact ⟨by omega, .inr h⟩
  have h4w : HW S' O w4 (w.heap.size + 1) w.heap.size nv es' true := H3.out.1.keep d4 (fun k hk ho => by
    have a1 := hO2 k ho; have a2 := H2.out.rw_.o_lt k ho; rcases (hS' k hk).2 with h | h <;> omega) (fun k hk ho => by
    have a1 := hO2 k ho; have a2 := H1.out.hw.o_lt k hk; omega)
  have dd : Chg No w w4 := by
    have d1 := H1.out.chg.trans H2.out.chg (fun _ _ h => h)
    have d2 := d1.trans H3.out.2.2.2 (fun k hk ho => by have := H1.out.newO k ho; omega)
    exact d2.trans d4 (fun k hk ho => by have := hO2 k ho; have := H1.out.chg.size; omega)
  have HB : RowKit.Hid (Both w w4 S' O (w.heap.size + 1) w.heap.size nv es' S2 O2 w1.heap.size cv pv firsts (List.replicate 8 []) true ∧ cls es' = firsts) := Lib.hid ⟨⟨h4w, h4, fun k h1 h2 => by
      have b1 : w1.heap.size ≤ k := by
        rcases h2 with h2 | h2
        · exact H2.out.newS k h2
        · exact hO2 k h2
      have b2 : k < w2.heap.size := by
        rcases h2 with h2 | h2
        · exact H2.out.rw_.s_lt k h2
        · exact H2.out.rw_.o_lt k h2
      rcases h1 with h1 | h1
      · rcases (hS' k h1).2 with h | h <;> omega
      · have := H1.out.hw.o_lt k h1; omega, fun k hk => by
      rcases hk with hk | hk
      · exact (hS' k hk).1
      · exact H1.out.newO k hk, fun k hk => by
      have z1 := H1.out.chg.size
      rcases hk with hk | hk
      · have := H2.out.newS k hk; omega
      · have := hO2 k hk; omega, dd⟩, H3.out.2.1⟩
  have k2 := h4.c2
  have l2 := h4w.c2
  have hbl2 := h4.o_lt _ h4.own_b
  clear hO2 hS' dd h4 d4 hl
  have HL := Lib.hid (fun n => linked_c (h4w.new ((Chg.refl No w4).drewN n)))
  clear h4w
  go_wp2_with fail
  go_quiet (first | (go_at_call 13; exact Calls.quiet_of_same (HL.out _)))
  go_wp2
  all_goals go_ret3
  all_goals exact ⟨S', O, _, _, _, es', S2, O2, _, _, _, rfl, HB.out.1.new ((Chg.refl _ _).drewN _), HB.out.2⟩
end Go.Proofs.YtgmmclcpfmnoiaaGreatDoor
