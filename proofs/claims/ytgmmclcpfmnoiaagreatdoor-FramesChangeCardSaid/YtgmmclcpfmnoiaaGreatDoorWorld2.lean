/-
  A world of classes: what is written into it.
-/
import Derived.Test.YtgmmclcpfmnoiaaGreatDoorWorld
namespace Go.Proofs.YtgmmclcpfmnoiaaGreatDoor
open Go.RowKit

theorem setCell_at {w : World} {r o : Nat} {c : Array Value} {T : Nat} (h : w.heap[r]? = some (.cells c T (0, 0))) (v : Value) :
    (w.setCell ⟨r, o, none⟩ v).heap[r]? = some (.cells (c.setIfInBounds o v) T (0, 0)) := by
  simp only [World.setCell, Array.getElem?_modify, if_true, h, Option.map_some]; rfl
theorem chg_setCell (w : World) (r o : Nat) (v : Value) : Chg (· = r) w (w.setCell ⟨r, o, none⟩ v) := Chg.setCell (S := (· = r)) (p := ⟨r, o, none⟩) (Chg.refl _ _) (fun _ => rfl) _
section
variable {S O T : Blocks} {w w' : World} {b mb : Nat} {nv : Value} {es : List Ent} {lk : Bool}
theorem OQ.block {α : Type} {e n : Nat} {R : Reading α} {v : Value} {xs : List α} (h : OQ e n R S w v xs) {k : Nat} (hk : v.ownBlock = some k) : ∃ cur, w.heap[k]? = some (.cells cur e (0, 0)) := by
  obtain ⟨css, ⟨_, h⟩, _⟩ := h
  rcases h with ⟨rfl, _⟩ | ⟨g, cap, cur, rfl, _, h2, _⟩
  · cases hk
  · cases hk; exact ⟨cur, h2⟩
theorem StrMap.block {P : Program} {k : TypeId} {n : Nat} {f : List UInt8 → Option Nat} (h : StrMap P k w b n f) : ∃ es c, w.heap[b]? = some (.map es c) := by
  obtain ⟨D, ⟨es, clock, h1, _⟩, _⟩ := h
  exact ⟨es, clock, h1⟩
theorem HW.ne_be (h : HW S O w b mb nv es lk) {x : Ent} (hx : x ∈ es) : x.at_ ≠ b := fun e => by
  obtain ⟨cs, h1, -⟩ := h.ents x hx
  rw [e, h.wc] at h1
  simp at h1
theorem HW.ne_me (h : HW S O w b mb nv es lk) {x : Ent} (hx : x ∈ es) : x.at_ ≠ mb := fun e => by
  obtain ⟨cs, h1, -⟩ := h.ents x hx
  obtain ⟨n, -, hm⟩ := h.map
  obtain ⟨ms, c, h2⟩ := hm.block
  rw [e, h2] at h1
  simp at h1
theorem HW.ne_bm (h : HW S O w b mb nv es lk) : b ≠ mb := fun e => by
  obtain ⟨n, -, hm⟩ := h.map
  obtain ⟨ms, c, h2⟩ := hm.block
  have := h.wc
  rw [e, h2] at this
  simp at this
theorem HW.ne_ne (h : HW S O w b mb nv es lk) {x : Ent} (hx : x ∈ es) : nv.ownBlock ≠ some x.at_ := fun e => by
  obtain ⟨cs, h1, -⟩ := h.ents x hx
  obtain ⟨cur, h2⟩ := h.names.block e
  rw [h2] at h1
  simp at h1
theorem HW.ne_nb (h : HW S O w b mb nv es lk) : nv.ownBlock ≠ some b := fun e => by
  obtain ⟨cur, h2⟩ := h.names.block e
  have := h.wc
  rw [h2] at this
  simp at this
theorem HW.ne_nm (h : HW S O w b mb nv es lk) : nv.ownBlock ≠ some mb := fun e => by
  obtain ⟨cur, h2⟩ := h.names.block e
  obtain ⟨n, -, hm⟩ := h.map
  obtain ⟨ms, c, h3⟩ := hm.block
  rw [h2] at h3
  simp at h3

/-- More blocks of data. -/
theorem HW.grow (h : HW S O w b mb nv es lk) (hST : ∀ k, S k → T k) (hlt : ∀ k, T k → k < w.heap.size) (ha : ∀ k, T k → ¬ O k) : HW T O w b mb nv es lk where
  wc := h.wc
  names := h.names
  map := h.map
  ents := fun x hx => let ⟨cs, h1, h2⟩ := h.ents x hx; ⟨cs, h1, h2.mono hST⟩
  nodup := h.nodup
  uniq := h.uniq
  own_b := h.own_b
  own_m := h.own_m
  own_n := h.own_n
  own_e := h.own_e
  apart := ha
  s_lt := hlt
  o_lt := h.o_lt
  short := h.short

/-- The mark that all fit together. -/
theorem HW.mark (h : HW S O w b mb nv es lk) (l : Bool) : HW S O (w.setCell ⟨b, 2, none⟩ (.bool l)) b mb nv es l := by
  have c : Chg (· = b) w (w.setCell ⟨b, 2, none⟩ (.bool l)) := chg_setCell w b 2 _
  have hS : ∀ k, S k → ¬ k = b := fun k hk e => h.apart k hk (by rw [e]; exact h.own_b)
  exact {
    wc := by rw [setCell_at h.wc]; rfl
    names := h.names.keep goodStr c (fun k hk e => h.ne_nb (by rw [hk, e])) (fun k hk => hk.elim)
    map := let ⟨n, hn, hm⟩ := h.map; ⟨n, hn, hm.at_block (c.block mb (h.o_lt mb h.own_m) (fun e => h.ne_bm e.symm))⟩
    ents := fun x hx => let ⟨cs, h1, h2⟩ := h.ents x hx; ⟨cs, (c.block x.at_ (h.o_lt _ (h.own_e x hx)) (h.ne_be hx)).trans h1, h2.keep c hS⟩
    nodup := h.nodup, uniq := h.uniq, own_b := h.own_b, own_m := h.own_m, own_n := h.own_n, own_e := h.own_e, apart := h.apart
    s_lt := fun k hk => Nat.lt_of_lt_of_le (h.s_lt k hk) c.size
    o_lt := fun k hk => Nat.lt_of_lt_of_le (h.o_lt k hk) c.size
    short := h.short }

/-- A class's chain and interfaces, laid in. -/
def putCF (k : Nat) (c f : List Bs) (x : Ent) : Ent := if x.at_ = k then { x with chain := c, faces := f } else x
theorem putCF_at (k : Nat) (c f : List Bs) (x : Ent) : (putCF k c f x).at_ = x.at_ := by unfold putCF; split <;> rfl
theorem putCF_cl (k : Nat) (c f : List Bs) (x : Ent) : (putCF k c f x).cl = x.cl := by unfold putCF; split <;> rfl
theorem putCF_cls (k : Nat) (c f : List Bs) (es : List Ent) : cls (es.map (putCF k c f)) = cls es := by
  unfold cls; rw [List.map_map]; exact List.map_congr_left fun x _ => putCF_cl k c f x
theorem atf_map {g : Ent → Ent} (h1 : ∀ x, (g x).at_ = x.at_) (h2 : ∀ x, (g x).cl = x.cl) (es : List Ent) : atf (es.map g) = atf es := by
  funext s
  unfold atf
  rw [List.find?_map, Option.map_map]
  have e1 : ((fun x : Ent => x.cl.name == s) ∘ g) = fun x : Ent => x.cl.name == s := by funext x; simp [h2]
  have e2 : ((fun x : Ent => x.at_) ∘ g) = fun x : Ent => x.at_ := by funext x; simp [h1]
  rw [e1, e2]
theorem HW.set (h : HW S O w b mb nv es lk) {x : Ent} (hx : x ∈ es) {cv fv : Value} {c f : List Bs} (hc : SQ 1 RStr S w cv c) (hf : SQ 1 RStr S w fv f) :
    HW S O ((w.setCell ⟨x.at_, 7, none⟩ cv).setCell ⟨x.at_, 8, none⟩ fv) b mb nv (es.map (putCF x.at_ c f)) lk := by
  have d : Chg (· = x.at_) w ((w.setCell ⟨x.at_, 7, none⟩ cv).setCell ⟨x.at_, 8, none⟩ fv) :=
    (chg_setCell w x.at_ 7 cv).trans (chg_setCell _ x.at_ 8 fv) (fun _ _ h => h)
  have hS : ∀ k, S k → ¬ k = x.at_ := fun k hk e => h.apart k hk (by rw [e]; exact h.own_e x hx)
  exact {
    wc := (d.block b (h.o_lt b h.own_b) (fun e => h.ne_be hx e.symm)).trans h.wc
    names := by
      have := h.names.keep goodStr d (fun k hk e => h.ne_ne hx (by rw [hk, e])) (fun k hk => hk.elim)
      rw [List.map_map]
      rwa [show ((fun x : Ent => x.cl.name) ∘ putCF x.at_ c f) = fun x : Ent => x.cl.name from by funext y; simp [putCF_cl]]
    map := by
      obtain ⟨n, hn, hm⟩ := h.map
      rw [List.length_map, atf_map (putCF_at _ c f) (putCF_cl _ c f)]
      exact ⟨n, hn, hm.at_block (d.block mb (h.o_lt mb h.own_m) (fun e => h.ne_me hx e.symm))⟩
    ents := by
      intro y hy
      obtain ⟨z, hz, rfl⟩ := List.mem_map.1 hy
      rw [putCF_at]
      obtain ⟨cs, h1, h2⟩ := h.ents z hz
      by_cases e : z.at_ = x.at_
      · obtain ⟨f0, g0, m0, p0, c0, q0, rfl, a1, a2, a3, a4, -, -⟩ := h2
        refine ⟨[.int .i64 z.cl.flags, strV z.cl.name, strV z.cl.super, f0, g0, m0, p0, cv, fv], ?_, f0, g0, m0, p0, cv, fv, ?_, ?_⟩
        · rw [e] at h1 ⊢
          have h3 : (w.setCell ⟨x.at_, 7, none⟩ cv).heap[x.at_]? = some (.cells #[.int .i64 z.cl.flags, strV z.cl.name, strV z.cl.super, f0, g0, m0, p0, cv, q0] 94 (0, 0)) := by
            rw [setCell_at h1]; rfl
          rw [setCell_at h3]; rfl
        · simp [putCF, e]
        · simp only [putCF, e, ↓reduceIte]
          exact ⟨a1.keep goodStr d hS, a2.keep goodFd d hS, a3.keep goodMt d hS, a4.keep goodEn d hS, hc.keep goodStr d hS, hf.keep goodStr d hS⟩
      · refine ⟨cs, (d.block z.at_ (h.o_lt _ (h.own_e z hz)) e).trans h1, ?_⟩
        rw [show putCF x.at_ c f z = z from by simp [putCF, e]]
        exact h2.keep d hS
    nodup := by
      rw [List.map_map]
      rw [show ((fun x : Ent => x.at_) ∘ putCF x.at_ c f) = fun x : Ent => x.at_ from by funext y; simp [putCF_at]]
      exact h.nodup
    uniq := by
      rw [List.map_map]
      rw [show ((fun x : Ent => x.cl.name) ∘ putCF x.at_ c f) = fun x : Ent => x.cl.name from by funext y; simp [putCF_cl]]
      exact h.uniq
    own_b := h.own_b, own_m := h.own_m, own_n := h.own_n
    own_e := fun y hy => by obtain ⟨z, hz, rfl⟩ := List.mem_map.1 hy; rw [putCF_at]; exact h.own_e z hz
    apart := h.apart
    s_lt := fun k hk => Nat.lt_of_lt_of_le (h.s_lt k hk) d.size
    o_lt := fun k hk => Nat.lt_of_lt_of_le (h.o_lt k hk) d.size
    short := fun y hy => by obtain ⟨z, hz, rfl⟩ := List.mem_map.1 hy; rw [putCF_cl]; exact h.short z hz }

/-- What putting a class in leaves: the names' row grown, its block, the map. -/
theorem HW.put {nv' : Value} {w1 w4 : World} {c : Cl} {p : List En} {cs : List Value} {pv : Value} (h : HW S O w b mb nv es lk)
    (hn : OQ 9 1 RStr No w1 nv' ((es.map fun x => x.cl.name) ++ [c.name])) (c1 : Chg (fun k => some k = nv.ownBlock) w w1) (hl : nv'.ownBlock = nv.ownBlock ∨ ∃ k, nv'.ownBlock = some k ∧ w.heap.size ≤ k)
    (hc : RCl S w c cs) (hp : SQ 6 REn S w pv p) (hs : ShortCl c) (hnew : ∀ x ∈ es, x.cl.name ≠ c.name)
    {n : Nat} (hm : StrMap Tryz.prog 9 w4 mb (n + 1) (fun y => if y = c.name then some ((w1.setCell ⟨b, 0, none⟩ nv').heap.size) else atf es y)) (hnn : n ≤ es.length)
    (c4 : ((w1.setCell ⟨b, 0, none⟩ nv').alloc (.cells (cs ++ [pv, .slice none 0 0, .slice none 0 0]).toArray 94)).grownBy w4 (some mb)) :
    ∃ O' : Blocks, HW S O' w4 b mb nv' (es ++ [⟨(w1.setCell ⟨b, 0, none⟩ nv').heap.size, c, p, [], []⟩]) lk ∧ (∀ k, k < w.heap.size → O' k → O k) ∧ (∀ k, O k → O' k) ∧ Chg O w w4 := by
  obtain ⟨k0, hk0⟩ : ∃ k0, k0 = (w1.setCell ⟨b, 0, none⟩ nv').heap.size := ⟨_, rfl⟩
  rw [← hk0] at hm ⊢
  have hsz1 := c1.size
  have hk1 : k0 = w1.heap.size := by rw [hk0]; simp
  have hk : w.heap.size ≤ k0 := by omega
  have hbl := h.o_lt b h.own_b
  have hml := h.o_lt mb h.own_m
  have c2 : Chg (fun k => some k = nv.ownBlock ∨ k = b) w (w1.setCell ⟨b, 0, none⟩ nv') := (c1.mono (S' := fun k => some k = nv.ownBlock ∨ k = b) (fun _ _ e => .inl e)).setCell (p := ⟨b, 0, none⟩) (fun _ => .inr rfl) _
  have c3 := c2.alloc (.cells (cs ++ [pv, .slice none 0 0, .slice none 0 0]).toArray 94)
  have cg := Chg.grown c4
  have cA : Chg (fun k => some k = nv.ownBlock ∨ k = b ∨ k = mb) w w4 :=
    (c3.mono (S' := fun k => some k = nv.ownBlock ∨ k = b ∨ k = mb) (fun _ _ e => e.elim .inl (fun e => .inr (.inl e)))).trans cg (fun k _ e => by simp only [Option.some.injEq] at e; exact .inr (.inr e))
  have hO : ∀ k, (some k = nv.ownBlock ∨ k = b ∨ k = mb) → O k := fun k e => by
    rcases e with e | rfl | rfl
    · exact h.own_n k e.symm
    · exact h.own_b
    · exact h.own_m
  have hS : ∀ k, S k → ¬ (some k = nv.ownBlock ∨ k = b ∨ k = mb) := fun k hk e => h.apart k hk (hO k e)
  have hne : k0 ≠ mb := by omega
  have hent : w4.heap[k0]? = some (.cells (cs ++ [pv, .slice none 0 0, .slice none 0 0]).toArray 94 (0, 0)) := by
    rw [c4.block k0 (by simp; omega) (fun e => hne (by simpa using e)), hk0]
    exact heap_alloc_new _ _
  refine ⟨fun k => O k ∨ k = k0 ∨ nv'.ownBlock = some k, ?_, ?_, fun k hk => .inl hk, cA.mono (fun k _ e => hO k e)⟩
  · exact {
      wc := by
        rw [c4.block b (by simp; omega) (fun e => h.ne_bm (by simpa using e)), Below.heap_alloc _ _ b (by simp; omega)]
        have hb1 : w1.heap[b]? = some (.cells #[nv, .map (some mb), .bool lk] 81 (0, 0)) := (c1.block b hbl (fun e => h.ne_nb e.symm)).trans h.wc
        rw [setCell_at hb1]; rfl
      names := by
        rw [List.map_append]
        have hb1 : w1.heap[b]? = some (.cells #[nv, .map (some mb), .bool lk] 81 (0, 0)) := (c1.block b hbl (fun e => h.ne_nb e.symm)).trans h.wc
        have cB : Chg (fun k => k = b ∨ k = mb) w1 w4 :=
          ((((Chg.refl (fun k => k = b ∨ k = mb) w1).setCell (p := ⟨b, 0, none⟩) (fun _ => .inl rfl) nv').alloc _).trans cg (fun k _ e => by simp only [Option.some.injEq] at e; exact .inr e))
        refine hn.keep goodStr cB (fun k hk e => ?_) (fun k hk => hk.elim)
        obtain ⟨cur, h2⟩ := hn.block hk
        rcases e with rfl | rfl
        · rw [h2] at hb1; simp at hb1
        · obtain ⟨_, _, hm0⟩ := h.map
          obtain ⟨ms, cc, h3⟩ := hm0.block
          have := (c1.block k hml (fun e => h.ne_nm e.symm)).trans h3
          rw [h2] at this; simp at this
      map := by
        refine ⟨n + 1, by simp; exact hnn, ?_⟩
        have e : atf (es ++ [⟨k0, c, p, [], []⟩]) = fun y => if y = c.name then some k0 else atf es y := by
          funext y
          unfold atf
          rw [List.find?_append]
          by_cases hy : y = c.name
          · subst hy
            have : es.find? (fun x => x.cl.name == c.name) = none := List.find?_eq_none.2 (fun x hx => by simp [hnew x hx])
            rw [this]; simp
          · rw [if_neg hy]
            have : (c.name == y) = false := beq_eq_false_iff_ne.2 (fun e => hy e.symm)
            cases hf : es.find? (fun x => x.cl.name == y) <;> simp [this]
        rw [e]; exact hm
      ents := by
        intro x hx
        rcases List.mem_append.1 hx with hx | hx
        · obtain ⟨ds, h1, h2⟩ := h.ents x hx
          exact ⟨ds, (cA.block x.at_ (h.o_lt _ (h.own_e x hx)) (fun e => by
            rcases e with e | e | e
            · exact h.ne_ne hx e.symm
            · exact h.ne_be hx e
            · exact h.ne_me hx e)).trans h1, h2.keep cA hS⟩
        · simp only [List.mem_singleton] at hx
          subst hx
          refine ⟨_, hent, ?_⟩
          obtain ⟨f, g, m, rfl, a1, a2, a3⟩ := hc
          exact ⟨f, g, m, pv, _, _, rfl, a1.keep goodStr cA hS, a2.keep goodFd cA hS, a3.keep goodMt cA hS, hp.keep goodEn cA hS, SQ.nil, SQ.nil⟩
      nodup := by
        rw [List.map_append, List.nodup_append]
        refine ⟨h.nodup, by simp, fun a ha d hd => ?_⟩
        obtain ⟨x, hx, rfl⟩ := List.mem_map.1 ha
        simp only [List.map_cons, List.map_nil, List.mem_singleton] at hd
        have := h.o_lt _ (h.own_e x hx)
        omega
      uniq := by
        rw [List.map_append, List.nodup_append]
        refine ⟨h.uniq, by simp, fun a ha d hd => ?_⟩
        obtain ⟨x, hx, rfl⟩ := List.mem_map.1 ha
        simp only [List.map_cons, List.map_nil, List.mem_singleton] at hd
        rw [hd]; exact hnew x hx
      own_b := .inl h.own_b
      own_m := .inl h.own_m
      own_n := fun k hk => .inr (.inr hk)
      own_e := fun x hx => by
        rcases List.mem_append.1 hx with hx | hx
        · exact .inl (h.own_e x hx)
        · simp only [List.mem_singleton] at hx; subst hx; exact .inr (.inl rfl)
      apart := fun k hk e => by
        have hlt := h.s_lt k hk
        rcases e with e | e | e
        · exact h.apart k hk e
        · omega
        · rcases hl with hl | ⟨j, hj, hj2⟩
          · rw [hl] at e; exact h.apart k hk (h.own_n k e)
          · rw [hj] at e; cases e; omega
      s_lt := fun k hk => Nat.lt_of_lt_of_le (h.s_lt k hk) cA.size
      o_lt := fun k e => by
        rcases e with e | e | e
        · exact Nat.lt_of_lt_of_le (h.o_lt k e) cA.size
        · rw [e]; exact heap_lt hent
        · have h1 := hn.lt k e
          have h2 := cg.size
          simp at h2
          omega
      short := fun x hx => by
        rcases List.mem_append.1 hx with hx | hx
        · exact h.short x hx
        · simp only [List.mem_singleton] at hx; subst hx; exact hs }
  · intro k hlt e
    rcases e with e | e | e
    · exact e
    · omega
    · rcases hl with hl | ⟨j, hj, hj2⟩
      · rw [hl] at e; exact h.own_n k e
      · rw [hj] at e; cases e; omega
end

end Go.Proofs.YtgmmclcpfmnoiaaGreatDoor
