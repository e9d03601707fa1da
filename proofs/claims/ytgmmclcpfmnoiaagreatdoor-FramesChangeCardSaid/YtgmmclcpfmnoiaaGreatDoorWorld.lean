/-
  A world of classes as the program holds it: its own block, the map of its classes, one block for each class; the classes' data lie in a set S of blocks, its own in O.
-/
import Derived.Test.YtgmmclcpfmnoiaaGreatDoorApp
import Derived.Test.YtgmmclcpfmnoiaaGreatDoorHierSpec
namespace Go.Proofs.YtgmmclcpfmnoiaaGreatDoor
open Go.RowKit

/-- A class of a world: its block, what is in it. -/
structure Ent where
  at_ : Nat
  cl : Cl
  pool : List En
  chain : List Bs
  faces : List Bs
deriving Inhabited
abbrev cls (es : List Ent) : List Cl := es.map (·.cl)
def REnt : Reading Ent := fun S w x cs => ∃ f g m p c h, cs = [.int .i64 x.cl.flags, strV x.cl.name, strV x.cl.super, f, g, m, p, c, h] ∧
  SQ 1 RStr S w f x.cl.faces ∧ SQ 4 RFd S w g x.cl.fields ∧ SQ 10 RMt S w m x.cl.methods ∧ SQ 6 REn S w p x.pool ∧ SQ 1 RStr S w c x.chain ∧ SQ 1 RStr S w h x.faces
theorem REnt.keep {S T : Blocks} {w w' : World} {x : Ent} {cs : List Value} (h : REnt S w x cs) (d : Chg T w w') (hn : ∀ k, S k → ¬ T k) : REnt S w' x cs :=
  let ⟨f, g, m, p, c, h, h0, h1, h2, h3, h4, h5, h6⟩ := h
  ⟨f, g, m, p, c, h, h0, h1.keep goodStr d hn, h2.keep goodFd d hn, h3.keep goodMt d hn, h4.keep goodEn d hn, h5.keep goodStr d hn, h6.keep goodStr d hn⟩
theorem REnt.mono {S T : Blocks} {w : World} {x : Ent} {cs : List Value} (h : REnt S w x cs) (hn : ∀ k, S k → T k) : REnt T w x cs :=
  let ⟨f, g, m, p, c, h, h0, h1, h2, h3, h4, h5, h6⟩ := h
  ⟨f, g, m, p, c, h, h0, h1.mono goodStr hn, h2.mono goodFd hn, h3.mono goodMt hn, h4.mono goodEn hn, h5.mono goodStr hn, h6.mono goodStr hn⟩

/-- The block of the class of a name. -/
def atf (es : List Ent) (s : Bs) : Option Nat := (es.find? fun x => x.cl.name == s).map (·.at_)
/-- Texts that may be keys. -/
def Short (s : Bs) : Prop := s.length ≤ maxLen
structure ShortCl (c : Cl) : Prop where
  name : Short c.name
  super : Short c.super
  faces : ∀ s ∈ c.faces, Short s

structure HW (S O : Blocks) (w : World) (b mb : Nat) (nv : Value) (es : List Ent) (lk : Bool) : Prop where
  wc : w.heap[b]? = some (.cells #[nv, .map (some mb), .bool lk] 81 (0, 0))
  names : OQ 9 1 RStr No w nv (es.map fun x => x.cl.name)
  map : ∃ n, n ≤ es.length ∧ StrMap Tryz.prog 9 w mb n (atf es)
  ents : ∀ x ∈ es, ∃ cs : List Value, w.heap[x.at_]? = some (.cells cs.toArray 94 (0, 0)) ∧ REnt S w x cs
  nodup : (es.map fun x => x.at_).Nodup
  uniq : (es.map fun x => x.cl.name).Nodup
  own_b : O b
  own_m : O mb
  own_n : ∀ k, nv.ownBlock = some k → O k
  own_e : ∀ x ∈ es, O x.at_
  apart : ∀ k, S k → ¬ O k
  s_lt : ∀ k, S k → k < w.heap.size
  o_lt : ∀ k, O k → k < w.heap.size
  short : ∀ x ∈ es, ShortCl x.cl

section
variable {S O T : Blocks} {w w' : World} {b mb : Nat} {nv : Value} {es : List Ent} {lk : Bool}
theorem HW.keep (h : HW S O w b mb nv es lk) (c : Chg T w w') (hS : ∀ k, S k → ¬ T k) (hO : ∀ k, O k → ¬ T k) : HW S O w' b mb nv es lk where
  wc := (c.block b (h.o_lt b h.own_b) (hO b h.own_b)).trans h.wc
  names := h.names.keep goodStr c (fun k hk => hO k (h.own_n k hk)) (fun k hk => hk.elim)
  map := let ⟨n, hn, hm⟩ := h.map; ⟨n, hn, hm.at_block (c.block mb (h.o_lt mb h.own_m) (hO mb h.own_m))⟩
  ents := fun x hx => let ⟨cs, h1, h2⟩ := h.ents x hx; ⟨cs, (c.block x.at_ (h.o_lt _ (h.own_e x hx)) (hO _ (h.own_e x hx))).trans h1, h2.keep c hS⟩
  nodup := h.nodup
  uniq := h.uniq
  own_b := h.own_b
  own_m := h.own_m
  own_n := h.own_n
  own_e := h.own_e
  apart := h.apart
  s_lt := fun k hk => Nat.lt_of_lt_of_le (h.s_lt k hk) c.size
  o_lt := fun k hk => Nat.lt_of_lt_of_le (h.o_lt k hk) c.size
  short := h.short
theorem HW.new (h : HW S O w b mb nv es lk) (c : Chg No w w') : HW S O w' b mb nv es lk := h.keep c (fun _ _ h => h) (fun _ _ h => h)

theorem HW.c0 (h : HW S O w b mb nv es lk) : w.cell? ⟨b, 0, none⟩ = some nv := by simp [World.cell?, h.wc]
theorem HW.c1 (h : HW S O w b mb nv es lk) : w.cell? ⟨b, 1, none⟩ = some (.map (some mb)) := by simp [World.cell?, h.wc]
theorem HW.c2 (h : HW S O w b mb nv es lk) : w.cell? ⟨b, 2, none⟩ = some (.bool lk) := by simp [World.cell?, h.wc]
theorem HW.look (h : HW S O w b mb nv es lk) (s : Bs) (hs : Short s) : (Instr.lookup 77 (.map (some mb)) (.string ⟨s.toArray⟩) false).run Tryz.prog w = .ok (ptrV (atf es s)) w := by
  obtain ⟨n, -, hm⟩ := h.map
  exact hm.look Tryz.underlying9 Tryz.underlying77 (by kernel_rfl) s hs

theorem find_cls (es : List Ent) (s : Bs) : fnd (cls es) s = (es.find? fun x => x.cl.name == s).map (·.cl) := by
  unfold fnd cls
  rw [List.find?_map]
  rfl
theorem atf_none {s : Bs} (h : atf es s = none) : fnd (cls es) s = none := by
  rw [find_cls]
  unfold atf at h
  rw [Option.map_eq_none_iff] at h ⊢
  exact h
theorem atf_some {s : Bs} {k : Nat} (h : atf es s = some k) : ∃ x ∈ es, x.at_ = k ∧ x.cl.name = s ∧ fnd (cls es) s = some x.cl := by
  rw [find_cls]
  unfold atf at h
  obtain ⟨x, hx, rfl⟩ := Option.map_eq_some_iff.1 h
  exact ⟨x, List.mem_of_find?_eq_some hx, rfl, by have := List.find?_some hx; simpa using this, by rw [hx]; rfl⟩
theorem fnd_some {s : Bs} {c : Cl} (h : fnd (cls es) s = some c) : ∃ x ∈ es, x.cl = c ∧ x.cl.name = s ∧ atf es s = some x.at_ := by
  rw [find_cls] at h
  obtain ⟨x, hx, rfl⟩ := Option.map_eq_some_iff.1 h
  exact ⟨x, List.mem_of_find?_eq_some hx, rfl, by have := List.find?_some hx; simpa using this, by unfold atf; rw [hx]; rfl⟩
theorem fnd_none {s : Bs} (h : fnd (cls es) s = none) : atf es s = none := by
  rw [find_cls, Option.map_eq_none_iff] at h
  unfold atf
  rw [h]; rfl
theorem atf_mem (h : (es.map fun x => x.cl.name).Nodup) {x : Ent} (hx : x ∈ es) : atf es x.cl.name = some x.at_ ∧ fnd (cls es) x.cl.name = some x.cl := by
  have key : es.find? (fun y => y.cl.name == x.cl.name) = some x := by
    induction es with
    | nil => cases hx
    | cons a r ih =>
      rw [List.map_cons, List.nodup_cons] at h
      rw [List.find?_cons]
      rcases List.mem_cons.1 hx with rfl | hr
      · simp
      · have hne : (a.cl.name == x.cl.name) = false := by
          rw [beq_eq_false_iff_ne]
          intro e
          exact h.1 (by rw [e]; exact List.mem_map_of_mem hr)
        rw [hne]
        exact ih h.2 hr
  exact ⟨by unfold atf; rw [key]; rfl, by rw [find_cls, key]; rfl⟩

/-- A class's cells. -/
theorem HW.cells (h : HW S O w b mb nv es lk) {x : Ent} (hx : x ∈ es) : ∃ f g m p c q : Value,
    (w.cell? ⟨x.at_, 0, none⟩ = some (.int .i64 x.cl.flags) ∧ w.cell? ⟨x.at_, 1, none⟩ = some (strV x.cl.name) ∧ w.cell? ⟨x.at_, 2, none⟩ = some (strV x.cl.super) ∧ w.cell? ⟨x.at_, 3, none⟩ = some f ∧ w.cell? ⟨x.at_, 4, none⟩ = some g ∧
      w.cell? ⟨x.at_, 5, none⟩ = some m ∧ w.cell? ⟨x.at_, 6, none⟩ = some p ∧ w.cell? ⟨x.at_, 7, none⟩ = some c ∧ w.cell? ⟨x.at_, 8, none⟩ = some q) ∧
    SQ 1 RStr S w f x.cl.faces ∧ SQ 4 RFd S w g x.cl.fields ∧ SQ 10 RMt S w m x.cl.methods ∧ SQ 6 REn S w p x.pool ∧ SQ 1 RStr S w c x.chain ∧ SQ 1 RStr S w q x.faces := by
  obtain ⟨cs, h1, f, g, m, p, c, q, rfl, h2, h3, h4, h5, h6, h7⟩ := h.ents x hx
  refine ⟨f, g, m, p, c, q, ?_, h2, h3, h4, h5, h6, h7⟩
  simp [World.cell?, h1]
end

end Go.Proofs.YtgmmclcpfmnoiaaGreatDoor
