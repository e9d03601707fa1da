/-
  append onto a row of one's own whose elements have several cells, for the walk; its sources.
-/
import Derived.Test.YtgmmclcpfmnoiaaGreatDoorApi
import Derived.Test.YtgmmclcpfmnoiaaGreatDoorStrMap
import Derived.Shelf.Abstract
namespace Go.Proofs.YtgmmclcpfmnoiaaGreatDoor
open Go.RowKit

section
variable {α : Type} {n : Nat} {R : Reading α} {S T : Blocks} {w w' : World} {v : Value} {xs ys : List α} {css : List (List Value)}

theorem Els.single {x : α} {cs : List Value} (hR : R S w x cs) (hl : cs.length = n) : Els n R S w [x] [cs] := by
  refine ⟨rfl, fun i y ds hi hd => ?_⟩
  cases i with
  | zero => simp only [List.getElem?_cons_zero, Option.some.injEq] at hi hd; subst hi; subst hd; exact ⟨hl, hR⟩
  | succ i => simp at hi
/-- One element that lies from an address on. -/
theorem Src.single {P : Program} {x : α} {cs : List Value} (g : Good R) (hR : R S w x cs) (hl : cs.length = n) {tx e' : TypeId} (hk : P.underlying tx = some (.slice e')) (p : Addr) (c : Nat) (hp : At w p cs) :
    Src P n tx (.slice (some p) 1 c) 1 ([cs] : List (List Value)).flatten w :=
  Src.ofSlice w hk p 1 c _ (by simp [hl]) (by simpa using (show ∀ (j : Nat) (u : Value), cs[j]? = some u → w.cell? (p.add j) = some u from hp)) (fun u hu => g.one hR u (by simpa using hu))
theorem At.lit (w : World) (cs : List Value) (T : TypeId) : At (w.alloc (.cells cs.toArray T)) ⟨w.heap.size, 0, none⟩ cs := fun j u hj => by
  rw [add_mk, Nat.zero_add]
  simp [hj]

/-- The operation, for the walk. -/
theorem wpList_appQ {P : Program} {ops : Array Oper} {rest : List Oper} {o : Oper} {a : Act} {Q : Exit → Act → World → Prop} (hgd : o.guard = none) (s x : Operand) (t tx : TypeId)
    (ho : o.op = .call { callee := .builtin .append, args := #[s, x], argTypes := #[t, tx] })
    (e : TypeId) (z : Value) (bytes : Nat) (ht : P.underlying t = some (.slice e)) (hinfo : (P.info? e).map (fun i => (i.zero, i.size, i.bytes)) = some (some z, n, bytes)) (hzs : z.cells.size = n) (hsz : 0 < n)
    (g : Good R) (v : Value) (xs : List α) (hs : a.eval s = v) (hown : OQ e n R S w v xs) (hv : ∀ k, S k → v.ownBlock ≠ some k)
    (xv : Value) (ys : List α) (css : List (List Value)) (hx : a.eval x = xv) (hE : Els n R S w ys css) (hsrc : Src P n tx xv ys.length css.flatten w)
    (h63 : xs.length + ys.length ≤ maxLen) (hbytes : ((xs.length + ys.length) + (xs.length + ys.length) / 4 + 192) * bytes ≤ 281474976710656)
    (h : ∀ v' w', OQ e n R S w' v' (xs ++ ys) → Chg (fun k => some k = v.ownBlock) w w' → (v'.ownBlock = v.ownBlock ∨ ∃ b, v'.ownBlock = some b ∧ w.heap.size ≤ b) → wpList P ops Q rest (a.put o.dst v') w') : wpList P ops Q (o :: rest) a w := by
  obtain ⟨ds, ho1, hE0⟩ := hown
  refine wpList_append_K hgd s x t tx ho e z n bytes ht hinfo hzs hsz v xs.length ds.flatten hs ho1 xv ys.length css.flatten hx hsrc h63 hbytes fun v' w' h1 h2 h3 => ?_
  have hc := Chg.grown h2
  refine h v' w' ?_ hc h3
  exact OQ.append h1 rfl (hE0.keep g hc (fun k hk e => hv k hk e.symm)) (hE.keep g hc (fun k hk e => hv k hk e.symm))
/-- The same at a step of a region that draws its order. -/
theorem step_appQ {P : Program} {ops : Array Oper} {o : Oper} {a : Act} {K : Act → World → Prop} {Q : Exit → Act → World → Prop} {E : Prop} (hgd : o.guard = none) (s x : Operand) (t tx : TypeId)
    (ho : o.op = .call { callee := .builtin .append, args := #[s, x], argTypes := #[t, tx] })
    (e : TypeId) (z : Value) (bytes : Nat) (ht : P.underlying t = some (.slice e)) (hinfo : (P.info? e).map (fun i => (i.zero, i.size, i.bytes)) = some (some z, n, bytes)) (hzs : z.cells.size = n) (hsz : 0 < n)
    (g : Good R) (v : Value) (xs : List α) (hs : a.eval s = v) (hown : OQ e n R S w v xs) (hv : ∀ k, S k → v.ownBlock ≠ some k)
    (xv : Value) (ys : List α) (css : List (List Value)) (hx : a.eval x = xv) (hE : Els n R S w ys css) (hsrc : Src P n tx xv ys.length css.flatten w)
    (h63 : xs.length + ys.length ≤ maxLen) (hbytes : ((xs.length + ys.length) + (xs.length + ys.length) / 4 + 192) * bytes ≤ 281474976710656)
    (h : ∀ v' w', OQ e n R S w' v' (xs ++ ys) → Chg (fun k => some k = v.ownBlock) w w' → (v'.ownBlock = v.ownBlock ∨ ∃ b, v'.ownBlock = some b ∧ w.heap.size ≤ b) → K (a.put o.dst v') w') :
    if Region.wanted o (yielded ops a.tmps) = true then Oper.wp P o a w K Q else E := by
  obtain ⟨ds, ho1, hE0⟩ := hown
  refine step_append_K hgd s x t tx ho e z n bytes ht hinfo hzs hsz v xs.length ds.flatten hs ho1 xv ys.length css.flatten hx hsrc h63 hbytes fun v' w' h1 h2 h3 => ?_
  have hc := Chg.grown h2
  refine h v' w' ?_ hc h3
  exact OQ.append h1 rfl (hE0.keep g hc (fun k hk e => hv k hk e.symm)) (hE.keep g hc (fun k hk e => hv k hk e.symm))
end

end Go.Proofs.YtgmmclcpfmnoiaaGreatDoor

namespace Go.Proofs.YtgmmclcpfmnoiaaGreatDoor
open Go.RowKit

/-- A class of a world: its block, what is in it. -/
structure Ent where
  at_ : Nat
  cl : Cl
  pool : List En
  chain : List Bs
  faces : List Bs
deriving Inhabited
abbrev cls (es : List Ent) : List Cl := es.map (·.cl)
def REnt : Reading Ent := fun S w x cs => ∃ f g m p c h, cs = [.int .i64 x.cl.flags, strV x.cl.name, strV x.cl.super, f, g, m, p, c, h] ∧
  SQ 1 RStr S w f x.cl.faces ∧ SQ 4 RFd S w g x.cl.fields ∧ SQ 10 RMt S w m x.cl.methods ∧ SQ 6 REn S w p x.pool ∧ SQ 1 RStr S w c x.chain ∧ SQ 1 RStr S w h x.faces
theorem REnt.keep {S T : Blocks} {w w' : World} {x : Ent} {cs : List Value} (h : REnt S w x cs) (d : Chg T w w') (hn : ∀ k, S k → ¬ T k) : REnt S w' x cs :=
  let ⟨f, g, m, p, c, h, h0, h1, h2, h3, h4, h5, h6⟩ := h
  ⟨f, g, m, p, c, h, h0, h1.keep goodStr d hn, h2.keep goodFd d hn, h3.keep goodMt d hn, h4.keep goodEn d hn, h5.keep goodStr d hn, h6.keep goodStr d hn⟩
theorem REnt.mono {S T : Blocks} {w : World} {x : Ent} {cs : List Value} (h : REnt S w x cs) (hn : ∀ k, S k → T k) : REnt T w x cs :=
  let ⟨f, g, m, p, c, h, h0, h1, h2, h3, h4, h5, h6⟩ := h
  ⟨f, g, m, p, c, h, h0, h1.mono goodStr hn, h2.mono goodFd hn, h3.mono goodMt hn, h4.mono goodEn hn, h5.mono goodStr hn, h6.mono goodStr hn⟩

/-- The block of the class of a name. -/
def atf (es : List Ent) (s : Bs) : Option Nat := (es.find? fun x => x.cl.name == s).map (·.at_)
/-- Texts that may be keys. -/
def Short (s : Bs) : Prop := s.length ≤ maxLen
structure ShortCl (c : Cl) : Prop where
  name : Short c.name
  super : Short c.super
  faces : ∀ s ∈ c.faces, Short s

structure HW (S O : Blocks) (w : World) (b mb : Nat) (nv : Value) (es : List Ent) (lk : Bool) : Prop where
  wc : w.heap[b]? = some (.cells #[nv, .map (some mb), .bool lk] 81 (0, 0))
  names : OQ 9 1 RStr No w nv (es.map fun x => x.cl.name)
  map : ∃ n, n ≤ es.length ∧ StrMap Tryz.prog 9 w mb n (atf es)
  ents : ∀ x ∈ es, ∃ cs : List Value, w.heap[x.at_]? = some (.cells cs.toArray 94 (0, 0)) ∧ REnt S w x cs
  nodup : (es.map fun x => x.at_).Nodup
  uniq : (es.map fun x => x.cl.name).Nodup
  own_b : O b
  own_m : O mb
  own_n : ∀ k, nv.ownBlock = some k → O k
  own_e : ∀ x ∈ es, O x.at_
  apart : ∀ k, S k → ¬ O k
  s_lt : ∀ k, S k → k < w.heap.size
  o_lt : ∀ k, O k → k < w.heap.size
  short : ∀ x ∈ es, ShortCl x.cl

section
variable {S O T : Blocks} {w w' : World} {b mb : Nat} {nv : Value} {es : List Ent} {lk : Bool}
theorem HW.keep (h : HW S O w b mb nv es lk) (c : Chg T w w') (hS : ∀ k, S k → ¬ T k) (hO : ∀ k, O k → ¬ T k) : HW S O w' b mb nv es lk where
  wc := (c.block b (h.o_lt b h.own_b) (hO b h.own_b)).trans h.wc
  names := h.names.keep goodStr c (fun k hk => hO k (h.own_n k hk)) (fun _k hk => hk.elim)
  map := let ⟨n, hn, hm⟩ := h.map; ⟨n, hn, hm.at_block (c.block mb (h.o_lt mb h.own_m) (hO mb h.own_m))⟩
  ents := fun x hx => let ⟨cs, h1, h2⟩ := h.ents x hx; ⟨cs, (c.block x.at_ (h.o_lt _ (h.own_e x hx)) (hO _ (h.own_e x hx))).trans h1, h2.keep c hS⟩
  nodup := h.nodup
  uniq := h.uniq
  own_b := h.own_b
  own_m := h.own_m
  own_n := h.own_n
  own_e := h.own_e
  apart := h.apart
  s_lt := fun k hk => Nat.lt_of_lt_of_le (h.s_lt k hk) c.size
  o_lt := fun k hk => Nat.lt_of_lt_of_le (h.o_lt k hk) c.size
  short := h.short
theorem HW.new (h : HW S O w b mb nv es lk) (c : Chg No w w') : HW S O w' b mb nv es lk := h.keep c (fun _ _ h => h) (fun _ _ h => h)

theorem HW.c0 (h : HW S O w b mb nv es lk) : w.cell? ⟨b, 0, none⟩ = some nv := by simp [World.cell?, h.wc]
theorem HW.c1 (h : HW S O w b mb nv es lk) : w.cell? ⟨b, 1, none⟩ = some (.map (some mb)) := by simp [World.cell?, h.wc]
theorem HW.c2 (h : HW S O w b mb nv es lk) : w.cell? ⟨b, 2, none⟩ = some (.bool lk) := by simp [World.cell?, h.wc]
theorem HW.look (h : HW S O w b mb nv es lk) (s : Bs) (hs : Short s) : (Instr.lookup 77 (.map (some mb)) (.string ⟨s.toArray⟩) false).run Tryz.prog w = .ok (ptrV (atf es s)) w := by
  obtain ⟨n, -, hm⟩ := h.map
  exact hm.look Tryz.underlying9 Tryz.underlying77 (by kernel_rfl) s hs

theorem find_cls (es : List Ent) (s : Bs) : fnd (cls es) s = (es.find? fun x => x.cl.name == s).map (·.cl) := by
  unfold fnd cls
  rw [List.find?_map]
  rfl
theorem atf_none {s : Bs} (h : atf es s = none) : fnd (cls es) s = none := by
  rw [find_cls]
  unfold atf at h
  rw [Option.map_eq_none_iff] at h ⊢
  exact h
theorem atf_some {s : Bs} {k : Nat} (h : atf es s = some k) : ∃ x ∈ es, x.at_ = k ∧ x.cl.name = s ∧ fnd (cls es) s = some x.cl := by
  rw [find_cls]
  unfold atf at h
  obtain ⟨x, hx, rfl⟩ := Option.map_eq_some_iff.1 h
  exact ⟨x, List.mem_of_find?_eq_some hx, rfl, by have := List.find?_some hx; simpa using this, by rw [hx]; rfl⟩
theorem fnd_some {s : Bs} {c : Cl} (h : fnd (cls es) s = some c) : ∃ x ∈ es, x.cl = c ∧ x.cl.name = s ∧ atf es s = some x.at_ := by
  rw [find_cls] at h
  obtain ⟨x, hx, rfl⟩ := Option.map_eq_some_iff.1 h
  exact ⟨x, List.mem_of_find?_eq_some hx, rfl, by have := List.find?_some hx; simpa using this, by unfold atf; rw [hx]; rfl⟩
theorem fnd_none {s : Bs} (h : fnd (cls es) s = none) : atf es s = none := by
  rw [find_cls, Option.map_eq_none_iff] at h
  unfold atf
  rw [h]; rfl
theorem atf_mem (h : (es.map fun x => x.cl.name).Nodup) {x : Ent} (hx : x ∈ es) : atf es x.cl.name = some x.at_ ∧ fnd (cls es) x.cl.name = some x.cl := by
  have key : es.find? (fun y => y.cl.name == x.cl.name) = some x := by
    induction es with
    | nil => cases hx
    | cons a r ih =>
      rw [List.map_cons, List.nodup_cons] at h
      rw [List.find?_cons]
      rcases List.mem_cons.1 hx with rfl | hr
      · simp
      · have hne : (a.cl.name == x.cl.name) = false := by
          rw [beq_eq_false_iff_ne]
          intro e
          exact h.1 (by rw [e]; exact List.mem_map_of_mem hr)
        rw [hne]
        exact ih h.2 hr
  exact ⟨by unfold atf; rw [key]; rfl, by rw [find_cls, key]; rfl⟩

/-- A class's cells. -/
theorem HW.cells (h : HW S O w b mb nv es lk) {x : Ent} (hx : x ∈ es) : ∃ f g m p c q : Value,
    (w.cell? ⟨x.at_, 0, none⟩ = some (.int .i64 x.cl.flags) ∧ w.cell? ⟨x.at_, 1, none⟩ = some (strV x.cl.name) ∧ w.cell? ⟨x.at_, 2, none⟩ = some (strV x.cl.super) ∧ w.cell? ⟨x.at_, 3, none⟩ = some f ∧ w.cell? ⟨x.at_, 4, none⟩ = some g ∧
      w.cell? ⟨x.at_, 5, none⟩ = some m ∧ w.cell? ⟨x.at_, 6, none⟩ = some p ∧ w.cell? ⟨x.at_, 7, none⟩ = some c ∧ w.cell? ⟨x.at_, 8, none⟩ = some q) ∧
    SQ 1 RStr S w f x.cl.faces ∧ SQ 4 RFd S w g x.cl.fields ∧ SQ 10 RMt S w m x.cl.methods ∧ SQ 6 REn S w p x.pool ∧ SQ 1 RStr S w c x.chain ∧ SQ 1 RStr S w q x.faces := by
  obtain ⟨cs, h1, f, g, m, p, c, q, rfl, h2, h3, h4, h5, h6, h7⟩ := h.ents x hx
  refine ⟨f, g, m, p, c, q, ?_, h2, h3, h4, h5, h6, h7⟩
  simp [World.cell?, h1]
end

end Go.Proofs.YtgmmclcpfmnoiaaGreatDoor

namespace Go.Proofs.YtgmmclcpfmnoiaaGreatDoor
open Go.RowKit

theorem setCell_at {w : World} {r o : Nat} {c : Array Value} {T : Nat} (h : w.heap[r]? = some (.cells c T (0, 0))) (v : Value) :
    (w.setCell ⟨r, o, none⟩ v).heap[r]? = some (.cells (c.setIfInBounds o v) T (0, 0)) := by
  simp only [World.setCell, Array.getElem?_modify, if_true, h, Option.map_some]; rfl
theorem chg_setCell (w : World) (r o : Nat) (v : Value) : Chg (· = r) w (w.setCell ⟨r, o, none⟩ v) := Chg.setCell (S := (· = r)) (p := ⟨r, o, none⟩) (Chg.refl _ _) (fun _ => rfl) _
section
variable {S O T : Blocks} {w w' : World} {b mb : Nat} {nv : Value} {es : List Ent} {lk : Bool}
theorem OQ.block {α : Type} {e n : Nat} {R : Reading α} {v : Value} {xs : List α} (h : OQ e n R S w v xs) {k : Nat} (hk : v.ownBlock = some k) : ∃ cur, w.heap[k]? = some (.cells cur e (0, 0)) := by
  obtain ⟨css, ⟨_, h⟩, _⟩ := h
  rcases h with ⟨rfl, _⟩ | ⟨g, cap, cur, rfl, _, h2, _⟩
  · cases hk
  · cases hk; exact ⟨cur, h2⟩
theorem StrMap.block {P : Program} {k : TypeId} {n : Nat} {f : List UInt8 → Option Nat} (h : StrMap P k w b n f) : ∃ es c, w.heap[b]? = some (.map es c) := by
  obtain ⟨D, ⟨es, clock, h1, _⟩, _⟩ := h
  exact ⟨es, clock, h1⟩
theorem HW.ne_be (h : HW S O w b mb nv es lk) {x : Ent} (hx : x ∈ es) : x.at_ ≠ b := fun e => by
  obtain ⟨cs, h1, -⟩ := h.ents x hx
  rw [e, h.wc] at h1
  simp at h1
theorem HW.ne_me (h : HW S O w b mb nv es lk) {x : Ent} (hx : x ∈ es) : x.at_ ≠ mb := fun e => by
  obtain ⟨cs, h1, -⟩ := h.ents x hx
  obtain ⟨n, -, hm⟩ := h.map
  obtain ⟨ms, c, h2⟩ := hm.block
  rw [e, h2] at h1
  simp at h1
theorem HW.ne_bm (h : HW S O w b mb nv es lk) : b ≠ mb := fun e => by
  obtain ⟨n, -, hm⟩ := h.map
  obtain ⟨ms, c, h2⟩ := hm.block
  have := h.wc
  rw [e, h2] at this
  simp at this
theorem HW.ne_ne (h : HW S O w b mb nv es lk) {x : Ent} (hx : x ∈ es) : nv.ownBlock ≠ some x.at_ := fun e => by
  obtain ⟨cs, h1, -⟩ := h.ents x hx
  obtain ⟨cur, h2⟩ := h.names.block e
  rw [h2] at h1
  simp at h1
theorem HW.ne_nb (h : HW S O w b mb nv es lk) : nv.ownBlock ≠ some b := fun e => by
  obtain ⟨cur, h2⟩ := h.names.block e
  have := h.wc
  rw [h2] at this
  simp at this
theorem HW.ne_nm (h : HW S O w b mb nv es lk) : nv.ownBlock ≠ some mb := fun e => by
  obtain ⟨cur, h2⟩ := h.names.block e
  obtain ⟨n, -, hm⟩ := h.map
  obtain ⟨ms, c, h3⟩ := hm.block
  rw [h2] at h3
  simp at h3

/-- More blocks of data. -/
theorem HW.grow (h : HW S O w b mb nv es lk) (hST : ∀ k, S k → T k) (hlt : ∀ k, T k → k < w.heap.size) (ha : ∀ k, T k → ¬ O k) : HW T O w b mb nv es lk where
  wc := h.wc
  names := h.names
  map := h.map
  ents := fun x hx => let ⟨cs, h1, h2⟩ := h.ents x hx; ⟨cs, h1, h2.mono hST⟩
  nodup := h.nodup
  uniq := h.uniq
  own_b := h.own_b
  own_m := h.own_m
  own_n := h.own_n
  own_e := h.own_e
  apart := ha
  s_lt := hlt
  o_lt := h.o_lt
  short := h.short

/-- The mark that all fit together. -/
theorem HW.mark (h : HW S O w b mb nv es lk) (l : Bool) : HW S O (w.setCell ⟨b, 2, none⟩ (.bool l)) b mb nv es l := by
  have c : Chg (· = b) w (w.setCell ⟨b, 2, none⟩ (.bool l)) := chg_setCell w b 2 _
  have hS : ∀ k, S k → ¬ k = b := fun k hk e => h.apart k hk (by rw [e]; exact h.own_b)
  exact {
    wc := by rw [setCell_at h.wc]; rfl
    names := h.names.keep goodStr c (fun k hk e => h.ne_nb (by rw [hk, e])) (fun k hk => hk.elim)
    map := let ⟨n, hn, hm⟩ := h.map; ⟨n, hn, hm.at_block (c.block mb (h.o_lt mb h.own_m) (fun e => h.ne_bm e.symm))⟩
    ents := fun x hx => let ⟨cs, h1, h2⟩ := h.ents x hx; ⟨cs, (c.block x.at_ (h.o_lt _ (h.own_e x hx)) (h.ne_be hx)).trans h1, h2.keep c hS⟩
    nodup := h.nodup, uniq := h.uniq, own_b := h.own_b, own_m := h.own_m, own_n := h.own_n, own_e := h.own_e, apart := h.apart
    s_lt := fun k hk => Nat.lt_of_lt_of_le (h.s_lt k hk) c.size
    o_lt := fun k hk => Nat.lt_of_lt_of_le (h.o_lt k hk) c.size
    short := h.short }

/-- A class's chain and interfaces, laid in. -/
def putCF (k : Nat) (c f : List Bs) (x : Ent) : Ent := if x.at_ = k then { x with chain := c, faces := f } else x
theorem putCF_at (k : Nat) (c f : List Bs) (x : Ent) : (putCF k c f x).at_ = x.at_ := by unfold putCF; split <;> rfl
theorem putCF_cl (k : Nat) (c f : List Bs) (x : Ent) : (putCF k c f x).cl = x.cl := by unfold putCF; split <;> rfl
theorem putCF_cls (k : Nat) (c f : List Bs) (es : List Ent) : cls (es.map (putCF k c f)) = cls es := by
  unfold cls; rw [List.map_map]; exact List.map_congr_left fun x _ => putCF_cl k c f x
theorem atf_map {g : Ent → Ent} (h1 : ∀ x, (g x).at_ = x.at_) (h2 : ∀ x, (g x).cl = x.cl) (es : List Ent) : atf (es.map g) = atf es := by
  funext s
  unfold atf
  rw [List.find?_map, Option.map_map]
  have e1 : ((fun x : Ent => x.cl.name == s) ∘ g) = fun x : Ent => x.cl.name == s := by funext x; simp [h2]
  have e2 : ((fun x : Ent => x.at_) ∘ g) = fun x : Ent => x.at_ := by funext x; simp [h1]
  rw [e1, e2]
theorem HW.set (h : HW S O w b mb nv es lk) {x : Ent} (hx : x ∈ es) {cv fv : Value} {c f : List Bs} (hc : SQ 1 RStr S w cv c) (hf : SQ 1 RStr S w fv f) :
    HW S O ((w.setCell ⟨x.at_, 7, none⟩ cv).setCell ⟨x.at_, 8, none⟩ fv) b mb nv (es.map (putCF x.at_ c f)) lk := by
  have d : Chg (· = x.at_) w ((w.setCell ⟨x.at_, 7, none⟩ cv).setCell ⟨x.at_, 8, none⟩ fv) :=
    (chg_setCell w x.at_ 7 cv).trans (chg_setCell _ x.at_ 8 fv) (fun _ _ h => h)
  have hS : ∀ k, S k → ¬ k = x.at_ := fun k hk e => h.apart k hk (by rw [e]; exact h.own_e x hx)
  exact {
    wc := (d.block b (h.o_lt b h.own_b) (fun e => h.ne_be hx e.symm)).trans h.wc
    names := by
      have := h.names.keep goodStr d (fun k hk e => h.ne_ne hx (by rw [hk, e])) (fun k hk => hk.elim)
      rw [List.map_map]
      rwa [show ((fun x : Ent => x.cl.name) ∘ putCF x.at_ c f) = fun x : Ent => x.cl.name from by funext y; simp [putCF_cl]]
    map := by
      obtain ⟨n, hn, hm⟩ := h.map
      rw [List.length_map, atf_map (putCF_at _ c f) (putCF_cl _ c f)]
      exact ⟨n, hn, hm.at_block (d.block mb (h.o_lt mb h.own_m) (fun e => h.ne_me hx e.symm))⟩
    ents := by
      intro y hy
      obtain ⟨z, hz, rfl⟩ := List.mem_map.1 hy
      rw [putCF_at]
      obtain ⟨cs, h1, h2⟩ := h.ents z hz
      by_cases e : z.at_ = x.at_
      · obtain ⟨f0, g0, m0, p0, c0, q0, rfl, a1, a2, a3, a4, -, -⟩ := h2
        refine ⟨[.int .i64 z.cl.flags, strV z.cl.name, strV z.cl.super, f0, g0, m0, p0, cv, fv], ?_, f0, g0, m0, p0, cv, fv, ?_, ?_⟩
        · rw [e] at h1 ⊢
          have h3 : (w.setCell ⟨x.at_, 7, none⟩ cv).heap[x.at_]? = some (.cells #[.int .i64 z.cl.flags, strV z.cl.name, strV z.cl.super, f0, g0, m0, p0, cv, q0] 94 (0, 0)) := by
            rw [setCell_at h1]; rfl
          rw [setCell_at h3]; rfl
        · simp [putCF, e]
        · simp only [putCF, e, ↓reduceIte]
          exact ⟨a1.keep goodStr d hS, a2.keep goodFd d hS, a3.keep goodMt d hS, a4.keep goodEn d hS, hc.keep goodStr d hS, hf.keep goodStr d hS⟩
      · refine ⟨cs, (d.block z.at_ (h.o_lt _ (h.own_e z hz)) e).trans h1, ?_⟩
        rw [show putCF x.at_ c f z = z from by simp [putCF, e]]
        exact h2.keep d hS
    nodup := by
      rw [List.map_map]
      rw [show ((fun x : Ent => x.at_) ∘ putCF x.at_ c f) = fun x : Ent => x.at_ from by funext y; simp [putCF_at]]
      exact h.nodup
    uniq := by
      rw [List.map_map]
      rw [show ((fun x : Ent => x.cl.name) ∘ putCF x.at_ c f) = fun x : Ent => x.cl.name from by funext y; simp [putCF_cl]]
      exact h.uniq
    own_b := h.own_b, own_m := h.own_m, own_n := h.own_n
    own_e := fun y hy => by obtain ⟨z, hz, rfl⟩ := List.mem_map.1 hy; rw [putCF_at]; exact h.own_e z hz
    apart := h.apart
    s_lt := fun k hk => Nat.lt_of_lt_of_le (h.s_lt k hk) d.size
    o_lt := fun k hk => Nat.lt_of_lt_of_le (h.o_lt k hk) d.size
    short := fun y hy => by obtain ⟨z, hz, rfl⟩ := List.mem_map.1 hy; rw [putCF_cl]; exact h.short z hz }

/-- What putting a class in leaves: the names' row grown, its block, the map. -/
theorem HW.put {nv' : Value} {w1 w4 : World} {c : Cl} {p : List En} {cs : List Value} {pv : Value} (h : HW S O w b mb nv es lk)
    (hn : OQ 9 1 RStr No w1 nv' ((es.map fun x => x.cl.name) ++ [c.name])) (c1 : Chg (fun k => some k = nv.ownBlock) w w1) (hl : nv'.ownBlock = nv.ownBlock ∨ ∃ k, nv'.ownBlock = some k ∧ w.heap.size ≤ k)
    (hc : RCl S w c cs) (hp : SQ 6 REn S w pv p) (hs : ShortCl c) (hnew : ∀ x ∈ es, x.cl.name ≠ c.name)
    {n : Nat} (hm : StrMap Tryz.prog 9 w4 mb (n + 1) (fun y => if y = c.name then some ((w1.setCell ⟨b, 0, none⟩ nv').heap.size) else atf es y)) (hnn : n ≤ es.length)
    (c4 : ((w1.setCell ⟨b, 0, none⟩ nv').alloc (.cells (cs ++ [pv, .slice none 0 0, .slice none 0 0]).toArray 94)).grownBy w4 (some mb)) :
    ∃ O' : Blocks, HW S O' w4 b mb nv' (es ++ [⟨(w1.setCell ⟨b, 0, none⟩ nv').heap.size, c, p, [], []⟩]) lk ∧ (∀ k, k < w.heap.size → O' k → O k) ∧ (∀ k, O k → O' k) ∧ Chg O w w4 := by
  obtain ⟨k0, hk0⟩ : ∃ k0, k0 = (w1.setCell ⟨b, 0, none⟩ nv').heap.size := ⟨_, rfl⟩
  rw [← hk0] at hm ⊢
  have hsz1 := c1.size
  have hk1 : k0 = w1.heap.size := by rw [hk0]; simp
  have hk : w.heap.size ≤ k0 := by omega
  have hbl := h.o_lt b h.own_b
  have hml := h.o_lt mb h.own_m
  have c2 : Chg (fun k => some k = nv.ownBlock ∨ k = b) w (w1.setCell ⟨b, 0, none⟩ nv') := (c1.mono (S' := fun k => some k = nv.ownBlock ∨ k = b) (fun _ _ e => .inl e)).setCell (p := ⟨b, 0, none⟩) (fun _ => .inr rfl) _
  have c3 := c2.alloc (.cells (cs ++ [pv, .slice none 0 0, .slice none 0 0]).toArray 94)
  have cg := Chg.grown c4
  have cA : Chg (fun k => some k = nv.ownBlock ∨ k = b ∨ k = mb) w w4 :=
    (c3.mono (S' := fun k => some k = nv.ownBlock ∨ k = b ∨ k = mb) (fun _ _ e => e.elim .inl (fun e => .inr (.inl e)))).trans cg (fun k _ e => by simp only [Option.some.injEq] at e; exact .inr (.inr e))
  have hO : ∀ k, (some k = nv.ownBlock ∨ k = b ∨ k = mb) → O k := fun k e => by
    rcases e with e | rfl | rfl
    · exact h.own_n k e.symm
    · exact h.own_b
    · exact h.own_m
  have hS : ∀ k, S k → ¬ (some k = nv.ownBlock ∨ k = b ∨ k = mb) := fun k hk e => h.apart k hk (hO k e)
  have hne : k0 ≠ mb := by omega
  have hent : w4.heap[k0]? = some (.cells (cs ++ [pv, .slice none 0 0, .slice none 0 0]).toArray 94 (0, 0)) := by
    rw [c4.block k0 (by simp; omega) (fun e => hne (by simpa using e)), hk0]
    exact heap_alloc_new _ _
  refine ⟨fun k => O k ∨ k = k0 ∨ nv'.ownBlock = some k, ?_, ?_, fun k hk => .inl hk, cA.mono (fun k _ e => hO k e)⟩
  · exact {
      wc := by
        rw [c4.block b (by simp; omega) (fun e => h.ne_bm (by simpa using e)), Below.heap_alloc _ _ b (by simp; omega)]
        have hb1 : w1.heap[b]? = some (.cells #[nv, .map (some mb), .bool lk] 81 (0, 0)) := (c1.block b hbl (fun e => h.ne_nb e.symm)).trans h.wc
        rw [setCell_at hb1]; rfl
      names := by
        rw [List.map_append]
        have hb1 : w1.heap[b]? = some (.cells #[nv, .map (some mb), .bool lk] 81 (0, 0)) := (c1.block b hbl (fun e => h.ne_nb e.symm)).trans h.wc
        have cB : Chg (fun k => k = b ∨ k = mb) w1 w4 :=
          ((((Chg.refl (fun k => k = b ∨ k = mb) w1).setCell (p := ⟨b, 0, none⟩) (fun _ => .inl rfl) nv').alloc _).trans cg (fun k _ e => by simp only [Option.some.injEq] at e; exact .inr e))
        refine hn.keep goodStr cB (fun k hk e => ?_) (fun k hk => hk.elim)
        obtain ⟨cur, h2⟩ := hn.block hk
        rcases e with rfl | rfl
        · rw [h2] at hb1; simp at hb1
        · obtain ⟨_, _, hm0⟩ := h.map
          obtain ⟨ms, cc, h3⟩ := hm0.block
          have := (c1.block k hml (fun e => h.ne_nm e.symm)).trans h3
          rw [h2] at this; simp at this
      map := by
        refine ⟨n + 1, by simp; exact hnn, ?_⟩
        have e : atf (es ++ [⟨k0, c, p, [], []⟩]) = fun y => if y = c.name then some k0 else atf es y := by
          funext y
          unfold atf
          rw [List.find?_append]
          by_cases hy : y = c.name
          · subst hy
            have : es.find? (fun x => x.cl.name == c.name) = none := List.find?_eq_none.2 (fun x hx => by simp [hnew x hx])
            rw [this]; simp
          · rw [if_neg hy]
            have : (c.name == y) = false := beq_eq_false_iff_ne.2 (fun e => hy e.symm)
            cases hf : es.find? (fun x => x.cl.name == y) <;> simp [this]
        rw [e]; exact hm
      ents := by
        intro x hx
        rcases List.mem_append.1 hx with hx | hx
        · obtain ⟨ds, h1, h2⟩ := h.ents x hx
          exact ⟨ds, (cA.block x.at_ (h.o_lt _ (h.own_e x hx)) (fun e => by
            rcases e with e | e | e
            · exact h.ne_ne hx e.symm
            · exact h.ne_be hx e
            · exact h.ne_me hx e)).trans h1, h2.keep cA hS⟩
        · simp only [List.mem_singleton] at hx
          subst hx
          refine ⟨_, hent, ?_⟩
          obtain ⟨f, g, m, rfl, a1, a2, a3⟩ := hc
          exact ⟨f, g, m, pv, _, _, rfl, a1.keep goodStr cA hS, a2.keep goodFd cA hS, a3.keep goodMt cA hS, hp.keep goodEn cA hS, SQ.nil, SQ.nil⟩
      nodup := by
        rw [List.map_append, List.nodup_append]
        refine ⟨h.nodup, by simp, fun a ha d hd => ?_⟩
        obtain ⟨x, hx, rfl⟩ := List.mem_map.1 ha
        simp only [List.map_cons, List.map_nil, List.mem_singleton] at hd
        have := h.o_lt _ (h.own_e x hx)
        omega
      uniq := by
        rw [List.map_append, List.nodup_append]
        refine ⟨h.uniq, by simp, fun a ha d hd => ?_⟩
        obtain ⟨x, hx, rfl⟩ := List.mem_map.1 ha
        simp only [List.map_cons, List.map_nil, List.mem_singleton] at hd
        rw [hd]; exact hnew x hx
      own_b := .inl h.own_b
      own_m := .inl h.own_m
      own_n := fun k hk => .inr (.inr hk)
      own_e := fun x hx => by
        rcases List.mem_append.1 hx with hx | hx
        · exact .inl (h.own_e x hx)
        · simp only [List.mem_singleton] at hx; subst hx; exact .inr (.inl rfl)
      apart := fun k hk e => by
        have hlt := h.s_lt k hk
        rcases e with e | e | e
        · exact h.apart k hk e
        · omega
        · rcases hl with hl | ⟨j, hj, hj2⟩
          · rw [hl] at e; exact h.apart k hk (h.own_n k e)
          · rw [hj] at e; cases e; omega
      s_lt := fun k hk => Nat.lt_of_lt_of_le (h.s_lt k hk) cA.size
      o_lt := fun k e => by
        rcases e with e | e | e
        · exact Nat.lt_of_lt_of_le (h.o_lt k e) cA.size
        · rw [e]; exact heap_lt hent
        · have h1 := hn.lt k e
          have h2 := cg.size
          simp at h2
          omega
      short := fun x hx => by
        rcases List.mem_append.1 hx with hx | hx
        · exact h.short x hx
        · simp only [List.mem_singleton] at hx; subst hx; exact hs }
  · intro k hlt e
    rcases e with e | e | e
    · exact e
    · omega
    · rcases hl with hl | ⟨j, hj, hj2⟩
      · rw [hl] at e; exact h.own_n k e
      · rw [hj] at e; cases e; omega
end

end Go.Proofs.YtgmmclcpfmnoiaaGreatDoor

namespace Go.Proofs.YtgmmclcpfmnoiaaGreatDoor
open Go.RowKit

def idxZ {α : Type} (p : α → Bool) (xs : List α) : Int := match xs.findIdx? p with | some i => (i : Int) | none => -1
section
variable {α : Type} {p : α → Bool} {xs : List α}
theorem idxZ_hit {k : Nat} (hk : k < xs.length) (h : p xs[k] = true) (hb : ∀ (j : Nat) (hj : j < xs.length), j < k → p xs[j] = false) : idxZ p xs = k := by
  have : xs.findIdx? p = some k := by
    rw [List.findIdx?_eq_some_iff_getElem]
    exact ⟨hk, h, fun j hj => by simp [hb j (by omega) hj]⟩
  unfold idxZ; rw [this]
theorem idxZ_miss (hb : ∀ (j : Nat) (hj : j < xs.length), p xs[j] = false) : idxZ p xs = -1 := by
  have : xs.findIdx? p = none := by
    rw [List.findIdx?_eq_none_iff]
    intro x hx
    obtain ⟨j, hj, rfl⟩ := List.getElem_of_mem hx
    exact hb j hj
  unfold idxZ; rw [this]
theorem idxZ_any : decide (0 ≤ idxZ p xs) = xs.any p := by
  unfold idxZ
  cases h : xs.findIdx? p with
  | none =>
    rw [List.findIdx?_eq_none_iff] at h
    have : xs.any p = false := List.any_eq_false.2 (fun x hx => by simp [h x hx])
    rw [this]; rfl
  | some i =>
    rw [List.findIdx?_eq_some_iff_getElem] at h
    obtain ⟨hi, hp, -⟩ := h
    have : xs.any p = true := List.any_eq_true.2 ⟨xs[i], List.getElem_mem hi, hp⟩
    rw [this]; simp
theorem idxZ_range : -1 ≤ idxZ p xs ∧ idxZ p xs < xs.length + 1 := by
  unfold idxZ
  cases h : xs.findIdx? p with
  | none => simp; omega
  | some i =>
    rw [List.findIdx?_eq_some_iff_getElem] at h
    obtain ⟨hi, -⟩ := h
    simp; omega
end
/-- A function value that tests elements as p does. -/
def Tests {α : Type} (P : Program) (R : Reading α) (arg : List Value → Value) (S : Blocks) (w : World) (g : Nat) (lb : Array Value) (p : α → Bool) (xs : List α) : Prop :=
  ∀ (W : World) (x : α) (cs : List Value), x ∈ xs → Chg No w W → R S W x cs → Calls P g (#[arg cs] ++ lb) W fun e w' => e = .returned (.bool (p x)) ∧ Chg No W w'
/-- One cell, as a value; several. -/
def one1 (cs : List Value) : Value := cs.headD undef
def aggN (cs : List Value) : Value := .agg cs.toArray
/-- A function of the program enters. -/
abbrev Ent1 (P : Program) (g : Nat) : Prop := ∀ (args : Array Value) (w : World), (callFunc g args).run P w = .ok (.enter g args) w

end Go.Proofs.YtgmmclcpfmnoiaaGreatDoor

namespace Go.Proofs.YtgmmclcpfmnoiaaGreatDoor
open Go.RowKit

abbrev zStr : Value := .string ⟨#[]⟩
abbrev zInt : Value := .int .i64 0
abbrev zNil : Value := .slice none 0 0
theorem info_str : (Tryz.prog.info? 9).map (fun i => (i.zero, i.size, i.bytes)) = some (some zStr, 1, 16) := by kernel_rfl
theorem info_byte : (Tryz.prog.info? 5).map (fun i => (i.zero, i.size, i.bytes)) = some (some (.int .u8 0), 1, 1) := by kernel_rfl
theorem info_ty : (Tryz.prog.info? 26).map (fun i => (i.zero, i.size, i.bytes)) = some (some (.agg #[zInt, zStr]), 2, 24) := by kernel_rfl
theorem info_fd : (Tryz.prog.info? 41).map (fun i => (i.zero, i.size, i.bytes)) = some (some (.agg #[zInt, zStr, zInt, zStr]), 4, 48) := by kernel_rfl
theorem info_hd : (Tryz.prog.info? 132).map (fun i => (i.zero, i.size, i.bytes)) = some (some (.agg #[zInt, zInt, zInt, zStr]), 4, 40) := by kernel_rfl
theorem info_mt : (Tryz.prog.info? 32).map (fun i => (i.zero, i.size, i.bytes)) = some (some (.agg #[zInt, zStr, zNil, .bool false, zInt, zStr, zInt, zInt, zNil, zNil]), 10, 144) := by kernel_rfl
theorem info_cl : (Tryz.prog.info? 37).map (fun i => (i.zero, i.size, i.bytes)) = some (some (.agg #[zInt, zStr, zStr, zNil, zNil, zNil]), 6, 112) := by kernel_rfl
theorem info_en : (Tryz.prog.info? 122).map (fun i => (i.zero, i.size, i.bytes)) = some (some (.agg #[zInt, zStr, zInt, zInt, zInt, zInt]), 6, 56) := by kernel_rfl

end Go.Proofs.YtgmmclcpfmnoiaaGreatDoor
