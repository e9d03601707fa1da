/-
  The document's world of classes in memory: its own block, the rows of classes and of pools.
-/
import Derived.Test.YtgmmclcpfmnoiaaGreatDoorMore
import Derived.Test.YtgmmclcpfmnoiaaGreatDoorInfos
import Derived.Test.YtgmmclcpfmnoiaaGreatDoorNew
namespace Go.Proofs.YtgmmclcpfmnoiaaGreatDoor
open Go.RowKit

/-- A pool in a row of pools. -/
def RPl : Reading (List En) := fun S w x cs => ∃ v, cs = [v] ∧ SQ 6 REn S w v x
theorem goodPl : Good RPl := ⟨fun ⟨v, h1, h2⟩ c hn => ⟨v, h1, h2.keep goodEn c hn⟩, fun ⟨v, h1, h2⟩ hn => ⟨v, h1, h2.mono goodEn hn⟩, fun ⟨v, h1, h2⟩ u hu => by
  obtain ⟨a, cap, rfl, -, -⟩ := h2.form
  rw [h1] at hu; simp only [List.mem_cons, List.not_mem_nil, or_false] at hu; subst hu; rfl⟩
theorem info_pl : (Tryz.prog.info? 45).map (fun i => (i.zero, i.size, i.bytes)) = some (some zNil, 1, 24) := by kernel_rfl

structure RW (S O : Blocks) (w : World) (b : Nat) (cv pv : Value) (cs : List Cl) (ps : List (List En)) (lk : Bool) : Prop where
  wc : w.heap[b]? = some (.cells #[cv, pv, .bool lk] 158 (0, 0))
  cl : OQ 37 6 RCl S w cv cs
  po : OQ 45 1 RPl S w pv ps
  own_b : O b
  own_c : ∀ k, cv.ownBlock = some k → O k
  own_p : ∀ k, pv.ownBlock = some k → O k
  apart : ∀ k, S k → ¬ O k
  s_lt : ∀ k, S k → k < w.heap.size
  o_lt : ∀ k, O k → k < w.heap.size
section
variable {S O T S' : Blocks} {w w' w1 : World} {b : Nat} {cv pv cv' pv' : Value} {cs : List Cl} {ps : List (List En)} {lk : Bool}
theorem RW.keep (h : RW S O w b cv pv cs ps lk) (c : Chg T w w') (hS : ∀ k, S k → ¬ T k) (hO : ∀ k, O k → ¬ T k) : RW S O w' b cv pv cs ps lk where
  wc := (c.block b (h.o_lt b h.own_b) (hO b h.own_b)).trans h.wc
  cl := h.cl.keep goodCl c (fun k hk => hO k (h.own_c k hk)) hS
  po := h.po.keep goodPl c (fun k hk => hO k (h.own_p k hk)) hS
  own_b := h.own_b
  own_c := h.own_c
  own_p := h.own_p
  apart := h.apart
  s_lt := fun k hk => Nat.lt_of_lt_of_le (h.s_lt k hk) c.size
  o_lt := fun k hk => Nat.lt_of_lt_of_le (h.o_lt k hk) c.size
theorem RW.new (h : RW S O w b cv pv cs ps lk) (c : Chg No w w') : RW S O w' b cv pv cs ps lk := h.keep c (fun _ _ h => h) (fun _ _ h => h)
theorem RW.grow (h : RW S O w b cv pv cs ps lk) (hST : ∀ k, S k → T k) (hlt : ∀ k, T k → k < w.heap.size) (ha : ∀ k, T k → ¬ O k) : RW T O w b cv pv cs ps lk where
  wc := h.wc
  cl := h.cl.mono goodCl hST
  po := h.po.mono goodPl hST
  own_b := h.own_b
  own_c := h.own_c
  own_p := h.own_p
  apart := ha
  s_lt := hlt
  o_lt := h.o_lt
theorem RW.c0 (h : RW S O w b cv pv cs ps lk) : w.cell? ⟨b, 0, none⟩ = some cv := blk_cell h.wc rfl
theorem RW.c1 (h : RW S O w b cv pv cs ps lk) : w.cell? ⟨b, 1, none⟩ = some pv := blk_cell h.wc rfl
theorem RW.c2 (h : RW S O w b cv pv cs ps lk) : w.cell? ⟨b, 2, none⟩ = some (.bool lk) := blk_cell h.wc rfl
theorem RW.ne_c (h : RW S O w b cv pv cs ps lk) : cv.ownBlock ≠ some b := fun e => by
  obtain ⟨cur, h2⟩ := h.cl.block e
  rw [h.wc] at h2; simp at h2
theorem RW.ne_p (h : RW S O w b cv pv cs ps lk) : pv.ownBlock ≠ some b := fun e => by
  obtain ⟨cur, h2⟩ := h.po.block e
  rw [h.wc] at h2; simp at h2
theorem RW.ne_cp (h : RW S O w b cv pv cs ps lk) : ∀ k, cv.ownBlock = some k → pv.ownBlock ≠ some k := fun k e e2 => by
  obtain ⟨cur, h2⟩ := h.cl.block e
  obtain ⟨cur2, h3⟩ := h.po.block e2
  rw [h3] at h2; simp at h2
/-- The mark. -/
theorem RW.mark (h : RW S O w b cv pv cs ps lk) (l : Bool) : RW S O (w.setCell ⟨b, 2, none⟩ (.bool l)) b cv pv cs ps l := by
  have c : Chg (· = b) w (w.setCell ⟨b, 2, none⟩ (.bool l)) := chg_setCell w b 2 _
  have hS : ∀ k, S k → ¬ k = b := fun k hk e => h.apart k hk (by rw [e]; exact h.own_b)
  exact {
    wc := by rw [setCell_at h.wc]; rfl
    cl := h.cl.keep goodCl c (fun k hk e => h.ne_c (by rw [hk, e])) hS
    po := h.po.keep goodPl c (fun k hk e => h.ne_p (by rw [hk, e])) hS
    own_b := h.own_b, own_c := h.own_c, own_p := h.own_p, apart := h.apart
    s_lt := fun k hk => Nat.lt_of_lt_of_le (h.s_lt k hk) c.size
    o_lt := fun k hk => Nat.lt_of_lt_of_le (h.o_lt k hk) c.size }
/-- A row of classes grown: the append's world w1, then the field's store. -/
theorem RW.addC (h : RW S O w b cv pv cs ps lk) {cs' : List Cl} (ho : OQ 37 6 RCl S w1 cv' cs') (c : Chg (fun k => some k = cv.ownBlock) w w1) (hl : cv'.ownBlock = cv.ownBlock ∨ ∃ k, cv'.ownBlock = some k ∧ w.heap.size ≤ k) :
    RW S (fun k => O k ∨ cv'.ownBlock = some k) (w1.setCell ⟨b, 0, none⟩ cv') b cv' pv cs' ps lk ∧ Chg O w (w1.setCell ⟨b, 0, none⟩ cv') := by
  have hb := h.o_lt b h.own_b
  have hwc : w1.heap[b]? = some (.cells #[cv, pv, .bool lk] 158 (0, 0)) := (c.block b hb (fun e => h.ne_c e.symm)).trans h.wc
  have cs2 : Chg (· = b) w1 (w1.setCell ⟨b, 0, none⟩ cv') := chg_setCell w1 b 0 _
  have cO : Chg O w (w1.setCell ⟨b, 0, none⟩ cv') := (c.mono (S' := O) (fun k _ e => h.own_c k e.symm)).trans cs2 (fun k _ e => by rw [e]; exact h.own_b)
  have hnb : ∀ k, cv'.ownBlock = some k → ¬ k = b := fun k hk e => by
    rcases hl with hl | ⟨j, hj, hj2⟩
    · rw [hl] at hk; exact h.ne_c (by rw [hk, e])
    · rw [hj] at hk; cases hk; omega
  refine ⟨{
    wc := by rw [setCell_at hwc]; rfl
    cl := ho.keep goodCl cs2 hnb (fun k hk e => h.apart k hk (by rw [e]; exact h.own_b))
    po := (h.po.keep goodPl c (fun k hk e => h.ne_cp k e.symm hk) (fun k hk e => h.apart k hk (h.own_c k e.symm))).keep goodPl cs2 (fun k hk e => h.ne_p (by rw [hk, e])) (fun k hk e => h.apart k hk (by rw [e]; exact h.own_b))
    own_b := .inl h.own_b, own_c := fun k hk => .inr hk, own_p := fun k hk => .inl (h.own_p k hk)
    apart := fun k hk e => by
      rcases e with e | e
      · exact h.apart k hk e
      · rcases hl with hl | ⟨j, hj, hj2⟩
        · rw [hl] at e; exact h.apart k hk (h.own_c k e)
        · rw [hj] at e; cases e; have := h.s_lt _ hk; omega
    s_lt := fun k hk => Nat.lt_of_lt_of_le (h.s_lt k hk) cO.size
    o_lt := fun k e => by
      rcases e with e | e
      · exact Nat.lt_of_lt_of_le (h.o_lt k e) cO.size
      · have := ho.lt k e; simpa using this }, cO⟩
theorem RW.addP (h : RW S O w b cv pv cs ps lk) {ps' : List (List En)} (ho : OQ 45 1 RPl S w1 pv' ps') (c : Chg (fun k => some k = pv.ownBlock) w w1) (hl : pv'.ownBlock = pv.ownBlock ∨ ∃ k, pv'.ownBlock = some k ∧ w.heap.size ≤ k) :
    RW S (fun k => O k ∨ pv'.ownBlock = some k) (w1.setCell ⟨b, 1, none⟩ pv') b cv pv' cs ps' lk ∧ Chg O w (w1.setCell ⟨b, 1, none⟩ pv') := by
  have hb := h.o_lt b h.own_b
  have hwc : w1.heap[b]? = some (.cells #[cv, pv, .bool lk] 158 (0, 0)) := (c.block b hb (fun e => h.ne_p e.symm)).trans h.wc
  have cs2 : Chg (· = b) w1 (w1.setCell ⟨b, 1, none⟩ pv') := chg_setCell w1 b 1 _
  have cO : Chg O w (w1.setCell ⟨b, 1, none⟩ pv') := (c.mono (S' := O) (fun k _ e => h.own_p k e.symm)).trans cs2 (fun k _ e => by rw [e]; exact h.own_b)
  have hnb : ∀ k, pv'.ownBlock = some k → ¬ k = b := fun k hk e => by
    rcases hl with hl | ⟨j, hj, hj2⟩
    · rw [hl] at hk; exact h.ne_p (by rw [hk, e])
    · rw [hj] at hk; cases hk; omega
  refine ⟨{
    wc := by rw [setCell_at hwc]; rfl
    po := ho.keep goodPl cs2 hnb (fun k hk e => h.apart k hk (by rw [e]; exact h.own_b))
    cl := (h.cl.keep goodCl c (fun k hk e => h.ne_cp k hk e.symm) (fun k hk e => h.apart k hk (h.own_p k e.symm))).keep goodCl cs2 (fun k hk e => h.ne_c (by rw [hk, e])) (fun k hk e => h.apart k hk (by rw [e]; exact h.own_b))
    own_b := .inl h.own_b, own_p := fun k hk => .inr hk, own_c := fun k hk => .inl (h.own_c k hk)
    apart := fun k hk e => by
      rcases e with e | e
      · exact h.apart k hk e
      · rcases hl with hl | ⟨j, hj, hj2⟩
        · rw [hl] at e; exact h.apart k hk (h.own_p k e)
        · rw [hj] at e; cases e; have := h.s_lt _ hk; omega
    s_lt := fun k hk => Nat.lt_of_lt_of_le (h.s_lt k hk) cO.size
    o_lt := fun k e => by
      rcases e with e | e
      · exact Nat.lt_of_lt_of_le (h.o_lt k e) cO.size
      · have := ho.lt k e; simpa using this }, cO⟩
/-- An empty one. -/
theorem RW.init (w : World) : RW No (fun k => k = w.heap.size) (w.alloc (.cells #[zNil, zNil, .bool false] 158)) w.heap.size zNil zNil [] [] false where
  wc := heap_alloc_new _ _
  cl := OQ.nil _ _ _ _
  po := OQ.nil _ _ _ _
  own_b := rfl
  own_c := fun k hk => by cases hk
  own_p := fun k hk => by cases hk
  apart := fun k hk => hk.elim
  s_lt := fun k hk => hk.elim
  o_lt := fun k hk => by simp; omega
end

/-- A world of the first k classes. -/
structure RNewI (w : World) (k : Nat) (wr : World) (S O : Blocks) (cv pv : Value) : Prop where
  rw_ : RW S O wr w.heap.size cv pv (firsts.take k) (List.replicate k []) false
  newO : ∀ n, O n → n ≠ w.heap.size + 1 ∧ w.heap.size ≤ n
  newS : ∀ n, S n → w.heap.size ≤ n
  chg : Chg No w wr
  lit : wr.heap[w.heap.size + 1]? = some (.cells namesV 9 (0, 0))

end Go.Proofs.YtgmmclcpfmnoiaaGreatDoor
