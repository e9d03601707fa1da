/-
  A class's own method, the nearest one of a chain: walked at any world.
-/
import Derived.Test.YtgmmclcpfmnoiaaGreatDoorChain
import Derived.Test.YtgmmclcpfmnoiaaGreatDoorModF
namespace Go.Proofs.YtgmmclcpfmnoiaaGreatDoor
open Go.RowKit

/-- What a machine may hold, of a world's classes. -/
structure WOk (es : List Ent) : Prop where
  ok : ∀ x ∈ es, OkCl x.cl
  mlen : ∀ x ∈ es, x.cl.methods.length ≤ 1000
  flen : ∀ x ∈ es, x.cl.fields.length ≤ 1000
  faces : ∀ x ∈ es, x.cl.faces.length ≤ 1000
  name : ∀ x ∈ es, x.cl.name ≠ []
abbrev mtP (n : Bs) (g : Sg) (m : Mt) : Bool := m.name == n && m.sig == g
/-- The nearest method, with its class's place in memory. -/
def nearX (es : List Ent) (n : Bs) (g : Sg) : List Bs → Option (Ent × Nat)
  | [] => none
  | s :: l => match es.find? (fun x => x.cl.name == s) with
    | none => nearX es n g l
    | some x => match x.cl.methods.findIdx? (mtP n g) with
      | some i => some (x, i)
      | none => nearX es n g l
def nearV : Option (Ent × Nat) → Value
  | none => .tuple #[.pointer none, .int .i64 (-1)]
  | some (x, i) => .tuple #[.pointer (some ⟨x.at_, 0, none⟩), .int .i64 i]
theorem nearX_mem {es : List Ent} {n : Bs} {g : Sg} : ∀ {l : List Bs} {x : Ent} {i : Nat}, nearX es n g l = some (x, i) → x ∈ es ∧ x.cl.methods.findIdx? (mtP n g) = some i
  | [], _, _, h => by cases h
  | s :: l, x, i, h => by
    unfold nearX at h
    cases hf : es.find? (fun x => x.cl.name == s) with
    | none => rw [hf] at h; exact nearX_mem h
    | some y =>
      rw [hf] at h
      simp only at h
      cases hi : y.cl.methods.findIdx? (mtP n g) with
      | none => rw [hi] at h; exact nearX_mem h
      | some j =>
        rw [hi] at h
        simp only [Option.some.injEq, Prod.mk.injEq] at h
        obtain ⟨rfl, rfl⟩ := h
        exact ⟨List.mem_of_find?_eq_some hf, hi⟩
theorem nearX_plain {es : List Ent} {n : Bs} {g : Sg} : ∀ {l : List Bs}, (∀ s ∈ l, ∃ x, es.find? (fun x => x.cl.name == s) = some x) → nearestM (cls es) l n g = (nearX es n g l).map fun p => (p.1.cl, p.2)
  | [], _ => rfl
  | s :: l, h => by
    obtain ⟨x, hx⟩ := h s (List.mem_cons_self ..)
    have ih := nearX_plain (es := es) (n := n) (g := g) (l := l) (fun s hs => h s (List.mem_cons_of_mem _ hs))
    unfold nearX nearestM
    rw [hx, find_cls, hx]
    simp only [Option.map_some]
    unfold methIx
    cases x.cl.methods.findIdx? (mtP n g) with
    | none => exact ih
    | some i => rfl
theorem atf_find {es : List Ent} {s : Bs} {k : Nat} (h : atf es s = some k) : ∃ x ∈ es, es.find? (fun x => x.cl.name == s) = some x ∧ x.at_ = k ∧ x.cl.name = s := by
  unfold atf at h
  obtain ⟨x, hx, rfl⟩ := Option.map_eq_some_iff.1 h
  exact ⟨x, List.mem_of_find?_eq_some hx, hx, rfl, by have := List.find?_some hx; simpa using this⟩
theorem find_atf {es : List Ent} {s : Bs} {x : Ent} (h : es.find? (fun x => x.cl.name == s) = some x) : atf es s = some x.at_ := by unfold atf; rw [h]; rfl

set_option maxHeartbeats 1600000 in
theorem methF_c (w : World) {S T : Blocks} (x : Mt) (v cv hv gv : Value) (n : Bs) (g : Sg) (hx : SQ 2 RTy S w v x.sig.params) (hc : SQ 1 RByte S w cv x.code) (hh : SQ 4 RHd S w hv x.handlers) (hg : SQ 2 RTy T w gv g.params) (ox : x.sig.params.length ≤ maxLen) (og : g.params.length ≤ maxLen)
    (kn ks : Nat) (hn : w.heap[kn]? = some (.cells #[strV n] 9 (0, 0))) (hs : w.heap[ks]? = some (.cells (sgA g gv) 28 (0, 0))) :
    Calls Tryz.prog 111 #[.agg (mtC x v cv hv), .pointer (some ⟨kn, 0, none⟩), .pointer (some ⟨ks, 0, none⟩)] w fun en w' => en = .returned (.bool (mtP n g x)) ∧ Chg No w w' := by
  obtain ⟨a, c, rfl, -, -⟩ := hx.form
  obtain ⟨a', c', rfl, -, -⟩ := hg.form
  obtain ⟨a2, c2, rfl, -, -⟩ := hc.form
  obtain ⟨a3, c3, rfl, -, -⟩ := hh.form
  have hB := alloc_blk (o2 := .cells (mtC x (.slice a x.sig.params.length c) (.slice a2 x.code.length c2) (.slice a3 x.handlers.length c3)) 32) hn
  have hB2 := alloc_blk (o2 := .cells (mtC x (.slice a x.sig.params.length c) (.slice a2 x.code.length c2) (.slice a3 x.handlers.length c3)) 32) hs
  have k0 := blk_cell hB (j := 0) rfl
  have s0 := blk_cell hB2 (j := 0) rfl
  have s1 := blk_cell hB2 (j := 1) rfl
  have s2 := blk_cell hB2 (j := 2) rfl
  have s3 := blk_cell hB2 (j := 3) rfl
  have HX := Lib.hid (And.intro (hx.new goodTy ((Chg.refl No w).alloc (.cells (mtC x (.slice a x.sig.params.length c) (.slice a2 x.code.length c2) (.slice a3 x.handlers.length c3)) 32))) (hg.new goodTy ((Chg.refl No w).alloc (.cells (mtC x (.slice a x.sig.params.length c) (.slice a2 x.code.length c2) (.slice a3 x.handlers.length c3)) 32))))
  clear hB hB2 hn hs hx hg hc hh
  cases hne : x.name == n with
  | true =>
    have HN := Lib.hid hne
    go_enter Tryz.func111, Tryz.ntmps111
    go_wp2_with fail
    refine (sgSame_c _ x.sig g _ _ HX.out.1 HX.out.2 ox og).mono ?_
    rintro e w1 ⟨rfl, d⟩
    have D := Lib.hid d; clear d
    go_wp2
    go_ret
    exact ⟨by unfold mtP; rw [HN.out, Bool.true_and]; rfl, ((Chg.refl No w).alloc _).trans D.out (fun _ _ h => h)⟩
  | false =>
    have HN := Lib.hid hne
    go_enter Tryz.func111, Tryz.ntmps111
    go_wp2
    go_ret
    exact ⟨by unfold mtP; rw [HN.out, Bool.false_and]; rfl, (Chg.refl No w).alloc _⟩

section
variable {S O : Blocks} {w : World} {b mb : Nat} {nv : Value} {es : List Ent} {lk : Bool}
set_option maxRecDepth 100000 in
set_option maxHeartbeats 3200000 in
theorem entMethod_c (h : HW S O w b mb nv es lk) (hw : WOk es) (x : Ent) (hx : x ∈ es) (T : Blocks) (n : Bs) (g : Sg) (gv : Value) (hg : SQ 2 RTy T w gv g.params) (og : g.params.length ≤ maxLen) :
    Calls Tryz.prog 85 #[.pointer (some ⟨x.at_, 0, none⟩), strV n, .agg (sgA g gv)] w fun en w' => en = .returned (.int .i64 (idxZ (mtP n g) x.cl.methods)) ∧ Chg No w w' := by
  obtain ⟨a, c, rfl, -, -⟩ := hg.form
  have hxl := h.o_lt _ (h.own_e x hx)
  obtain ⟨f, fg, m, p, c', q, ⟨-, -, -, -, -, e5, -⟩, -, -, q3, -⟩ := h.cells hx
  obtain ⟨a3, d3, rfl, -, -⟩ := q3.form
  have hmf : ∀ (fn : Fn) (first cap : Array Value) (w : World), (Instr.makeFunc fn first cap).run Tryz.prog w = .ok (.func fn first cap) w := fun _ _ _ _ => rfl
  have c2 : Chg No w ((w.alloc (.cells #[strV n] 9)).alloc (.cells (sgA g (.slice a g.params.length c)) 28)) := ((Chg.refl _ _).alloc _).alloc _
  have Q := Lib.hid (And.intro (q3.new goodMt c2) (And.intro hg (And.intro (hw.ok x hx).methods (hw.mlen x hx))))
  have eg : ∀ (args : Array Value) (w : World), (callFunc 111 args).run Tryz.prog w = .ok (.enter 111 args) w := enters_of Tryz.func111 (by kernel_rfl) rfl
  have EG := Lib.hid eg
  clear h hw q3 c2 eg hg
  go_enter Tryz.func85, Tryz.ntmps85
  go_wp2_with fail
  refine (indexFunc_mt S _ _ x.cl.methods Q.out.1 (by have := Q.out.2.2.2; omega) 111 _ EG.out (mtP n g) (fun W y ds hy hW hR => ?_)).mono ?_
  · obtain ⟨va, vc, vh, rfl, r1, r2, r3⟩ := hR
    have hW2 : Chg No w W := (((Chg.refl No w).alloc _).alloc _).trans hW (fun _ _ h => h)
    have b0 := hW.blk (alloc_blk (heap_alloc_new w (.cells #[strV n] 9)))
    have b1 := hW.blk (heap_alloc_new (w.alloc (.cells #[strV n] 9)) (.cells (sgA g (.slice a g.params.length c)) 28))
    rw [size_al1] at b1
    exact methF_c W y va vc vh _ n g r1 r2 r3 (Q.out.2.1.new goodTy hW2) (Q.out.2.2.1 y hy).params og w.heap.size (w.heap.size + 1) b0 b1
  · rintro e w1 ⟨rfl, d⟩
    go_wp2
    go_ret
    exact ⟨rfl, (((Chg.refl No w).alloc _).alloc _).trans d (fun _ _ h => h)⟩

set_option maxRecDepth 100000 in
set_option maxHeartbeats 6400000 in
theorem nearest_c (h : HW S O w b mb nv es lk) (hw : WOk es) (T U : Blocks) (v : Value) (l : List Bs) (hv : SQ 1 RStr U w v l) (hl : l.length ≤ 1000000) (hall : ∀ s ∈ l, ∃ k, atf es s = some k) (n : Bs) (g : Sg) (gv : Value) (hg : SQ 2 RTy T w gv g.params) (og : g.params.length ≤ maxLen) :
    Calls Tryz.prog 47 #[.pointer (some ⟨b, 0, none⟩), v, strV n, .agg (sgA g gv)] w fun en w' => en = .returned (nearV (nearX es n g l)) ∧ Chg No w w' := by
  obtain ⟨a, c, rfl, -, -⟩ := hg.form
  obtain ⟨va, vc, rfl, -, -⟩ := hv.form
  have hbl := h.o_lt b h.own_b
  have H := Lib.hid (And.intro h (And.intro hv (And.intro hall (And.intro hw hg))))
  clear h hv hall hw hg
  go_enter Tryz.func47, Tryz.ntmps47
  go_wp2
  go_loopw [15] (fun i wr => ∃ k : Nat, k ≤ l.length ∧ i = .int .i64 k ∧ RowKit.Hid (Chg No w wr ∧ wr.heap[w.heap.size]? = some (.cells (sgA g (.slice a g.params.length c)) 28 (0, 0)) ∧ nearX es n g l = nearX es n g (l.drop k))) (fun i _ => l.length - (intOf i).toNat)
  case atStart => exact ⟨0, Nat.zero_le _, rfl, Lib.hid ⟨(Chg.refl _ _).alloc _, heap_alloc_new _ _, rfl⟩⟩
  case round =>
    obtain ⟨k, hk, rfl, hI⟩ := hrel
    by_cases hlt : k < l.length
    · obtain ⟨b', o, ds, rfl, hcl, hR, hbl', hsb, hcell⟩ := SQ.cells (H.out.2.1.new goodStr hI.out.1) k hlt
      obtain rfl := hR
      have g0 := hcell 0 _ rfl
      rw [Nat.mul_one, Nat.add_zero] at g0
      clear hcell hcl
      obtain ⟨kx, hat⟩ := H.out.2.2.1 l[k] (List.getElem_mem hlt)
      obtain ⟨x, hx, hfx, rfl, hxn⟩ := atf_find hat
      have hdr := List.drop_eq_getElem_cons hlt
      have hW := H.out.1.new hI.out.1
      have k1 := hW.c1
      have hsh : Short l[k] := by rw [← hxn]; exact (H.out.1.short x hx).name
      have kL := (hW.new (Chg.refl No wr).drew).lookE hsh hat
      have s0 := blk_cell hI.out.2.1 (j := 0) rfl
      have s1 := blk_cell hI.out.2.1 (j := 1) rfl
      have s2 := blk_cell hI.out.2.1 (j := 2) rfl
      have s3 := blk_cell hI.out.2.1 (j := 3) rfl
      have HM := Lib.hid (entMethod_c (hW.new (Chg.refl No wr).drew) H.out.2.2.2.1 x hx T n g _ (H.out.2.2.2.2.new goodTy hI.out.1.drew) og)
      have HX := Lib.hid (And.intro hx (And.intro hsh (And.intro hat (And.intro hfx hdr))))
      clear hW hx hsh hat hfx hdr hxn
      cases hi : x.cl.methods.findIdx? (mtP n g) with
      | some i =>
        have hin : idxZ (mtP n g) x.cl.methods = (i : Int) := by unfold idxZ; rw [hi]
        rw [hin] at HM
        have hnx : nearX es n g l = some (x, i) := by
          rw [hI.out.2.2, HX.out.2.2.2.2]; unfold nearX; rw [HX.out.2.2.2.1]; simp only [hi]
        have HR := Lib.hid hnx
        clear hin hi hnx
        have hin' : (i : Int) ≥ 0 := by omega
        go_wp2_with fail
        go_region_with (go_at_call 85; refine HM.out.mono ?_; rintro e w1 ⟨rfl, d⟩; have C1 := Lib.hid ((hI.out.1.drew).trans d (fun _ _ h => h)); have hW1 := H.out.1.new C1.out; have kk := hW1.c1; have kl := hW1.lookE HX.out.2.1 HX.out.2.2.1; clear d hW1)
        all_goals go_wp2
        all_goals go_ret2
        all_goals exact ⟨by rw [HR.out]; rfl, C1.out⟩
      | none =>
        have hin : idxZ (mtP n g) x.cl.methods = -1 := by unfold idxZ; rw [hi]
        rw [hin] at HM
        have hnx : nearX es n g l = nearX es n g (l.drop (k + 1)) := by
          rw [hI.out.2.2, HX.out.2.2.2.2]; conv => lhs; unfold nearX
          rw [HX.out.2.2.2.1]; simp only [hi]
        have HR := Lib.hid hnx
        clear hin hi hnx
        go_wp2_with fail
        go_region_with (go_at_call 85; refine HM.out.mono ?_; rintro e w1 ⟨rfl, d⟩; have C1 := Lib.hid ((hI.out.1.drew).trans d (fun _ _ h => h)); have B1 := Lib.hid ((d.block w.heap.size (heap_lt hI.out.2.1) (fun h => h)).trans hI.out.2.1); clear d)
        all_goals go_wp2
        all_goals go_roundw
        all_goals first
          | exact ⟨k + 1, by omega, by go_num, Lib.hid ⟨C1.out, B1.out, HR.out⟩⟩
          | (simp [intOf]; omega)
    · go_wp2
      go_ret2
      have hd : l.drop k = [] := List.drop_eq_nil_of_le (by omega)
      exact ⟨by rw [hI.out.2.2, hd]; rfl, hI.out.1⟩
end

end Go.Proofs.YtgmmclcpfmnoiaaGreatDoor
