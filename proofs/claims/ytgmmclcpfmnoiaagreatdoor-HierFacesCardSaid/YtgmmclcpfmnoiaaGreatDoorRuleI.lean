/-
  The rule overrides of Link, walked at any world.
-/
import Derived.Test.YtgmmclcpfmnoiaaGreatDoorRuleG
namespace Go.Proofs.YtgmmclcpfmnoiaaGreatDoor
open Go.RowKit

theorem findIdx_lt {α : Type} {p : α → Bool} {l : List α} {i : Nat} (h : l.findIdx? p = some i) : i < l.length := by
  rw [List.findIdx?_eq_some_iff_getElem] at h
  exact h.1
/-- What the code of overrides asks of a method. -/
def clashX (es : List Ent) (up : List Bs) (m : Mt) : Bool :=
  !(m.name == initName) && match nearX es m.name m.sig up with
    | none => false
    | some (y, i) => m.flags == 4 || (match y.cl.methods[i]? with | some z => z.flags == 4 | none => false)
theorem clashX_plain {es : List Ent} {up : List Bs} (h : ∀ s ∈ up, ∃ x, es.find? (fun x => x.cl.name == s) = some x) (m : Mt) : clashX es up m = clashB (cls es) up m := by
  unfold clashX clashB
  rw [nearX_plain h]
  cases nearX es m.name m.sig up with
  | none => rfl
  | some p => rfl
/-- All but the first. -/
theorem SQ.tail1 {α : Type} {R : Reading α} {S : Blocks} {w : World} {g len cap : Nat} {xs : List α} (h : SQ 1 R S w (.slice (some ⟨g, 0, none⟩) len cap) xs) (h2 : 1 ≤ xs.length) : SQ 1 R S w (.slice (some ⟨g, 1, none⟩) (len - 1) (cap - 1)) xs.tail := by
  obtain ⟨a', cap', he, h3, -, h5⟩ := h
  cases he
  obtain ⟨-, h6, h7, h8⟩ := h5 _ rfl (fun e => by rw [e] at h2; simp at h2)
  refine ⟨_, cap - 1, by rw [List.length_tail], by rw [List.length_tail]; omega, (fun h => by cases h), fun p hp _ => ?_⟩
  cases hp
  refine ⟨rfl, h6, h7, fun i x hi => ?_⟩
  rw [List.getElem?_tail] at hi
  obtain ⟨cs, h9, h10, h11⟩ := h8 (i + 1) x hi
  refine ⟨cs, h9, h10, ?_⟩
  rw [add_mk] at h11 ⊢
  rw [show 1 + i * 1 = 0 + (i + 1) * 1 from by omega]
  exact h11
section
variable {S O : Blocks} {w : World} {b mb : Nat} {nv : Value} {es : List Ent} {lk : Bool}
/-- A method of a class in memory. -/
theorem HW.meth (h : HW S O w b mb nv es lk) {y : Ent} (hy : y ∈ es) {i : Nat} (hi : i < y.cl.methods.length) : ∃ ab ao cp, w.cell? ⟨y.at_, 5, none⟩ = some (.slice (some ⟨ab, ao, none⟩) y.cl.methods.length cp) ∧ w.cell? ⟨ab, ao + i * 10, none⟩ = some (.int .i64 y.cl.methods[i].flags) := by
  obtain ⟨f, g, m, p, c, q, ⟨-, -, -, -, -, e5, -⟩, -, -, q3, -⟩ := h.cells hy
  obtain ⟨a1, d1, rfl, -, -⟩ := q3.form
  obtain ⟨b', o, ds, rfl, hcl, hR, -, -, hcell⟩ := SQ.cells q3 i hi
  obtain ⟨v, cv, hv, rfl, -⟩ := hR
  have h0 := hcell 0 _ rfl
  rw [Nat.add_zero] at h0
  exact ⟨_, _, _, e5, h0⟩

set_option maxRecDepth 100000 in
set_option maxHeartbeats 6400000 in
theorem overF_c (h : HW S O w b mb nv es lk) (hw : WOk es) (T U : Blocks) (m : Mt) (v cv hv : Value) (hx : SQ 2 RTy T w v m.sig.params) (hc : SQ 1 RByte T w cv m.code) (hh : SQ 4 RHd T w hv m.handlers) (ox : m.sig.params.length ≤ maxLen) (kb kc : Nat) (uv : Value) (up : List Bs) (hu : SQ 1 RStr U w uv up) (hl : up.length ≤ 1000000) (hall : ∀ s ∈ up, ∃ k, atf es s = some k)
    (hb : w.heap[kb]? = some (.cells #[.pointer (some ⟨b, 0, none⟩)] 42 (0, 0))) (hk : w.heap[kc]? = some (.cells #[uv] 34 (0, 0))) :
    Calls Tryz.prog 82 #[.agg (mtC m v cv hv), .pointer (some ⟨kb, 0, none⟩), .pointer (some ⟨kc, 0, none⟩)] w fun e w' => e = .returned (.bool (clashX es up m)) ∧ Chg No w w' := by
  obtain ⟨a, c, rfl, -, -⟩ := hx.form
  obtain ⟨a2, c2, rfl, -, -⟩ := hc.form
  obtain ⟨a3, c3, rfl, -, -⟩ := hh.form
  obtain ⟨ua, uc, rfl, -, -⟩ := hu.form
  have d0 := (Chg.refl No w).alloc (.cells (mtC m (.slice a m.sig.params.length c) (.slice a2 m.code.length c2) (.slice a3 m.handlers.length c3)) 32)
  have hB := alloc_blk (o2 := .cells (mtC m (.slice a m.sig.params.length c) (.slice a2 m.code.length c2) (.slice a3 m.handlers.length c3)) 32) hb
  have hK := alloc_blk (o2 := .cells (mtC m (.slice a m.sig.params.length c) (.slice a2 m.code.length c2) (.slice a3 m.handlers.length c3)) 32) hk
  have k0 := blk_cell hB (j := 0) rfl
  have k1 := blk_cell hK (j := 0) rfl
  have HN := Lib.hid (nearest_c (h.new d0) hw T U _ up (hu.new goodStr d0) hl hall m.name m.sig _ (hx.new goodTy d0) ox)
  have H := Lib.hid (h.new d0)
  clear hB hK hb hk hx hc hh hu h
  cases hi : m.name == initName with
  | true =>
    have HE := Lib.hid (show clashX es up m = false by unfold clashX; rw [hi]; rfl)
    have hi' : (m.name == [60, 105, 110, 105, 116, 62]) = true := hi
    rw [HE.out]
    clear hi
    go_enter Tryz.func82, Tryz.ntmps82
    go_wp2
    go_ret
    exact ⟨rfl, d0⟩
  | false =>
    have hi' : (m.name == [60, 105, 110, 105, 116, 62]) = false := hi
    have HE := Lib.hid (show clashX es up m = match nearX es m.name m.sig up with | none => false | some (y, i) => m.flags == 4 || (match y.cl.methods[i]? with | some z => z.flags == 4 | none => false) by unfold clashX; rw [hi]; rfl)
    have HD := Lib.hid d0
    clear hi d0
    cases hr : nearX es m.name m.sig up with
    | none =>
      rw [hr] at HN HE
      have HR := Lib.hid hr; clear hr
      have hn : nearV none = .tuple #[.pointer none, .int .i64 (-1)] := rfl
      rw [hn] at HN
      rw [HE.out]
      go_enter Tryz.func82, Tryz.ntmps82
      go_wp2_with fail
      refine HN.out.mono ?_
      rintro e w1 ⟨rfl, d⟩
      have D := Lib.hid (HD.out.trans d (fun _ _ h => h)); clear d
      go_wp2
      go_ret
      exact ⟨rfl, D.out⟩
    | some p =>
      obtain ⟨y, i⟩ := p
      obtain ⟨hy, hyi⟩ := nearX_mem hr
      have hil := findIdx_lt hyi
      rw [hr] at HN HE
      have hn : nearV (some (y, i)) = .tuple #[.pointer (some ⟨y.at_, 0, none⟩), .int .i64 i] := rfl
      rw [hn] at HN
      obtain ⟨yf, hyf⟩ : ∃ yf, yf = y.cl.methods[i].flags := ⟨_, rfl⟩
      have HE2 := Lib.hid (HE.out.trans (show _ = (m.flags == 4 || yf == 4) by simp only [List.getElem?_eq_getElem hil]; rw [hyf]))
      have HYF := Lib.hid hyf; clear hyf
      have HY := Lib.hid (And.intro hy hil)
      clear hr hyi hy
      cases hf : m.flags == 4 with
      | true =>
        have HE3 := Lib.hid (HE2.out.trans (show (m.flags == 4 || yf == 4) = true by rw [hf]; rfl))
        rw [HE3.out]
        go_enter Tryz.func82, Tryz.ntmps82
        go_wp2_with fail
        refine HN.out.mono ?_
        rintro e w1 ⟨rfl, d⟩
        have D := Lib.hid (HD.out.trans d (fun _ _ h => h))
        have x0 := blk_cell (d.blk (heap_alloc_new w _)) (j := 0) rfl
        obtain ⟨ab, ao, cy, y5, y0⟩ := (H.out.new d).meth HY.out.1 hil
        rw [← HYF.out] at y0
        clear d k0 k1
        go_wp2
        go_ret
        exact ⟨rfl, D.out⟩
      | false =>
        cases hf2 : yf == 4 with
        | true =>
          have HE3 := Lib.hid (HE2.out.trans (show (m.flags == 4 || yf == 4) = true by rw [hf, hf2]; rfl))
          rw [HE3.out]
          go_enter Tryz.func82, Tryz.ntmps82
          go_wp2_with fail
          refine HN.out.mono ?_
          rintro e w1 ⟨rfl, d⟩
          have D := Lib.hid (HD.out.trans d (fun _ _ h => h))
          have x0 := blk_cell (d.blk (heap_alloc_new w _)) (j := 0) rfl
          obtain ⟨ab, ao, cy, y5, y0⟩ := (H.out.new d).meth HY.out.1 hil
          rw [← HYF.out] at y0
          clear d k0 k1
          go_wp2
          go_ret
          exact ⟨rfl, D.out⟩
        | false =>
          have HE3 := Lib.hid (HE2.out.trans (show (m.flags == 4 || yf == 4) = false by rw [hf, hf2]; rfl))
          rw [HE3.out]
          go_enter Tryz.func82, Tryz.ntmps82
          go_wp2_with fail
          refine HN.out.mono ?_
          rintro e w1 ⟨rfl, d⟩
          have D := Lib.hid (HD.out.trans d (fun _ _ h => h))
          have x0 := blk_cell (d.blk (heap_alloc_new w _)) (j := 0) rfl
          obtain ⟨ab, ao, cy, y5, y0⟩ := (H.out.new d).meth HY.out.1 hil
          rw [← HYF.out] at y0
          clear d k0 k1
          go_wp2
          go_ret
          exact ⟨rfl, D.out⟩

set_option maxRecDepth 100000 in
set_option maxHeartbeats 3200000 in
theorem overrides_c (h : HW S O w b mb nv es lk) (hw : WOk es) (x : Ent) (hx : x ∈ es) (l : List Bs) (hc : IsChain (cls es) x.cl.name l) (hl : l.length ≤ 1000) (h2 : 2 ≤ l.length) (hall : ∀ s ∈ l, ∃ k, atf es s = some k) :
    Calls Tryz.prog 41 #[.pointer (some ⟨b, 0, none⟩), .pointer (some ⟨x.at_, 0, none⟩)] w fun e w' => e = .returned (.bool (overridesB (cls es) x.cl l.tail)) ∧ Chg No w w' := by
  have hbl := h.o_lt b h.own_b
  have hxl := h.o_lt _ (h.own_e x hx)
  have h1 := h.new ((Chg.refl No w).alloc (.cells #[.pointer (some ⟨b, 0, none⟩)] 42))
  have HF := Lib.hid (isFace_c h1 x hx)
  have HC := Lib.hid (fun (W : World) (hW : Chg No w W) => chain_c (h.new hW) x.cl.name l hc hl)
  obtain ⟨f, g, m, p, c, q, ⟨e0, e1, e2, e3, e4, e5, e6, -⟩, q1, q2, q3, q4, -⟩ := h.cells hx
  have HS := Lib.hid (And.intro h (And.intro hw (And.intro q3 (And.intro (hw.ok x hx).methods (And.intro (hw.mlen x hx) hall)))))
  obtain ⟨a3, d3, rfl, -, -⟩ := q3.form
  have hmf : ∀ (fn : Fn) (first cap : Array Value) (w : World), (Instr.makeFunc fn first cap).run Tryz.prog w = .ok (.func fn first cap) w := fun _ _ _ _ => rfl
  have eg : ∀ (args : Array Value) (w : World), (callFunc 82 args).run Tryz.prog w = .ok (.enter 82 args) w := enters_of Tryz.func82 (by kernel_rfl) rfl
  have EG := Lib.hid eg; clear eg
  have hl1 : l ≠ [] := hc.ne (hw.name x hx)
  clear h h1 q1 q2 q3 q4 hc hall hw
  cases hff : isFaceB x.cl with
  | true =>
    rw [hff] at HF
    have HB := Lib.hid (show overridesB (cls es) x.cl l.tail = true by unfold overridesB; rw [hff]; rfl)
    rw [HB.out]
    clear hff
    go_enter Tryz.func41, Tryz.ntmps41
    go_wp2_with fail
    refine HF.out.mono ?_
    rintro e w1 ⟨rfl, rfl⟩
    go_wp2
    go_ret
    exact ⟨rfl, (Chg.refl _ _).alloc _⟩
  | false =>
    rw [hff] at HF
    have HB := Lib.hid (show overridesB (cls es) x.cl l.tail = !(x.cl.methods.any (clashB (cls es) l.tail)) by unfold overridesB; rw [hff]; rfl)
    rw [HB.out]
    clear hff
    go_enter Tryz.func41, Tryz.ntmps41
    go_wp2_with fail
    refine HF.out.mono ?_
    rintro e w1 ⟨rfl, rfl⟩
    go_upto_region 3 with fail
    go_cut [5] from 8 to 15 (fun s5 wx => ∃ (k5 : Nat), s5 = .pointer (some ⟨k5, 0, none⟩) ∧ RowKit.Hid (∃ tv, wx.heap[k5]? = some (.cells #[tv] 34 (0, 0)) ∧ SQ 1 RStr (fun _ => True) wx tv l.tail ∧ Chg No w wx ∧ wx.heap[w.heap.size]? = some (.cells #[.pointer (some ⟨b, 0, none⟩)] 42 (0, 0))))
    case first =>
      go_region_with (first
        | (go_at_call 43; refine (HC.out _ (chg_a w _)).mono ?_; rintro e w1 ⟨v, rfl, ho, d, -⟩; obtain ⟨gg, cc, rfl, hcc⟩ := ho.form1 hl1; have D := Lib.hid (And.intro ((chg_a w _).trans d (fun _ _ h => h)) (And.intro (ho.sq (T := fun _ => True) goodStr (fun _ _ => trivial) (fun _ _ => trivial)) (one_blockA d))); have i1 : ¬ ((l.length : Int) < 1) := (by omega); have i2 : ¬ ((cc : Int) < (l.length : Int)) := (by omega); have i3 : ¬ ((cc : Int) < 1) := (by omega); have i4 : ¬ (cc = 1) := (by omega); clear d ho)
        | (go_at_call 43; refine (HC.out _ (chg_b w _ _)).mono ?_; rintro e w1 ⟨v, rfl, ho, d, hv⟩; obtain ⟨gg, cc, rfl, hcc⟩ := ho.form1 hl1; have D := Lib.hid (And.intro ((chg_b w _ _).trans d (fun _ _ h => h)) (And.intro (ho.sq (T := fun k => k ≠ w.heap.size + 1) goodStr (fun k hk => past_two (hv k hk)) (fun _ h => h.elim)) (And.intro (one_blockB d) (two_block d)))); have y0 : w1.cell? ⟨w.heap.size + 1, 0, none⟩ = some zNil := two_cell d rfl; have y1 := two_frozen d 0; have i1 : ¬ ((l.length : Int) < 1) := (by omega); have i2 : ¬ ((cc : Int) < (l.length : Int)) := (by omega); have i3 : ¬ ((cc : Int) < 1) := (by omega); have i4 : ¬ (cc = 1) := (by omega); clear d ho hv))
      all_goals (try go_wp2_with fail)
      all_goals go_meet
      all_goals first
        | exact ⟨_, rfl, Lib.hid ⟨_, heap_alloc_new _ _, (D.out.2.1.tail1 (by omega)).new goodStr ((Chg.refl _ _).alloc _), D.out.1.alloc _, alloc_blk D.out.2.2⟩⟩
        | exact ⟨_, rfl, Lib.hid ⟨_, setCell_at D.out.2.2.2 _, ((D.out.2.1.tail1 (by omega)).keep goodStr (chg_setCell _ _ _ _) (fun k hk e => hk e)).mono goodStr (fun _ _ => trivial), D.out.1.set_new (by omega) _ _, ((chg_setCell _ _ _ _).block _ (heap_lt D.out.2.2.1) (by omega)).trans D.out.2.2.1⟩⟩
    case rest =>
      obtain ⟨k5, rfl, hI⟩ := hcut
      obtain ⟨tv, t0, t1, t2, t3⟩ := hI.out
      have x5 := (t2.cell (p := ⟨x.at_, 5, none⟩) hxl (fun h => h)).trans e5
      have HT := Lib.hid (And.intro t0 (And.intro t1 (And.intro t2 t3)))
      have hlt := l.length_tail
      clear t0 t1 t2 t3 e0 e1 e2 e3 e4 e5 e6
      go_wp2_with fail
      refine (containsFunc_mt S _ _ x.cl.methods (HS.out.2.2.1.new goodMt HT.out.2.2.1) (by have := HS.out.2.2.2.2.1; omega) 82 _ EG.out (clashX es l.tail) (fun W y ds hy hW hR => ?_)).mono ?_
      · obtain ⟨va, vc, vh, rfl, r1, r2, r3⟩ := hR
        exact overF_c (HS.out.1.new (HT.out.2.2.1.trans hW (fun _ _ h => h))) HS.out.2.1 S (fun _ => True) y va vc vh r1 r2 r3 (HS.out.2.2.2.1 y hy).params w.heap.size k5 tv l.tail (HT.out.2.1.new goodStr hW) (by omega) (fun s hs => HS.out.2.2.2.2.2 s (List.mem_of_mem_tail hs)) (hW.blk HT.out.2.2.2) (hW.blk HT.out.1)
      · rintro e w1 ⟨rfl, d⟩
        have D := Lib.hid (HT.out.2.2.1.trans d (fun _ _ h => h)); clear d
        have hcl : (x.cl.methods.any (clashX es l.tail)) = x.cl.methods.any (clashB (cls es) l.tail) := by
          congr 1
          funext m
          exact clashX_plain (fun s hs => by
            obtain ⟨k, hk⟩ := HS.out.2.2.2.2.2 s (List.mem_of_mem_tail hs)
            obtain ⟨y, -, hf, -⟩ := atf_find hk
            exact ⟨y, hf⟩) m
        rw [hcl]
        clear hcl
        go_wp2
        go_ret
        exact ⟨rfl, D.out⟩
end

end Go.Proofs.YtgmmclcpfmnoiaaGreatDoor
