/-
  The rule named of Link, walked at any class of a module without a pool.
-/
import Derived.Test.YtgmmclcpfmnoiaaGreatDoorTypG
import Derived.Test.YtgmmclcpfmnoiaaGreatDoorRuleG
namespace Go.Proofs.YtgmmclcpfmnoiaaGreatDoor
open Go.RowKit

/-- The types that a class names. -/
def mtTys (m : Mt) : List Ty := m.sig.params ++ [m.sig.result] ++ m.handlers.map (fun h => (⟨0, h.class_⟩ : Ty))
def clTys (c : Cl) : List Ty := c.fields.map (·.type) ++ c.methods.flatMap mtTys
def namedB0 (cs : List Cl) (c : Cl) : Bool := (clTys c).all fun t => t.name == [] || thereB cs t.name
theorem named_any {es : List Ent} {ts : List Ty} {out : List Bs} (h : ClsOf ts out) : (!(out.any fun s => (atf es s).isNone)) = ts.all fun t => t.name == [] || thereB (cls es) t.name := by
  rw [isNone_all, Bool.eq_iff_iff, List.all_eq_true, List.all_eq_true]
  constructor
  · intro hh t ht
    by_cases h0 : t.name = []
    · simp [h0]
    · rw [hh t.name ((h.mem _).2 ⟨h0, t, ht, rfl⟩)]; simp
  · intro hh s hs
    obtain ⟨h0, t, ht, rfl⟩ := (h.mem s).1 hs
    have := hh t ht
    simpa [h0] using this

structure SzNm (c : Cl) : Prop where
  fields : c.fields.length ≤ 1000
  methods : c.methods.length ≤ 1000
  params : ∀ m ∈ c.methods, m.sig.params.length ≤ 1000
  hands : ∀ m ∈ c.methods, m.handlers.length ≤ 1000
set_option maxRecDepth 100000 in
theorem mtTys_len {m : Mt} (hp : m.sig.params.length ≤ 1000) (hh : m.handlers.length ≤ 1000) : (mtTys m).length ≤ 2001 := by unfold mtTys; simp; omega
set_option maxRecDepth 100000 in
theorem flat_take_len {c : Cl} (h : SzNm c) (k : Nat) : ((c.methods.take k).flatMap mtTys).length ≤ k * 2001 := by
  induction k with
  | zero => simp
  | succ k ih =>
    by_cases hk : k < c.methods.length
    · rw [List.take_succ_eq_append_getElem hk, List.flatMap_append, List.length_append]
      have := mtTys_len (h.params _ (List.getElem_mem hk)) (h.hands _ (List.getElem_mem hk))
      simp only [List.flatMap_cons, List.flatMap_nil, List.append_nil]
      omega
    · rw [List.take_of_length_le (by omega)]
      rw [List.take_of_length_le (by omega)] at ih
      omega

/-- The world while they are gathered. -/
structure NmW (w : World) (b : Nat) (wr : World) (lv : Value) (T : List Ty) : Prop where
  chg : Chg No w wr
  own : OQ 26 2 RTy No wr lv T
  newL : ∀ k, lv.ownBlock = some k → w.heap.size < k
  box : wr.heap[w.heap.size]? = some (.cells #[.pointer (some ⟨b, 0, none⟩)] 42 (0, 0))
theorem NmW.new {w wr w1 : World} {b : Nat} {lv : Value} {T : List Ty} (h : NmW w b wr lv T) (d : Chg No wr w1) : NmW w b w1 lv T :=
  ⟨h.chg.trans d (fun _ _ h => h), h.own.new goodTy d, h.newL, d.blk h.box⟩
theorem NmW.add {w wr w2 : World} {b : Nat} {lv lv' : Value} {T ys : List Ty} (h : NmW w b wr lv T) (ho : OQ 26 2 RTy No w2 lv' (T ++ ys)) (c2 : Chg (fun k => some k = lv.ownBlock) wr w2) (hl : lv'.ownBlock = lv.ownBlock ∨ ∃ b, lv'.ownBlock = some b ∧ wr.heap.size ≤ b) :
    NmW w b w2 lv' (T ++ ys) := by
  have hc := h.chg.size
  have hb := heap_lt h.box
  refine ⟨h.chg.trans c2 (fun k hk e => by have := h.newL k e.symm; omega), ho, fun k hk => ?_, (c2.block _ hb (fun e => by have := h.newL _ e.symm; omega)).trans h.box⟩
  rcases hl with hl | ⟨bb, hl, hbb⟩
  · rw [hl] at hk; exact h.newL k hk
  · rw [hl] at hk; cases hk; omega

section
variable {S O : Blocks} {w : World} {b mb : Nat} {nv : Value} {es : List Ent} {lk : Bool}
theorem nmF_c (h : HW S O w b mb nv es lk) (s : Bs) (hs : Short s) (k : Nat) (hk : w.heap[k]? = some (.cells #[.pointer (some ⟨b, 0, none⟩)] 42 (0, 0))) :
    Calls Tryz.prog 80 #[strV s, .pointer (some ⟨k, 0, none⟩)] w fun e w' => e = .returned (.bool (atf es s).isNone) ∧ Chg No w w' := by
  have c1 := h.c1
  have hL := h.look s hs
  have k0 := blk_cell hk (j := 0) rfl
  clear hk h
  cases ha : atf es s with
  | none =>
    rw [ha] at hL
    have hp : ptrV none = .pointer none := rfl
    rw [hp] at hL
    go_enter Tryz.func80, Tryz.ntmps80
    go_wp2
    go_ret
    exact ⟨rfl, Chg.refl _ _⟩
  | some a =>
    rw [ha] at hL
    have hp : ptrV (some a) = .pointer (some ⟨a, 0, none⟩) := rfl
    rw [hp] at hL
    go_enter Tryz.func80, Tryz.ntmps80
    go_wp2
    go_ret
    exact ⟨rfl, Chg.refl _ _⟩

set_option maxRecDepth 100000 in
set_option maxHeartbeats 12800000 in
theorem named0_c (h : HW S O w b mb nv es lk) (hw : WOk es) (x : Ent) (hx : x ∈ es) (hsz : SzNm x.cl) (hp : x.pool = []) :
    Calls Tryz.prog 40 #[.pointer (some ⟨b, 0, none⟩), .pointer (some ⟨x.at_, 0, none⟩)] w fun e w' => e = .returned (.bool (namedB0 (cls es) x.cl)) ∧ Chg No w w' := by
  have hbl := h.o_lt b h.own_b
  have hxl := h.o_lt _ (h.own_e x hx)
  obtain ⟨f, g, m, p, c, q, ⟨-, -, -, -, e4, e5, e6, -⟩, -, q2, q3, q4, -⟩ := h.cells hx
  rw [hp] at q4
  obtain ⟨a2, d2, rfl, -, -⟩ := q2.form
  obtain ⟨a3, d3, rfl, -, -⟩ := q3.form
  obtain ⟨a4, d4, rfl, -, -⟩ := q4.form
  have hmf : ∀ (fn : Fn) (first cap : Array Value) (w : World), (Instr.makeFunc fn first cap).run Tryz.prog w = .ok (.func fn first cap) w := fun _ _ _ _ => rfl
  have eg : ∀ (args : Array Value) (w : World), (callFunc 80 args).run Tryz.prog w = .ok (.enter 80 args) w := enters_of Tryz.func80 (by kernel_rfl) rfl
  have EG := Lib.hid eg; clear eg
  have HB := Lib.hid (show namedB0 (cls es) x.cl = (clTys x.cl).all fun t => t.name == [] || thereB (cls es) t.name from rfl)
  have H := Lib.hid (And.intro h (And.intro hsz (And.intro (hw.ok x hx) (And.intro q2 (And.intro q3 h.s_lt)))))
  have E := Lib.hid (And.intro e4 (And.intro e5 e6))
  have hf1 := hsz.fields
  have hm1 := hsz.methods
  clear h hw q2 q3 q4 hsz e5 e6
  rw [HB.out]
  obtain ⟨RES, hRES⟩ : ∃ RES, RES = (clTys x.cl).all fun t => t.name == [] || thereB (cls es) t.name := ⟨_, rfl⟩
  rw [← hRES]
  have HRES := Lib.hid hRES; clear hRES
  go_enter Tryz.func40, Tryz.ntmps40
  go_wp2
  clear e4
  go_loopw [5, 32] (fun lv iv wr => ∃ (k : Nat) (va : Option Addr) (vc : Nat), k ≤ x.cl.fields.length ∧ iv = .int .i64 k ∧ lv = .slice va k vc ∧ RowKit.Hid (NmW w b wr (.slice va k vc) ((x.cl.fields.take k).map (·.type)))) (fun _ iv _ => x.cl.fields.length - (intOf iv).toNat)
  case atStart => exact ⟨0, none, 0, Nat.zero_le _, rfl, rfl, Lib.hid ⟨(Chg.refl No w).alloc _, OQ.nil _ _ _ _, (fun k hk => by cases hk), heap_alloc_new _ _⟩⟩
  case round =>
    obtain ⟨k, va, vc, hk, rfl, rfl, hJ⟩ := hrel
    by_cases hlt : k < x.cl.fields.length
    · obtain ⟨b', o, ds, rfl, hcl, hR, hbl', hsb, hcell⟩ := SQ.cells (H.out.2.2.2.1.new goodFd hJ.out.chg) k hlt
      obtain rfl := hR
      have htk : (x.cl.fields.take (k + 1)).map (·.type) = (x.cl.fields.take k).map (·.type) ++ [x.cl.fields[k].type] := by rw [List.take_succ_eq_append_getElem hlt, List.map_append]; rfl
      have HTK := Lib.hid htk; clear htk
      have g0 := hcell 0 _ rfl
      have g1 := hcell 1 _ rfl
      have g2 := hcell 2 _ rfl
      have g3 := hcell 3 _ rfl
      rw [Nat.add_zero] at g0
      rw [← Nat.add_assoc] at g1 g2 g3
      clear hcell hcl
      obtain ⟨t, hte⟩ : ∃ t, t = x.cl.fields[k].type := ⟨_, rfl⟩
      rw [← hte] at g2 g3 HTK
      clear hte
      have HLk : ((x.cl.fields.take k).map (·.type)).length = k := by rw [List.length_map, List.length_take]; omega
      obtain ⟨T, hT⟩ : ∃ T, T = (x.cl.fields.take k).map (·.type) := ⟨_, rfl⟩
      rw [← hT] at hJ HTK HLk
      clear hT
      have hT1 : T.length + 1 = k + 1 := by omega
      obtain ⟨n0, hn0⟩ : ∃ n0, n0 = x.cl.fields[k].name := ⟨_, rfl⟩
      obtain ⟨f0, hf0⟩ : ∃ f0, f0 = x.cl.fields[k].flags := ⟨_, rfl⟩
      rw [← hn0] at g1
      rw [← hf0] at g0
      clear hn0 hf0
      have J1 := Lib.hid ((hJ.out.new ((Chg.refl No wr).alloc (.cells #[.int .i64 f0, strV n0, .int .i64 t.dims, strV t.name] 41))).new ((Chg.refl No _).alloc (.cells #[.int .i64 t.dims, strV t.name] 26)))
      have HSR := Lib.hid (Src.single (P := Tryz.prog) (n := 2) (S := No) (R := RTy) goodTy (x := t) rfl rfl (tx := 24) Tryz.underlying24 ⟨wr.heap.size + 1, 0, none⟩ 1 (At.lit2 wr (.cells #[.int .i64 f0, strV n0, .int .i64 t.dims, strV t.name] 41) [.int .i64 t.dims, strV t.name] 26))
      go_wp2_with (at_builtin; (refine wpList_appQ (S := No) rfl (.tmp 36) (.tmp 39) 24 24 rfl 26 (.agg #[zInt, zStr]) 24 Tryz.underlying24 info_ty rfl (by decide) goodTy (.slice va k vc) T rfl J1.out.own (fun k hk _ => hk.elim) (.slice (some ⟨wr.heap.size + 1, 0, none⟩) 1 1) [t] [[.int .i64 t.dims, strV t.name]] rfl (Els.single rfl rfl) HSR.out (by simp; unfold maxLen; omega) (by simp; omega) ?_); intro v5 w5 g1 g2 g3; obtain ⟨na5, nc5, rfl, hc5⟩ := g1.form1 (by simp); have HG5 := Lib.hid (And.intro g1 (And.intro g2 g3)); clear g1 g2 g3)
      have hTl : (T ++ [t]).length = k + 1 := by rw [List.length_append, HLk]; rfl
      rw [hTl] at hc5
      have HTl := Lib.hid hTl; clear hTl
      clear g0 g1 g2 g3
      go_roundw
      case rel =>
        have hF := (J1.out).add HG5.out.1 HG5.out.2.1 HG5.out.2.2
        rw [HTl.out, ← HTK.out] at hF
        exact ⟨k + 1, some ⟨na5, 0, none⟩, nc5, by omega, by go_num, rfl, Lib.hid hF⟩
      case measure => simp [intOf]; omega
    · have hkf : k = x.cl.fields.length := by omega
      subst hkf
      have hft : (x.cl.fields.take x.cl.fields.length).map (·.type) = x.cl.fields.map (·.type) := by rw [List.take_of_length_le (by omega)]
      have HFT := Lib.hid hft; clear hft
      have x5 := (hJ.out.chg.cell (p := ⟨x.at_, 5, none⟩) hxl (fun h => h)).trans E.out.2.1
      go_wp2
      clear x5
      go_loopw [5, 48] (fun lv iv wr => ∃ (q : Nat) (va : Option Addr) (n vc : Nat) (T : List Ty), q ≤ x.cl.methods.length ∧ iv = .int .i64 q ∧ lv = .slice va n vc ∧ n = T.length ∧ RowKit.Hid (T = x.cl.fields.map (·.type) ++ (x.cl.methods.take q).flatMap mtTys ∧ NmW w b wr (.slice va n vc) T)) (fun _ iv _ => x.cl.methods.length - (intOf iv).toNat)
      case atStart => exact ⟨0, va, _, vc, x.cl.fields.map (fun f => f.type), Nat.zero_le _, rfl, rfl, by rw [List.length_map], Lib.hid ⟨by rw [List.take_zero, List.flatMap_nil, List.append_nil], by rw [← HFT.out]; exact hJ.out⟩⟩
      case round =>
        clear hJ hlt HFT
        obtain ⟨q, va, n, vc, T, hq, rfl, rfl, rfl, hJ⟩ := hrel
        by_cases hlt : q < x.cl.methods.length
        · obtain ⟨b', o, ds, rfl, hcl, hR, hbl', hsb, hcell⟩ := SQ.cells (H.out.2.2.2.2.1.new goodMt hJ.out.2.chg) q hlt
          have htk : (x.cl.methods.take (q + 1)).flatMap mtTys = (x.cl.methods.take q).flatMap mtTys ++ mtTys x.cl.methods[q] := by
            rw [List.take_succ_eq_append_getElem hlt, List.flatMap_append]; simp
          have hzm := And.intro (H.out.2.1.params _ (List.getElem_mem hlt)) (And.intro (H.out.2.1.hands _ (List.getElem_mem hlt)) (flat_take_len H.out.2.1 q))
          obtain ⟨m, hme⟩ : ∃ m, m = x.cl.methods[q] := ⟨_, rfl⟩
          rw [← hme] at hR htk hzm
          have HTK := Lib.hid htk; clear htk hme
          obtain ⟨vp, vcd, vh, rfl, q1, q2, q3⟩ := hR
          obtain ⟨a1, c1, rfl, -, -⟩ := q1.form
          obtain ⟨a2', c2, rfl, -, -⟩ := q2.form
          obtain ⟨a4', c4, rfl, -, -⟩ := q3.form
          have g0 := hcell 0 _ rfl
          have g1 := hcell 1 _ rfl
          have g2 := hcell 2 _ rfl
          have g3 := hcell 3 _ rfl
          have g4 := hcell 4 _ rfl
          have g5 := hcell 5 _ rfl
          have g6 := hcell 6 _ rfl
          have g7 := hcell 7 _ rfl
          have g8 := hcell 8 _ rfl
          have g9 := hcell 9 _ rfl
          rw [Nat.add_zero] at g0
          rw [← Nat.add_assoc] at g1 g2 g3 g4 g5 g6 g7 g8 g9
          have Q := Lib.hid (And.intro q1 q3)
          have hTn : T.length ≤ 1000 + q * 2001 := by
            have h1 := hJ.out.1
            have h2 := hzm.2.2
            rw [h1, List.length_append, List.length_map]; omega
          clear hcell hcl q1 q2 q3
          have HTY := types_c S (wr.alloc (.cells #[.int .i64 m.flags, strV m.name, .slice a1 m.sig.params.length c1, .bool m.sig.void, .int .i64 m.sig.result.dims, strV m.sig.result.name, .int .i64 m.stack, .int .i64 m.locals_, .slice a2' m.code.length c2, .slice a4' m.handlers.length c4] 32)) m.sig _ (Q.out.1.new goodTy ((Chg.refl No wr).alloc _)) (fun k hk => by have := H.out.2.2.2.2.2 k hk; have := hJ.out.2.chg.size; simp; omega) (by omega)
          obtain ⟨ys, hys⟩ : ∃ ys, ys = m.sig.params ++ [m.sig.result] := ⟨_, rfl⟩
          have hyl : ys.length ≤ 1001 := by rw [hys]; simp; omega
          rw [← hys] at HTY
          have HTY := Lib.hid HTY
          have HYS := Lib.hid hys; clear hys
          go_wp2_with fail
          refine HTY.out.mono ?_
          rintro e w1 ⟨v, rfl, ho, d, hv⟩
          obtain ⟨ua, uc, rfl⟩ := ho.form
          obtain ⟨css, hE, hsrc⟩ := (ho.sq (T := fun _ => True) goodTy (fun _ _ => trivial) (fun _ _ => trivial)).src goodTy (by decide) (P := Tryz.prog) (tx := 24) Tryz.underlying24
          have J1 := Lib.hid (hJ.out.2.new (((Chg.refl No wr).alloc _).trans d (fun _ _ h => h)))
          have B1 := Lib.hid (d.blk (heap_alloc_new wr _))
          have Q1 := Lib.hid (Q.out.2.new goodHd (((Chg.refl No wr).alloc _).trans d (fun _ _ h => h)))
          have HSS := Lib.hid (And.intro (show Els 2 RTy No w1 ys css from ⟨hE.1, fun i x cs hi hc => ⟨(hE.2 i x cs hi hc).1, (hE.2 i x cs hi hc).2⟩⟩) hsrc)
          clear ho hv d hE hsrc g0 g1 g2 g3 g4 g5 g6 g7 g8 g9
          have x6 := blk_cell B1.out (j := 9) rfl
          have HNE := Lib.hid (show ¬ some wr.heap.size = (Value.slice va T.length vc).ownBlock from fun e => Nat.lt_irrefl _ (hJ.out.2.own.lt _ e.symm))
          obtain ⟨T2, hT2⟩ : ∃ T2, T2 = T ++ ys := ⟨_, rfl⟩
          have hT2l : T2.length ≤ 1000 + q * 2001 + 1001 := by rw [hT2, List.length_append]; omega
          have HT2 := Lib.hid hT2; clear hT2
          go_wp2_with (at_builtin; (refine wpList_appQ (S := No) rfl (.tmp 52) (.tmp 55) 24 24 rfl 26 (.agg #[zInt, zStr]) 24 Tryz.underlying24 info_ty rfl (by decide) goodTy (.slice va T.length vc) T rfl J1.out.own (fun k hk _ => hk.elim) (.slice ua ys.length uc) ys css rfl HSS.out.1 HSS.out.2 (by unfold maxLen; omega) (by omega) ?_); intro v5 w5 g1 g2 g3; rw [← HT2.out] at g1; obtain ⟨na5, nc5, rfl⟩ := g1.form; have HG5 := Lib.hid (And.intro g1 (And.intro g2 g3)); have y9 := blk_cell ((g2.block wr.heap.size (heap_lt B1.out) HNE.out).trans B1.out) (j := 9) rfl; clear g1 g2 g3)
          have J2 : NmW w b w5 (.slice na5 T2.length nc5) T2 := by
            have := J1.out.add (ys := ys) (by rw [← HT2.out]; exact HG5.out.1) HG5.out.2.1 HG5.out.2.2
            rwa [← HT2.out] at this
          have HJ2 := Lib.hid J2
          have hown := J1.out.newL
          have HC5 := Lib.hid (show Chg (fun k => w.heap.size ≤ k) w1 w5 from HG5.out.2.1.mono (fun k _ e => Nat.le_of_lt (hown k e.symm)))
          clear J2 hown x6 y9
          go_loopw [5, 60] (fun lv iv wr => ∃ (j : Nat) (va : Option Addr) (n vc : Nat) (T3 : List Ty), j ≤ m.handlers.length ∧ iv = .int .i64 j ∧ lv = .slice va n vc ∧ n = T3.length ∧ RowKit.Hid (T3 = T2 ++ (m.handlers.take j).map (fun h => (⟨0, h.class_⟩ : Ty)) ∧ NmW w b wr (.slice va n vc) T3 ∧ Chg (fun k => w.heap.size ≤ k) w1 wr)) (fun _ iv _ => m.handlers.length - (intOf iv).toNat)
          case atStart => exact ⟨0, na5, _, nc5, T2, Nat.zero_le _, rfl, rfl, rfl, Lib.hid ⟨by simp, HJ2.out, HC5.out⟩⟩
          case round =>
            obtain ⟨j, va3, n3, vc3, T3, hj, rfl, rfl, rfl, hK⟩ := hrel
            by_cases hlj : j < m.handlers.length
            · obtain ⟨b3, o3, ds, rfl, hcl, hR, hbl3, hsb3, hcell⟩ := SQ.cells (Q1.out.keep goodHd hK.out.2.2 (fun k hk e => by have := H.out.2.2.2.2.2 k hk; omega)) j hlj
              obtain rfl := hR
              have htk3 : (m.handlers.take (j + 1)).map (fun h => (⟨0, h.class_⟩ : Ty)) = (m.handlers.take j).map (fun h => (⟨0, h.class_⟩ : Ty)) ++ [⟨0, m.handlers[j].class_⟩] := by rw [List.take_succ_eq_append_getElem hlj, List.map_append]; rfl
              have HTK3 := Lib.hid htk3; clear htk3
              have g0 := hcell 0 _ rfl
              have g1 := hcell 1 _ rfl
              have g2 := hcell 2 _ rfl
              have g3 := hcell 3 _ rfl
              rw [Nat.add_zero] at g0
              rw [← Nat.add_assoc] at g1 g2 g3
              clear hcell hcl
              have hT3l : T3.length ≤ T2.length + 1000 := by rw [hK.out.1, List.length_append, List.length_map, List.length_take]; omega
              obtain ⟨hc, hce⟩ : ∃ hc, hc = m.handlers[j].class_ := ⟨_, rfl⟩
              obtain ⟨h0, hh0⟩ : ∃ h0, h0 = m.handlers[j].from_ := ⟨_, rfl⟩
              obtain ⟨h1, hh1⟩ : ∃ h1, h1 = m.handlers[j].to_ := ⟨_, rfl⟩
              obtain ⟨h2, hh2⟩ : ∃ h2, h2 = m.handlers[j].at_ := ⟨_, rfl⟩
              rw [← hce] at g3 HTK3
              rw [← hh0] at g0; rw [← hh1] at g1; rw [← hh2] at g2
              clear hce hh0 hh1 hh2
              have K1 := Lib.hid ((hK.out.2.1.new ((Chg.refl No wr).alloc (.cells #[.int .i64 h0, .int .i64 h1, .int .i64 h2, strV hc] 132))).new ((Chg.refl No _).alloc (.cells #[.int .i64 0, strV hc] 26)))
              have HCK := Lib.hid ((hK.out.2.2.alloc (.cells #[.int .i64 h0, .int .i64 h1, .int .i64 h2, strV hc] 132)).alloc (.cells #[.int .i64 0, strV hc] 26))
              have HSR := Lib.hid (Src.single (P := Tryz.prog) (n := 2) (S := No) (R := RTy) goodTy (x := (⟨0, hc⟩ : Ty)) rfl rfl (tx := 24) Tryz.underlying24 ⟨wr.heap.size + 1, 0, none⟩ 1 (At.lit2 wr (.cells #[.int .i64 h0, .int .i64 h1, .int .i64 h2, strV hc] 132) [.int .i64 0, strV hc] 26))
              obtain ⟨T4, hT4⟩ : ∃ T4, T4 = T3 ++ [(⟨0, hc⟩ : Ty)] := ⟨_, rfl⟩
              have HT4 := Lib.hid hT4; clear hT4
              go_wp2_with (at_builtin; (refine wpList_appQ (S := No) rfl (.tmp 64) (.tmp 68) 24 24 rfl 26 (.agg #[zInt, zStr]) 24 Tryz.underlying24 info_ty rfl (by decide) goodTy (.slice va3 T3.length vc3) T3 rfl K1.out.own (fun k hk _ => hk.elim) (.slice (some ⟨wr.heap.size + 1, 0, none⟩) 1 1) [(⟨0, hc⟩ : Ty)] [[.int .i64 0, strV hc]] rfl (Els.single rfl rfl) HSR.out (by simp; unfold maxLen; omega) (by simp; omega) ?_); intro v5 w6 g1 g2 g3; rw [← HT4.out] at g1; obtain ⟨na6, nc6, rfl⟩ := g1.form; have HG6 := Lib.hid (And.intro g1 (And.intro g2 g3)); clear g1 g2 g3)
              have hown := K1.out.newL
              go_roundw
              case rel =>
                have hF := K1.out.add (ys := [(⟨0, hc⟩ : Ty)]) (by rw [← HT4.out]; exact HG6.out.1) HG6.out.2.1 HG6.out.2.2
                rw [← HT4.out] at hF
                refine ⟨j + 1, na6, _, nc6, T4, by omega, by go_num, rfl, rfl, Lib.hid ⟨?_, hF, HCK.out.trans HG6.out.2.1 (fun k _ e => Nat.le_of_lt (hown k e.symm))⟩⟩
                rw [HT4.out, hK.out.1, List.append_assoc, ← HTK3.out]
              case measure => simp [intOf]; omega
            · go_wp2
              go_roundw
              case rel =>
                refine ⟨q + 1, va3, _, vc3, T3, by omega, by go_num, rfl, rfl, Lib.hid ⟨?_, hK.out.2.1⟩⟩
                rw [hK.out.1, HT2.out, hJ.out.1, HTK.out, show m.handlers.take j = m.handlers from List.take_of_length_le (by omega), HYS.out]
                unfold mtTys
                simp only [List.append_assoc]
              case measure => simp [intOf]; omega
        · have hqe : q = x.cl.methods.length := by omega
          subst hqe
          have HT5 := Lib.hid (show T = clTys x.cl by rw [hJ.out.1, List.take_of_length_le (by omega)]; rfl)
          have hTn : T.length ≤ 1000 + 1000 * 2001 := by
            have h2 := flat_take_len H.out.2.1 x.cl.methods.length
            rw [hJ.out.1, List.length_append, List.length_map]
            omega
          have HSQ := Lib.hid (hJ.out.2.own.sq (T := fun _ => True) goodTy (fun _ _ => trivial) (fun _ _ => trivial))
          have HNL := Lib.hid (show ∀ t ∈ T, t.name.length ≤ maxLen from fun t ht => by
            rw [HT5.out] at ht
            unfold clTys at ht
            rcases List.mem_append.1 ht with ht | ht
            · obtain ⟨f, hf, rfl⟩ := List.mem_map.1 ht
              exact (H.out.2.2.1.fields f hf).2
            · obtain ⟨m, hm, ht⟩ := List.mem_flatMap.1 ht
              have hom := H.out.2.2.1.methods m hm
              unfold mtTys at ht
              rcases List.mem_append.1 ht with ht | ht
              · rcases List.mem_append.1 ht with ht | ht
                · exact hom.ptexts t ht
                · simp only [List.mem_singleton] at ht; subst ht; exact hom.result
              · obtain ⟨hh, hhm, rfl⟩ := List.mem_map.1 ht
                exact hom.htexts hh hhm)
          have x6 := (hJ.out.2.chg.cell (p := ⟨x.at_, 6, none⟩) hxl (fun h => h)).trans E.out.2.2
          go_wp2
          refine wp_loop_rounds 1 ?_
          rw [rounds_succ]
          go_wp2_with fail
          refine (classes_c (fun _ => True) _ _ T HSQ.out (by omega) HNL.out).mono ?_
          rintro e w1 ⟨v, out, rfl, ho, hcl, d⟩
          obtain ⟨oa, oc, rfl⟩ := ho.form
          have J1 := Lib.hid (hJ.out.2.new d)
          have HO := Lib.hid (And.intro ho hcl)
          have hol := hcl.len
          clear ho hcl d x6
          go_wp2_with fail
          refine (containsFunc_str (fun _ => True) _ _ out (HO.out.1.sq goodStr (fun _ _ => trivial) (fun _ _ => trivial)) (by omega) 80 _ EG.out (fun s => (atf es s).isNone) (fun W s ds hs hW hR => by
            obtain rfl := hR
            obtain ⟨-, t, ht, hts⟩ := (HO.out.2.mem s).1 hs
            exact nmF_c (H.out.1.new (J1.out.chg.trans hW (fun _ _ h => h))) s (by rw [← hts]; exact HNL.out t ht) w.heap.size (hW.blk J1.out.box))).mono ?_
          rintro e w2 ⟨rfl, d⟩
          have D := Lib.hid (J1.out.chg.trans d (fun _ _ h => h)); clear d
          have HF := Lib.hid (show RES = !(out.any fun s => (atf es s).isNone) by rw [HRES.out, ← HT5.out, named_any HO.out.2])
          go_wp2
          go_ret
          exact ⟨ret_b HF.out, D.out⟩
end

end Go.Proofs.YtgmmclcpfmnoiaaGreatDoor
