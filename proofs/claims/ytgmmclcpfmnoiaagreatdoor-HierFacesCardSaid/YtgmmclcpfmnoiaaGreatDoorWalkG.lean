/-
  (*World).walk, walked: a class's interfaces in the order of the walk; the function that gathers calls itself.
-/
import Derived.Test.YtgmmclcpfmnoiaaGreatDoorChain
import Derived.Test.YtgmmclcpfmnoiaaGreatDoorApi
namespace Go.Proofs.YtgmmclcpfmnoiaaGreatDoor
open Go.RowKit

/-- Into, with a bound on how deep it goes. -/
inductive IntoN (cs : List Cl) : Nat → List Bs → List Bs → List Bs → Prop
  | nil {k : Nat} {out : List Bs} : IntoN cs k out [] out
  | seen {k : Nat} {s : Bs} {out l o : List Bs} : s ∈ out → IntoN cs k out l o → IntoN cs k out (s :: l) o
  | new {k : Nat} {s : Bs} {c : Cl} {out o1 l o : List Bs} : s ∉ out → fnd cs s = some c → IntoN cs k (out ++ [s]) c.faces o1 → IntoN cs (k + 1) o1 l o → IntoN cs (k + 1) out (s :: l) o
theorem IntoN.more {cs : List Cl} {k : Nat} {out l o : List Bs} (h : IntoN cs k out l o) : IntoN cs (k + 1) out l o := by
  induction h with
  | nil => exact .nil
  | seen hs _ ih => exact .seen hs ih
  | new hn hf _ _ ih1 ih2 => exact .new hn hf ih1 ih2
theorem IntoN.mono {cs : List Cl} {k : Nat} {out l o : List Bs} (h : IntoN cs k out l o) {j : Nat} (hj : k ≤ j) : IntoN cs j out l o := by
  induction hj with
  | refl => exact h
  | step _ ih => exact ih.more
theorem Into.deep {cs : List Cl} {out l o : List Bs} (h : Into cs out l o) : ∃ k, IntoN cs k out l o := by
  induction h with
  | nil => exact ⟨0, .nil⟩
  | seen hs _ ih => obtain ⟨k, hk⟩ := ih; exact ⟨k, .seen hs hk⟩
  | new hn hf _ _ ih1 ih2 =>
    obtain ⟨k1, h1⟩ := ih1
    obtain ⟨k2, h2⟩ := ih2
    exact ⟨max k1 k2 + 1, .new hn hf (h1.mono (Nat.le_max_left ..)) (h2.mono (by omega))⟩
theorem IntoN.len {cs : List Cl} {k : Nat} {out l o : List Bs} (h : IntoN cs k out l o) : out.length ≤ o.length := by
  induction h with
  | nil => exact Nat.le_refl _
  | seen _ _ ih => exact ih
  | new _ _ _ _ ih1 ih2 => rw [List.length_append] at ih1; omega

/-- What holds while the faces are gathered: p0: the world's variable, p1: the list's, p2: the map, p3: its variable, p4: the function's. -/
def gatherV (p0 p1 p3 p4 : Nat) : Value := .func (.func 84) #[] #[.pointer (some ⟨p3, 0, none⟩), .pointer (some ⟨p1, 0, none⟩), .pointer (some ⟨p4, 0, none⟩), .pointer (some ⟨p0, 0, none⟩)]
structure WkI (w1 : World) (p0 p1 p2 p3 p4 b : Nat) (wr : World) (v : Value) (out : List Bs) : Prop where
  chg : Chg (fun k => k = p1 ∨ k = p2) w1 wr
  b0 : wr.heap[p0]? = some (.cells #[.pointer (some ⟨b, 0, none⟩)] 42 (0, 0))
  b1 : wr.heap[p1]? = some (.cells #[v] 34 (0, 0))
  own : OQ 9 1 RStr No wr v out
  lo : ∀ k, v.ownBlock = some k → w1.heap.size ≤ k
  set : ∃ m, m ≤ out.length ∧ StrSet Tryz.prog 9 3 wr p2 m (fun s => decide (s ∈ out))
  b3 : wr.heap[p3]? = some (.cells #[.map (some p2)] 133 (0, 0))
  b4 : wr.heap[p4]? = some (.cells #[gatherV p0 p1 p3 p4] 146 (0, 0))
structure WkP (w1 : World) (p0 p1 p2 p3 p4 : Nat) : Prop where
  l0 : p0 < w1.heap.size
  l1 : p1 < w1.heap.size
  l2 : p2 < w1.heap.size
  l3 : p3 < w1.heap.size
  l4 : p4 < w1.heap.size
  ne : p1 ≠ p2 ∧ p0 ≠ p1 ∧ p0 ≠ p2 ∧ p3 ≠ p1 ∧ p3 ≠ p2 ∧ p4 ≠ p1 ∧ p4 ≠ p2
section
variable {w1 wr w' w4 w5 : World} {p0 p1 p2 p3 p4 b m : Nat} {v v5 : Value} {out : List Bs} {s : Bs}
theorem WkI.new (h : WkI w1 p0 p1 p2 p3 p4 b wr v out) (d : Chg No wr w') : WkI w1 p0 p1 p2 p3 p4 b w' v out where
  chg := h.chg.then d
  b0 := (d.block _ (heap_lt h.b0) (fun h => h)).trans h.b0
  b1 := (d.block _ (heap_lt h.b1) (fun h => h)).trans h.b1
  own := h.own.new goodStr d
  lo := h.lo
  set := let ⟨m, h1, h2⟩ := h.set; ⟨m, h1, h2.at_block (d.block _ h2.lt (fun h => h))⟩
  b3 := (d.block _ (heap_lt h.b3) (fun h => h)).trans h.b3
  b4 := (d.block _ (heap_lt h.b4) (fun h => h)).trans h.b4
theorem WkI.add (h : WkI w1 p0 p1 p2 p3 p4 b wr v out) (q : WkP w1 p0 p1 p2 p3 p4) (hm : m ≤ out.length) (hs : StrSet Tryz.prog 9 3 w4 p2 (m + 1) (fun y => y == s || decide (y ∈ out))) (hg : wr.grownBy w4 (some p2))
    (ho : OQ 9 1 RStr No w5 v5 (out ++ [s])) (hc : Chg (fun k => some k = v.ownBlock) (w4.alloc (.cells #[strV s] 9)) w5) (hl : v5.ownBlock = v.ownBlock ∨ ∃ k, v5.ownBlock = some k ∧ (w4.alloc (.cells #[strV s] 9)).heap.size ≤ k) :
    WkI w1 p0 p1 p2 p3 p4 b (w5.setCell ⟨p1, 0, none⟩ v5) v5 (out ++ [s]) := by
  have z1 := h.chg.size
  have z2 := (Chg.grown hg).size
  have z3 := hc.size
  rw [size_alloc1] at z3
  obtain ⟨n1, n2, n3, n4, n5, n6, n7⟩ := q.ne
  have lo5 : ∀ k, v5.ownBlock = some k → w1.heap.size ≤ k := fun k hk => by
    rcases hl with hl | ⟨j, hj, hj2⟩
    · exact h.lo k (by rw [← hl]; exact hk)
    · rw [hj] at hk; cases hk; rw [size_alloc1] at hj2; omega
  have keep : ∀ p, p < w1.heap.size → p ≠ p1 → p ≠ p2 → (w5.setCell ⟨p1, 0, none⟩ v5).heap[p]? = wr.heap[p]? := fun p hp h1 h2 => by
    rw [Below.heap_setCell _ _ _ _ h1, hc.block p (by rw [size_alloc1]; omega) (fun e => by have := h.lo p e.symm; omega), Below.heap_alloc _ _ _ (by omega), hg.block p (by omega) (fun e => h2 (by simpa using e))]
  have k1 : w5.heap[p1]? = some (.cells #[v] 34 (0, 0)) := by
    rw [hc.block p1 (by have := q.l1; rw [size_alloc1]; omega) (fun e => by have := h.lo p1 e.symm; have := q.l1; omega), Below.heap_alloc _ _ _ (by have := q.l1; omega), hg.block p1 (by have := q.l1; omega) (fun e => n1 (by simpa using e))]
    exact h.b1
  have k2 : (w5.setCell ⟨p1, 0, none⟩ v5).heap[p2]? = w4.heap[p2]? := by
    rw [Below.heap_setCell _ _ _ _ (fun e => n1 e.symm), hc.block p2 (by have := q.l2; rw [size_alloc1]; omega) (fun e => by have := h.lo p2 e.symm; have := q.l2; omega), Below.heap_alloc _ _ _ (by have := q.l2; omega)]
  exact {
    chg := by
      have c1 : Chg (fun k => k = p1 ∨ k = p2) wr (w4.alloc (.cells #[strV s] 9)) := ((Chg.grown hg).mono (fun k _ e => .inr (by simpa using e))).alloc _
      have c2 := h.chg.trans c1 (fun _ _ h => h)
      have c3 := c2.trans hc (fun k hk e => by have := h.lo k e.symm; omega)
      exact c3.setCell (p := ⟨p1, 0, none⟩) (fun _ => .inl rfl) _
    b0 := (keep p0 q.l0 n2 n3).trans h.b0
    b1 := by rw [setCell_at k1]; rfl
    own := ho.keep goodStr (chg_setCell w5 p1 0 v5) (fun k hk e => by have := lo5 k hk; have := q.l1; omega) (fun k hk => hk.elim)
    lo := lo5
    set := ⟨m + 1, by simp; omega, by
      have hf : (fun y => y == s || decide (y ∈ out)) = fun y => decide (y ∈ out ++ [s]) := by
        funext y
        rw [Bool.eq_iff_iff]
        simp [or_comm]
      rw [hf] at hs
      exact hs.at_block k2⟩
    b3 := (keep p3 q.l3 n4 n5).trans h.b3
    b4 := (keep p4 q.l4 n6 n7).trans h.b4 }

def IntoPost (w1 : World) (p0 p1 p2 p3 p4 b : Nat) (o : List Bs) (e : Ending) (w' : World) : Prop := e = .returned (.tuple #[]) ∧ ∃ v, WkI w1 p0 p1 p2 p3 p4 b w' v o
theorem form_len {v : Value} {xs : List Bs} {w : World} (h : OQ 9 1 RStr No w v xs) : ∃ a c, v = .slice a xs.length c := h.form
theorem enters_gather : ∀ (args : Array Value) (w : World), (callFunc 84 args).run Tryz.prog w = .ok (.enter 84 args) w := enters_of Tryz.func84 (by kernel_rfl) rfl

theorem IntoN.inv {cs : List Cl} {k : Nat} {s : Bs} {out l o : List Bs} (h : IntoN cs k out (s :: l) o) : (s ∈ out ∧ IntoN cs k out l o) ∨ (s ∉ out ∧ ∃ k' c o1, k = k' + 1 ∧ fnd cs s = some c ∧ IntoN cs k' (out ++ [s]) c.faces o1 ∧ IntoN cs k o1 l o) := by
  cases h with
  | seen hs h => exact .inl ⟨hs, h⟩
  | new hn hf h1 h2 => exact .inr ⟨hn, _, _, _, rfl, hf, h1, h2⟩
variable {S O : Blocks} {mb : Nat} {nv : Value} {es : List Ent} {lk : Bool}
/-- What the call gets of a class. -/
theorem HW.face_slice (h : HW S O w1 b mb nv es lk) (hO : ∀ k, O k → ¬ (k = p1 ∨ k = p2)) {wr : World} (c : Chg (fun k => k = p1 ∨ k = p2) w1 wr) {x : Ent} (hx : x ∈ es) : ∃ a cap, wr.cell? ⟨x.at_, 3, none⟩ = some (.slice a x.cl.faces.length cap) ∧ SQ 1 RStr S w1 (.slice a x.cl.faces.length cap) x.cl.faces := by
  obtain ⟨f, g, m, p, c0, q, ⟨e0, e1, e2, e3, -⟩, q1, -⟩ := h.cells hx
  obtain ⟨a, cap, rfl, -, -⟩ := q1.form
  exact ⟨a, cap, (c.cell (p := ⟨x.at_, 3, none⟩) (h.o_lt _ (h.own_e x hx)) (hO _ (h.own_e x hx))).trans e3, q1⟩
set_option maxRecDepth 100000 in
set_option maxHeartbeats 6400000 in
theorem into_c (h : HW S O w1 b mb nv es lk) (q : WkP w1 p0 p1 p2 p3 p4) (hS : ∀ k, S k → ¬ (k = p1 ∨ k = p2)) (hO : ∀ k, O k → ¬ (k = p1 ∨ k = p2)) (hfl : ∀ x ∈ es, x.cl.faces.length ≤ 1000) :
    ∀ (k : Nat) (l out o : List Bs), IntoN (cls es) k out l o → o.length ≤ 100000 → l.length ≤ 1000 → (∀ s ∈ l, Short s) → ∀ (T : Blocks), (∀ j, T j → ¬ (j = p1 ∨ j = p2)) → ∀ (w0 : World) (v lv : Value), WkI w1 p0 p1 p2 p3 p4 b w0 v out → SQ 1 RStr T w1 lv l →
    Calls Tryz.prog 84 #[lv, .pointer (some ⟨p3, 0, none⟩), .pointer (some ⟨p1, 0, none⟩), .pointer (some ⟨p4, 0, none⟩), .pointer (some ⟨p0, 0, none⟩)] w0 (IntoPost w1 p0 p1 p2 p3 p4 b o) := by
  have H := Lib.hid (And.intro h (And.intro q (And.intro hS (And.intro hO hfl))))
  clear h q hS hO hfl
  intro k
  induction k using Nat.strongRecOn with
  | ind k ih =>
    intro l out o hI0 ho hl hsh T hT w0 v lv hW0 hq
    have HIH := Lib.hid ih
    obtain ⟨a, cap, hlv, -, -⟩ := hq.form
    subst hlv
    have HQ := Lib.hid (And.intro hq (And.intro hT (And.intro hsh (And.intro hI0 hW0))))
    clear ih hq hT hsh hI0 hW0
    have EG := enters_gather
    go_enter Tryz.func84, Tryz.ntmps84
    go_wp2
    go_loopw [12] (fun i wr => ∃ (j : Nat) (out' : List Bs) (v' : Value), j ≤ l.length ∧ i = .int .i64 j ∧ RowKit.Hid (IntoN (cls es) k out' (l.drop j) o ∧ WkI w1 p0 p1 p2 p3 p4 b wr v' out')) (fun i _ => l.length - (intOf i).toNat)
    case atStart => exact ⟨0, out, v, Nat.zero_le _, rfl, Lib.hid ⟨by rw [List.drop_zero]; exact HQ.out.2.2.2.1, HQ.out.2.2.2.2⟩⟩
    case round =>
      obtain ⟨j, out', v', hj, rfl, hI⟩ := hrel
      by_cases hlt : j < l.length
      · obtain ⟨b', o', ds, rfl, hcl, hR, hbl', hsb, hcell⟩ := SQ.cells (HQ.out.1.keep goodStr hI.out.2.chg HQ.out.2.1) j hlt
        obtain rfl := hR
        have g0 := hcell 0 _ rfl
        rw [Nat.mul_one, Nat.add_zero] at g0
        clear hcell hcl
        have hs : Short l[j] := HQ.out.2.2.1 _ (List.getElem_mem hlt)
        obtain ⟨m, hm, hset⟩ := hI.out.2.set
        have HT := Lib.hid hset; clear hset
        obtain ⟨va, vc, hvf⟩ := form_len hI.out.2.own
        subst hvf
        have hin : IntoN (cls es) k out' (l[j] :: l.drop (j + 1)) o := by rw [← List.drop_eq_getElem_cons hlt]; exact hI.out.1
        have hlen := hin.len
        have z3 : wr.cell? ⟨p3, 0, none⟩ = some (.map (some p2)) := blk_cell hI.out.2.b3 rfl
        have HSH := Lib.hid hs; clear hs
        rcases hin.inv with ⟨hsO, htl⟩ | ⟨hsO, k', c, o1, hk, hf, h1, h2⟩
        · have hd : decide (l[j] ∈ out') = true := by simp [hsO]
          have HTL := Lib.hid htl
          clear hin htl hsO
          go_wp2_with (at_lookup; refine wpList_look_set rfl _ _ 133 rfl 9 3 Tryz.underlying9 Tryz.underlying133 Tryz.underlying3 (zero_int _) p2 m (fun s => decide (s ∈ out')) rfl HT.out l[j] HSH.out rfl ?_; intro cv)
          go_roundw
          case rel => exact ⟨j + 1, out', _, by omega, by go_num, Lib.hid ⟨HTL.out, hI.out.2⟩⟩
          case measure => simp [intOf]; omega
        · have hd : decide (l[j] ∈ out') = false := by simp [hsO]
          obtain ⟨x, hx, hxc, hxn, hat⟩ := fnd_some hf
          subst hxc
          subst hk
          have hl1 := h1.len
          have hl2 := h2.len
          rw [List.length_append, List.length_singleton] at hl1
          have hq2 : p2 < w1.heap.size := H.out.2.1.l2
          have hq1 : p1 < w1.heap.size := H.out.2.1.l1
          have z1 : wr.cell? ⟨p1, 0, none⟩ = some (.slice va out'.length vc) := blk_cell hI.out.2.b1 rfl
          have HX := Lib.hid (And.intro hx (And.intro hat (And.intro h1 (And.intro h2 hsO))))
          have HM := Lib.hid hm
          clear hin hx hxn hat h1 h2 hsO hf hm
          have HOW := Lib.hid (fun (w4 : World) (hg : wr.grownBy w4 (some p2)) => (hI.out.2.own.keep goodStr (Chg.grown hg) (fun n hn e => by have := hI.out.2.lo n hn; simp only [Option.some.injEq] at e; omega) (fun n hn => hn.elim)).new goodStr ((Chg.refl No w4).alloc (.cells #[strV l[j]] 9)))
          have HSR := Lib.hid (fun (w4 : World) => Src.single (P := Tryz.prog) (n := 1) (S := No) (R := RStr) goodStr (x := l[j]) rfl rfl (tx := 34) Tryz.underlying34 ⟨w4.heap.size, 0, none⟩ 1 (At.lit w4 [strV l[j]] 9))
          have HP1 := Lib.hid (fun (w4 : World) (hg : wr.grownBy w4 (some p2)) => show w4.heap[p1]? = some (.cells #[.slice va out'.length vc] 34 (0, 0)) from by
            have hz := hI.out.2.chg.size
            rw [hg.block p1 (by omega) (fun e => H.out.2.1.ne.1 (by simpa using e))]; exact hI.out.2.b1)
          go_wp2_with (first
            | (at_lookup; refine wpList_look_set rfl _ _ 133 rfl 9 3 Tryz.underlying9 Tryz.underlying133 Tryz.underlying3 (zero_int _) p2 m (fun s => decide (s ∈ out')) rfl HT.out l[j] HSH.out rfl ?_; intro cv)
            | (at_mapUpdate; (refine wpList_put_set rfl (.tmp 24) (.tmp 25) (.tmp 27) 133 rfl 9 3 Tryz.underlying9 Tryz.underlying133 Tryz.underlying3 p2 m (fun s => decide (s ∈ out')) rfl HT.out (by have := HM.out; unfold maxLen; omega) l[j] HSH.out rfl (out'.length : Int) (WalkArith.wf_i64 (by omega)) rfl ?_); intro w4 hset4 hg4; have HG4 := Lib.hid (And.intro hset4 hg4); have y1 : w4.cell? ⟨p1, 0, none⟩ = some (.slice va out'.length vc) := blk_cell (HP1.out w4 hg4) rfl; clear hset4 hg4)
            | (at_builtin; (refine wpList_appQ (S := No) rfl (.tmp 28) (.tmp 30) 34 34 rfl 9 zStr 16 Tryz.underlying34 info_str rfl (by decide) goodStr (.slice va out'.length vc) out' rfl (HOW.out _ HG4.out.2) (fun k hk _ => hk.elim) (.slice (some ⟨w4.heap.size, 0, none⟩) 1 1) [l[j]] [[strV l[j]]] rfl (Els.single rfl rfl) (HSR.out _) (by simp; unfold maxLen; omega) (by simp; omega) ?_); intro v5 w5 g1 g2 g3; obtain ⟨na5, nc5, hv5, hc5⟩ := g1.form1 (by simp); rw [List.length_append, List.length_singleton] at hv5 hc5; subst hv5; have HG5 := Lib.hid (And.intro g1 (And.intro g2 g3)); have HB5 : w5.heap[p1]? = some (.cells #[.slice va out'.length vc] 34 (0, 0)) := (by
                have hz := hI.out.2.chg.size; have hz4 := HG4.out.2.size
                rw [g2.block p1 (by simp; omega) (fun e => by have := hI.out.2.lo p1 e.symm; omega), Below.heap_alloc _ _ _ (by omega)]; exact HP1.out w4 HG4.out.2); have y5 : w5.cell? ⟨p1, 0, none⟩ = some (.slice va out'.length vc) := blk_cell HB5 rfl; have f5 : w5.frozen? ⟨p1, 0, none⟩ = false := blk_frozen HB5 0; clear g1 g2 g3 HB5))
          have hWy := hI.out.2.add H.out.2.1 HM.out HG4.out.1 HG4.out.2 HG5.out.1 HG5.out.2.1 HG5.out.2.2
          obtain ⟨wy, hwy⟩ : ∃ wy, wy = w5.setCell ⟨p1, 0, none⟩ (.slice (some ⟨na5, 0, none⟩) (out'.length + 1) nc5) := ⟨_, rfl⟩
          rw [← hwy] at hWy ⊢
          clear hwy y5 f5 y1 z1 z3 HOW HSR HP1 g0
          have z0 : wy.cell? ⟨p0, 0, none⟩ = some (.pointer (some ⟨b, 0, none⟩)) := blk_cell hWy.b0 rfl
          have z4 : wy.cell? ⟨p4, 0, none⟩ = some (.func (.func 84) #[] #[.pointer (some ⟨p3, 0, none⟩), .pointer (some ⟨p1, 0, none⟩), .pointer (some ⟨p4, 0, none⟩), .pointer (some ⟨p0, 0, none⟩)]) := blk_cell hWy.b4 rfl
          have hWb := H.out.1.keep hWy.chg H.out.2.2.1 H.out.2.2.2.1
          have k1 := hWb.c1
          have kL := fun n => hWb.lookEN HSH.out HX.out.2.1 n
          have kD := (hWb.new (Chg.refl No wy).drew).lookE HSH.out HX.out.2.1
          obtain ⟨fa, fcap, e3, hfs⟩ := H.out.1.face_slice H.out.2.2.2.1 hWy.chg HX.out.1
          have HC := Lib.hid (HIH.out k' (by omega) x.cl.faces (out' ++ [l[j]]) o1 HX.out.2.2.1 (by omega) (H.out.2.2.2.2 x HX.out.1) (H.out.1.short x HX.out.1).faces S H.out.2.2.1 wy.drew _ (.slice fa x.cl.faces.length fcap) (hWy.new (Chg.refl No wy).drew) hfs)
          clear hWy hWb hfs
          go_wp2_with fail
          go_region_with (go_at_call 84; refine HC.out.mono ?_; rintro e w6 ⟨rfl, v6, h6⟩; have H6 := Lib.hid h6; clear h6)
          all_goals
            go_wp2
            go_roundw
            case rel => exact ⟨j + 1, o1, v6, by omega, by go_num, Lib.hid ⟨HX.out.2.2.2.1, H6.out⟩⟩
            case measure => simp [intOf]; omega
      · have hjl : j = l.length := by omega
        have HJL := Lib.hid hjl
        clear hjl
        go_wp2
        go_end0
        refine ⟨rfl, v', ?_⟩
        have h1 := hI.out.1
        rw [HJL.out, List.drop_length] at h1
        cases h1
        exact hI.out.2
end

theorem IntoN.lenI {cs : List Cl} {out l o : List Bs} (h : Into cs out l o) : out.length ≤ o.length := by
  obtain ⟨k, hk⟩ := h.deep
  exact hk.len
theorem Walks.len {cs : List Cl} {out l o : List Bs} (h : Walks cs out l o) : out.length ≤ o.length := by
  induction h with
  | nil => exact Nat.le_refl _
  | cons _ hi _ ih => have := IntoN.lenI hi; omega
theorem Walks.inv {cs : List Cl} {s : Bs} {out l o : List Bs} (h : Walks cs out (s :: l) o) : ∃ c o1, fnd cs s = some c ∧ Into cs out c.faces o1 ∧ Walks cs o1 l o := by
  cases h with
  | cons hf hi h => exact ⟨_, _, hf, hi, h⟩
theorem Walks.end_ {cs : List Cl} {out o : List Bs} (h : Walks cs out [] o) : out = o := by
  cases h; rfl

/-- walk's own variables. -/
def walkV (w : World) (b : Nat) : World := ((((w.alloc (.cells #[.pointer (some ⟨b, 0, none⟩)] 42)).alloc (.cells #[zNil] 34)).alloc (.map #[] 0)).alloc (.cells #[.map (some (w.heap.size + 1 + 1))] 133)).alloc (.cells #[gatherV w.heap.size (w.heap.size + 1) (w.heap.size + 1 + 1 + 1) (w.heap.size + 1 + 1 + 1 + 1)] 146)
theorem blk_old {w : World} {k : Nat} {o o2 : Obj} (h : w.heap[k]? = some o) : (w.alloc o2).heap[k]? = some o := (Below.heap_alloc w o2 k (heap_lt h)).trans h
theorem blk_new (w : World) (o : Obj) {k : Nat} (hk : k = w.heap.size) : (w.alloc o).heap[k]? = some o := by subst hk; exact heap_alloc_new _ _
theorem walkV_chg (w : World) (b : Nat) : Chg No w (walkV w b) := ((((Chg.refl _ w).alloc _).alloc _).alloc _).alloc _ |>.alloc _
theorem WkI.start {w w1 : World} {b : Nat} (d : Chg No (walkV w b) w1) : WkI w1 w.heap.size (w.heap.size + 1) (w.heap.size + 1 + 1) (w.heap.size + 1 + 1 + 1) (w.heap.size + 1 + 1 + 1 + 1) b w1 zNil [] := by
  have b0 : (walkV w b).heap[w.heap.size]? = some (.cells #[.pointer (some ⟨b, 0, none⟩)] 42 (0, 0)) := blk_old (blk_old (blk_old (blk_old (heap_alloc_new _ _))))
  have b1 : (walkV w b).heap[w.heap.size + 1]? = some (.cells #[zNil] 34 (0, 0)) := blk_old (blk_old (blk_old (blk_new _ _ (by simp))))
  have b3 : (walkV w b).heap[w.heap.size + 1 + 1 + 1]? = some (.cells #[.map (some (w.heap.size + 1 + 1))] 133 (0, 0)) := blk_old (blk_new _ _ (by simp))
  have b4 : (walkV w b).heap[w.heap.size + 1 + 1 + 1 + 1]? = some (.cells #[gatherV w.heap.size (w.heap.size + 1) (w.heap.size + 1 + 1 + 1) (w.heap.size + 1 + 1 + 1 + 1)] 146 (0, 0)) := blk_new _ _ (by simp)
  have b2 : (walkV w b).heap[w.heap.size + 1 + 1]? = some (.map #[] 0) := blk_old (blk_old (blk_new _ _ (by simp)))
  have s2 : StrSet Tryz.prog 9 3 w1 (w.heap.size + 1 + 1) 0 (fun s => decide (s ∈ ([] : List Bs))) := by
    have hm := StrSet.made (P := Tryz.prog) (k := 9) (e := 3) ((w.alloc (.cells #[.pointer (some ⟨b, 0, none⟩)] 42)).alloc (.cells #[zNil] 34))
    rw [size_alloc1, size_alloc1] at hm
    have hf : (fun s : Bs => decide (s ∈ ([] : List Bs))) = fun _ => false := by funext s; simp
    rw [hf]
    exact hm.at_block ((d.block _ (heap_lt b2) (fun h => h)).trans (b2.trans (blk_new ((w.alloc (.cells #[.pointer (some ⟨b, 0, none⟩)] 42)).alloc (.cells #[zNil] 34)) (.map #[] 0) (by simp)).symm))
  exact ⟨Chg.refl _ _, (d.block _ (heap_lt b0) (fun h => h)).trans b0, (d.block _ (heap_lt b1) (fun h => h)).trans b1, OQ.nil _ _ _ _, fun k hk => (by cases hk), ⟨0, Nat.le_refl _, s2⟩, (d.block _ (heap_lt b3) (fun h => h)).trans b3, (d.block _ (heap_lt b4) (fun h => h)).trans b4⟩
theorem WkP.start {w w1 : World} {b : Nat} (d : Chg No (walkV w b) w1) : WkP w1 w.heap.size (w.heap.size + 1) (w.heap.size + 1 + 1) (w.heap.size + 1 + 1 + 1) (w.heap.size + 1 + 1 + 1 + 1) := by
  have := d.size
  simp only [walkV, size_alloc1] at this
  exact ⟨by omega, by omega, by omega, by omega, by omega, by omega, by omega, by omega, by omega, by omega, by omega, by omega⟩

section
variable {S O : Blocks} {w : World} {b mb : Nat} {nv : Value} {es : List Ent} {lk : Bool}
def Row (w : World) (o : List Bs) (e : Ending) (w' : World) : Prop := ∃ v, e = .returned v ∧ OQ 9 1 RStr No w' v o ∧ Chg No w w' ∧ ∀ k, v.ownBlock = some k → w.heap.size ≤ k
set_option maxRecDepth 100000 in
set_option maxHeartbeats 6400000 in
theorem walk_c (h : HW S O w b mb nv es lk) (s : Bs) (l o : List Bs) (hc : IsChain (cls es) s l) (hl : l.length ≤ 1000) (ho : Walks (cls es) [] l o) (hol : o.length ≤ 100000) (hfl : ∀ x ∈ es, x.cl.faces.length ≤ 1000) :
    Calls Tryz.prog 44 #[.pointer (some ⟨b, 0, none⟩), strV s] w (Row w o) := by
  have hmm := @run_makeMap Tryz.prog
  have hmf : ∀ (fn : Fn) (first cap : Array Value) (w : World), (Instr.makeFunc fn first cap).run Tryz.prog w = .ok (.func fn first cap) w := fun _ _ _ _ => rfl
  have hst : ∀ (w : World) (a : Addr) (f : Fn) (g h : Array Value) (m : Mode), (store a (.func f g h) m).run Tryz.prog w = stored Tryz.prog w a (.func f g h) m := fun w a f g h m => run_store Tryz.prog w a _ m rfl
  have hbl := h.o_lt b h.own_b
  have H := Lib.hid (And.intro h (And.intro hc (And.intro ho hfl)))
  clear h hc ho hfl
  go_enter Tryz.func44, Tryz.ntmps44
  go_wp2_with fail
  refine (chain_c (w := walkV w b) (H.out.1.new (walkV_chg w b)) s l H.out.2.1 hl).mono ?_
  rintro e w1 ⟨v, rfl, hoq, d, hv⟩
  have I1 := Lib.hid (And.intro (WkI.start d) (And.intro (WkP.start d) ((walkV_chg w b).trans d (fun _ _ h => h))))
  have hsq : SQ 1 RStr (fun k => v.ownBlock = some k) w1 v l := hoq.sq goodStr (fun _ h => h) (fun _ h => h.elim)
  obtain ⟨va, vc, rfl, -, -⟩ := hsq.form
  have hz : (walkV w b).heap.size = w.heap.size + 1 + 1 + 1 + 1 + 1 := by simp [walkV]
  have hT : ∀ j, (Value.slice va l.length vc).ownBlock = some j → ¬ (j = w.heap.size + 1 ∨ j = w.heap.size + 1 + 1) := fun j hj => by have := hv j hj; rw [hz] at this; omega
  have hW1 : HW S O w1 b mb nv es lk := H.out.1.new I1.out.2.2
  have hSx : ∀ j, S j → ¬ (j = w.heap.size + 1 ∨ j = w.heap.size + 1 + 1) := fun j hj => by have := H.out.1.s_lt j hj; omega
  have hOx : ∀ j, O j → ¬ (j = w.heap.size + 1 ∨ j = w.heap.size + 1 + 1) := fun j hj => by have := H.out.1.o_lt j hj; omega
  have HS := Lib.hid (And.intro hsq (And.intro hT (And.intro hW1 (And.intro hSx hOx))))
  clear d hoq hsq hv hz hT hW1 hSx hOx
  have EG := enters_gather
  go_wp2
  go_loopw [16] (fun i wr => ∃ (k : Nat) (out' : List Bs) (v' : Value), k ≤ l.length ∧ i = .int .i64 k ∧ RowKit.Hid (Walks (cls es) out' (l.drop k) o ∧ WkI w1 w.heap.size (w.heap.size + 1) (w.heap.size + 1 + 1) (w.heap.size + 1 + 1 + 1) (w.heap.size + 1 + 1 + 1 + 1) b wr v' out')) (fun i _ => l.length - (intOf i).toNat)
  case atStart => exact ⟨0, [], zNil, Nat.zero_le _, rfl, Lib.hid ⟨by rw [List.drop_zero]; exact H.out.2.2.1, I1.out.1⟩⟩
  case round =>
    obtain ⟨k, out', v', hk, rfl, hI⟩ := hrel
    by_cases hlt : k < l.length
    · obtain ⟨b', o', ds, rfl, hcl, hR, hbl', hsb, hcell⟩ := SQ.cells (HS.out.1.keep goodStr hI.out.2.chg HS.out.2.1) k hlt
      obtain rfl := hR
      have g0 := hcell 0 _ rfl
      rw [Nat.mul_one, Nat.add_zero] at g0
      clear hcell hcl
      have hin : Walks (cls es) out' (l[k] :: l.drop (k + 1)) o := by rw [← List.drop_eq_getElem_cons hlt]; exact hI.out.1
      obtain ⟨c, o1, hf, h1, h2⟩ := hin.inv
      obtain ⟨x, hx, hxc, hxn, hat⟩ := fnd_some hf
      subst hxc
      have hsh : Short l[k] := by rw [← hxn]; exact (H.out.1.short x hx).name
      have hl2 := h2.len
      obtain ⟨kk, hkk⟩ := h1.deep
      have z0 : wr.cell? ⟨w.heap.size, 0, none⟩ = some (.pointer (some ⟨b, 0, none⟩)) := blk_cell hI.out.2.b0 rfl
      have z4 : wr.cell? ⟨w.heap.size + 1 + 1 + 1 + 1, 0, none⟩ = some (.func (.func 84) #[] #[.pointer (some ⟨w.heap.size + 1 + 1 + 1, 0, none⟩), .pointer (some ⟨w.heap.size + 1, 0, none⟩), .pointer (some ⟨w.heap.size + 1 + 1 + 1 + 1, 0, none⟩), .pointer (some ⟨w.heap.size, 0, none⟩)]) := blk_cell hI.out.2.b4 rfl
      have hWb := HS.out.2.2.1.keep hI.out.2.chg HS.out.2.2.2.1 HS.out.2.2.2.2
      have k1 := hWb.c1
      have kL := fun n => hWb.lookEN hsh hat n
      have kD := (hWb.new (Chg.refl No wr).drew).lookE hsh hat
      obtain ⟨fa, fcap, e3, hfs⟩ := HS.out.2.2.1.face_slice HS.out.2.2.2.2 hI.out.2.chg hx
      have HC := Lib.hid (into_c HS.out.2.2.1 I1.out.2.1 HS.out.2.2.2.1 HS.out.2.2.2.2 H.out.2.2.2 kk x.cl.faces out' o1 hkk (by omega) (H.out.2.2.2 x hx) (H.out.1.short x hx).faces S HS.out.2.2.2.1 wr.drew _ (.slice fa x.cl.faces.length fcap) (hI.out.2.new (Chg.refl No wr).drew) hfs)
      have HX := Lib.hid h2
      clear hin hf h1 h2 hx hxn hat hsh hkk hWb hfs
      go_wp2_with fail
      go_region_with (go_at_call 84; refine HC.out.mono ?_; rintro e w6 ⟨rfl, v6, h6⟩; have H6 := Lib.hid h6; clear h6)
      all_goals
        go_wp2
        go_roundw
        case rel => exact ⟨k + 1, o1, v6, by omega, by go_num, Lib.hid ⟨HX.out, H6.out⟩⟩
        case measure => simp [intOf]; omega
    · have hjl : k = l.length := by omega
      have HJL := Lib.hid hjl
      clear hjl
      have z1 : wr.cell? ⟨w.heap.size + 1, 0, none⟩ = some v' := blk_cell hI.out.2.b1 rfl
      obtain ⟨na, nc, hv'⟩ := form_len hI.out.2.own
      subst hv'
      go_wp2
      go_ret
      have h1 := hI.out.1
      rw [HJL.out, List.drop_length] at h1
      have h1 := h1.end_
      refine ⟨_, rfl, by have := hI.out.2.own; rwa [h1] at this ⊢, I1.out.2.2.trans hI.out.2.chg (fun n hn e => by omega), fun n hn => ?_⟩
      have h3 := hI.out.2.lo n hn
      have h4 := I1.out.2.2.size
      omega
end

end Go.Proofs.YtgmmclcpfmnoiaaGreatDoor
