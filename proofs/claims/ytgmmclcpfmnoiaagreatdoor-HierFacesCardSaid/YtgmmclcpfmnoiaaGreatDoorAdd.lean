/-
  (*World).Add, walked at modules of an empty pool and classes without interfaces, fields, methods.
-/
import Derived.Test.YtgmmclcpfmnoiaaGreatDoorNew
import Derived.BigQuiet
namespace Go.Proofs.YtgmmclcpfmnoiaaGreatDoor
open Go.RowKit

theorem PRow.cells {w : World} {g : Nat} {cs : List Cl} (h : PRow w g cs) (i : Nat) (hi : i < cs.length) : ∃ a1 c1 a2 c2 a3 c3, w.cell? ⟨g, i * 6, none⟩ = some (.int .i64 cs[i].flags) ∧ w.cell? ⟨g, i * 6 + 1, none⟩ = some (strV cs[i].name) ∧ w.cell? ⟨g, i * 6 + 2, none⟩ = some (strV cs[i].super) ∧
    w.cell? ⟨g, i * 6 + 3, none⟩ = some (.slice a1 0 c1) ∧ w.cell? ⟨g, i * 6 + 4, none⟩ = some (.slice a2 0 c2) ∧ w.cell? ⟨g, i * 6 + 5, none⟩ = some (.slice a3 0 c3) ∧
    ∀ (S : Blocks) (w' : World), RCl S w' cs[i] [.int .i64 cs[i].flags, strV cs[i].name, strV cs[i].super, .slice a1 0 c1, .slice a2 0 c2, .slice a3 0 c3] := by
  obtain ⟨cur, h1, h2⟩ := h
  obtain ⟨⟨a1, c1, a2, c2, a3, c3, k0, k1, k2, k3, k4, k5, z1, z2, z3⟩, y1, y2, y3⟩ := h2 i hi
  refine ⟨a1, c1, a2, c2, a3, c3, by simp [World.cell?, h1, k0], by simp [World.cell?, h1, k1], by simp [World.cell?, h1, k2], by simp [World.cell?, h1, k3], by simp [World.cell?, h1, k4], by simp [World.cell?, h1, k5], fun S w' => ⟨_, _, _, rfl, ?_, ?_, ?_⟩⟩
  · rw [y1]; exact SQ.empty a1 c1 z1
  · rw [y2]; exact SQ.empty a2 c2 z2
  · rw [y3]; exact SQ.empty a3 c3 z3
theorem PlainCl.short {c : Cl} (h : PlainCl c) : ShortCl c :=
  ⟨by have := nameB_len h.name; unfold Short maxLen; omega, by have := nameB_len h.super; unfold Short maxLen; omega, fun s hs => by rw [h.faces] at hs; cases hs⟩
theorem HW.lookN {S O : Blocks} {w : World} {b mb : Nat} {nv : Value} {es : List Ent} {lk : Bool} (h : HW S O w b mb nv es lk) (s : Bs) (hs : Short s) (n : Nat) : (Instr.lookup 77 (.map (some mb)) (.string ⟨s.toArray⟩) false).run Tryz.prog (w.drewN n) = .ok (ptrV (atf es s)) (w.drewN n) :=
  (h.new ((Chg.refl _ _).drewN n)).look s hs

/-- What Add leaves. -/
structure Added (S O : Blocks) (w : World) (b mb : Nat) (es : List Ent) (cs : List Cl) (w' : World) (O' : Blocks) (nv' : Value) (es' : List Ent) : Prop where
  hw : HW S O' w' b mb nv' es' false
  cl : cls es' = cls es ++ cs
  bare : ∀ x ∈ es', x ∈ es ∨ (x.pool = [] ∧ x.chain = [] ∧ x.faces = [])
  oldO : ∀ k, k < w.heap.size → O' k → O k
  chg : Chg O w w'

/-- What holds while classes are put in. -/
structure AddI (S O : Blocks) (w : World) (b mb : Nat) (es : List Ent) (cs : List Cl) (B g : Nat) (x y : Value) (k : Nat) (wr : World) (O' : Blocks) (nv' : Value) (es' : List Ent) : Prop where
  hw : HW S O' wr b mb nv' es' false
  cl : cls es' = cls es ++ cs.take k
  bare : ∀ x ∈ es', x ∈ es ∨ (x.pool = [] ∧ x.chain = [] ∧ x.faces = [])
  oldO : ∀ k, k < w.heap.size → O' k → O k
  chg : Chg O w wr
  box : wr.heap[B]? = some (.cells #[x, y] 47 (0, 0))
  row : PRow wr g cs
  nB : ¬ O' B
  nG : ¬ O' g

set_option maxRecDepth 100000 in
set_option maxHeartbeats 6400000 in
theorem add_plain (S O M : Blocks) (w : World) (b mb : Nat) (nv : Value) (es : List Ent) (h : HW S O w b mb nv es false) (pa : Option Addr) (pc : Nat) (hpa : pa = none → pc = 0) (cv : Value) (cs : List Cl) (hm : SQ 6 RCl M w cv cs) (hM : ∀ k, M k → k < w.heap.size)
    (hp : ∀ c ∈ cs, PlainCl c) (hn : (cs.map (·.name)).Nodup) (hnew : ∀ c ∈ cs, atf es c.name = none) (hne : cs ≠ []) (hl : cs.length ≤ 64) (h8 : 8 ≤ es.length) (hle : es.length ≤ 64) :
    Calls Tryz.prog 10 #[.pointer (some ⟨b, 0, none⟩), .agg #[.slice pa 0 pc, cv]] w fun e w' => e = .returned (.int .i64 0) ∧ ∃ O' nv' es', Added S O w b mb es cs w' O' nv' es' := by
  obtain ⟨a, cap, hv, hcap, hnil⟩ := hm.form
  subst hv
  obtain ⟨na, nc, hnv⟩ := h.names.form
  rw [List.length_map] at hnv
  subst hnv
  have c2 := h.c2
  have hbl := h.o_lt b h.own_b
  have H := Lib.hid h
  have HM := Lib.hid (And.intro hm (And.intro hM (And.intro hp (And.intro hn (And.intro hnew hne)))))
  clear h hm hM hp hn hnew hne
  go_enter Tryz.func10, Tryz.ntmps10
  go_wp2_with fail
  refine (check_plain M _ pa pc _ cs (HM.out.1.new goodCl ((Chg.refl _ _).alloc _)) HM.out.2.2.1 HM.out.2.2.2.1 hl).mono ?_
  rintro e w1 ⟨rfl, d⟩
  have C1 := Lib.hid (((Chg.refl No w).alloc (.cells #[.slice pa 0 pc, .slice a cs.length cap] 47)).trans d (fun _ _ h => h))
  have B1 : w1.heap[w.heap.size]? = some (.cells #[.slice pa 0 pc, .slice a cs.length cap] 47 (0, 0)) := by
    rw [d.block w.heap.size (by simp) (fun h => h)]
    exact heap_alloc_new _ _
  have HB := Lib.hid B1
  have m1 : w1.cell? ⟨w.heap.size, 1, none⟩ = some (.slice a cs.length cap) := blk_cell B1 rfl
  clear d B1
  have nq : ∀ (w : World), (binOp .neq 84 .nilIface .nilIface).run Tryz.prog w = .ok (.bool false) w := fun _ => by kernel_rfl
  go_wp2
  go_loopw [23] (fun i wr => ∃ k : Nat, k ≤ cs.length ∧ i = .int .i64 k ∧ RowKit.Hid (Chg No w wr ∧ wr.heap[w.heap.size]? = some (.cells #[.slice pa 0 pc, .slice a cs.length cap] 47 (0, 0)))) (fun i _ => cs.length - (intOf i).toNat)
  case atStart => exact ⟨0, Nat.zero_le _, rfl, Lib.hid ⟨C1.out, HB.out⟩⟩
  case round =>
    obtain ⟨k, hk, rfl, hI⟩ := hrel
    by_cases hlt : k < cs.length
    · obtain ⟨b', o, ds, rfl, hcl, hR, hbl', hsb, hcell⟩ := SQ.cells (HM.out.1.new goodCl hI.out.1) k hlt
      obtain ⟨f, g, m, rfl, q1, q2, q3⟩ := hR
      obtain ⟨e1, d1, rfl, -, -⟩ := q1.form
      obtain ⟨e2, d2, rfl, -, -⟩ := q2.form
      obtain ⟨e3, d3, rfl, -, -⟩ := q3.form
      have g0 := hcell 0 _ rfl
      have g1 := hcell 1 _ rfl
      have g2 := hcell 2 _ rfl
      have g3 := hcell 3 _ rfl
      have g4 := hcell 4 _ rfl
      have g5 := hcell 5 _ rfl
      rw [Nat.add_zero] at g0
      rw [← Nat.add_assoc] at g1 g2 g3 g4 g5
      clear hcell q1 q2 q3 hcl
      have hW := H.out.new hI.out.1
      have w1c := hW.c1
      have wbl : b < wr.heap.size := Nat.lt_of_lt_of_le hbl hI.out.1.size
      have hL : ∀ (ob : Obj) (n : Nat), (Instr.lookup 77 (.map (some mb)) (.string ⟨cs[k].name.toArray⟩) false).run Tryz.prog ((wr.alloc ob).drewN n) = .ok (.pointer none) ((wr.alloc ob).drewN n) := fun ob n => by
        have := (hW.new ((Chg.refl No wr).alloc ob)).lookN cs[k].name (HM.out.2.2.1 cs[k] (List.getElem_mem hlt)).short.name n
        rwa [HM.out.2.2.2.2.1 cs[k] (List.getElem_mem hlt)] at this
      clear hW
      go_wp2_with fail
      go_quiet (fail)
      go_wp2
      go_roundw
      case rel =>
        refine ⟨k + 1, by omega, by go_num, Lib.hid ⟨(hI.out.1.alloc _).drewN _, ?_⟩⟩
        have hl := heap_lt hI.out.2
        show (wr.alloc _).heap[w.heap.size]? = _
        rw [Below.heap_alloc _ _ _ hl]
        exact hI.out.2
      case measure => simp [intOf]; omega
    · have hW := H.out.new hI.out.1
      have w0c := hW.c0
      have wbl : b < wr.heap.size := Nat.lt_of_lt_of_le hbl hI.out.1.size
      have hsz := hI.out.1.size
      have q0 : wr.cell? ⟨w.heap.size, 0, none⟩ = some (.slice pa 0 pc) := blk_cell hI.out.2 rfl
      have q1 : wr.cell? ⟨w.heap.size, 1, none⟩ = some (.slice a cs.length cap) := blk_cell hI.out.2 rfl
      have wml := heap_lt hI.out.2
      clear hW
      have h256 : ¬ ((es.length : Int) - 8 + (cs.length : Int) > 256) := by omega
      go_wp2_with fail
      go_quiet (fail)
      go_wp2_with fail
      refine (twin_plain M _ pa pc hpa _ cs (HM.out.1.new goodCl (hI.out.1.drewN _)) (fun k hk => Nat.lt_of_lt_of_le (HM.out.2.1 k hk) hsz) (fun c hc => ⟨(HM.out.2.2.1 c hc).faces, (HM.out.2.2.1 c hc).fields, (HM.out.2.2.1 c hc).methods⟩) HM.out.2.2.2.2.2 hl).mono ?_
      rintro e w2 ⟨pa1, pc1, g, cap2, rfl, hpa1, hrow, hcap2, hg, d⟩
      have hg' : wr.heap.size ≤ g := hg
      have C2 := Lib.hid ((hI.out.1.drewN nq).trans d (fun _ _ h => h))
      have B2 : w2.heap[w.heap.size]? = some (.cells #[.slice pa 0 pc, .slice a cs.length cap] 47 (0, 0)) := (d.block w.heap.size wml (fun h => h)).trans hI.out.2
      have p0 : w2.cell? ⟨w.heap.size, 0, none⟩ = some (.slice pa 0 pc) := blk_cell B2 rfl
      have p1 : w2.cell? ⟨w.heap.size, 1, none⟩ = some (.slice a cs.length cap) := blk_cell B2 rfl
      have f0 := blk_frozen B2 0
      have f1 := blk_frozen B2 1
      have B3 := setCell_at (o := 1) (setCell_at (o := 0) B2 (.slice pa1 0 pc1)) (.slice (some ⟨g, 0, none⟩) cs.length cap2)
      have hne : g ≠ w.heap.size := by omega
      have hI0 : AddI S O w b mb es cs w.heap.size g (.slice pa1 0 pc1) (.slice (some ⟨g, 0, none⟩) cs.length cap2) 0 ((w2.setCell ⟨w.heap.size, 0, none⟩ (.slice pa1 0 pc1)).setCell ⟨w.heap.size, 1, none⟩ (.slice (some ⟨g, 0, none⟩) cs.length cap2)) O (.slice na es.length nc) es := by
        have c4 : Chg No w ((w2.setCell ⟨w.heap.size, 0, none⟩ (.slice pa1 0 pc1)).setCell ⟨w.heap.size, 1, none⟩ (.slice (some ⟨g, 0, none⟩) cs.length cap2)) := (C2.out.set_new (Nat.le_refl _) 0 _).set_new (Nat.le_refl _) 1 _
        refine ⟨H.out.new c4, by simp, fun x hx => .inl hx, fun _ _ h => h, c4.mono (fun _ _ h => h.elim), B3, (hrow.keep (chg_setCell _ _ _ _) hne).keep (chg_setCell _ _ _ _) hne, fun h => ?_, fun h => ?_⟩
        · have := H.out.o_lt _ h; omega
        · have := H.out.o_lt _ h; omega
      have HI := Lib.hid hI0
      clear hrow d B2 B3 hI0 q0 q1 w0c
      go_wp2
      clear p0 p1 f0 f1
      go_loopw [54] (fun i wr => ∃ (k : Nat) (O' : Blocks) (nv' : Value) (es' : List Ent), k ≤ cs.length ∧ i = .int .i64 k ∧ RowKit.Hid (AddI S O w b mb es cs w.heap.size g (.slice pa1 0 pc1) (.slice (some ⟨g, 0, none⟩) cs.length cap2) k wr O' nv' es')) (fun i _ => cs.length - (intOf i).toNat)
      case atStart => exact ⟨0, O, _, es, Nat.zero_le _, rfl, HI⟩
      case round =>
        clear hk hlt
        obtain ⟨k, O', nv', es', hk, rfl, hJ⟩ := hrel
        by_cases hlt : k < cs.length
        · obtain ⟨a1, d1, a2, d2, a3, d3, k0, k1, k2, k3, k4, k5, hrc⟩ := hJ.out.row.cells k hlt
          have j0 : wr.cell? ⟨w.heap.size, 0, none⟩ = some (.slice pa1 0 pc1) := blk_cell hJ.out.box rfl
          have wbb := heap_lt hJ.out.box
          have hw1 := hJ.out.hw.new (((Chg.refl No wr).alloc (.cells #[.int .i64 cs[k].flags, strV cs[k].name, strV cs[k].super, .slice a1 0 d1, .slice a2 0 d2, .slice a3 0 d3] 37)).drew)
          have hle' : es'.length ≤ 1000 := by
            have := congrArg List.length hJ.out.cl
            simp [cls] at this
            omega
          have hnew' : ∀ x ∈ es', x.cl.name ≠ cs[k].name := by
            intro x hx e
            have hx' : x.cl ∈ cls es' := List.mem_map_of_mem hx
            rw [hJ.out.cl] at hx'
            rcases List.mem_append.1 hx' with hx' | hx'
            · obtain ⟨y, hy, hye⟩ := List.mem_map.1 hx'
              have h1 := (atf_mem H.out.uniq hy).1
              rw [hye, e, HM.out.2.2.2.2.1 cs[k] (List.getElem_mem hlt)] at h1
              cases h1
            · obtain ⟨j, hj, hje⟩ := List.getElem_of_mem hx'
              rw [List.length_take] at hj
              rw [List.getElem_take] at hje
              have hN2 := List.pairwise_iff_getElem.1 HM.out.2.2.2.1 j k (by rw [List.length_map]; omega) (by rw [List.length_map]; exact hlt) (by omega)
              rw [List.getElem_map, List.getElem_map] at hN2
              exact hN2 (by rw [hje]; exact e)
          have HC := Lib.hid (put_c S O' _ b mb nv' es' false hw1 cs[k] [] _ _ _ (.slice pa1 0 pc1) (hrc S _) (SQ.empty pa1 pc1 hpa1) (HM.out.2.2.1 cs[k] (List.getElem_mem hlt)).short hnew' hle')
          clear hw1 hnew' hle' hrc
          go_wp2_with fail
          go_region_with (go_at_call 32; refine HC.out.mono ?_; rintro e w3 ⟨rfl, O2, nv2, kk, hw3, o1, o2, c3⟩)
          all_goals
            have hsz3 := c3.size
            have hJ1 : AddI S O w b mb es cs w.heap.size g (.slice pa1 0 pc1) (.slice (some ⟨g, 0, none⟩) cs.length cap2) (k + 1) w3 O2 nv2 (es' ++ [⟨kk, cs[k], [], [], []⟩]) := by
              have hgl := hJ.out.row.lt
              have hws := hJ.out.chg.size
              have hax : wr.heap.size < (wr.alloc (.cells #[.int .i64 cs[k].flags, strV cs[k].name, strV cs[k].super, .slice a1 0 d1, .slice a2 0 d2, .slice a3 0 d3] 37)).drew.heap.size := by
                show wr.heap.size < (wr.alloc _).heap.size
                simp
              refine ⟨hw3, ?_, ?_, ?_, ?_, ?_, ?_, ?_, ?_⟩
              · rw [List.take_succ_eq_append_getElem hlt, ← List.append_assoc, ← hJ.out.cl]; simp [cls]
              · intro x hx
                rcases List.mem_append.1 hx with hx | hx
                · exact hJ.out.bare x hx
                · simp only [List.mem_singleton] at hx; subst hx; exact .inr ⟨rfl, rfl, rfl⟩
              · intro n hn ho
                exact hJ.out.oldO n hn (o1 n (by omega) ho)
              · exact ((hJ.out.chg.alloc (.cells #[.int .i64 cs[k].flags, strV cs[k].name, strV cs[k].super, .slice a1 0 d1, .slice a2 0 d2, .slice a3 0 d3] 37)).drew).trans c3 (fun n hn ho => hJ.out.oldO n hn ho)
              · rw [c3.block _ (by omega) hJ.out.nB]
                show (wr.alloc _).heap[w.heap.size]? = _
                rw [Below.heap_alloc _ _ _ wbb]
                exact hJ.out.box
              · exact (hJ.out.row.keep ((Chg.refl No wr).alloc (.cells #[.int .i64 cs[k].flags, strV cs[k].name, strV cs[k].super, .slice a1 0 d1, .slice a2 0 d2, .slice a3 0 d3] 37)).drew (fun h => h)).keep c3 hJ.out.nG
              · intro ho; exact hJ.out.nB (o1 _ (by omega) ho)
              · intro ho; exact hJ.out.nG (o1 _ (by omega) ho)
            have HJ := Lib.hid hJ1
            clear hw3 o1 o2 c3 hJ1 k0 k1 k2 k3 k4 k5 j0
            go_wp2
            go_roundw
            case rel => exact ⟨k + 1, O2, nv2, _, by omega, by go_num, HJ⟩
            case measure => simp [intOf]; omega
        · go_wp2
          go_ret
          have hkl : k = cs.length := by omega
          subst hkl
          exact ⟨rfl, O', nv', es', hJ.out.hw, by rw [hJ.out.cl, List.take_length], hJ.out.bare, hJ.out.oldO, hJ.out.chg⟩

end Go.Proofs.YtgmmclcpfmnoiaaGreatDoor
