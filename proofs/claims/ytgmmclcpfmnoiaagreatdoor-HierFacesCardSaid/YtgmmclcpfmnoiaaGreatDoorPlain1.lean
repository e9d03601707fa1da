/-
  Package module's checks, walked at classes without interfaces, fields, methods, at an empty pool.
-/
import Derived.Test.YtgmmclcpfmnoiaaGreatDoorFinds
import Derived.Test.YtgmmclcpfmnoiaaGreatDoorApp
namespace Go.Proofs.YtgmmclcpfmnoiaaGreatDoor
open Go.RowKit

/-- A class of nothing but names that may be. -/
structure PlainCl (c : Cl) : Prop where
  flags : c.flags = 0
  name : nameB c.name = true
  super : nameB c.super = true
  faces : c.faces = []
  fields : c.fields = []
  methods : c.methods = []
theorem nameB_len {s : Bs} (h : nameB s = true) : s.length ≤ 32 := by
  unfold nameB at h; simp at h; exact h.2

theorem box_keep {w w1 : World} {c : Array Value} {T : Nat} (d : Chg No (w.alloc (.cells c T)) w1) {j : Nat} {u : Value} (h : c[j]? = some u) : w1.cell? ⟨w.heap.size, j, none⟩ = some u := by
  rw [d.cell (p := ⟨w.heap.size, j, none⟩) (by simp) (fun h => h)]
  simpa using h

theorem face_c (w : World) (fl : Int) (a b f g m : Value) :
    Calls Tryz.prog 122 #[.agg #[.int .i64 fl, a, b, f, g, m]] w fun e w' => e = .returned (.bool (fl == 1)) ∧ Chg No w w' := by
  go_enter Tryz.func122, Tryz.ntmps122
  go_wp2
  go_ret
  exact ⟨rfl, (Chg.refl _ _).alloc _⟩

set_option maxHeartbeats 1600000 in
theorem head_plain (w : World) (n s : Bs) (hn : nameB n = true) (hs : nameB s = true) (a1 a2 a3 : Option Addr) (c1 c2 c3 : Nat) :
    Calls Tryz.prog 98 #[.agg #[.int .i64 0, strV n, strV s, .slice a1 0 c1, .slice a2 0 c2, .slice a3 0 c3]] w fun e w' => e = .returned (.pointer none) ∧ Chg No w w' := by
  have l1 := nameB_len hn
  have l2 := nameB_len hs
  have HN := Lib.hid hn; clear hn
  have HS := Lib.hid hs; clear hs
  go_enter Tryz.func98, Tryz.ntmps98
  go_wp2_with fail
  refine (name_c _ n (by omega)).mono ?_
  rintro e w1 ⟨he, rfl⟩
  rw [HN.out] at he
  subst he
  go_wp2_with fail
  refine (name_c _ s (by omega)).mono ?_
  rintro e w1 ⟨he, rfl⟩
  rw [HS.out] at he
  subst he
  go_wp2_with fail
  refine (face_c _ _ _ _ _ _ _).mono ?_
  rintro e w1 ⟨rfl, d1⟩
  have b0 := box_keep d1 (j := 0) rfl
  have b1 := box_keep d1 (j := 1) rfl
  have b2 := box_keep d1 (j := 2) rfl
  have b3 := box_keep d1 (j := 3) rfl
  have b4 := box_keep d1 (j := 4) rfl
  have b5 := box_keep d1 (j := 5) rfl
  have D1 := Lib.hid d1; clear d1
  go_wp2_with fail
  refine (face_c _ _ _ _ _ _ _).mono ?_
  rintro e w2 ⟨rfl, d2⟩
  have D2 := Lib.hid (D1.out.trans d2 (fun _ _ h => h)); clear d2
  have b3' := box_keep D2.out (j := 3) rfl
  clear b0 b1 b2 b3 b4 b5
  go_wp2
  refine wp_loop_rounds 1 ?_
  rw [rounds_succ]
  go_wp2
  go_ret
  exact ⟨rfl, ((Chg.refl No w).alloc _).trans D2.out (fun _ _ h => h)⟩

set_option maxHeartbeats 1600000 in
theorem fields_plain (w : World) (x n s : Value) (a1 a2 a3 : Option Addr) (c1 c2 c3 : Nat) :
    Calls Tryz.prog 99 #[.agg #[x, n, s, .slice a1 0 c1, .slice a2 0 c2, .slice a3 0 c3]] w fun e w' => e = .returned (.pointer none) ∧ Chg No w w' := by
  go_enter Tryz.func99, Tryz.ntmps99
  go_wp2
  refine wp_loop_rounds 1 ?_
  rw [rounds_succ]
  go_wp2
  go_ret
  exact ⟨rfl, (Chg.refl _ _).alloc _⟩
set_option maxHeartbeats 1600000 in
theorem methods_plain (w : World) (x n s : Value) (p : Value) (a1 a2 a3 : Option Addr) (c1 c2 c3 : Nat) :
    Calls Tryz.prog 100 #[.agg #[x, n, s, .slice a1 0 c1, .slice a2 0 c2, .slice a3 0 c3], p] w fun e w' => e = .returned (.pointer none) ∧ Chg No w w' := by
  go_enter Tryz.func100, Tryz.ntmps100
  go_wp2
  refine wp_loop_rounds 1 ?_
  rw [rounds_succ]
  go_wp2
  go_ret
  exact ⟨rfl, (Chg.refl _ _).alloc _⟩
set_option maxHeartbeats 1600000 in
theorem pool_empty (w : World) (a : Option Addr) (c : Nat) :
    Calls Tryz.prog 97 #[.slice a 0 c] w fun e w' => e = .returned (.tuple #[.int .i64 0, .int .i64 0]) ∧ w' = w := by
  go_enter Tryz.func97, Tryz.ntmps97
  go_wp2
  refine wp_loop_rounds 1 ?_
  rw [rounds_succ]
  go_wp2
  go_ret2
  exact ⟨rfl, rfl⟩

end Go.Proofs.YtgmmclcpfmnoiaaGreatDoor

namespace Go.Proofs.YtgmmclcpfmnoiaaGreatDoor
open Go.RowKit

theorem SQ.take {α : Type} {n : Nat} {R : Reading α} {S : Blocks} {w : World} {a : Option Addr} {len cap : Nat} {xs : List α} (h : SQ n R S w (.slice a len cap) xs) (k : Nat) (hk : k ≤ xs.length) : SQ n R S w (.slice a k cap) (xs.take k) := by
  obtain ⟨a', cap', he, h1, h2, h3⟩ := h
  cases he
  refine ⟨a, cap, by rw [List.length_take, Nat.min_eq_left hk], by rw [List.length_take]; omega, h2, fun p hp hx => ?_⟩
  have hne : xs ≠ [] := fun e => hx (by rw [e]; simp)
  obtain ⟨h4, h5, h6, h7⟩ := h3 p hp hne
  refine ⟨h4, h5, h6, fun i x hi => ?_⟩
  rw [List.getElem?_take] at hi
  split at hi
  · exact h7 i x hi
  · cases hi

theorem twice_c (w : World) (n m : Bs) (x s f g h : Value) (k : Nat) (hk : w.cell? ⟨k, 1, none⟩ = some (strV m)) (hlt : k < w.heap.size) :
    Calls Tryz.prog 102 #[.agg #[x, strV n, s, f, g, h], .pointer (some ⟨k, 0, none⟩)] w fun e w' => e = .returned (.bool (n == m)) ∧ Chg No w w' := by
  have hk' : (w.alloc (.cells #[x, strV n, s, f, g, h] 37)).cell? ⟨k, 1, none⟩ = some (strV m) := by
    rw [World.cell?_alloc_past _ _ _ hlt]; exact hk
  go_enter Tryz.func102, Tryz.ntmps102
  go_wp2
  go_ret
  exact ⟨rfl, (Chg.refl _ _).alloc _⟩

set_option maxRecDepth 100000 in
set_option maxHeartbeats 3200000 in
theorem wrong_plain (S : Blocks) (w : World) (pa : Option Addr) (pc : Nat) (cv : Value) (cs : List Cl) (h : SQ 6 RCl S w cv cs) (hp : ∀ c ∈ cs, PlainCl c) (hn : (cs.map (·.name)).Nodup) (hl : cs.length ≤ 64) :
    Calls Tryz.prog 63 #[.agg #[.slice pa 0 pc, cv]] w fun e w' => e = .returned (.pointer none) ∧ Chg No w w' := by
  obtain ⟨a, cap, hv, hcap, hnil⟩ := h.form
  have H := Lib.hid (And.intro h (And.intro hp hn)); clear h hp hn
  subst hv
  go_enter Tryz.func63, Tryz.ntmps63
  go_wp2_with fail
  refine (pool_empty _ _ _).mono ?_
  rintro e w1 ⟨rfl, rfl⟩
  go_wp2
  go_loopw [31] (fun i wr => ∃ k : Nat, k ≤ cs.length ∧ i = .int .i64 k ∧ Chg No w wr ∧ wr.cell? ⟨w.heap.size, 0, none⟩ = some (.slice pa 0 pc) ∧ wr.cell? ⟨w.heap.size, 1, none⟩ = some (.slice a cs.length cap) ∧ w.heap.size < wr.heap.size) (fun i _ => cs.length - (intOf i).toNat)
  case atStart => exact ⟨0, Nat.zero_le _, rfl, (Chg.refl _ _).alloc _, by simp, by simp, by simp⟩
  case round =>
    obtain ⟨k, hk, rfl, hc, m0, m1, msz⟩ := hrel
    by_cases hlt : k < cs.length
    · obtain ⟨b, o, ds, rfl, hcl, hR, hbl, hsb, hcell⟩ := SQ.cells (H.out.1.new goodCl hc) k hlt
      have hP := H.out.2.1 cs[k] (List.getElem_mem hlt)
      obtain ⟨f, g, m, rfl, q1, q2, q3⟩ := hR
      obtain ⟨z0, z1, z2, z3, z4, z5⟩ := hP
      rw [z3] at q1; rw [z4] at q2; rw [z5] at q3
      obtain ⟨e1, d1, rfl, -, -⟩ := q1.form
      obtain ⟨e2, d2, rfl, -, -⟩ := q2.form
      obtain ⟨e3, d3, rfl, -, -⟩ := q3.form
      have g0 := hcell 0 _ rfl
      have g1 := hcell 1 _ rfl
      have g2 := hcell 2 _ rfl
      have g3 := hcell 3 _ rfl
      have g4 := hcell 4 _ rfl
      have g5 := hcell 5 _ rfl
      rw [z0] at g0
      rw [Nat.add_zero] at g0
      rw [← Nat.add_assoc] at g1 g2 g3 g4 g5
      clear hcell q1 q2 q3 hcl z0 z3 z4 z5
      have Z := Lib.hid (And.intro z1 z2); clear z1 z2
      have mlt := msz
      have MH := Lib.hid (And.intro m0 m1)
      go_wp2_with fail
      refine (head_plain _ _ _ Z.out.1 Z.out.2 _ _ _ _ _ _).mono ?_
      rintro e w1 ⟨rfl, d⟩
      have D := Lib.hid d; clear d
      have x0 := box_keep D.out (j := 0) rfl
      have x1 := box_keep D.out (j := 1) rfl
      have x2 := box_keep D.out (j := 2) rfl
      have x3 := box_keep D.out (j := 3) rfl
      have x4 := box_keep D.out (j := 4) rfl
      have x5 := box_keep D.out (j := 5) rfl
      have M := Lib.hid ((((Chg.refl No wr).alloc _).trans D.out (fun _ _ h => h)))
      clear m0 m1 g0 g1 g2 g3 g4 g5
      have m0' := (M.out.cell (p := ⟨w.heap.size, 0, none⟩) mlt (fun h => h)).trans MH.out.1
      have m1' := (M.out.cell (p := ⟨w.heap.size, 1, none⟩) mlt (fun h => h)).trans MH.out.2
      go_wp2_with fail
      refine (fields_plain _ _ _ _ _ _ _ _ _ _).mono ?_
      rintro e w2 ⟨rfl, d⟩
      have D2 := Lib.hid (D.out.trans d (fun _ _ h => h))
      have M2 := Lib.hid (M.out.trans d (fun _ _ h => h)); clear d
      clear x0 x1 x2 x3 x4 x5 m0' m1'
      have m0' := (M2.out.cell (p := ⟨w.heap.size, 0, none⟩) mlt (fun h => h)).trans MH.out.1
      have m1' := (M2.out.cell (p := ⟨w.heap.size, 1, none⟩) mlt (fun h => h)).trans MH.out.2
      have x0 := box_keep D2.out (j := 0) rfl
      have x1 := box_keep D2.out (j := 1) rfl
      have x2 := box_keep D2.out (j := 2) rfl
      have x3 := box_keep D2.out (j := 3) rfl
      have x4 := box_keep D2.out (j := 4) rfl
      have x5 := box_keep D2.out (j := 5) rfl
      go_wp2_with fail
      refine (methods_plain _ _ _ _ _ _ _ _ _ _ _).mono ?_
      rintro e w3 ⟨rfl, d⟩
      have M3 := Lib.hid (M2.out.trans d (fun _ _ h => h)); clear d
      clear x0 x1 x2 x3 x4 x5 m0' m1'
      have m0' := (M3.out.cell (p := ⟨w.heap.size, 0, none⟩) mlt (fun h => h)).trans MH.out.1
      have m1' := (M3.out.cell (p := ⟨w.heap.size, 1, none⟩) mlt (fun h => h)).trans MH.out.2
      go_wp2
      go_roundw
      case rel => exact ⟨k + 1, by omega, by go_num, hc.trans M3.out (fun _ _ h => h), m0', m1', Nat.lt_of_lt_of_le msz M3.out.size⟩
      case measure => simp [intOf]; omega
    · go_wp2
      go_loopw [59] (fun i wz => ∃ k : Nat, k ≤ cs.length ∧ i = .int .i64 k ∧ Chg No w wz ∧ wz.cell? ⟨w.heap.size, 1, none⟩ = some (.slice a cs.length cap) ∧ w.heap.size < wz.heap.size) (fun i _ => cs.length - (intOf i).toNat)
      case atStart => exact ⟨0, Nat.zero_le _, rfl, hc, m1, msz⟩
      case round =>
        clear hc m0 m1 msz hk hlt
        obtain ⟨k, hk, rfl, hc, m1, msz⟩ := hrel
        by_cases hlt : k < cs.length
        · have HX := H.out.1.new goodCl hc
          have hP := H.out.2.1 cs[k] (List.getElem_mem hlt)
          have HT := Lib.hid (HX.take k (by omega))
          obtain ⟨b, o, ds, rfl, hcl, hR, hbl, hsb, hcell⟩ := SQ.cells HX k hlt
          obtain ⟨f, g, m, rfl, q1, q2, q3⟩ := hR
          obtain ⟨e1, d1, rfl, -, -⟩ := q1.form
          obtain ⟨e2, d2, rfl, -, -⟩ := q2.form
          obtain ⟨e3, d3, rfl, -, -⟩ := q3.form
          have g0 := hcell 0 _ rfl
          have g1 := hcell 1 _ rfl
          have g2 := hcell 2 _ rfl
          have g3 := hcell 3 _ rfl
          have g4 := hcell 4 _ rfl
          have g5 := hcell 5 _ rfl
          rw [Nat.add_zero] at g0
          rw [← Nat.add_assoc] at g1 g2 g3 g4 g5
          clear hcell q1 q2 q3 hcl hP HX
          have hmf : ∀ (fn : Fn) (first cap : Array Value) (w : World), (Instr.makeFunc fn first cap).run Tryz.prog w = .ok (.func fn first cap) w := fun _ _ _ _ => rfl
          go_wp2_with fail
          have eg : ∀ (args : Array Value) (w : World), (callFunc 102 args).run Tryz.prog w = .ok (.enter 102 args) w := enters_of Tryz.func102 (by kernel_rfl) rfl
          refine (containsFunc_cl S _ _ _ (HT.out.new goodCl ((Chg.refl _ _).alloc _)) (by rw [List.length_take]; omega) 102 _ eg (fun x => x.name == cs[k].name) (fun W x ds hx hcW hR => ?_)).mono ?_
          · obtain ⟨f', g', m', rfl, -, -, -⟩ := hR
            exact twice_c W _ _ _ _ _ _ _ _ (box_keep hcW (j := 1) rfl) (by have := hcW.size; simp at this; omega)
          · rintro e w1 ⟨he, d⟩
            have hany : ((cs.take k).any fun x => x.name == cs[k].name) = false := by
              rw [List.any_eq_false]
              intro x hx
              obtain ⟨j, hj, hxj⟩ := List.getElem_of_mem hx
              rw [List.length_take] at hj
              rw [List.getElem_take] at hxj
              subst hxj
              simp only [beq_iff_eq]
              intro e
              have hN := H.out.2.2
              have hN2 := List.pairwise_iff_getElem.1 hN j k (by rw [List.length_map]; omega) (by rw [List.length_map]; exact hlt) (by omega)
              rw [List.getElem_map, List.getElem_map] at hN2
              exact hN2 e
            rw [hany] at he
            subst he
            have D := Lib.hid (((Chg.refl No wr).alloc _).trans d (fun _ _ h => h)); clear d
            have m1' := (D.out.cell (p := ⟨w.heap.size, 1, none⟩) msz (fun h => h)).trans m1
            clear m1 g0 g1 g2 g3 g4 g5 hany
            go_wp2
            go_roundw
            case rel => exact ⟨k + 1, by omega, by go_num, hc.trans D.out (fun _ _ h => h), m1', Nat.lt_of_lt_of_le msz D.out.size⟩
            case measure => simp [intOf]; omega
        · go_wp2
          go_ret
          exact ⟨rfl, hc⟩

theorem check_plain (S : Blocks) (w : World) (pa : Option Addr) (pc : Nat) (cv : Value) (cs : List Cl) (h : SQ 6 RCl S w cv cs) (hp : ∀ c ∈ cs, PlainCl c) (hn : (cs.map (·.name)).Nodup) (hl : cs.length ≤ 64) :
    Calls Tryz.prog 33 #[.agg #[.slice pa 0 pc, cv]] w fun e w' => e = .returned .nilIface ∧ Chg No w w' := by
  obtain ⟨a, cap, hv, -, -⟩ := h.form
  have H := Lib.hid h; clear h
  subst hv
  go_enter Tryz.func33, Tryz.ntmps33
  go_wp2_with fail
  refine (wrong_plain S _ pa pc _ cs (H.out.new goodCl ((Chg.refl _ _).alloc _)) hp hn hl).mono ?_
  rintro e w1 ⟨rfl, d⟩
  go_wp2
  go_ret
  exact ⟨rfl, ((Chg.refl No w).alloc _).trans d (fun _ _ h => h)⟩

end Go.Proofs.YtgmmclcpfmnoiaaGreatDoor

namespace Go.Proofs.YtgmmclcpfmnoiaaGreatDoor
open Go.RowKit

/-- Only blocks that are there. -/
def Below' (S : Blocks) (w : World) : Blocks := fun k => S k ∧ k < w.heap.size
abbrev Bounds {α : Type} (R : Reading α) : Prop := ∀ (S : Blocks) (w : World) (x : α) (cs : List Value), R S w x cs → R (Below' S w) w x cs
theorem SQ.bound {α : Type} {n : Nat} {R : Reading α} {S : Blocks} {w : World} {v : Value} {xs : List α} (b : Bounds R) (h : SQ n R S w v xs) : SQ n R (Below' S w) w v xs := by
  obtain ⟨a, cap, rfl, h1, h2, h3⟩ := h
  refine ⟨a, cap, rfl, h1, h2, fun p hp hx => ?_⟩
  obtain ⟨h4, h5, h6, h7⟩ := h3 p hp hx
  refine ⟨h4, h5, ⟨h6, h5⟩, fun i x hi => ?_⟩
  obtain ⟨cs, h8, h9, h10⟩ := h7 i x hi
  exact ⟨cs, h8, b S w x cs h9, h10⟩
theorem bStr : Bounds RStr := fun _ _ _ _ h => h
theorem bByte : Bounds RByte := fun _ _ _ _ h => h
theorem bTy : Bounds RTy := fun _ _ _ _ h => h
theorem bFd : Bounds RFd := fun _ _ _ _ h => h
theorem bHd : Bounds RHd := fun _ _ _ _ h => h
theorem bEn : Bounds REn := fun _ _ _ _ h => h
theorem bMt : Bounds RMt := fun _ _ _ _ ⟨v, c, h, h1, h2, h3, h4⟩ => ⟨v, c, h, h1, h2.bound bTy, h3.bound bByte, h4.bound bHd⟩
theorem bCl : Bounds RCl := fun _ _ _ _ ⟨f, g, m, h1, h2, h3, h4⟩ => ⟨f, g, m, h1, h2.bound bStr, h3.bound bFd, h4.bound bMt⟩

/-- Block g holds classes without interfaces, fields, methods. -/
def PRow (w : World) (g : Nat) (cs : List Cl) : Prop :=
  ∃ cur : Array Value, w.heap[g]? = some (.cells cur 37 (0, 0)) ∧ ∀ (i : Nat) (hi : i < cs.length), (∃ a1 c1 a2 c2 a3 c3, cur[i * 6]? = some (.int .i64 cs[i].flags) ∧ cur[i * 6 + 1]? = some (strV cs[i].name) ∧ cur[i * 6 + 2]? = some (strV cs[i].super) ∧
    cur[i * 6 + 3]? = some (.slice a1 0 c1) ∧ cur[i * 6 + 4]? = some (.slice a2 0 c2) ∧ cur[i * 6 + 5]? = some (.slice a3 0 c3) ∧ (a1 = none → c1 = 0) ∧ (a2 = none → c2 = 0) ∧ (a3 = none → c3 = 0)) ∧ cs[i].faces = [] ∧ cs[i].fields = [] ∧ cs[i].methods = []
section
variable {w w' : World} {g : Nat} {cs : List Cl}
theorem PRow.lt (h : PRow w g cs) : g < w.heap.size := let ⟨_, h, _⟩ := h; heap_lt h
theorem PRow.keep {T : Blocks} (h : PRow w g cs) (c : Chg T w w') (hn : ¬ T g) : PRow w' g cs := let ⟨cur, h1, h2⟩ := h; ⟨cur, (c.block g (heap_lt h1) hn).trans h1, h2⟩
theorem PRow.at_ (h : PRow w g cs) (i : Nat) (hi : i < cs.length) : ∃ a1 c1 a2 c2 a3 c3, w.cell? ⟨g, i * 6 + 3, none⟩ = some (.slice a1 0 c1) ∧ w.cell? ⟨g, i * 6 + 4, none⟩ = some (.slice a2 0 c2) ∧ w.cell? ⟨g, i * 6 + 5, none⟩ = some (.slice a3 0 c3) ∧ (a1 = none → c1 = 0) ∧ (a2 = none → c2 = 0) ∧ (a3 = none → c3 = 0) := by
  obtain ⟨cur, h1, h2⟩ := h
  obtain ⟨⟨a1, c1, a2, c2, a3, c3, -, -, -, k3, k4, k5, z1, z2, z3⟩, -⟩ := h2 i hi
  exact ⟨a1, c1, a2, c2, a3, c3, by simp [World.cell?, h1, k3], by simp [World.cell?, h1, k4], by simp [World.cell?, h1, k5], z1, z2, z3⟩
theorem PRow.frozen (h : PRow w g cs) (j : Nat) : w.frozen? ⟨g, j, none⟩ = false := by
  obtain ⟨cur, h1, h2⟩ := h
  simp [World.frozen?, h1]
theorem PRow.set (h : PRow w g cs) (i j : Nat) (hj : j = 3 ∨ j = 4 ∨ j = 5) (a : Option Addr) (c : Nat) (ha : a = none → c = 0) : PRow (w.setCell ⟨g, i * 6 + j, none⟩ (.slice a 0 c)) g cs := by
  obtain ⟨cur, h1, h2⟩ := h
  refine ⟨cur.setIfInBounds (i * 6 + j) (.slice a 0 c), setCell_at h1 _, fun m hm => ?_⟩
  obtain ⟨⟨a1, c1, a2, c2, a3, c3, k0, k1, k2, k3, k4, k5, z1, z2, z3⟩, k6⟩ := h2 m hm
  have key : ∀ (p : Nat) (u : Value), cur[p]? = some u → i * 6 + j ≠ p → (cur.setIfInBounds (i * 6 + j) (.slice a 0 c))[p]? = some u := fun p u hp hne => by
    rw [Array.getElem?_setIfInBounds_ne hne]; exact hp
  have key2 : ∀ (p : Nat) (u : Value), cur[p]? = some u → i * 6 + j = p → (cur.setIfInBounds (i * 6 + j) (.slice a 0 c))[p]? = some (.slice a 0 c) := fun p u hp he => by
    subst he
    have := (Array.getElem?_eq_some_iff.1 hp).1
    rw [Array.getElem?_setIfInBounds_self_of_lt this]
  refine ⟨?_, k6⟩
  by_cases e3 : i * 6 + j = m * 6 + 3
  · exact ⟨a, c, a2, c2, a3, c3, key _ _ k0 (by omega), key _ _ k1 (by omega), key _ _ k2 (by omega), key2 _ _ k3 e3, key _ _ k4 (by omega), key _ _ k5 (by omega), ha, z2, z3⟩
  · by_cases e4 : i * 6 + j = m * 6 + 4
    · exact ⟨a1, c1, a, c, a3, c3, key _ _ k0 (by omega), key _ _ k1 (by omega), key _ _ k2 (by omega), key _ _ k3 (by omega), key2 _ _ k4 e4, key _ _ k5 (by omega), z1, ha, z3⟩
    · by_cases e5 : i * 6 + j = m * 6 + 5
      · exact ⟨a1, c1, a2, c2, a, c, key _ _ k0 (by omega), key _ _ k1 (by omega), key _ _ k2 (by omega), key _ _ k3 (by omega), key _ _ k4 (by omega), key2 _ _ k5 e5, z1, z2, ha⟩
      · exact ⟨a1, c1, a2, c2, a3, c3, key _ _ k0 (by omega), key _ _ k1 (by omega), key _ _ k2 (by omega), key _ _ k3 e3, key _ _ k4 e4, key _ _ k5 e5, z1, z2, z3⟩
theorem SQ.empty {α : Type} {n : Nat} {R : Reading α} {S : Blocks} (a : Option Addr) (c : Nat) (h : a = none → c = 0) : SQ n R S w (.slice a 0 c) ([] : List α) := ⟨a, c, rfl, Nat.zero_le _, h, fun _ _ h => absurd rfl h⟩
theorem PRow.sq (h : PRow w g cs) {T : Blocks} (hg : T g) (n cap : Nat) (hn : n = cs.length) (hc : cs.length ≤ cap) : SQ 6 RCl T w (.slice (some ⟨g, 0, none⟩) n cap) cs := by
  have hlt := h.lt
  obtain ⟨cur, h1, h2⟩ := h
  subst hn
  refine ⟨_, cap, rfl, hc, (fun h => by cases h), fun p hp hx => ?_⟩
  cases hp
  refine ⟨rfl, hlt, hg, fun i x hi => ?_⟩
  obtain ⟨hil, rfl⟩ := List.getElem?_eq_some_iff.1 hi
  obtain ⟨⟨a1, c1, a2, c2, a3, c3, k0, k1, k2, k3, k4, k5, z1, z2, z3⟩, y1, y2, y3⟩ := h2 i hil
  refine ⟨[.int .i64 cs[i].flags, strV cs[i].name, strV cs[i].super, .slice a1 0 c1, .slice a2 0 c2, .slice a3 0 c3], rfl, ⟨_, _, _, rfl, ?_, ?_, ?_⟩, fun j u hj => ?_⟩
  · rw [y1]; exact SQ.empty a1 c1 z1
  · rw [y2]; exact SQ.empty a2 c2 z2
  · rw [y3]; exact SQ.empty a3 c3 z3
  · rw [add_mk, add_mk, Nat.zero_add]
    simp only [World.cell?, h1]
    rcases j with _ | _ | _ | _ | _ | _ | j
    · simp only [List.getElem?_cons_zero, Option.some.injEq] at hj; subst hj; simpa using k0
    · simp only [List.getElem?_cons_succ, List.getElem?_cons_zero, Option.some.injEq] at hj; subst hj; simpa using k1
    · simp only [List.getElem?_cons_succ, List.getElem?_cons_zero, Option.some.injEq] at hj; subst hj; simpa using k2
    · simp only [List.getElem?_cons_succ, List.getElem?_cons_zero, Option.some.injEq] at hj; subst hj; simpa using k3
    · simp only [List.getElem?_cons_succ, List.getElem?_cons_zero, Option.some.injEq] at hj; subst hj; simpa using k4
    · simp only [List.getElem?_cons_succ, List.getElem?_cons_zero, Option.some.injEq] at hj; subst hj; simpa using k5
    · simp at hj
/-- A row of one's own of such classes. -/
theorem OQ.prow {S : Blocks} {v : Value} (h : OQ 37 6 RCl S w v cs) (hne : cs ≠ []) (hp : ∀ c ∈ cs, c.faces = [] ∧ c.fields = [] ∧ c.methods = []) : ∃ g cap, v = .slice (some ⟨g, 0, none⟩) cs.length cap ∧ cs.length ≤ cap ∧ PRow w g cs := by
  obtain ⟨css, ho, hE⟩ := h
  obtain ⟨h0, ho⟩ := ho
  rcases ho with ⟨_, h2⟩ | ⟨g, cap, cur, rfl, _, h3, h4, _, h5, h6⟩
  · exact absurd (List.eq_nil_of_length_eq_zero h2) hne
  · refine ⟨g, cap, rfl, h4, cur, h3, fun i hi => ?_⟩
    have hil : i < css.length := by rw [hE.1]; exact hi
    obtain ⟨c1, c2⟩ := hE.2 i cs[i] css[i] (List.getElem?_eq_getElem hi) (List.getElem?_eq_getElem hil)
    obtain ⟨y1, y2, y3⟩ := hp cs[i] (List.getElem_mem hi)
    refine ⟨?_, y1, y2, y3⟩
    obtain ⟨f, g', m, hcs, q1, q2, q3⟩ := c2
    rw [y1] at q1; rw [y2] at q2; rw [y3] at q3
    obtain ⟨a1, d1, rfl, -, z1⟩ := q1.form
    obtain ⟨a2, d2, rfl, -, z2⟩ := q2.form
    obtain ⟨a3, d3, rfl, -, z3⟩ := q3.form
    have hat : ∀ j, j < 6 → cur[i * 6 + j]? = css[i][j]? := fun j hj => by
      rw [← flat_at hE.lens i j (List.getElem?_eq_getElem hil) hj, ← h6]
      have hlt : i * 6 + j < css.flatten.length := by rw [hE.flat_len]; omega
      rw [List.getElem?_take, if_pos (by rw [← hE.flat_len]; exact hlt)]
      simp
    refine ⟨a1, d1, a2, d2, a3, d3, ?_, ?_, ?_, ?_, ?_, ?_, z1, z2, z3⟩
    · have := hat 0 (by omega); rw [hcs] at this; simpa using this
    · have := hat 1 (by omega); rw [hcs] at this; simpa using this
    · have := hat 2 (by omega); rw [hcs] at this; simpa using this
    · have := hat 3 (by omega); rw [hcs] at this; simpa using this
    · have := hat 4 (by omega); rw [hcs] at this; simpa using this
    · have := hat 5 (by omega); rw [hcs] at this; simpa using this
end

end Go.Proofs.YtgmmclcpfmnoiaaGreatDoor

namespace Go.Proofs.YtgmmclcpfmnoiaaGreatDoor
open Go.RowKit

theorem OQ.empty_form {α : Type} {e n : Nat} {R : Reading α} {S : Blocks} {w : World} {v : Value} (h : OQ e n R S w v ([] : List α)) : ∃ a c, v = .slice a 0 c ∧ (a = none → c = 0) := by
  obtain ⟨css, ⟨_, ho⟩, _⟩ := h
  rcases ho with ⟨rfl, _⟩ | ⟨g, cap, cur, rfl, _⟩
  · exact ⟨none, 0, rfl, fun _ => rfl⟩
  · exact ⟨_, cap, rfl, fun h => by cases h⟩

theorem blk_cell {w : World} {b T j : Nat} {c : Array Value} {u : Value} (h : w.heap[b]? = some (.cells c T (0, 0))) (hj : c[j]? = some u) : w.cell? ⟨b, j, none⟩ = some u := by simp [World.cell?, h, hj]
theorem blk_frozen {w : World} {b T : Nat} {c : Array Value} (h : w.heap[b]? = some (.cells c T (0, 0))) (j : Nat) : w.frozen? ⟨b, j, none⟩ = false := by simp [World.frozen?, h]
theorem Chg.set_new {w w' : World} (h : Chg No w w') {b : Nat} (hb : w.heap.size ≤ b) (j : Nat) (v : Value) : Chg No w (w'.setCell ⟨b, j, none⟩ v) :=
  h.trans (chg_setCell w' b j v) (fun n hn e => by omega)

/-- What holds while the classes are gone over. -/
structure TwI (w : World) (g : Nat) (cs : List Cl) (x y : Value) (wr : World) : Prop where
  chg : Chg No w wr
  row : PRow wr g cs
  mod : wr.heap[w.heap.size]? = some (.cells #[x, y] 47 (0, 0))
  res : wr.heap[w.heap.size + 1]? = some (.cells #[zNil, zNil] 47 (0, 0))
theorem TwI.new {w wr w1 : World} {g : Nat} {cs : List Cl} {x y : Value} (h : TwI w g cs x y wr) (d : Chg No wr w1) : TwI w g cs x y w1 :=
  ⟨h.chg.trans d (fun _ _ h => h), h.row.keep d (fun h => h), (d.block _ (heap_lt h.mod) (fun h => h)).trans h.mod, (d.block _ (heap_lt h.res) (fun h => h)).trans h.res⟩
theorem TwI.set {w wr : World} {g : Nat} {cs : List Cl} {x y : Value} (h : TwI w g cs x y wr) (hg : w.heap.size + 2 ≤ g) (k j : Nat) (hj : j = 3 ∨ j = 4 ∨ j = 5) (a : Option Addr) (c : Nat) (ha : a = none → c = 0) : TwI w g cs x y (wr.setCell ⟨g, k * 6 + j, none⟩ (.slice a 0 c)) := by
  have d := chg_setCell wr g (k * 6 + j) (.slice a 0 c)
  exact ⟨h.chg.set_new (by omega) _ _, h.row.set k j hj a c ha, (d.block _ (heap_lt h.mod) (by omega)).trans h.mod, (d.block _ (heap_lt h.res) (by omega)).trans h.res⟩
theorem TwI.m1 {w wr : World} {g : Nat} {cs : List Cl} {x y : Value} (h : TwI w g cs x y wr) : wr.cell? ⟨w.heap.size, 1, none⟩ = some y := blk_cell h.mod rfl
theorem TwI.m0 {w wr : World} {g : Nat} {cs : List Cl} {x y : Value} (h : TwI w g cs x y wr) : wr.cell? ⟨w.heap.size, 0, none⟩ = some x := blk_cell h.mod rfl

def Twinned (w : World) (cs : List Cl) (e : Ending) (w' : World) : Prop :=
  ∃ pa pc g cap, e = .returned (.agg #[.slice pa 0 pc, .slice (some ⟨g, 0, none⟩) cs.length cap]) ∧ (pa = none → pc = 0) ∧ PRow w' g cs ∧ cs.length ≤ cap ∧ w.heap.size ≤ g ∧ Chg No w w'

set_option maxRecDepth 100000 in
set_option maxHeartbeats 6400000 in
theorem twin_plain (S : Blocks) (w : World) (pa : Option Addr) (pc : Nat) (hpa : pa = none → pc = 0) (cv : Value) (cs : List Cl) (h : SQ 6 RCl S w cv cs) (hS : ∀ k, S k → k < w.heap.size) (hp : ∀ c ∈ cs, c.faces = [] ∧ c.fields = [] ∧ c.methods = []) (hne : cs ≠ []) (hl : cs.length ≤ 64) :
    Calls Tryz.prog 35 #[.agg #[.slice pa 0 pc, cv]] w (Twinned w cs) := by
  obtain ⟨a, cap, hv, hcap, hnil⟩ := h.form
  have H := Lib.hid (And.intro h (And.intro hp hne)); clear h hp hne
  subst hv
  go_enter Tryz.func35, Tryz.ntmps35
  go_wp2_with fail
  refine (clone_en No _ _ [] (SQ.empty pa pc hpa) (fun k hk => hk.elim) (by simp)).mono ?_
  rintro e w1 ⟨v1, rfl, ho1, d, -⟩
  obtain ⟨pa1, pc1, rfl, hpa1⟩ := ho1.empty_form
  have D1 := Lib.hid d; clear d ho1
  have B1 : w1.heap[w.heap.size]? = some (.cells #[.slice pa 0 pc, .slice a cs.length cap] 47 (0, 0)) := by
    rw [D1.out.block w.heap.size (by simp; omega) (fun h => h), Below.heap_alloc _ _ _ (by simp)]
    exact heap_alloc_new _ _
  have R1 : w1.heap[w.heap.size + 1]? = some (.cells #[zNil, zNil] 47 (0, 0)) := by
    rw [D1.out.block (w.heap.size + 1) (by simp) (fun h => h)]
    have := heap_alloc_new (w.alloc (.cells #[.slice pa 0 pc, .slice a cs.length cap] 47)) (.cells #[zNil, zNil] 47)
    simpa using this
  have C1 := Lib.hid ((((Chg.refl No w).alloc _).alloc _).trans D1.out (fun _ _ h => h))
  have HB := Lib.hid (And.intro B1 R1)
  clear B1 R1
  have c0 := blk_cell HB.out.1 (j := 0) rfl
  have c1 := blk_cell HB.out.1 (j := 1) rfl
  have f0 := blk_frozen HB.out.1 0
  go_wp2_with fail
  have C2 := Lib.hid (C1.out.set_new (Nat.le_refl _) 0 (.slice pa1 0 pc1))
  have HB2 := Lib.hid (And.intro (setCell_at (o := 0) HB.out.1 (.slice pa1 0 pc1)) (((chg_setCell w1 w.heap.size 0 (.slice pa1 0 pc1)).block (w.heap.size + 1) (heap_lt HB.out.2) (by omega)).trans HB.out.2))
  refine (clone_cl S _ _ cs (H.out.1.new goodCl C2.out) (fun k hk => Nat.lt_of_lt_of_le (hS k hk) C2.out.size) (by omega)).mono ?_
  rintro e w2 ⟨v2, rfl, ho2, d, hv2⟩
  obtain ⟨g, cap2, rfl, hcap2, hp2⟩ := ho2.prow H.out.2.2 H.out.2.1
  have hg : w1.heap.size ≤ g := by simpa using hv2 g rfl
  have hs1 := C1.out.size
  have hlt1 := heap_lt HB.out.1
  have hlt1' := heap_lt HB.out.2
  have C3 := Lib.hid (C2.out.trans d (fun _ _ h => h))
  have HB3 := Lib.hid (And.intro ((d.block w.heap.size (heap_lt HB2.out.1) (fun h => h)).trans HB2.out.1) ((d.block (w.heap.size + 1) (heap_lt HB2.out.2) (fun h => h)).trans HB2.out.2))
  have HP := Lib.hid hp2
  clear d ho2 hp2 hv2 c0 c1 f0
  have c1 := blk_cell HB3.out.1 (j := 1) rfl
  have f1 := blk_frozen HB3.out.1 1
  have HB4 := Lib.hid (And.intro (setCell_at (o := 1) HB3.out.1 (.slice (some ⟨g, 0, none⟩) cs.length cap2)) (((chg_setCell w2 w.heap.size 1 (.slice (some ⟨g, 0, none⟩) cs.length cap2)).block (w.heap.size + 1) (heap_lt HB3.out.2) (by omega)).trans HB3.out.2))
  have HP4 := Lib.hid (HP.out.keep (chg_setCell w2 w.heap.size 1 (.slice (some ⟨g, 0, none⟩) cs.length cap2)) (by omega))
  have C4 := Lib.hid (C3.out.set_new (Nat.le_refl _) 1 (.slice (some ⟨g, 0, none⟩) cs.length cap2))
  go_wp2
  clear c1 f1
  have I4 : RowKit.Hid (TwI w g cs (.slice pa1 0 pc1) (.slice (some ⟨g, 0, none⟩) cs.length cap2) _) := Lib.hid ⟨C4.out, HP4.out, HB4.out.1, HB4.out.2⟩
  go_loopw [18] (fun i wr => ∃ k : Nat, k ≤ cs.length ∧ i = .int .i64 k ∧ RowKit.Hid (TwI w g cs (.slice pa1 0 pc1) (.slice (some ⟨g, 0, none⟩) cs.length cap2) wr)) (fun i _ => cs.length - (intOf i).toNat)
  case atStart => exact ⟨0, Nat.zero_le _, rfl, I4⟩
  case round =>
    obtain ⟨k, hk, rfl, hI⟩ := hrel
    have m1 := hI.out.m1
    by_cases hlt : k < cs.length
    · obtain ⟨a1, d1, a2, d2, a3, d3, k3, k4, k5, y1, y2, y3⟩ := hI.out.row.at_ k hlt
      go_wp2_with fail
      refine (clone_str No _ _ [] (SQ.empty a1 d1 y1) (fun k hk => hk.elim) (by simp)).mono ?_
      rintro e x1 ⟨v, rfl, ho, d, -⟩
      obtain ⟨b1, e1, rfl, n1⟩ := ho.empty_form
      have J1 := Lib.hid (hI.out.new d)
      have J2 := Lib.hid (J1.out.set (by omega) k 3 (.inl rfl) b1 e1 n1)
      clear d ho k3 k4 k5 m1
      obtain ⟨i1, l1, i2, l2, i3, l3, k3, k4, k5, t1, t2, t3⟩ := J1.out.row.at_ k hlt
      have z3 := J1.out.row.frozen (k * 6 + 3)
      go_wp2_with fail
      refine (clone_fd No _ _ [] (SQ.empty i2 l2 t2) (fun k hk => hk.elim) (by simp)).mono ?_
      rintro e x2 ⟨v, rfl, ho, d, -⟩
      obtain ⟨b2, e2, rfl, n2⟩ := ho.empty_form
      have K2 := Lib.hid (J2.out.new d)
      have L2 := Lib.hid (K2.out.set (by omega) k 4 (.inr (.inl rfl)) b2 e2 n2)
      clear d ho k3 k4 k5 z3
      obtain ⟨i1, l1, i2, l2, i3, l3, k3, k4, k5, t1, t2, t3⟩ := K2.out.row.at_ k hlt
      have z3 := K2.out.row.frozen (k * 6 + 4)
      go_wp2_with fail
      refine (clone_mt No _ _ [] (SQ.empty i3 l3 t3) (fun k hk => hk.elim) (by simp)).mono ?_
      rintro e x3 ⟨v, rfl, ho, d, -⟩
      obtain ⟨b3, e3, rfl, n3⟩ := ho.empty_form
      have K3 := Lib.hid (L2.out.new d)
      have L3 := Lib.hid (K3.out.set (by omega) k 5 (.inr (.inr rfl)) b3 e3 n3)
      clear d ho k3 k4 k5 z3
      obtain ⟨i1, l1, i2, l2, i3, l3, k3, k4, k5, t1, t2, t3⟩ := K3.out.row.at_ k hlt
      have z3 := K3.out.row.frozen (k * 6 + 5)
      have m1 := K3.out.m1
      go_wp2
      refine wp_loop_rounds 1 ?_
      rw [rounds_succ]
      go_wp2
      go_roundw
      case rel => exact ⟨k + 1, by omega, by go_num, L3⟩
      case measure => simp [intOf]; omega
    · have m0 := hI.out.m0
      have r0 := blk_frozen hI.out.res 0
      have r1 := blk_frozen hI.out.res 1
      have r2 : wr.cell? ⟨w.heap.size + 1, 0, none⟩ = some zNil := blk_cell hI.out.res rfl
      have r3 : wr.cell? ⟨w.heap.size + 1, 1, none⟩ = some zNil := blk_cell hI.out.res rfl
      go_wp2
      refine bodyPost_ret (v := .agg #[.slice pa1 0 pc1, .slice (some ⟨g, 0, none⟩) cs.length cap2]) (by simp [results, Tryz.results35, go_sem, r2, r3]) rfl ?_
      refine ⟨pa1, pc1, g, cap2, rfl, hpa1, ?_, hcap2, by omega, ?_⟩
      · exact (hI.out.row.keep (chg_setCell wr (w.heap.size + 1) 0 _) (by omega)).keep (chg_setCell _ (w.heap.size + 1) 1 _) (by omega)
      · exact (hI.out.chg.set_new (by omega) _ _).set_new (by omega) _ _

end Go.Proofs.YtgmmclcpfmnoiaaGreatDoor
