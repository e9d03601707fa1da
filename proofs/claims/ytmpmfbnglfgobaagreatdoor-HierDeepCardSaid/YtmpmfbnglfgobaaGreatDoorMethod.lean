/-
  A class's own method, the nearest one of a chain: walked at classes that have no method but <init>, asked for that.
-/
import Derived.Test.YtmpmfbnglfgobaaGreatDoorRules1
namespace Go.Proofs.YtmpmfbnglfgobaaGreatDoor
open Go.RowKit

theorem equal_nil (w : World) (a a' : Option Addr) (c c' : Nat) :
    Calls Tryz.prog 104 #[.slice a 0 c, .slice a' 0 c'] w fun en w' => en = .returned (.bool true) ∧ w' = w := by
  go_enter Tryz.func104, Tryz.ntmps104
  go_wp2
  refine wp_loop_rounds 1 ?_
  rw [rounds_succ]
  go_wp2
  go_ret
  exact ⟨rfl, rfl⟩
/-- The signature of <init>, as a value. -/
def sig0 (a : Option Addr) (c : Nat) : Value := .agg #[.slice a 0 c, .bool true, .int .i64 0, strV []]
set_option maxHeartbeats 1600000 in
theorem same_init (w : World) (a a' : Option Addr) (c c' : Nat) :
    Calls Tryz.prog 89 #[sig0 a c, sig0 a' c'] w fun en w' => en = .returned (.bool true) ∧ Chg No w w' := by
  unfold sig0
  go_enter Tryz.func89, Tryz.ntmps89
  go_wp2_with fail
  refine (equal_nil _ _ _ _ _).mono ?_
  rintro e w1 ⟨rfl, rfl⟩
  go_wp2
  go_ret
  exact ⟨rfl, ((Chg.refl _ _).alloc _).alloc _⟩

set_option maxHeartbeats 1600000 in
theorem isInit_c (w : World) (cs : List Value) (S : Blocks) (hR : RMt S w initM cs) (kn ks : Nat) (a : Option Addr) (c : Nat) (hn : w.cell? ⟨kn, 0, none⟩ = some (strV initName)) (hnl : kn < w.heap.size) (hsl : ks < w.heap.size)
    (s0 : w.cell? ⟨ks, 0, none⟩ = some (.slice a 0 c)) (s1 : w.cell? ⟨ks, 1, none⟩ = some (.bool true)) (s2 : w.cell? ⟨ks, 2, none⟩ = some (.int .i64 0)) (s3 : w.cell? ⟨ks, 3, none⟩ = some (strV [])) :
    Calls Tryz.prog 88 #[.agg cs.toArray, .pointer (some ⟨kn, 0, none⟩), .pointer (some ⟨ks, 0, none⟩)] w fun en w' => en = .returned (.bool true) ∧ Chg No w w' := by
  obtain ⟨va, vc, vh, rfl, q1, q2, q3⟩ := hR
  obtain ⟨a1, c1, rfl, -, -⟩ := q1.form
  obtain ⟨a2, c2, rfl, -, -⟩ := q2.form
  obtain ⟨a3, c3, rfl, -, -⟩ := q3.form
  simp only [initM, List.length_nil]
  clear q1 q2 q3
  go_enter Tryz.func88, Tryz.ntmps88
  go_wp2_with fail
  refine (same_init _ _ _ _ _).mono ?_
  rintro e w1 ⟨rfl, d⟩
  go_wp2
  go_ret
  exact ⟨rfl, ((Chg.refl No w).alloc _).trans d (fun _ _ h => h)⟩

section
variable {S O : Blocks} {w : World} {b mb : Nat} {nv : Value} {es : List Ent} {lk : Bool}
/-- The place of <init>. -/
def initAt (c : Cl) : Int := idxZ (fun _ => true) c.methods
set_option maxRecDepth 100000 in
set_option maxHeartbeats 1600000 in
theorem method_init (h : HW S O w b mb nv es lk) (x : Ent) (hx : x ∈ es) (hm : x.cl.methods = [] ∨ x.cl.methods = [initM]) (a : Option Addr) (c : Nat) :
    Calls Tryz.prog 71 #[.pointer (some ⟨x.at_, 0, none⟩), strV initName, sig0 a c] w fun en w' => en = .returned (.int .i64 (initAt x.cl)) ∧ Chg No w w' := by
  unfold sig0
  have hxl := h.o_lt _ (h.own_e x hx)
  obtain ⟨f, g, m, p, c', q, ⟨e0, e1, e2, e3, e4, e5, e6, -⟩, q1, q2, q3, q4, -⟩ := h.cells hx
  obtain ⟨a3, d3, rfl, -, -⟩ := q3.form
  have hmf : ∀ (fn : Fn) (first cap : Array Value) (w : World), (Instr.makeFunc fn first cap).run Tryz.prog w = .ok (.func fn first cap) w := fun _ _ _ _ => rfl
  have c2 : Chg No w ((w.alloc (.cells #[strV initName] 9)).alloc (.cells #[.slice a 0 c, .bool true, .int .i64 0, strV []] 54)) := ((Chg.refl _ _).alloc _).alloc _
  have Q := Lib.hid (And.intro (q3.new goodMt c2) hm)
  have eg : ∀ (args : Array Value) (w : World), (callFunc 88 args).run Tryz.prog w = .ok (.enter 88 args) w := enters_of Tryz.func88 (by kernel_rfl) rfl
  have EG := Lib.hid eg
  clear h q1 q2 q3 q4 c2 hm eg
  go_enter Tryz.func71, Tryz.ntmps71
  go_wp2_with fail
  refine (indexFunc_mt S _ _ x.cl.methods Q.out.1 (by rcases Q.out.2 with h | h <;> rw [h] <;> simp) 88 _ EG.out (fun _ => true) (fun W y ds hy hW hR => ?_)).mono ?_
  · have hyi : y = initM := by
      rcases Q.out.2 with h | h
      · rw [h] at hy; cases hy
      · rw [h] at hy; simpa using hy
    subst hyi
    have hws := hW.size
    simp at hws
    have n0 : W.cell? ⟨w.heap.size, 0, none⟩ = some (strV initName) := by
      rw [hW.cell (p := ⟨w.heap.size, 0, none⟩) (by simp; omega) (fun h => h), World.cell?_alloc_past _ _ _ (by simp)]
      simp
    have sg : ∀ (j : Nat) (u : Value), (#[.slice a 0 c, .bool true, .int .i64 0, strV []] : Array Value)[j]? = some u → W.cell? ⟨w.heap.size + 1, j, none⟩ = some u := fun j u hj => by
      have := box_keep hW hj
      rwa [size_alloc1] at this
    exact isInit_c W ds S hR w.heap.size (w.heap.size + 1) a c n0 (by omega) (by omega) (sg 0 _ rfl) (sg 1 _ rfl) (sg 2 _ rfl) (sg 3 _ rfl)
  · rintro e w1 ⟨rfl, d⟩
    go_wp2
    go_ret
    exact ⟨rfl, (((Chg.refl No w).alloc _).alloc _).trans d (fun _ _ h => h)⟩

set_option maxRecDepth 100000 in
set_option maxHeartbeats 3200000 in
theorem nearest_init (h : HW S O w b mb nv es lk) (T : Blocks) (v : Value) (l : List Bs) (hv : SQ 1 RStr T w v l) (hl : l.length ≤ 1000) (hall : ∀ s ∈ l, ∃ x ∈ es, atf es s = some x.at_ ∧ (x.cl.methods = [] ∨ x.cl.methods = [initM])) (a : Option Addr) (c : Nat) :
    Calls Tryz.prog 52 #[.pointer (some ⟨b, 0, none⟩), v, strV initName, sig0 a c] w fun en w' => ∃ u i, en = .returned (.tuple #[u, .int .i64 i]) ∧ Chg No w w' := by
  unfold sig0
  obtain ⟨va, vc, hvf, -, -⟩ := hv.form
  subst hvf
  have hbl := h.o_lt b h.own_b
  have H := Lib.hid (And.intro h (And.intro hv hall))
  clear h hv hall
  go_enter Tryz.func52, Tryz.ntmps52
  go_wp2
  go_loopw [15] (fun i wr => ∃ k : Nat, k ≤ l.length ∧ i = .int .i64 k ∧ RowKit.Hid (Chg No w wr ∧ wr.heap[w.heap.size]? = some (.cells #[.slice a 0 c, .bool true, .int .i64 0, strV []] 54 (0, 0)))) (fun i _ => l.length - (intOf i).toNat)
  case atStart => exact ⟨0, Nat.zero_le _, rfl, Lib.hid ⟨(Chg.refl _ _).alloc _, heap_alloc_new _ _⟩⟩
  case round =>
    obtain ⟨k, hk, rfl, hI⟩ := hrel
    by_cases hlt : k < l.length
    · obtain ⟨b', o, ds, rfl, hcl, hR, hbl', hsb, hcell⟩ := SQ.cells (H.out.2.1.new goodStr hI.out.1) k hlt
      obtain rfl := hR
      have g0 := hcell 0 _ rfl
      rw [Nat.mul_one, Nat.add_zero] at g0
      clear hcell hcl
      obtain ⟨x, hx, hat, hm⟩ := H.out.2.2 l[k] (List.getElem_mem hlt)
      have hW := H.out.1.new hI.out.1
      have k1 := hW.c1
      have hsh : Short l[k] := by
        obtain ⟨y, hy, hy2, hy3, -⟩ := atf_some hat
        rw [← hy3]; exact (H.out.1.short y hy).name
      have kL := (hW.new (Chg.refl No wr).drew).lookE hsh hat
      have s0 : wr.cell? ⟨w.heap.size, 0, none⟩ = some (.slice a 0 c) := blk_cell hI.out.2 rfl
      have s1 : wr.cell? ⟨w.heap.size, 1, none⟩ = some (.bool true) := blk_cell hI.out.2 rfl
      have s2 : wr.cell? ⟨w.heap.size, 2, none⟩ = some (.int .i64 0) := blk_cell hI.out.2 rfl
      have s3 : wr.cell? ⟨w.heap.size, 3, none⟩ = some (strV []) := blk_cell hI.out.2 rfl
      have HM := Lib.hid (method_init (hW.new (Chg.refl No wr).drew) x hx hm a c)
      unfold sig0 at HM
      have HX := Lib.hid (And.intro hx (And.intro hsh hat))
      clear hW hm hx hsh hat
      have hin : 0 ≤ initAt x.cl ∨ initAt x.cl < 0 := by omega
      rcases hin with hin | hin
      · have hin' : ¬ initAt x.cl < 0 := by omega
        go_wp2_with fail
        go_region_with (go_at_call 71; refine HM.out.mono ?_; rintro e w1 ⟨rfl, d⟩; have C1 := Lib.hid ((hI.out.1.drew).trans d (fun _ _ h => h)); have hW1 := H.out.1.new C1.out; have kk := hW1.c1; have kl := hW1.lookE HX.out.2.1 HX.out.2.2; clear d hW1)
        all_goals go_wp2
        all_goals go_ret2
        all_goals exact ⟨_, _, rfl, C1.out⟩
      · have hin' : ¬ 0 ≤ initAt x.cl := by omega
        go_wp2_with fail
        go_region_with (go_at_call 71; refine HM.out.mono ?_; rintro e w1 ⟨rfl, d⟩; have C1 := Lib.hid ((hI.out.1.drew).trans d (fun _ _ h => h)); have B1 := Lib.hid ((d.block w.heap.size (heap_lt hI.out.2) (fun h => h)).trans hI.out.2); clear d)
        all_goals go_wp2
        all_goals go_roundw
        all_goals first
          | exact ⟨k + 1, by omega, by go_num, Lib.hid ⟨C1.out, B1.out⟩⟩
          | (simp [intOf]; omega)
    · go_wp2
      go_ret2
      exact ⟨_, _, rfl, hI.out.1⟩
end

end Go.Proofs.YtmpmfbnglfgobaaGreatDoor
