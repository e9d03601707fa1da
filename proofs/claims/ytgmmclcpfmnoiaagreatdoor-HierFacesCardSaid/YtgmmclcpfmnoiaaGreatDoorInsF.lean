/-
  Package instr at the code of one 'return', walked; package module's body at a method of it.
-/
import Derived.Test.YtgmmclcpfmnoiaaGreatDoorModE
import Derived.Test.YtgmmclcpfmnoiaaGreatDoorChain
import Derived.Laws.MakeOwn
namespace Go.Proofs.YtgmmclcpfmnoiaaGreatDoor
open Go.RowKit

theorem jumps42 (w : World) : Calls Tryz.prog 177 #[.int .i64 42] w fun e w' => e = .returned (.bool false) ∧ w' = w := by
  go_enter Tryz.func177, Tryz.ntmps177
  go_wp2
  go_ret
  exact ⟨rfl, rfl⟩
theorem wide42 (w : World) : Calls Tryz.prog 219 #[.int .i64 42] w fun e w' => e = .returned (.bool false) ∧ w' = w := by
  go_enter Tryz.func219, Tryz.ntmps219
  go_wp2_with fail
  refine (jumps42 _).mono ?_
  rintro e w1 ⟨rfl, rfl⟩
  go_wp2
  go_ret
  exact ⟨rfl, rfl⟩
theorem size42 (w : World) : Calls Tryz.prog 203 #[.int .i64 42] w fun e w' => e = .returned (.int .i64 1) ∧ w' = w := by
  go_enter Tryz.func203, Tryz.ntmps203
  go_wp2_with fail
  refine (wide42 _).mono ?_
  rintro e w1 ⟨rfl, rfl⟩
  go_wp2
  go_ret
  exact ⟨rfl, rfl⟩
abbrev in42 : Value := .agg #[.int .i64 0, .int .i64 42, .int .i64 0, .int .i64 1]
theorem decode42 (w : World) (b o c : Nat) (hc : 1 ≤ c) (h : w.cell? ⟨b, o, none⟩ = some (.int .u8 42)) : Calls Tryz.prog 180 #[.slice (some ⟨b, o, none⟩) 1 c, .int .i64 0] w fun e w' => e = .returned (.tuple #[in42, .int .i64 0]) ∧ Chg No w w' := by
  have hb := World.block_lt_of_cell? w _ h
  simp only at hb
  have i1 : ¬ ((c : Int) < 1) := by omega
  have hcc : c = 1 ∨ ¬ c = 1 := by omega
  rcases hcc with rfl | hcc
  all_goals
    go_enter Tryz.func180, Tryz.ntmps180
    go_wp2_with fail
    refine (size42 _).mono ?_
    rintro e w1 ⟨rfl, rfl⟩
    go_wp2
    refine wp_loop_rounds 1 ?_
    rw [rounds_succ]
    go_wp2
    exact bodyPost_ret (v := .tuple #[in42, .int .i64 0]) (by simp [results, Tryz.results180, go_sem]) rfl ⟨rfl, ((Chg.refl No w).alloc _).alloc _⟩

theorem info_in : (Tryz.prog.info? 237).map (fun i => (i.zero, i.size, i.bytes)) = some (some (.agg #[zInt, zInt, zInt, zInt]), 4, 32) := by kernel_rfl
def ret42 : In := ⟨0, 42, 0, 1⟩
set_option maxRecDepth 100000 in
set_option maxHeartbeats 3200000 in
theorem all42 (w : World) (b o c : Nat) (hc : 1 ≤ c) (h : w.cell? ⟨b, o, none⟩ = some (.int .u8 42)) : Calls Tryz.prog 154 #[.slice (some ⟨b, o, none⟩) 1 c] w fun e w' => ∃ g cap, e = .returned (.tuple #[.slice (some ⟨g, 0, none⟩) 1 cap, .int .i64 0, .int .i64 0]) ∧ Chg No w w' ∧ OQ 237 4 RIn No w' (.slice (some ⟨g, 0, none⟩) 1 cap) [ret42] := by
  go_enter Tryz.func154, Tryz.ntmps154
  go_wp2
  refine wp_loop_rounds 2 ?_
  rw [rounds_succ]
  go_wp2_with fail
  refine (decode42 _ b o c hc h).mono ?_
  rintro e w1 ⟨rfl, d⟩
  have D := Lib.hid d; clear d
  go_wp2_with (at_builtin; (refine wpList_appQ (S := No) rfl (.tmp 23) (.tmp 25) 232 232 rfl 237 (.agg #[zInt, zInt, zInt, zInt]) 32 Tryz.underlying232 info_in rfl (by decide) goodIn (.slice none 0 0) [] rfl (OQ.nil _ _ _ _) (fun k hk _ => hk.elim) (.slice (some ⟨w1.heap.size + 1, 0, none⟩) 1 1) [ret42] [[.int .i64 0, .int .i64 42, .int .i64 0, .int .i64 1]] rfl (Els.single rfl rfl) (Src.single (P := Tryz.prog) (n := 4) (S := No) (R := RIn) goodIn (x := ret42) rfl rfl (tx := 232) Tryz.underlying232 _ 1 (At.lit2 w1 _ _ _)) (by simp; unfold maxLen; omega) (by simp) ?_); intro v5 w5 g1 g2 g3; obtain ⟨na5, nc5, rfl, hc5⟩ := g1.form1 (by simp); have HG5 := Lib.hid (And.intro g1 (And.intro g2 g3)); have y3 : w5.cell? ⟨w1.heap.size, 3, none⟩ = some (.int .i64 1) := blk_cell ((g2.block w1.heap.size (by simp; omega) (fun e => by cases e)).trans (alloc_blk (heap_alloc_new w1 _))) rfl; clear g1 g2 g3)
  rw [rounds_succ]
  go_wp2
  go_ret3
  exact ⟨na5, nc5, rfl, (D.out.trans ((((Chg.refl (fun k => some k = (Value.slice none 0 0).ownBlock) w1).alloc _).alloc _).trans HG5.out.2.1 (fun _ _ h => h)) (fun _ _ e => by cases e)), HG5.out.1⟩
set_option maxHeartbeats 1600000 in
theorem asks42 (w : World) (pv : Value) : Calls Tryz.prog 179 #[in42, pv] w fun e w' => e = .returned (.int .i64 0) ∧ Chg No w w' := by
  go_enter Tryz.func179, Tryz.ntmps179
  go_wp2
  go_ret
  exact ⟨rfl, ((Chg.refl No w).alloc _).alloc _⟩
theorem oq42 {w : World} {g cap : Nat} (h : OQ 237 4 RIn No w (.slice (some ⟨g, 0, none⟩) 1 cap) [ret42]) : w.cell? ⟨g, 0, none⟩ = some (.int .i64 0) ∧ w.cell? ⟨g, 1, none⟩ = some (.int .i64 42) ∧ w.cell? ⟨g, 2, none⟩ = some (.int .i64 0) ∧ w.cell? ⟨g, 3, none⟩ = some (.int .i64 1) := by
  obtain ⟨b, o, cs, hb, -, hR, -, -, hc⟩ := (h.sq (T := fun _ => True) goodIn (fun _ _ => trivial) (fun _ _ => trivial)).cells 0 (by simp)
  cases hb
  obtain rfl := hR
  exact ⟨hc 0 _ rfl, hc 1 _ rfl, hc 2 _ rfl, hc 3 _ rfl⟩
set_option maxRecDepth 100000 in
set_option maxHeartbeats 3200000 in
theorem check42 (w : World) (b o c : Nat) (hc : 1 ≤ c) (h : w.cell? ⟨b, o, none⟩ = some (.int .u8 42)) (pv : Value) (lv : Int) : Calls Tryz.prog 153 #[.slice (some ⟨b, o, none⟩) 1 c, pv, .int .i64 lv] w fun e w' => e = .returned (.tuple #[.int .i64 0, .int .i64 0]) ∧ Chg No w w' := by
  have hmk : ∀ W : World, (Instr.makeSlice 56 (.int .i64 1) (.int .i64 1)).run Tryz.prog W = .ok (.slice (some ⟨W.heap.size, 0, none⟩) 1 1) (W.alloc (.cells #[.bool false] 4)) := fun W => by kernel_rfl
  go_enter Tryz.func153, Tryz.ntmps153
  go_wp2_with fail
  refine (all42 _ b o c hc h).mono ?_
  rintro e w1 ⟨g, cap, rfl, d, ho⟩
  obtain ⟨c0, c1, c2, c3⟩ := oq42 ho
  have D := Lib.hid (And.intro d ho); clear d ho
  have hg := World.block_lt_of_cell? w1 _ c0
  simp only at hg
  go_wp2
  refine wp_loop_rounds 2 ?_
  rw [rounds_succ]
  go_wp2
  rw [rounds_succ]
  go_wp2
  refine wp_loop_rounds 2 ?_
  rw [rounds_succ]
  go_wp2_with fail
  refine (jumps42 _).mono ?_
  rintro e w2 ⟨rfl, rfl⟩
  go_wp2_with fail
  refine (asks42 _ pv).mono ?_
  rintro e w2 ⟨rfl, d⟩
  have D2 := Lib.hid ((((D.out.1.alloc _).alloc _).alloc _).trans d (fun _ _ h => h)); clear d
  go_wp2
  rw [rounds_succ]
  go_wp2
  go_ret2
  exact ⟨rfl, D2.out⟩

/-- A method whose code is one 'return'. -/
structure RetM (x : Mt) : Prop where
  flags : (x.flags = 0 ∧ x.locals_ = 1) ∨ (x.flags = 4 ∧ x.locals_ = 1) ∨ (x.flags = 4 ∧ x.locals_ = 0)
  params : x.sig.params = []
  stack : x.stack = 1
  code : x.code = [42]
  hands : x.handlers = []
theorem RetM.body {x : Mt} (h : RetM x) (l : List En) : bodyE l x = (0, 0) := by
  obtain ⟨h1, h2, h3, h5, h6⟩ := h
  have hc : codeE [42] l x.locals_ = (0, 0) := by rcases h1 with h1 | h1 | h1 <;> rw [h1.2] <;> rfl
  unfold bodyE
  rw [h2, h3, h5, if_neg (by rcases h1 with h1 | h1 | h1 <;> rw [h1.2] <;> decide), if_neg (by rcases h1 with h1 | h1 | h1 <;> rw [h1.1, h1.2] <;> decide)]
  rw [hc, if_neg (by decide)]
  unfold handsE
  rw [h6, h5]
  rfl
set_option maxRecDepth 100000 in
set_option maxHeartbeats 3200000 in
theorem body42 (S : Blocks) (w : World) (x : Mt) (hx : RetM x) (v cv hv pv : Value) (h1 : SQ 2 RTy S w v x.sig.params) (h2 : SQ 1 RByte S w cv x.code) (h3 : SQ 4 RHd S w hv x.handlers) :
    Calls Tryz.prog 127 #[.agg (mtC x v cv hv), pv] w fun e w' => e = .returned (.tuple #[.int .i64 0, .int .i64 0]) ∧ Chg No w w' := by
  obtain ⟨k1, k2, k3, k5, k6⟩ := hx
  rw [k2] at h1
  rw [k5] at h2
  rw [k6] at h3
  obtain ⟨a1, c1, rfl, -, -⟩ := h1.form
  obtain ⟨a2, c2, rfl, hcc, -⟩ := h2.form
  obtain ⟨a3, c3, rfl, -, -⟩ := h3.form
  obtain ⟨b, o, cs, rfl, -, hR, -, -, hc⟩ := h2.cells 0 (by simp)
  obtain rfl := hR
  have hc0 : w.cell? ⟨b, o, none⟩ = some (.int .u8 42) := hc 0 _ rfl
  have hcl : 1 ≤ c2 := by simpa using hcc
  have hb := World.block_lt_of_cell? w _ hc0
  simp only at hb
  clear h1 h2 h3 hc hcc
  unfold mtC
  rw [k3]
  rcases k1 with ⟨k1, k4⟩ | ⟨k1, k4⟩ | ⟨k1, k4⟩
  all_goals
    rw [k1, k4]
    clear k1 k4
    go_enter Tryz.func127, Tryz.ntmps127
    go_wp2_with fail
    refine (check42 _ b o c2 hcl (by rw [World.cell?_alloc_past _ _ _ hb]; exact hc0) pv _).mono ?_
    rintro e w1 ⟨rfl, d⟩
    have D1 := Lib.hid (((Chg.refl No w).alloc _).trans d (fun _ _ h => h))
    have hc1 := Lib.hid ((D1.out.cell (p := ⟨b, o, none⟩) hb (fun h => h)).trans hc0)
    have HB := Lib.hid (d.blk (heap_alloc_new w _))
    have x8 := blk_cell HB.out (j := 8) rfl
    have x9 := blk_cell HB.out (j := 9) rfl
    clear d
    go_wp2_with fail
    refine (all42 _ b o c2 hcl hc1.out).mono ?_
    rintro e w2 ⟨g, cap, rfl, d, -⟩
    have D2 := Lib.hid (D1.out.trans d (fun _ _ h => h))
    have y9 := blk_cell (d.blk HB.out) (j := 9) rfl
    have ylt := heap_lt (d.blk HB.out)
    clear d x8 x9
    have hmf : ∀ (fn : Fn) (first cap : Array Value) (w : World), (Instr.makeFunc fn first cap).run Tryz.prog w = .ok (.func fn first cap) w := fun _ _ _ _ => rfl
    go_wp2
    refine wp_loop_rounds 1 ?_
    rw [rounds_succ]
    go_wp2
    go_ret2
    exact ⟨rfl, D2.out.alloc _⟩
/-- Classes whose methods have such code answer so. -/
theorem bodyAns_ret {S : Blocks} {w : World} {l : List En} {pv : Value} {ms : List Mt} (h : ∀ x ∈ ms, x.flags ≠ 2 → RetM x) : BodyAns S w l pv ms := fun W x v cv hv hx hf _ q1 q2 q3 => by
  rw [(h x hx hf).body l]
  exact body42 S W x (h x hx hf) v cv hv pv q1 q2 q3

end Go.Proofs.YtgmmclcpfmnoiaaGreatDoor
