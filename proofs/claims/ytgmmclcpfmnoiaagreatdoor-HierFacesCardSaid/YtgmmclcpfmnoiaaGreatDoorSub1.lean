/-
  (*World).there; Sub at one type: walked.
-/
import Derived.Test.YtgmmclcpfmnoiaaGreatDoorTextW1
import Derived.Test.YtgmmclcpfmnoiaaGreatDoorChain
import Derived.Test.YtgmmclcpfmnoiaaGreatDoorExt
import Derived.Deep.RegionHeld3
namespace Go.Proofs.YtgmmclcpfmnoiaaGreatDoor
open Go.RowKit
attribute [local go_sem high] eqTy_run

/-- Is a type right, and its class there? -/
def rightT (cs : List Cl) (t : Ty) : Bool := decide (tyErr t = 0) && (decide (t.name = []) || (fnd cs t.name).isSome)
section
variable {S O : Blocks} {w : World} {b mb : Nat} {nv : Value} {es : List Ent} {lk : Bool}
theorem tyErr_cases (t : Ty) : tyErr t = 0 ∨ tyErr t = 1 ∨ tyErr t = 14 := by
  unfold tyErr
  split
  · exact .inr (.inl rfl)
  · split
    · exact .inr (.inr rfl)
    · exact .inl rfl
theorem HW.ext1 (h : HW S O w b mb nv es lk) (x : Ext w) : x.v.cell? ⟨b, 1, none⟩ = some (.map (some mb)) := x.cell h.c1
theorem HW.extL (h : HW S O w b mb nv es lk) {s : Bs} (hs : Short s) (x : Ext w) : (Instr.lookup 77 (.map (some mb)) (.string ⟨s.toArray⟩) false).run Tryz.prog x.v = .ok (ptrV (atf es s)) x.v := (h.new x.c).look s hs
set_option maxHeartbeats 1600000 in
theorem there_c (h : HW S O w b mb nv es lk) (d : Int) (n : Bs) (hl : Short n) :
    Calls Tryz.prog 49 #[.pointer (some ⟨b, 0, none⟩), .agg #[.int .i64 d, strV n]] w fun e w' => e = .returned (.bool (rightT (cls es) ⟨d, n⟩)) ∧ Chg No w w' := by
  have hl' : n.length ≤ 9223372036854775807 := by unfold Short maxLen at hl; omega
  obtain ⟨wa, hwa⟩ : ∃ wa, wa = w.alloc (.cells #[.int .i64 d, strV n] 26) := ⟨_, rfl⟩
  have cA : Chg No w wa := by rw [hwa]; exact (Chg.refl No w).alloc _
  have h1 := h.new cA
  have k1 := h1.ext1
  have x0 : ∀ x : Ext wa, x.v.cell? ⟨w.heap.size, 0, none⟩ = some (.int .i64 d) := fun x => x.cell (by rw [hwa]; simp)
  have x1 : ∀ x : Ext wa, x.v.cell? ⟨w.heap.size, 1, none⟩ = some (strV n) := fun x => x.cell (by rw [hwa]; simp)
  have kL := fun x => h1.extL hl x
  have HC := Lib.hid (fun W => (tyCheck_c W d n hl').mono (fun e w' (hh : _ ∧ _) => (⟨hh.1, by rw [hh.2]; exact (Chg.refl _ _).alloc _⟩ : e = .returned (.int .i64 (tyErr ⟨d, n⟩)) ∧ Chg No W w')))
  have HA := Lib.hid (And.intro cA hwa)
  clear h h1 cA hl hwa
  rcases tyErr_cases ⟨d, n⟩ with e1 | e1 | e1
  · rw [e1] at HC
    have H1 := Lib.hid e1; clear e1
    by_cases hn : n = []
    · subst hn
      clear kL
      go_enter Tryz.func49, Tryz.ntmps49
      go_wp2_with fail
      change Code.wp _ _ _ _ (w.alloc (.cells #[.int .i64 d, strV _] 26))
      rw [← HA.out.2]
      refine wp_region_ext (by kernel_rfl) (by kernel_rfl) ?_
      repeat (first | go_big_quiet_step ((go_at_call 86; exact Calls.ext_of (HC.out _))) | quiet_step ((go_at_call 86; exact Calls.ext_of (HC.out _))))
      refine wpQuiet_nil ?_
      rintro _ ⟨x, rfl⟩
      go_wp2
      go_ret
      exact ⟨ret_b (by unfold rightT; rw [H1.out]; rfl), HA.out.1.trans x.c (fun _ _ h => h)⟩
    · have he := ne_isEmpty hn
      have HN := Lib.hid hn; clear hn
      cases ha : atf es n with
      | none =>
        rw [ha] at kL
        have kL2 : ∀ x : Ext wa, (Instr.lookup 77 (.map (some mb)) (.string ⟨n.toArray⟩) false).run Tryz.prog x.v = .ok (.pointer none) x.v := kL
        have HF := Lib.hid (atf_none ha); clear ha kL
        go_enter Tryz.func49, Tryz.ntmps49
        go_wp2_with fail
        change Code.wp _ _ _ _ (w.alloc (.cells #[.int .i64 d, strV _] 26))
        rw [← HA.out.2]
        refine wp_region_ext (by kernel_rfl) (by kernel_rfl) ?_
        repeat (first | go_big_quiet_step ((go_at_call 86; exact Calls.ext_of (HC.out _))) | quiet_step ((go_at_call 86; exact Calls.ext_of (HC.out _))))
        refine wpQuiet_nil ?_
        rintro _ ⟨x, rfl⟩
        go_wp2
        go_ret
        exact ⟨ret_b (by unfold rightT; rw [HF.out]; simp [HN.out]), HA.out.1.trans x.c (fun _ _ h => h)⟩
      | some k =>
        rw [ha] at kL
        have kL2 : ∀ x : Ext wa, (Instr.lookup 77 (.map (some mb)) (.string ⟨n.toArray⟩) false).run Tryz.prog x.v = .ok (.pointer (some ⟨k, 0, none⟩)) x.v := kL
        clear kL
        obtain ⟨y, hx, -, -, hf⟩ := atf_some ha
        have HF := Lib.hid hf; clear ha hf hx
        go_enter Tryz.func49, Tryz.ntmps49
        go_wp2_with fail
        change Code.wp _ _ _ _ (w.alloc (.cells #[.int .i64 d, strV _] 26))
        rw [← HA.out.2]
        refine wp_region_ext (by kernel_rfl) (by kernel_rfl) ?_
        repeat (first | go_big_quiet_step ((go_at_call 86; exact Calls.ext_of (HC.out _))) | quiet_step ((go_at_call 86; exact Calls.ext_of (HC.out _))))
        refine wpQuiet_nil ?_
        rintro _ ⟨x, rfl⟩
        go_wp2
        go_ret
        exact ⟨ret_b (by unfold rightT; rw [HF.out, H1.out]; simp), HA.out.1.trans x.c (fun _ _ h => h)⟩
  all_goals
    rw [e1] at HC
    have H1 := Lib.hid e1; clear e1 kL
    go_enter Tryz.func49, Tryz.ntmps49
    go_wp2_with fail
    change Code.wp _ _ _ _ (w.alloc (.cells #[.int .i64 d, strV _] 26))
    rw [← HA.out.2]
    refine wp_region_ext (by kernel_rfl) (by kernel_rfl) ?_
    repeat (first | go_big_quiet_step ((go_at_call 86; exact Calls.ext_of (HC.out _))) | quiet_step ((go_at_call 86; exact Calls.ext_of (HC.out _))))
    refine wpQuiet_nil ?_
    rintro _ ⟨x, rfl⟩
    go_wp2
    go_ret
    exact ⟨ret_b (by unfold rightT; rw [H1.out]; simp), HA.out.1.trans x.c (fun _ _ h => h)⟩
end

end Go.Proofs.YtgmmclcpfmnoiaaGreatDoor
