/-
  (*World).Common, walked.
-/
import Derived.Test.YtmpmfbnglfgobaaGreatDoorAsks
import Derived.BigQuiet
namespace Go.Proofs.YtmpmfbnglfgobaaGreatDoor
open Go.RowKit

section
variable {S O : Blocks} {w : World} {b mb : Nat} {nv : Value} {es : List Ent} {lk : Bool}
/-- A name's class is there, with that chain. -/
def ChainIs (es : List Ent) (CH : Bs → List Bs) (s : Bs) : Prop := ∃ x ∈ es, x.cl.name = s ∧ x.chain = CH s ∧ x.chain.length ≤ 1000
def isUp (CH : Bs → List Bs) (up s : Bs) : Bool := (CH s).any fun t => t == up

theorem below_c (h : HW S O w b mb nv es true) (CH : Bs → List Bs) (s up : Bs) (hs : ChainIs es CH s) (kb ku : Nat) (c0 : w.cell? ⟨kb, 0, none⟩ = some (.pointer (some ⟨b, 0, none⟩))) (c1 : w.cell? ⟨ku, 0, none⟩ = some (strV up)) :
    Calls Tryz.prog 29 #[strV s, .pointer (some ⟨kb, 0, none⟩), .pointer (some ⟨ku, 0, none⟩)] w fun e w' => e = .returned (.bool (!(isUp CH up s))) ∧ Chg No w w' := by
  obtain ⟨x, hx, rfl, hch, hl⟩ := hs
  have HA := Lib.hid (above_c h up x hx hl)
  have HE := Lib.hid hch
  clear h hch
  go_enter Tryz.func29, Tryz.ntmps29
  go_wp2_with fail
  refine HA.out.mono ?_
  rintro e w1 ⟨rfl, d⟩
  go_wp2
  go_ret
  exact ⟨ret_b (by unfold isUp; rw [HE.out]), d⟩

set_option maxRecDepth 100000 in
set_option maxHeartbeats 3200000 in
/-- The first of the chain of the first that stands above all. -/
theorem common_c (h : HW S O w b mb nv es true) (CH : Bs → List Bs) (T : Blocks) (v : Value) (s0 : Bs) (ns : List Bs) (hv : SQ 1 RStr T w v (s0 :: ns)) (hn : ns.length ≤ 1000) (hall : ∀ s ∈ s0 :: ns, ChainIs es CH s) (k : Nat) (up : Bs) (hk : (CH s0)[k]? = some up) (hup : ∀ s ∈ s0 :: ns, isUp CH up s = true) (hbe : ∀ j, j < k → ∀ u, (CH s0)[j]? = some u → ((s0 :: ns).any fun s => !(isUp CH u s)) = true) :
    Calls Tryz.prog 11 #[.pointer (some ⟨b, 0, none⟩), v] w fun e w' => e = .returned (strV up) ∧ Chg No w w' := by
  obtain ⟨va, vc, rfl, -, -⟩ := hv.form
  have hbl := h.o_lt b h.own_b
  have H := Lib.hid (And.intro h (And.intro hv (And.intro hall (And.intro hk (And.intro hup hbe)))))
  have hmf : ∀ (fn : Fn) (first cap : Array Value) (w : World), (Instr.makeFunc fn first cap).run Tryz.prog w = .ok (.func fn first cap) w := fun _ _ _ _ => rfl
  have eg : ∀ (args : Array Value) (w : World), (callFunc 29 args).run Tryz.prog w = .ok (.enter 29 args) w := enters_of Tryz.func29 (by kernel_rfl) rfl
  have EG := Lib.hid eg
  clear h hv hall hk hup hbe eg
  go_enter Tryz.func11, Tryz.ntmps11
  go_wp2_with fail
  go_loopw [11] (fun iv wr => ∃ i : Nat, i ≤ ns.length + 1 ∧ iv = .int .i64 i ∧ wr = w.alloc (.cells #[.pointer (some ⟨b, 0, none⟩)] 34)) (fun iv _ => ns.length + 1 - (intOf iv).toNat)
  case atStart => exact ⟨0, Nat.zero_le _, rfl, rfl⟩
  case round =>
    obtain ⟨i, hi, rfl, rfl⟩ := hrel
    have HW1 := H.out.1.new ((Chg.refl No w).alloc (.cells #[.pointer (some ⟨b, 0, none⟩)] 34))
    by_cases hlt : i < ns.length + 1
    · obtain ⟨b', o, ds, rfl, hcl, hR, hbl', hsb, hcell⟩ := SQ.cells (H.out.2.1) i (by simpa using hlt)
      obtain rfl := hR
      have g0 := hcell 0 _ rfl
      rw [Nat.mul_one, Nat.add_zero] at g0
      clear hcell hcl
      obtain ⟨x, hx, hxn, -, -⟩ := H.out.2.2.1 (s0 :: ns)[i] (List.getElem_mem _)
      have HO := Lib.hid (of_c HW1 x.cl.name (HW1.short x hx).name)
      rw [(atf_mem HW1.uniq hx).1, hxn] at HO
      clear HW1 hxn
      go_wp2_with fail
      refine HO.out.mono ?_
      rintro e w1 ⟨rfl, rfl⟩
      have kp : ptrV (some x.at_) = .pointer (some ⟨x.at_, 0, none⟩) := rfl
      rw [kp]
      go_wp2
      go_roundw
      case rel => exact ⟨i + 1, by omega, by go_num, by trivial⟩
      case measure => simp [intOf]; omega
    · obtain ⟨b', o, ds, rfl, hcl, hR, hbl', hsb, hcell⟩ := SQ.cells (H.out.2.1) 0 (by simp)
      obtain rfl := hR
      have g0 := hcell 0 _ rfl
      rw [Nat.mul_one, Nat.add_zero] at g0
      simp only [List.getElem_cons_zero] at g0
      clear hcell hcl
      obtain ⟨x, hx, hxn, hxc, hxl⟩ := H.out.2.2.1 s0 (List.mem_cons_self ..)
      have hat := (atf_mem HW1.uniq hx).1
      have HO : RowKit.Hid (∀ n, Calls Tryz.prog 26 #[.pointer (some ⟨b, 0, none⟩), strV s0] ((w.alloc (.cells #[.pointer (some ⟨b, 0, none⟩)] 34)).drewN n) fun e w' => e = .returned (.pointer (some ⟨x.at_, 0, none⟩)) ∧ w' = (w.alloc (.cells #[.pointer (some ⟨b, 0, none⟩)] 34)).drewN n) := Lib.hid (fun n => by
        have := of_c (HW1.new ((Chg.refl _ _).drewN n)) x.cl.name (HW1.short x hx).name
        rw [hat, hxn] at this
        exact this)
      obtain ⟨f1, g1, m1, p1, c1, q1, ⟨-, -, -, -, -, -, -, e7, -⟩, -, -, -, -, q5, -⟩ := HW1.cells hx
      rw [hxc] at q5
      obtain ⟨ca, cc, rfl, -, -⟩ := q5.form
      have HX := Lib.hid (And.intro q5 (And.intro hxl hxc))
      clear HW1 hxn hxc hxl hat q5
      have hxz := HX.out.2.1
      have hxa : x.at_ < w.heap.size := H.out.1.o_lt _ (H.out.1.own_e x hx)
      have hkl : k < (CH s0).length := (List.getElem?_eq_some_iff.1 H.out.2.2.2.1).1
      have hcl : (CH s0).length ≤ 1000 := by rw [← HX.out.2.2]; exact hxz
      go_wp2_with fail
      go_quiet (first
        | (go_at_call 26; exact Calls.quiet_of_same (HO.out _)))
      go_wp2_with fail
      go_loopw [32] (fun jv wr => ∃ j : Nat, j ≤ k ∧ jv = .int .i64 j ∧ RowKit.Hid (Chg No (w.alloc (.cells #[.pointer (some ⟨b, 0, none⟩)] 34)) wr)) (fun jv _ => k + 1 - (intOf jv).toNat)
      case atStart => exact ⟨0, Nat.zero_le _, rfl, Lib.hid ((Chg.refl _ _).drewN _)⟩
      case round =>
        obtain ⟨j, hj, rfl, hJ⟩ := hrel
        have hjl : j < (CH s0).length := by omega
        obtain ⟨b2, o2, ds, rfl, hcl2, hR, hbl2, hsb2, hcell⟩ := SQ.cells (HX.out.1.new goodStr hJ.out) j hjl
        obtain rfl := hR
        have g1 := hcell 0 _ rfl
        rw [Nat.mul_one, Nat.add_zero] at g1
        clear hcell hcl2
        obtain ⟨u, hu⟩ : ∃ u, u = (CH s0)[j] := ⟨_, rfl⟩
        rw [← hu] at g1
        have hju : (CH s0)[j]? = some u := by rw [hu]; exact List.getElem?_eq_getElem hjl
        have CW := Lib.hid (((Chg.refl No w).alloc (.cells #[.pointer (some ⟨b, 0, none⟩)] 34)).trans hJ.out (fun _ _ h => h))
        have B0 := Lib.hid ((hJ.out.block w.heap.size (by simp) (fun h => h)).trans (heap_alloc_new w (.cells #[.pointer (some ⟨b, 0, none⟩)] 34)))
        have HU := Lib.hid hju
        clear hu hju
        have hwl := heap_lt B0.out
        go_wp2_with fail
        refine (containsFunc_str T _ _ (s0 :: ns) (H.out.2.1.new goodStr (CW.out.alloc (.cells #[strV u] 9))) (by simp; omega) 29 _ EG.out (fun s => !(isUp CH u s)) (fun W s cs hs hW hR => ?_)).mono ?_
        · obtain rfl := hR
          exact below_c (H.out.1.new ((CW.out.alloc (.cells #[strV u] 9)).trans hW (fun _ _ h => h))) CH s u (H.out.2.2.1 s hs) w.heap.size wr.heap.size
            ((hW.cell (p := ⟨w.heap.size, 0, none⟩) (by simp; omega) (fun h => h)).trans (by rw [World.cell?_alloc_past _ _ _ hwl]; exact blk_cell B0.out rfl)) (box_keep hW rfl)
        · rintro e w2 ⟨he, d⟩
          have u0 : w2.cell? ⟨wr.heap.size, 0, none⟩ = some (strV u) := box_keep d rfl
          have D := Lib.hid (((Chg.refl No wr).alloc (.cells #[strV u] 9)).trans d (fun _ _ h => h)); clear d
          by_cases hjk : j = k
          · have hue : u = up := by
              have h1 := HU.out
              rw [hjk, H.out.2.2.2.1] at h1
              cases h1; rfl
            rw [show ((s0 :: ns).any fun s => !(isUp CH u s)) = false from by
              rw [List.any_eq_false]
              intro s hs
              rw [hue, H.out.2.2.2.2.1 s hs]; simp] at he
            subst he
            have HUE := Lib.hid hue; clear hue
            go_wp2
            go_ret
            first
              | exact ⟨rfl, CW.out.trans D.out (fun _ _ h => h)⟩
              | exact ⟨by rw [HUE.out]; rfl, CW.out.trans D.out (fun _ _ h => h)⟩
          · rw [H.out.2.2.2.2.2 j (by omega) u HU.out] at he
            subst he
            go_wp2
            go_roundw
            case rel =>
              (repeat apply Exists.intro)
              exact ⟨⟨j + 1, by omega, by go_num, Lib.hid (hJ.out.trans D.out (fun _ _ h => h))⟩, rfl⟩
            case measure => simp [intOf]; omega
end

end Go.Proofs.YtmpmfbnglfgobaaGreatDoor
