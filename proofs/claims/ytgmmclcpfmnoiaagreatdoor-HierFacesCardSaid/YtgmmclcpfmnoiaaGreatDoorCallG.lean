/-
  Asking a linked world for methods, walked: Pick, Method.
-/
import Derived.Test.YtgmmclcpfmnoiaaGreatDoorRuleJ
namespace Go.Proofs.YtgmmclcpfmnoiaaGreatDoor
open Go.RowKit

def pickV : Option (Ent × Nat) → Value
  | none => .tuple #[strV [], .int .i64 0, .bool false]
  | some (y, i) => .tuple #[strV y.cl.name, .int .i64 i, .bool true]
/-- The method that is done. -/
def pickX (es : List Ent) (x : Ent) (n : Bs) (g : Sg) : Option (Ent × Nat) :=
  if (isFaceB x.cl || n == initName) = true then none else match nearX es n g x.chain with
    | none => none
    | some (y, i) => if (y.cl.methods.getD i zMt).flags = 0 then some (y, i) else none
section
variable {S O : Blocks} {w : World} {b mb : Nat} {nv : Value} {es : List Ent}
/-- A class's chain in memory, a class's name. -/
theorem HW.chainC {lk : Bool} (h : HW S O w b mb nv es lk) {x : Ent} (hx : x ∈ es) : ∃ a c, w.cell? ⟨x.at_, 7, none⟩ = some (.slice a x.chain.length c) ∧ SQ 1 RStr S w (.slice a x.chain.length c) x.chain ∧ w.cell? ⟨x.at_, 1, none⟩ = some (strV x.cl.name) := by
  obtain ⟨f, g, m, p, c, q, ⟨-, e1, -, -, -, -, -, e7, -⟩, -, -, -, -, q5, -⟩ := h.cells hx
  obtain ⟨a, cc, rfl, -, -⟩ := q5.form
  exact ⟨a, cc, e7, q5, e1⟩
set_option maxRecDepth 100000 in
set_option maxHeartbeats 6400000 in
theorem pick_c (h : HW S O w b mb nv es true) (hw : WOk es) (x : Ent) (hx : x ∈ es) (hl : x.chain.length ≤ 1000000) (hall : ∀ s ∈ x.chain, ∃ k, atf es s = some k) (T : Blocks) (n : Bs) (g : Sg) (gv : Value) (hg : SQ 2 RTy T w gv g.params) (og : g.params.length ≤ maxLen) :
    Calls Tryz.prog 12 #[.pointer (some ⟨b, 0, none⟩), strV x.cl.name, strV n, .agg (sgA g gv)] w fun e w' => e = .returned (pickV (pickX es x n g)) ∧ Chg No w w' := by
  obtain ⟨ga, gc, rfl, -, -⟩ := hg.form
  have d0 := (Chg.refl No w).alloc (.cells (sgA g (.slice ga g.params.length gc)) 28)
  have h0 := h.new d0
  have hat := (atf_mem h.uniq hx).1
  have HO := Lib.hid (of_c h0 x.cl.name (h.short x hx).name)
  rw [hat] at HO
  have hp : ptrV (some x.at_) = .pointer (some ⟨x.at_, 0, none⟩) := rfl
  rw [hp] at HO
  have HF := Lib.hid (isFace_c h0 x hx)
  obtain ⟨ca, cc, e7, qc, -⟩ := h0.chainC hx
  have hbl := h.o_lt b h.own_b
  have hxl := h.o_lt _ (h.own_e x hx)
  have HN := Lib.hid (fun (W : World) (d : Chg No (w.alloc (.cells (sgA g (.slice ga g.params.length gc)) 28)) W) => nearest_c (h0.new d) hw T S _ x.chain (qc.new goodStr d) hl hall n g _ (hg.new goodTy (d0.trans d (fun _ _ h => h))) og)
  have H := Lib.hid h0
  clear h h0 hat hw qc hall hg hp d0
  cases hf : isFaceB x.cl with
  | true =>
    have HE := Lib.hid (show pickX es x n g = none by unfold pickX; rw [hf]; rfl)
    rw [HE.out, show pickV none = .tuple #[strV [], .int .i64 0, .bool false] from rfl]
    rw [hf] at HF
    clear hf
    go_enter Tryz.func12, Tryz.ntmps12
    go_wp2_with fail
    refine HO.out.mono ?_
    rintro e w1 ⟨rfl, rfl⟩
    go_wp2_with fail
    refine HF.out.mono ?_
    rintro e w1 ⟨rfl, rfl⟩
    go_wp2
    go_ret3
    exact ⟨rfl, (Chg.refl _ _).alloc _⟩
  | false =>
    rw [hf] at HF
    have HFF := Lib.hid hf; clear hf
    cases hi : n == initName with
    | true =>
      have hi' : (n == [60, 105, 110, 105, 116, 62]) = true := hi
      have HE := Lib.hid (show pickX es x n g = none by unfold pickX; rw [HFF.out, hi]; rfl)
      rw [HE.out, show pickV none = .tuple #[strV [], .int .i64 0, .bool false] from rfl]
      clear hi
      go_enter Tryz.func12, Tryz.ntmps12
      go_wp2_with fail
      refine HO.out.mono ?_
      rintro e w1 ⟨rfl, rfl⟩
      go_wp2_with fail
      refine HF.out.mono ?_
      rintro e w1 ⟨rfl, rfl⟩
      go_wp2
      go_ret3
      exact ⟨rfl, (Chg.refl _ _).alloc _⟩
    | false =>
      have hi' : (n == [60, 105, 110, 105, 116, 62]) = false := hi
      have HE := Lib.hid (show pickX es x n g = match nearX es n g x.chain with | none => none | some (y, i) => if (y.cl.methods.getD i zMt).flags = 0 then some (y, i) else none by unfold pickX; rw [HFF.out, hi]; rfl)
      clear hi
      cases hr : nearX es n g x.chain with
      | none =>
        rw [hr] at HN HE
        have hn : nearV none = .tuple #[.pointer none, .int .i64 (-1)] := rfl
        rw [hn] at HN
        have HE2 := Lib.hid (show pickX es x n g = none from HE.out)
        rw [HE2.out, show pickV none = .tuple #[strV [], .int .i64 0, .bool false] from rfl]
        clear hr
        go_enter Tryz.func12, Tryz.ntmps12
        go_wp2_with fail
        refine HO.out.mono ?_
        rintro e w1 ⟨rfl, rfl⟩
        go_wp2_with fail
        refine HF.out.mono ?_
        rintro e w1 ⟨rfl, rfl⟩
        go_wp2_with fail
        go_region_with (go_at_call 47; refine (HN.out _ (Chg.refl No _).drew).mono ?_; rintro e w1 ⟨rfl, d⟩; have D := Lib.hid (((Chg.refl No w).alloc _).drew.trans d (fun _ _ h => h)); clear d)
        all_goals go_wp2
        all_goals go_ret3
        all_goals exact ⟨rfl, D.out⟩
      | some p =>
        obtain ⟨y, i⟩ := p
        obtain ⟨hy, hyi⟩ := nearX_mem hr
        have hil := findIdx_lt hyi
        rw [hr] at HN HE
        have hn : nearV (some (y, i)) = .tuple #[.pointer (some ⟨y.at_, 0, none⟩), .int .i64 i] := rfl
        rw [hn] at HN
        obtain ⟨yf, hyf⟩ : ∃ yf, yf = y.cl.methods[i].flags := ⟨_, rfl⟩
        have HYF := Lib.hid hyf
        have hgd : (y.cl.methods.getD i zMt).flags = yf := by rw [List.getD_eq_getElem?_getD, List.getElem?_eq_getElem hil, hyf]; rfl
        have HY := Lib.hid (And.intro hy hil)
        clear hr hyi hy hyf
        by_cases hz : yf = 0
        · have HE2 := Lib.hid (show pickX es x n g = some (y, i) by rw [HE.out]; simp only [hgd, hz, if_true])
          rw [HE2.out, show pickV (some (y, i)) = .tuple #[strV y.cl.name, .int .i64 i, .bool true] from rfl]
          clear hgd
          subst hz
          go_enter Tryz.func12, Tryz.ntmps12
          go_wp2_with fail
          refine HO.out.mono ?_
          rintro e w1 ⟨rfl, rfl⟩
          go_wp2_with fail
          refine HF.out.mono ?_
          rintro e w1 ⟨rfl, rfl⟩
          go_wp2_with fail
          go_region_with (go_at_call 47; refine (HN.out _ (Chg.refl No _).drew).mono ?_; rintro e w1 ⟨rfl, d⟩; have D := Lib.hid (((Chg.refl No w).alloc _).drew.trans d (fun _ _ h => h)); obtain ⟨ab, ao, cy, y5, y0⟩ := (H.out.new ((Chg.refl No _).drew.trans d (fun _ _ h => h))).meth HY.out.1 hil; rw [← HYF.out] at y0; obtain ⟨-, -, -, -, y1⟩ := (H.out.new ((Chg.refl No _).drew.trans d (fun _ _ h => h))).chainC HY.out.1; clear d)
          all_goals go_wp2
          all_goals go_ret3
          all_goals exact ⟨rfl, D.out⟩
        · have HE2 := Lib.hid (show pickX es x n g = none by rw [HE.out]; simp only [hgd, hz, if_false])
          rw [HE2.out, show pickV none = .tuple #[strV [], .int .i64 0, .bool false] from rfl]
          have hz' : (yf != 0) = true := by simpa using hz
          clear hgd hz
          go_enter Tryz.func12, Tryz.ntmps12
          go_wp2_with fail
          refine HO.out.mono ?_
          rintro e w1 ⟨rfl, rfl⟩
          go_wp2_with fail
          refine HF.out.mono ?_
          rintro e w1 ⟨rfl, rfl⟩
          go_wp2_with fail
          go_region_with (go_at_call 47; refine (HN.out _ (Chg.refl No _).drew).mono ?_; rintro e w1 ⟨rfl, d⟩; have D := Lib.hid (((Chg.refl No w).alloc _).drew.trans d (fun _ _ h => h)); obtain ⟨ab, ao, cy, y5, y0⟩ := (H.out.new ((Chg.refl No _).drew.trans d (fun _ _ h => h))).meth HY.out.1 hil; rw [← HYF.out] at y0; clear d)
          all_goals go_wp2
          all_goals go_ret3
          all_goals exact ⟨rfl, D.out⟩
end

end Go.Proofs.YtgmmclcpfmnoiaaGreatDoor

namespace Go.Proofs.YtgmmclcpfmnoiaaGreatDoor
open Go.RowKit

def methV : Option (Ent × Nat) → Value
  | none => .tuple #[strV [], .int .i64 0, .int .i64 36]
  | some (y, i) => .tuple #[strV y.cl.name, .int .i64 i, .int .i64 0]
/-- The method of a call. -/
def callX (es : List Ent) (x : Ent) (n : Bs) (g : Sg) : Option (Ent × Nat) :=
  if (isFaceB x.cl || n == initName) = true then none else match nearX es n g x.chain with
    | none => none
    | some (y, i) => if (y.cl.methods.getD i zMt).flags = 4 then none else some (y, i)
section
variable {S O : Blocks} {w : World} {b mb : Nat} {nv : Value} {es : List Ent}
set_option maxRecDepth 100000 in
set_option maxHeartbeats 6400000 in
theorem call_c (h : HW S O w b mb nv es true) (hw : WOk es) (x : Ent) (hx : x ∈ es) (hl : x.chain.length ≤ 1000000) (hall : ∀ s ∈ x.chain, ∃ k, atf es s = some k) (T : Blocks) (n : Bs) (g : Sg) (gv : Value) (hg : SQ 2 RTy T w gv g.params) (og : g.params.length ≤ maxLen) :
    Calls Tryz.prog 18 #[.pointer (some ⟨b, 0, none⟩), .int .i64 38, strV x.cl.name, strV n, .agg (sgA g gv)] w fun e w' => e = .returned (methV (callX es x n g)) ∧ Chg No w w' := by
  obtain ⟨ga, gc, rfl, -, -⟩ := hg.form
  have d0 := (Chg.refl No w).alloc (.cells (sgA g (.slice ga g.params.length gc)) 28)
  have h0 := h.new d0
  have hat := (atf_mem h.uniq hx).1
  have HF := Lib.hid (isFace_c h0 x hx)
  obtain ⟨ca, cc, e7, qc, -⟩ := h0.chainC hx
  have c1 := h0.c1
  have c2 := h0.c2
  have kL := h0.lookE (h.short x hx).name hat
  have hbl := h.o_lt b h.own_b
  have hxl := h.o_lt _ (h.own_e x hx)
  have HN := Lib.hid (fun (W : World) (d : Chg No (w.alloc (.cells (sgA g (.slice ga g.params.length gc)) 28)) W) => nearest_c (h0.new d) hw T S _ x.chain (qc.new goodStr d) hl hall n g _ (hg.new goodTy (d0.trans d (fun _ _ h => h))) og)
  have H := Lib.hid h0
  clear h h0 hat hw qc hall hg d0
  cases hf : isFaceB x.cl with
  | true =>
    have HE := Lib.hid (show callX es x n g = none by unfold callX; rw [hf]; rfl)
    rw [HE.out, show methV none = .tuple #[strV [], .int .i64 0, .int .i64 36] from rfl]
    rw [hf] at HF
    clear hf
    go_enter Tryz.func18, Tryz.ntmps18
    go_wp2_with fail
    refine HF.out.mono ?_
    rintro e w1 ⟨rfl, rfl⟩
    go_wp2
    go_ret3
    exact ⟨rfl, (Chg.refl _ _).alloc _⟩
  | false =>
    rw [hf] at HF
    have HFF := Lib.hid hf; clear hf
    cases hi : n == initName with
    | true =>
      have hi' : (n == [60, 105, 110, 105, 116, 62]) = true := hi
      have HE := Lib.hid (show callX es x n g = none by unfold callX; rw [HFF.out, hi]; rfl)
      rw [HE.out, show methV none = .tuple #[strV [], .int .i64 0, .int .i64 36] from rfl]
      clear hi
      go_enter Tryz.func18, Tryz.ntmps18
      go_wp2_with fail
      refine HF.out.mono ?_
      rintro e w1 ⟨rfl, rfl⟩
      go_wp2
      go_ret3
      exact ⟨rfl, (Chg.refl _ _).alloc _⟩
    | false =>
      have hi' : (n == [60, 105, 110, 105, 116, 62]) = false := hi
      have HE := Lib.hid (show callX es x n g = match nearX es n g x.chain with | none => none | some (y, i) => if (y.cl.methods.getD i zMt).flags = 4 then none else some (y, i) by unfold callX; rw [HFF.out, hi]; rfl)
      clear hi
      cases hr : nearX es n g x.chain with
      | none =>
        rw [hr] at HN HE
        have hn : nearV none = .tuple #[.pointer none, .int .i64 (-1)] := rfl
        rw [hn] at HN
        have HE2 := Lib.hid (show callX es x n g = none from HE.out)
        rw [HE2.out, show methV none = .tuple #[strV [], .int .i64 0, .int .i64 36] from rfl]
        clear hr
        go_enter Tryz.func18, Tryz.ntmps18
        go_wp2_with fail
        refine HF.out.mono ?_
        rintro e w1 ⟨rfl, rfl⟩
        go_wp2_with fail
        refine (HN.out _ (Chg.refl No _)).mono ?_
        rintro e w1 ⟨rfl, d⟩
        have D := Lib.hid (((Chg.refl No w).alloc _).trans d (fun _ _ h => h))
        clear d
        go_wp2
        go_ret3
        exact ⟨rfl, D.out⟩
      | some p =>
        obtain ⟨y, i⟩ := p
        obtain ⟨hy, hyi⟩ := nearX_mem hr
        have hil := findIdx_lt hyi
        rw [hr] at HN HE
        have hn : nearV (some (y, i)) = .tuple #[.pointer (some ⟨y.at_, 0, none⟩), .int .i64 i] := rfl
        rw [hn] at HN
        obtain ⟨yf, hyf⟩ : ∃ yf, yf = y.cl.methods[i].flags := ⟨_, rfl⟩
        have HYF := Lib.hid hyf
        have hgd : (y.cl.methods.getD i zMt).flags = yf := by rw [List.getD_eq_getElem?_getD, List.getElem?_eq_getElem hil, hyf]; rfl
        have HY := Lib.hid (And.intro hy hil)
        clear hr hyi hy hyf
        by_cases hz : yf = 4
        · have HE2 := Lib.hid (show callX es x n g = none by rw [HE.out]; simp only [hgd, hz, if_true])
          rw [HE2.out, show methV none = .tuple #[strV [], .int .i64 0, .int .i64 36] from rfl]
          clear hgd
          subst hz
          go_enter Tryz.func18, Tryz.ntmps18
          go_wp2_with fail
          refine HF.out.mono ?_
          rintro e w1 ⟨rfl, rfl⟩
          go_wp2_with fail
          refine (HN.out _ (Chg.refl No _)).mono ?_
          rintro e w1 ⟨rfl, d⟩
          have D := Lib.hid (((Chg.refl No w).alloc _).trans d (fun _ _ h => h))
          obtain ⟨ab, ao, cy, y5, y0⟩ := (H.out.new d).meth HY.out.1 hil
          rw [← HYF.out] at y0
          clear d
          go_wp2
          go_ret3
          exact ⟨rfl, D.out⟩
        · have HE2 := Lib.hid (show callX es x n g = some (y, i) by rw [HE.out]; simp only [hgd, hz, if_false])
          rw [HE2.out, show methV (some (y, i)) = .tuple #[strV y.cl.name, .int .i64 i, .int .i64 0] from rfl]
          have hz' : (yf == 4) = false := by simpa using hz
          clear hgd hz
          go_enter Tryz.func18, Tryz.ntmps18
          go_wp2_with fail
          refine HF.out.mono ?_
          rintro e w1 ⟨rfl, rfl⟩
          go_wp2_with fail
          refine (HN.out _ (Chg.refl No _)).mono ?_
          rintro e w1 ⟨rfl, d⟩
          have D := Lib.hid (((Chg.refl No w).alloc _).trans d (fun _ _ h => h))
          obtain ⟨ab, ao, cy, y5, y0⟩ := (H.out.new d).meth HY.out.1 hil
          rw [← HYF.out] at y0
          obtain ⟨-, -, -, -, y1⟩ := (H.out.new d).chainC HY.out.1
          clear d
          go_wp2
          go_ret3
          exact ⟨rfl, D.out⟩
end

end Go.Proofs.YtgmmclcpfmnoiaaGreatDoor
