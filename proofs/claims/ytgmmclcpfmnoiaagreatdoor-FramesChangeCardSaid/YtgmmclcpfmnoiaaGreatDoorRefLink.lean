/-
  The document's Link, walked, over whatever its rules answer.
-/
import Derived.Test.YtgmmclcpfmnoiaaGreatDoorRefNew
namespace Go.Proofs.YtgmmclcpfmnoiaaGreatDoor
open Go.RowKit

/-- The rules answer so, each as long as those ahead of it hold. -/
def RRules (w : World) (b n : Nat) (RE : Nat → Nat → Int) : Prop :=
  ∀ r i : Nat, 1 ≤ r → r ≤ 7 → 8 ≤ i → i < n → (∀ r' i', 1 ≤ r' → r' < r → 8 ≤ i' → i' < n → RE r' i' = 0) → ∀ W, Chg No w W →
    Calls Tryz.prog 118 #[.pointer (some ⟨b, 0, none⟩), .int .i64 r, .int .i64 i] W fun e w' => e = .returned (.int .i64 (RE r i)) ∧ Chg No W w'
/-- The first rule that is broken, at its first class. -/
structure RBroken (n : Nat) (RE : Nat → Nat → Int) (r i : Nat) : Prop where
  r1 : 1 ≤ r
  r7 : r ≤ 7
  i8 : 8 ≤ i
  lt : i < n
  bad : RE r i ≠ 0
  ahead : ∀ r' i', 1 ≤ r' → r' < r → 8 ≤ i' → i' < n → RE r' i' = 0
  here : ∀ i', 8 ≤ i' → i' < i → RE r i' = 0
def RLinked (S O : Blocks) (w : World) (b : Nat) (cv pv : Value) (cs : List Cl) (ps : List (List En)) (RE : Nat → Nat → Int) (e : Ending) (w' : World) : Prop :=
  (∃ r i c, RBroken cs.length RE r i ∧ cs[i]? = some c ∧ e = .returned (.tuple #[strV c.name, .int .i64 (RE r i)]) ∧ Chg No w w') ∨
  ((∀ r i, 1 ≤ r → r ≤ 7 → 8 ≤ i → i < cs.length → RE r i = 0) ∧ e = .returned (.tuple #[strV [], .int .i64 0]) ∧ Chg O w w' ∧ RW S O w' b cv pv cs ps true)
section
variable {S O : Blocks} {w : World} {b : Nat} {cv pv : Value} {cs : List Cl} {ps : List (List En)} {lk : Bool}
/-- A class's cells. -/
theorem RW.cls (h : RW S O w b cv pv cs ps lk) {i : Nat} {c : Cl} (hi : cs[i]? = some c) : ∃ g cap f fd m, cv = .slice (some ⟨g, 0, none⟩) cs.length cap ∧ g < w.heap.size ∧
    (w.cell? ⟨g, i * 6, none⟩ = some (.int .i64 c.flags) ∧ w.cell? ⟨g, i * 6 + 1, none⟩ = some (strV c.name) ∧ w.cell? ⟨g, i * 6 + 2, none⟩ = some (strV c.super) ∧ w.cell? ⟨g, i * 6 + 3, none⟩ = some f ∧ w.cell? ⟨g, i * 6 + 4, none⟩ = some fd ∧ w.cell? ⟨g, i * 6 + 5, none⟩ = some m) ∧
    SQ 1 RStr S w f c.faces ∧ SQ 4 RFd S w fd c.fields ∧ SQ 10 RMt S w m c.methods := by
  have hlt : i < cs.length := (List.getElem?_eq_some_iff.1 hi).1
  have hc : cs[i] = c := (List.getElem?_eq_some_iff.1 hi).2
  obtain ⟨g, cap, hcv, hcap⟩ := h.cl.form1 (by intro e; rw [e] at hlt; simp at hlt)
  have hsq : SQ 6 RCl (fun k => S k ∨ k = g) w cv cs := h.cl.sq goodCl (fun k hk => by rw [hcv] at hk; simp [Value.ownBlock] at hk; exact .inr hk.symm) (fun k hk => .inl hk)
  obtain ⟨css, ho, hE⟩ := h.cl
  have hil : i < css.length := by rw [hE.1]; exact hlt
  obtain ⟨c1, f, fd, m, he, q1, q2, q3⟩ := hE.2 i c css[i] hi (List.getElem?_eq_getElem hil)
  have hat : ∀ (j : Nat) (u : Value), css[i][j]? = some u → w.cell? ⟨g, i * 6 + j, none⟩ = some u := fun j u hj => by
    have hjn : j < 6 := by rw [← c1]; exact (List.getElem?_eq_some_iff.1 hj).1
    have := World.ownsRow.cells (g := g) ho (by rw [hcv]; rfl) (i * 6 + j) u (by rw [flat_at hE.lens i j (List.getElem?_eq_getElem hil) hjn]; exact hj)
    rwa [add_mk, Nat.zero_add] at this
  rw [he] at hat
  refine ⟨g, cap, f, fd, m, hcv, ?_, ⟨hat 0 _ rfl, hat 1 _ rfl, hat 2 _ rfl, hat 3 _ rfl, hat 4 _ rfl, hat 5 _ rfl⟩, q1, q2, q3⟩
  obtain ⟨cur, hcur⟩ := OQ.block (⟨css, ho, hE⟩ : OQ 37 6 RCl S w cv cs) (k := g) (by rw [hcv]; rfl)
  exact heap_lt hcur
set_option maxRecDepth 100000 in
set_option maxHeartbeats 6400000 in
theorem refLink_c (h : RW S O w b cv pv cs ps false) (h8 : 8 ≤ cs.length) (hle : cs.length ≤ 1000) (RE : Nat → Nat → Int) (hR : RRules w b cs.length RE) :
    Calls Tryz.prog 92 #[.pointer (some ⟨b, 0, none⟩)] w (RLinked S O w b cv pv cs ps RE) := by
  obtain ⟨ca, cc, hcv⟩ := h.cl.form
  subst hcv
  have hbl := h.o_lt b h.own_b
  have c0 := h.c0
  have c2 := h.c2
  have H := Lib.hid (And.intro h hR)
  clear h hR
  go_enter Tryz.func92, Tryz.ntmps92
  go_wp2_with fail
  go_loopw [4] (fun iv wr => ∃ r : Nat, 1 ≤ r ∧ r ≤ 8 ∧ iv = .int .i64 r ∧ RowKit.Hid (Chg No w wr ∧ ∀ r' i', 1 ≤ r' → r' < r → 8 ≤ i' → i' < cs.length → RE r' i' = 0)) (fun iv _ => 8 - (intOf iv).toNat)
  case atStart => exact ⟨1, by omega, by omega, rfl, Lib.hid ⟨Chg.refl _ _, fun r' i' h1 h2 => by omega⟩⟩
  case round =>
    obtain ⟨r, hr1, hr8, rfl, hI⟩ := hrel
    have k0 := (hI.out.1.cell (p := ⟨b, 0, none⟩) hbl (fun h => h)).trans c0
    have k2 := (hI.out.1.cell (p := ⟨b, 2, none⟩) hbl (fun h => h)).trans c2
    have hbr := Nat.lt_of_lt_of_le hbl hI.out.1.size
    by_cases hlt : r ≤ 7
    · obtain ⟨wo, hwo⟩ : ∃ wo : World, wo = wr := ⟨_, rfl⟩
      go_wp2_with fail
      rw [show decide ((r : Int) ≤ 7) = true from by simp; omega]
      go_loopw [5] (fun jv wr => ∃ i : Nat, 8 ≤ i ∧ i ≤ cs.length ∧ jv = .int .i64 i ∧ RowKit.Hid (Chg No w wr ∧ ∀ i', 8 ≤ i' → i' < i → RE r i' = 0)) (fun jv _ => cs.length - (intOf jv).toNat)
      case atStart => exact ⟨8, by omega, h8, rfl, Lib.hid ⟨hI.out.1, fun i' h1 h2 => by omega⟩⟩
      case round =>
        clear k0 k2 hbr hwo
        obtain ⟨i, hi8, hil, rfl, hJ⟩ := hrel
        have k0 := (hJ.out.1.cell (p := ⟨b, 0, none⟩) hbl (fun h => h)).trans c0
        by_cases hjl : i < cs.length
        · obtain ⟨c, hc⟩ : ∃ c, cs[i]? = some c := ⟨_, List.getElem?_eq_getElem hjl⟩
          have HC := Lib.hid hc; clear hc
          have HK := Lib.hid (H.out.2 r i hr1 hlt hi8 hjl hI.out.2 wr hJ.out.1)
          obtain ⟨z, hz⟩ : ∃ z, z = RE r i := ⟨_, rfl⟩
          rw [← hz] at HK
          have HZ := Lib.hid hz; clear hz
          by_cases h0 : z = 0
          · have hb : (z != 0) = false := by simp [h0]
            have H0 := Lib.hid h0; clear h0
            go_wp2_with fail
            refine HK.out.mono ?_
            rintro e w1 ⟨rfl, d⟩
            have D := Lib.hid (hJ.out.1.trans d (fun _ _ h => h)); clear d
            go_wp2
            go_roundw
            case rel =>
              refine ⟨i + 1, by omega, by omega, by go_num, Lib.hid ⟨D.out, fun i' h1 h2 => ?_⟩⟩
              by_cases e : i' = i
              · subst e; rw [← HZ.out]; exact H0.out
              · exact hJ.out.2 i' h1 (by omega)
            case measure => simp [intOf]; omega
          · have hb : (z != 0) = true := by simp [h0]
            have H0 := Lib.hid h0; clear h0
            go_wp2_with fail
            refine HK.out.mono ?_
            rintro e w1 ⟨rfl, d⟩
            have D := Lib.hid (hJ.out.1.trans d (fun _ _ h => h)); clear d
            obtain ⟨g, cap, f, fd, m, hcv, hg, ⟨-, e1, -⟩, -⟩ := (H.out.1.new D.out).cls HC.out
            cases hcv
            have l0 := ((H.out.1.new D.out)).c0
            go_wp2
            go_ret2
            exact .inl ⟨r, i, c, ⟨hr1, hlt, hi8, hjl, by rw [← HZ.out]; exact H0.out, hI.out.2, hJ.out.2⟩, HC.out, (by rw [← HZ.out]; rfl), D.out⟩
        · go_wp2
          go_roundw
          case rel =>
            refine ⟨r + 1, by omega, by omega, by go_num, Lib.hid ⟨hJ.out.1, fun r' i' h1 h2 h3 h4 => ?_⟩⟩
            by_cases e : r' = r
            · subst e; exact hJ.out.2 i' h3 (by omega)
            · exact hI.out.2 r' i' h1 (by omega) h3 h4
          case measure => simp [intOf]; omega
    · have hM := Lib.hid ((H.out.1.new hI.out.1).mark true)
      have f2 := blk_frozen (H.out.1.new hI.out.1).wc 2
      have HB := Lib.hid (H.out.1.own_b)
      go_wp2
      go_ret2
      refine .inr ⟨fun r' i' h1 h2 h3 h4 => hI.out.2 r' i' h1 (by omega) h3 h4, rfl, (hI.out.1.mono (fun _ _ h => h.elim)).trans (chg_setCell wr b 2 _) (fun n _ e => by rw [e]; exact HB.out), hM.out⟩
end

end Go.Proofs.YtgmmclcpfmnoiaaGreatDoor
