/-
  Asking a world of classes, walked: isFace, of, chain, short.
-/
import Derived.Test.YtgmmclcpfmnoiaaGreatDoorAdd
namespace Go.Proofs.YtgmmclcpfmnoiaaGreatDoor
open Go.RowKit

def lenOf : Value → Nat
  | .slice _ n _ => n
  | _ => 0

section
variable {S O : Blocks} {w : World} {b mb : Nat} {nv : Value} {es : List Ent} {lk : Bool}
theorem HW.lookE (h : HW S O w b mb nv es lk) {s : Bs} {k : Nat} (hs : Short s) (ha : atf es s = some k) : (Instr.lookup 77 (.map (some mb)) (.string ⟨s.toArray⟩) false).run Tryz.prog w = .ok (.pointer (some ⟨k, 0, none⟩)) w := by
  have := h.look s hs
  rwa [ha] at this
theorem HW.lookEN (h : HW S O w b mb nv es lk) {s : Bs} {k : Nat} (hs : Short s) (ha : atf es s = some k) (n : Nat) : (Instr.lookup 77 (.map (some mb)) (.string ⟨s.toArray⟩) false).run Tryz.prog (w.drewN n) = .ok (.pointer (some ⟨k, 0, none⟩)) (w.drewN n) := by
  have := h.lookN s hs n
  rwa [ha] at this
theorem isFace_c (h : HW S O w b mb nv es lk) (x : Ent) (hx : x ∈ es) :
    Calls Tryz.prog 46 #[.pointer (some ⟨x.at_, 0, none⟩)] w fun e w' => e = .returned (.bool (isFaceB x.cl)) ∧ w' = w := by
  obtain ⟨f, g, m, p, c, q, ⟨e0, -⟩, -⟩ := h.cells hx
  go_enter Tryz.func46, Tryz.ntmps46
  go_wp2
  go_ret
  exact ⟨rfl, rfl⟩

theorem of_c (h : HW S O w b mb nv es true) (s : Bs) (hs : Short s) :
    Calls Tryz.prog 45 #[.pointer (some ⟨b, 0, none⟩), strV s] w fun e w' => e = .returned (ptrV (atf es s)) ∧ w' = w := by
  have c1 := h.c1
  have c2 := h.c2
  have hL := h.look s hs
  go_enter Tryz.func45, Tryz.ntmps45
  go_wp2
  go_ret
  exact ⟨rfl, rfl⟩

set_option maxRecDepth 100000 in
set_option maxHeartbeats 3200000 in
theorem chain_c (h : HW S O w b mb nv es lk) (s : Bs) (l : List Bs) (hc : IsChain (cls es) s l) (hl : l.length ≤ 1000) :
    Calls Tryz.prog 43 #[.pointer (some ⟨b, 0, none⟩), strV s] w fun e w' => ∃ v, e = .returned v ∧ OQ 9 1 RStr No w' v l ∧ Chg No w w' ∧ ∀ k, v.ownBlock = some k → w.heap.size ≤ k := by
  have H := Lib.hid h
  clear h
  have HC := Lib.hid hc
  clear hc
  go_enter Tryz.func43, Tryz.ntmps43
  go_wp2
  go_loopw [5, 6] (fun out sv wr => ∃ (i : Nat) (s' : Bs), i ≤ l.length ∧ sv = strV s' ∧ lenOf out = i ∧ RowKit.Hid (IsChain (cls es) s' (l.drop i) ∧ OQ 9 1 RStr No wr out (l.take i) ∧ Chg No w wr ∧ ∀ k, out.ownBlock = some k → w.heap.size ≤ k)) (fun out _ _ => l.length - lenOf out)
  case atStart => exact ⟨0, s, Nat.zero_le _, rfl, rfl, Lib.hid ⟨HC.out, OQ.nil _ _ _ _, Chg.refl _ _, fun k hk => by cases hk⟩⟩
  case round =>
    obtain ⟨i, s', hi, rfl, hlen, hI⟩ := hrel
    by_cases h0 : s' = []
    · have hfull : i = l.length := by
        have := hI.out.1
        rw [h0] at this
        cases hd : l.drop i with
        | nil => have := congrArg List.length hd; rw [List.length_drop, List.length_nil] at this; omega
        | cons a r => rw [hd] at this; cases this; contradiction
      go_wp2
      go_ret
      obtain ⟨-, g2, g3, g4⟩ := hI.out
      rw [hfull, List.take_length] at g2
      exact ⟨_, rfl, g2, g3, g4⟩
    · obtain ⟨c, l', hf, hd, hcs⟩ : ∃ c l', fnd (cls es) s' = some c ∧ l.drop i = s' :: l' ∧ IsChain (cls es) c.super l' := by
        have := hI.out.1
        cases hd : l.drop i with
        | nil => rw [hd] at this; cases this; exact absurd rfl h0
        | cons a r => rw [hd] at this; cases this with | cons _ hf hc => exact ⟨_, r, hf, rfl, hc⟩
      have hil : i < l.length := by
        have := congrArg List.length hd
        rw [List.length_drop, List.length_cons] at this
        omega
      have htk : l.take (i + 1) = l.take i ++ [s'] := by
        rw [List.take_succ_eq_append_getElem hil]
        have := List.drop_eq_getElem_cons hil
        rw [hd] at this
        cases this; rfl
      have hdr : l.drop (i + 1) = l' := by
        have := List.drop_eq_getElem_cons hil
        rw [hd] at this
        cases this; rfl
      obtain ⟨x, hx, hxc, hxn, hat⟩ := fnd_some hf
      have HX := Lib.hid (And.intro hf (And.intro hd (And.intro hcs (And.intro htk (And.intro hdr (And.intro hx (And.intro hxc (And.intro hxn hat))))))))
      have hs' : Short s' := by rw [← hxn]; exact (H.out.short x hx).name
      obtain ⟨na, nc, hout⟩ := hI.out.2.1.form
      rw [List.length_take, Nat.min_eq_left hi] at hout
      subst hout
      clear hf hd hcs htk hdr hxc hxn hat hlen
      have hA := At.lit wr [strV s'] 9
      have HA := Lib.hid (Src.single (P := Tryz.prog) (n := 1) (S := No) (R := RStr) goodStr (x := s') rfl rfl (tx := 34) Tryz.underlying34 _ 1 hA)
      have HN := Lib.hid (hI.out.2.1.new goodStr ((Chg.refl No wr).alloc (.cells #[strV s'] 9)))
      clear hA
      have HS := Lib.hid hs'
      have he : List.isEmpty s' = false := by cases s' with
        | nil => exact absurd rfl h0
        | cons => rfl
      go_wp2_with (at_builtin; refine wpList_appQ (S := No) rfl (.tmp 21) (.tmp 23) 34 34 rfl 9 zStr 16 Tryz.underlying34 info_str rfl (by decide) goodStr (.slice na i nc) (l.take i) rfl HN.out (fun k hk _ => hk.elim) (.slice (some ⟨wr.heap.size, 0, none⟩) 1 1) [s'] [[strV s']] rfl (Els.single rfl rfl) HA.out (by rw [List.length_take]; unfold maxLen; simp; omega) (by rw [List.length_take]; simp; omega) ?_; intro v' w1 g1 g2 g3;  have HG := Lib.hid (And.intro g1 (And.intro g2 g3));  have HC1 : RowKit.Hid (Chg No w w1) := Lib.hid ((hI.out.2.2.1.alloc (.cells #[strV s'] 9)).trans g2 (fun n hn e => by have := hI.out.2.2.2 n e.symm; omega));  have hW := H.out.new HC1.out; have k1 := hW.c1; have kL := hW.lookE HS.out HX.out.2.2.2.2.2.2.2.2; obtain ⟨f0, f1, f2, f3, f4, f5, ⟨-, -, k2, -⟩, -⟩ := hW.cells hx; clear g1 g2 g3 hW)
      go_roundw
      case rel =>
        obtain ⟨g1, g2, g3⟩ := HG.out
        refine ⟨i + 1, c.super, by omega, by rw [HX.out.2.2.2.2.2.2.1], ?_, Lib.hid ⟨by rw [HX.out.2.2.2.2.1]; exact HX.out.2.2.1, by rw [HX.out.2.2.2.1]; exact g1, HC1.out, fun n hn => ?_⟩⟩
        · obtain ⟨na', nc', rfl⟩ := g1.form
          simp [lenOf, List.length_take]; omega
        · have hz := hI.out.2.2.1.size
          rcases g3 with g3 | ⟨bb, g3, g4⟩
          · rw [g3] at hn; exact hI.out.2.2.2 n hn
          · rw [g3] at hn; cases hn; simp at g4; omega
      case measure =>
        obtain ⟨na', nc', rfl⟩ := HG.out.1.form
        simp [lenOf, List.length_take]; omega

theorem short_c (h : HW S O w b mb nv es lk) (x : Ent) (hx : x ∈ es) (l : List Bs) (hc : IsChain (cls es) x.cl.name l) (hl : l.length ≤ 1000) :
    Calls Tryz.prog 39 #[.pointer (some ⟨b, 0, none⟩), .pointer (some ⟨x.at_, 0, none⟩)] w fun e w' => e = .returned (.bool (decide (l.length ≤ 32))) ∧ Chg No w w' := by
  obtain ⟨f, g, m, p, c, q, ⟨-, e1, -⟩, -⟩ := h.cells hx
  go_enter Tryz.func39, Tryz.ntmps39
  go_wp2_with fail
  refine (chain_c h x.cl.name l hc hl).mono ?_
  rintro e w1 ⟨v, rfl, ho, hch, -⟩
  obtain ⟨na, nc, rfl⟩ := ho.form
  go_wp2
  go_ret
  exact ⟨ret_b (by simp; omega), hch⟩
end

end Go.Proofs.YtgmmclcpfmnoiaaGreatDoor
