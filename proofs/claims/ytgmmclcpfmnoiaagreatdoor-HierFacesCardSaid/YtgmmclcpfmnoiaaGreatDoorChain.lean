/-
  Asking a world of classes, walked: isFace, of, chain, short.
-/
import Derived.Test.YtgmmclcpfmnoiaaGreatDoorAdd
import Derived.Test.YtgmmclcpfmnoiaaGreatDoorPlain1
import Derived.Test.YtgmmclcpfmnoiaaGreatDoorStrMap
import Derived.Test.YtgmmclcpfmnoiaaGreatDoorFinds
import Derived.BigQuiet
namespace Go.Proofs.YtgmmclcpfmnoiaaGreatDoor
open Go.RowKit

def lenOf : Value → Nat
  | .slice _ n _ => n
  | _ => 0

section
variable {S O : Blocks} {w : World} {b mb : Nat} {nv : Value} {es : List Ent} {lk : Bool}
theorem HW.lookE (h : HW S O w b mb nv es lk) {s : Bs} {k : Nat} (hs : Short s) (ha : atf es s = some k) : (Instr.lookup 77 (.map (some mb)) (.string ⟨s.toArray⟩) false).run Tryz.prog w = .ok (.pointer (some ⟨k, 0, none⟩)) w := by
  have := h.look s hs
  rwa [ha] at this
theorem HW.lookEN (h : HW S O w b mb nv es lk) {s : Bs} {k : Nat} (hs : Short s) (ha : atf es s = some k) (n : Nat) : (Instr.lookup 77 (.map (some mb)) (.string ⟨s.toArray⟩) false).run Tryz.prog (w.drewN n) = .ok (.pointer (some ⟨k, 0, none⟩)) (w.drewN n) := by
  have := h.lookN s hs n
  rwa [ha] at this
theorem isFace_c (h : HW S O w b mb nv es lk) (x : Ent) (hx : x ∈ es) :
    Calls Tryz.prog 46 #[.pointer (some ⟨x.at_, 0, none⟩)] w fun e w' => e = .returned (.bool (isFaceB x.cl)) ∧ w' = w := by
  obtain ⟨f, g, m, p, c, q, ⟨e0, -⟩, -⟩ := h.cells hx
  go_enter Tryz.func46, Tryz.ntmps46
  go_wp2
  go_ret
  exact ⟨rfl, rfl⟩

theorem of_c (h : HW S O w b mb nv es true) (s : Bs) (hs : Short s) :
    Calls Tryz.prog 45 #[.pointer (some ⟨b, 0, none⟩), strV s] w fun e w' => e = .returned (ptrV (atf es s)) ∧ w' = w := by
  have c1 := h.c1
  have c2 := h.c2
  have hL := h.look s hs
  go_enter Tryz.func45, Tryz.ntmps45
  go_wp2
  go_ret
  exact ⟨rfl, rfl⟩

set_option maxRecDepth 100000 in
set_option maxHeartbeats 3200000 in
theorem chain_c (h : HW S O w b mb nv es lk) (s : Bs) (l : List Bs) (hc : IsChain (cls es) s l) (hl : l.length ≤ 1000) :
    Calls Tryz.prog 43 #[.pointer (some ⟨b, 0, none⟩), strV s] w fun e w' => ∃ v, e = .returned v ∧ OQ 9 1 RStr No w' v l ∧ Chg No w w' ∧ ∀ k, v.ownBlock = some k → w.heap.size ≤ k := by
  have H := Lib.hid h
  clear h
  have HC := Lib.hid hc
  clear hc
  go_enter Tryz.func43, Tryz.ntmps43
  go_wp2
  go_loopw [5, 6] (fun out sv wr => ∃ (i : Nat) (s' : Bs), i ≤ l.length ∧ sv = strV s' ∧ lenOf out = i ∧ RowKit.Hid (IsChain (cls es) s' (l.drop i) ∧ OQ 9 1 RStr No wr out (l.take i) ∧ Chg No w wr ∧ ∀ k, out.ownBlock = some k → w.heap.size ≤ k)) (fun out _ _ => l.length - lenOf out)
  case atStart => exact ⟨0, s, Nat.zero_le _, rfl, rfl, Lib.hid ⟨HC.out, OQ.nil _ _ _ _, Chg.refl _ _, fun k hk => by cases hk⟩⟩
  case round =>
    obtain ⟨i, s', hi, rfl, hlen, hI⟩ := hrel
    by_cases h0 : s' = []
    · have hfull : i = l.length := by
        have := hI.out.1
        rw [h0] at this
        cases hd : l.drop i with
        | nil => have := congrArg List.length hd; rw [List.length_drop, List.length_nil] at this; omega
        | cons a r => rw [hd] at this; cases this; contradiction
      go_wp2
      go_ret
      obtain ⟨-, g2, g3, g4⟩ := hI.out
      rw [hfull, List.take_length] at g2
      exact ⟨_, rfl, g2, g3, g4⟩
    · obtain ⟨c, l', hf, hd, hcs⟩ : ∃ c l', fnd (cls es) s' = some c ∧ l.drop i = s' :: l' ∧ IsChain (cls es) c.super l' := by
        have := hI.out.1
        cases hd : l.drop i with
        | nil => rw [hd] at this; cases this; exact absurd rfl h0
        | cons a r => rw [hd] at this; cases this with | cons _ hf hc => exact ⟨_, r, hf, rfl, hc⟩
      have hil : i < l.length := by
        have := congrArg List.length hd
        rw [List.length_drop, List.length_cons] at this
        omega
      have htk : l.take (i + 1) = l.take i ++ [s'] := by
        rw [List.take_succ_eq_append_getElem hil]
        have := List.drop_eq_getElem_cons hil
        rw [hd] at this
        cases this; rfl
      have hdr : l.drop (i + 1) = l' := by
        have := List.drop_eq_getElem_cons hil
        rw [hd] at this
        cases this; rfl
      obtain ⟨x, hx, hxc, hxn, hat⟩ := fnd_some hf
      have HX := Lib.hid (And.intro hf (And.intro hd (And.intro hcs (And.intro htk (And.intro hdr (And.intro hx (And.intro hxc (And.intro hxn hat))))))))
      have hs' : Short s' := by rw [← hxn]; exact (H.out.short x hx).name
      obtain ⟨na, nc, hout⟩ := hI.out.2.1.form
      rw [List.length_take, Nat.min_eq_left hi] at hout
      subst hout
      clear hf hd hcs htk hdr hxc hxn hat hlen
      have hA := At.lit wr [strV s'] 9
      have HA := Lib.hid (Src.single (P := Tryz.prog) (n := 1) (S := No) (R := RStr) goodStr (x := s') rfl rfl (tx := 34) Tryz.underlying34 _ 1 hA)
      have HN := Lib.hid (hI.out.2.1.new goodStr ((Chg.refl No wr).alloc (.cells #[strV s'] 9)))
      clear hA
      have HS := Lib.hid hs'
      have he : List.isEmpty s' = false := by cases s' with
        | nil => exact absurd rfl h0
        | cons => rfl
      go_wp2_with (at_builtin; refine wpList_appQ (S := No) rfl (.tmp 21) (.tmp 23) 34 34 rfl 9 zStr 16 Tryz.underlying34 info_str rfl (by decide) goodStr (.slice na i nc) (l.take i) rfl HN.out (fun k hk _ => hk.elim) (.slice (some ⟨wr.heap.size, 0, none⟩) 1 1) [s'] [[strV s']] rfl (Els.single rfl rfl) HA.out (by rw [List.length_take]; unfold maxLen; simp; omega) (by rw [List.length_take]; simp; omega) ?_; intro v' w1 g1 g2 g3;  have HG := Lib.hid (And.intro g1 (And.intro g2 g3));  have HC1 : RowKit.Hid (Chg No w w1) := Lib.hid ((hI.out.2.2.1.alloc (.cells #[strV s'] 9)).trans g2 (fun n hn e => by have := hI.out.2.2.2 n e.symm; omega));  have hW := H.out.new HC1.out; have k1 := hW.c1; have kL := hW.lookE HS.out HX.out.2.2.2.2.2.2.2.2; obtain ⟨f0, f1, f2, f3, f4, f5, ⟨-, -, k2, -⟩, -⟩ := hW.cells hx; clear g1 g2 g3 hW)
      go_roundw
      case rel =>
        obtain ⟨g1, g2, g3⟩ := HG.out
        refine ⟨i + 1, c.super, by omega, by rw [HX.out.2.2.2.2.2.2.1], ?_, Lib.hid ⟨by rw [HX.out.2.2.2.2.1]; exact HX.out.2.2.1, by rw [HX.out.2.2.2.1]; exact g1, HC1.out, fun n hn => ?_⟩⟩
        · obtain ⟨na', nc', rfl⟩ := g1.form
          simp [lenOf, List.length_take]; omega
        · have hz := hI.out.2.2.1.size
          rcases g3 with g3 | ⟨bb, g3, g4⟩
          · rw [g3] at hn; exact hI.out.2.2.2 n hn
          · rw [g3] at hn; cases hn; simp at g4; omega
      case measure =>
        obtain ⟨na', nc', rfl⟩ := HG.out.1.form
        simp [lenOf, List.length_take]; omega

theorem short_c (h : HW S O w b mb nv es lk) (x : Ent) (hx : x ∈ es) (l : List Bs) (hc : IsChain (cls es) x.cl.name l) (hl : l.length ≤ 1000) :
    Calls Tryz.prog 39 #[.pointer (some ⟨b, 0, none⟩), .pointer (some ⟨x.at_, 0, none⟩)] w fun e w' => e = .returned (.bool (decide (l.length ≤ 32))) ∧ Chg No w w' := by
  obtain ⟨f, g, m, p, c, q, ⟨-, e1, -⟩, -⟩ := h.cells hx
  go_enter Tryz.func39, Tryz.ntmps39
  go_wp2_with fail
  refine (chain_c h x.cl.name l hc hl).mono ?_
  rintro e w1 ⟨v, rfl, ho, hch, -⟩
  obtain ⟨na, nc, rfl⟩ := ho.form
  go_wp2
  go_ret
  exact ⟨ret_b (by simp; omega), hch⟩
end

end Go.Proofs.YtgmmclcpfmnoiaaGreatDoor

namespace Go.Proofs.YtgmmclcpfmnoiaaGreatDoor
open Go.RowKit

theorem OQ.form1 {α : Type} {e n : Nat} {R : Reading α} {S : Blocks} {w : World} {v : Value} {xs : List α} (h : OQ e n R S w v xs) (hne : xs ≠ []) : ∃ g c, v = .slice (some ⟨g, 0, none⟩) xs.length c ∧ xs.length ≤ c := by
  obtain ⟨css, ho, _⟩ := h
  rcases ho.2 with ⟨h1, h2⟩ | ⟨g, cap, cur, h1, _, _, h4, _⟩
  · exact absurd (List.eq_nil_of_length_eq_zero h2) hne
  · exact ⟨g, cap, h1, h4⟩


theorem chg_a (w : World) (o : Obj) : Chg No w (w.alloc o).drew := ((Chg.refl _ _).alloc _).drew
theorem chg_b (w : World) (o o2 : Obj) : Chg No w ((w.alloc o).alloc o2).drew := (((Chg.refl _ _).alloc _).alloc _).drew
theorem two_cell {w w1 : World} {o : Obj} {c : Array Value} {T : Nat} (d : Chg No ((w.alloc o).alloc (.cells c T)).drew w1) {u : Value} {j : Nat} (h : c[j]? = some u) : w1.cell? ⟨w.heap.size + 1, j, none⟩ = some u := by
  rw [d.cell (p := ⟨w.heap.size + 1, j, none⟩) (by show _ < ((w.alloc o).alloc (.cells c T)).heap.size; simp) (fun h => h)]
  show ((w.alloc o).alloc (.cells c T)).cell? _ = _
  have := box_keep (Chg.refl No ((w.alloc o).alloc (.cells c T))) h
  rwa [size_alloc1] at this
theorem two_frozen {w w1 : World} {o : Obj} {c : Array Value} {T : Nat} (d : Chg No ((w.alloc o).alloc (.cells c T)).drew w1) (j : Nat) : w1.frozen? ⟨w.heap.size + 1, j, none⟩ = false := by
  rw [d.frozen (p := ⟨w.heap.size + 1, j, none⟩) (by show _ < ((w.alloc o).alloc (.cells c T)).heap.size; simp) (fun h => h)]
  show ((w.alloc o).alloc (.cells c T)).frozen? _ = _
  have := heap_alloc_new (w.alloc o) (.cells c T)
  rw [size_alloc1] at this
  exact blk_frozen this j
theorem IsChain.ne {cs : List Cl} {s : Bs} {l : List Bs} (h : IsChain cs s l) (hs : s ≠ []) : l ≠ [] := by
  rintro rfl
  cases h
  exact hs rfl
theorem HW.drew' {S O : Blocks} {w : World} {b mb : Nat} {nv : Value} {es : List Ent} {lk : Bool} (h : HW S O w b mb nv es lk) : HW S O w.drew b mb nv es lk := h.new (Chg.refl _ _).drew

theorem zero_int (w : World) : (zeroValue 3).run Tryz.prog w = .ok (.int .i64 0) w := by kernel_rfl


theorem owns_lit (w : World) (e : TypeId) (cs : List Value) (hm : cs.length ≤ maxLen) : (w.alloc (.cells cs.toArray e)).ownsRow 0 e 1 (.slice (some ⟨w.heap.size, 0, none⟩) cs.length cs.length) cs.length cs :=
  ⟨by simp, .inr ⟨w.heap.size, cs.length, cs.toArray, rfl, Nat.zero_le _, heap_alloc_new _ _, Nat.le_refl _, hm, by simp, by simp⟩⟩
theorem oq_lit (w : World) (s : Bs) : OQ 9 1 RStr No (w.alloc (.cells #[strV s] 9)) (.slice (some ⟨w.heap.size, 0, none⟩) 1 1) [s] :=
  ⟨[[strV s]], owns_lit w _ [strV s] (by unfold maxLen; simp), Els.single rfl rfl⟩
theorem str_els {S : Blocks} {w : World} {xs : List Bs} {css : List (List Value)} (h : Els 1 RStr S w xs css) : Els 1 RStr No w xs css := ⟨h.1, fun i x cs hi hc => h.2 i x cs hi hc⟩
theorem ub_of {ub n c q : Nat} {W : World} (h : (Value.slice (some ⟨ub, 0, none⟩) n c).ownBlock = (Value.slice (some ⟨q, 0, none⟩) 1 1).ownBlock ∨ ∃ b, (Value.slice (some ⟨ub, 0, none⟩) n c).ownBlock = some b ∧ W.heap.size ≤ b) (hq : q ≤ W.heap.size) : q ≤ ub := by
  rcases h with h | ⟨b, h, hb⟩
  · simp [Value.ownBlock] at h; omega
  · simp [Value.ownBlock] at h; omega
theorem size_al (w : World) (o : Obj) : w.heap.size ≤ ((w.alloc o).drew).heap.size := by
  show w.heap.size ≤ (w.alloc o).heap.size
  simp

theorem two_block {w w1 : World} {o : Obj} {c : Array Value} {T : Nat} (d : Chg No ((w.alloc o).alloc (.cells c T)).drew w1) : w1.heap[w.heap.size + 1]? = some (.cells c T (0, 0)) := by
  rw [d.block _ (by show _ < ((w.alloc o).alloc (.cells c T)).heap.size; simp) (fun h => h)]
  have := heap_alloc_new (w.alloc o) (.cells c T)
  rw [size_alloc1] at this
  exact this
theorem one_blockA {w w1 : World} {c : Array Value} {T : Nat} (d : Chg No (w.alloc (.cells c T)).drew w1) : w1.heap[w.heap.size]? = some (.cells c T (0, 0)) := by
  rw [d.block _ (by show _ < (w.alloc (.cells c T)).heap.size; simp) (fun h => h)]
  exact heap_alloc_new _ _
theorem one_blockB {w w1 : World} {c : Array Value} {T : Nat} {o : Obj} (d : Chg No ((w.alloc (.cells c T)).alloc o).drew w1) : w1.heap[w.heap.size]? = some (.cells c T (0, 0)) := by
  rw [d.block _ (by show _ < ((w.alloc (.cells c T)).alloc o).heap.size; simp; omega) (fun h => h)]
  show ((w.alloc (.cells c T)).alloc o).heap[w.heap.size]? = _
  rw [Below.heap_alloc _ _ _ (by simp)]
  exact heap_alloc_new _ _
theorem past_two {w : World} {o o2 : Obj} {k : Nat} (h : ((w.alloc o).alloc o2).drew.heap.size ≤ k) : k ≠ w.heap.size + 1 := by
  have h : ((w.alloc o).alloc o2).heap.size ≤ k := h
  simp at h
  omega

end Go.Proofs.YtgmmclcpfmnoiaaGreatDoor

namespace Go.Proofs.YtgmmclcpfmnoiaaGreatDoor
open Go.RowKit

theorem idxFunc_nil_str (w : World) (a : Option Addr) (c : Nat) (fv : Value) :
    Calls Tryz.prog 96 #[.slice a 0 c, fv] w fun en w' => en = .returned (.int .i64 (-1)) ∧ w' = w := by
  go_enter Tryz.func96, Tryz.ntmps96
  go_wp2
  refine wp_loop_rounds 1 ?_
  rw [rounds_succ]
  go_wp2
  go_ret
  exact ⟨rfl, rfl⟩
theorem hasFunc_nil_str (w : World) (a : Option Addr) (c : Nat) (fv : Value) :
    Calls Tryz.prog 61 #[.slice a 0 c, fv] w fun en w' => en = .returned (.bool false) ∧ w' = w := by
  go_enter Tryz.func61, Tryz.ntmps61
  go_wp2_with fail
  refine (idxFunc_nil_str _ _ _ _).mono ?_
  rintro e w1 ⟨rfl, rfl⟩
  go_wp2
  go_ret
  exact ⟨rfl, rfl⟩
theorem idxFunc_nil_mt (w : World) (a : Option Addr) (c : Nat) (fv : Value) :
    Calls Tryz.prog 110 #[.slice a 0 c, fv] w fun en w' => en = .returned (.int .i64 (-1)) ∧ w' = w := by
  go_enter Tryz.func110, Tryz.ntmps110
  go_wp2
  refine wp_loop_rounds 1 ?_
  rw [rounds_succ]
  go_wp2
  go_ret
  exact ⟨rfl, rfl⟩
theorem hasFunc_nil_mt (w : World) (a : Option Addr) (c : Nat) (fv : Value) :
    Calls Tryz.prog 81 #[.slice a 0 c, fv] w fun en w' => en = .returned (.bool false) ∧ w' = w := by
  go_enter Tryz.func81, Tryz.ntmps81
  go_wp2_with fail
  refine (idxFunc_nil_mt _ _ _ _).mono ?_
  rintro e w1 ⟨rfl, rfl⟩
  go_wp2
  go_ret
  exact ⟨rfl, rfl⟩

section
variable {S O : Blocks} {w : World} {b mb : Nat} {nv : Value} {es : List Ent} {lk : Bool}
set_option maxRecDepth 100000 in
set_option maxHeartbeats 3200000 in
theorem stands_plain (h : HW S O w b mb nv es lk) (x : Ent) (hx : x ∈ es) (hf : x.cl.faces = []) (k : Nat) (hk : atf es x.cl.super = some k) :
    Calls Tryz.prog 36 #[.pointer (some ⟨b, 0, none⟩), .pointer (some ⟨x.at_, 0, none⟩)] w fun e w' => e = .returned (.bool true) ∧ Chg No w w' := by
  have hbl := h.o_lt b h.own_b
  have hxl := h.o_lt _ (h.own_e x hx)
  have h1 := h.new ((Chg.refl No w).alloc (.cells #[.pointer (some ⟨b, 0, none⟩)] 42))
  have hL := fun n => h1.lookEN (h.short x hx).super hk n
  have c1 := h.c1
  obtain ⟨f, g, m, p, c, q, ⟨e0, e1, e2, e3, -⟩, q1, -⟩ := h.cells hx
  rw [hf] at q1
  obtain ⟨a1, d1, rfl, -, -⟩ := q1.form
  have hmf : ∀ (fn : Fn) (first cap : Array Value) (w : World), (Instr.makeFunc fn first cap).run Tryz.prog w = .ok (.func fn first cap) w := fun _ _ _ _ => rfl
  clear h h1 q1
  go_enter Tryz.func36, Tryz.ntmps36
  go_wp2_with fail
  go_quiet (first
    | (go_at_call 61; exact Calls.quiet_of_same (hasFunc_nil_str _ _ _ _)))
  go_wp2
  go_ret
  exact ⟨rfl, ((Chg.refl _ _).alloc _).drewN _⟩

set_option maxRecDepth 100000 in
set_option maxHeartbeats 3200000 in
theorem kinds_plain (h : HW S O w b mb nv es lk) (x : Ent) (hx : x ∈ es) (hf : x.cl.faces = []) (y : Ent) (hy : y ∈ es) (hk : atf es x.cl.super = some y.at_) (hn : isFaceB y.cl = false) :
    Calls Tryz.prog 37 #[.pointer (some ⟨b, 0, none⟩), .pointer (some ⟨x.at_, 0, none⟩)] w fun e w' => e = .returned (.bool true) ∧ Chg No w w' := by
  have hbl := h.o_lt b h.own_b
  have hxl := h.o_lt _ (h.own_e x hx)
  have h1 := h.new ((Chg.refl No w).alloc (.cells #[.pointer (some ⟨b, 0, none⟩)] 42))
  have hL := fun n => h1.lookEN (h.short x hx).super hk n
  have c1 := h.c1
  obtain ⟨f, g, m, p, c, q, ⟨e0, e1, e2, e3, -⟩, q1, -⟩ := h.cells hx
  rw [hf] at q1
  obtain ⟨a1, d1, rfl, -, -⟩ := q1.form
  have hmf : ∀ (fn : Fn) (first cap : Array Value) (w : World), (Instr.makeFunc fn first cap).run Tryz.prog w = .ok (.func fn first cap) w := fun _ _ _ _ => rfl
  have HF := Lib.hid (fun n => isFace_c (h1.new ((Chg.refl _ _).drewN n)) y hy)
  rw [hn] at HF
  clear h h1 q1 hn
  go_enter Tryz.func37, Tryz.ntmps37
  go_wp2_with fail
  go_quiet (first
    | (go_at_call 46; exact Calls.quiet_of_same (HF.out _))
    | (go_at_call 61; exact Calls.quiet_of_same (hasFunc_nil_str _ _ _ _)))
  go_wp2
  go_ret
  exact ⟨rfl, ((Chg.refl _ _).alloc _).drewN _⟩
end

end Go.Proofs.YtgmmclcpfmnoiaaGreatDoor

namespace Go.Proofs.YtgmmclcpfmnoiaaGreatDoor
open Go.RowKit

section
variable {S O : Blocks} {w : World} {b mb : Nat} {nv : Value} {es : List Ent} {lk : Bool}
theorem linked_c (h : HW S O w b mb nv es lk) : Calls Tryz.prog 13 #[.pointer (some ⟨b, 0, none⟩)] w fun e w' => e = .returned (.bool lk) ∧ w' = w := by
  have c2 := h.c2
  go_enter Tryz.func13, Tryz.ntmps13
  go_wp2
  go_ret
  exact ⟨rfl, rfl⟩
set_option maxHeartbeats 1600000 in
theorem above_c (h : HW S O w b mb nv es true) (up : Bs) (x : Ent) (hx : x ∈ es) (hc : x.chain.length ≤ 1000) :
    Calls Tryz.prog 17 #[.pointer (some ⟨b, 0, none⟩), strV up, strV x.cl.name] w fun e w' => e = .returned (.bool (x.chain.any fun s => s == up)) ∧ Chg No w w' := by
  have hat := (atf_mem h.uniq hx).1
  have HO := Lib.hid (of_c h x.cl.name (h.short x hx).name)
  rw [hat] at HO
  obtain ⟨f, g, m, p, c, q, ⟨-, -, -, -, -, -, -, e7, -⟩, -, -, -, -, q5, -⟩ := h.cells hx
  have Q := Lib.hid q5
  obtain ⟨ca, cc, rfl, -, -⟩ := q5.form
  clear q5 hat h
  go_enter Tryz.func17, Tryz.ntmps17
  go_wp2_with fail
  refine HO.out.mono ?_
  rintro e w1 ⟨rfl, rfl⟩
  have kp : ptrV (some x.at_) = .pointer (some ⟨x.at_, 0, none⟩) := rfl
  rw [kp]
  go_wp2_with fail
  refine (contains_str S _ _ x.chain Q.out (by omega) up).mono ?_
  rintro e w1 ⟨rfl, d⟩
  go_wp2
  go_ret
  exact ⟨rfl, d⟩
end

end Go.Proofs.YtgmmclcpfmnoiaaGreatDoor

namespace Go.Proofs.YtgmmclcpfmnoiaaGreatDoor
open Go.RowKit

section
variable {S O : Blocks} {w : World} {b mb : Nat} {nv : Value} {es : List Ent} {lk : Bool}
/-- A name's class is there, with that chain. -/
def ChainIs (es : List Ent) (CH : Bs → List Bs) (s : Bs) : Prop := ∃ x ∈ es, x.cl.name = s ∧ x.chain = CH s ∧ x.chain.length ≤ 1000
def isUp (CH : Bs → List Bs) (up s : Bs) : Bool := (CH s).any fun t => t == up

theorem below_c (h : HW S O w b mb nv es true) (CH : Bs → List Bs) (s up : Bs) (hs : ChainIs es CH s) (kb ku : Nat) (c0 : w.cell? ⟨kb, 0, none⟩ = some (.pointer (some ⟨b, 0, none⟩))) (c1 : w.cell? ⟨ku, 0, none⟩ = some (strV up)) :
    Calls Tryz.prog 62 #[strV s, .pointer (some ⟨kb, 0, none⟩), .pointer (some ⟨ku, 0, none⟩)] w fun e w' => e = .returned (.bool (!(isUp CH up s))) ∧ Chg No w w' := by
  obtain ⟨x, hx, rfl, hch, hl⟩ := hs
  have HA := Lib.hid (above_c h up x hx hl)
  have HE := Lib.hid hch
  clear h hch
  go_enter Tryz.func62, Tryz.ntmps62
  go_wp2_with fail
  refine HA.out.mono ?_
  rintro e w1 ⟨rfl, d⟩
  go_wp2
  go_ret
  exact ⟨ret_b (by unfold isUp; rw [HE.out]), d⟩

set_option maxRecDepth 100000 in
set_option maxHeartbeats 3200000 in
/-- The first of the chain of the first that stands above all. -/
theorem common_c (h : HW S O w b mb nv es true) (CH : Bs → List Bs) (T : Blocks) (v : Value) (s0 : Bs) (ns : List Bs) (hv : SQ 1 RStr T w v (s0 :: ns)) (hn : ns.length ≤ 1000) (hall : ∀ s ∈ s0 :: ns, ChainIs es CH s) (k : Nat) (up : Bs) (hk : (CH s0)[k]? = some up) (hup : ∀ s ∈ s0 :: ns, isUp CH up s = true) (hbe : ∀ j, j < k → ∀ u, (CH s0)[j]? = some u → ((s0 :: ns).any fun s => !(isUp CH u s)) = true) :
    Calls Tryz.prog 31 #[.pointer (some ⟨b, 0, none⟩), v] w fun e w' => e = .returned (strV up) ∧ Chg No w w' := by
  obtain ⟨va, vc, rfl, -, -⟩ := hv.form
  have hbl := h.o_lt b h.own_b
  have H := Lib.hid (And.intro h (And.intro hv (And.intro hall (And.intro hk (And.intro hup hbe)))))
  have hmf : ∀ (fn : Fn) (first cap : Array Value) (w : World), (Instr.makeFunc fn first cap).run Tryz.prog w = .ok (.func fn first cap) w := fun _ _ _ _ => rfl
  have eg : ∀ (args : Array Value) (w : World), (callFunc 62 args).run Tryz.prog w = .ok (.enter 62 args) w := enters_of Tryz.func62 (by kernel_rfl) rfl
  have EG := Lib.hid eg
  clear h hv hall hk hup hbe eg
  go_enter Tryz.func31, Tryz.ntmps31
  go_wp2_with fail
  go_loopw [11] (fun iv wr => ∃ i : Nat, i ≤ ns.length + 1 ∧ iv = .int .i64 i ∧ wr = w.alloc (.cells #[.pointer (some ⟨b, 0, none⟩)] 42)) (fun iv _ => ns.length + 1 - (intOf iv).toNat)
  case atStart => exact ⟨0, Nat.zero_le _, rfl, rfl⟩
  case round =>
    obtain ⟨i, hi, rfl, rfl⟩ := hrel
    have HW1 := H.out.1.new ((Chg.refl No w).alloc (.cells #[.pointer (some ⟨b, 0, none⟩)] 42))
    by_cases hlt : i < ns.length + 1
    · obtain ⟨b', o, ds, rfl, hcl, hR, hbl', hsb, hcell⟩ := SQ.cells (H.out.2.1) i (by simpa using hlt)
      obtain rfl := hR
      have g0 := hcell 0 _ rfl
      rw [Nat.mul_one, Nat.add_zero] at g0
      clear hcell hcl
      obtain ⟨x, hx, hxn, -, -⟩ := H.out.2.2.1 (s0 :: ns)[i] (List.getElem_mem _)
      have HO := Lib.hid (of_c HW1 x.cl.name (HW1.short x hx).name)
      rw [(atf_mem HW1.uniq hx).1, hxn] at HO
      clear HW1 hxn
      go_wp2_with fail
      refine HO.out.mono ?_
      rintro e w1 ⟨rfl, rfl⟩
      have kp : ptrV (some x.at_) = .pointer (some ⟨x.at_, 0, none⟩) := rfl
      rw [kp]
      go_wp2
      go_roundw
      case rel => exact ⟨i + 1, by omega, by go_num, by trivial⟩
      case measure => simp [intOf]; omega
    · obtain ⟨b', o, ds, rfl, hcl, hR, hbl', hsb, hcell⟩ := SQ.cells (H.out.2.1) 0 (by simp)
      obtain rfl := hR
      have g0 := hcell 0 _ rfl
      rw [Nat.mul_one, Nat.add_zero] at g0
      simp only [List.getElem_cons_zero] at g0
      clear hcell hcl
      obtain ⟨x, hx, hxn, hxc, hxl⟩ := H.out.2.2.1 s0 (List.mem_cons_self ..)
      have hat := (atf_mem HW1.uniq hx).1
      have HO : RowKit.Hid (∀ n, Calls Tryz.prog 45 #[.pointer (some ⟨b, 0, none⟩), strV s0] ((w.alloc (.cells #[.pointer (some ⟨b, 0, none⟩)] 42)).drewN n) fun e w' => e = .returned (.pointer (some ⟨x.at_, 0, none⟩)) ∧ w' = (w.alloc (.cells #[.pointer (some ⟨b, 0, none⟩)] 42)).drewN n) := Lib.hid (fun n => by
        have := of_c (HW1.new ((Chg.refl _ _).drewN n)) x.cl.name (HW1.short x hx).name
        rw [hat, hxn] at this
        exact this)
      obtain ⟨f1, g1, m1, p1, c1, q1, ⟨-, -, -, -, -, -, -, e7, -⟩, -, -, -, -, q5, -⟩ := HW1.cells hx
      rw [hxc] at q5
      obtain ⟨ca, cc, rfl, -, -⟩ := q5.form
      have HX := Lib.hid (And.intro q5 (And.intro hxl hxc))
      clear HW1 hxn hxc hxl hat q5
      have hxz := HX.out.2.1
      have hxa : x.at_ < w.heap.size := H.out.1.o_lt _ (H.out.1.own_e x hx)
      have hkl : k < (CH s0).length := (List.getElem?_eq_some_iff.1 H.out.2.2.2.1).1
      have hcl : (CH s0).length ≤ 1000 := by rw [← HX.out.2.2]; exact hxz
      go_wp2_with fail
      go_quiet (first
        | (go_at_call 45; exact Calls.quiet_of_same (HO.out _)))
      go_wp2_with fail
      go_loopw [32] (fun jv wr => ∃ j : Nat, j ≤ k ∧ jv = .int .i64 j ∧ RowKit.Hid (Chg No (w.alloc (.cells #[.pointer (some ⟨b, 0, none⟩)] 42)) wr)) (fun jv _ => k + 1 - (intOf jv).toNat)
      case atStart => exact ⟨0, Nat.zero_le _, rfl, Lib.hid ((Chg.refl _ _).drewN _)⟩
      case round =>
        obtain ⟨j, hj, rfl, hJ⟩ := hrel
        have hjl : j < (CH s0).length := by omega
        obtain ⟨b2, o2, ds, rfl, hcl2, hR, hbl2, hsb2, hcell⟩ := SQ.cells (HX.out.1.new goodStr hJ.out) j hjl
        obtain rfl := hR
        have g1 := hcell 0 _ rfl
        rw [Nat.mul_one, Nat.add_zero] at g1
        clear hcell hcl2
        obtain ⟨u, hu⟩ : ∃ u, u = (CH s0)[j] := ⟨_, rfl⟩
        rw [← hu] at g1
        have hju : (CH s0)[j]? = some u := by rw [hu]; exact List.getElem?_eq_getElem hjl
        have CW := Lib.hid (((Chg.refl No w).alloc (.cells #[.pointer (some ⟨b, 0, none⟩)] 42)).trans hJ.out (fun _ _ h => h))
        have B0 := Lib.hid ((hJ.out.block w.heap.size (by simp) (fun h => h)).trans (heap_alloc_new w (.cells #[.pointer (some ⟨b, 0, none⟩)] 42)))
        have HU := Lib.hid hju
        clear hu hju
        have hwl := heap_lt B0.out
        go_wp2_with fail
        refine (containsFunc_str T _ _ (s0 :: ns) (H.out.2.1.new goodStr (CW.out.alloc (.cells #[strV u] 9))) (by simp; omega) 62 _ EG.out (fun s => !(isUp CH u s)) (fun W s cs hs hW hR => ?_)).mono ?_
        · obtain rfl := hR
          exact below_c (H.out.1.new ((CW.out.alloc (.cells #[strV u] 9)).trans hW (fun _ _ h => h))) CH s u (H.out.2.2.1 s hs) w.heap.size wr.heap.size
            ((hW.cell (p := ⟨w.heap.size, 0, none⟩) (by simp; omega) (fun h => h)).trans (by rw [World.cell?_alloc_past _ _ _ hwl]; exact blk_cell B0.out rfl)) (box_keep hW rfl)
        · rintro e w2 ⟨he, d⟩
          have u0 : w2.cell? ⟨wr.heap.size, 0, none⟩ = some (strV u) := box_keep d rfl
          have D := Lib.hid (((Chg.refl No wr).alloc (.cells #[strV u] 9)).trans d (fun _ _ h => h)); clear d
          by_cases hjk : j = k
          · have hue : u = up := by
              have h1 := HU.out
              rw [hjk, H.out.2.2.2.1] at h1
              cases h1; rfl
            rw [show ((s0 :: ns).any fun s => !(isUp CH u s)) = false from by
              rw [List.any_eq_false]
              intro s hs
              rw [hue, H.out.2.2.2.2.1 s hs]; simp] at he
            subst he
            have HUE := Lib.hid hue; clear hue
            go_wp2
            go_ret
            first
              | exact ⟨rfl, CW.out.trans D.out (fun _ _ h => h)⟩
              | exact ⟨by rw [HUE.out]; rfl, CW.out.trans D.out (fun _ _ h => h)⟩
          · rw [H.out.2.2.2.2.2 j (by omega) u HU.out] at he
            subst he
            go_wp2
            go_roundw
            case rel =>
              (repeat apply Exists.intro)
              exact ⟨⟨j + 1, by omega, by go_num, Lib.hid (hJ.out.trans D.out (fun _ _ h => h))⟩, rfl⟩
            case measure => simp [intOf]; omega
end

end Go.Proofs.YtgmmclcpfmnoiaaGreatDoor
