/-
  The walk of CursorOwn: what readers and writers tell is the caller's own, and what was handed in is not kept.
-/
import Derived.Test.YtidjeehjojajmaaLGrows
namespace Go.Proofs.Ytidjeehjojajmaa
open Go.RowKit

/-- What must stay while the call's own rows x and y are written: a row, a reader, a writer. -/
structure Rest (w : World) (mine : Value) (r : Nat) (sl : Value) (b : Nat) (sw : Value) (bs : List UInt8) : Prop where
  m : OB w mine bs
  rd : Rd 69 w r sl ⟨bs, 0, 0⟩
  wr : Wr w b sw ⟨bs, 0⟩
/-- A block that is none of theirs. -/
def Off (base : Nat) (mine : Value) (r : Nat) (sl : Value) (b : Nat) (sw : Value) (k : Nat) : Prop :=
  mine.ownBlock ≠ some k ∧ k ≠ r ∧ sl.ownBlock ≠ some k ∧ k ≠ b ∧ sw.ownBlock ≠ some k ∧ base ≤ k
theorem Rest.chg {w w' : World} {mine : Value} {r : Nat} {sl : Value} {b : Nat} {sw : Value} {bs : List UInt8} {base : Nat} {S : Nat → Prop} (h : Rest w mine r sl b sw bs) (c : Chg S w w') (hS : ∀ k, S k → Off base mine r sl b sw k) : Rest w' mine r sl b sw bs :=
  ⟨h.m.chg c (fun k hk e => (hS k e).1 hk), h.rd.chg c (fun e => (hS r e).2.1 rfl) (fun k hk e => (hS k e).2.2.1 hk), h.wr.chg c (fun e => (hS b e).2.2.2.1 rfl) (fun k hk e => (hS k e).2.2.2.2.1 hk)⟩
theorem Rest.off {w : World} {mine : Value} {r : Nat} {sl : Value} {b : Nat} {sw : Value} {bs : List UInt8} {base : Nat} (h : Rest w mine r sl b sw bs) {k : Nat} (hk : w.heap.size ≤ k) (hb : base ≤ k) : Off base mine r sl b sw k := by
  have h1 := h.m.bs.lt
  have h2 := h.rd.lt
  have h3 := h.rd.bytes.lt
  have h4 := h.wr.lt
  have h5 := h.wr.slt
  exact ⟨fun e => by have := h1 k e; omega, by omega, fun e => by have := h3 k e; omega, by omega, fun e => by have := h5 k e; omega, hb⟩
/-- One byte stored into a row of one's own. -/
theorem OB.set {w : World} {g n cap : Nat} {xs : List UInt8} (h : OB w (.slice (some ⟨g, 0, none⟩) n cap) xs) (k : Nat) (c : UInt8) : OB (w.setCell ⟨g, k, none⟩ (bv c)) (.slice (some ⟨g, 0, none⟩) n cap) (xs.set k c) := by
  have hn : n = xs.length := by rcases h.form with ⟨e, _⟩ | ⟨_, _, _, e, _⟩ <;> cases e; rfl
  subst hn
  have := (World.ownsRow.stored h k (bv c)).1
  unfold OB
  rw [List.length_set, List.map_set]
  exact this
theorem OB.at_ {w : World} {a : Option Addr} {n cap : Nat} {xs : List UInt8} (h : OB w (.slice a n cap) xs) (hn : 0 < xs.length) : ∃ g, a = some ⟨g, 0, none⟩ := by
  rcases h.form with ⟨_, e⟩ | ⟨g, _, _, e, _⟩
  · rw [e] at hn; simp at hn
  · cases e; exact ⟨g, rfl⟩
theorem OB.cells {w : World} {g n cap : Nat} {xs : List UInt8} (h : OB w (.slice (some ⟨g, 0, none⟩) n cap) xs) (k : Nat) (hk : k < n) : (∃ u, w.cell? ⟨g, k, none⟩ = some u) ∧ w.frozen? ⟨g, k, none⟩ = false := by
  have hn : n = xs.length := by rcases h.form with ⟨e, _⟩ | ⟨_, _, _, e, _⟩ <;> cases e; rfl
  subst hn
  refine ⟨⟨bv xs[k], ?_⟩, World.ownsRow.frozenAt h k⟩
  have h2 := World.ownsRow.cellAt h k (by omega)
  rw [h2, List.getElem?_map, List.getElem?_eq_getElem hk]; rfl


/-- Two rows of one's own, apart from the rest and from each other. -/
structure Rows2 (base : Nat) (w : World) (x y : Value) (xs ys : List UInt8) (mine : Value) (r : Nat) (sl : Value) (b : Nat) (sw : Value) (bs : List UInt8) : Prop where
  hx : OB w x xs
  hy : OB w y ys
  rest : Rest w mine r sl b sw bs
  ox : ∀ k, x.ownBlock = some k → Off base mine r sl b sw k
  oy : ∀ k, y.ownBlock = some k → Off base mine r sl b sw k
  xy : ∀ k, x.ownBlock = some k → y.ownBlock ≠ some k
theorem Rows2.swap {base : Nat} {w : World} {x y : Value} {xs ys : List UInt8} {mine : Value} {r : Nat} {sl : Value} {b : Nat} {sw : Value} {bs : List UInt8} (h : Rows2 base w x y xs ys mine r sl b sw bs) : Rows2 base w y x ys xs mine r sl b sw bs :=
  ⟨h.hy, h.hx, h.rest, h.oy, h.ox, fun k hk e => h.xy k e hk⟩
theorem Rows2.new {base : Nat} {w w' : World} {x y : Value} {xs ys : List UInt8} {mine : Value} {r : Nat} {sl : Value} {b : Nat} {sw : Value} {bs : List UInt8} (h : Rows2 base w x y xs ys mine r sl b sw bs) (c : Chg No w w') : Rows2 base w' x y xs ys mine r sl b sw bs :=
  ⟨h.hx.new c, h.hy.new c, h.rest.chg (base := base) c (fun k e => e.elim), h.ox, h.oy, h.xy⟩
/-- x has been written, where it lay or anew. -/
theorem Rows2.step {base : Nat} {w w' : World} {x x' y : Value} {xs xs' ys : List UInt8} {mine : Value} {r : Nat} {sl : Value} {b : Nat} {sw : Value} {bs : List UInt8} (h : Rows2 base w x y xs ys mine r sl b sw bs)
    (hx : OB w' x' xs') (c : Chg (fun k => some k = x.ownBlock) w w') (hat : x'.ownBlock = x.ownBlock ∨ ∃ k, x'.ownBlock = some k ∧ w.heap.size ≤ k) (hb : base ≤ w.heap.size) : Rows2 base w' x' y xs' ys mine r sl b sw bs := by
  refine ⟨hx, h.hy.chg c (fun k hk e => h.xy k e.symm hk), h.rest.chg (base := base) c (fun k e => h.ox k e.symm), ?_, h.oy, ?_⟩
  · intro k hk
    rcases hat with e | ⟨j, e, hj⟩
    · exact h.ox k (e ▸ hk)
    · rw [e] at hk; cases hk; exact h.rest.off hj (Nat.le_trans hb hj)
  · intro k hk e'
    rcases hat with e | ⟨j, e, hj⟩
    · exact h.xy k (e ▸ hk) e'
    · rw [e] at hk; cases hk; have := h.hy.bs.lt _ e'; omega
/-- Nothing old has turned. -/
theorem Rows2.old {W w w' : World} {x y : Value} {xs ys : List UInt8} {mine : Value} {r : Nat} {sl : Value} {b : Nat} {sw : Value} {bs : List UInt8} (h : Rows2 W.heap.size w x y xs ys mine r sl b sw bs) (hc : Chg No W w) (c : Chg (fun k => some k = x.ownBlock) w w') : Chg No W w' :=
  hc.trans c (fun k hk e => by have := (h.ox k e.symm).2.2.2.2.2; omega)
theorem chg_at {w : World} {g n cap j : Nat} {v : Value} : Chg (fun k => some k = (Value.slice (some ⟨g, 0, none⟩) n cap).ownBlock) w (w.setCell ⟨g, j, none⟩ v) :=
  (chg_setCell w g j v).mono (fun k _ e => by simp [Value.ownBlock, e])

set_option maxRecDepth 100000 in
set_option maxHeartbeats 6400000 in
theorem own_walk (W : World) (v0 v1 : Value) (bs more : List UInt8) (h0 : BS W v0 bs) (h1 : BS W v1 more) (hl : bs.length ≤ 1048576) (hm : more.length ≤ 1048576) :
    Calls Try.prog 5 #[v0, v1] W fun e w' => e = .returned (.bool true) ∧ Chg No W w' := by
  obtain ⟨a0, cap0, hv0, -⟩ := id h0
  have H := Lib.hid (And.intro h0 h1)
  clear h0 h1
  subst hv0
  go_enter Try.func5, Try.ntmps5
  go_wp2_with fail
  refine (known_c W).mono ?_
  rintro e wk ⟨rfl, hck⟩
  have hown := World.ownsRow_made (base := 0) (e := 5) (size := 1) wk #[] 0 (Nat.zero_le _) (by unfold maxLen; omega) rfl
  have hk1 := hck.alloc (.cells #[] 5)
  have hks := hck.size
  have HK := Lib.hid (And.intro hk1 hks); clear hk1
  go_wp2_with (at_builtin; refine wpList_append_K rfl (.tmp 19) (.tmp 20) 22 22 rfl 5 (.int .u8 0) 1 1 Try.underlying22 Try.info5 rfl (by omega) (.slice (some ⟨wk.heap.size, 0, none⟩) 0 0) 0 [] rfl hown (.slice a0 bs.length cap0) bs.length (bs.map bv) rfl (BS.src (H.out.1.new HK.out.1) Try.underlying22) (by unfold maxLen; omega) (by omega) ?_; intro mine w1 g1 g2 g3)
  have hmine : OB w1 mine bs := OB.append (bs := []) g1 (by simp)
  have hc1 : Chg No W w1 := HK.out.1.trans (Chg.grown g2) (fun k hk e => by simp [Value.ownBlock] at e; have := HK.out.2; omega)
  have hml : ∀ k, mine.ownBlock = some k → W.heap.size ≤ k := fun k hk => by
    rcases g3 with e | ⟨j, e, hj⟩
    · rw [e] at hk; simp [Value.ownBlock] at hk; omega
    · rw [e] at hk; cases hk; simp at hj; omega
  clear hown HK g1 g2 g3 hck hks
  refine (newReader w1 mine bs hmine.bs (by omega)).mono ?_
  rintro e w2 ⟨r, slr, rfl, hr, hrl, hslr, hc2⟩
  go_wp2_with fail
  refine (newReader w2 mine bs (hmine.new hc2).bs (by omega)).mono ?_
  rintro e w3 ⟨s, sls, rfl, hs, hsl, hsls, hc3⟩
  go_wp2_with fail
  refine (newWriter w3).mono ?_
  rintro e w4 ⟨b, rfl, hb, hbl, hc4⟩
  have z1 := hc1.size
  have z2 := hc2.size
  have z3 := hc3.size
  have hrlt := hr.lt
  have hrslt := hr.bytes.lt
  have hcW4 := ((hc1.then hc2).then hc3).then hc4
  have hr4 := (hr.new hc3).new hc4
  have hs4 := hs.new hc4
  have hm4 := ((hmine.new hc2).new hc3).new hc4
  have hml1 := hmine.bs.lt
  go_wp2_with fail
  refine (rBytes _ r w4 slr _ hr4 bs.length).mono ?_
  rintro e w5 ⟨x, rfl, hx, hxn, hr5, hc5⟩
  rw [ntake_ok bs 0 bs.length (by omega)] at hx
  replace hx : OB w5 x bs := by simpa using hx
  have hcW5 := hcW4.trans hc5 (fun k hk e => by omega)
  have hs5 : Rd 69 w5 s sls ⟨bs, 0, 0⟩ := hs4.chg hc5 (fun e => by omega) (fun k hk e => by have := (hsls k hk).1; omega)
  have hb5 : Wr w5 b (.slice none 0 0) ⟨[], 0⟩ := hb.chg hc5 (fun e => by omega) (fun k hk => by cases hk)
  have hm5 : OB w5 mine bs := hm4.chg hc5 (fun k hk e => by have := hml1 k hk; omega)
  have z4 := hc4.size
  have z5 := hc5.size
  have hslt := hs.lt
  have hsbt := hs.bytes.lt
  have hblt := hb.lt
  clear hr hslr hc1 hc2 hc3 hc4 hr4 hs4 hm4 hr5 hc5 hmine hb hs hcW4 hrslt
  go_wp2_with fail
  refine (wBytes b w5 _ _ hb5 mine bs (.inl hm5.bs) (by unfold WMax; simp; omega)).mono ?_
  rintro e w6 ⟨sw, rfl, hw6, hst6⟩
  rw [WS.put_yes (s := ⟨[], 0⟩) rfl] at hw6
  replace hw6 : Wr w6 b sw ⟨bs, 0⟩ := hw6
  have hlo : ∀ k, Fp b (.slice none 0 0) k → W.heap.size ≤ k := fp_nil (by omega)
  have hcW6 := chg_step hcW5 hst6 hlo
  have hfp : ∀ k, Fp b (.slice none 0 0) k → k = b := fun k hk => by
    rcases hk with hk | hk
    · exact hk
    · cases hk
  have hs6 : Rd 69 w6 s sls ⟨bs, 0, 0⟩ := hs5.chg hst6.chg (fun e => by have := hfp _ e; omega) (fun k hk e => by have := hfp _ e; have := hsbt k hk; omega)
  have hm6 : OB w6 mine bs := hm5.chg hst6.chg (fun k hk e => by have := hfp _ e; have := hml1 k hk; omega)
  have hx6 : OB w6 x bs := hx.chg hst6.chg (fun k hk e => by have := hfp _ e; have := hxn k hk; omega)
  have hswl : ∀ k, sw.ownBlock = some k → w5.heap.size ≤ k := fun k hk => by
    rcases hst6.at_ with e | ⟨j, e, hj⟩
    · rw [e] at hk; cases hk
    · rw [e] at hk; cases hk; exact hj
  have hxlt := hx.bs.lt
  go_wp2_with fail
  refine (wDone b w6 _ _ hw6 (by simp only; omega)).mono ?_
  rintro e w7 ⟨y, rfl, hy, hyn, hc7⟩
  replace hy : OB w7 y bs := hy
  have z6 := hst6.chg.size
  have hR0 : Rest w6 mine s sls b sw bs := ⟨hm6, hs6, hw6⟩
  have hT : Rows2 W.heap.size w7 x y bs bs mine s sls b sw bs := by
    refine ⟨hx6.new hc7, hy, hR0.chg (base := 0) hc7 (fun k e => e.elim), ?_, ?_, ?_⟩
    · intro k hk
      have k1 := hxn k hk
      have k2 := hxlt k hk
      exact ⟨fun e => by have := hml1 k e; omega, by omega, fun e => by have := hsbt k e; omega, by omega, fun e => by have := hswl k e; omega, by omega⟩
    · intro k hk
      exact hR0.off (hyn k hk) (by have := hyn k hk; omega)
    · intro k hk e
      have k2 := hxlt k hk
      have := hyn k e; omega
  have hcW7 := hcW6.then hc7
  have hlo6 : ∀ k, Fp b sw k → W.heap.size ≤ k := fun k hk => by
    rcases hk with hk | hk
    · omega
    · have := hswl k hk; omega
  have h1s : mine.ownBlock ≠ some s := fun e => by have := hml1 _ e; omega
  have h2s : s ≠ b := by omega
  have h3s : sw.ownBlock ≠ some s := fun e => by have := hswl _ e; omega
  have h4s : W.heap.size ≤ s := by omega
  have HG := Lib.hid (And.intro hlo6 (And.intro h1s (And.intro h2s (And.intro h3s h4s))))
  clear hlo6 h1s h2s h3s h4s
  have HT := Lib.hid (And.intro hT hcW7)
  obtain ⟨am, capm, hmv, -⟩ := hm6.bs
  obtain ⟨ax, capx, hxv, -⟩ := hx.bs
  obtain ⟨ay, capy, hyv, -⟩ := hy.bs
  subst hmv
  subst hxv
  subst hyv
  clear hT hcW7 hcW6 hc7 hR0 hm6 hs6 hw6 hx6 hy hx hyn hxn hxlt hswl hst6 hfp hlo hs5 hb5 hm5 hcW5 hml hml1 hrl hsl hsls hbl z1 z2 z3 z4 z5 z6 hrlt hslt hsbt hblt
  go_wp2
  go_loopw [12] (fun i wr => ∃ (k : Nat) (xs ys : List UInt8), k ≤ bs.length ∧ i = .int .i64 k ∧ xs.length = bs.length ∧ ys.length = bs.length ∧ Rows2 W.heap.size wr (.slice ax bs.length capx) (.slice ay bs.length capy) xs ys (.slice am bs.length capm) s sls b sw bs ∧ Chg No W wr) (fun i _ => bs.length - (intOf i).toNat)
  case atStart => exact ⟨0, bs, bs, Nat.zero_le _, rfl, rfl, rfl, HT.out.1, HT.out.2⟩
  case round =>
    clear HT
    obtain ⟨k, xs, ys, hk, rfl, hxl, hyl, hT, hc⟩ := hrel
    by_cases hlt : k < bs.length
    · obtain ⟨gx, rfl⟩ := hT.hx.at_ (by omega)
      obtain ⟨gy, rfl⟩ := hT.hy.at_ (by omega)
      have hb1 : (1 : UInt8).toNat = 1 := rfl
      obtain ⟨⟨u1, hcx⟩, hfx⟩ := hT.hx.cells k (by omega)
      have hT2 := hT.step (hT.hx.set k 1) chg_at (.inl rfl) hc.size
      have hc2 := hT.old hc (chg_at (v := bv 1) (j := k))
      have hT2s := hT2.swap
      obtain ⟨⟨u2, hcy⟩, hfy⟩ := hT2s.hx.cells k (by omega)
      have hT3 := hT2s.step (hT2s.hx.set k 2) chg_at (.inl rfl) hc2.size
      have hc3 := hT2s.old hc2 (chg_at (v := bv 2) (j := k))
      have HB := Lib.hid (And.intro hT3.swap hc3)
      change World.cell? (wr.setCell ⟨gx, k, none⟩ (.int .u8 1)) _ = _ at hcy
      change World.frozen? (wr.setCell ⟨gx, k, none⟩ (.int .u8 1)) _ = _ at hfy
      clear hT hT2 hT2s hT3 hc hc2 hc3 hb1
      go_wp2
      go_roundw
      case rel => exact ⟨k + 1, xs.set k 1, ys.set k 2, by omega, by go_num, by rw [List.length_set]; exact hxl, by rw [List.length_set]; exact hyl, HB.out.1, HB.out.2⟩
      case measure => simp [intOf]; omega
    · have HT := Lib.hid (And.intro hT hc); clear hT hc
      go_wp2
      clear hlt hk
      go_loopw [13, 9, 10] (fun i x y wr => ∃ (k : Nat) (xs ys : List UInt8), k ≤ 30 ∧ i = .int .i64 k ∧ xs.length = bs.length + k ∧ ys.length = bs.length + k ∧ Rows2 W.heap.size wr x y xs ys (.slice am bs.length capm) s sls b sw bs ∧ Chg No W wr) (fun i _ _ _ => 30 - (intOf i).toNat)
      case atStart => exact ⟨0, xs, ys, Nat.zero_le _, rfl, hxl, hyl, HT.out.1, HT.out.2⟩
      case round =>
        clear HT hxl hyl
        obtain ⟨k, xs, ys, hk, rfl, hxl, hyl, hT, hc⟩ := hrel
        by_cases hlt : k < 30
        · have hT1 := hT.new ((Chg.refl _ _).alloc (.cells #[.int .u8 3] 5))
          have hc1 := hc.alloc (.cells #[.int .u8 3] 5)
          have HB := Lib.hid (And.intro hT1 hc1)
          clear hT hc hT1 hc1
          go_wp2_with (first
            | (at_builtin; refine wpList_append_K rfl (.tmp 77) (.tmp 78) 22 22 rfl 5 (.int .u8 0) 1 1 Try.underlying22 Try.info5 rfl (by omega) u9 xs.length (xs.map bv) rfl HB.out.1.hx _ 1 ([nb 3].map bv) rfl (BS.src (bs_lit1 _ 3 (by omega) (by omega)) Try.underlying22) (by unfold maxLen; omega) (by omega) ?_; intro x' wx g1 g2 g3; have HE := Lib.hid (And.intro (HB.out.1.step (OB.append g1 rfl) (Chg.grown g2) g3 HB.out.2.size) (HB.out.1.old HB.out.2 (Chg.grown g2))); clear g1 g2 g3)
            | (at_builtin; have HF := Lib.hid (And.intro (HE.out.1.new ((Chg.refl _ _).alloc (.cells #[.int .u8 4] 5))).swap (HE.out.2.alloc (.cells #[.int .u8 4] 5))); refine wpList_append_K rfl (.tmp 80) (.tmp 81) 22 22 rfl 5 (.int .u8 0) 1 1 Try.underlying22 Try.info5 rfl (by omega) u10 ys.length (ys.map bv) rfl HF.out.1.hx _ 1 ([nb 4].map bv) rfl (BS.src (bs_lit1 _ 4 (by omega) (by omega)) Try.underlying22) (by unfold maxLen; omega) (by omega) ?_; intro y' wy g1 g2 g3; have HG2 := Lib.hid (And.intro (HF.out.1.step (OB.append g1 rfl) (Chg.grown g2) g3 HF.out.2.size) (HF.out.1.old HF.out.2 (Chg.grown g2))); clear g1 g2 g3 HF))
          have hT4 := HG2.out.1
          have hc4 := HG2.out.2
          clear HE HB HG2
          go_wp2
          go_roundw
          case rel => exact ⟨k + 1, _, _, by omega, by go_num, by simp only [List.length_append, List.length_cons, List.length_nil]; omega, by simp only [List.length_append, List.length_cons, List.length_nil]; omega, hT4.swap, hc4⟩
          case measure => simp [intOf]; omega
        · have hrd := hT.rest.rd
          have hm := hT.rest.m
          have hwr := hT.rest.wr
          clear hT
          go_wp2_with fail
          clear hlt hk hxl hyl
          refine (rBytes _ s _ sls _ hrd bs.length).mono ?_
          rintro e wa ⟨v, rfl, hv, hvn, hra, hca⟩
          rw [ntake_ok bs 0 bs.length (by omega)] at hv
          replace hv : OB wa v bs := by simpa using hv
          have hcWa := hc.trans hca (fun k hk e => by have := HG.out.2.2.2.2; omega)
          have hma : OB wa (.slice am bs.length capm) bs := hm.chg hca (fun k hk e => HG.out.2.1 (by rw [hk, e]))
          have hwa : Wr wa b sw ⟨bs, 0⟩ := hwr.chg hca (fun e => HG.out.2.2.1 e.symm) (fun k hk e => HG.out.2.2.2.1 (by rw [hk, e]))
          have hs1 := BS.str (P := Try.prog) hv.bs 22 9 5 Try.underlying22 Try.underlying5 Try.underlying9
          have hs2 := BS.str (P := Try.prog) hma.bs 22 9 5 Try.underlying22 Try.underlying5 Try.underlying9
          have hs3 := BS.str (P := Try.prog) (H.out.1.new hcWa) 22 9 5 Try.underlying22 Try.underlying5 Try.underlying9
          have HA := Lib.hid (And.intro hwa hcWa)
          clear hrd hm hwr hc hv hvn hra hca hcWa hma hwa
          go_wp2_with fail
          clear hs1 hs2 hs3
          refine (wBytes b _ _ _ HA.out.1 v1 more (.inl (H.out.2.new HA.out.2)) (by unfold WMax; simp only; omega)).mono ?_
          rintro e wb ⟨sw2, rfl, hwb, hstb⟩
          have hcWb := chg_step HA.out.2 hstb HG.out.1
          rw [WS.put_yes (s := ⟨bs, 0⟩) rfl] at hwb
          replace hwb : Wr wb b sw2 ⟨bs ++ more, 0⟩ := hwb
          go_wp2_with fail
          refine (wDone b wb _ _ hwb (by simp only [List.length_append]; omega)).mono ?_
          rintro e wd ⟨z, rfl, hz, hzn, hcd⟩
          replace hz : OB wd z (bs ++ more) := hz
          have hcWd := hcWb.then hcd
          have hs1 := BS.str (P := Try.prog) hz.bs 22 9 5 Try.underlying22 Try.underlying5 Try.underlying9
          have hs2 := BS.str (P := Try.prog) (H.out.1.new hcWd) 22 9 5 Try.underlying22 Try.underlying5 Try.underlying9
          have hs3 := BS.str (P := Try.prog) (H.out.2.new hcWd) 22 9 5 Try.underlying22 Try.underlying5 Try.underlying9
          have hcat := bytes_cat bs more
          have HD := Lib.hid hcWd
          clear hwb hstb hcWb hz hzn hcd hcWd HA
          go_wp2
          go_ret
          exact ⟨ret_true (by simp), HD.out⟩

end Go.Proofs.Ytidjeehjojajmaa
