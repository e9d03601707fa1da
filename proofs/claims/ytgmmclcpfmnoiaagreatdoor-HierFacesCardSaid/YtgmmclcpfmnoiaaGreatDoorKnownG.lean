/-
  Worlds whose classes have no interfaces, and whose methods all have code; the chapter's first example (keystonelaw6.known) is true, over the general Link.
-/
import Derived.Test.YtgmmclcpfmnoiaaGreatDoorLinkR
import Derived.Test.YtgmmclcpfmnoiaaGreatDoorChain
import Derived.Test.YtgmmclcpfmnoiaaGreatDoorNamG
import Derived.Test.YtgmmclcpfmnoiaaGreatDoorNearS
import Derived.Test.YtgmmclcpfmnoiaaGreatDoorTwinG
import Derived.Test.YtgmmclcpfmnoiaaGreatDoorAdd
namespace Go.Proofs.YtgmmclcpfmnoiaaGreatDoor
open Go.RowKit

def okMtB (x : Mt) : Bool := decide (x.name.length ≤ 1000) && decide (x.sig.params.length ≤ 1000) && x.sig.params.all (fun t => decide (t.name.length ≤ 1000)) && decide (x.sig.result.name.length ≤ 1000) && decide (x.code.length ≤ 1000) && decide (x.handlers.length ≤ 1000) && x.handlers.all (fun h => decide (h.class_.length ≤ 1000))
def okClB (c : Cl) : Bool := decide (c.name.length ≤ 1000) && decide (c.super.length ≤ 1000) && c.faces.all (fun s => decide (s.length ≤ 1000)) && c.fields.all (fun f => decide (f.name.length ≤ 1000) && decide (f.type.name.length ≤ 1000)) && c.methods.all okMtB && decide (c.methods.length ≤ 1000) && decide (c.fields.length ≤ 1000) && decide (c.faces.length ≤ 1000) && !c.name.isEmpty
theorem okMtB_ok {x : Mt} (h : okMtB x = true) : OkMt x ∧ SzMt x ∧ x.sig.params.length ≤ 1000 ∧ x.handlers.length ≤ 1000 := by
  unfold okMtB at h
  simp only [Bool.and_eq_true, decide_eq_true_eq, List.all_eq_true] at h
  obtain ⟨⟨⟨⟨⟨⟨h1, h2⟩, h3⟩, h4⟩, h5⟩, h6⟩, h7⟩ := h
  have k : (1000 : Nat) ≤ maxLen := by unfold maxLen; omega
  exact ⟨⟨by omega, by omega, fun t ht => Nat.le_trans (h3 t ht) k, by omega, by omega, by omega, fun t ht => Nat.le_trans (h7 t ht) k⟩, ⟨by omega, by omega, by omega⟩, h2, h6⟩
theorem okClB_ok {c : Cl} (h : okClB c = true) : OkCl c ∧ SzCl c ∧ SzNm c ∧ c.faces.length ≤ 1000 ∧ c.name ≠ [] := by
  unfold okClB at h
  simp only [Bool.and_eq_true, decide_eq_true_eq, List.all_eq_true, Bool.not_eq_true', List.isEmpty_eq_false_iff] at h
  obtain ⟨⟨⟨⟨⟨⟨⟨⟨h1, h2⟩, h3⟩, h4⟩, h5⟩, h6⟩, h7⟩, h8⟩, h9⟩ := h
  have k : (1000 : Nat) ≤ maxLen := by unfold maxLen; omega
  exact ⟨⟨by omega, by omega, fun t ht => Nat.le_trans (h3 t ht) k, fun f hf => ⟨Nat.le_trans (h4 f hf).1 k, Nat.le_trans (h4 f hf).2 k⟩, fun m hm => (okMtB_ok (h5 m hm)).1⟩,
    ⟨by omega, by omega, by omega, fun m hm => (okMtB_ok (h5 m hm)).2.1⟩, ⟨h7, h6, fun m hm => (okMtB_ok (h5 m hm)).2.2.1, fun m hm => (okMtB_ok (h5 m hm)).2.2.2⟩, h8, h9⟩
theorem wg_of {es : List Ent} {tl : List Cl} (hcl : cls es = firsts ++ tl) (hok : ∀ c ∈ cls es, okClB c = true) (hl : tl.length ≤ 800) : WG es tl where
  wok := ⟨fun x hx => (okClB_ok (hok _ (List.mem_map_of_mem hx))).1, fun x hx => (okClB_ok (hok _ (List.mem_map_of_mem hx))).2.2.1.methods, fun x hx => (okClB_ok (hok _ (List.mem_map_of_mem hx))).2.2.1.fields, fun x hx => (okClB_ok (hok _ (List.mem_map_of_mem hx))).2.2.2.1, fun x hx => (okClB_ok (hok _ (List.mem_map_of_mem hx))).2.2.2.2⟩
  cl := hcl
  le := by
    have := congrArg List.length hcl
    rw [List.length_append] at this
    simp only [cls, List.length_map] at this
    rw [this, show firsts.length = 8 from rfl]; omega
theorem wg_sz {es : List Ent} (hok : ∀ c ∈ cls es, okClB c = true) : ∀ x ∈ es, SzNm x.cl := fun _x hx => (okClB_ok (hok _ (List.mem_map_of_mem hx))).2.2.1
theorem no_broken {tail : List Ent} {RB : Nat → Ent → Bool} (h : ∀ i, i < 7 → ∀ x ∈ tail, RB i x = true) {i j : Nat} : ¬ Broken tail RB i j := by
  rintro ⟨hi, -, -, x, hx, hr⟩
  rw [h i hi x (List.mem_of_getElem? hx)] at hr
  cases hr
/-- Where no class has interfaces, and all methods have code, the rules hold, if those above are there, and chains end. -/
theorem flat_all {es : List Ent} {tl : List Cl} (g : WG es tl) (hfl : ∀ c ∈ cls es, c.flags = 0 ∧ c.faces = [] ∧ ∀ m ∈ c.methods, m.flags = 0) (hst : ∀ c ∈ tl, standsB (firsts ++ tl) c = true) (hfr : ∀ c ∈ tl, ¬ Reach (firsts ++ tl) c.name c.name) (hlen : ∀ c ∈ tl, (chainOf (firsts ++ tl) c.name).length ≤ 32) {NB : Ent → Bool} (hNB : ∀ x ∈ es.drop 8, NB x = true) :
    ∀ i, i < 7 → ∀ x ∈ es.drop 8, RBg es NB i x = true := by
  intro i hi x hx
  have hm := g.mem hx
  have hxm := List.mem_map_of_mem (f := fun x : Ent => x.cl) (List.mem_of_mem_drop hx)
  have hm0 : ∀ c ∈ cls es, ∀ m ∈ c.methods, m.flags = 0 := fun c hc => (hfl c hc).2.2
  unfold RBg
  rcases (by omega : i = 0 ∨ i = 1 ∨ i = 2 ∨ i = 3 ∨ i = 4 ∨ i = 5 ∨ i = 6) with rfl | rfl | rfl | rfl | rfl | rfl | rfl
  · rw [if_pos rfl, g.cl]; exact hst _ hm
  · rw [if_neg (by omega), if_pos rfl]
    have h0 := hst _ hm
    unfold standsB at h0
    rw [Bool.and_eq_true, ← g.cl] at h0
    obtain ⟨d, hd⟩ := thereB_some.1 h0.1
    unfold kindsB classAtB
    rw [hd, (hfl _ hxm).2.1]
    have := (hfl d (fnd_mem hd).1).1
    simp [isFaceB, this]
  · rw [if_neg (by omega), if_neg (by omega), if_pos rfl, g.cl]; simpa using hfr _ hm
  · rw [if_neg (by omega), if_neg (by omega), if_neg (by omega), if_pos rfl, g.cl]; simpa using hlen _ hm
  · rw [if_neg (by omega), if_neg (by omega), if_neg (by omega), if_neg (by omega), if_pos rfl]; exact hNB x hx
  · rw [if_neg (by omega), if_neg (by omega), if_neg (by omega), if_neg (by omega), if_neg (by omega), if_pos rfl]; exact flat_over hm0 hxm _
  · rw [if_neg (by omega), if_neg (by omega), if_neg (by omega), if_neg (by omega), if_neg (by omega), if_neg (by omega)]; exact flat_owes hm0 _ _ _

/-- A plain class's cells. -/
def clCells (c : Cl) : List Value := [.int .i64 c.flags, strV c.name, strV c.super, zNil, zNil, zNil]
theorem clCells_read (S : Blocks) (w : World) {c : Cl} (h : c.faces = [] ∧ c.fields = [] ∧ c.methods = []) : RCl S w c (clCells c) :=
  ⟨zNil, zNil, zNil, rfl, by rw [h.1]; exact SQ.nil, by rw [h.2.1]; exact SQ.nil, by rw [h.2.2]; exact SQ.nil⟩
theorem lit_classes (w : World) (cs : List Cl) (T : Nat) (hp : ∀ c ∈ cs, c.faces = [] ∧ c.fields = [] ∧ c.methods = []) :
    SQ 6 RCl (fun k => k = w.heap.size) (w.alloc (.cells ((cs.map clCells).flatten).toArray T)) (.slice (some ⟨w.heap.size, 0, none⟩) cs.length cs.length) cs := by
  refine ⟨_, _, rfl, Nat.le_refl _, (fun h => by cases h), fun p hp' _ => ?_⟩
  cases hp'
  refine ⟨rfl, by simp, rfl, fun i x hi => ?_⟩
  obtain ⟨hil, rfl⟩ := List.getElem?_eq_some_iff.1 hi
  refine ⟨clCells cs[i], rfl, clCells_read _ _ (hp _ (List.getElem_mem hil)), fun j u hj => ?_⟩
  have hj6 : j < 6 := (List.getElem?_eq_some_iff.1 hj).1
  rw [add_mk, add_mk, Nat.zero_add]
  have := flat_at (css := cs.map clCells) (n := 6) (fun ds hd => by obtain ⟨c, -, rfl⟩ := List.mem_map.1 hd; rfl) i j (cs := clCells cs[i]) (by rw [List.getElem?_map, List.getElem?_eq_getElem hil]; rfl) hj6
  rw [hj] at this
  have h2 := box_keep (Chg.refl No (w.alloc (.cells ((cs.map clCells).flatten).toArray T))) (j := i * 6 + j) (u := u) (by rw [List.getElem?_toArray]; exact this)
  exact h2

theorem kn_plain : ∀ c ∈ [kn 0, kn 1, kn 2], nameB c.name = true ∧ nameB c.super = true ∧ c.flags = 0 ∧ c.faces = [] ∧ c.fields = [] ∧ c.methods = [] := by decide
theorem kn_PlainCl : ∀ c ∈ [kn 0, kn 1, kn 2], PlainCl c := fun c hc => by
  obtain ⟨a, b, c1, d, e, f⟩ := kn_plain c hc
  exact ⟨c1, a, b, d, e, f⟩
theorem kn_names : ([kn 0, kn 1, kn 2].map (·.name)).Nodup := by decide
theorem kn_new : ∀ c ∈ [kn 0, kn 1, kn 2], ∀ d ∈ firsts, d.name ≠ c.name := by decide
theorem kn_sup' : ∀ c ∈ [kn 0, kn 1, kn 2], (fnd knCls c.super).isSome = true := by decide
theorem kn_sup : ∀ c ∈ [kn 0, kn 1, kn 2], ∃ d, fnd knCls c.super = some d := fun c hc => Option.isSome_iff_exists.1 (kn_sup' c hc)
theorem kn_fst : ∀ c ∈ firsts, fnd knCls c.name = some c := by decide
theorem kn_find : fnd knCls kA = some (kn 0) ∧ fnd knCls kB = some (kn 1) ∧ fnd knCls kC = some (kn 2) := by decide
theorem kn_chain (c : Cl) (hc : c ∈ [kn 0, kn 1, kn 2]) : ∃ l, IsChain knCls c.name l ∧ l.length ≤ 3 ∧ ∀ t ∈ l, ∃ d, fnd knCls t = some d := by
  simp only [List.mem_cons, List.not_mem_nil, or_false] at hc
  have ha := kn_chain_a
  have m : ∀ t ∈ [kA, objectName], ∃ d, fnd knCls t = some d := fun t ht => by
    simp only [List.mem_cons, List.not_mem_nil, or_false] at ht
    rcases ht with rfl | rfl
    · exact ⟨_, kn_a⟩
    · exact ⟨_, kn_obj⟩
  rcases hc with rfl | rfl | rfl
  · exact ⟨_, kn_chain_a, by decide, m⟩
  · exact ⟨_, kn_chain_b, by decide, fun t ht => by
      rcases List.mem_cons.1 ht with rfl | ht
      · exact ⟨_, kn_b⟩
      · exact m t ht⟩
  · exact ⟨_, kn_chain_c, by decide, fun t ht => by
      rcases List.mem_cons.1 ht with rfl | ht
      · exact ⟨_, kn_c⟩
      · exact m t ht⟩

theorem atf_new {es : List Ent} {cs : List Cl} (hc : cls es = cs) {s : Bs} (h : ∀ d ∈ cs, d.name ≠ s) : atf es s = none := by
  apply fnd_none
  rw [hc]
  unfold fnd
  rw [List.find?_eq_none]
  intro c hm
  simp [h c hm]

theorem drop_cl {es : List Ent} {tl : List Cl} (hcl : cls es = firsts ++ tl) {x : Ent} (hx : x ∈ es.drop 8) : x.cl ∈ tl := by
  have h1 : x.cl ∈ (cls es).drop 8 := by unfold cls; rw [← List.map_drop]; exact List.mem_map_of_mem hx
  rw [hcl] at h1
  rwa [show (firsts ++ tl).drop 8 = tl from List.drop_left' (by rfl)] at h1
theorem lit_strs (w : World) (ss : List Bs) (T : Nat) : SQ 1 RStr (fun k => k = w.heap.size) (w.alloc (.cells (ss.map strV).toArray T)) (.slice (some ⟨w.heap.size, 0, none⟩) ss.length ss.length) ss := by
  refine ⟨_, _, rfl, Nat.le_refl _, (fun h => by cases h), fun p hp' _ => ?_⟩
  cases hp'
  refine ⟨rfl, by simp, rfl, fun i x hi => ⟨[strV x], rfl, rfl, fun j u hj => ?_⟩⟩
  cases j with
  | succ j => simp at hj
  | zero =>
    simp only [List.getElem?_cons_zero, Option.some.injEq] at hj
    subst hj
    rw [add_mk, add_mk, Nat.zero_add, Nat.mul_one, Nat.add_zero]
    exact box_keep (Chg.refl No _) (by rw [List.getElem?_toArray, List.getElem?_map, hi]; rfl)
/-- What is there of a linked world. -/
theorem chain_is {es es' : List Ent} (h : ∀ x ∈ es, ∃ y ∈ es', y.cl = x.cl ∧ y.chain = chainOf (cls es) x.cl.name) {s : Bs} {c : Cl} (hf : fnd (cls es) s = some c) (hl : (chainOf (cls es) s).length ≤ 1000) : ∃ y ∈ es', y.cl.name = s ∧ y.chain = chainOf (cls es) s ∧ y.chain.length ≤ 1000 := by
  obtain ⟨x, hx, -, hn, -⟩ := fnd_some hf
  obtain ⟨y, hy, h1, h2⟩ := h x hx
  rw [hn] at h2
  exact ⟨y, hy, by rw [h1]; exact hn, h2, by rw [h2]; exact hl⟩
theorem kn_chA : chainOf knCls kA = [kA, objectName] := kn_chain_a.of
theorem kn_chB : chainOf knCls kB = [kB, kA, objectName] := kn_chain_b.of
theorem kn_chC : chainOf knCls kC = [kC, kA, objectName] := kn_chain_c.of

set_option maxRecDepth 100000 in
set_option maxHeartbeats 6400000 in
theorem knownG (w : World) : Calls Tryz.prog 7 #[] w fun e w' => e = .returned (.bool true) ∧ Chg No w w' := by
  go_enter Tryz.func7, Tryz.ntmps7
  go_wp2_with fail
  refine (new_c w).mono ?_
  rintro e w1 ⟨S, O, nv, es, rfl, hN⟩
  have hlen : es.length = 8 := by
    have := congrArg List.length hN.cl
    simp only [cls, List.length_map] at this
    rw [this]; rfl
  have N := Lib.hid (And.intro hN hlen); clear hN hlen
  go_wp2_with fail
  have hl := lit_classes w1 [kn 0, kn 1, kn 2] 37 (fun c hc => ⟨(kn_plain c hc).2.2.2.1, (kn_plain c hc).2.2.2.2.1, (kn_plain c hc).2.2.2.2.2⟩)
  refine (add_plain S O (fun k => k = w1.heap.size) _ (w.heap.size + 1) w.heap.size nv es (N.out.1.hw.new ((Chg.refl No w1).alloc _)) none 0 (fun _ => rfl) _ [kn 0, kn 1, kn 2] hl (fun k hk => by simp [hk]) kn_PlainCl kn_names
    (fun c hc => atf_new N.out.1.cl (fun d hd => kn_new c hc d (by rwa [firsts_all] at hd))) (by simp) (by simp) (by rw [N.out.2]; decide) (by rw [N.out.2]; decide)).mono ?_
  rintro e w2 ⟨rfl, O2, nv2, es2, hA⟩
  have hcl2 : cls es2 = knCls := by rw [hA.cl, N.out.1.cl, firsts_all]; rfl
  have hpool : ∀ x ∈ es2, x.pool = [] := fun x hx => (hA.bare x hx).elim (fun h => (N.out.1.bare x h).1) (fun h => h.1)
  have hP : WG es2 [kn 0, kn 1, kn 2] := wg_of hcl2 (by rw [hcl2]; decide) (by decide)
  have hnb : ∀ i, i < 7 → ∀ x ∈ es2.drop 8, RBg es2 (fun x => namedB0 (cls es2) x.cl) i x = true := flat_all hP (by rw [hcl2]; decide) (by decide) (fun c _ => kn_free _) (fun c hc => by
      obtain ⟨l, h1, h2, -⟩ := kn_chain c hc
      show (chainOf knCls c.name).length ≤ 32
      rw [h1.of]; omega) (fun x hx => by
      have hm := drop_cl (tl := [kn 0, kn 1, kn 2]) hcl2 hx
      rw [hcl2]
      have key : ∀ c ∈ [kn 0, kn 1, kn 2], namedB0 knCls c = true := by decide
      exact key _ hm)
  have A := Lib.hid (And.intro hA (And.intro hcl2 (And.intro hP (And.intro hnb (fun x hx => And.intro (wg_sz (by rw [hcl2]; decide) x hx) (hpool x hx))))))
  clear hA hcl2 hpool hP hnb hl
  go_wp2_with fail
  refine (link_g A.out.1.hw A.out.2.2.1 (fun x => namedB0 (cls es2) x.cl) (fun x hx W hW => named0_c (A.out.1.hw.new hW) A.out.2.2.1.wok x (List.mem_of_mem_drop hx) (A.out.2.2.2.2 x (List.mem_of_mem_drop hx)).1 (A.out.2.2.2.2 x (List.mem_of_mem_drop hx)).2)).mono ?_
  rintro e w3 hL
  rcases hL with ⟨i, j, x, h1, -⟩ | ⟨-, rfl, c3, S', hW, -⟩
  · exact absurd h1 (no_broken A.out.2.2.2.1)
  obtain ⟨es', hes'⟩ : ∃ es', es' = es2.map (linkE es2) := ⟨_, rfl⟩
  rw [← hes'] at hW
  have hch' : ∀ x ∈ es2, ∃ y ∈ es', y.cl = x.cl ∧ y.chain = chainOf (cls es2) x.cl.name := fun x hx => ⟨linkE es2 x, by rw [hes']; exact List.mem_map_of_mem hx, rfl, rfl⟩
  have ci : ∀ {s : Bs} {c : Cl}, fnd knCls s = some c → (chainOf knCls s).length ≤ 1000 → ChainIs es' (chainOf knCls) s := fun {s c} hf hl => by
    have := chain_is hch' (s := s) (c := c) (by rw [A.out.2.1]; exact hf) (by rw [A.out.2.1]; exact hl)
    rwa [A.out.2.1] at this
  have cB : ChainIs es' (chainOf knCls) kB := ci kn_b (by rw [kn_chB]; decide)
  have cC : ChainIs es' (chainOf knCls) kC := ci kn_c (by rw [kn_chC]; decide)
  have L := Lib.hid (And.intro hW (And.intro cB (And.intro cC c3)))
  clear hW hch' cB cC c3 hes'
  go_wp2_with fail
  refine (common_c (L.out.1.new ((Chg.refl No w3).alloc _)) (chainOf knCls) _ _ kB [kC] (lit_strs w3 [kB, kC] 9) (by decide) (fun s hs => by
      simp only [List.mem_cons, List.not_mem_nil, or_false] at hs
      rcases hs with rfl | rfl
      · exact L.out.2.1
      · exact L.out.2.2.1) 1 kA (by rw [kn_chB]; rfl) (fun s hs => by
      simp only [List.mem_cons, List.not_mem_nil, or_false] at hs
      unfold isUp
      rcases hs with rfl | rfl
      · rw [kn_chB]; decide
      · rw [kn_chC]; decide) (fun j hj u hu => by
      obtain rfl : j = 0 := by omega
      rw [kn_chB] at hu
      cases hu
      unfold isUp
      simp only [List.any_cons, List.any_nil]
      rw [kn_chB, kn_chC]; decide)).mono ?_
  rintro e w4 ⟨rfl, d4⟩
  obtain ⟨y, hy, hyn, hyc, hyl⟩ := L.out.2.1
  have D4 := Lib.hid (((Chg.refl No w3).alloc (.cells (([kB, kC].map strV).toArray) 9)).trans d4 (fun _ _ h => h)); clear d4
  have HA := above_c (L.out.1.new D4.out) kA y hy hyl
  rw [hyc, hyn, kn_chB, show ([kB, kA, objectName].any fun s => s == kA) = true from by decide] at HA
  have HA2 := Lib.hid HA
  clear HA hyn hyc hyl
  go_wp2_with fail
  refine HA2.out.mono ?_
  rintro e w5 ⟨rfl, d5⟩
  have hO : ∀ n, O n → w.heap.size ≤ n := N.out.1.newO
  have hs1 := N.out.1.chg.size
  have hO2 : ∀ n, O2 n → w.heap.size ≤ n := fun n hn => by
    by_cases hlt : n < (w1.alloc (.cells ([kn 0, kn 1, kn 2].map clCells).flatten.toArray 37)).heap.size
    · exact hO n (A.out.1.oldO n hlt hn)
    · rw [size_alloc1] at hlt; omega
  have hfin : Chg No w w5 := ((((N.out.1.chg.alloc _).trans A.out.1.chg (fun n hn h => by have := hO n h; omega)).trans L.out.2.2.2 (fun n hn h => by have := hO2 n h; omega)).trans D4.out (fun _ _ h => h)).trans d5 (fun _ _ h => h)
  have F := Lib.hid hfin
  clear hO hO2 hfin d5
  go_wp2
  go_ret
  exact ⟨rfl, F.out⟩

end Go.Proofs.YtgmmclcpfmnoiaaGreatDoor
