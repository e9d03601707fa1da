/-
  How the program's data read: slices whose memory lies in a set of blocks; types, signatures, fields, handlers, methods, classes, entries of a pool, modules.
-/
import Derived.Test.YtgmmclcpfmnoiaaGreatDoorBase
namespace Go.Proofs.YtgmmclcpfmnoiaaGreatDoor
open Go.RowKit

abbrev Blocks := Nat → Prop
abbrev Bs := List UInt8
/-- A reading: x lies in these cells, its further memory in blocks of S. -/
abbrev Reading (α : Type) := Blocks → World → α → List Value → Prop
structure Good {α : Type} (R : Reading α) : Prop where
  keep : ∀ {S T : Blocks} {w w' : World} {x : α} {cs : List Value}, R S w x cs → Chg T w w' → (∀ k, S k → ¬ T k) → R S w' x cs
  mono : ∀ {S T : Blocks} {w : World} {x : α} {cs : List Value}, R S w x cs → (∀ k, S k → T k) → R T w x cs
  one : ∀ {S : Blocks} {w : World} {x : α} {cs : List Value}, R S w x cs → ∀ u ∈ cs, u.oneCell' = true

/-- A slice of elements of n cells each. -/
def SQ {α : Type} (n : Nat) (R : Reading α) (S : Blocks) (w : World) (v : Value) (xs : List α) : Prop :=
  ∃ a cap, v = .slice a xs.length cap ∧ xs.length ≤ cap ∧ (a = none → cap = 0) ∧
    ∀ p, a = some p → xs ≠ [] → p.spot = none ∧ p.block < w.heap.size ∧ S p.block ∧ ∀ (i : Nat) (x : α), xs[i]? = some x → ∃ cs, cs.length = n ∧ R S w x cs ∧ At w (p.add (i * n)) cs

section
variable {α : Type} {n : Nat} {R : Reading α} {S T : Blocks} {w w' : World} {v : Value} {xs : List α}
theorem SQ.keep (g : Good R) (h : SQ n R S w v xs) (c : Chg T w w') (hn : ∀ k, S k → ¬ T k) : SQ n R S w' v xs := by
  obtain ⟨a, cap, rfl, h1, h2, h3⟩ := h
  refine ⟨a, cap, rfl, h1, h2, fun p hp hx => ?_⟩
  obtain ⟨h4, h5, h6, h7⟩ := h3 p hp hx
  refine ⟨h4, Nat.lt_of_lt_of_le h5 c.size, h6, fun i x hi => ?_⟩
  obtain ⟨cs, h8, h9, h10⟩ := h7 i x hi
  exact ⟨cs, h8, g.keep h9 c hn, h10.chg c (by rw [add_block]; exact hn _ h6) (by rw [add_block]; exact h5)⟩
theorem SQ.mono (g : Good R) (h : SQ n R S w v xs) (hn : ∀ k, S k → T k) : SQ n R T w v xs := by
  obtain ⟨a, cap, rfl, h1, h2, h3⟩ := h
  refine ⟨a, cap, rfl, h1, h2, fun p hp hx => ?_⟩
  obtain ⟨h4, h5, h6, h7⟩ := h3 p hp hx
  refine ⟨h4, h5, hn _ h6, fun i x hi => ?_⟩
  obtain ⟨cs, h8, h9, h10⟩ := h7 i x hi
  exact ⟨cs, h8, g.mono h9 hn, h10⟩
theorem SQ.new (g : Good R) (h : SQ n R S w v xs) (c : Chg No w w') : SQ n R S w' v xs := h.keep g c (fun _ _ h => h)
theorem SQ.nil : SQ n R S w (.slice none 0 0) [] := ⟨none, 0, rfl, Nat.le_refl _, fun _ => rfl, fun p h => by cases h⟩
theorem SQ.form (h : SQ n R S w v xs) : ∃ a cap, v = .slice a xs.length cap ∧ xs.length ≤ cap ∧ (a = none → cap = 0) := by
  obtain ⟨a, cap, h0, h1, h2, -⟩ := h; exact ⟨a, cap, h0, h1, h2⟩
/-- Element k's cells. -/
theorem SQ.cells {a : Option Addr} {len cap : Nat} (h : SQ n R S w (.slice a len cap) xs) (k : Nat) (hk : k < xs.length) :
    ∃ b o cs, a = some ⟨b, o, none⟩ ∧ cs.length = n ∧ R S w xs[k] cs ∧ b < w.heap.size ∧ S b ∧ ∀ (j : Nat) (u : Value), cs[j]? = some u → w.cell? ⟨b, o + (k * n + j), none⟩ = some u := by
  obtain ⟨a', cap', he, h1, h2, h3⟩ := h
  cases he
  cases a with
  | none => have := h2 rfl; omega
  | some p =>
    obtain ⟨h4, h5, h6, h7⟩ := h3 p rfl (by intro e; rw [e] at hk; simp at hk)
    obtain ⟨b, o, sp⟩ := p
    cases h4
    obtain ⟨cs, h8, h9, h10⟩ := h7 k xs[k] (List.getElem?_eq_getElem hk)
    refine ⟨b, o, cs, rfl, h8, h9, h5, h6, fun j u hj => ?_⟩
    have := h10 j u hj
    rwa [add_mk, add_mk, Nat.add_assoc] at this
end

/-- A string's value. -/
abbrev strV (s : List UInt8) : Value := .string ⟨s.toArray⟩
def RStr : Reading (List UInt8) := fun _ _ x cs => cs = [strV x]
def RByte : Reading UInt8 := fun _ _ x cs => cs = [bv x]
def RInt : Reading Int := fun _ _ x cs => cs = [.int .i64 x]
theorem goodStr : Good RStr := ⟨fun h _ _ => h, fun h _ => h, fun h u hu => by rw [h] at hu; simp only [List.mem_cons, List.not_mem_nil, or_false] at hu; (repeat' (first | (rcases hu with rfl | hu) | (subst hu))) <;> rfl⟩
theorem goodByte : Good RByte := ⟨fun h _ _ => h, fun h _ => h, fun h u hu => by rw [h] at hu; simp only [List.mem_cons, List.not_mem_nil, or_false] at hu; (repeat' (first | (rcases hu with rfl | hu) | (subst hu))) <;> rfl⟩
theorem goodInt : Good RInt := ⟨fun h _ _ => h, fun h _ => h, fun h u hu => by rw [h] at hu; simp only [List.mem_cons, List.not_mem_nil, or_false] at hu; (repeat' (first | (rcases hu with rfl | hu) | (subst hu))) <;> rfl⟩

/-- A type. -/
structure Ty where
  dims : Int
  name : List UInt8
deriving DecidableEq, Inhabited
def RTy : Reading Ty := fun _ _ x cs => cs = [.int .i64 x.dims, strV x.name]
theorem goodTy : Good RTy := ⟨fun h _ _ => h, fun h _ => h, fun h u hu => by rw [h] at hu; simp only [List.mem_cons, List.not_mem_nil, or_false] at hu; (repeat' (first | (rcases hu with rfl | hu) | (subst hu))) <;> rfl⟩
/-- A signature. -/
structure Sg where
  params : List Ty
  void : Bool
  result : Ty
deriving DecidableEq, Inhabited
def RSg : Reading Sg := fun S w x cs => ∃ v, cs = [v, .bool x.void, .int .i64 x.result.dims, strV x.result.name] ∧ SQ 2 RTy S w v x.params
theorem goodSg : Good RSg := ⟨fun ⟨v, h1, h2⟩ c hn => ⟨v, h1, h2.keep goodTy c hn⟩, fun ⟨v, h1, h2⟩ hn => ⟨v, h1, h2.mono goodTy hn⟩, fun ⟨v, h1, h2⟩ u hu => by obtain ⟨a, cap, rfl, -⟩ := h2.form; rw [h1] at hu; simp only [List.mem_cons, List.not_mem_nil, or_false] at hu; (repeat' (first | (rcases hu with rfl | hu) | (subst hu))) <;> rfl⟩
/-- A field. -/
structure Fd where
  flags : Int
  name : List UInt8
  type : Ty
deriving DecidableEq, Inhabited
def RFd : Reading Fd := fun _ _ x cs => cs = [.int .i64 x.flags, strV x.name, .int .i64 x.type.dims, strV x.type.name]
theorem goodFd : Good RFd := ⟨fun h _ _ => h, fun h _ => h, fun h u hu => by rw [h] at hu; simp only [List.mem_cons, List.not_mem_nil, or_false] at hu; (repeat' (first | (rcases hu with rfl | hu) | (subst hu))) <;> rfl⟩
/-- A handler. -/
structure Hd where
  from_ : Int
  to_ : Int
  at_ : Int
  class_ : List UInt8
deriving DecidableEq, Inhabited
def RHd : Reading Hd := fun _ _ x cs => cs = [.int .i64 x.from_, .int .i64 x.to_, .int .i64 x.at_, strV x.class_]
theorem goodHd : Good RHd := ⟨fun h _ _ => h, fun h _ => h, fun h u hu => by rw [h] at hu; simp only [List.mem_cons, List.not_mem_nil, or_false] at hu; (repeat' (first | (rcases hu with rfl | hu) | (subst hu))) <;> rfl⟩
/-- A method. -/
structure Mt where
  flags : Int
  name : List UInt8
  sig : Sg
  stack : Int
  locals_ : Int
  code : List UInt8
  handlers : List Hd
deriving DecidableEq, Inhabited
def RMt : Reading Mt := fun S w x cs => ∃ v c h, cs = [.int .i64 x.flags, strV x.name, v, .bool x.sig.void, .int .i64 x.sig.result.dims, strV x.sig.result.name, .int .i64 x.stack, .int .i64 x.locals_, c, h] ∧
  SQ 2 RTy S w v x.sig.params ∧ SQ 1 RByte S w c x.code ∧ SQ 4 RHd S w h x.handlers
theorem goodMt : Good RMt := ⟨fun ⟨v, c, h, h1, h2, h3, h4⟩ d hn => ⟨v, c, h, h1, h2.keep goodTy d hn, h3.keep goodByte d hn, h4.keep goodHd d hn⟩,
  fun ⟨v, c, h, h1, h2, h3, h4⟩ hn => ⟨v, c, h, h1, h2.mono goodTy hn, h3.mono goodByte hn, h4.mono goodHd hn⟩,
  fun ⟨v, c, h, h1, h2, h3, h4⟩ u hu => by obtain ⟨_, _, rfl, -⟩ := h2.form; obtain ⟨_, _, rfl, -⟩ := h3.form; obtain ⟨_, _, rfl, -⟩ := h4.form; rw [h1] at hu; simp only [List.mem_cons, List.not_mem_nil, or_false] at hu; (repeat' (first | (rcases hu with rfl | hu) | (subst hu))) <;> rfl⟩
/-- A class. -/
structure Cl where
  flags : Int
  name : List UInt8
  super : List UInt8
  faces : List (List UInt8)
  fields : List Fd
  methods : List Mt
deriving DecidableEq, Inhabited
def RCl : Reading Cl := fun S w x cs => ∃ f g m, cs = [.int .i64 x.flags, strV x.name, strV x.super, f, g, m] ∧ SQ 1 RStr S w f x.faces ∧ SQ 4 RFd S w g x.fields ∧ SQ 10 RMt S w m x.methods
theorem goodCl : Good RCl := ⟨fun ⟨f, g, m, h1, h2, h3, h4⟩ d hn => ⟨f, g, m, h1, h2.keep goodStr d hn, h3.keep goodFd d hn, h4.keep goodMt d hn⟩,
  fun ⟨f, g, m, h1, h2, h3, h4⟩ hn => ⟨f, g, m, h1, h2.mono goodStr hn, h3.mono goodFd hn, h4.mono goodMt hn⟩,
  fun ⟨f, g, m, h1, h2, h3, h4⟩ u hu => by obtain ⟨_, _, rfl, -⟩ := h2.form; obtain ⟨_, _, rfl, -⟩ := h3.form; obtain ⟨_, _, rfl, -⟩ := h4.form; rw [h1] at hu; simp only [List.mem_cons, List.not_mem_nil, or_false] at hu; (repeat' (first | (rcases hu with rfl | hu) | (subst hu))) <;> rfl⟩
/-- An entry of a pool. -/
structure En where
  kind : Int
  text : List UInt8
  n : Int
  a : Int
  b : Int
  c : Int
deriving DecidableEq, Inhabited
def REn : Reading En := fun _ _ x cs => cs = [.int .i64 x.kind, strV x.text, .int .i64 x.n, .int .i64 x.a, .int .i64 x.b, .int .i64 x.c]
theorem goodEn : Good REn := ⟨fun h _ _ => h, fun h _ => h, fun h u hu => by rw [h] at hu; simp only [List.mem_cons, List.not_mem_nil, or_false] at hu; (repeat' (first | (rcases hu with rfl | hu) | (subst hu))) <;> rfl⟩
/-- A module. -/
structure Md where
  pool : List En
  classes : List Cl
deriving DecidableEq, Inhabited
def RMd : Reading Md := fun S w x cs => ∃ p c, cs = [p, c] ∧ SQ 6 REn S w p x.pool ∧ SQ 6 RCl S w c x.classes
theorem goodMd : Good RMd := ⟨fun ⟨p, c, h1, h2, h3⟩ d hn => ⟨p, c, h1, h2.keep goodEn d hn, h3.keep goodCl d hn⟩, fun ⟨p, c, h1, h2, h3⟩ hn => ⟨p, c, h1, h2.mono goodEn hn, h3.mono goodCl hn⟩,
  fun ⟨p, c, h1, h2, h3⟩ u hu => by obtain ⟨_, _, rfl, -⟩ := h2.form; obtain ⟨_, _, rfl, -⟩ := h3.form; rw [h1] at hu; simp only [List.mem_cons, List.not_mem_nil, or_false] at hu; (repeat' (first | (rcases hu with rfl | hu) | (subst hu))) <;> rfl⟩

end Go.Proofs.YtgmmclcpfmnoiaaGreatDoor

namespace Go.Proofs.YtgmmclcpfmnoiaaGreatDoor
open Go.RowKit

/-- The elements' cells, one list each. -/
def Els {α : Type} (n : Nat) (R : Reading α) (S : Blocks) (w : World) (xs : List α) (css : List (List Value)) : Prop :=
  css.length = xs.length ∧ ∀ (i : Nat) (x : α) (cs : List Value), xs[i]? = some x → css[i]? = some cs → cs.length = n ∧ R S w x cs
section
variable {α : Type} {n : Nat} {R : Reading α} {S T : Blocks} {w w' : World} {v : Value} {xs : List α} {css : List (List Value)}
theorem Els.flat_len (h : Els n R S w xs css) : css.flatten.length = xs.length * n := by
  induction css generalizing xs with
  | nil =>
    have := h.1
    simp only [List.length_nil] at this
    simp [← this]
  | cons c r ih =>
    cases xs with
    | nil => have := h.1; simp at this
    | cons x xr =>
      have h0 := (h.2 0 x c rfl rfl).1
      have hr : Els n R S w xr r := ⟨by have := h.1; simpa using this, fun i y cs hi hc => h.2 (i + 1) y cs (by simpa using hi) (by simpa using hc)⟩
      rw [List.flatten_cons, List.length_append, h0, ih hr, List.length_cons, Nat.add_mul, Nat.one_mul, Nat.add_comm]
/-- Cell j of element i. -/
theorem flat_at {css : List (List Value)} {n : Nat} (hn : ∀ cs ∈ css, cs.length = n) (i j : Nat) {cs : List Value} (hi : css[i]? = some cs) (hj : j < n) : css.flatten[i * n + j]? = cs[j]? := by
  induction css generalizing i with
  | nil => simp at hi
  | cons c r ih =>
    have hc : c.length = n := hn c (List.mem_cons_self ..)
    rw [List.flatten_cons]
    cases i with
    | zero =>
      simp only [List.getElem?_cons_zero, Option.some.injEq] at hi
      subst hi
      rw [Nat.zero_mul, Nat.zero_add, List.getElem?_append_left (by omega)]
    | succ i =>
      have hlt : c.length ≤ (i + 1) * n + j := by rw [hc, Nat.add_mul]; omega
      rw [List.getElem?_append_right hlt, show (i + 1) * n + j - c.length = i * n + j from by rw [hc, Nat.add_mul]; omega]
      exact ih (fun cs h => hn cs (List.mem_cons_of_mem _ h)) i (by simpa using hi)
theorem Els.lens (h : Els n R S w xs css) : ∀ cs ∈ css, cs.length = n := fun cs hcs => by
  obtain ⟨i, hi, he⟩ := List.getElem_of_mem hcs
  exact (h.2 i (xs[i]'(by have := h.1; omega)) cs (List.getElem?_eq_getElem _) (by rw [← he]; exact List.getElem?_eq_getElem hi)).1
theorem Els.keep (g : Good R) (h : Els n R S w xs css) (c : Chg T w w') (hn : ∀ k, S k → ¬ T k) : Els n R S w' xs css := ⟨h.1, fun i x cs hi hc => ⟨(h.2 i x cs hi hc).1, g.keep (h.2 i x cs hi hc).2 c hn⟩⟩
theorem Els.mono (g : Good R) (h : Els n R S w xs css) (hn : ∀ k, S k → T k) : Els n R T w xs css := ⟨h.1, fun i x cs hi hc => ⟨(h.2 i x cs hi hc).1, g.mono (h.2 i x cs hi hc).2 hn⟩⟩
theorem Els.nil : Els n R S w ([] : List α) [] := ⟨rfl, fun i x cs hi => by simp at hi⟩
theorem Els.append {ys : List α} {ds : List (List Value)} (h : Els n R S w xs css) (k : Els n R S w ys ds) : Els n R S w (xs ++ ys) (css ++ ds) := by
  refine ⟨by rw [List.length_append, List.length_append, h.1, k.1], fun i x cs hi hc => ?_⟩
  by_cases hl : i < xs.length
  · rw [List.getElem?_append_left hl] at hi
    rw [List.getElem?_append_left (by rw [h.1]; exact hl)] at hc
    exact h.2 i x cs hi hc
  · rw [List.getElem?_append_right (by omega)] at hi
    rw [List.getElem?_append_right (by rw [h.1]; omega), h.1] at hc
    exact k.2 _ x cs hi hc
theorem Els.one (g : Good R) (h : Els n R S w xs css) : ∀ u ∈ css.flatten, u.oneCell' = true := fun u hu => by
  obtain ⟨cs, hcs, hu⟩ := List.mem_flatten.1 hu
  obtain ⟨i, hi, he⟩ := List.getElem_of_mem hcs
  exact g.one (h.2 i (xs[i]'(by have := h.1; omega)) cs (List.getElem?_eq_getElem _) (by rw [← he]; exact List.getElem?_eq_getElem hi)).2 u hu
/-- A slice as an append's source. -/
theorem SQ.src (g : Good R) {P : Program} (h : SQ n R S w v xs) (hn : 0 < n) {tx e' : TypeId} (hk : P.underlying tx = some (.slice e')) : ∃ css, Els n R S w xs css ∧ Src P n tx v xs.length css.flatten w := by
  obtain ⟨a, cap, rfl, h1, h2, h3⟩ := h
  by_cases hx : xs = []
  · subst hx
    refine ⟨[], Els.nil, ?_⟩
    cases a with
    | none => exact Src.ofNil w hk cap
    | some p => exact Src.ofSlice w hk p 0 cap [] (by simp) (fun j u hj => by simp at hj) (fun u hu => by cases hu)
  · cases a with
    | none => have := h2 rfl; have : xs.length ≠ 0 := fun e => hx (List.eq_nil_of_length_eq_zero e); omega
    | some p =>
      obtain ⟨h4, h5, h6, h7⟩ := h3 p rfl hx
      obtain ⟨b, o, sp⟩ := p
      cases h4
      have hch : ∀ m, m ≤ xs.length → ∃ css, Els n R S w (xs.take m) css ∧ ∀ (i : Nat) (cs : List Value), css[i]? = some cs → At w (⟨b, o + i * n, none⟩ : Addr) cs := by
        intro m
        induction m with
        | zero => intro _; exact ⟨[], by rw [List.take_zero]; exact Els.nil, fun i cs hi => by simp at hi⟩
        | succ m ih =>
          intro hm
          obtain ⟨css, e1, e2⟩ := ih (by omega)
          obtain ⟨cs, c1, c2, c3⟩ := h7 m xs[m] (List.getElem?_eq_getElem (by omega))
          refine ⟨css ++ [cs], ?_, fun i ds hi => ?_⟩
          · rw [List.take_succ_eq_append_getElem (by omega)]
            exact e1.append ⟨rfl, fun i x ds hi hd => by
              cases i with
              | zero => simp only [List.getElem?_cons_zero, Option.some.injEq] at hi hd; subst hi; subst hd; exact ⟨c1, c2⟩
              | succ i => simp at hi⟩
          · have hl : css.length = m := by rw [e1.1, List.length_take]; omega
            by_cases hlt : i < css.length
            · rw [List.getElem?_append_left hlt] at hi; exact e2 i ds hi
            · rw [List.getElem?_append_right (by omega)] at hi
              have : i - css.length = 0 := by
                by_cases e0 : i - css.length = 0
                · exact e0
                · rw [List.getElem?_eq_none (by simp; omega)] at hi; cases hi
              rw [this] at hi
              simp only [List.getElem?_cons_zero, Option.some.injEq] at hi
              subst hi
              have hi' : i = m := by omega
              subst hi'
              rw [add_mk] at c3
              exact c3
      obtain ⟨css, e1, e2⟩ := hch xs.length (Nat.le_refl _)
      rw [List.take_length] at e1
      refine ⟨css, e1, Src.ofSlice w hk ⟨b, o, none⟩ xs.length cap css.flatten (e1.flat_len) (fun j u hj => ?_) (e1.one g)⟩
      have hjl : j < css.flatten.length := (List.getElem?_eq_some_iff.1 hj).1
      rw [e1.flat_len] at hjl
      have hi : j / n < css.length := by rw [e1.1]; exact Nat.div_lt_of_lt_mul (by rw [Nat.mul_comm]; exact hjl)
      have hcs := List.getElem?_eq_getElem hi
      have hmod : j % n < n := Nat.mod_lt _ hn
      have hjj : j / n * n + j % n = j := by rw [Nat.mul_comm]; exact Nat.div_add_mod j n
      have h9 := flat_at e1.lens (j / n) (j % n) hcs hmod
      rw [hjj, hj] at h9
      have h10 := e2 (j / n) _ hcs (j % n) u h9.symm
      rw [add_mk] at h10
      rw [add_mk]
      rw [show o + j = o + j / n * n + j % n from by omega]
      exact h10
/-- A row of one's own that holds such elements. -/
def OQ {α : Type} (e n : Nat) (R : Reading α) (S : Blocks) (w : World) (v : Value) (xs : List α) : Prop := ∃ css, w.ownsRow 0 e n v xs.length css.flatten ∧ Els n R S w xs css
theorem OQ.nil (e : TypeId) (R : Reading α) (S : Blocks) (w : World) : OQ e n R S w (.slice none 0 0) [] := ⟨[], World.ownsRow_nil w 0 e n, Els.nil⟩
theorem OQ.lt {e : TypeId} (h : OQ e n R S w v xs) : ∀ k, v.ownBlock = some k → k < w.heap.size := fun k hk => by
  obtain ⟨css, ⟨_, h⟩, _⟩ := h
  rcases h with ⟨rfl, _⟩ | ⟨g, cap, cur, rfl, _, h2, _⟩
  · cases hk
  · cases hk; exact heap_lt h2
theorem OQ.keep {e : TypeId} (g : Good R) (h : OQ e n R S w v xs) (c : Chg T w w') (hv : ∀ k, v.ownBlock = some k → ¬ T k) (hn : ∀ k, S k → ¬ T k) : OQ e n R S w' v xs := by
  obtain ⟨css, ⟨h0, h⟩, h1⟩ := h
  refine ⟨css, ⟨h0, ?_⟩, h1.keep g c hn⟩
  rcases h with h | ⟨b, cap, cur, rfl, h2, h3, h4⟩
  · exact .inl h
  · exact .inr ⟨b, cap, cur, rfl, h2, (c.block b (heap_lt h3) (hv b rfl)).trans h3, h4⟩
theorem OQ.new {e : TypeId} (g : Good R) (h : OQ e n R S w v xs) (c : Chg No w w') : OQ e n R S w' v xs := h.keep g c (fun _ _ h => h) (fun _ _ h => h)
theorem OQ.mono {e : TypeId} (g : Good R) (h : OQ e n R S w v xs) (hn : ∀ k, S k → T k) : OQ e n R T w v xs := let ⟨css, h1, h2⟩ := h; ⟨css, h1, h2.mono g hn⟩
/-- It reads as a slice whose memory lies in T. -/
theorem OQ.sq {e : TypeId} (g : Good R) (h : OQ e n R S w v xs) (hb : ∀ k, v.ownBlock = some k → T k) (hn : ∀ k, S k → T k) : SQ n R T w v xs := by
  obtain ⟨css, ho, h1⟩ := h
  have hc := ho
  obtain ⟨h0, ho⟩ := ho
  rcases ho with ⟨rfl, h2⟩ | ⟨b, cap, cur, rfl, h2, h3, h4, h5⟩
  · rw [List.eq_nil_of_length_eq_zero h2]; exact SQ.nil
  · refine ⟨_, cap, rfl, h4, (fun h => by cases h), fun p hp _ => ?_⟩
    cases hp
    refine ⟨rfl, heap_lt h3, hb b rfl, fun i x hi => ?_⟩
    have hil : i < css.length := by rw [h1.1]; exact (List.getElem?_eq_some_iff.1 hi).1
    have hcs := List.getElem?_eq_getElem hil
    obtain ⟨c1, c2⟩ := h1.2 i x _ hi hcs
    refine ⟨css[i], c1, g.mono c2 hn, fun j u hj => ?_⟩
    have hjn : j < n := by rw [← c1]; exact (List.getElem?_eq_some_iff.1 hj).1
    have := World.ownsRow.cells (g := b) hc rfl (i * n + j) u (by rw [flat_at h1.lens i j hcs hjn]; exact hj)
    rw [add_mk] at this
    rw [add_mk, add_mk]
    rw [← Nat.add_assoc] at this
    exact this
/-- What an append of such elements leaves. -/
theorem OQ.append {e : TypeId} {m : Nat} {ys : List α} {ds : List (List Value)} (h : w.ownsRow 0 e n v m (css.flatten ++ ds.flatten)) (hm : m = xs.length + ys.length) (h1 : Els n R S w xs css) (h2 : Els n R S w ys ds) : OQ e n R S w v (xs ++ ys) :=
  ⟨css ++ ds, by rw [List.flatten_append, List.length_append, ← hm]; exact h, h1.append h2⟩
end

end Go.Proofs.YtgmmclcpfmnoiaaGreatDoor

namespace Go.Proofs.YtgmmclcpfmnoiaaGreatDoor
open Go.RowKit

/-- May a byte stand in a name: as its first one, too? -/
def letterZ (n : Int) (first : Bool) : Bool :=
  decide (97 ≤ n ∧ n ≤ 122 ∨ 65 ≤ n ∧ n ≤ 90 ∨ n = 95) || (!first && decide (48 ≤ n ∧ n ≤ 57))
/-- Place i of a text. -/
def okAt (s : List UInt8) (i : Nat) : Bool := letterZ ((s.getD i 0).toNat : Int) (i == 0)
/-- Is it a name? -/
def nameB (s : List UInt8) : Bool := (List.range s.length).all (okAt s) && !s.isEmpty && decide (s.length ≤ 32)
theorem nameB_bad {s : List UInt8} {k : Nat} (h : k < s.length) (hk : okAt s k = false) : nameB s = false := by
  unfold nameB
  have : (List.range s.length).all (okAt s) = false := by
    rw [List.all_eq_false]
    exact ⟨k, List.mem_range.2 h, by simp [hk]⟩
  simp [this]
theorem nameB_all {s : List UInt8} (h : ∀ k, k < s.length → okAt s k = true) : nameB s = (!s.isEmpty && decide (s.length ≤ 32)) := by
  unfold nameB
  have : (List.range s.length).all (okAt s) = true := List.all_eq_true.2 fun k hk => h k (List.mem_range.1 hk)
  simp [this]

end Go.Proofs.YtgmmclcpfmnoiaaGreatDoor

namespace Go.Proofs.YtgmmclcpfmnoiaaGreatDoor
open Go.RowKit


/-- "<init>". -/
def initName : Bs := [60, 105, 110, 105, 116, 62]
def objectName : Bs := [79, 98, 106, 101, 99, 116]
/-- The class of a name. -/
def fnd (cs : List Cl) (s : Bs) : Option Cl := cs.find? fun c => c.name == s
def isFaceB (c : Cl) : Bool := c.flags == 1
def thereB (cs : List Cl) (s : Bs) : Bool := (fnd cs s).isSome
def faceAtB (cs : List Cl) (s : Bs) : Bool := match fnd cs s with | some c => isFaceB c | none => false
def classAtB (cs : List Cl) (s : Bs) : Bool := match fnd cs s with | some c => !isFaceB c | none => false
def standsB (cs : List Cl) (x : Cl) : Bool := thereB cs x.super && x.faces.all (thereB cs)
def kindsB (cs : List Cl) (x : Cl) : Bool := classAtB cs x.super && x.faces.all (faceAtB cs)

/-- From one class to one just above. -/
def Up (cs : List Cl) (s t : Bs) : Prop := ∃ c, fnd cs s = some c ∧ t ∈ c.super :: c.faces ∧ t ≠ []
/-- From one class to one above. -/
inductive Reach (cs : List Cl) : Bs → Bs → Prop
  | one {s t : Bs} : Up cs s t → Reach cs s t
  | more {s t u : Bs} : Reach cs s t → Up cs t u → Reach cs s u

/-- A class and those above it. -/
inductive IsChain (cs : List Cl) : Bs → List Bs → Prop
  | nil : IsChain cs [] []
  | cons {s : Bs} {c : Cl} {l : List Bs} : s ≠ [] → fnd cs s = some c → IsChain cs c.super l → IsChain cs s (s :: l)
/-- Interfaces, each followed by its own, put behind a list, each once. -/
inductive Into (cs : List Cl) : List Bs → List Bs → List Bs → Prop
  | nil {out : List Bs} : Into cs out [] out
  | seen {s : Bs} {out l o : List Bs} : s ∈ out → Into cs out l o → Into cs out (s :: l) o
  | new {s : Bs} {c : Cl} {out o1 l o : List Bs} : s ∉ out → fnd cs s = some c → Into cs (out ++ [s]) c.faces o1 → Into cs o1 l o → Into cs out (s :: l) o
/-- That, of all of a chain. -/
inductive Walks (cs : List Cl) : List Bs → List Bs → List Bs → Prop
  | nil {out : List Bs} : Walks cs out [] out
  | cons {s : Bs} {c : Cl} {out o1 l o : List Bs} : fnd cs s = some c → Into cs out c.faces o1 → Walks cs o1 l o → Walks cs out (s :: l) o

theorem IsChain.one {cs : List Cl} {s : Bs} {l m : List Bs} (h : IsChain cs s l) (k : IsChain cs s m) : l = m := by
  induction h generalizing m with
  | nil => cases k with
    | nil => rfl
    | cons h => exact absurd rfl h
  | cons hs hf _ ih => cases k with
    | nil => exact absurd rfl hs
    | cons _ hf' hc => rw [hf] at hf'; cases hf'; rw [ih hc]
theorem Into.one {cs : List Cl} {out l o p : List Bs} (h : Into cs out l o) (k : Into cs out l p) : o = p := by
  induction h generalizing p with
  | nil => cases k; rfl
  | seen hs _ ih => cases k with
    | seen _ k => exact ih k
    | new hn => exact absurd hs hn
  | new hn hf _ _ ih1 ih2 => cases k with
    | seen hs => exact absurd hs hn
    | new _ hf' k1 k2 => rw [hf] at hf'; cases hf'; rw [ih1 k1] at ih2; exact ih2 k2
theorem Walks.one {cs : List Cl} {out l o p : List Bs} (h : Walks cs out l o) (k : Walks cs out l p) : o = p := by
  induction h generalizing p with
  | nil => cases k; rfl
  | cons hf hi _ ih => cases k with
    | cons hf' hi' k => rw [hf] at hf'; cases hf'; rw [hi.one hi'] at ih; exact ih k

/-- The class's own method. -/
def methIx (c : Cl) (n : Bs) (g : Sg) : Option Nat := c.methods.findIdx? fun m => m.name == n && m.sig == g
/-- The nearest one of a chain. -/
def nearestM (cs : List Cl) : List Bs → Bs → Sg → Option (Cl × Nat)
  | [], _, _ => none
  | s :: l, n, g => match fnd cs s with
    | none => none
    | some c => match methIx c n g with
      | some i => some (c, i)
      | none => nearestM cs l n g

open Classical in
noncomputable def chainOf (cs : List Cl) (s : Bs) : List Bs := if h : ∃ l, IsChain cs s l then Classical.choose h else []
theorem IsChain.of {cs : List Cl} {s : Bs} {l : List Bs} (h : IsChain cs s l) : chainOf cs s = l := by
  have hx : ∃ l, IsChain cs s l := ⟨l, h⟩
  unfold chainOf
  rw [dif_pos hx]
  exact (Classical.choose_spec hx).one h
open Classical in
noncomputable def walkOf (cs : List Cl) (s : Bs) : List Bs := if h : ∃ o, Walks cs [] (chainOf cs s) o then Classical.choose h else []
theorem Walks.of {cs : List Cl} {s : Bs} {l o : List Bs} (h : Walks cs [] l o) (k : IsChain cs s l) : walkOf cs s = o := by
  rw [← k.of] at h
  have hx : ∃ o, Walks cs [] (chainOf cs s) o := ⟨o, h⟩
  unfold walkOf
  rw [dif_pos hx]
  exact (Classical.choose_spec hx).one h

/-- What a method's code may not do to the one above. -/
def clashB (cs : List Cl) (up : List Bs) (m : Mt) : Bool :=
  !(m.name == initName) && match nearestM cs up m.name m.sig with
    | none => false
    | some (c, i) => m.flags == 4 || (match c.methods[i]? with | some y => y.flags == 4 | none => false)
def overridesB (cs : List Cl) (x : Cl) (up : List Bs) : Bool := isFaceB x || !(x.methods.any (clashB cs up))
/-- Is a method abstract, and lacks the chain one with code? -/
def lacksB (cs : List Cl) (chain : List Bs) (m : Mt) : Bool :=
  m.flags == 2 && match nearestM cs chain m.name m.sig with
    | none => true
    | some (c, i) => !(match c.methods[i]? with | some y => y.flags == 0 | none => false)
/-- Does a class have such a method? -/
def lackAt (cs : List Cl) (chain : List Bs) (s : Bs) : Bool := match fnd cs s with | some c => c.methods.any (lacksB cs chain) | none => false
def owesB (cs : List Cl) (x : Cl) (chain walk : List Bs) : Bool := !(x.flags == 0) || !((walk ++ chain).any (lackAt cs chain))

end Go.Proofs.YtgmmclcpfmnoiaaGreatDoor

namespace Go.Proofs.YtgmmclcpfmnoiaaGreatDoor
open Go.RowKit

section
variable {cs : List Cl}
theorem Reach.trans {s t u : Bs} (h : Reach cs s t) (k : Reach cs t u) : Reach cs s u := by
  induction k with
  | one k => exact .more h k
  | more _ k ih => exact .more ih k
theorem Up.reach {s t u : Bs} (h : Up cs s t) (k : Reach cs t u) : Reach cs s u := Reach.trans (.one h) k

/-- All that a class leads to is there; no one reaches itself. -/
structure Sound (cs : List Cl) : Prop where
  there : ∀ c ∈ cs, (c.super = [] ∨ ∃ d, fnd cs c.super = some d) ∧ ∀ s ∈ c.faces, ∃ d, fnd cs s = some d
  names : ∀ c ∈ cs, c.name ≠ []
  free : ∀ c ∈ cs, ¬ Reach cs c.name c.name

theorem fnd_mem {s : Bs} {c : Cl} (h : fnd cs s = some c) : c ∈ cs ∧ c.name = s := ⟨List.mem_of_find?_eq_some h, by have := List.find?_some h; simpa using this⟩

open Classical in
/-- How many classes are reached. -/
noncomputable def rank (cs : List Cl) (s : Bs) : Nat := (cs.filter fun c => decide (Reach cs s c.name)).length
theorem filter_lt {α : Type} {p q : α → Bool} {l : List α} (h : ∀ x ∈ l, p x = true → q x = true) {a : α} (ha : a ∈ l) (hp : p a = false) (hq : q a = true) : (l.filter p).length < (l.filter q).length := by
  induction l with
  | nil => cases ha
  | cons x r ih =>
    have hle : (r.filter p).length ≤ (r.filter q).length := by
      have : ∀ (m : List α), (∀ x ∈ m, p x = true → q x = true) → (m.filter p).length ≤ (m.filter q).length := by
        intro m
        induction m with
        | nil => intro _; exact Nat.le_refl _
        | cons y m ih2 =>
          intro hm
          have h2 := ih2 (fun x hx => hm x (List.mem_cons_of_mem _ hx))
          have h3 := hm y (List.mem_cons_self ..)
          cases hpy : p y <;> cases hqy : q y <;> simp_all <;> omega
      exact this r (fun x hx => h x (List.mem_cons_of_mem _ hx))
    rcases List.mem_cons.1 ha with rfl | hr
    · simp [hp, hq]; omega
    · have h2 := ih (fun x hx => h x (List.mem_cons_of_mem _ hx)) hr
      have h3 := h x (List.mem_cons_self ..)
      cases hpy : p x <;> cases hqy : q x <;> simp_all <;> omega
theorem rank_lt (h : Sound cs) {s t : Bs} {d : Cl} (hu : Up cs s t) (ht : fnd cs t = some d) : rank cs t < rank cs s := by
  unfold rank
  have hd := fnd_mem ht
  refine filter_lt (a := d) (fun x _ hx => ?_) hd.1 ?_ ?_
  · simp only [decide_eq_true_eq] at hx ⊢; exact hu.reach hx
  · simp only [decide_eq_false_iff_not]; rw [← hd.2]; exact h.free d hd.1
  · simp only [decide_eq_true_eq]; rw [hd.2]; exact .one hu

theorem chain_exists (h : Sound cs) : ∀ (n : Nat) (s : Bs) (c : Cl), rank cs s < n → s ≠ [] → fnd cs s = some c → ∃ l, IsChain cs s l := by
  intro n
  induction n with
  | zero => intro s c hn; omega
  | succ n ih =>
    intro s c hn hs hc
    have hm := fnd_mem hc
    rcases (h.there c hm.1).1 with h0 | ⟨d, hd⟩
    · exact ⟨[s], .cons hs hc (by rw [h0]; exact .nil)⟩
    · by_cases h0 : c.super = []
      · exact ⟨[s], .cons hs hc (by rw [h0]; exact .nil)⟩
      · have hlt := rank_lt h (s := s) ⟨c, hc, List.mem_cons_self .., h0⟩ hd
        obtain ⟨l, hl⟩ := ih c.super d (by omega) h0 hd
        exact ⟨s :: l, .cons hs hc hl⟩
theorem into_list {l : List Bs} (h : ∀ s ∈ l, ∃ c, fnd cs s = some c ∧ ∀ out, ∃ o, Into cs out c.faces o) (out : List Bs) : ∃ o, Into cs out l o := by
  induction l generalizing out with
  | nil => exact ⟨out, .nil⟩
  | cons s l ih =>
    have hl := fun s' hs' => h s' (List.mem_cons_of_mem _ hs')
    by_cases hm : s ∈ out
    · obtain ⟨o, ho⟩ := ih hl out
      exact ⟨o, .seen hm ho⟩
    · obtain ⟨c, hc, hi⟩ := h s (List.mem_cons_self ..)
      obtain ⟨o1, ho1⟩ := hi (out ++ [s])
      obtain ⟨o, ho⟩ := ih hl o1
      exact ⟨o, .new hm hc ho1 ho⟩
theorem into_exists (h : Sound cs) : ∀ (n : Nat) (s : Bs) (c : Cl), rank cs s < n → fnd cs s = some c → ∀ out, ∃ o, Into cs out c.faces o := by
  intro n
  induction n with
  | zero => intro s c hn; omega
  | succ n ih =>
    intro s c hn hc out
    have hm := fnd_mem hc
    refine into_list (fun t ht => ?_) out
    obtain ⟨d, hd⟩ := (h.there c hm.1).2 t ht
    have hne : t ≠ [] := by
      have := fnd_mem hd
      rw [← this.2]; exact h.names d this.1
    have hlt := rank_lt h (s := s) ⟨c, hc, List.mem_cons_of_mem _ ht, hne⟩ hd
    exact ⟨d, hd, ih t d (by omega) hd⟩
theorem walks_exists (h : Sound cs) {s : Bs} {l : List Bs} (hl : IsChain cs s l) (out : List Bs) : ∃ o, Walks cs out l o := by
  induction hl generalizing out with
  | nil => exact ⟨out, .nil⟩
  | cons hs hc _ ih =>
    obtain ⟨o1, h1⟩ := into_exists h _ _ _ (Nat.lt_succ_self _) hc out
    obtain ⟨o, ho⟩ := ih o1
    exact ⟨o, .cons hc h1 ho⟩
end

end Go.Proofs.YtgmmclcpfmnoiaaGreatDoor

namespace Go.Proofs.YtgmmclcpfmnoiaaGreatDoor
open Go.RowKit

def throwableName : Bs := [84, 104, 114, 111, 119, 97, 98, 108, 101]
def firstNames : List Bs := [objectName, throwableName, [78, 105, 108, 69, 114, 114, 111, 114], [66, 111, 117, 110, 100, 115, 69, 114, 114, 111, 114], [67, 97, 115, 116, 69, 114, 114, 111, 114], [68, 105, 118, 69, 114, 114, 111, 114], [68, 101, 112, 116, 104, 69, 114, 114, 111, 114], [72, 101, 97, 112, 69, 114, 114, 111, 114]]
def initM : Mt := ⟨0, initName, ⟨[], true, ⟨0, []⟩⟩, 0, 0, [], []⟩
def firstSuper : Nat → Bs
  | 0 => []
  | 1 => objectName
  | _ + 2 => throwableName
/-- The classes that are there from the beginning. -/
def firsts : List Cl := (List.range 8).map fun i => ⟨0, firstNames[i]?.getD [], firstSuper i, [], [], [initM]⟩

/-- The i-th name. -/
def cName (i : Nat) : Bs := [67, UInt8.ofNat (65 + i / 26), UInt8.ofNat (97 + i % 26)]
def cClass (n : Nat) (circle : Bool) (i : Nat) : Cl :=
  ⟨0, cName i, if i = 0 then (if circle then cName (n - 1) else objectName) else cName (i - 1), [], [], []⟩
def deepCls (n : Nat) (circle : Bool) : List Cl := firsts ++ (List.range n).map (cClass n circle)

theorem cName_inj {i j : Nat} (hi : i < 45) (hj : j < 45) (h : cName i = cName j) : i = j := by
  unfold cName at h
  simp only [List.cons.injEq, and_true, true_and] at h
  obtain ⟨h1, h2⟩ := h
  have e1 := congrArg UInt8.toNat h1
  have e2 := congrArg UInt8.toNat h2
  simp only [UInt8.toNat_ofNat'] at e1 e2
  omega
theorem cName_ne_nil (i : Nat) : cName i ≠ [] := by simp [cName]
theorem firsts_names : ∀ c ∈ firsts, 6 ≤ c.name.length := by decide
theorem fnd_first_c (i : Nat) : firsts.find? (fun c => c.name == cName i) = none := by
  rw [List.find?_eq_none]
  intro c hc
  have := firsts_names c hc
  simp only [beq_iff_eq]
  intro e
  rw [e] at this
  simp [cName] at this
theorem fnd_c {n i : Nat} {circle : Bool} (hn : n ≤ 45) (hi : i < n) : fnd (deepCls n circle) (cName i) = some (cClass n circle i) := by
  unfold fnd deepCls
  rw [List.find?_append, fnd_first_c, Option.none_or, List.find?_map, Option.map_eq_some_iff]
  refine ⟨i, ?_, rfl⟩
  rw [List.find?_range_eq_some]
  refine ⟨by simp [cClass], List.mem_range.2 hi, fun j hj => ?_⟩
  simp only [Function.comp, cClass, Bool.not_eq_true', beq_eq_false_iff_ne]
  intro e
  have := cName_inj (by omega) (by omega) e
  omega
theorem fnd_object (n : Nat) (circle : Bool) : fnd (deepCls n circle) objectName = some ⟨0, objectName, [], [], [], [initM]⟩ := by
  unfold fnd deepCls
  rw [List.find?_append]
  rfl

/-- Without a circle nothing but what stands ahead is reached. -/
theorem reach_c {n i : Nat} (hn : n ≤ 45) (hi : i < n) {t : Bs} (h : Reach (deepCls n false) (cName i) t) : t = objectName ∨ ∃ j, j < i ∧ t = cName j := by
  have up : ∀ {k : Nat} {u : Bs}, k < n → Up (deepCls n false) (cName k) u → u = objectName ∨ ∃ j, j < k ∧ u = cName j := by
    rintro k u hk ⟨c, hc, hu, -⟩
    rw [fnd_c hn hk] at hc
    cases hc
    simp only [cClass, List.mem_singleton] at hu
    subst hu
    by_cases h0 : k = 0
    · left; simp [h0]
    · right; exact ⟨k - 1, by omega, by simp [h0]⟩
  induction h with
  | one h => exact up hi h
  | more _ h ih =>
    rcases ih with rfl | ⟨j, hj, rfl⟩
    · obtain ⟨c, hc, hu, hne⟩ := h
      rw [fnd_object] at hc
      cases hc
      simp only [List.mem_singleton] at hu
      exact absurd hu hne
    · rcases up (by omega) h with h | ⟨m, hm, h⟩
      · exact .inl h
      · exact .inr ⟨m, by omega, h⟩
theorem no_circle {n i : Nat} (hn : n ≤ 45) (hi : i < n) : ¬ Reach (deepCls n false) (cName i) (cName i) := fun h => by
  rcases reach_c hn hi h with h | ⟨j, hj, h⟩
  · have := congrArg List.length h; simp [cName, objectName] at this
  · have := cName_inj (by omega) (by omega) h; omega
/-- In a circle the first class reaches itself. -/
theorem circle_c {n : Nat} (hn : n ≤ 45) (h0 : 0 < n) : Reach (deepCls n true) (cName 0) (cName 0) := by
  have key : ∀ d, d < n → Reach (deepCls n true) (cName 0) (cName (n - 1 - d)) := by
    intro d
    induction d with
    | zero => intro _; exact .one ⟨_, fnd_c hn h0, by simp [cClass], cName_ne_nil _⟩
    | succ d ih =>
      intro hd
      refine .more (ih (by omega)) ⟨_, fnd_c hn (by omega), ?_, cName_ne_nil _⟩
      have : n - 1 - d ≠ 0 := by omega
      simp only [cClass, this, ↓reduceIte, List.mem_singleton]
      rw [show n - 1 - (d + 1) = n - 1 - d - 1 from by omega]
  have := key (n - 1) (by omega)
  rwa [Nat.sub_self] at this

def chainL : Nat → List Bs
  | 0 => [cName 0, objectName]
  | i + 1 => cName (i + 1) :: chainL i
theorem chainL_len (i : Nat) : (chainL i).length = i + 2 := by
  induction i with
  | zero => rfl
  | succ i ih => simp [chainL, ih]
theorem chainL_is {n i : Nat} (hn : n ≤ 45) (hi : i < n) : IsChain (deepCls n false) (cName i) (chainL i) := by
  induction i with
  | zero =>
    refine .cons (cName_ne_nil _) (fnd_c hn hi) ?_
    simp only [cClass, ↓reduceIte, Bool.false_eq_true]
    exact .cons (by decide) (fnd_object _ _) .nil
  | succ i ih =>
    refine .cons (cName_ne_nil _) (fnd_c hn hi) ?_
    simp only [cClass, Nat.add_one_ne_zero, ↓reduceIte, Nat.add_sub_cancel]
    exact ih (by omega)
theorem chainL_mem {i : Nat} {s : Bs} (h : s ∈ chainL i) : s = objectName ∨ ∃ j, j ≤ i ∧ s = cName j := by
  induction i with
  | zero => simp only [chainL, List.mem_cons, List.not_mem_nil, or_false] at h; rcases h with h | h; exact .inr ⟨0, Nat.le_refl _, h⟩; exact .inl h
  | succ i ih =>
    rcases List.mem_cons.1 h with h | h
    · exact .inr ⟨i + 1, Nat.le_refl _, h⟩
    · rcases ih h with h | ⟨j, hj, h⟩
      · exact .inl h
      · exact .inr ⟨j, by omega, h⟩
/-- Classes without interfaces have none. -/
theorem walks_none {cs : List Cl} {l : List Bs} (h : ∀ s ∈ l, ∃ c, fnd cs s = some c ∧ c.faces = []) : Walks cs [] l [] := by
  induction l with
  | nil => exact .nil
  | cons s l ih =>
    obtain ⟨c, hc, hf⟩ := h s (List.mem_cons_self ..)
    exact .cons hc (by rw [hf]; exact .nil) (ih fun s hs => h s (List.mem_cons_of_mem _ hs))
theorem chainL_walks {n i : Nat} (hn : n ≤ 45) (hi : i < n) : Walks (deepCls n false) [] (chainL i) [] := by
  refine walks_none fun s hs => ?_
  rcases chainL_mem hs with rfl | ⟨j, hj, rfl⟩
  · exact ⟨_, fnd_object _ _, rfl⟩
  · exact ⟨_, fnd_c hn (by omega), rfl⟩
theorem chainL_owes {n i : Nat} (hn : n ≤ 45) (hi : i < n) (x : Cl) : owesB (deepCls n false) x (chainL i) [] = true := by
  unfold owesB
  have : (([] : List Bs) ++ chainL i).any (lackAt (deepCls n false) (chainL i)) = false := by
    rw [List.nil_append, List.any_eq_false]
    intro s hs
    rcases chainL_mem hs with rfl | ⟨j, hj, rfl⟩
    · unfold lackAt; rw [fnd_object]; simp [initM, lacksB]
    · unfold lackAt; rw [fnd_c hn (by omega)]; simp [cClass]
  rw [this]; simp

end Go.Proofs.YtgmmclcpfmnoiaaGreatDoor

namespace Go.Proofs.YtgmmclcpfmnoiaaGreatDoor
open Go.RowKit

/-- A number that falls from each class to those above: nobody reaches itself. -/
theorem no_reach {cs : List Cl} (r : Bs → Nat) (h : ∀ c ∈ cs, ∀ t ∈ c.super :: c.faces, t ≠ [] → r t < r c.name) (s : Bs) : ¬ Reach cs s s := by
  have up : ∀ {s t : Bs}, Up cs s t → r t < r s := by
    rintro s t ⟨c, hc, ht, hne⟩
    have hm := fnd_mem hc
    have := h c hm.1 t ht hne
    rwa [hm.2] at this
  have key : ∀ {s t : Bs}, Reach cs s t → r t < r s := by
    intro s t h
    induction h with
    | one h => exact up h
    | more _ h ih => exact Nat.lt_trans (up h) ih
  intro h
  exact Nat.lt_irrefl _ (key h)

def kA : Bs := [65]
def kB : Bs := [66]
def kC : Bs := [67]
def kn (i : Nat) : Cl := if i = 0 then ⟨0, kA, objectName, [], [], []⟩ else if i = 1 then ⟨0, kB, kA, [], [], []⟩ else ⟨0, kC, kA, [], [], []⟩
def knCls : List Cl := firsts ++ [kn 0, kn 1, kn 2]
def knRank (s : Bs) : Nat := if s = objectName then 0 else if s = kA ∨ s = throwableName then 1 else 2
theorem kn_free (s : Bs) : ¬ Reach knCls s s := no_reach knRank (by decide) s
theorem kn_obj : fnd knCls objectName = some ⟨0, objectName, [], [], [], [initM]⟩ := by decide
theorem kn_a : fnd knCls kA = some (kn 0) := by decide
theorem kn_b : fnd knCls kB = some (kn 1) := by decide
theorem kn_c : fnd knCls kC = some (kn 2) := by decide
theorem kn_chain_a : IsChain knCls kA [kA, objectName] := .cons (by decide) kn_a (.cons (by decide) kn_obj .nil)
theorem kn_chain_b : IsChain knCls kB [kB, kA, objectName] := .cons (by decide) kn_b kn_chain_a
theorem kn_chain_c : IsChain knCls kC [kC, kA, objectName] := .cons (by decide) kn_c kn_chain_a
/-- The chains of those that are there from the beginning. -/
theorem first_chain {cs : List Cl} (i : Nat) (hi : i < 8) (h : ∀ c ∈ firsts, fnd cs c.name = some c) : ∃ l, IsChain cs (firstNames[i]?.getD []) l ∧ l.length ≤ 3 ∧ ∀ s ∈ l, ∃ c ∈ firsts, fnd cs s = some c := by
  have h0 := h ⟨0, objectName, [], [], [], [initM]⟩ (by decide)
  have h1 := h ⟨0, throwableName, objectName, [], [], [initM]⟩ (by decide)
  have c0 : IsChain cs objectName [objectName] := .cons (by decide) h0 .nil
  have c1 : IsChain cs throwableName [throwableName, objectName] := .cons (by decide) h1 c0
  have m0 : ∀ s ∈ [objectName], ∃ c ∈ firsts, fnd cs s = some c := fun s hs => by
    simp only [List.mem_singleton] at hs; subst hs; exact ⟨_, by decide, h0⟩
  have m1 : ∀ s ∈ [throwableName, objectName], ∃ c ∈ firsts, fnd cs s = some c := fun s hs => by
    rcases List.mem_cons.1 hs with rfl | hs
    · exact ⟨_, by decide, h1⟩
    · exact m0 s hs
  by_cases i0 : i = 0
  · subst i0; exact ⟨_, c0, by decide, m0⟩
  by_cases i1 : i = 1
  · subst i1; exact ⟨_, c1, by decide, m1⟩
  have hx : firstNames[i]?.getD [] ≠ [] ∧ (⟨0, firstNames[i]?.getD [], throwableName, [], [], [initM]⟩ : Cl) ∈ firsts := by
    have : i = 2 ∨ i = 3 ∨ i = 4 ∨ i = 5 ∨ i = 6 ∨ i = 7 := by omega
    rcases this with rfl | rfl | rfl | rfl | rfl | rfl <;> decide
  have h2 := h _ hx.2
  exact ⟨_, .cons hx.1 h2 c1, Nat.le_refl 3, fun s hs => by
    rcases List.mem_cons.1 hs with rfl | hs
    · exact ⟨_, hx.2, h2⟩
    · exact m1 s hs⟩
theorem firsts_faces : ∀ c ∈ firsts, c.faces = [] := by decide

end Go.Proofs.YtgmmclcpfmnoiaaGreatDoor

namespace Go.Proofs.YtgmmclcpfmnoiaaGreatDoor
open Go.RowKit

theorem nodup_le {α : Type} [DecidableEq α] {l m : List α} (h : l.Nodup) (hs : ∀ a ∈ l, a ∈ m) : l.length ≤ m.length := by
  induction l generalizing m with
  | nil => simp
  | cons a l ih =>
    rw [List.nodup_cons] at h
    have ha := hs a (List.mem_cons_self ..)
    have := ih (m := m.erase a) h.2 (fun b hb => (List.mem_erase_of_ne (fun (e : b = a) => h.1 (by rw [← e]; exact hb))).2 (hs b (List.mem_cons_of_mem _ hb)))
    rw [List.length_erase_of_mem ha] at this
    have hpos : 0 < m.length := List.length_pos_of_mem ha
    simp only [List.length_cons]
    omega

/-- x and what came of it so far: T; all up to place i are gone through. -/
structure FreeP (cs : List Cl) (x : Bs) (T : List Bs) (i : Nat) : Prop where
  reach : ∀ t ∈ T, Reach cs x t ∧ ∃ c, fnd cs t = some c
  nodup : (x :: T).Nodup
  done : ∀ (j : Nat) (s : Bs) (c : Cl), j < i → (x :: T)[j]? = some s → fnd cs s = some c → ∀ u ∈ c.super :: c.faces, u ≠ x ∧ (u ≠ [] → u ∈ T)
/-- The class at place i, of whose names j are gone through. -/
structure FreeQ (cs : List Cl) (x : Bs) (T : List Bs) (i : Nat) (y : Bs) (c : Cl) (j : Nat) : Prop where
  p : FreeP cs x T i
  at_ : (x :: T)[i]? = some y
  cl : fnd cs y = some c
  part : ∀ u ∈ (c.super :: c.faces).take j, u ≠ x ∧ (u ≠ [] → u ∈ T)

section
variable {cs : List Cl} {x y : Bs} {T : List Bs} {i j : Nat} {c : Cl}
theorem FreeP.start (cs : List Cl) (x : Bs) : FreeP cs x [] 0 := ⟨fun t ht => (nomatch ht), by simp, fun j s c hj => by omega⟩
theorem FreeP.begin (h : FreeP cs x T i) (ha : (x :: T)[i]? = some y) (hc : fnd cs y = some c) : FreeQ cs x T i y c 0 := ⟨h, ha, hc, fun u hu => by simp at hu⟩
theorem FreeQ.from_ (h : FreeQ cs x T i y c j) {u : Bs} (hu : (c.super :: c.faces)[j]? = some u) (hne : u ≠ []) : Reach cs x u := by
  have hup : Up cs y u := ⟨c, h.cl, List.mem_of_getElem? hu, hne⟩
  have hm := List.mem_of_getElem? h.at_
  rcases List.mem_cons.1 hm with e | hm
  · subst e; exact .one hup
  · exact .more (h.p.reach y hm).1 hup
theorem take_snoc {α : Type} {l : List α} {j : Nat} {u : α} (h : l[j]? = some u) : l.take (j + 1) = l.take j ++ [u] := by
  obtain ⟨hj, rfl⟩ := List.getElem?_eq_some_iff.1 h
  exact List.take_succ_eq_append_getElem hj
theorem FreeQ.skip (h : FreeQ cs x T i y c j) {u : Bs} (hu : (c.super :: c.faces)[j]? = some u) (hx : u ≠ x) (ht : u ≠ [] → u ∈ T) : FreeQ cs x T i y c (j + 1) := by
  refine ⟨h.p, h.at_, h.cl, fun v hv => ?_⟩
  rw [take_snoc hu] at hv
  rcases List.mem_append.1 hv with hv | hv
  · exact h.part v hv
  · simp only [List.mem_singleton] at hv; subst hv; exact ⟨hx, ht⟩
theorem FreeQ.add (h : FreeQ cs x T i y c j) {u : Bs} {d : Cl} (hu : (c.super :: c.faces)[j]? = some u) (hx : u ≠ x) (hne : u ≠ []) (hn : u ∉ T) (hd : fnd cs u = some d) : FreeQ cs x (T ++ [u]) i y c (j + 1) := by
  have hi : i < (x :: T).length := (List.getElem?_eq_some_iff.1 h.at_).1
  have hget : ∀ (k : Nat) (s : Bs), k ≤ i → (x :: (T ++ [u]))[k]? = some s → (x :: T)[k]? = some s := fun k s hk hs => by
    rw [show x :: (T ++ [u]) = (x :: T) ++ [u] from rfl, List.getElem?_append_left (by omega)] at hs
    exact hs
  refine ⟨⟨?_, ?_, ?_⟩, ?_, h.cl, ?_⟩
  · intro t ht
    rcases List.mem_append.1 ht with ht | ht
    · exact h.p.reach t ht
    · simp only [List.mem_singleton] at ht; subst ht; exact ⟨h.from_ hu hne, d, hd⟩
  · rw [show x :: (T ++ [u]) = (x :: T) ++ [u] from rfl, List.nodup_append]
    refine ⟨h.p.nodup, by simp, fun a ha b hb => ?_⟩
    simp only [List.mem_singleton] at hb
    subst hb
    rcases List.mem_cons.1 ha with e | ha
    · subst e; exact fun e => hx e.symm
    · exact fun e => hn (e ▸ ha)
  · intro k s e hk hs he v hv
    obtain ⟨h1, h2⟩ := h.p.done k s e hk (hget k s (by omega) hs) he v hv
    exact ⟨h1, fun hv => List.mem_append_left _ (h2 hv)⟩
  · rw [show x :: (T ++ [u]) = (x :: T) ++ [u] from rfl, List.getElem?_append_left hi]
    exact h.at_
  · intro v hv
    rw [take_snoc hu] at hv
    rcases List.mem_append.1 hv with hv | hv
    · obtain ⟨h1, h2⟩ := h.part v hv
      exact ⟨h1, fun hv => List.mem_append_left _ (h2 hv)⟩
    · simp only [List.mem_singleton] at hv; subst hv; exact ⟨hx, fun _ => List.mem_append_right _ (by simp)⟩
theorem FreeQ.next (h : FreeQ cs x T i y c j) (hj : (c.super :: c.faces).length ≤ j) : FreeP cs x T (i + 1) := by
  refine ⟨h.p.reach, h.p.nodup, fun k s e hk hs he => ?_⟩
  by_cases hki : k = i
  · subst hki
    rw [h.at_] at hs
    cases hs
    rw [h.cl] at he
    cases he
    have := h.part
    rwa [List.take_of_length_le hj] at this
  · exact h.p.done k s e (by omega) hs he
/-- Gone through to the end: x is not reached. -/
theorem FreeP.end_ (h : FreeP cs x T i) (hi : (x :: T).length ≤ i) : ¬ Reach cs x x := by
  have key : ∀ {t : Bs}, Reach cs x t → t ∈ T := by
    intro t ht
    have one : ∀ {s u : Bs}, s ∈ x :: T → Up cs s u → u ∈ T := by
      rintro s u hs ⟨e, he, hu, hne⟩
      obtain ⟨k, hk⟩ := List.getElem?_of_mem hs
      have hlt := (List.getElem?_eq_some_iff.1 hk).1
      exact (h.done k s e (by omega) hk he u hu).2 hne
    induction ht with
    | one hu => exact one (List.mem_cons_self ..) hu
    | more _ hu ih => exact one (List.mem_cons_of_mem _ ih) hu
  intro hr
  have hn := h.nodup
  rw [List.nodup_cons] at hn
  exact hn.1 (key hr)
theorem FreeP.len (h : FreeP cs x T i) (hx : ∃ c, fnd cs x = some c) : (x :: T).length ≤ cs.length := by
  have := nodup_le (m := cs.map (·.name)) h.nodup (fun a ha => by
    have key : ∀ {s : Bs} {d : Cl}, fnd cs s = some d → s ∈ cs.map (·.name) := fun {s d} hd => by
      have hm := fnd_mem hd
      rw [← hm.2]; exact List.mem_map_of_mem hm.1
    rcases List.mem_cons.1 ha with e | ha
    · subst e; exact key hx.choose_spec
    · exact key (h.reach a ha).2.choose_spec)
  rwa [List.length_map] at this
end

end Go.Proofs.YtgmmclcpfmnoiaaGreatDoor

namespace Go.Proofs.YtgmmclcpfmnoiaaGreatDoor
open Go.RowKit

def rkF (s : Bs) : Nat := if s = objectName then 0 else if s = throwableName then 1 else 2
theorem first_up : ∀ c ∈ firsts, c.super ≠ [] → (∃ d ∈ firsts, d.name = c.super) ∧ rkF c.super < rkF c.name := by decide
theorem first_self : ∀ c ∈ firsts, firsts.find? (fun x => x.name == c.name) = some c := by decide
theorem first_nn : ∀ c ∈ firsts, c.name ≠ [] := by decide
theorem first_nf : ∀ c ∈ firsts, c.faces = [] := by decide
section
variable {tl : List Cl}
theorem first_fnd : ∀ c ∈ firsts, fnd (firsts ++ tl) c.name = some c := fun c hc => by
  unfold fnd
  rw [List.find?_append, first_self c hc]
  rfl
theorem up_first {s t : Bs} (h : Up (firsts ++ tl) s t) (hs : ∃ c ∈ firsts, c.name = s) : (∃ c ∈ firsts, c.name = t) ∧ rkF t < rkF s := by
  obtain ⟨c, hc, rfl⟩ := hs
  obtain ⟨d, hd, ht, hne⟩ := h
  rw [first_fnd c hc] at hd
  cases hd
  rw [first_nf c hc, List.mem_singleton] at ht
  subst ht
  exact first_up c hc hne
theorem reach_first {s t : Bs} (h : Reach (firsts ++ tl) s t) (hs : ∃ c ∈ firsts, c.name = s) : (∃ c ∈ firsts, c.name = t) ∧ rkF t < rkF s := by
  induction h with
  | one h => exact up_first h hs
  | more _ h ih => exact ⟨(up_first h ih.1).1, Nat.lt_trans (up_first h ih.1).2 ih.2⟩
theorem free_first {c : Cl} (hc : c ∈ firsts) : ¬ Reach (firsts ++ tl) c.name c.name := fun h => Nat.lt_irrefl _ (reach_first h ⟨c, hc, rfl⟩).2

theorem thereB_some {cs : List Cl} {s : Bs} : thereB cs s = true ↔ ∃ d, fnd cs s = some d := by unfold thereB; rw [Option.isSome_iff_exists]
theorem sound_of (hn : ∀ c ∈ tl, c.name ≠ []) (hst : ∀ c ∈ tl, standsB (firsts ++ tl) c = true) (hfr : ∀ c ∈ tl, ¬ Reach (firsts ++ tl) c.name c.name) : Sound (firsts ++ tl) where
  there := fun c hc => by
    rcases List.mem_append.1 hc with h | h
    · refine ⟨?_, fun s hs => by rw [first_nf c h] at hs; cases hs⟩
      by_cases h0 : c.super = []
      · exact .inl h0
      · obtain ⟨⟨d, hd, he⟩, -⟩ := first_up c h h0
        exact .inr ⟨d, by rw [← he]; exact first_fnd d hd⟩
    · have := hst c h
      unfold standsB at this
      rw [Bool.and_eq_true, List.all_eq_true] at this
      exact ⟨.inr (thereB_some.1 this.1), fun s hs => thereB_some.1 (this.2 s hs)⟩
  names := fun c hc => by
    rcases List.mem_append.1 hc with h | h
    · exact first_nn c h
    · exact hn c h
  free := fun c hc => by
    rcases List.mem_append.1 hc with h | h
    · exact free_first h
    · exact hfr c h
end
section
variable {cs : List Cl}
theorem rank_le (s : Bs) : rank cs s ≤ cs.length := by unfold rank; exact List.length_filter_le ..
theorem IsChain.inv {s : Bs} {l : List Bs} (h : IsChain cs s l) : (s = [] ∧ l = []) ∨ ∃ c l', s ≠ [] ∧ fnd cs s = some c ∧ l = s :: l' ∧ IsChain cs c.super l' := by
  cases h with
  | nil => exact .inl ⟨rfl, rfl⟩
  | cons h1 h2 h3 => exact .inr ⟨_, _, h1, h2, rfl, h3⟩
theorem chain_len (h : Sound cs) {s : Bs} {l : List Bs} (hc : IsChain cs s l) : l.length ≤ rank cs s + 1 := by
  induction hc with
  | nil => simp
  | cons hs hf hc ih =>
    rename_i s c l
    have hm := fnd_mem hf
    rcases hc.inv with ⟨-, rfl⟩ | ⟨d, l', hs', hf', rfl, hc'⟩
    · simp
    · have := rank_lt h (s := s) ⟨c, hf, List.mem_cons_self .., hs'⟩ hf'
      simp only [List.length_cons] at ih ⊢
      omega
theorem chain_mem {s : Bs} {l : List Bs} (hc : IsChain cs s l) : ∀ t ∈ l, ∃ c, fnd cs t = some c := by
  induction hc with
  | nil => intro t ht; cases ht
  | cons hs hf _ ih =>
    intro t ht
    rcases List.mem_cons.1 ht with rfl | ht
    · exact ⟨_, hf⟩
    · exact ih t ht
theorem into_mem {out l o : List Bs} (h : Into cs out l o) (ho : out.Nodup ∧ ∀ s ∈ out, ∃ c, fnd cs s = some c) : o.Nodup ∧ ∀ s ∈ o, ∃ c, fnd cs s = some c := by
  induction h with
  | nil => exact ho
  | seen _ _ ih => exact ih ho
  | new hn hf _ _ ih1 ih2 =>
    refine ih2 (ih1 ⟨?_, fun s hs => ?_⟩)
    · rw [List.nodup_append]
      exact ⟨ho.1, by simp, fun a ha b hb e => by simp only [List.mem_singleton] at hb; subst hb; subst e; exact hn ha⟩
    · rcases List.mem_append.1 hs with hs | hs
      · exact ho.2 s hs
      · simp only [List.mem_singleton] at hs; subst hs; exact ⟨_, hf⟩
theorem walks_mem {out l o : List Bs} (h : Walks cs out l o) (ho : out.Nodup ∧ ∀ s ∈ out, ∃ c, fnd cs s = some c) : o.Nodup ∧ ∀ s ∈ o, ∃ c, fnd cs s = some c := by
  induction h with
  | nil => exact ho
  | cons _ hi _ ih => exact ih (into_mem hi ho)
theorem walks_len {l o : List Bs} (h : Walks cs [] l o) : o.length ≤ cs.length := by
  obtain ⟨h1, h2⟩ := walks_mem h ⟨List.nodup_nil, fun s hs => by cases hs⟩
  have := nodup_le h1 (m := cs.map (·.name)) (fun s hs => by
    obtain ⟨c, hc⟩ := h2 s hs
    have hm := fnd_mem hc
    exact List.mem_map.2 ⟨c, hm.1, hm.2⟩)
  rwa [List.length_map] at this
theorem super_ne (h : Sound cs) {c : Cl} (hc : thereB cs c.super = true) : c.super ≠ [] := fun e => by
  obtain ⟨d, hd⟩ := thereB_some.1 hc
  have hm := fnd_mem hd
  exact h.names d hm.1 (hm.2.trans e)
theorem chain_two {s : Bs} {c : Cl} {l : List Bs} (hc : IsChain cs s l) (hs : s ≠ []) (hf : fnd cs s = some c) (hne : c.super ≠ []) : 2 ≤ l.length := by
  cases hc with
  | nil => exact absurd rfl hs
  | cons _ hf' hc' =>
    rw [hf] at hf'; cases hf'
    rcases hc'.inv with ⟨h0, -⟩ | ⟨d, l', -, -, rfl, -⟩
    · exact absurd h0 hne
    · simp
/-- In a sound world each class has its chain and its walk. -/
theorem sound_cw (h : Sound cs) {c : Cl} (hc : fnd cs c.name = some c) (hm : c ∈ cs) : IsChain cs c.name (chainOf cs c.name) ∧ Walks cs [] (chainOf cs c.name) (walkOf cs c.name) := by
  obtain ⟨l, hl⟩ := chain_exists h _ c.name c (Nat.lt_succ_self _) (h.names c hm) hc
  obtain ⟨o, ho⟩ := walks_exists h hl []
  have e1 := hl.of
  have e2 := ho.of hl
  rw [e1]
  rw [e2]
  exact ⟨hl, ho⟩
end

end Go.Proofs.YtgmmclcpfmnoiaaGreatDoor

namespace Go.Proofs.YtgmmclcpfmnoiaaGreatDoor
open Go.RowKit

abbrev zTy : Ty := ⟨0, []⟩
abbrev zSg : Sg := ⟨[], false, zTy⟩
/-- What is wrong with a type. -/
def tyErr (t : Ty) : Int := if t.dims < 0 ∨ 8 < t.dims then 1 else if t.name ≠ [] ∧ nameB t.name = false then 14 else 0
/-- How many brackets a text begins with. -/
def brk : Bs → Nat
  | [] => 0
  | c :: r => if c = 91 then brk r + 1 else 0
/-- A text ahead of a byte, and behind it. -/
def cutAt (c : UInt8) : Bs → Option (Bs × Bs)
  | [] => none
  | x :: r => if x = c then some ([], r) else match cutAt c r with
    | none => none
    | some (a, b) => some (x :: a, b)
/-- The type at the beginning of a text, and what is left. -/
def firstTy (s : Bs) : Option (Ty × Bs) :=
  if 8 < brk s then none else match s.drop (brk s) with
    | [] => none
    | c :: q => if c = 73 then some (⟨(brk s : Int), []⟩, q) else if c = 76 then (match cutAt 59 q with
      | none => none
      | some (nm, rest) => if nameB nm = true then some (⟨(brk s : Int), nm⟩, rest) else none) else none
def typeRead (s : Bs) : Ty × Int := match firstTy s with
  | some (t, []) => (t, 0)
  | _ => (zTy, 15)
def tyTail (n : Bs) : Bs := if n = [] then [73] else 76 :: (n ++ [59])
def tyBody (t : Ty) : Bs := List.replicate t.dims.toNat 91 ++ tyTail t.name
def typeText (t : Ty) : Bs × Int := if tyErr t = 0 then (tyBody t, 0) else ([], tyErr t)
/-- The parameters of a signature, up to the bracket that closes them. -/
def sigPs : Nat → Bs → Option (List Ty × Bs)
  | 0, _ => none
  | n + 1, s => match s with
    | 41 :: q => some ([], q)
    | _ => match firstTy s with
      | none => none
      | some (t, r) => match sigPs n r with
        | none => none
        | some (l, q) => some (t :: l, q)
/-- What stands behind the parameters. -/
def sigEnd (ps : List Ty) (q : Bs) : Sg × Int :=
  if q = [86] then (if 16 < ps.length then (zSg, 4) else (⟨ps, true, zTy⟩, 0))
  else match firstTy q with
    | some (t, []) => if 16 < ps.length then (zSg, 4) else (⟨ps, false, t⟩, 0)
    | _ => (zSg, 15)
def sigRead (s : Bs) : Sg × Int := match s with
  | 40 :: r => match sigPs (r.length + 1) r with
    | none => (zSg, 15)
    | some (ps, q) => sigEnd ps q
  | _ => (zSg, 15)
/-- The parameters' texts, one behind the other; the first error. -/
def parText : List Ty → Bs × Int
  | [] => ([], 0)
  | t :: l => if tyErr t = 0 then (match parText l with
    | (s, e) => if e = 0 then (tyBody t ++ s, 0) else ([], e)) else ([], tyErr t)
def sigText (g : Sg) : Bs × Int :=
  if 16 < g.params.length then ([], 4)
  else if (parText g.params).2 ≠ 0 then ([], (parText g.params).2)
  else if g.void = true ∧ g.result ≠ zTy then ([], 1)
  else if tyErr g.result ≠ 0 then ([], tyErr g.result)
  else (40 :: ((parText g.params).1 ++ (41 :: (if g.void = true then [86] else tyBody g.result))), 0)
/-- A method's name: "<init>", or a name. -/
def methB (s : Bs) : Bool := s == [60, 105, 110, 105, 116, 62] || nameB s

theorem brk_le (s : Bs) : brk s ≤ s.length := by
  induction s with
  | nil => exact Nat.le_refl _
  | cons c r ih => unfold brk; split <;> simp; omega
theorem cutAt_len {c : UInt8} {s a b : Bs} (h : cutAt c s = some (a, b)) : s = a ++ c :: b := by
  induction s generalizing a b with
  | nil => cases h
  | cons x r ih =>
    unfold cutAt at h
    split at h
    · rename_i hx; cases h; rw [hx]; rfl
    · cases hr : cutAt c r with
      | none => rw [hr] at h; cases h
      | some p => obtain ⟨a', b'⟩ := p; rw [hr] at h; cases h; rw [ih hr]; rfl
theorem firstTy_lt {s : Bs} {t : Ty} {r : Bs} (h : firstTy s = some (t, r)) : r.length < s.length := by
  have hb := brk_le s
  unfold firstTy at h
  split at h
  · cases h
  · cases hd : s.drop (brk s) with
    | nil => rw [hd] at h; cases h
    | cons c q =>
      rw [hd] at h
      have hl := congrArg List.length hd
      rw [List.length_drop, List.length_cons] at hl
      simp only at h
      split at h
      · cases h; omega
      · split at h
        · cases hc : cutAt 59 q with
          | none => rw [hc] at h; cases h
          | some p =>
            obtain ⟨a, b⟩ := p
            rw [hc] at h
            have := congrArg List.length (cutAt_len hc)
            rw [List.length_append, List.length_cons] at this
            simp only at h
            split at h
            · cases h; omega
            · cases h
        · cases h

end Go.Proofs.YtgmmclcpfmnoiaaGreatDoor

namespace Go.Proofs.YtgmmclcpfmnoiaaGreatDoor
open Go.RowKit

abbrev zEn : En := ⟨0, [], 0, 0, 0, 0⟩
/-- The entry of a number, if it is of a kind. -/
def entK (l : List En) (i k : Int) : Option En := if 0 ≤ i ∧ i < l.length then (if (l.getD i.toNat zEn).kind = k then some (l.getD i.toNat zEn) else none) else none
def namedE (l : List En) (i : Int) (p : Bs → Bool) : Int := match entK l i 1 with
  | none => 16
  | some x => if p x.text = true then 0 else 14
def typedE (l : List En) (i : Int) : Int := match entK l i 1 with
  | none => 16
  | some x => (typeRead x.text).2
def signedE (l : List En) (i : Int) : Int := match entK l i 1 with
  | none => 16
  | some x => (sigRead x.text).2
/-- What is wrong with the entries that an entry uses. -/
def usesE (l : List En) (x : En) : Int :=
  if x.kind = 1 then (if 255 < x.text.length then 5 else 0)
  else if x.kind = 2 then 0
  else if x.kind = 3 then namedE l x.a nameB
  else if x.kind = 4 then typedE l x.a
  else match entK l x.a 3 with
    | none => 16
    | some _ => if x.kind = 6 then (if namedE l x.b methB ≠ 0 then namedE l x.b methB else signedE l x.c) else (if namedE l x.b nameB ≠ 0 then namedE l x.b nameB else typedE l x.c)
/-- An entry with what its kind may bear alone. -/
def plainE (x : En) : En :=
  if x.kind = 1 then ⟨x.kind, x.text, 0, 0, 0, 0⟩
  else if x.kind = 2 then ⟨x.kind, [], x.n, 0, 0, 0⟩
  else if x.kind = 3 ∨ x.kind = 4 then ⟨x.kind, [], 0, x.a, 0, 0⟩
  else ⟨x.kind, [], 0, x.a, x.b, x.c⟩
/-- What is wrong with an entry. -/
def entE (l : List En) (x : En) : Int := if x.kind < 1 ∨ 6 < x.kind then 3 else if x ≠ plainE x then 1 else usesE l x
/-- The first entry with which something is wrong. -/
def firstE (l : List En) : Nat → List En → Int × Int
  | _, [] => (0, 0)
  | i, x :: r => if entE l x ≠ 0 then ((i : Int), entE l x) else firstE l (i + 1) r
def poolE (l : List En) : Int × Int := if 4096 < l.length then (4096, 4) else firstE l 0 l
/-- An entry of a kind with which nothing is wrong. -/
def rightE (l : List En) (i k : Int) : En × Int := match entK l i k with
  | none => (zEn, 16)
  | some x => if entE l x ≠ 0 then (zEn, entE l x) else (x, 0)
def txt (l : List En) (i : Int) : Bs := (l.getD i.toNat zEn).text
def poolNumber (l : List En) (i : Int) : Int × Int := ((rightE l i 2).1.n, (rightE l i 2).2)
def poolClass (l : List En) (i : Int) : Bs × Int := if (rightE l i 3).2 ≠ 0 then ([], (rightE l i 3).2) else (txt l (rightE l i 3).1.a, 0)
def poolType (l : List En) (i : Int) : Ty × Int := if (rightE l i 4).2 ≠ 0 then (zTy, (rightE l i 4).2) else typeRead (txt l (rightE l i 4).1.a)
def poolField (l : List En) (i : Int) : (Bs × Bs × Ty) × Int :=
  if (rightE l i 5).2 ≠ 0 then (([], [], zTy), (rightE l i 5).2)
  else if (poolClass l (rightE l i 5).1.a).2 ≠ 0 then (([], [], zTy), (poolClass l (rightE l i 5).1.a).2)
  else (((poolClass l (rightE l i 5).1.a).1, txt l (rightE l i 5).1.b, (typeRead (txt l (rightE l i 5).1.c)).1), (typeRead (txt l (rightE l i 5).1.c)).2)
def poolMethod (l : List En) (i : Int) : (Bs × Bs × Sg) × Int :=
  if (rightE l i 6).2 ≠ 0 then (([], [], zSg), (rightE l i 6).2)
  else if (poolClass l (rightE l i 6).1.a).2 ≠ 0 then (([], [], zSg), (poolClass l (rightE l i 6).1.a).2)
  else (((poolClass l (rightE l i 6).1.a).1, txt l (rightE l i 6).1.b, (sigRead (txt l (rightE l i 6).1.c)).1), (sigRead (txt l (rightE l i 6).1.c)).2)

end Go.Proofs.YtgmmclcpfmnoiaaGreatDoor

namespace Go.Proofs.YtgmmclcpfmnoiaaGreatDoor
open Go.RowKit

/-- An instruction: its place, its operation, its number, how many bytes it has. -/
structure In where
  at_ : Int
  op : Int
  n : Int
  size : Int
deriving DecidableEq, Inhabited
def RIn : Reading In := fun _ _ x cs => cs = [.int .i64 x.at_, .int .i64 x.op, .int .i64 x.n, .int .i64 x.size]
theorem goodIn : Good RIn := ⟨fun h _ _ => h, fun h _ => h, fun h u hu => by rw [h] at hu; simp only [List.mem_cons, List.not_mem_nil, or_false] at hu; (repeat' (first | (rcases hu with rfl | hu) | (subst hu))) <;> rfl⟩
abbrev zIn : In := ⟨0, 0, 0, 0⟩
def jumpsB (op : Int) : Bool := decide (19 ≤ op ∧ op ≤ 24)
def wideB (op : Int) : Bool := decide (op = 1 ∨ 25 ≤ op ∧ op ≤ 30 ∨ 36 ≤ op ∧ op ≤ 41) || jumpsB op
def sizeZ (op : Int) : Int := if op < 0 ∨ 45 < op then 0 else if wideB op = true then 3 else if op = 3 ∨ op = 4 then 2 else 1
def byteAt (code : Bs) (i : Nat) : Int := ((code.getD i 0).toNat : Int)
/-- The number behind an operation. -/
def numAt (code : Bs) (at_ : Nat) (size : Int) : Int := if size = 3 then 256 * byteAt code (at_ + 1) + byteAt code (at_ + 2) else if size = 2 then byteAt code (at_ + 1) else 0
/-- The instruction at a place; an error. -/
def decodeZ (code : Bs) (at_ : Nat) : In × Int :=
  if code.length ≤ at_ then (zIn, 11)
  else if sizeZ (byteAt code at_) = 0 then (zIn, 17)
  else if (code.length : Int) - at_ < sizeZ (byteAt code at_) then (zIn, 11)
  else (⟨at_, byteAt code at_, numAt code at_ (sizeZ (byteAt code at_)), sizeZ (byteAt code at_)⟩, 0)
/-- All instructions from a place on; where it can't be read, and why. -/
def allFrom : Nat → Bs → Nat → List In × Int × Int
  | 0, _, _ => ([], 0, 0)
  | n + 1, code, at_ => if code.length ≤ at_ then ([], 0, 0)
    else if (decodeZ code at_).2 ≠ 0 then ([], at_, (decodeZ code at_).2)
    else match allFrom n code (at_ + (decodeZ code at_).1.size.toNat) with
      | (l, p, e) => if e ≠ 0 then ([], p, e) else ((decodeZ code at_).1 :: l, 0, 0)
def allZ (code : Bs) : List In × Int × Int := allFrom (code.length + 1) code 0
def beginsB (l : List In) (at_ : Int) : Bool := l.any fun i => i.at_ == at_
/-- What is wrong with an instruction's entry. -/
def askE (l : List En) (i : In) : Int :=
  if i.op = 1 then (poolNumber l i.n).2
  else if i.op = 25 then (poolClass l i.n).2
  else if i.op = 26 ∨ i.op = 27 ∨ i.op = 28 ∨ i.op = 29 then (poolField l i.n).2
  else if i.op = 30 then (if (poolType l i.n).2 ≠ 0 then (poolType l i.n).2 else if (poolType l i.n).1.dims = 8 then 15 else 0)
  else if i.op = 36 ∨ i.op = 37 then (if (poolType l i.n).2 ≠ 0 then (poolType l i.n).2 else if (poolType l i.n).1 = zTy then 15 else 0)
  else 0
def callE (l : List En) (i : In) : Int :=
  if (poolMethod l i.n).2 ≠ 0 then (poolMethod l i.n).2
  else if ((poolMethod l i.n).1.2.1 == [60, 105, 110, 105, 116, 62]) ≠ (i.op == 41) then 14
  else if i.op = 41 ∧ (poolMethod l i.n).1.2.2.void = false then 15
  else 0
/-- What is wrong with an instruction of some code. -/
def insE (l : List En) (all : List In) (locals_ : Int) (i : In) : Int :=
  if i.op = 3 ∨ i.op = 4 then (if locals_ ≤ i.n then 43 else 0)
  else if jumpsB i.op = true then (if beginsB all i.n = true then 0 else 18)
  else if 38 ≤ i.op ∧ i.op ≤ 41 then callE l i
  else askE l i
def firstI (l : List En) (all : List In) (locals_ : Int) : List In → Int × Int
  | [] => (0, 0)
  | i :: r => if insE l all locals_ i ≠ 0 then (i.at_, insE l all locals_ i) else firstI l all locals_ r
/-- What is wrong with code, and where. -/
def codeE (code : Bs) (l : List En) (locals_ : Int) : Int × Int :=
  if code.length = 0 then (0, 46)
  else if 1024 < code.length then (0, 5)
  else match allZ code with
    | (all, p, e) => if e ≠ 0 then (p, e) else firstI l all locals_ all

end Go.Proofs.YtgmmclcpfmnoiaaGreatDoor

namespace Go.Proofs.YtgmmclcpfmnoiaaGreatDoor
open Go.RowKit

/-- Why a module is none. -/
structure Bd where
  cls_ : Int
  mem : Int
  at_ : Int
  err : Int
deriving DecidableEq, Inhabited
abbrev zBd : Bd := ⟨0, 0, 0, 0⟩
def badE (e : Int) : Bd := ⟨0, 0, 0, e⟩

def faceE (c : Cl) (i : Nat) : Int := if nameB (c.faces.getD i []) = false then 14 else if (c.faces.take i).any (fun x => x == c.faces.getD i []) = true then 20 else 0
def firstN (f : Nat → Int) (n : Nat) : Option Nat := (List.range n).find? fun i => f i != 0
def headE (c : Cl) : Bd :=
  if c.flags ≠ 0 ∧ c.flags ≠ 1 ∧ c.flags ≠ 2 then badE 21
  else if nameB c.name = false ∨ nameB c.super = false then badE 14
  else if 16 < c.faces.length then badE 4
  else if c.flags = 1 ∧ c.super ≠ [79, 98, 106, 101, 99, 116] then badE 31
  else if c.flags = 1 ∧ 0 < c.fields.length then badE 33
  else match firstN (faceE c) c.faces.length with
    | some i => ⟨0, i, 0, faceE c i⟩
    | none => zBd
abbrev zFd : Fd := ⟨0, [], zTy⟩
def fieldE (c : Cl) (i : Nat) : Int :=
  if (c.fields.getD i zFd).flags ≠ 0 ∧ (c.fields.getD i zFd).flags ≠ 4 then 21
  else if nameB (c.fields.getD i zFd).name = false then 14
  else if tyErr (c.fields.getD i zFd).type ≠ 0 then tyErr (c.fields.getD i zFd).type
  else if (c.fields.take i).any (fun x => x.name == (c.fields.getD i zFd).name) = true then 20
  else 0
def fieldsE (c : Cl) : Bd :=
  if 64 < c.fields.length then badE 4
  else match firstN (fieldE c) c.fields.length with
    | some i => ⟨0, i, 0, fieldE c i⟩
    | none => zBd
/-- A method's flags, name and signature by themselves. -/
def namedM (c : Cl) (m : Mt) (i : Nat) : Int :=
  if m.flags ≠ 0 ∧ m.flags ≠ 2 ∧ m.flags ≠ 4 then 21
  else if methB m.name = false then 14
  else if (sigText m.sig).2 ≠ 0 then (sigText m.sig).2
  else if 255 < (sigText m.sig).1.length then 5
  else if (c.methods.take i).any (fun x => x.name == m.name && x.sig == m.sig) = true then 20
  else 0
/-- The same in that class. -/
def flaggedM (c : Cl) (m : Mt) : Int :=
  if m.name = [60, 105, 110, 105, 116, 62] ∧ m.flags ≠ 0 then 21
  else if m.name = [60, 105, 110, 105, 116, 62] ∧ m.sig.void = false then 15
  else if c.flags = 1 ∧ m.flags ≠ 2 then 33
  else if m.flags = 2 ∧ c.flags = 0 then 21
  else if m.flags = 2 ∧ (m.stack ≠ 0 ∨ m.locals_ ≠ 0 ∨ 0 < m.code.length ∨ 0 < m.handlers.length) then 1
  else 0
def handE (all : List In) (len : Int) (h : Hd) : Int :=
  if beginsB all h.from_ = false ∨ beginsB all h.to_ = false ∧ h.to_ ≠ len ∨ h.to_ ≤ h.from_ then 19
  else if beginsB all h.at_ = false then 18
  else if nameB h.class_ = false then 14
  else 0
abbrev zHd : Hd := ⟨0, 0, 0, []⟩
def handsE (m : Mt) : Int × Int :=
  if 32 < m.handlers.length then (0, 4)
  else match firstN (fun i => handE (allZ m.code).1 m.code.length (m.handlers.getD i zHd)) m.handlers.length with
    | some i => (i, handE (allZ m.code).1 m.code.length (m.handlers.getD i zHd))
    | none => (0, 0)
/-- A method's code: the place, the number. -/
def bodyE (l : List En) (m : Mt) : Int × Int :=
  if m.stack < 0 ∨ 64 < m.stack ∨ m.locals_ < 0 ∨ 64 < m.locals_ then (0, 1)
  else if m.locals_ < m.sig.params.length + (if m.flags = 4 then 0 else 1) then (0, 43)
  else if (codeE m.code l m.locals_).2 ≠ 0 then codeE m.code l m.locals_
  else handsE m
abbrev zMt : Mt := ⟨0, [], zSg, 0, 0, [], []⟩
def methodE (l : List En) (c : Cl) (i : Nat) : Int × Int :=
  if namedM c (c.methods.getD i zMt) i ≠ 0 then (0, namedM c (c.methods.getD i zMt) i)
  else if flaggedM c (c.methods.getD i zMt) ≠ 0 then (0, flaggedM c (c.methods.getD i zMt))
  else if (c.methods.getD i zMt).flags = 2 then (0, 0)
  else bodyE l (c.methods.getD i zMt)
def methodsE (l : List En) (c : Cl) : Bd :=
  if 64 < c.methods.length then badE 4
  else match firstN (fun i => (methodE l c i).2) c.methods.length with
    | some i => ⟨0, i, (methodE l c i).1, (methodE l c i).2⟩
    | none => zBd
def classE (l : List En) (c : Cl) : Bd :=
  if (headE c).err ≠ 0 then headE c else if (fieldsE c).err ≠ 0 then fieldsE c else methodsE l c
abbrev zCl : Cl := ⟨0, [], [], [], [], []⟩
def twiceE (m : Md) (i : Nat) : Int := if (m.classes.take i).any (fun x => x.name == (m.classes.getD i zCl).name) = true then 20 else 0
/-- What is wrong with a module. -/
def moduleE (m : Md) : Bd :=
  if (poolE m.pool).2 ≠ 0 then ⟨0, 0, (poolE m.pool).1, (poolE m.pool).2⟩
  else if 64 < m.classes.length then badE 4
  else match firstN (fun i => (classE m.pool (m.classes.getD i zCl)).err) m.classes.length with
    | some i => { classE m.pool (m.classes.getD i zCl) with cls_ := i }
    | none => match firstN (twiceE m) m.classes.length with
      | some i => ⟨i, 0, 0, 20⟩
      | none => zBd

end Go.Proofs.YtgmmclcpfmnoiaaGreatDoor
