/-
  How the program's data read: slices whose memory lies in a set of blocks; types, signatures, fields, handlers, methods, classes, entries of a pool, modules.
-/
import Derived.Test.YtgmmclcpfmnoiaaGreatDoorBase
namespace Go.Proofs.YtgmmclcpfmnoiaaGreatDoor
open Go.RowKit

abbrev Blocks := Nat → Prop
abbrev Bs := List UInt8
/-- A reading: x lies in these cells, its further memory in blocks of S. -/
abbrev Reading (α : Type) := Blocks → World → α → List Value → Prop
structure Good {α : Type} (R : Reading α) : Prop where
  keep : ∀ {S T : Blocks} {w w' : World} {x : α} {cs : List Value}, R S w x cs → Chg T w w' → (∀ k, S k → ¬ T k) → R S w' x cs
  mono : ∀ {S T : Blocks} {w : World} {x : α} {cs : List Value}, R S w x cs → (∀ k, S k → T k) → R T w x cs
  one : ∀ {S : Blocks} {w : World} {x : α} {cs : List Value}, R S w x cs → ∀ u ∈ cs, u.oneCell' = true

/-- A slice of elements of n cells each. -/
def SQ {α : Type} (n : Nat) (R : Reading α) (S : Blocks) (w : World) (v : Value) (xs : List α) : Prop :=
  ∃ a cap, v = .slice a xs.length cap ∧ xs.length ≤ cap ∧ (a = none → cap = 0) ∧
    ∀ p, a = some p → xs ≠ [] → p.spot = none ∧ p.block < w.heap.size ∧ S p.block ∧ ∀ (i : Nat) (x : α), xs[i]? = some x → ∃ cs, cs.length = n ∧ R S w x cs ∧ At w (p.add (i * n)) cs

section
variable {α : Type} {n : Nat} {R : Reading α} {S T : Blocks} {w w' : World} {v : Value} {xs : List α}
theorem SQ.keep (g : Good R) (h : SQ n R S w v xs) (c : Chg T w w') (hn : ∀ k, S k → ¬ T k) : SQ n R S w' v xs := by
  obtain ⟨a, cap, rfl, h1, h2, h3⟩ := h
  refine ⟨a, cap, rfl, h1, h2, fun p hp hx => ?_⟩
  obtain ⟨h4, h5, h6, h7⟩ := h3 p hp hx
  refine ⟨h4, Nat.lt_of_lt_of_le h5 c.size, h6, fun i x hi => ?_⟩
  obtain ⟨cs, h8, h9, h10⟩ := h7 i x hi
  exact ⟨cs, h8, g.keep h9 c hn, h10.chg c (by rw [add_block]; exact hn _ h6) (by rw [add_block]; exact h5)⟩
theorem SQ.mono (g : Good R) (h : SQ n R S w v xs) (hn : ∀ k, S k → T k) : SQ n R T w v xs := by
  obtain ⟨a, cap, rfl, h1, h2, h3⟩ := h
  refine ⟨a, cap, rfl, h1, h2, fun p hp hx => ?_⟩
  obtain ⟨h4, h5, h6, h7⟩ := h3 p hp hx
  refine ⟨h4, h5, hn _ h6, fun i x hi => ?_⟩
  obtain ⟨cs, h8, h9, h10⟩ := h7 i x hi
  exact ⟨cs, h8, g.mono h9 hn, h10⟩
theorem SQ.new (g : Good R) (h : SQ n R S w v xs) (c : Chg No w w') : SQ n R S w' v xs := h.keep g c (fun _ _ h => h)
theorem SQ.nil : SQ n R S w (.slice none 0 0) [] := ⟨none, 0, rfl, Nat.le_refl _, fun _ => rfl, fun p h => by cases h⟩
theorem SQ.form (h : SQ n R S w v xs) : ∃ a cap, v = .slice a xs.length cap ∧ xs.length ≤ cap ∧ (a = none → cap = 0) := by
  obtain ⟨a, cap, h0, h1, h2, -⟩ := h; exact ⟨a, cap, h0, h1, h2⟩
/-- Element k's cells. -/
theorem SQ.cells {a : Option Addr} {len cap : Nat} (h : SQ n R S w (.slice a len cap) xs) (k : Nat) (hk : k < xs.length) :
    ∃ b o cs, a = some ⟨b, o, none⟩ ∧ cs.length = n ∧ R S w xs[k] cs ∧ b < w.heap.size ∧ S b ∧ ∀ (j : Nat) (u : Value), cs[j]? = some u → w.cell? ⟨b, o + (k * n + j), none⟩ = some u := by
  obtain ⟨a', cap', he, h1, h2, h3⟩ := h
  cases he
  cases a with
  | none => have := h2 rfl; omega
  | some p =>
    obtain ⟨h4, h5, h6, h7⟩ := h3 p rfl (by intro e; rw [e] at hk; simp at hk)
    obtain ⟨b, o, sp⟩ := p
    cases h4
    obtain ⟨cs, h8, h9, h10⟩ := h7 k xs[k] (List.getElem?_eq_getElem hk)
    refine ⟨b, o, cs, rfl, h8, h9, h5, h6, fun j u hj => ?_⟩
    have := h10 j u hj
    rwa [add_mk, add_mk, Nat.add_assoc] at this
end

/-- A string's value. -/
abbrev strV (s : List UInt8) : Value := .string ⟨s.toArray⟩
def RStr : Reading (List UInt8) := fun _ _ x cs => cs = [strV x]
def RByte : Reading UInt8 := fun _ _ x cs => cs = [bv x]
def RInt : Reading Int := fun _ _ x cs => cs = [.int .i64 x]
theorem goodStr : Good RStr := ⟨fun h _ _ => h, fun h _ => h, fun h u hu => by rw [h] at hu; simp only [List.mem_cons, List.not_mem_nil, or_false] at hu; (repeat' (first | (rcases hu with rfl | hu) | (subst hu))) <;> rfl⟩
theorem goodByte : Good RByte := ⟨fun h _ _ => h, fun h _ => h, fun h u hu => by rw [h] at hu; simp only [List.mem_cons, List.not_mem_nil, or_false] at hu; (repeat' (first | (rcases hu with rfl | hu) | (subst hu))) <;> rfl⟩
theorem goodInt : Good RInt := ⟨fun h _ _ => h, fun h _ => h, fun h u hu => by rw [h] at hu; simp only [List.mem_cons, List.not_mem_nil, or_false] at hu; (repeat' (first | (rcases hu with rfl | hu) | (subst hu))) <;> rfl⟩

/-- A type. -/
structure Ty where
  dims : Int
  name : List UInt8
deriving DecidableEq, Inhabited
def RTy : Reading Ty := fun _ _ x cs => cs = [.int .i64 x.dims, strV x.name]
theorem goodTy : Good RTy := ⟨fun h _ _ => h, fun h _ => h, fun h u hu => by rw [h] at hu; simp only [List.mem_cons, List.not_mem_nil, or_false] at hu; (repeat' (first | (rcases hu with rfl | hu) | (subst hu))) <;> rfl⟩
/-- A signature. -/
structure Sg where
  params : List Ty
  void : Bool
  result : Ty
deriving DecidableEq, Inhabited
def RSg : Reading Sg := fun S w x cs => ∃ v, cs = [v, .bool x.void, .int .i64 x.result.dims, strV x.result.name] ∧ SQ 2 RTy S w v x.params
theorem goodSg : Good RSg := ⟨fun ⟨v, h1, h2⟩ c hn => ⟨v, h1, h2.keep goodTy c hn⟩, fun ⟨v, h1, h2⟩ hn => ⟨v, h1, h2.mono goodTy hn⟩, fun ⟨v, h1, h2⟩ u hu => by obtain ⟨a, cap, rfl, -⟩ := h2.form; rw [h1] at hu; simp only [List.mem_cons, List.not_mem_nil, or_false] at hu; (repeat' (first | (rcases hu with rfl | hu) | (subst hu))) <;> rfl⟩
/-- A field. -/
structure Fd where
  flags : Int
  name : List UInt8
  type : Ty
deriving DecidableEq, Inhabited
def RFd : Reading Fd := fun _ _ x cs => cs = [.int .i64 x.flags, strV x.name, .int .i64 x.type.dims, strV x.type.name]
theorem goodFd : Good RFd := ⟨fun h _ _ => h, fun h _ => h, fun h u hu => by rw [h] at hu; simp only [List.mem_cons, List.not_mem_nil, or_false] at hu; (repeat' (first | (rcases hu with rfl | hu) | (subst hu))) <;> rfl⟩
/-- A handler. -/
structure Hd where
  from_ : Int
  to_ : Int
  at_ : Int
  class_ : List UInt8
deriving DecidableEq, Inhabited
def RHd : Reading Hd := fun _ _ x cs => cs = [.int .i64 x.from_, .int .i64 x.to_, .int .i64 x.at_, strV x.class_]
theorem goodHd : Good RHd := ⟨fun h _ _ => h, fun h _ => h, fun h u hu => by rw [h] at hu; simp only [List.mem_cons, List.not_mem_nil, or_false] at hu; (repeat' (first | (rcases hu with rfl | hu) | (subst hu))) <;> rfl⟩
/-- A method. -/
structure Mt where
  flags : Int
  name : List UInt8
  sig : Sg
  stack : Int
  locals_ : Int
  code : List UInt8
  handlers : List Hd
deriving DecidableEq, Inhabited
def RMt : Reading Mt := fun S w x cs => ∃ v c h, cs = [.int .i64 x.flags, strV x.name, v, .bool x.sig.void, .int .i64 x.sig.result.dims, strV x.sig.result.name, .int .i64 x.stack, .int .i64 x.locals_, c, h] ∧
  SQ 2 RTy S w v x.sig.params ∧ SQ 1 RByte S w c x.code ∧ SQ 4 RHd S w h x.handlers
theorem goodMt : Good RMt := ⟨fun ⟨v, c, h, h1, h2, h3, h4⟩ d hn => ⟨v, c, h, h1, h2.keep goodTy d hn, h3.keep goodByte d hn, h4.keep goodHd d hn⟩,
  fun ⟨v, c, h, h1, h2, h3, h4⟩ hn => ⟨v, c, h, h1, h2.mono goodTy hn, h3.mono goodByte hn, h4.mono goodHd hn⟩,
  fun ⟨v, c, h, h1, h2, h3, h4⟩ u hu => by obtain ⟨_, _, rfl, -⟩ := h2.form; obtain ⟨_, _, rfl, -⟩ := h3.form; obtain ⟨_, _, rfl, -⟩ := h4.form; rw [h1] at hu; simp only [List.mem_cons, List.not_mem_nil, or_false] at hu; (repeat' (first | (rcases hu with rfl | hu) | (subst hu))) <;> rfl⟩
/-- A class. -/
structure Cl where
  flags : Int
  name : List UInt8
  super : List UInt8
  faces : List (List UInt8)
  fields : List Fd
  methods : List Mt
deriving DecidableEq, Inhabited
def RCl : Reading Cl := fun S w x cs => ∃ f g m, cs = [.int .i64 x.flags, strV x.name, strV x.super, f, g, m] ∧ SQ 1 RStr S w f x.faces ∧ SQ 4 RFd S w g x.fields ∧ SQ 10 RMt S w m x.methods
theorem goodCl : Good RCl := ⟨fun ⟨f, g, m, h1, h2, h3, h4⟩ d hn => ⟨f, g, m, h1, h2.keep goodStr d hn, h3.keep goodFd d hn, h4.keep goodMt d hn⟩,
  fun ⟨f, g, m, h1, h2, h3, h4⟩ hn => ⟨f, g, m, h1, h2.mono goodStr hn, h3.mono goodFd hn, h4.mono goodMt hn⟩,
  fun ⟨f, g, m, h1, h2, h3, h4⟩ u hu => by obtain ⟨_, _, rfl, -⟩ := h2.form; obtain ⟨_, _, rfl, -⟩ := h3.form; obtain ⟨_, _, rfl, -⟩ := h4.form; rw [h1] at hu; simp only [List.mem_cons, List.not_mem_nil, or_false] at hu; (repeat' (first | (rcases hu with rfl | hu) | (subst hu))) <;> rfl⟩
/-- An entry of a pool. -/
structure En where
  kind : Int
  text : List UInt8
  n : Int
  a : Int
  b : Int
  c : Int
deriving DecidableEq, Inhabited
def REn : Reading En := fun _ _ x cs => cs = [.int .i64 x.kind, strV x.text, .int .i64 x.n, .int .i64 x.a, .int .i64 x.b, .int .i64 x.c]
theorem goodEn : Good REn := ⟨fun h _ _ => h, fun h _ => h, fun h u hu => by rw [h] at hu; simp only [List.mem_cons, List.not_mem_nil, or_false] at hu; (repeat' (first | (rcases hu with rfl | hu) | (subst hu))) <;> rfl⟩
/-- A module. -/
structure Md where
  pool : List En
  classes : List Cl
deriving DecidableEq, Inhabited
def RMd : Reading Md := fun S w x cs => ∃ p c, cs = [p, c] ∧ SQ 6 REn S w p x.pool ∧ SQ 6 RCl S w c x.classes
theorem goodMd : Good RMd := ⟨fun ⟨p, c, h1, h2, h3⟩ d hn => ⟨p, c, h1, h2.keep goodEn d hn, h3.keep goodCl d hn⟩, fun ⟨p, c, h1, h2, h3⟩ hn => ⟨p, c, h1, h2.mono goodEn hn, h3.mono goodCl hn⟩,
  fun ⟨p, c, h1, h2, h3⟩ u hu => by obtain ⟨_, _, rfl, -⟩ := h2.form; obtain ⟨_, _, rfl, -⟩ := h3.form; rw [h1] at hu; simp only [List.mem_cons, List.not_mem_nil, or_false] at hu; (repeat' (first | (rcases hu with rfl | hu) | (subst hu))) <;> rfl⟩

end Go.Proofs.YtgmmclcpfmnoiaaGreatDoor
