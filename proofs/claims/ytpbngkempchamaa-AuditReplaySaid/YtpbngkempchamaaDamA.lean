/- The engine, part A: an abstract machine for the program's functions, proved right against the model. No condition. -/
import Derived.Below
import Derived.LoopN
import Derived.Orders
import Derived.Tactics
import Derived.RangeFuncRecord
import Derived.LoopNIn
import Derived.OrdersIn
import Derived.TacticsIn
set_option linter.unusedSectionVars false
set_option linter.unusedVariables false
set_option linter.unusedSimpArgs false
namespace Go.Dam
open Go Go.RowKit

/-- What an operation makes of two numbers. -/
def opI (o : BinOp) (k : IntKind) (x y : Int) : Int :=
  match o with
  | .add => k.wrap (x + y)
  | .sub => k.wrap (x - y)
  | .mul => k.wrap (x * y)
  | .quo => k.wrap (x.tdiv y)
  | .rem => x.tmod y
  | .and => k.wrap (BitVec.ofInt k.bits x &&& BitVec.ofInt k.bits y).toNat
  | .or => k.wrap (BitVec.ofInt k.bits x ||| BitVec.ofInt k.bits y).toNat
  | .xor => k.wrap (BitVec.ofInt k.bits x ^^^ BitVec.ofInt k.bits y).toNat
  | .andNot => k.wrap (BitVec.ofInt k.bits x &&& ~~~ BitVec.ofInt k.bits y).toNat
  | .shl => k.wrap (x * 2 ^ min y.toNat k.bits)
  | .shr => x.fdiv (2 ^ min y.toNat k.bits)
  | _ => 0

/-- What a comparison of two numbers says. -/
def cmpI (o : BinOp) (x y : Int) : Bool :=
  match o with
  | .eql => x == y
  | .neq => x != y
  | .lss => decide (x < y)
  | .leq => decide (x ≤ y)
  | .gtr => decide (x > y)
  | .geq => decide (x ≥ y)
  | _ => false

/-- The size of an element; and what room a slice has at least. -/
structure Sz where
  s : Nat
  r : Nat := 0
  deriving DecidableEq, Inhabited
instance : Coe Sz Nat := ⟨Sz.s⟩

/-- A column of numbers, or of truth values: one cell of each element of a row. -/
inductive Col0 where
  | ints (k : IntKind) (xs : List Int)
  | bools (xs : List Bool)
  deriving Inhabited

/-- A column of a row that came in: numbers, truth values, or slices. -/
inductive Col where
  | ints (k : IntKind) (xs : List Int)
  | bools (xs : List Bool)
  | rows (n : Nat) (f : Nat → List Col0)
  deriving Inhabited

def Col0.len : Col0 → Nat
  | .ints _ xs => xs.length
  | .bools xs => xs.length
def Col0.val (i : Nat) : Col0 → Value
  | .ints k xs => .int k (xs.getD i 0)
  | .bools xs => .bool (xs.getD i false)
def Col0.up : Col0 → Col
  | .ints k xs => .ints k xs
  | .bools xs => .bools xs
def Col.len : Col → Nat
  | .ints _ xs => xs.length
  | .bools xs => xs.length
  | .rows n _ => n
/-- How many elements a row has: as many as its first column. -/
def rowLen0 : List Col0 → Nat
  | [] => 0
  | c :: _ => c.len
def rowLen : List Col → Nat
  | [] => 0
  | c :: _ => c.len
@[simp] theorem Col0.len_up (c : Col0) : c.up.len = c.len := by cases c <;> rfl
@[simp] theorem rowLen_up (cs : List Col0) : rowLen (cs.map Col0.up) = rowLen0 cs := by cases cs <;> simp [rowLen, rowLen0]

/-- Abstract values. -/
inductive D where
  | undef
  | v (x : Value)
  | emp
  | sh (n : Nat) (cs : List D)
  | ow (n sz : Nat) (cs : List D)
  | sl (id off n : Nat) (sz : Sz)
  | ptr (id off : Nat)
  | shp (cs : List D) (off : Nat)
  | fn (f : Nat) (caps : List D)
  | yld
  | agg (cs : List D)
  | tup (cs : List D)
  | rc (cs : List Col)
  | pel (id i w j : Nat)
  | oc (cs : List Col0)
  deriving Inhabited

structure Blk where
  cells : List D
  ro : Bool
  deriving Inhabited

/-- What is fixed while the machine runs: what the package-level variables read as (each a block of its own; nothing, where nothing is said);
the functions that are walked into. -/
class Glo where
  g : Nat → List D
  walked : Nat → Bool
set_option linter.unusedSectionVars false
variable [Glo]

/-- The name of a loop's record (no block's). -/
def yldId : Nat := 1152921504606846976

/-- Where blocks lie. -/
abbrev Env := Nat → Option Addr

def plusOff (a : Addr) (n : Nat) : Addr := ⟨a.block, a.off + n, none⟩
@[simp] theorem plusOff_block (a : Addr) (n : Nat) : (plusOff a n).block = a.block := rfl
@[simp] theorem plusOff_off (a : Addr) (n : Nat) : (plusOff a n).off = a.off + n := rfl
@[simp] theorem plusOff_plus (a : Addr) (n m : Nat) : plusOff (plusOff a n) m = plusOff a (n + m) := by simp [plusOff, Nat.add_assoc]
@[simp] theorem plusOff_add (a : Addr) (n m : Nat) : (plusOff a n).add m = plusOff a (n + m) := by
  unfold Addr.add plusOff
  split
  · next e => subst e; rfl
  · simp [Nat.add_assoc]
theorem add_eq_plus (a : Addr) (n : Nat) (h : a.spot = none) : a.add n = plusOff a n := by
  unfold Addr.add plusOff
  split
  · next e => subst e; cases a; simp at h; simp [h]
  · rfl

/-- A row of numbers and truth values reads so. -/
def Rep0 (w : World) (A : Nat → Prop) (cs : List Col0) (u : Value) : Prop :=
  ∃ o cp, u = .slice o (rowLen0 cs) cp ∧ rowLen0 cs ≤ cp ∧ (rowLen0 cs ≠ 0 → ∃ ad, o = some ad ∧ ad.spot = none ∧ A ad.block) ∧
    ∀ i j c, i < rowLen0 cs → cs[j]? = some c → w.cell? (plusOff (o.getD default) (i * cs.length + j)) = some (c.val i)

/-- A cell of a column reads so. -/
def RepC (w : World) (A : Nat → Prop) (i : Nat) (x : Value) : Col → Prop
  | .ints k xs => x = .int k (xs.getD i 0)
  | .bools xs => x = .bool (xs.getD i false)
  | .rows _ f => Rep0 w A (f i) x

/-- A row that came in reads so. -/
def RepR (w : World) (A : Nat → Prop) (cs : List Col) (u : Value) : Prop :=
  ∃ o cp, u = .slice o (rowLen cs) cp ∧ rowLen cs ≤ cp ∧ (rowLen cs ≠ 0 → ∃ ad, o = some ad ∧ ad.spot = none ∧ A ad.block) ∧
    ∀ i j c, i < rowLen cs → cs[j]? = some c → ∃ x, w.cell? (plusOff (o.getD default) (i * cs.length + j)) = some x ∧ RepC w A i x c

mutual
/-- A value that reads as an abstract one, by memory that stays ('A': the blocks that stay). -/
def RepS (w : World) (A : Nat → Prop) : D → Value → Prop
  | .undef, _ => True
  | .v x, u => u = x
  | .emp, u => ∃ ad : Addr, u = .slice (some ad) 0 0
  | .sh n cs, u => ∃ o c, u = .slice o n c ∧ n ≤ c ∧ (n ≠ 0 ∨ cs ≠ [] → ∃ ad, o = some ad ∧ ad.spot = none ∧ A ad.block) ∧ RepAt w A cs (o.getD default)
  | .shp cs off, u => ∃ ad, u = .pointer (some (plusOff ad off)) ∧ ad.spot = none ∧ (cs ≠ [] → A ad.block) ∧ RepAt w A cs ad
  | .agg cs, u => ∃ vs : List Value, u = .agg vs.toArray ∧ RepL w A cs vs
  | .tup cs, u => ∃ vs : List Value, u = .tuple vs.toArray ∧ RepL w A cs vs
  | .fn f cs, u => ∃ vs : List Value, u = .func (.func f) #[] vs.toArray ∧ RepL w A cs vs
  | .rc cs, u => RepR w A cs u
  | _, _ => False
def RepAt (w : World) (A : Nat → Prop) : List D → Addr → Prop
  | [], _ => True
  | d :: ds, ad => (∃ u, w.cell? ad = some u ∧ RepS w A d u) ∧ RepAt w A ds (plusOff ad 1)
def RepL (w : World) (A : Nat → Prop) : List D → List Value → Prop
  | [], vs => vs = []
  | d :: ds, vs => ∃ x xs, vs = x :: xs ∧ RepS w A d x ∧ RepL w A ds xs
end

/-- Room for so many cells. -/
def Room (w : World) (b m : Nat) : Prop := ∃ c T fz, w.heap[b]? = some (.cells c T fz) ∧ m ≤ c.size

mutual
/-- A value that reads as an abstract one, own blocks included. -/
def Rep (w : World) (A : Nat → Prop) (β : Env) : D → Value → Prop
  | .sl id off n sz, u => ∃ o c, u = .slice o n c ∧ ((max n sz.r = 0 ∧ c = 0) ∨ (max n sz.r ≤ c ∧ ∃ ad, β id = some ad ∧ o = some (plusOff ad off) ∧ Room w ad.block (ad.off + off + c * sz.s)))
  | .ptr id off, u => ∃ ad, β id = some ad ∧ u = .pointer (some (plusOff ad off))
  | .pel id i n j, u => ∃ ad, β id = some ad ∧ u = .pointer (some (plusOff ad (i * n + j)))
  | .yld, u => ∃ ad, β yldId = some ad ∧ u = .func (.yield ad.block) #[] #[]
  | .agg cs, u => ∃ vs : List Value, u = .agg vs.toArray ∧ RepLs w A β cs vs
  | .tup cs, u => ∃ vs : List Value, u = .tuple vs.toArray ∧ RepLs w A β cs vs
  | .fn f cs, u => ∃ vs : List Value, u = .func (.func f) #[] vs.toArray ∧ RepLs w A β cs vs
  | d, u => RepS w A d u
def RepLs (w : World) (A : Nat → Prop) (β : Env) : List D → List Value → Prop
  | [], vs => vs = []
  | d :: ds, vs => ∃ x xs, vs = x :: xs ∧ Rep w A β d x ∧ RepLs w A β ds xs
end

mutual
/-- Does an abstract value speak of a block? -/
def D.has (id : Nat) : D → Bool
  | .sl i _ _ _ => i == id
  | .ptr i _ => i == id
  | .pel i _ _ _ => i == id
  | .yld => yldId == id
  | .agg cs => D.hasL id cs
  | .tup cs => D.hasL id cs
  | .fn _ cs => D.hasL id cs
  | _ => false
def D.hasL (id : Nat) : List D → Bool
  | [] => false
  | d :: ds => D.has id d || D.hasL id ds
end

/-- What was shared stays, and no block grows or shrinks. -/
structure Ext (A : Nat → Prop) (w w' : World) : Prop where
  same : ∀ k, A k → w'.heap[k]? = w.heap[k]?
  room : ∀ b m, Room w b m → Room w' b m

def isC : Obj → Bool
  | .cells .. => true
  | _ => false

/-- Whatever is no cells stays. -/
def Oth (w w' : World) : Prop := ∀ (k : Nat) (o : Obj), w.heap[k]? = some o → isC o = false → w'.heap[k]? = some o
theorem Oth.refl (w : World) : Oth w w := fun _ _ h _ => h
theorem Oth.trans {a b c : World} (h : Oth a b) (k : Oth b c) : Oth a c := fun i o hi ho => k i o (h i o hi ho) ho
theorem Oth.of_heap {w w' : World} (h : w'.heap = w.heap) : Oth w w' := fun k o hk _ => by rw [h]; exact hk
theorem Oth.below {w w' : World} (h : Below w.heap.size w w') : Oth w w' := fun k o hk _ => by
  rw [h.block k (Array.getElem?_eq_some_iff.1 hk).1]; exact hk
theorem Oth.but {w w' : World} {b : Nat} {c : Array Value} {T : TypeId} {fz : Nat × Nat} (hb : w.heap[b]? = some (.cells c T fz)) (h : ∀ k, k ≠ b → w'.heap[k]? = w.heap[k]?) : Oth w w' := fun k o hk ho => by
  by_cases e : k = b
  · subst e; rw [hb] at hk; cases hk; cases ho
  · rw [h k e]; exact hk

/-- Nothing that is no cells becomes shared. -/
def New (A A' : Nat → Prop) (w : World) : Prop := ∀ (k : Nat) (o : Obj), w.heap[k]? = some o → isC o = false → A' k → A k
theorem New.refl (A : Nat → Prop) (w : World) : New A A w := fun _ _ _ _ h => h

/-- What stays while a loop over a function runs: the blocks for deferred calls. -/
def fixedO : Obj → Bool
  | .deferred _ => true
  | _ => false
theorem fixedO_not {o : Obj} (h : fixedO o = true) : isC o = false := by cases o <;> simp_all [fixedO, isC]

structure Side (A A' : Nat → Prop) (w w' : World) : Prop where
  keep : ∀ (k : Nat) (o : Obj), w.heap[k]? = some o → fixedO o = true → w'.heap[k]? = some o
  non : ∀ (k : Nat) (o : Obj), w.heap[k]? = some o → isC o = false → ∃ o' : Obj, w'.heap[k]? = some o' ∧ isC o' = false
  new : New A A' w
theorem Side.strict {A A' : Nat → Prop} {w w' : World} (h : Oth w w') (k : New A A' w) : Side A A' w w' :=
  ⟨fun i o hi ho => h i o hi (fixedO_not ho), fun i o hi ho => ⟨o, h i o hi ho, ho⟩, k⟩
theorem Side.refl (A : Nat → Prop) (w : World) : Side A A w w := .strict (.refl w) (.refl A w)
theorem Side.trans {A A' A'' : Nat → Prop} {a b c : World} (h : Side A A' a b) (k : Side A' A'' b c) : Side A A'' a c :=
  ⟨fun i o hi ho => k.keep i o (h.keep i o hi ho) ho, fun i o hi ho => let ⟨o', h1, h2⟩ := h.non i o hi ho; k.non i o' h1 h2,
   fun i o hi ho ha => let ⟨o', h1, h2⟩ := h.non i o hi ho; h.new i o hi ho (k.new i o' h1 h2 ha)⟩

theorem Ext.refl (A : Nat → Prop) (w : World) : Ext A w w := ⟨fun _ _ => rfl, fun _ _ h => h⟩
theorem Ext.trans {A A' : Nat → Prop} {a b c : World} (h : Ext A a b) (k : Ext A' b c) (hA : ∀ x, A x → A' x) : Ext A a c :=
  ⟨fun x hx => (k.same x (hA x hx)).trans (h.same x hx), fun b m r => k.room b m (h.room b m r)⟩

theorem cell_of_same {w w' : World} {ad : Addr} (h : w'.heap[ad.block]? = w.heap[ad.block]?) : w'.cell? ad = w.cell? ad := by
  unfold World.cell?; rw [h]

theorem Rep0.mono {w w' : World} {A A' : Nat → Prop} (hs : ∀ k, A k → w'.heap[k]? = w.heap[k]?) (hA : ∀ k, A k → A' k) {cs : List Col0} {u : Value} (h : Rep0 w A cs u) : Rep0 w' A' cs u := by
  obtain ⟨o, cp, rfl, h1, h2, h3⟩ := h
  refine ⟨o, cp, rfl, h1, fun hne => ?_, fun i j k hi hk => ?_⟩
  · obtain ⟨ad, h4, h5, h6⟩ := h2 hne; exact ⟨ad, h4, h5, hA _ h6⟩
  · obtain ⟨ad, rfl, h5, h6⟩ := h2 (by omega)
    exact (cell_of_same (ad := plusOff ad (i * cs.length + j)) (hs _ h6)).trans (h3 i j k hi hk)
theorem RepC.mono {w w' : World} {A A' : Nat → Prop} (hs : ∀ k, A k → w'.heap[k]? = w.heap[k]?) (hA : ∀ k, A k → A' k) {c : Col} {i : Nat} {x : Value} (h : RepC w A i x c) : RepC w' A' i x c := by
  cases c with
  | ints k xs => exact h
  | bools xs => exact h
  | rows n f => exact Rep0.mono hs hA h
theorem RepR.mono {w w' : World} {A A' : Nat → Prop} (hs : ∀ k, A k → w'.heap[k]? = w.heap[k]?) (hA : ∀ k, A k → A' k) {cs : List Col} {u : Value} (h : RepR w A cs u) : RepR w' A' cs u := by
  obtain ⟨o, cp, rfl, h1, h2, h3⟩ := h
  refine ⟨o, cp, rfl, h1, fun hne => ?_, fun i j k hi hk => ?_⟩
  · obtain ⟨ad, h4, h5, h6⟩ := h2 hne; exact ⟨ad, h4, h5, hA _ h6⟩
  · obtain ⟨ad, rfl, h5, h6⟩ := h2 (by omega)
    obtain ⟨x, h7, h8⟩ := h3 i j k hi hk
    exact ⟨x, (cell_of_same (ad := plusOff ad (i * cs.length + j)) (hs _ h6)).trans h7, h8.mono hs hA⟩

mutual
theorem RepS.mono {w w' : World} {A A' : Nat → Prop} (hs : ∀ k, A k → w'.heap[k]? = w.heap[k]?) (hA : ∀ k, A k → A' k) : ∀ (d : D) (u : Value), RepS w A d u → RepS w' A' d u
  | .undef, _, _ => by simp [RepS]
  | .v x, u, h => by simpa [RepS] using h
  | .emp, u, h => by simpa [RepS] using h
  | .sh n cs, u, h => by
    simp only [RepS] at h ⊢
    obtain ⟨o, c, rfl, hc, h1, h2⟩ := h
    refine ⟨o, c, rfl, hc, fun hne => ?_, ?_⟩
    · obtain ⟨ad, h3, h4, h5⟩ := h1 hne; exact ⟨ad, h3, h4, hA _ h5⟩
    · cases cs with
      | nil => simp [RepAt]
      | cons d ds =>
        obtain ⟨ad, rfl, h4, h5⟩ := h1 (.inr (by simp))
        exact RepAt.mono hs hA (d :: ds) ad h5 h2
  | .shp cs off, u, h => by
    simp only [RepS] at h ⊢
    obtain ⟨ad, rfl, h4, h1, h2⟩ := h
    refine ⟨ad, rfl, h4, fun hne => hA _ (h1 hne), ?_⟩
    cases cs with
    | nil => simp [RepAt]
    | cons d ds => exact RepAt.mono hs hA (d :: ds) ad (h1 (by simp)) h2
  | .agg cs, u, h => by
    simp only [RepS] at h ⊢
    obtain ⟨vs, rfl, h⟩ := h
    exact ⟨vs, rfl, RepL.mono hs hA cs vs h⟩
  | .tup cs, u, h => by
    simp only [RepS] at h ⊢
    obtain ⟨vs, rfl, h⟩ := h
    exact ⟨vs, rfl, RepL.mono hs hA cs vs h⟩
  | .fn f cs, u, h => by
    simp only [RepS] at h ⊢
    obtain ⟨vs, rfl, h⟩ := h
    exact ⟨vs, rfl, RepL.mono hs hA cs vs h⟩
  | .rc cs, u, h => by simp only [RepS] at h ⊢; exact h.mono hs hA
  | .oc _, _, h => by simp [RepS] at h
  | .pel _ _ _ _, _, h => by simp [RepS] at h
  | .ow _ _ _, _, h => by simp [RepS] at h
  | .sl _ _ _ _, _, h => by simp [RepS] at h
  | .ptr _ _, _, h => by simp [RepS] at h
  | .yld, _, h => by simp [RepS] at h
theorem RepAt.mono {w w' : World} {A A' : Nat → Prop} (hs : ∀ k, A k → w'.heap[k]? = w.heap[k]?) (hA : ∀ k, A k → A' k) : ∀ (cs : List D) (ad : Addr), A ad.block → RepAt w A cs ad → RepAt w' A' cs ad
  | [], _, _, _ => by simp [RepAt]
  | d :: ds, ad, ha, h => by
    simp only [RepAt] at h ⊢
    obtain ⟨⟨u, h1, h2⟩, h3⟩ := h
    exact ⟨⟨u, (cell_of_same (hs _ ha)).trans h1, RepS.mono hs hA d u h2⟩, RepAt.mono hs hA ds (plusOff ad 1) ha h3⟩
theorem RepL.mono {w w' : World} {A A' : Nat → Prop} (hs : ∀ k, A k → w'.heap[k]? = w.heap[k]?) (hA : ∀ k, A k → A' k) : ∀ (cs : List D) (vs : List Value), RepL w A cs vs → RepL w' A' cs vs
  | [], _, h => by simpa [RepL] using h
  | d :: ds, vs, h => by
    simp only [RepL] at h ⊢
    obtain ⟨x, xs, rfl, h1, h2⟩ := h
    exact ⟨x, xs, rfl, RepS.mono hs hA d x h1, RepL.mono hs hA ds xs h2⟩
end

mutual
theorem Rep.mono {w w' : World} {A A' : Nat → Prop} {β β' : Env} (hx : Ext A w w') (hA : ∀ k, A k → A' k) : ∀ (d : D) (u : Value), (∀ id, d.has id = true → β' id = β id) → Rep w A β d u → Rep w' A' β' d u
  | .sl id off n sz, u, hb, h => by
    simp only [Rep] at h ⊢
    obtain ⟨o, c, rfl, h⟩ := h
    refine ⟨o, c, rfl, ?_⟩
    rcases h with h | ⟨h1, ad, h2, h3, h4⟩
    · exact .inl h
    · exact .inr ⟨h1, ad, (hb id (by simp [D.has])).trans h2, h3, hx.room _ _ h4⟩
  | .ptr id off, u, hb, h => by
    simp only [Rep] at h ⊢
    obtain ⟨ad, h1, h2⟩ := h
    exact ⟨ad, (hb id (by simp [D.has])).trans h1, h2⟩
  | .pel id i n j, u, hb, h => by
    simp only [Rep] at h ⊢
    obtain ⟨ad, h1, h2⟩ := h
    exact ⟨ad, (hb id (by simp [D.has])).trans h1, h2⟩
  | .yld, u, hb, h => by
    simp only [Rep] at h ⊢
    obtain ⟨ad, h1, h2⟩ := h
    exact ⟨ad, (hb yldId (by simp [D.has])).trans h1, h2⟩
  | .agg cs, u, hb, h => by
    simp only [Rep] at h ⊢
    obtain ⟨vs, rfl, h⟩ := h
    exact ⟨vs, rfl, RepLs.mono hx hA cs vs (fun id h => hb id (by simpa [D.has] using h)) h⟩
  | .tup cs, u, hb, h => by
    simp only [Rep] at h ⊢
    obtain ⟨vs, rfl, h⟩ := h
    exact ⟨vs, rfl, RepLs.mono hx hA cs vs (fun id h => hb id (by simpa [D.has] using h)) h⟩
  | .fn f cs, u, hb, h => by
    simp only [Rep] at h ⊢
    obtain ⟨vs, rfl, h⟩ := h
    exact ⟨vs, rfl, RepLs.mono hx hA cs vs (fun id h => hb id (by simpa [D.has] using h)) h⟩
  | .undef, u, _, h => by simp only [Rep] at h ⊢; exact RepS.mono hx.same hA _ _ h
  | .v x, u, _, h => by simp only [Rep] at h ⊢; exact RepS.mono hx.same hA _ _ h
  | .sh _ _, u, _, h => by simp only [Rep] at h ⊢; exact RepS.mono hx.same hA _ _ h
  | .shp _ _, u, _, h => by simp only [Rep] at h ⊢; exact RepS.mono hx.same hA _ _ h
  | .emp, u, _, h => by simp only [Rep] at h ⊢; exact RepS.mono hx.same hA _ _ h
  | .ow _ _ _, u, _, h => by simp only [Rep] at h ⊢; exact RepS.mono hx.same hA _ _ h
  | .rc _, u, _, h => by simp only [Rep] at h ⊢; exact RepS.mono hx.same hA _ _ h
  | .oc _, u, _, h => by simp only [Rep] at h ⊢; exact RepS.mono hx.same hA _ _ h
theorem RepLs.mono {w w' : World} {A A' : Nat → Prop} {β β' : Env} (hx : Ext A w w') (hA : ∀ k, A k → A' k) : ∀ (cs : List D) (vs : List Value), (∀ id, D.hasL id cs = true → β' id = β id) → RepLs w A β cs vs → RepLs w' A' β' cs vs
  | [], _, _, h => by simpa [RepLs] using h
  | d :: ds, vs, hb, h => by
    simp only [RepLs] at h ⊢
    obtain ⟨x, xs, rfl, h1, h2⟩ := h
    exact ⟨x, xs, rfl, Rep.mono hx hA d x (fun id h => hb id (by simp [D.hasL, h])) h1, RepLs.mono hx hA ds xs (fun id h => hb id (by simp [D.hasL, h])) h2⟩
end

end Go.Dam
