/- The engine: an abstract machine for the program's functions, proved right against the model. No condition. -/
import Derived.Below
import Derived.LoopN
import Derived.Orders
import Derived.Tactics
import Derived.RangeFuncRecord
import Derived.LoopNIn
import Derived.OrdersIn
import Derived.TacticsIn
import Derived.Laws.Sem
import Derived.Laws.World
set_option linter.unusedSectionVars false
set_option linter.unusedVariables false
set_option linter.unusedSimpArgs false
section
namespace Go.Dam
open Go Go.RowKit
/-- What an operation makes of two numbers. -/
def opI (o : BinOp) (k : IntKind) (x y : Int) : Int :=
 match o with
 | .add => k.wrap (x + y)
 | .sub => k.wrap (x - y)
 | .mul => k.wrap (x * y)
 | .quo => k.wrap (x.tdiv y)
 | .rem => x.tmod y
 | .and => k.wrap (BitVec.ofInt k.bits x &&& BitVec.ofInt k.bits y).toNat
 | .or => k.wrap (BitVec.ofInt k.bits x ||| BitVec.ofInt k.bits y).toNat
 | .xor => k.wrap (BitVec.ofInt k.bits x ^^^ BitVec.ofInt k.bits y).toNat
 | .andNot => k.wrap (BitVec.ofInt k.bits x &&& ~~~ BitVec.ofInt k.bits y).toNat
 | .shl => k.wrap (x * 2 ^ min y.toNat k.bits)
 | .shr => x.fdiv (2 ^ min y.toNat k.bits)
 | _ => 0
/-- What a comparison of two numbers says. -/
def cmpI (o : BinOp) (x y : Int) : Bool :=
 match o with
 | .eql => x == y
 | .neq => x != y
 | .lss => decide (x < y)
 | .leq => decide (x ≤ y)
 | .gtr => decide (x > y)
 | .geq => decide (x ≥ y)
 | _ => false
/-- The size of an element; and what room a slice has at least. -/
structure Sz where
 s : Nat
 r : Nat := 0
 deriving DecidableEq, Inhabited
instance : Coe Sz Nat := ⟨Sz.s⟩
/-- A column of numbers, or of truth values: one cell of each element of a row. -/
inductive Col0 where
 | ints (k : IntKind) (xs : List Int)
 | bools (xs : List Bool)
 deriving Inhabited
/-- A column of a row that came in: numbers, truth values, or slices. -/
inductive Col where
 | ints (k : IntKind) (xs : List Int)
 | bools (xs : List Bool)
 | rows (n : Nat) (f : Nat → List Col0)
 deriving Inhabited
def Col0.len : Col0 → Nat
 | .ints _ xs => xs.length
 | .bools xs => xs.length
def Col0.val (i : Nat) : Col0 → Value
 | .ints k xs => .int k (xs.getD i 0)
 | .bools xs => .bool (xs.getD i false)
def Col0.up : Col0 → Col
 | .ints k xs => .ints k xs
 | .bools xs => .bools xs
def Col.len : Col → Nat
 | .ints _ xs => xs.length
 | .bools xs => xs.length
 | .rows n _ => n
/-- How many elements a row has: as many as its first column. -/
def rowLen0 : List Col0 → Nat
 | [] => 0
 | c :: _ => c.len
def rowLen : List Col → Nat
 | [] => 0
 | c :: _ => c.len
@[simp] theorem Col0.len_up (c : Col0) : c.up.len = c.len := by cases c <;> rfl
@[simp] theorem rowLen_up (cs : List Col0) : rowLen (cs.map Col0.up) = rowLen0 cs := by cases cs <;> simp [rowLen, rowLen0]
/-- Abstract values. -/
inductive D where
 | undef
 | v (x : Value)
 | emp
 | sh (n : Nat) (cs : List D)
 | ow (n sz : Nat) (cs : List D)
 | sl (id off n : Nat) (sz : Sz)
 | ptr (id off : Nat)
 | shp (cs : List D) (off : Nat)
 | fn (f : Nat) (caps : List D)
 | yld
 | agg (cs : List D)
 | tup (cs : List D)
 | rc (cs : List Col)
 | pel (id i w j : Nat)
 | oc (cs : List Col0)
 deriving Inhabited
structure Blk where
 cells : List D
 ro : Bool
 deriving Inhabited
/-- What is fixed while the machine runs: what the package-level variables read as (each a block of its own; nothing, where nothing is said);
the functions that are walked into. -/
class Glo where
 g : Nat → List D
 walked : Nat → Bool
variable [Glo]
/-- Are all rows that come in told not to be nil? (for proofs about functions that ask) -/
def liveId : Nat := 1152921504606846977
def Live : Prop := Glo.walked liveId = true
/-- The name of a loop's record (no block's). -/
def yldId : Nat := 1152921504606846976
/-- Where blocks lie. -/
abbrev Env := Nat → Option Addr
def plusOff (a : Addr) (n : Nat) : Addr := ⟨a.block, a.off + n, none⟩
@[simp] theorem plusOff_block (a : Addr) (n : Nat) : (plusOff a n).block = a.block := rfl
@[simp] theorem plusOff_off (a : Addr) (n : Nat) : (plusOff a n).off = a.off + n := rfl
@[simp] theorem plusOff_plus (a : Addr) (n m : Nat) : plusOff (plusOff a n) m = plusOff a (n + m) := by simp [plusOff, Nat.add_assoc]
@[simp] theorem plusOff_add (a : Addr) (n m : Nat) : (plusOff a n).add m = plusOff a (n + m) := by
 unfold Addr.add plusOff
 split
 ·next e => subst e; rfl
 ·simp [Nat.add_assoc]
theorem add_eq_plus (a : Addr) (n : Nat) (h : a.spot = none) : a.add n = plusOff a n := by
 unfold Addr.add plusOff
 split
 ·next e => subst e; cases a; simp at h; simp [h]
 ·rfl
/-- A row of numbers and truth values reads so. -/
def Rep0 (w : World) (A : Nat → Prop) (cs : List Col0) (u : Value) : Prop :=
 ∃ o cp, u = .slice o (rowLen0 cs) cp ∧ (Live → o ≠ none) ∧ rowLen0 cs ≤ cp ∧ (rowLen0 cs ≠ 0 → ∃ ad, o = some ad ∧ ad.spot = none ∧ A ad.block) ∧
  ∀ i j c, i < rowLen0 cs → cs[j]? = some c → w.cell? (plusOff (o.getD default) (i * cs.length + j)) = some (c.val i)
/-- A cell of a column reads so. -/
def RepC (w : World) (A : Nat → Prop) (i : Nat) (x : Value) : Col → Prop
 | .ints k xs => x = .int k (xs.getD i 0)
 | .bools xs => x = .bool (xs.getD i false)
 | .rows _ f => Rep0 w A (f i) x
/-- A row that came in reads so. -/
def RepR (w : World) (A : Nat → Prop) (cs : List Col) (u : Value) : Prop :=
 ∃ o cp, u = .slice o (rowLen cs) cp ∧ (Live → o ≠ none) ∧ rowLen cs ≤ cp ∧ (rowLen cs ≠ 0 → ∃ ad, o = some ad ∧ ad.spot = none ∧ A ad.block) ∧
  ∀ i j c, i < rowLen cs → cs[j]? = some c → ∃ x, w.cell? (plusOff (o.getD default) (i * cs.length + j)) = some x ∧ RepC w A i x c
mutual
/-- A value that reads as an abstract one, by memory that stays ('A': the blocks that stay). -/
def RepS (w : World) (A : Nat → Prop) : D → Value → Prop
 | .undef, _ => True
 | .v x, u => u = x
 | .emp, u => ∃ ad : Addr, u = .slice (some ad) 0 0
 | .sh n cs, u => ∃ o c, u = .slice o n c ∧ n ≤ c ∧ (n ≠ 0 ∨ cs ≠ [] → ∃ ad, o = some ad ∧ ad.spot = none ∧ A ad.block) ∧ RepAt w A cs (o.getD default)
 | .shp cs off, u => ∃ ad, u = .pointer (some (plusOff ad off)) ∧ ad.spot = none ∧ (cs ≠ [] → A ad.block) ∧ RepAt w A cs ad
 | .agg cs, u => ∃ vs : List Value, u = .agg vs.toArray ∧ RepL w A cs vs
 | .tup cs, u => ∃ vs : List Value, u = .tuple vs.toArray ∧ RepL w A cs vs
 | .fn f cs, u => ∃ vs : List Value, u = .func (.func f) #[] vs.toArray ∧ RepL w A cs vs
 | .rc cs, u => RepR w A cs u
 | _, _ => False
def RepAt (w : World) (A : Nat → Prop) : List D → Addr → Prop
 | [], _ => True
 | d :: ds, ad => (∃ u, w.cell? ad = some u ∧ RepS w A d u) ∧ RepAt w A ds (plusOff ad 1)
def RepL (w : World) (A : Nat → Prop) : List D → List Value → Prop
 | [], vs => vs = []
 | d :: ds, vs => ∃ x xs, vs = x :: xs ∧ RepS w A d x ∧ RepL w A ds xs
end
/-- Room for so many cells. -/
def Room (w : World) (b m : Nat) : Prop := ∃ c T fz, w.heap[b]? = some (.cells c T fz) ∧ m ≤ c.size
mutual
/-- A value that reads as an abstract one, own blocks included. -/
def Rep (w : World) (A : Nat → Prop) (β : Env) : D → Value → Prop
 | .sl id off n sz, u => ∃ o c, u = .slice o n c ∧ ((max n sz.r = 0 ∧ c = 0) ∨ (max n sz.r ≤ c ∧ ∃ ad, β id = some ad ∧ o = some (plusOff ad off) ∧ Room w ad.block (ad.off + off + c * sz.s)))
 | .ptr id off, u => ∃ ad, β id = some ad ∧ u = .pointer (some (plusOff ad off))
 | .pel id i n j, u => ∃ ad, β id = some ad ∧ u = .pointer (some (plusOff ad (i * n + j)))
 | .yld, u => ∃ ad, β yldId = some ad ∧ u = .func (.yield ad.block) #[] #[]
 | .agg cs, u => ∃ vs : List Value, u = .agg vs.toArray ∧ RepLs w A β cs vs
 | .tup cs, u => ∃ vs : List Value, u = .tuple vs.toArray ∧ RepLs w A β cs vs
 | .fn f cs, u => ∃ vs : List Value, u = .func (.func f) #[] vs.toArray ∧ RepLs w A β cs vs
 | d, u => RepS w A d u
def RepLs (w : World) (A : Nat → Prop) (β : Env) : List D → List Value → Prop
 | [], vs => vs = []
 | d :: ds, vs => ∃ x xs, vs = x :: xs ∧ Rep w A β d x ∧ RepLs w A β ds xs
end
mutual
/-- Does an abstract value speak of a block? -/
def D.has (id : Nat) : D → Bool
 | .sl i _ _ _ => i == id
 | .ptr i _ => i == id
 | .pel i _ _ _ => i == id
 | .yld => yldId == id
 | .agg cs => D.hasL id cs
 | .tup cs => D.hasL id cs
 | .fn _ cs => D.hasL id cs
 | _ => false
def D.hasL (id : Nat) : List D → Bool
 | [] => false
 | d :: ds => D.has id d || D.hasL id ds
end
/-- What was shared stays, and no block grows or shrinks. -/
structure Ext (A : Nat → Prop) (w w' : World) : Prop where
 same : ∀ k, A k → w'.heap[k]? = w.heap[k]?
 room : ∀ b m, Room w b m → Room w' b m
def isC : Obj → Bool
 | .cells .. => true
 | _ => false
/-- Whatever is no cells stays. -/
def Oth (w w' : World) : Prop := ∀ (k : Nat) (o : Obj), w.heap[k]? = some o → isC o = false → w'.heap[k]? = some o
theorem Oth.refl (w : World) : Oth w w := fun _ _ h _ => h
theorem Oth.trans {a b c : World} (h : Oth a b) (k : Oth b c) : Oth a c := fun i o hi ho => k i o (h i o hi ho) ho
theorem Oth.of_heap {w w' : World} (h : w'.heap = w.heap) : Oth w w' := fun k o hk _ => by rw [h]; exact hk
theorem Oth.below {w w' : World} (h : Below w.heap.size w w') : Oth w w' := fun k o hk _ => by
 rw [h.block k (Array.getElem?_eq_some_iff.1 hk).1]; exact hk
theorem Oth.but {w w' : World} {b : Nat} {c : Array Value} {T : TypeId} {fz : Nat × Nat} (hb : w.heap[b]? = some (.cells c T fz)) (h : ∀ k, k ≠ b → w'.heap[k]? = w.heap[k]?) : Oth w w' := fun k o hk ho => by
 by_cases e : k = b
 ·subst e; rw [hb] at hk; cases hk; cases ho
 ·rw [h k e]; exact hk
/-- Nothing that is no cells becomes shared. -/
def New (A A' : Nat → Prop) (w : World) : Prop := ∀ (k : Nat) (o : Obj), w.heap[k]? = some o → isC o = false → A' k → A k
theorem New.refl (A : Nat → Prop) (w : World) : New A A w := fun _ _ _ _ h => h
/-- What stays while a loop over a function runs: the blocks for deferred calls. -/
def fixedO : Obj → Bool
 | .deferred _ => true
 | _ => false
theorem fixedO_not {o : Obj} (h : fixedO o = true) : isC o = false := by cases o <;> simp_all [fixedO, isC]
structure Side (A A' : Nat → Prop) (w w' : World) : Prop where
 keep : ∀ (k : Nat) (o : Obj), w.heap[k]? = some o → fixedO o = true → w'.heap[k]? = some o
 non : ∀ (k : Nat) (o : Obj), w.heap[k]? = some o → isC o = false → ∃ o' : Obj, w'.heap[k]? = some o' ∧ isC o' = false
 new : New A A' w
theorem Side.strict {A A' : Nat → Prop} {w w' : World} (h : Oth w w') (k : New A A' w) : Side A A' w w' :=
 ⟨fun i o hi ho => h i o hi (fixedO_not ho), fun i o hi ho => ⟨o, h i o hi ho, ho⟩, k⟩
theorem Side.refl (A : Nat → Prop) (w : World) : Side A A w w := .strict (.refl w) (.refl A w)
theorem Side.trans {A A' A'' : Nat → Prop} {a b c : World} (h : Side A A' a b) (k : Side A' A'' b c) : Side A A'' a c :=
  ⟨fun i o hi ho => k.keep i o (h.keep i o hi ho) ho, fun i o hi ho => let ⟨o', h1, h2⟩ := h.non i o hi ho; k.non i o' h1 h2,
   fun i o hi ho ha => let ⟨o', h1, h2⟩ := h.non i o hi ho; h.new i o hi ho (k.new i o' h1 h2 ha)⟩
theorem Ext.refl (A : Nat → Prop) (w : World) : Ext A w w := ⟨fun _ _ => rfl, fun _ _ h => h⟩
theorem Ext.trans {A A' : Nat → Prop} {a b c : World} (h : Ext A a b) (k : Ext A' b c) (hA : ∀ x, A x → A' x) : Ext A a c :=
 ⟨fun x hx => (k.same x (hA x hx)).trans (h.same x hx), fun b m r => k.room b m (h.room b m r)⟩
theorem cell_of_same {w w' : World} {ad : Addr} (h : w'.heap[ad.block]? = w.heap[ad.block]?) : w'.cell? ad = w.cell? ad := by
 unfold World.cell?; rw [h]
theorem Rep0.mono {w w' : World} {A A' : Nat → Prop} (hs : ∀ k, A k → w'.heap[k]? = w.heap[k]?) (hA : ∀ k, A k → A' k) {cs : List Col0} {u : Value} (h : Rep0 w A cs u) : Rep0 w' A' cs u := by
 obtain ⟨o, cp, rfl, hv, h1, h2, h3⟩ := h
 refine ⟨o, cp, rfl, hv, h1, fun hne => ?_, fun i j k hi hk => ?_⟩
 ·obtain ⟨ad, h4, h5, h6⟩ := h2 hne; exact ⟨ad, h4, h5, hA _ h6⟩
 ·obtain ⟨ad, rfl, h5, h6⟩ := h2 (by omega)
  exact (cell_of_same (ad := plusOff ad (i * cs.length + j)) (hs _ h6)).trans (h3 i j k hi hk)
theorem RepC.mono {w w' : World} {A A' : Nat → Prop} (hs : ∀ k, A k → w'.heap[k]? = w.heap[k]?) (hA : ∀ k, A k → A' k) {c : Col} {i : Nat} {x : Value} (h : RepC w A i x c) : RepC w' A' i x c := by
 cases c with
 | ints k xs => exact h
 | bools xs => exact h
 | rows n f => exact Rep0.mono hs hA h
theorem RepR.mono {w w' : World} {A A' : Nat → Prop} (hs : ∀ k, A k → w'.heap[k]? = w.heap[k]?) (hA : ∀ k, A k → A' k) {cs : List Col} {u : Value} (h : RepR w A cs u) : RepR w' A' cs u := by
 obtain ⟨o, cp, rfl, hv, h1, h2, h3⟩ := h
 refine ⟨o, cp, rfl, hv, h1, fun hne => ?_, fun i j k hi hk => ?_⟩
 ·obtain ⟨ad, h4, h5, h6⟩ := h2 hne; exact ⟨ad, h4, h5, hA _ h6⟩
 ·obtain ⟨ad, rfl, h5, h6⟩ := h2 (by omega)
  obtain ⟨x, h7, h8⟩ := h3 i j k hi hk
  exact ⟨x, (cell_of_same (ad := plusOff ad (i * cs.length + j)) (hs _ h6)).trans h7, h8.mono hs hA⟩
mutual
theorem RepS.mono {w w' : World} {A A' : Nat → Prop} (hs : ∀ k, A k → w'.heap[k]? = w.heap[k]?) (hA : ∀ k, A k → A' k) : ∀ (d : D) (u : Value), RepS w A d u → RepS w' A' d u
 | .undef, _, _ => by simp [RepS]
 | .v x, u, h => by simpa [RepS] using h
 | .emp, u, h => by simpa [RepS] using h
 | .sh n cs, u, h => by
  simp only [RepS] at h ⊢
  obtain ⟨o, c, rfl, hc, h1, h2⟩ := h
  refine ⟨o, c, rfl, hc, fun hne => ?_, ?_⟩
  ·obtain ⟨ad, h3, h4, h5⟩ := h1 hne; exact ⟨ad, h3, h4, hA _ h5⟩
  ·cases cs with
   | nil => simp [RepAt]
   | cons d ds =>
    obtain ⟨ad, rfl, h4, h5⟩ := h1 (.inr (by simp))
    exact RepAt.mono hs hA (d :: ds) ad h5 h2
 | .shp cs off, u, h => by
  simp only [RepS] at h ⊢
  obtain ⟨ad, rfl, h4, h1, h2⟩ := h
  refine ⟨ad, rfl, h4, fun hne => hA _ (h1 hne), ?_⟩
  cases cs with
  | nil => simp [RepAt]
  | cons d ds => exact RepAt.mono hs hA (d :: ds) ad (h1 (by simp)) h2
 | .agg cs, u, h => by
  simp only [RepS] at h ⊢
  obtain ⟨vs, rfl, h⟩ := h
  exact ⟨vs, rfl, RepL.mono hs hA cs vs h⟩
 | .tup cs, u, h => by
  simp only [RepS] at h ⊢
  obtain ⟨vs, rfl, h⟩ := h
  exact ⟨vs, rfl, RepL.mono hs hA cs vs h⟩
 | .fn f cs, u, h => by
  simp only [RepS] at h ⊢
  obtain ⟨vs, rfl, h⟩ := h
  exact ⟨vs, rfl, RepL.mono hs hA cs vs h⟩
 | .rc cs, u, h => by simp only [RepS] at h ⊢; exact h.mono hs hA
 | .oc _, _, h => by simp [RepS] at h
 | .pel _ _ _ _, _, h => by simp [RepS] at h
 | .ow _ _ _, _, h => by simp [RepS] at h
 | .sl _ _ _ _, _, h => by simp [RepS] at h
 | .ptr _ _, _, h => by simp [RepS] at h
 | .yld, _, h => by simp [RepS] at h
theorem RepAt.mono {w w' : World} {A A' : Nat → Prop} (hs : ∀ k, A k → w'.heap[k]? = w.heap[k]?) (hA : ∀ k, A k → A' k) : ∀ (cs : List D) (ad : Addr), A ad.block → RepAt w A cs ad → RepAt w' A' cs ad
 | [], _, _, _ => by simp [RepAt]
 | d :: ds, ad, ha, h => by
  simp only [RepAt] at h ⊢
  obtain ⟨⟨u, h1, h2⟩, h3⟩ := h
  exact ⟨⟨u, (cell_of_same (hs _ ha)).trans h1, RepS.mono hs hA d u h2⟩, RepAt.mono hs hA ds (plusOff ad 1) ha h3⟩
theorem RepL.mono {w w' : World} {A A' : Nat → Prop} (hs : ∀ k, A k → w'.heap[k]? = w.heap[k]?) (hA : ∀ k, A k → A' k) : ∀ (cs : List D) (vs : List Value), RepL w A cs vs → RepL w' A' cs vs
 | [], _, h => by simpa [RepL] using h
 | d :: ds, vs, h => by
  simp only [RepL] at h ⊢
  obtain ⟨x, xs, rfl, h1, h2⟩ := h
  exact ⟨x, xs, rfl, RepS.mono hs hA d x h1, RepL.mono hs hA ds xs h2⟩
end
mutual
theorem Rep.mono {w w' : World} {A A' : Nat → Prop} {β β' : Env} (hx : Ext A w w') (hA : ∀ k, A k → A' k) : ∀ (d : D) (u : Value), (∀ id, d.has id = true → β' id = β id) → Rep w A β d u → Rep w' A' β' d u
 | .sl id off n sz, u, hb, h => by
  simp only [Rep] at h ⊢
  obtain ⟨o, c, rfl, h⟩ := h
  refine ⟨o, c, rfl, ?_⟩
  rcases h with h | ⟨h1, ad, h2, h3, h4⟩
  ·exact .inl h
  ·exact .inr ⟨h1, ad, (hb id (by simp [D.has])).trans h2, h3, hx.room _ _ h4⟩
 | .ptr id off, u, hb, h => by
  simp only [Rep] at h ⊢
  obtain ⟨ad, h1, h2⟩ := h
  exact ⟨ad, (hb id (by simp [D.has])).trans h1, h2⟩
 | .pel id i n j, u, hb, h => by
  simp only [Rep] at h ⊢
  obtain ⟨ad, h1, h2⟩ := h
  exact ⟨ad, (hb id (by simp [D.has])).trans h1, h2⟩
 | .yld, u, hb, h => by
  simp only [Rep] at h ⊢
  obtain ⟨ad, h1, h2⟩ := h
  exact ⟨ad, (hb yldId (by simp [D.has])).trans h1, h2⟩
 | .agg cs, u, hb, h => by
  simp only [Rep] at h ⊢
  obtain ⟨vs, rfl, h⟩ := h
  exact ⟨vs, rfl, RepLs.mono hx hA cs vs (fun id h => hb id (by simpa [D.has] using h)) h⟩
 | .tup cs, u, hb, h => by
  simp only [Rep] at h ⊢
  obtain ⟨vs, rfl, h⟩ := h
  exact ⟨vs, rfl, RepLs.mono hx hA cs vs (fun id h => hb id (by simpa [D.has] using h)) h⟩
 | .fn f cs, u, hb, h => by
  simp only [Rep] at h ⊢
  obtain ⟨vs, rfl, h⟩ := h
  exact ⟨vs, rfl, RepLs.mono hx hA cs vs (fun id h => hb id (by simpa [D.has] using h)) h⟩
 | .undef, u, _, h => by simp only [Rep] at h ⊢; exact RepS.mono hx.same hA _ _ h
 | .v x, u, _, h => by simp only [Rep] at h ⊢; exact RepS.mono hx.same hA _ _ h
 | .sh _ _, u, _, h => by simp only [Rep] at h ⊢; exact RepS.mono hx.same hA _ _ h
 | .shp _ _, u, _, h => by simp only [Rep] at h ⊢; exact RepS.mono hx.same hA _ _ h
 | .emp, u, _, h => by simp only [Rep] at h ⊢; exact RepS.mono hx.same hA _ _ h
 | .ow _ _ _, u, _, h => by simp only [Rep] at h ⊢; exact RepS.mono hx.same hA _ _ h
 | .rc _, u, _, h => by simp only [Rep] at h ⊢; exact RepS.mono hx.same hA _ _ h
 | .oc _, u, _, h => by simp only [Rep] at h ⊢; exact RepS.mono hx.same hA _ _ h
theorem RepLs.mono {w w' : World} {A A' : Nat → Prop} {β β' : Env} (hx : Ext A w w') (hA : ∀ k, A k → A' k) : ∀ (cs : List D) (vs : List Value), (∀ id, D.hasL id cs = true → β' id = β id) → RepLs w A β cs vs → RepLs w' A' β' cs vs
 | [], _, _, h => by simpa [RepLs] using h
 | d :: ds, vs, hb, h => by
  simp only [RepLs] at h ⊢
  obtain ⟨x, xs, rfl, h1, h2⟩ := h
  exact ⟨x, xs, rfl, Rep.mono hx hA d x (fun id h => hb id (by simp [D.hasL, h])) h1, RepLs.mono hx hA ds xs (fun id h => hb id (by simp [D.hasL, h])) h2⟩
end
end Go.Dam
end

section
namespace Go.Dam
open Go Go.RowKit
variable [Glo]
/-- A computation that touches no memory. -/
def pureRun {α : Type} (P : Program) : Sem α → Option α
 | .pure a => some a
 | .program k => pureRun P (k P)
 | .mark _ k => pureRun P k
 | _ => none
theorem pureRun_run {α : Type} (P : Program) (w : World) : ∀ (s : Sem α) (a : α), pureRun P s = some a → s.run P w = .ok a w
 | .pure b, a, h => by simp [pureRun] at h; subst h; rfl
 | .program k, a, h => by simp only [pureRun] at h; simp only [Sem.run]; exact pureRun_run P w (k P) a h
 | .load .., _, h => by simp [pureRun] at h
 | .store .., _, h => by simp [pureRun] at h
 | .new .., _, h => by simp [pureRun] at h
 | .shape .., _, h => by simp [pureRun] at h
 | .freeze .., _, h => by simp [pureRun] at h
 | .frozen .., _, h => by simp [pureRun] at h
 | .getObj .., _, h => by simp [pureRun] at h
 | .setObj .., _, h => by simp [pureRun] at h
 | .choose .., _, h => by simp [pureRun] at h
 | .sys .., _, h => by simp [pureRun] at h
 | .mark _ k, a, h => by simp only [pureRun] at h; simp only [Sem.run]; exact pureRun_run P w k a h
 | .halt .., _, h => by simp [pureRun] at h
/-- The plain value of an abstract one. -/
def D.plain : D → Option Value
 | .v x => some x
 | .agg cs => (D.plainL cs).map fun vs => .agg vs.toArray
 | _ => none
where
 D.plainL : List D → Option (List Value)
 | [] => some []
 | d :: ds => match d with
  | .v x => (D.plainL ds).map (x :: ·)
  | _ => none
abbrev D.plainL := D.plain.D.plainL
/-- An abstract value out of a plain one. -/
def D.ofV : Value → D
 | .agg cs => .agg (cs.toList.map D.v)
 | .tuple cs => .tup (cs.toList.map D.v)
 | x => .v x
theorem RepLs.plain {w : World} {A : Nat → Prop} {β : Env} : ∀ (cs : List D) (vs us : List Value), D.plainL cs = some vs → RepLs w A β cs us → us = vs
 | [], vs, us, h, r => by
  simp [D.plain.D.plainL] at h; subst h
  simpa [RepLs] using r
 | .v x :: ds, vs, us, h, r => by
  simp only [D.plain.D.plainL, Option.map_eq_some_iff] at h
  obtain ⟨ys, h1, rfl⟩ := h
  simp only [RepLs, Rep, RepS] at r
  obtain ⟨y, xs, rfl, rfl, r2⟩ := r
  rw [RepLs.plain ds ys xs h1 r2]
 | .yld :: _, _, _, h, _ | .undef :: _, _, _, h, _ | .emp :: _, _, _, h, _ | .sh .. :: _, _, _, h, _ | .ow .. :: _, _, _, h, _ | .sl .. :: _, _, _, h, _ | .ptr .. :: _, _, _, h, _ | .pel .. :: _, _, _, h, _ | .rc .. :: _, _, _, h, _ | .oc .. :: _, _, _, h, _ | .shp .. :: _, _, _, h, _ | .fn .. :: _, _, _, h, _
 | .agg .. :: _, _, _, h, _ | .tup .. :: _, _, _, h, _ => by simp [D.plain.D.plainL] at h
theorem Rep.plain {w : World} {A : Nat → Prop} {β : Env} {d : D} {v u : Value} (h : d.plain = some v) (r : Rep w A β d u) : u = v := by
 cases d with
 | v x => simp [D.plain] at h; simp [Rep, RepS] at r; rw [r, h]
 | agg cs =>
  simp only [D.plain, Option.map_eq_some_iff] at h
  obtain ⟨vs, h1, rfl⟩ := h
  simp only [Rep] at r
  obtain ⟨us, rfl, r⟩ := r
  rw [RepLs.plain cs vs us h1 r]
 | _ => simp [D.plain] at h
theorem RepLs.ofV {w : World} {A : Nat → Prop} {β : Env} : ∀ (vs : List Value), RepLs w A β (vs.map D.v) vs
 | [] => by simp [RepLs]
 | x :: xs => by simp only [List.map_cons, RepLs]; exact ⟨x, xs, rfl, by simp [Rep, RepS], RepLs.ofV xs⟩
theorem Rep.ofV {w : World} {A : Nat → Prop} {β : Env} (v : Value) : Rep w A β (D.ofV v) v := by
 cases v with
 | agg cs => simp only [D.ofV, Rep]; exact ⟨cs.toList, rfl, RepLs.ofV _⟩
 | tuple cs => simp only [D.ofV, Rep]; exact ⟨cs.toList, rfl, RepLs.ofV _⟩
 | _ => simp [D.ofV, Rep, RepS]
/-- The abstract state: temporaries, the temporaries of the callers, blocks. -/
structure Fr where
 nt : Nat
 tm : Nat → D
inductive LSt where
 | ready
 | busy
 | done (c : Code)
def LSt.state : LSt → LoopState
 | .ready => .ready
 | .busy => .busy
 | .done _ => .done
def LSt.jump : LSt → Option Code
 | .done c => some c
 | _ => none
/-- The loop over a function that runs: its record; and at how many frames its function stands. -/
structure LoopSt where
 ps : Array Tmp
 assign : Code
 body : Code
 depth : Nat
 state : LSt
structure St where
 fr : Fr
 stk : List Fr
 bk : Nat → Option Blk
 loop : Option LoopSt := none
def Fr.put (f : Fr) (t : Nat) (d : D) : Fr := { f with tm := fun i => if i = t then (if t < f.nt then d else .undef) else f.tm i }
def St.put (σ : St) (dst : Option Tmp) (d : D) : St :=
 match dst with
 | some t => { σ with fr := σ.fr.put t d }
 | none => σ
def D.forget (id : Nat) (d : D) : D := if d.has id then .undef else d
def Fr.forget (id : Nat) (f : Fr) : Fr := { f with tm := fun t => (f.tm t).forget id }
def Blk.forget (id : Nat) (b : Blk) : Blk := { b with cells := b.cells.map (D.forget id) }
def St.forget (id : Nat) (σ : St) : St :=
 { fr := σ.fr.forget id, stk := σ.stk.map (Fr.forget id), bk := fun i => if i = id then none else (σ.bk i).map (Blk.forget id), loop := if id = yldId then none else σ.loop }
def St.setB (σ : St) (id : Nat) (b : Blk) : St := { σ with bk := fun i => if i = id then some b else σ.bk i }
/-- Cells of a block read so. -/
def CellsAt (w : World) (A : Nat → Prop) (β : Env) : List D → Addr → Prop
 | [], _ => True
 | d :: ds, ad => (∃ u, w.cell? ad = some u ∧ Rep w A β d u) ∧ CellsAt w A β ds (plusOff ad 1)
structure FrRep (w : World) (A : Nat → Prop) (β : Env) (f : Fr) (tmps : Array Value) : Prop where
 nt : f.nt = tmps.size
 tm : ∀ t, Rep w A β (f.tm t) (tmps.getD t Go.undef)
inductive StkRep (w : World) (A : Nat → Prop) (β : Env) : List Fr → List (Array Value) → Prop
 | nil : StkRep w A β [] []
 | cons {f : Fr} {fs : List Fr} {a : Array Value} {as : List (Array Value)} : FrRep w A β f a → StkRep w A β fs as → StkRep w A β (f :: fs) (a :: as)
/-- Block 'id' of the abstract state lies at 'ad': owned (from 'base' on), whole, not frozen. -/
structure BlkRep (w : World) (A : Nat → Prop) (β : Env) (base : Nat) (b : Blk) (ad : Addr) : Prop where
 spot : ad.spot = none
 base : base ≤ ad.block
 obj : ∃ c T, w.heap[ad.block]? = some (.cells c T (0, 0))
 cells : CellsAt w A β b.cells ad
 own : b.ro = false → ¬ A ad.block
 shared : b.ro = true → A ad.block
 inside : ∀ c T, w.heap[ad.block]? = some (.cells c T (0, 0)) → ad.off ≤ c.size
/-- The package-level variables read so. -/
def GloOK (w : World) (A : Nat → Prop) : Prop := ∀ g, Glo.g g ≠ [] → A g ∧ RepAt w A (Glo.g g) ⟨g, 0, none⟩
theorem GloOK.mono {w w' : World} {A A' : Nat → Prop} (hs : ∀ k, A k → w'.heap[k]? = w.heap[k]?) (hA : ∀ k, A k → A' k) (h : GloOK w A) : GloOK w' A' :=
 fun g hg => ⟨hA _ (h g hg).1, RepAt.mono hs hA _ _ (h g hg).1 (h g hg).2⟩
theorem GloOK.grow {w : World} {A A' : Nat → Prop} (hA : ∀ k, A k → A' k) (h : GloOK w A) : GloOK w A' := h.mono (fun _ _ => rfl) hA
/-- The record of the loop that runs. -/
def LoopRep (w : World) (A : Nat → Prop) (β : Env) (base : Nat) : Option LoopSt → List (Array Value) → Prop
 | none, _ => True
 | some L, acts => ∃ l D fn tmps pre post, β yldId = some ⟨l, 0, none⟩ ∧ acts = pre ++ tmps :: #[.int .i64 (l : Int)] :: post ∧ post.length + 2 = L.depth ∧
   w.heap[l]? = some (.loop { state := L.state.state, pending := L.state.jump, fn := fn, tmps := tmps, params := L.ps, assign := L.assign, body := L.body, defers := D }) ∧ ¬ A l ∧ base ≤ l
theorem LoopRep.mono {w w' : World} {A A' : Nat → Prop} {β β' : Env} {base : Nat} {L : Option LoopSt} {acts : List (Array Value)} (ho : Oth w w') (hn : New A A' w) (hβ : L ≠ none → β' yldId = β yldId) (h : LoopRep w A β base L acts) : LoopRep w' A' β' base L acts := by
 cases L with
 | none => trivial
 | some L =>
  obtain ⟨l, D, fn, tmps, pre, post, h1, h2, h3, h4, h5, h6⟩ := h
  exact ⟨l, D, fn, tmps, pre, post, (hβ (by simp)).trans h1, h2, h3, ho _ _ h4 rfl, fun ha => h5 (hn _ _ h4 rfl ha), h6⟩
structure Rel (w : World) (A : Nat → Prop) (β : Env) (base : Nat) (σ : St) (tmps : Array Value) (acts : List (Array Value)) : Prop where
 fr : FrRep w A β σ.fr tmps
 stk : StkRep w A β σ.stk acts
 blk : ∀ id b, σ.bk id = some b → (β id = none ∧ b.cells = []) ∨ ∃ ad, β id = some ad ∧ BlkRep w A β base b ad
 inj : ∀ i j a b, σ.bk i ≠ none → σ.bk j ≠ none → β i = some a → β j = some b → a.block = b.block → i = j
 low : ∀ k, A k → k < w.heap.size
 top : base ≤ w.heap.size
 glo : GloOK w A
 lp : LoopRep w A β base σ.loop acts
/-- How the world may turn while code runs. -/
structure Turn (A A' : Nat → Prop) (base : Nat) (w w' : World) : Prop where
 ext : Ext A w w'
 grows : ∀ k, A k → A' k
 below : Below base w w'
 old : ∀ k, A' k → k < base → A k
 side : Side A A' w w'
theorem Turn.refl (A : Nat → Prop) (base : Nat) (w : World) : Turn A A base w w := ⟨.refl _ _, fun _ h => h, .refl _ _, fun _ h _ => h, .refl _ _⟩
theorem Turn.trans {A A' A'' : Nat → Prop} {base : Nat} {a b c : World} (h : Turn A A' base a b) (k : Turn A' A'' base b c) : Turn A A'' base a c :=
 ⟨h.ext.trans k.ext h.grows, fun x hx => k.grows x (h.grows x hx), h.below.trans k.below, fun x hx hl => h.old x (k.old x hx hl) hl, h.side.trans k.side⟩
theorem CellsAt.mono {w w' : World} {A A' : Nat → Prop} {β β' : Env} (hx : Ext A w w') (hA : ∀ k, A k → A' k) : ∀ (cs : List D) (ad : Addr), w'.heap[ad.block]? = w.heap[ad.block]? →
  (∀ id, D.hasL id cs = true → β' id = β id) → CellsAt w A β cs ad → CellsAt w' A' β' cs ad
 | [], _, _, _, _ => trivial
 | d :: ds, ad, hs, hb, h => by
  obtain ⟨⟨u, h1, h2⟩, h3⟩ := h
  exact ⟨⟨u, (cell_of_same hs).trans h1, Rep.mono hx hA d u (fun id h => hb id (by simp [D.hasL, h])) h2⟩, CellsAt.mono hx hA ds (plusOff ad 1) hs (fun id h => hb id (by simp [D.hasL, h])) h3⟩
theorem FrRep.mono {w w' : World} {A A' : Nat → Prop} {β β' : Env} (hx : Ext A w w') (hA : ∀ k, A k → A' k) {f : Fr} {tmps : Array Value} (hb : ∀ t id, (f.tm t).has id = true → β' id = β id) (h : FrRep w A β f tmps) : FrRep w' A' β' f tmps :=
 ⟨h.nt, fun t => Rep.mono hx hA _ _ (hb t) (h.tm t)⟩
theorem StkRep.mono {w w' : World} {A A' : Nat → Prop} {β β' : Env} (hx : Ext A w w') (hA : ∀ k, A k → A' k) : ∀ {fs : List Fr} {as : List (Array Value)}, (∀ f ∈ fs, ∀ t id, (f.tm t).has id = true → β' id = β id) → StkRep w A β fs as → StkRep w' A' β' fs as
 | [], [], _, _ => .nil
 | f :: fs, a :: as, hb, h => by
  cases h with
  | cons h1 h2 => exact .cons (FrRep.mono hx hA (hb f (by simp)) h1) (StkRep.mono hx hA (fun g hg => hb g (by simp [hg])) h2)
theorem D.has_forget (id : Nat) (d : D) : (d.forget id).has id = false := by
 unfold D.forget; split
 ·rfl
 ·next h => simpa using h
theorem D.has_forget_of {id j : Nat} {d : D} (h : (d.forget id).has j = true) : d.has j = true ∧ j ≠ id := by
 unfold D.forget at h; split at h
 ·simp [D.has] at h
 ·refine ⟨h, fun e => ?_⟩; subst e; contradiction
theorem D.hasL_forget_of {id j : Nat} : ∀ {cs : List D}, D.hasL j (cs.map (D.forget id)) = true → D.hasL j cs = true ∧ j ≠ id
 | [], h => by simp [D.hasL] at h
 | d :: ds, h => by
  simp only [List.map_cons, D.hasL, Bool.or_eq_true] at h ⊢
  rcases h with h | h
  ·exact ⟨.inl (D.has_forget_of h).1, (D.has_forget_of h).2⟩
  ·exact ⟨.inr (D.hasL_forget_of h).1, (D.hasL_forget_of h).2⟩
theorem Rep.forget {w : World} {A : Nat → Prop} {β : Env} {d : D} {u : Value} (id : Nat) (h : Rep w A β d u) : Rep w A β (d.forget id) u := by
 unfold D.forget; split
 ·simp [Rep, RepS]
 ·exact h
theorem CellsAt.forget {w : World} {A : Nat → Prop} {β : Env} (id : Nat) : ∀ {cs : List D} {ad : Addr}, CellsAt w A β cs ad → CellsAt w A β (cs.map (D.forget id)) ad
 | [], _, _ => trivial
 | _ :: _, _, ⟨⟨u, h1, h2⟩, h3⟩ => ⟨⟨u, h1, h2.forget id⟩, CellsAt.forget id h3⟩
theorem FrRep.forget {w : World} {A : Nat → Prop} {β : Env} {f : Fr} {a : Array Value} (id : Nat) (h : FrRep w A β f a) : FrRep w A β (f.forget id) a := ⟨h.nt, fun t => (h.tm t).forget id⟩
theorem StkRep.forget {w : World} {A : Nat → Prop} {β : Env} (id : Nat) : ∀ {fs : List Fr} {as : List (Array Value)}, StkRep w A β fs as → StkRep w A β (fs.map (Fr.forget id)) as
 | _, _, .nil => .nil
 | _, _, .cons h t => .cons (h.forget id) (t.forget id)
theorem BlkRep.forget {w : World} {A : Nat → Prop} {β : Env} {base : Nat} {b : Blk} {ad : Addr} (id : Nat) (h : BlkRep w A β base b ad) : BlkRep w A β base (b.forget id) ad :=
 ⟨h.spot, h.base, h.obj, h.cells.forget id, h.own, h.shared, h.inside⟩
/-- To forget a block: nothing speaks of it any more. -/
theorem Rel.forget {w : World} {A : Nat → Prop} {β : Env} {base : Nat} {σ : St} {tmps : Array Value} {acts : List (Array Value)} (h : Rel w A β base σ tmps acts) (id : Nat) : Rel w A β base (σ.forget id) tmps acts where
 fr := h.fr.forget id
 stk := h.stk.forget id
 blk := fun i b hb => by
  simp only [St.forget] at hb
  split at hb
  ·simp at hb
  ·simp only [Option.map_eq_some_iff] at hb
   obtain ⟨b0, hb0, rfl⟩ := hb
   rcases h.blk i b0 hb0 with ⟨h1, h2⟩ | ⟨ad, h1, h2⟩
   ·exact .inl ⟨h1, by simp [Blk.forget, h2]⟩
   ·exact .inr ⟨ad, h1, h2.forget id⟩
 inj := fun i j a b hi hj => h.inj i j a b (fun e => hi (by simp only [St.forget]; split <;> simp [e])) (fun e => hj (by simp only [St.forget]; split <;> simp [e]))
 low := h.low
 top := h.top
 glo := h.glo
 lp := by
  show LoopRep w A β base (if id = yldId then none else σ.loop) acts
  split
  ·trivial
  ·exact h.lp
/-- The whole relation, carried over a turn of the world that leaves what the state speaks of. -/
theorem Rel.carry {w w' : World} {A A' : Nat → Prop} {β β' : Env} {base : Nat} {σ : St} {tmps : Array Value} {acts : List (Array Value)} (h : Rel w A β base σ tmps acts)
  (hx : Ext A w w') (hA : ∀ k, A k → A' k) (low : ∀ k, A' k → k < w'.heap.size) (top : base ≤ w'.heap.size)
  (hfr : ∀ t id, (σ.fr.tm t).has id = true → β' id = β id) (hstk : ∀ f ∈ σ.stk, ∀ t id, (f.tm t).has id = true → β' id = β id)
  (hbk : ∀ i b, σ.bk i = some b → β' i = β i ∧ (∀ id, D.hasL id b.cells = true → β' id = β id) ∧ ∀ ad, β i = some ad → w'.heap[ad.block]? = w.heap[ad.block]? ∧ (A' ad.block → A ad.block))
  (hlp : LoopRep w' A' β' base σ.loop acts) : Rel w' A' β' base σ tmps acts where
 fr := h.fr.mono hx hA hfr
 stk := h.stk.mono hx hA hstk
 blk := fun i b hb => by
  obtain ⟨h1, h2, h3⟩ := hbk i b hb
  rcases h.blk i b hb with ⟨h4, h5⟩ | ⟨ad, h4, h5⟩
  ·exact .inl ⟨h1.trans h4, h5⟩
  ·obtain ⟨h6, h7⟩ := h3 ad h4
   exact .inr ⟨ad, h1.trans h4, ⟨h5.spot, h5.base, by rw [h6]; exact h5.obj, CellsAt.mono hx hA _ _ h6 h2 h5.cells, fun hr ha => h5.own hr (h7 ha), fun hr => hA _ (h5.shared hr), fun c T h8 => h5.inside c T (by rw [← h6]; exact h8)⟩⟩
 inj := fun i j a b hi hj ha hb => by
  obtain ⟨bi, hbi⟩ := Option.ne_none_iff_exists'.1 hi
  obtain ⟨bj, hbj⟩ := Option.ne_none_iff_exists'.1 hj
  rw [(hbk i bi hbi).1] at ha
  rw [(hbk j bj hbj).1] at hb
  exact h.inj i j a b hi hj ha hb
 low := low
 top := top
 glo := h.glo.mono hx.same hA
 lp := hlp
/-- A slot is written. -/
theorem FrRep.put {w : World} {A : Nat → Prop} {β : Env} {f : Fr} {a : Array Value} (h : FrRep w A β f a) {d : D} {u : Value} (t : Nat) (hd : Rep w A β d u) : FrRep w A β (f.put t d) (a.setIfInBounds t u) := by
 refine ⟨by simp [Fr.put, h.nt], fun i => ?_⟩
 simp only [Fr.put]
 by_cases e : i = t
 ·subst e
  rw [if_pos rfl]
  by_cases hl : i < f.nt
  ·rw [if_pos hl]
   rw [h.nt] at hl
   simp [hl]; exact hd
  ·rw [if_neg hl]; simp [Rep, RepS]
 ·rw [if_neg e]
  have := h.tm i
  rw [Array.getD_eq_getD_getElem?, Array.getElem?_setIfInBounds_ne (Ne.symm e), ← Array.getD_eq_getD_getElem?]
  exact this
theorem Rel.put {w : World} {A : Nat → Prop} {β : Env} {base : Nat} {σ : St} {tmps : Array Value} {acts : List (Array Value)} (h : Rel w A β base σ tmps acts) {d : D} {u : Value} (dst : Option Tmp) (hd : Rep w A β d u) :
  Rel w A β base (σ.put dst d) (match dst with | some t => tmps.setIfInBounds t u | none => tmps) acts := by
 cases dst with
 | none => exact h
 | some t => exact ⟨h.fr.put t hd, h.stk, h.blk, h.inj, h.low, h.top, h.glo, h.lp⟩
end Go.Dam
end

section
namespace Go.Dam
open Go Go.RowKit
variable [Glo]
theorem Result.andThen_eq_ok' {α γ : Type} {r : Result α} {f : α → World → Result γ} {b : γ} {w' : World} (h : r.andThen f = .ok b w') : ∃ a w1, r = .ok a w1 ∧ f a w1 = .ok b w' := by
 cases r with
 | ok a w1 => exact ⟨a, w1, rfl, h⟩
 | halt x w1 => cases h
theorem CellsAt.get {w : World} {A : Nat → Prop} {β : Env} : ∀ {cs : List D} {ad : Addr}, ad.spot = none → CellsAt w A β cs ad → ∀ (j : Nat) (d : D), cs[j]? = some d → ∃ u, w.cell? (plusOff ad j) = some u ∧ Rep w A β d u
 | [], _, _, _, _, _, h => by simp at h
 | d :: ds, ad, hs, h, 0, e, he => by
  simp at he; subst he
  obtain ⟨⟨u, h1, h2⟩, _⟩ := h
  refine ⟨u, ?_, h2⟩
  rw [← h1]; congr 1; cases ad; simp at hs; simp [plusOff, hs]
 | d :: ds, ad, hs, h, j + 1, e, he => by
  obtain ⟨u, h1, h2⟩ := CellsAt.get rfl h.2 j e (by simpa using he)
  refine ⟨u, ?_, h2⟩
  rw [plusOff_plus] at h1; rw [Nat.add_comm j 1]; exact h1
theorem CellsAt.of_get {w : World} {A : Nat → Prop} {β : Env} : ∀ {cs : List D} {ad : Addr}, ad.spot = none → (∀ (j : Nat) (d : D), cs[j]? = some d → ∃ u, w.cell? (plusOff ad j) = some u ∧ Rep w A β d u) → CellsAt w A β cs ad
 | [], _, _, _ => trivial
 | d :: ds, ad, hs, h => by
  refine ⟨?_, CellsAt.of_get rfl fun j e he => ?_⟩
  ·obtain ⟨u, h1, h2⟩ := h 0 d (by simp)
   refine ⟨u, ?_, h2⟩
   rw [← h1]; congr 1; cases ad; simp at hs; simp [plusOff, hs]
  ·obtain ⟨u, h1, h2⟩ := h (j + 1) e (by simpa using he)
   refine ⟨u, ?_, h2⟩
   rw [plusOff_plus, Nat.add_comm 1 j]; exact h1
theorem RepAt.cellsAt {w : World} {A : Nat → Prop} {β : Env} (hR : ∀ d u, RepS w A d u → Rep w A β d u) : ∀ {cs : List D} {ad : Addr}, RepAt w A cs ad → CellsAt w A β cs ad
 | [], _, _ => trivial
 | _ :: _, _, h => by
  simp only [RepAt] at h
  obtain ⟨⟨u, h1, h2⟩, h3⟩ := h
  exact ⟨⟨u, h1, hR _ _ h2⟩, RepAt.cellsAt hR h3⟩
mutual
/-- What reads by shared memory reads so beside blocks. -/
theorem RepS.rep {w : World} {A : Nat → Prop} {β : Env} : ∀ (d : D) (u : Value), RepS w A d u → Rep w A β d u
 | .undef, _, h => by simpa [Rep] using h
 | .v _, _, h => by simpa [Rep] using h
 | .yld, _, h => by simp [RepS] at h
 | .sh _ _, _, h => by simpa [Rep] using h
 | .shp _ _, _, h => by simpa [Rep] using h
 | .emp, _, h => by simpa [Rep] using h
 | .rc _, _, h => by simp only [Rep]; exact h
 | .oc _, _, h => by simpa [Rep] using h
 | .pel _ _ _ _, _, h => by simp [RepS] at h
 | .ow _ _ _, _, h => by simpa [Rep] using h
 | .sl _ _ _ _, _, h => by simp [RepS] at h
 | .ptr _ _, _, h => by simp [RepS] at h
 | .agg cs, u, h => by
  simp only [RepS] at h; simp only [Rep]
  obtain ⟨vs, rfl, h⟩ := h
  exact ⟨vs, rfl, RepL.repLs cs vs h⟩
 | .tup cs, u, h => by
  simp only [RepS] at h; simp only [Rep]
  obtain ⟨vs, rfl, h⟩ := h
  exact ⟨vs, rfl, RepL.repLs cs vs h⟩
 | .fn f cs, u, h => by
  simp only [RepS] at h; simp only [Rep]
  obtain ⟨vs, rfl, h⟩ := h
  exact ⟨vs, rfl, RepL.repLs cs vs h⟩
theorem RepL.repLs {w : World} {A : Nat → Prop} {β : Env} : ∀ (cs : List D) (vs : List Value), RepL w A cs vs → RepLs w A β cs vs
 | [], _, h => by simpa [RepL, RepLs] using h
 | d :: ds, vs, h => by
  simp only [RepL] at h; simp only [RepLs]
  obtain ⟨x, xs, rfl, h1, h2⟩ := h
  exact ⟨x, xs, rfl, RepS.rep d x h1, RepL.repLs ds xs h2⟩
end
theorem RepAt.drop {w : World} {A : Nat → Prop} : ∀ {cs : List D} {ad : Addr}, ad.spot = none → ∀ n, RepAt w A cs ad → RepAt w A (cs.drop n) (plusOff ad n)
 | cs, ad, hs, 0, h => by
  have : plusOff ad 0 = ad := by cases ad; simp at hs; simp [plusOff, hs]
  rw [this]; simpa using h
 | [], _, _, _ + 1, _ => by simp [RepAt]
 | d :: ds, ad, hs, n + 1, h => by
  simp only [RepAt] at h
  have := RepAt.drop (ad := plusOff ad 1) rfl n h.2
  rw [plusOff_plus, Nat.add_comm 1 n] at this
  simpa using this
theorem RepAt.take {w : World} {A : Nat → Prop} : ∀ {cs : List D} {ad : Addr} (n : Nat), RepAt w A cs ad → RepAt w A (cs.take n) ad
 | _, _, 0, _ => by simp [RepAt]
 | [], _, _ + 1, _ => by simp [RepAt]
 | d :: ds, ad, n + 1, h => by
  simp only [RepAt, List.take_succ_cons] at h ⊢
  exact ⟨h.1, RepAt.take n h.2⟩
theorem RepLs.get {w : World} {A : Nat → Prop} {β : Env} : ∀ {cs : List D} {vs : List Value}, RepLs w A β cs vs → ∀ (j : Nat) (d : D), cs[j]? = some d → ∃ u, vs[j]? = some u ∧ Rep w A β d u
 | [], _, _, _, _, h => by simp at h
 | d :: ds, vs, h, j, e, he => by
  simp only [RepLs] at h
  obtain ⟨x, xs, rfl, h1, h2⟩ := h
  cases j with
  | zero => simp at he; subst he; exact ⟨x, by simp, h1⟩
  | succ j => simpa using RepLs.get h2 j e (by simpa using he)
theorem RepLs.of_get {w : World} {A : Nat → Prop} {β : Env} : ∀ {cs : List D} {vs : List Value}, cs.length = vs.length → (∀ (j : Nat) (d : D), cs[j]? = some d → ∃ u, vs[j]? = some u ∧ Rep w A β d u) → RepLs w A β cs vs
 | [], vs, hl, _ => by simp at hl; simp [RepLs, List.length_eq_zero_iff.1 hl.symm]
 | d :: ds, [], hl, _ => by simp at hl
 | d :: ds, x :: xs, hl, h => by
  simp only [RepLs]
  refine ⟨x, xs, rfl, ?_, RepLs.of_get (by simpa using hl) fun j e he => ?_⟩
  ·obtain ⟨u, h1, h2⟩ := h 0 d (by simp); simp at h1; subst h1; exact h2
  ·simpa using h (j + 1) e (by simpa using he)
theorem RepLs.length {w : World} {A : Nat → Prop} {β : Env} : ∀ {cs : List D} {vs : List Value}, RepLs w A β cs vs → vs.length = cs.length
 | [], vs, h => by simp [RepLs] at h; simp [h]
 | d :: ds, vs, h => by
  simp only [RepLs] at h
  obtain ⟨x, xs, rfl, _, h2⟩ := h
  simp [RepLs.length h2]
theorem RepLs.append {w : World} {A : Nat → Prop} {β : Env} : ∀ {cs ds : List D} {vs us : List Value}, RepLs w A β cs vs → RepLs w A β ds us → RepLs w A β (cs ++ ds) (vs ++ us)
 | [], _, vs, _, h, k => by simp [RepLs] at h; subst h; simpa using k
 | d :: cs, _, vs, _, h, k => by
  simp only [RepLs, List.cons_append] at h ⊢
  obtain ⟨x, xs, rfl, h1, h2⟩ := h
  exact ⟨x, xs ++ _, rfl, h1, RepLs.append h2 k⟩
theorem RepLs.take {w : World} {A : Nat → Prop} {β : Env} {cs : List D} {vs : List Value} (n : Nat) (h : RepLs w A β cs vs) : RepLs w A β (cs.take n) (vs.take n) := by
 induction n generalizing cs vs with
 | zero => simp [RepLs]
 | succ n ih =>
  cases cs with
  | nil => simp [RepLs] at h; subst h; simp [RepLs]
  | cons d ds =>
   simp only [RepLs] at h
   obtain ⟨x, xs, rfl, h1, h2⟩ := h
   simp only [List.take_succ_cons, RepLs]
   exact ⟨x, _, rfl, h1, ih h2⟩
theorem RepLs.drop {w : World} {A : Nat → Prop} {β : Env} {cs : List D} {vs : List Value} (n : Nat) (h : RepLs w A β cs vs) : RepLs w A β (cs.drop n) (vs.drop n) := by
 induction n generalizing cs vs with
 | zero => simpa using h
 | succ n ih =>
  cases cs with
  | nil => simp [RepLs] at h; subst h; simp [RepLs]
  | cons d ds =>
   simp only [RepLs] at h
   obtain ⟨x, xs, rfl, h1, h2⟩ := h
   simpa using ih h2
/-- Cells are loaded. -/
theorem loadCellsFrom_run {w : World} {A : Nat → Prop} {β : Env} (P : Program) {ad : Addr} (hs : ad.spot = none) : ∀ (n i : Nat) (cs : List D) (acc : Array Value),
  (∀ (j : Nat) (d : D), cs[j]? = some d → ∃ u, w.cell? (plusOff ad (i + j)) = some u ∧ Rep w A β d u) → cs.length = n →
  ∃ vs : List Value, (loadCellsFrom ad i n acc).run P w = .ok (acc ++ vs.toArray) w ∧ RepLs w A β cs vs
 | 0, i, cs, acc, _, hl => by
  have : cs = [] := List.length_eq_zero_iff.1 hl
  subst this
  exact ⟨[], by simp [loadCellsFrom], by simp [RepLs]⟩
 | n + 1, i, [], acc, _, hl => by simp at hl
 | n + 1, i, d :: ds, acc, h, hl => by
  obtain ⟨u, h1, h2⟩ := h 0 d (by simp)
  obtain ⟨vs, h3, h4⟩ := loadCellsFrom_run P hs n (i + 1) ds (acc.push u) (fun j e he => by
   obtain ⟨u, k1, k2⟩ := h (j + 1) e (by simpa using he)
   exact ⟨u, by rw [← k1]; congr 2; omega, k2⟩) (by simpa using hl)
  refine ⟨u :: vs, ?_, by simp only [RepLs]; exact ⟨u, vs, rfl, h2, h4⟩⟩
  simp only [loadCellsFrom, Sem.run_bind, run_load]
  rw [add_eq_plus _ _ hs]
  have h1' : w.cell? (plusOff ad i) = some u := h1
  rw [h1']
  simp only [Result.andThen_ok, h3]
  simp
theorem loadCells_run {w : World} {A : Nat → Prop} {β : Env} (P : Program) {ad : Addr} (hs : ad.spot = none) {cs : List D} (h : CellsAt w A β cs ad) :
  ∃ vs : List Value, (loadCells ad cs.length).run P w = .ok vs.toArray w ∧ RepLs w A β cs vs := by
 obtain ⟨vs, h1, h2⟩ := loadCellsFrom_run P hs cs.length 0 cs #[] (fun j d hj => by simpa using h.get hs j d hj) rfl
 exact ⟨vs, by simpa [loadCells] using h1, h2⟩
/-- The array with some cells put at a place. -/
def putAt (c : Array Value) (i : Nat) : List Value → Array Value
 | [] => c
 | u :: us => putAt (c.setIfInBounds i u) (i + 1) us
theorem putAt_size : ∀ (us : List Value) (c : Array Value) (i : Nat), (putAt c i us).size = c.size
 | [], _, _ => rfl
 | u :: us, c, i => by simp [putAt, putAt_size us]
theorem putAt_get : ∀ (us : List Value) (c : Array Value) (i j : Nat), i + us.length ≤ c.size → (putAt c i us)[j]? = if i ≤ j ∧ j < i + us.length then us[j - i]? else c[j]?
 | [], c, i, j, _ => by simp [putAt]; omega
 | u :: us, c, i, j, h => by
  simp only [List.length_cons] at h ⊢
  rw [putAt, putAt_get us _ (i + 1) j (by simp; omega)]
  by_cases e : i = j
  ·subst e
   rw [if_neg (by omega), if_pos (by omega)]
   have hi : i < c.size := by omega
   simp [hi]
  ·by_cases h1 : i + 1 ≤ j ∧ j < i + 1 + us.length
   ·rw [if_pos h1, if_pos (by omega)]
    rw [show j - i = (j - (i + 1)) + 1 from by omega]; simp
   ·rw [if_neg h1, if_neg (by omega)]
    simp [Array.getElem?_setIfInBounds_ne e]
theorem cell_of_obj {w : World} {b o : Nat} {c : Array Value} {T : TypeId} {fz : Nat × Nat} (h : w.heap[b]? = some (.cells c T fz)) : w.cell? ⟨b, o, none⟩ = c[o]? := by
 simp [World.cell?, h]
/-- Cells are stored. -/
theorem storeCells_run (P : Program) (b T : Nat) : ∀ (us : List Value) (w : World) (c : Array Value) (off i : Nat), w.heap[b]? = some (.cells c T (0, 0)) → (∀ u ∈ us, u.oneCell' = true) → off + i + us.length ≤ c.size →
  ∃ w', (storeCells ⟨b, off, none⟩ us i).run P w = .ok () w' ∧ w'.heap[b]? = some (.cells (putAt c (off + i) us) T (0, 0)) ∧ (∀ k, k ≠ b → w'.heap[k]? = w.heap[k]?) ∧
   w'.os = w.os ∧ w'.tape = w.tape ∧ w'.output = w.output ∧ w'.heap.size = w.heap.size
 | [], w, c, off, i, h, _, _ => ⟨w, by simp [storeCells], by simpa [putAt] using h, fun _ _ => rfl, rfl, rfl, rfl, rfl⟩
 | u :: us, w, c, off, i, h, ho, hl => by
  simp only [List.length_cons] at hl
  have hcell : w.cell? ⟨b, off + i, none⟩ = c[off + i]? := cell_of_obj h
  have hlt : off + i < c.size := by omega
  have hset : (w.setCell ⟨b, off + i, none⟩ u).heap[b]? = some (.cells (c.setIfInBounds (off + i) u) T (0, 0)) := by
   simp [World.setCell, Array.getElem?_modify, h]
  obtain ⟨w', h1, h2, h3, h4, h5, h6, h7⟩ := storeCells_run P b T us (w.setCell ⟨b, off + i, none⟩ u) (c.setIfInBounds (off + i) u) off (i + 1) hset (fun x hx => ho x (by simp [hx])) (by simp; omega)
  refine ⟨w', ?_, by rw [h2]; simp [putAt, Nat.add_assoc], fun k hk => ?_, ?_⟩
  ·simp only [storeCells, Sem.run_bind]
   rw [add_eq_plus _ _ rfl, run_store _ _ _ _ _ (ho u (by simp))]
   have e1 : w.cell? (plusOff ⟨b, off, none⟩ i) = some c[off + i] := by
    show w.cell? ⟨b, off + i, none⟩ = _
    rw [hcell, Array.getElem?_eq_getElem hlt]
   have e2 : w.frozen? (plusOff ⟨b, off, none⟩ i) = false := by simp [World.frozen?, plusOff, h]
   rw [e1, e2]
   simp only [Result.andThen_ok]
   exact h1
  ·rw [h3 k hk]; exact Below.heap_setCell _ _ _ _ hk
  ·exact ⟨h4.trans rfl, h5.trans rfl, h6.trans rfl, h7.trans (by simp)⟩
end Go.Dam
end

section
namespace Go.Dam
open Go Go.RowKit
variable [Glo]
section
variable {w w' : World} {A : Nat → Prop} {β : Env} {base : Nat} {σ : St} {tmps : Array Value} {acts : List (Array Value)}
theorem Ext.of_heap (h : w'.heap = w.heap) : Ext A w w' := ⟨fun k _ => by rw [h], fun b m ⟨c, T, fz, h1, h2⟩ => ⟨c, T, fz, by rw [h]; exact h1, h2⟩⟩
/-- Only the heap counts. -/
theorem Rel.heap_eq (h : Rel w A β base σ tmps acts) (e : w'.heap = w.heap) : Rel w' A β base σ tmps acts :=
 h.carry (.of_heap e) (fun _ h => h) (fun k hk => by rw [e]; exact h.low k hk) (by rw [e]; exact h.top) (fun _ _ _ => rfl) (fun _ _ _ _ _ => rfl) (fun i b hb => ⟨rfl, fun _ _ => rfl, fun ad _ => ⟨by rw [e], fun x => x⟩⟩) (h.lp.mono (.of_heap e) (.refl _ _) (fun _ => rfl))
theorem Rel.rep_drew {cs : List D} {vs : List Value} (h : RepLs w A β cs vs) : RepLs w.drew A β cs vs := RepLs.mono (w := w) (w' := w.drew) (.of_heap rfl) (fun _ h => h) _ _ (fun _ _ => rfl) h
theorem Turn.of_heap (e : w'.heap = w.heap) (h1 : w'.os = w.os) (h2 : w'.tape = w.tape) (h3 : w'.output = w.output) : Turn A A base w w' :=
 ⟨.of_heap e, fun _ h => h, ⟨h1, h2, h3, by rw [e]; exact Nat.le_refl _, fun k _ => by rw [e]⟩, fun _ h _ => h, .strict (.of_heap e) (.refl _ _)⟩
theorem Oth.alloc (w : World) (o : Obj) : Oth w (w.alloc o) := fun k o' hk _ => (Below.heap_alloc w o k (Array.getElem?_eq_some_iff.1 hk).1).trans hk
theorem Ext.alloc (hA : ∀ k, A k → k < w.heap.size) (o : Obj) : Ext A w (w.alloc o) :=
 ⟨fun k hk => Below.heap_alloc _ _ _ (hA k hk), fun b m ⟨c, T, fz, h1, h2⟩ => ⟨c, T, fz, by
  have : b < w.heap.size := by
   rcases Nat.lt_or_ge b w.heap.size with h | h
   ·exact h
   ·rw [Array.getElem?_eq_none h] at h1; cases h1
  rw [Below.heap_alloc _ _ _ this]; exact h1, h2⟩⟩
theorem Turn.alloc (h : Rel w A β base σ tmps acts) (o : Obj) : Turn A A base w (w.alloc o) :=
 ⟨.alloc h.low o, fun _ h => h, (Below.refl _ _).alloc h.top o, fun _ h _ => h, .strict (.alloc w o) (.refl _ _)⟩
theorem Rel.alloc0 (h : Rel w A β base σ tmps acts) (o : Obj) : Rel (w.alloc o) A β base σ tmps acts :=
 h.carry (.alloc h.low o) (fun _ h => h) (fun k hk => by have := h.low k hk; simp; omega) (by have := h.top; simp; omega) (fun _ _ _ => rfl) (fun _ _ _ _ _ => rfl)
  (fun i b hb => ⟨rfl, fun _ _ => rfl, fun ad ha => ⟨Below.heap_alloc _ _ _ (by
   rcases h.blk i b hb with ⟨h1, _⟩ | ⟨ad', h1, hB⟩
   ·rw [ha] at h1; cases h1
   ·rw [ha] at h1; cases h1
    obtain ⟨c, T, hobj⟩ := hB.obj
    exact (Array.getElem?_eq_some_iff.1 hobj).1), fun x => x⟩⟩) (h.lp.mono (.alloc w o) (.refl _ _) (fun _ => rfl))
/-- 'β' with a block more. -/
def Env.set (β : Env) (id : Nat) (ad : Option Addr) : Env := fun i => if i = id then ad else β i
theorem Env.set_same (β : Env) (id : Nat) (ad : Option Addr) : β.set id ad id = ad := by simp [Env.set]
theorem Env.set_other (β : Env) {id i : Nat} (ad : Option Addr) (h : i ≠ id) : β.set id ad i = β i := by simp [Env.set, h]
/-- After a block was forgotten its place may be turned, and the world beside. -/
theorem Rel.rebind (h : Rel w A β base σ tmps acts) (id : Nat) (oa : Option Addr) (hx : Ext A w w') (top : base ≤ w'.heap.size) (low : w.heap.size ≤ w'.heap.size) (ho : Oth w w')
  (hb : ∀ i b ad, i ≠ id → σ.bk i = some b → β i = some ad → w'.heap[ad.block]? = w.heap[ad.block]?) : Rel w' A (β.set id oa) base (σ.forget id) tmps acts := by
 have hf := h.forget id
 refine hf.carry hx (fun _ h => h) (fun k hk => Nat.lt_of_lt_of_le (h.low k hk) low) top ?_ ?_ ?_ (hf.lp.mono ho (.refl _ _) (fun hne => Env.set_other _ _ (fun e => hne (by show (if id = yldId then none else σ.loop) = none; rw [if_pos e.symm]))))
 ·intro t i hi
  exact Env.set_other _ _ (D.has_forget_of hi).2
 ·intro f hfm t i hi
  simp only [St.forget, List.mem_map] at hfm
  obtain ⟨g, _, rfl⟩ := hfm
  exact Env.set_other _ _ (D.has_forget_of hi).2
 ·intro i b hbi
  simp only [St.forget] at hbi
  split at hbi
  ·cases hbi
  next hne =>
   simp only [Option.map_eq_some_iff] at hbi
   obtain ⟨b0, hb0, rfl⟩ := hbi
   refine ⟨Env.set_other _ _ hne, fun j hj => Env.set_other _ _ (D.hasL_forget_of hj).2, fun ad had => ⟨hb i b0 ad hne hb0 had, fun x => x⟩⟩
/-- A block is set whose place nothing else has. -/
theorem Rel.setB (h : Rel w A β base σ tmps acts) (id : Nat) (b : Blk) (hb : (β id = none ∧ b.cells = []) ∨ ∃ ad, β id = some ad ∧ BlkRep w A β base b ad)
  (hi : ∀ i a ad, i ≠ id → σ.bk i ≠ none → β i = some a → β id = some ad → a.block ≠ ad.block) : Rel w A β base (σ.setB id b) tmps acts where
 fr := h.fr
 stk := h.stk
 blk := fun i c hc => by
  simp only [St.setB] at hc
  split at hc
  next e => subst e; simp at hc; subst hc; exact hb
  next e => exact h.blk i c hc
 inj := fun i j a c hi' hj' ha hc hac => by
  by_cases e1 : i = id
  ·by_cases e2 : j = id
   ·rw [e1, e2]
   ·subst e1
    exact absurd hac.symm (hi j c a e2 (by simpa [St.setB, e2] using hj') hc ha)
  ·by_cases e2 : j = id
   ·subst e2
    exact absurd hac (hi i a c e1 (by simpa [St.setB, e1] using hi') ha hc)
   ·exact h.inj i j a c (by simpa [St.setB, e1] using hi') (by simpa [St.setB, e2] using hj') ha hc hac
 low := h.low
 top := h.top
 glo := h.glo
 lp := h.lp
theorem RepLs.forget (id : Nat) : ∀ {cs : List D} {vs : List Value}, RepLs w A β cs vs → RepLs w A β (cs.map (D.forget id)) vs
 | [], _, h => by simpa [RepLs] using h
 | d :: ds, vs, h => by
  simp only [RepLs, List.map_cons] at h ⊢
  obtain ⟨x, xs, rfl, h1, h2⟩ := h
  exact ⟨x, xs, rfl, h1.forget id, RepLs.forget id h2⟩
theorem blk_lt (h : Rel w A β base σ tmps acts) {i : Nat} {b : Blk} {ad : Addr} (hb : σ.bk i = some b) (ha : β i = some ad) : ad.block < w.heap.size := by
 rcases h.blk i b hb with ⟨h1, _⟩ | ⟨ad', h1, h2⟩
 ·rw [ha] at h1; cases h1
 ·rw [ha] at h1; cases h1
  obtain ⟨c, T, ho⟩ := h2.obj
  rcases Nat.lt_or_ge ad.block w.heap.size with h | h
  ·exact h
  ·rw [Array.getElem?_eq_none h] at ho; cases ho
/-- A new block. -/
theorem Rel.new (h : Rel w A β base σ tmps acts) (id : Nat) (c : Array Value) (T : TypeId) (cs : List D) (vs : List Value) (hc : RepLs w A β cs vs) (hv : ∀ (j : Nat) u, vs[j]? = some u → c[j]? = some u) :
  Rel (w.alloc (.cells c T)) A (β.set id (some ⟨w.heap.size, 0, none⟩)) base ((σ.forget id).setB id ⟨cs.map (D.forget id), false⟩) tmps acts := by
 have hx : Ext A w (w.alloc (.cells c T)) := .alloc h.low _
 have h1 := h.rebind id (some ⟨w.heap.size, 0, none⟩) hx (by simp; have := h.top; omega) (by simp) (.alloc w _) (fun i b ad _ hb ha => Below.heap_alloc _ _ _ (blk_lt h hb ha))
 refine h1.setB id _ (.inr ⟨_, Env.set_same _ _ _, ⟨rfl, h.top, ⟨c, T, by show (w.heap.push _)[w.heap.size]? = _; simp⟩, ?_, fun _ ha => Nat.lt_irrefl _ (h.low _ ha), fun e => (by cases e), fun c1 T1 _ => Nat.zero_le _⟩⟩) ?_
 ·refine CellsAt.of_get rfl fun j d hj => ?_
  simp only [List.getElem?_map, Option.map_eq_some_iff] at hj
  obtain ⟨d0, hd0, rfl⟩ := hj
  obtain ⟨u, hu, hr⟩ := hc.get j d0 hd0
  refine ⟨u, ?_, ?_⟩
  ·have : (w.alloc (.cells c T)).heap[w.heap.size]? = some (.cells c T (0, 0)) := by show (w.heap.push _)[w.heap.size]? = _; simp
   show World.cell? _ ⟨w.heap.size, 0 + j, none⟩ = _
   rw [cell_of_obj this, Nat.zero_add]
   exact hv j u hu
  ·exact Rep.mono hx (fun _ h => h) _ _ (fun i hi => Env.set_other _ _ (D.has_forget_of hi).2) (hr.forget id)
 ·intro i a ad hne hbk ha had
  rw [Env.set_same] at had
  cases had
  rw [Env.set_other _ _ hne] at ha
  simp only [St.forget, if_neg hne] at hbk
  obtain ⟨b, hb⟩ := Option.ne_none_iff_exists'.1 hbk
  simp only [Option.map_eq_some_iff] at hb
  obtain ⟨b0, hb0, _⟩ := hb
  have := blk_lt h hb0 ha
  intro e
  simp at e
  omega
/-- List with cells put at a place. -/
def splice (cs : List D) (off : Nat) (ds : List D) : List D := cs.take off ++ ds ++ cs.drop (off + ds.length)
theorem splice_get {cs : List D} {off : Nat} {ds : List D} (h : off + ds.length ≤ cs.length) (j : Nat) : (splice cs off ds)[j]? = if off ≤ j ∧ j < off + ds.length then ds[j - off]? else cs[j]? := by
 unfold splice
 rcases Nat.lt_or_ge j off with h1 | h1
 ·rw [if_neg (by omega), List.append_assoc, List.getElem?_append_left (by simp; omega), List.getElem?_take, if_pos h1]
 ·rcases Nat.lt_or_ge j (off + ds.length) with h2 | h2
  ·rw [if_pos ⟨h1, h2⟩, List.append_assoc, List.getElem?_append_right (by simp; omega), List.getElem?_append_left (by simp; omega)]
   congr 1; simp; omega
  ·rw [if_neg (by omega), List.getElem?_append_right (by simp; omega), List.getElem?_drop]
   congr 1; simp; omega
/-- What a store into an own block leaves. -/
theorem Rel.store (P : Program) (h : Rel w A β base σ tmps acts) {id : Nat} {cells : List D} (hb : σ.bk id = some ⟨cells, false⟩) {ad : Addr} (ha : β id = some ad) {off : Nat} {ds : List D} {vs : List Value}
  (hd : RepLs w A β ds vs) (ho : ∀ u ∈ vs, u.oneCell' = true) (hl : off + ds.length ≤ cells.length) :
  ∃ w', (storeCells (plusOff ad off) vs).run P w = .ok () w' ∧ Rel w' A β base (σ.setB id ⟨splice cells off ds, false⟩) tmps acts ∧ Turn A A base w w' := by
 rcases h.blk id _ hb with ⟨h1, _⟩ | ⟨ad', h1, hB⟩
 ·rw [ha] at h1; cases h1
 rw [ha] at h1; cases h1
 obtain ⟨c, T, hobj⟩ := hB.obj
 have hlen := hd.length
 have hsz : ad.off + off + vs.length ≤ c.size := by
  rcases Nat.eq_zero_or_pos cells.length with e | e
  ·have e1 : vs.length = 0 := by omega
   have e2 : off = 0 := by omega
   rw [e1, e2]
   have := hB.inside c T hobj
   omega
  ·have hlast : cells.length - 1 < cells.length := by omega
   obtain ⟨u, hu, _⟩ := hB.cells.get hB.spot (cells.length - 1) _ (List.getElem?_eq_getElem hlast)
   have : w.cell? (plusOff ad (cells.length - 1)) = c[ad.off + (cells.length - 1)]? := cell_of_obj hobj
   rw [this] at hu
   have := (Array.getElem?_eq_some_iff.1 hu).1
   omega
 obtain ⟨w', r1, r2, r3, r4, r5, r6, r7⟩ := storeCells_run P ad.block T vs w c (ad.off + off) 0 hobj ho (by omega)
 have hx : Ext A w w' := ⟨fun k hk => r3 k (fun e => hB.own rfl (e ▸ hk)), fun b m ⟨c1, T1, fz1, k1, k2⟩ => by
  by_cases e : b = ad.block
  ·subst e
   rw [hobj] at k1; cases k1
   exact ⟨_, T, (0, 0), r2, by rw [putAt_size]; exact k2⟩
  ·exact ⟨c1, T1, fz1, by rw [r3 b e]; exact k1, k2⟩⟩
 have hoth : Oth w w' := .but hobj r3
 refine ⟨w', r1, ?_, ⟨hx, fun _ h => h, ⟨r4, r5, r6, by omega, fun k hk => r3 k (by have := hB.base; omega)⟩, fun _ h _ => h, .strict hoth (.refl _ _)⟩⟩
 refine ⟨h.fr.mono hx (fun _ h => h) (fun _ _ _ => rfl), h.stk.mono hx (fun _ h => h) (fun _ _ _ _ _ => rfl), ?_, ?_, fun k hk => by rw [r7]; exact h.low k hk, by rw [r7]; exact h.top, h.glo.mono hx.same (fun _ h => h), h.lp.mono hoth (.refl _ _) (fun _ => rfl)⟩
 ·intro i b hbi
  simp only [St.setB] at hbi
  split at hbi
  next e =>
   subst e; simp at hbi; subst hbi
   refine .inr ⟨ad, ha, ⟨hB.spot, hB.base, ⟨_, T, r2⟩, ?_, hB.own, hB.shared, fun c1 T1 h1 => by rw [r2] at h1; cases h1; rw [putAt_size]; exact hB.inside c T hobj⟩⟩
   refine CellsAt.of_get hB.spot fun j d hj => ?_
   rw [splice_get hl] at hj
   have hc' : w'.cell? (plusOff ad j) = (putAt c (ad.off + off + 0) vs)[ad.off + j]? := cell_of_obj r2
   rw [hc', putAt_get _ _ _ _ (by omega)]
   split at hj
   next hin =>
    obtain ⟨u, hu, hr⟩ := hd.get _ _ hj
    refine ⟨u, ?_, Rep.mono hx (fun _ h => h) _ _ (fun _ _ => rfl) hr⟩
    rw [if_pos (by omega), ← hu]; congr 1; omega
   next hout =>
    obtain ⟨u, hu, hr⟩ := hB.cells.get hB.spot j d hj
    refine ⟨u, ?_, Rep.mono hx (fun _ h => h) _ _ (fun _ _ => rfl) hr⟩
    rw [if_neg (by omega), ← hu]
    exact (cell_of_obj (o := ad.off + j) hobj).symm
  next e =>
   rcases h.blk i b hbi with ⟨k1, k2⟩ | ⟨a2, k1, k2⟩
   ·exact .inl ⟨k1, k2⟩
   ·have hne : a2.block ≠ ad.block := fun e2 => e (h.inj i id a2 ad (by simp [hbi]) (by simp [hb]) k1 ha e2)
    have hsame := r3 _ hne
    exact .inr ⟨a2, k1, ⟨k2.spot, k2.base, by rw [hsame]; exact k2.obj, CellsAt.mono hx (fun _ h => h) _ _ hsame (fun _ _ => rfl) k2.cells, k2.own, k2.shared, fun c1 T1 h1 => k2.inside c1 T1 (by rw [← hsame]; exact h1)⟩⟩
 ·intro i j a b hi hj
  refine h.inj i j a b (fun e => hi ?_) (fun e => hj ?_)
  ·simp only [St.setB]; split
   next e1 => subst e1; rw [hb] at e; cases e
   next => exact e
  ·simp only [St.setB]; split
   next e1 => subst e1; rw [hb] at e; cases e
   next => exact e
end
end Go.Dam
end
