/- The engine: an abstract machine for the program's functions, proved right against the model. No condition. -/
import Derived.Test.YtakcfkmfiamliaaDamXQ
set_option linter.unusedSectionVars false
set_option linter.unusedVariables false
set_option linter.unusedSimpArgs false
section
namespace Go.Dam
open Go Go.RowKit
variable [Glo]
/-! A nil slice, read as an own row without elements. -/
def SomeEq (b b' : List (Option Addr)) : Prop := b'.filterMap id = b.filterMap id
theorem Fresh.some {w : World} {A : Nat → Prop} {B : Nat} {b b' : List (Option Addr)} (h : Fresh w A B b) (e : SomeEq b b') : Fresh w A B b' where
 each := fun ad hm => h.each ad (by
  have : ad ∈ b'.filterMap id := List.mem_filterMap.2 ⟨_, hm, rfl⟩
  rw [e] at this
  obtain ⟨x, h1, h2⟩ := List.mem_filterMap.1 this
  simp only [id] at h2; subst h2; exact h1)
 apart := by
  have key : ∀ l : List (Option Addr), l.Pairwise (fun x y => ∀ a b, x = Option.some a → y = Option.some b → a.block ≠ b.block) ↔ (l.filterMap id).Pairwise fun a b : Addr => a.block ≠ b.block := fun l => by
   rw [List.pairwise_filterMap]
   constructor
   ·intro h; exact h.imp fun h a ha b hb => h a b ha hb
   ·intro h; exact h.imp fun h a b ha hb => h a ha b hb
  rw [key, e, ← key]; exact h.apart
def ReadsN (d d' : D) : Prop := ∀ (w : World) (A : Nat → Prop) (u : Value) (bl : List (Option Addr)), RepO w A d u bl → ∃ bl', RepO w A d' u bl' ∧ SomeEq bl bl'
theorem ReadsN.refl (d : D) : ReadsN d d := fun _ _ _ bl h => ⟨bl, h, rfl⟩
theorem ReadsN.nil {cols : List Col0} (h : rowLen0 cols = 0) : ReadsN (.v (.slice none 0 0)) (.oc cols) := fun w A u bl hr => by
 simp only [RepO, RepS] at hr
 obtain ⟨rfl, rfl⟩ := hr
 refine ⟨[none], ?_, rfl⟩
 simp only [RepO]
 refine ⟨none, 0, by rw [h], .inl ⟨h, rfl, ?_, trivial⟩⟩
 apply List.length_eq_zero_iff.1
 rw [rowCells0_length, h]; simp
inductive ReadsNs : List D → List D → Prop
 | nil : ReadsNs [] []
 | cons {d e : D} {ds es : List D} : ReadsN d e → ReadsNs ds es → ReadsNs (d :: ds) (e :: es)
theorem ReadsNs.refl : ∀ ds : List D, ReadsNs ds ds
 | [] => .nil
 | d :: ds => .cons (.refl d) (ReadsNs.refl ds)
theorem ReadsNs.repOs {ds es : List D} (h : ReadsNs ds es) : ∀ {w : World} {A : Nat → Prop} {vs : List Value} {bl : List (Option Addr)}, RepOs w A ds vs bl → ∃ bl', RepOs w A es vs bl' ∧ SomeEq bl bl' := by
 induction h with
 | nil => intro w A vs bl h; exact ⟨bl, h, rfl⟩
 | cons h _ ih =>
  intro w A vs bl hr
  simp only [RepOs] at hr ⊢
  obtain ⟨x, xs, b1, b2, rfl, rfl, h1, h2⟩ := hr
  obtain ⟨c1, k1, e1⟩ := h w A x b1 h1
  obtain ⟨c2, k2, e2⟩ := ih h2
  refine ⟨c1 ++ c2, ⟨x, xs, c1, c2, rfl, rfl, k1, k2⟩, ?_⟩
  unfold SomeEq at *
  rw [List.filterMap_append, List.filterMap_append, e1, e2]
theorem ReadsNs.agg {ds es : List D} (h : ReadsNs ds es) : ReadsN (.agg ds) (.agg es) := fun w A u bl hr => by
 simp only [RepO] at hr ⊢
 obtain ⟨vs, rfl, hr⟩ := hr
 obtain ⟨bl', k, e⟩ := h.repOs hr
 exact ⟨bl', ⟨vs, rfl, k⟩, e⟩
theorem ReadsNs.tup {ds es : List D} (h : ReadsNs ds es) : ReadsN (.tup ds) (.tup es) := fun w A u bl hr => by
 simp only [RepO] at hr ⊢
 obtain ⟨vs, rfl, hr⟩ := hr
 obtain ⟨bl', k, e⟩ := h.repOs hr
 exact ⟨bl', ⟨vs, rfl, k⟩, e⟩
theorem calls_reads {P : Program} {f : FuncId} {args : List D} {e e' : D} (h : ReadsN e e') (k : CallsD P f args e) : CallsD P f args e' := fun w A vs hv low glo => by
 refine (k w A vs hv low glo).mono ?_
 rintro r w' ⟨v, A', bl, rfl, hr, h1, h2, h3, h4, h5⟩
 obtain ⟨bl', k1, k2⟩ := h w' A' v bl hr
 exact ⟨v, A', bl', rfl, k1, h1.some k2, h2, h3, h4, h5⟩
end Go.Dam
end

section
namespace Go.Dam
open Go
variable [Glo]
/-- All paths of a walk as a tree: what is left is to be shown (s), is so (k), is told (p); d decides. -/
inductive Tr (α : Type) where
 | lf (x : α)
 | s (c : Prop) (t : Tr α)
 | k (c : Prop) (h : c) (t : Tr α)
 | d (b : Bool) (t : b = true → Tr α) (f : b = false → Tr α)
 | p (e : PE) (t : Tr α)
@[reducible] def Tr.q {α β : Type} (a : β) (t : Tr α) : Tr α := .k (a = a) rfl t
/-- Each leaf is what the walk comes to. -/
def Leaves {α : Type} (E : List PE → Option (α × List Prop)) : Tr α → List PE → List Prop → Prop
 | .lf x, l, cs => E l.reverse = some (x, cs)
 | .s c t, l, cs => Leaves E t l (c :: cs)
 | .k c _ t, l, cs => Leaves E t l (c :: cs)
 | .d b t f, l, cs => (∀ e, Leaves E (t e) (.d true :: l) ((b = true) :: cs)) ∧ ∀ e, Leaves E (f e) (.d false :: l) ((b = false) :: cs)
 | .p e t, l, cs => Leaves E t (e :: l) cs
/-- What is to be shown at a leaf. -/
def At {α : Type} (G : α → Prop) : Tr α → List Bool → Prop → Prop
 | .lf x, _, S => S ∧ G x
 | .s c t, q, S => At G t q (c ∧ S)
 | .k _ _ t, q, S => At G t q S
 | .d b t _, true :: q, S => ∀ e : b = true, At G (t e) q S
 | .d b _ f, false :: q, S => ∀ e : b = false, At G (f e) q S
 | .d _ _ _, [], _ => False
 | .p _ t, q, S => At G t q S
def Goals {α : Type} (G : α → Prop) : Tr α → Prop → Prop
 | .lf x, S => S ∧ G x
 | .s c t, S => Goals G t (c ∧ S)
 | .k _ _ t, S => Goals G t S
 | .d _ t f, S => (∀ e, Goals G (t e) S) ∧ ∀ e, Goals G (f e) S
 | .p _ t, S => Goals G t S
theorem goals_leaf {α : Type} {E : List PE → Option (α × List Prop)} {G : α → Prop} : ∀ (t : Tr α) (l : List PE) (cs : List Prop) (S : Prop), Leaves E t l cs → Goals G t S → (S → AllP cs) → ∃ l' x cs', E l' = some (x, cs') ∧ AllP cs' ∧ G x
 | .lf x, l, cs, S, hl, hg, hs => ⟨_, x, cs, hl, hs hg.1, hg.2⟩
 | .s c t, l, cs, S, hl, hg, hs => goals_leaf t l (c :: cs) (c ∧ S) hl hg fun h => ⟨h.1, hs h.2⟩
 | .k c h t, l, cs, S, hl, hg, hs => goals_leaf t l (c :: cs) S hl hg fun g => ⟨h, hs g⟩
 | .d true t f, l, cs, S, hl, hg, hs => goals_leaf (t rfl) _ _ S (hl.1 rfl) (hg.1 rfl) fun g => ⟨rfl, hs g⟩
 | .d false t f, l, cs, S, hl, hg, hs => goals_leaf (f rfl) _ _ S (hl.2 rfl) (hg.2 rfl) fun g => ⟨rfl, hs g⟩
 | .p e t, l, cs, S, hl, hg, hs => goals_leaf t (e :: l) cs S hl hg hs
theorem tree_calls {P : Program} {X : Contracts} (hX : ConOK P X) {fuel : Nat} {f : FuncId} {args : List D} {res : D} {t : Tr D}
  (h : Leaves (fun l => fnX P X fuel l f args) t [] []) (g : Goals (fun r => res = r) t True) : CallsD P f args res := by
 obtain ⟨l, x, cs, h1, h2, h3⟩ := goals_leaf t [] [] True h g fun _ => trivial
 exact of_path hX h1 h2 h3
/-- How a round goes on. -/
def RG (P : Program) (b : Code) (e : Ex) (σ : St) : Ex × Cs → Prop
 | (.normal, c) => Runs P (CallsD P) (.rounds b) c.abs e σ
 | (x, c) => e = x ∧ σ = c.abs
noncomputable def roundT (P : Program) (X : Contracts) (fuel : Nat) (b : Code) (keep : List (List Nat)) (ren : List (Nat × Nat)) (c : Cs) (l : List PE) : Option ((Ex × Cs) × List Prop) :=
 match roundX P X fuel b l keep ren c with
 | some (e, c1, cs) => some ((e, c1), cs)
 | none => none
theorem tree_rounds {P : Program} {X : Contracts} (hX : ConOK P X) {fuel : Nat} {b : Code} {keep : List (List Nat)} {ren : List (Nat × Nat)} {c : Cs} {σ : St} {e : Ex} {t : Tr (Ex × Cs)}
  (h : Leaves (roundT P X fuel b keep ren c) t [] []) (g : Goals (RG P b e σ) t True) : Runs P (CallsD P) (.rounds b) c.abs e σ := by
 obtain ⟨l, ⟨x, c1⟩, cs, h1, h2, h3⟩ := goals_leaf t [] [] True h g fun _ => trivial
 unfold roundT at h1
 split at h1
 next e1 c2 cs' h4 =>
  simp only [Option.some.injEq, Prod.mk.injEq] at h1
  obtain ⟨⟨rfl, rfl⟩, rfl⟩ := h1
  by_cases n : e1 = .normal
  ·subst n; exact rounds_on hX h4 h2 h3
  ·have : e = e1 ∧ σ = c2.abs := by
    unfold RG at h3
    split at h3
    next heq => simp only [Prod.mk.injEq] at heq; exact absurd heq.1 n
    next heq => simp only [Prod.mk.injEq] at heq; obtain ⟨rfl, rfl⟩ := heq; exact h3
   exact rounds_end hX h4 h2 n this
 ·cases h1
end Go.Dam
end

section
namespace Go.Dam
open Go Go.RowKit Go.ChangeShapes Go.WideShapes
/-! Values of numbers, truth values and rows, however they are nested. -/
inductive FK where
 | one (c : CK)
 | row (ks : List CK)
def cOK : CK → Col → Nat → Prop
 | .int k, .ints k' xs, n => k' = k ∧ xs.length = n ∧ ∀ i, i < n → (Lit.int k (xs.getD i 0)).wf = true
 | .bool, .bools bs, n => bs.length = n
 | _, _, _ => False
def ColsOf (n : Nat) : List CK → List Col → Prop
 | [], [] => True
 | k :: ks, c :: cs => cOK k c n ∧ ColsOf n ks cs
 | _, _ => False
/-- A row that came in, without more said of it. -/
def RowIn (w : World) (cs : List Col) (n : Nat) (u : Value) : Prop :=
 ∃ o cp, u = .slice o n cp ∧ n ≤ cp ∧ (n ≠ 0 → ∃ ad, o = some ad ∧ ad.spot = none ∧ ad.block < w.heap.size) ∧
  ∀ i j c, i < n → cs[j]? = some c → w.cell? (plusOff (o.getD default) (i * cs.length + j)) = some (match c with | .ints k xs => .int k (xs.getD i 0) | .bools bs => .bool (bs.getD i false) | .rows _ _ => .int .i64 0)
def FK.ok (w : World) : FK → Value → Prop
 | .one c, v => c.ok v
 | .row ks, v => ∃ cols n, ColsOf n ks cols ∧ RowIn w cols n v
def FFits (w : World) : List FK → List Value → Prop
 | [], [] => True
 | k :: ks, v :: vs => k.ok w v ∧ FFits w ks vs
 | _, _ => False
theorem FFits.app {w : World} : ∀ {ks : List FK} {cs : List Value} {ks' : List FK}, FFits w ks (cs.take ks.length) → FFits w ks' (cs.drop ks.length) → FFits w (ks ++ ks') cs
 | [], cs, ks', _, h => by simpa using h
 | k :: ks, [], ks', h, _ => by simp [FFits] at h
 | k :: ks, c :: cs, ks', h, h' => by
  simp only [List.length_cons, List.take_succ_cons, FFits, List.drop_succ_cons, List.cons_append] at h h' ⊢
  exact ⟨h.1, FFits.app h.2 h'⟩
def intOf : Value → Int
 | .int _ n => n
 | _ => 0
def boolOf : Value → Bool
 | .bool b => b
 | _ => false
def mkCol (n : Nat) (V : Nat → Value) : CK → Col
 | .int k => .ints k ((List.range n).map fun i => intOf (V i))
 | .bool => .bools ((List.range n).map fun i => boolOf (V i))
def mkCols (n : Nat) : List CK → (Nat → Nat → Value) → List Col
 | [], _ => []
 | k :: ks, V => mkCol n (fun i => V i 0) k :: mkCols n ks fun i j => V i (j + 1)
theorem mkCols_length (n : Nat) : ∀ (ks : List CK) (V : Nat → Nat → Value), (mkCols n ks V).length = ks.length
 | [], _ => rfl
 | _ :: ks, V => by simp [mkCols, mkCols_length n ks]
theorem getD_map (n : Nat) {α : Type} (f : Nat → α) (i : Nat) (z : α) (h : i < n) : ((List.range n).map f).getD i z = f i := by
 simp [List.getD_eq_getElem?_getD, List.getElem?_range h]
theorem mkCols_of {n : Nat} : ∀ {ks : List CK} {V : Nat → Nat → Value}, (∀ (i j : Nat) (k : CK), i < n → ks[j]? = some k → k.ok (V i j)) → ColsOf n ks (mkCols n ks V)
 | [], _, _ => trivial
 | k :: ks, V, h => by
  refine ⟨?_, mkCols_of fun i j k' hi hj => h i (j + 1) k' hi (by simpa using hj)⟩
  cases k with
  | bool => simp [mkCol, cOK]
  | int k =>
   refine ⟨rfl, by simp, fun i hi => ?_⟩
   obtain ⟨m, e, hw⟩ := h i 0 (.int k) hi rfl
   rw [getD_map n _ i 0 hi]
   show (Lit.int k (intOf (V i 0))).wf = true
   rw [e]; exact hw
theorem mkCols_at {n : Nat} : ∀ {ks : List CK} {V : Nat → Nat → Value} {j : Nat} {c : Col} {i : Nat}, (∀ (i j : Nat) (k : CK), i < n → ks[j]? = some k → k.ok (V i j)) → i < n → (mkCols n ks V)[j]? = some c →
  V i j = (match c with | .ints k xs => .int k (xs.getD i 0) | .bools bs => .bool (bs.getD i false) | .rows _ _ => .int .i64 0)
 | [], _, _, _, _, _, _, h => by simp [mkCols] at h
 | k :: ks, V, 0, c, i, h, hi, hc => by
  simp [mkCols] at hc; subst hc
  cases k with
  | int k =>
   obtain ⟨m, e, hw⟩ := h i 0 (.int k) hi rfl
   simp only [mkCol]
   rw [getD_map n _ i 0 hi]
   show V i 0 = .int k (intOf (V i 0))
   rw [e]; rfl
  | bool =>
   obtain ⟨b, e⟩ := h i 0 .bool hi rfl
   simp only [mkCol]
   rw [getD_map n _ i false hi]
   show V i 0 = .bool (boolOf (V i 0))
   rw [e]; rfl
 | k :: ks, V, j + 1, c, i, h, hi, hc => by
  simp only [mkCols, List.getElem?_cons_succ] at hc
  exact mkCols_at (V := fun i j => V i (j + 1)) (fun i j k' hi hj => h i (j + 1) k' hi (by simpa using hj)) hi hc
theorem Fits.get : ∀ {ks : List CK} {vs : List Value} {j : Nat} {k : CK}, Fits ks vs → ks[j]? = some k → ∃ v, vs[j]? = some v ∧ k.ok v
 | [], _, _, _, _, h => by simp at h
 | _ :: _, [], _, _, h, _ => by simp [Fits] at h
 | k :: ks, v :: vs, 0, k', h, hj => by simp at hj; subst hj; exact ⟨v, rfl, h.1⟩
 | k :: ks, v :: vs, j + 1, k', h, hj => by
  simp only [List.getElem?_cons_succ] at hj ⊢
  exact Fits.get h.2 hj
section
variable {H : Type} {enc : TypeId × Value → H} {P : Program} {w : World} {spare : Nat → Bool}
theorem row_trod {t e : TypeId} {n : Nat} {k0 : CK} {ks : List CK} {fuel : Nat} {cs : List Value} {x : DataW H × List MemPlace} (ht : P.underlying t = some (.slice e)) (hk : flatT P n e = some (k0 :: ks))
  (hf : DataW.trod enc P w 0 spare true fuel t cs = some x) : ∃ v, cs = [v] ∧ (FK.row (k0 :: ks)).ok w v := by
 have hc : (k0 :: ks).length = P.cellsOf e := flatT_length hk
 rcases Go.Deep.open_slice ht hf with ⟨rfl, _⟩ | ⟨a, l0, cap, m, n', Dx, Pl, rfl, _, hl, hm, hmm, _, hx⟩
 ·refine ⟨_, rfl, mkCols 0 (k0 :: ks) fun _ _ => .int .i64 0, 0, mkCols_of fun i j k hi _ => by omega, none, 0, rfl, by simp, by simp, fun i j c hi _ => by omega⟩
 ·have hlm : l0 ≤ m := by rw [hmm]; split <;> omega
  have each : ∀ i, i < l0 → ∃ f : Nat → Value, (∀ (j : Nat) (k : CK), (k0 :: ks)[j]? = some k → w.cell? ((a.add (i * (k0 :: ks).length)).add j) = some (f j)) ∧ ∀ (j : Nat) (k : CK), (k0 :: ks)[j]? = some k → k.ok (f j) := fun i hi => by
   obtain ⟨cs', h1, h2⟩ := hx i (by omega)
   rw [← hc] at h1
   obtain ⟨_, hlen, hcell⟩ := World.cells?_some h1
   have hfit := flat_trod hk h2
   refine ⟨fun j => cs'.getD j (.int .i64 0), fun j k hj => ?_, fun j k hj => ?_⟩
   ·have hjl : j < (k0 :: ks).length := (List.getElem?_eq_some_iff.1 hj).1
    obtain ⟨v, hv, _⟩ := hfit.get hj
    rw [hcell j hjl, hv]
    show some v = some (cs'.getD j (.int .i64 0))
    rw [List.getD_eq_getElem?_getD, hv]; rfl
   ·obtain ⟨v, hv, ho⟩ := hfit.get hj
    show k.ok (cs'.getD j (.int .i64 0))
    rw [List.getD_eq_getElem?_getD, hv]; exact ho
  have hch : ∃ f : Nat → Nat → Value, ∀ i, i < l0 → (∀ (j : Nat) (k : CK), (k0 :: ks)[j]? = some k → w.cell? ((a.add (i * (k0 :: ks).length)).add j) = some (f i j)) ∧ ∀ (j : Nat) (k : CK), (k0 :: ks)[j]? = some k → k.ok (f i j) := by
   refine ⟨fun i => if h : i < l0 then Classical.choose (each i h) else fun _ => .int .i64 0, fun i hi => ?_⟩
   simp only [dif_pos hi]
   exact Classical.choose_spec (each i hi)
  obtain ⟨f, hfx⟩ := hch
  have spot : l0 ≠ 0 → a.spot = none ∧ a.block < w.heap.size := fun h0 => by
   have := (hfx 0 (by omega)).1 0 k0 rfl
   rw [Nat.zero_mul, show (a.add 0).add 0 = a from rfl] at this
   unfold World.cell? at this
   split at this
   next c _ _ hb =>
    refine ⟨?_, ?_⟩
    ·cases hs : a.spot with
     | none => rfl
     | some x => rw [hs] at this; simp at this
    ·rcases Nat.lt_or_ge a.block w.heap.size with h | h
     ·exact h
     ·rw [Array.getElem?_eq_none h] at hb; cases hb
   ·cases this
  have hok : ∀ (i j : Nat) (k : CK), i < l0 → (k0 :: ks)[j]? = some k → k.ok (f i j) := fun i j k hi hj => (hfx i hi).2 j k hj
  refine ⟨_, rfl, mkCols l0 (k0 :: ks) f, l0, mkCols_of hok, some a, cap, rfl, hl, fun h0 => ⟨a, rfl, (spot h0).1, (spot h0).2⟩, fun i j c hi hj => ?_⟩
  have hs := (spot (by omega)).1
  have hjl : j < (k0 :: ks).length := by
   have := (List.getElem?_eq_some_iff.1 hj).1
   rwa [mkCols_length] at this
  obtain ⟨k, hk⟩ : ∃ k, (k0 :: ks)[j]? = some k := ⟨_, List.getElem?_eq_getElem hjl⟩
  have hthis := (hfx i hi).1 j k hk
  rw [mkCols_at hok hi hj] at hthis
  letI : Glo := ⟨fun _ => [], fun _ => false⟩
  rw [add_plus a _ hs, add_plus _ _ (by rfl), plusOff_plus] at hthis
  rw [mkCols_length]
  exact hthis
end
variable [Glo]
theorem RowIn.rep (hg : ¬ Live) {w : World} {cs : List Col} {n : Nat} {u : Value} (hn : rowLen cs = n) (hr : ∀ c ∈ cs, ∀ m f, c ≠ .rows m f) (h : RowIn w cs n u) : RepS w (fun k => k < w.heap.size) (.rc cs) u := by
 obtain ⟨o, cp, rfl, hl, h0, hc⟩ := h
 subst hn
 simp only [RepS]
 refine ⟨o, cp, rfl, fun q => absurd q hg, hl, h0, fun i j c hi hj => ?_⟩
 refine ⟨_, hc i j c hi hj, ?_⟩
 have := hr c (List.mem_of_getElem? hj)
 cases c with
 | ints k xs => rfl
 | bools bs => rfl
 | rows m f => exact absurd rfl (this m f)
/-- One column, or three: what a row of such kinds is. -/
theorem colsOf_int {n : Nat} {k : IntKind} {ks : List CK} {cols : List Col} (h : ColsOf n (.int k :: ks) cols) : ∃ xs cs, cols = .ints k xs :: cs ∧ xs.length = n ∧ (∀ i, i < n → (Lit.int k (xs.getD i 0)).wf = true) ∧ ColsOf n ks cs := by
 cases cols with
 | nil => cases h
 | cons c cs =>
  obtain ⟨a, b⟩ := h
  cases c with
  | ints k' xs => obtain ⟨rfl, e, w⟩ := a; exact ⟨xs, cs, rfl, e, w, b⟩
  | bools _ => cases a
  | rows _ _ => cases a
theorem colsOf_nil {n : Nat} {cols : List Col} (h : ColsOf n [] cols) : cols = [] := by
 cases cols with
 | nil => rfl
 | cons => cases h
end Go.Dam
end
