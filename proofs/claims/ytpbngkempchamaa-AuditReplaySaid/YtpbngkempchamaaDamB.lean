/- The engine, part B: an abstract machine for the program's functions, proved right against the model. No condition. -/
import Derived.Test.YtpbngkempchamaaDamA
import Derived.Laws.Sem
set_option linter.unusedSectionVars false
set_option linter.unusedVariables false
set_option linter.unusedSimpArgs false
namespace Go.Dam
open Go Go.RowKit
set_option linter.unusedSectionVars false
variable [Glo]

/-- A computation that touches no memory. -/
def pureRun {α : Type} (P : Program) : Sem α → Option α
  | .pure a => some a
  | .program k => pureRun P (k P)
  | .mark _ k => pureRun P k
  | _ => none

theorem pureRun_run {α : Type} (P : Program) (w : World) : ∀ (s : Sem α) (a : α), pureRun P s = some a → s.run P w = .ok a w
  | .pure b, a, h => by simp [pureRun] at h; subst h; rfl
  | .program k, a, h => by simp only [pureRun] at h; simp only [Sem.run]; exact pureRun_run P w (k P) a h
  | .load .., _, h => by simp [pureRun] at h
  | .store .., _, h => by simp [pureRun] at h
  | .new .., _, h => by simp [pureRun] at h
  | .shape .., _, h => by simp [pureRun] at h
  | .freeze .., _, h => by simp [pureRun] at h
  | .frozen .., _, h => by simp [pureRun] at h
  | .getObj .., _, h => by simp [pureRun] at h
  | .setObj .., _, h => by simp [pureRun] at h
  | .choose .., _, h => by simp [pureRun] at h
  | .sys .., _, h => by simp [pureRun] at h
  | .mark _ k, a, h => by simp only [pureRun] at h; simp only [Sem.run]; exact pureRun_run P w k a h
  | .halt .., _, h => by simp [pureRun] at h

/-- The plain value of an abstract one. -/
def D.plain : D → Option Value
  | .v x => some x
  | .agg cs => (D.plainL cs).map fun vs => .agg vs.toArray
  | _ => none
where
  D.plainL : List D → Option (List Value)
  | [] => some []
  | d :: ds => match d with
    | .v x => (D.plainL ds).map (x :: ·)
    | _ => none

abbrev D.plainL := D.plain.D.plainL

/-- An abstract value out of a plain one. -/
def D.ofV : Value → D
  | .agg cs => .agg (cs.toList.map D.v)
  | .tuple cs => .tup (cs.toList.map D.v)
  | x => .v x

theorem RepLs.plain {w : World} {A : Nat → Prop} {β : Env} : ∀ (cs : List D) (vs us : List Value), D.plainL cs = some vs → RepLs w A β cs us → us = vs
  | [], vs, us, h, r => by
    simp [D.plain.D.plainL] at h; subst h
    simpa [RepLs] using r
  | .v x :: ds, vs, us, h, r => by
    simp only [D.plain.D.plainL, Option.map_eq_some_iff] at h
    obtain ⟨ys, h1, rfl⟩ := h
    simp only [RepLs, Rep, RepS] at r
    obtain ⟨y, xs, rfl, rfl, r2⟩ := r
    rw [RepLs.plain ds ys xs h1 r2]
  | .yld :: _, _, _, h, _ | .undef :: _, _, _, h, _ | .emp :: _, _, _, h, _ | .sh .. :: _, _, _, h, _ | .ow .. :: _, _, _, h, _ | .sl .. :: _, _, _, h, _ | .ptr .. :: _, _, _, h, _ | .pel .. :: _, _, _, h, _ | .rc .. :: _, _, _, h, _ | .oc .. :: _, _, _, h, _ | .shp .. :: _, _, _, h, _ | .fn .. :: _, _, _, h, _
  | .agg .. :: _, _, _, h, _ | .tup .. :: _, _, _, h, _ => by simp [D.plain.D.plainL] at h

theorem Rep.plain {w : World} {A : Nat → Prop} {β : Env} {d : D} {v u : Value} (h : d.plain = some v) (r : Rep w A β d u) : u = v := by
  cases d with
  | v x => simp [D.plain] at h; simp [Rep, RepS] at r; rw [r, h]
  | agg cs =>
    simp only [D.plain, Option.map_eq_some_iff] at h
    obtain ⟨vs, h1, rfl⟩ := h
    simp only [Rep] at r
    obtain ⟨us, rfl, r⟩ := r
    rw [RepLs.plain cs vs us h1 r]
  | _ => simp [D.plain] at h

theorem RepLs.ofV {w : World} {A : Nat → Prop} {β : Env} : ∀ (vs : List Value), RepLs w A β (vs.map D.v) vs
  | [] => by simp [RepLs]
  | x :: xs => by simp only [List.map_cons, RepLs]; exact ⟨x, xs, rfl, by simp [Rep, RepS], RepLs.ofV xs⟩

theorem Rep.ofV {w : World} {A : Nat → Prop} {β : Env} (v : Value) : Rep w A β (D.ofV v) v := by
  cases v with
  | agg cs => simp only [D.ofV, Rep]; exact ⟨cs.toList, rfl, RepLs.ofV _⟩
  | tuple cs => simp only [D.ofV, Rep]; exact ⟨cs.toList, rfl, RepLs.ofV _⟩
  | _ => simp [D.ofV, Rep, RepS]

/-- The abstract state: temporaries, the temporaries of the callers, blocks. -/
structure Fr where
  nt : Nat
  tm : Nat → D

inductive LSt where
  | ready
  | busy
  | done (c : Code)

def LSt.state : LSt → LoopState
  | .ready => .ready
  | .busy => .busy
  | .done _ => .done
def LSt.jump : LSt → Option Code
  | .done c => some c
  | _ => none

/-- The loop over a function that runs: its record; and at how many frames its function stands. -/
structure LoopSt where
  ps : Array Tmp
  assign : Code
  body : Code
  depth : Nat
  state : LSt

structure St where
  fr : Fr
  stk : List Fr
  bk : Nat → Option Blk
  loop : Option LoopSt := none

def Fr.put (f : Fr) (t : Nat) (d : D) : Fr := { f with tm := fun i => if i = t then (if t < f.nt then d else .undef) else f.tm i }
def St.put (σ : St) (dst : Option Tmp) (d : D) : St :=
  match dst with
  | some t => { σ with fr := σ.fr.put t d }
  | none => σ

def D.forget (id : Nat) (d : D) : D := if d.has id then .undef else d
def Fr.forget (id : Nat) (f : Fr) : Fr := { f with tm := fun t => (f.tm t).forget id }
def Blk.forget (id : Nat) (b : Blk) : Blk := { b with cells := b.cells.map (D.forget id) }
def St.forget (id : Nat) (σ : St) : St :=
  { fr := σ.fr.forget id, stk := σ.stk.map (Fr.forget id), bk := fun i => if i = id then none else (σ.bk i).map (Blk.forget id), loop := if id = yldId then none else σ.loop }
def St.setB (σ : St) (id : Nat) (b : Blk) : St := { σ with bk := fun i => if i = id then some b else σ.bk i }

/-- Cells of a block read so. -/
def CellsAt (w : World) (A : Nat → Prop) (β : Env) : List D → Addr → Prop
  | [], _ => True
  | d :: ds, ad => (∃ u, w.cell? ad = some u ∧ Rep w A β d u) ∧ CellsAt w A β ds (plusOff ad 1)

structure FrRep (w : World) (A : Nat → Prop) (β : Env) (f : Fr) (tmps : Array Value) : Prop where
  nt : f.nt = tmps.size
  tm : ∀ t, Rep w A β (f.tm t) (tmps.getD t Go.undef)

inductive StkRep (w : World) (A : Nat → Prop) (β : Env) : List Fr → List (Array Value) → Prop
  | nil : StkRep w A β [] []
  | cons {f : Fr} {fs : List Fr} {a : Array Value} {as : List (Array Value)} : FrRep w A β f a → StkRep w A β fs as → StkRep w A β (f :: fs) (a :: as)

/-- Block 'id' of the abstract state lies at 'ad': owned (from 'base' on), whole, not frozen. -/
structure BlkRep (w : World) (A : Nat → Prop) (β : Env) (base : Nat) (b : Blk) (ad : Addr) : Prop where
  spot : ad.spot = none
  base : base ≤ ad.block
  obj : ∃ c T, w.heap[ad.block]? = some (.cells c T (0, 0))
  cells : CellsAt w A β b.cells ad
  own : b.ro = false → ¬ A ad.block
  shared : b.ro = true → A ad.block
  inside : ∀ c T, w.heap[ad.block]? = some (.cells c T (0, 0)) → ad.off ≤ c.size

/-- The package-level variables read so. -/
def GloOK (w : World) (A : Nat → Prop) : Prop := ∀ g, Glo.g g ≠ [] → A g ∧ RepAt w A (Glo.g g) ⟨g, 0, none⟩
theorem GloOK.mono {w w' : World} {A A' : Nat → Prop} (hs : ∀ k, A k → w'.heap[k]? = w.heap[k]?) (hA : ∀ k, A k → A' k) (h : GloOK w A) : GloOK w' A' :=
  fun g hg => ⟨hA _ (h g hg).1, RepAt.mono hs hA _ _ (h g hg).1 (h g hg).2⟩
theorem GloOK.grow {w : World} {A A' : Nat → Prop} (hA : ∀ k, A k → A' k) (h : GloOK w A) : GloOK w A' := h.mono (fun _ _ => rfl) hA

/-- The record of the loop that runs. -/
def LoopRep (w : World) (A : Nat → Prop) (β : Env) (base : Nat) : Option LoopSt → List (Array Value) → Prop
  | none, _ => True
  | some L, acts => ∃ l D fn tmps pre post, β yldId = some ⟨l, 0, none⟩ ∧ acts = pre ++ tmps :: #[.int .i64 (l : Int)] :: post ∧ post.length + 2 = L.depth ∧
      w.heap[l]? = some (.loop { state := L.state.state, pending := L.state.jump, fn := fn, tmps := tmps, params := L.ps, assign := L.assign, body := L.body, defers := D }) ∧ ¬ A l ∧ base ≤ l

theorem LoopRep.mono {w w' : World} {A A' : Nat → Prop} {β β' : Env} {base : Nat} {L : Option LoopSt} {acts : List (Array Value)} (ho : Oth w w') (hn : New A A' w) (hβ : L ≠ none → β' yldId = β yldId) (h : LoopRep w A β base L acts) : LoopRep w' A' β' base L acts := by
  cases L with
  | none => trivial
  | some L =>
    obtain ⟨l, D, fn, tmps, pre, post, h1, h2, h3, h4, h5, h6⟩ := h
    exact ⟨l, D, fn, tmps, pre, post, (hβ (by simp)).trans h1, h2, h3, ho _ _ h4 rfl, fun ha => h5 (hn _ _ h4 rfl ha), h6⟩

structure Rel (w : World) (A : Nat → Prop) (β : Env) (base : Nat) (σ : St) (tmps : Array Value) (acts : List (Array Value)) : Prop where
  fr : FrRep w A β σ.fr tmps
  stk : StkRep w A β σ.stk acts
  blk : ∀ id b, σ.bk id = some b → (β id = none ∧ b.cells = []) ∨ ∃ ad, β id = some ad ∧ BlkRep w A β base b ad
  inj : ∀ i j a b, σ.bk i ≠ none → σ.bk j ≠ none → β i = some a → β j = some b → a.block = b.block → i = j
  low : ∀ k, A k → k < w.heap.size
  top : base ≤ w.heap.size
  glo : GloOK w A
  lp : LoopRep w A β base σ.loop acts

/-- How the world may turn while code runs. -/
structure Turn (A A' : Nat → Prop) (base : Nat) (w w' : World) : Prop where
  ext : Ext A w w'
  grows : ∀ k, A k → A' k
  below : Below base w w'
  old : ∀ k, A' k → k < base → A k
  side : Side A A' w w'

theorem Turn.refl (A : Nat → Prop) (base : Nat) (w : World) : Turn A A base w w := ⟨.refl _ _, fun _ h => h, .refl _ _, fun _ h _ => h, .refl _ _⟩
theorem Turn.trans {A A' A'' : Nat → Prop} {base : Nat} {a b c : World} (h : Turn A A' base a b) (k : Turn A' A'' base b c) : Turn A A'' base a c :=
  ⟨h.ext.trans k.ext h.grows, fun x hx => k.grows x (h.grows x hx), h.below.trans k.below, fun x hx hl => h.old x (k.old x hx hl) hl, h.side.trans k.side⟩

theorem CellsAt.mono {w w' : World} {A A' : Nat → Prop} {β β' : Env} (hx : Ext A w w') (hA : ∀ k, A k → A' k) : ∀ (cs : List D) (ad : Addr), w'.heap[ad.block]? = w.heap[ad.block]? →
    (∀ id, D.hasL id cs = true → β' id = β id) → CellsAt w A β cs ad → CellsAt w' A' β' cs ad
  | [], _, _, _, _ => trivial
  | d :: ds, ad, hs, hb, h => by
    obtain ⟨⟨u, h1, h2⟩, h3⟩ := h
    exact ⟨⟨u, (cell_of_same hs).trans h1, Rep.mono hx hA d u (fun id h => hb id (by simp [D.hasL, h])) h2⟩, CellsAt.mono hx hA ds (plusOff ad 1) hs (fun id h => hb id (by simp [D.hasL, h])) h3⟩

theorem FrRep.mono {w w' : World} {A A' : Nat → Prop} {β β' : Env} (hx : Ext A w w') (hA : ∀ k, A k → A' k) {f : Fr} {tmps : Array Value} (hb : ∀ t id, (f.tm t).has id = true → β' id = β id) (h : FrRep w A β f tmps) : FrRep w' A' β' f tmps :=
  ⟨h.nt, fun t => Rep.mono hx hA _ _ (hb t) (h.tm t)⟩

theorem StkRep.mono {w w' : World} {A A' : Nat → Prop} {β β' : Env} (hx : Ext A w w') (hA : ∀ k, A k → A' k) : ∀ {fs : List Fr} {as : List (Array Value)}, (∀ f ∈ fs, ∀ t id, (f.tm t).has id = true → β' id = β id) → StkRep w A β fs as → StkRep w' A' β' fs as
  | [], [], _, _ => .nil
  | f :: fs, a :: as, hb, h => by
    cases h with
    | cons h1 h2 => exact .cons (FrRep.mono hx hA (hb f (by simp)) h1) (StkRep.mono hx hA (fun g hg => hb g (by simp [hg])) h2)

theorem D.has_forget (id : Nat) (d : D) : (d.forget id).has id = false := by
  unfold D.forget; split
  · rfl
  · next h => simpa using h
theorem D.has_forget_of {id j : Nat} {d : D} (h : (d.forget id).has j = true) : d.has j = true ∧ j ≠ id := by
  unfold D.forget at h; split at h
  · simp [D.has] at h
  · refine ⟨h, fun e => ?_⟩; subst e; contradiction
theorem D.hasL_forget_of {id j : Nat} : ∀ {cs : List D}, D.hasL j (cs.map (D.forget id)) = true → D.hasL j cs = true ∧ j ≠ id
  | [], h => by simp [D.hasL] at h
  | d :: ds, h => by
    simp only [List.map_cons, D.hasL, Bool.or_eq_true] at h ⊢
    rcases h with h | h
    · exact ⟨.inl (D.has_forget_of h).1, (D.has_forget_of h).2⟩
    · exact ⟨.inr (D.hasL_forget_of h).1, (D.hasL_forget_of h).2⟩
theorem Rep.forget {w : World} {A : Nat → Prop} {β : Env} {d : D} {u : Value} (id : Nat) (h : Rep w A β d u) : Rep w A β (d.forget id) u := by
  unfold D.forget; split
  · simp [Rep, RepS]
  · exact h
theorem CellsAt.forget {w : World} {A : Nat → Prop} {β : Env} (id : Nat) : ∀ {cs : List D} {ad : Addr}, CellsAt w A β cs ad → CellsAt w A β (cs.map (D.forget id)) ad
  | [], _, _ => trivial
  | _ :: _, _, ⟨⟨u, h1, h2⟩, h3⟩ => ⟨⟨u, h1, h2.forget id⟩, CellsAt.forget id h3⟩
theorem FrRep.forget {w : World} {A : Nat → Prop} {β : Env} {f : Fr} {a : Array Value} (id : Nat) (h : FrRep w A β f a) : FrRep w A β (f.forget id) a := ⟨h.nt, fun t => (h.tm t).forget id⟩
theorem StkRep.forget {w : World} {A : Nat → Prop} {β : Env} (id : Nat) : ∀ {fs : List Fr} {as : List (Array Value)}, StkRep w A β fs as → StkRep w A β (fs.map (Fr.forget id)) as
  | _, _, .nil => .nil
  | _, _, .cons h t => .cons (h.forget id) (t.forget id)
theorem BlkRep.forget {w : World} {A : Nat → Prop} {β : Env} {base : Nat} {b : Blk} {ad : Addr} (id : Nat) (h : BlkRep w A β base b ad) : BlkRep w A β base (b.forget id) ad :=
  ⟨h.spot, h.base, h.obj, h.cells.forget id, h.own, h.shared, h.inside⟩

/-- To forget a block: nothing speaks of it any more. -/
theorem Rel.forget {w : World} {A : Nat → Prop} {β : Env} {base : Nat} {σ : St} {tmps : Array Value} {acts : List (Array Value)} (h : Rel w A β base σ tmps acts) (id : Nat) : Rel w A β base (σ.forget id) tmps acts where
  fr := h.fr.forget id
  stk := h.stk.forget id
  blk := fun i b hb => by
    simp only [St.forget] at hb
    split at hb
    · simp at hb
    · simp only [Option.map_eq_some_iff] at hb
      obtain ⟨b0, hb0, rfl⟩ := hb
      rcases h.blk i b0 hb0 with ⟨h1, h2⟩ | ⟨ad, h1, h2⟩
      · exact .inl ⟨h1, by simp [Blk.forget, h2]⟩
      · exact .inr ⟨ad, h1, h2.forget id⟩
  inj := fun i j a b hi hj => h.inj i j a b (fun e => hi (by simp only [St.forget]; split <;> simp [e])) (fun e => hj (by simp only [St.forget]; split <;> simp [e]))
  low := h.low
  top := h.top
  glo := h.glo
  lp := by
    show LoopRep w A β base (if id = yldId then none else σ.loop) acts
    split
    · trivial
    · exact h.lp

/-- The whole relation, carried over a turn of the world that leaves what the state speaks of. -/
theorem Rel.carry {w w' : World} {A A' : Nat → Prop} {β β' : Env} {base : Nat} {σ : St} {tmps : Array Value} {acts : List (Array Value)} (h : Rel w A β base σ tmps acts)
    (hx : Ext A w w') (hA : ∀ k, A k → A' k) (low : ∀ k, A' k → k < w'.heap.size) (top : base ≤ w'.heap.size)
    (hfr : ∀ t id, (σ.fr.tm t).has id = true → β' id = β id) (hstk : ∀ f ∈ σ.stk, ∀ t id, (f.tm t).has id = true → β' id = β id)
    (hbk : ∀ i b, σ.bk i = some b → β' i = β i ∧ (∀ id, D.hasL id b.cells = true → β' id = β id) ∧ ∀ ad, β i = some ad → w'.heap[ad.block]? = w.heap[ad.block]? ∧ (A' ad.block → A ad.block))
    (hlp : LoopRep w' A' β' base σ.loop acts) : Rel w' A' β' base σ tmps acts where
  fr := h.fr.mono hx hA hfr
  stk := h.stk.mono hx hA hstk
  blk := fun i b hb => by
    obtain ⟨h1, h2, h3⟩ := hbk i b hb
    rcases h.blk i b hb with ⟨h4, h5⟩ | ⟨ad, h4, h5⟩
    · exact .inl ⟨h1.trans h4, h5⟩
    · obtain ⟨h6, h7⟩ := h3 ad h4
      exact .inr ⟨ad, h1.trans h4, ⟨h5.spot, h5.base, by rw [h6]; exact h5.obj, CellsAt.mono hx hA _ _ h6 h2 h5.cells, fun hr ha => h5.own hr (h7 ha), fun hr => hA _ (h5.shared hr), fun c T h8 => h5.inside c T (by rw [← h6]; exact h8)⟩⟩
  inj := fun i j a b hi hj ha hb => by
    obtain ⟨bi, hbi⟩ := Option.ne_none_iff_exists'.1 hi
    obtain ⟨bj, hbj⟩ := Option.ne_none_iff_exists'.1 hj
    rw [(hbk i bi hbi).1] at ha
    rw [(hbk j bj hbj).1] at hb
    exact h.inj i j a b hi hj ha hb
  low := low
  top := top
  glo := h.glo.mono hx.same hA
  lp := hlp

/-- A slot is written. -/
theorem FrRep.put {w : World} {A : Nat → Prop} {β : Env} {f : Fr} {a : Array Value} (h : FrRep w A β f a) {d : D} {u : Value} (t : Nat) (hd : Rep w A β d u) : FrRep w A β (f.put t d) (a.setIfInBounds t u) := by
  refine ⟨by simp [Fr.put, h.nt], fun i => ?_⟩
  simp only [Fr.put]
  by_cases e : i = t
  · subst e
    rw [if_pos rfl]
    by_cases hl : i < f.nt
    · rw [if_pos hl]
      rw [h.nt] at hl
      simp [hl]; exact hd
    · rw [if_neg hl]; simp [Rep, RepS]
  · rw [if_neg e]
    have := h.tm i
    rw [Array.getD_eq_getD_getElem?, Array.getElem?_setIfInBounds_ne (Ne.symm e), ← Array.getD_eq_getD_getElem?]
    exact this

theorem Rel.put {w : World} {A : Nat → Prop} {β : Env} {base : Nat} {σ : St} {tmps : Array Value} {acts : List (Array Value)} (h : Rel w A β base σ tmps acts) {d : D} {u : Value} (dst : Option Tmp) (hd : Rep w A β d u) :
    Rel w A β base (σ.put dst d) (match dst with | some t => tmps.setIfInBounds t u | none => tmps) acts := by
  cases dst with
  | none => exact h
  | some t => exact ⟨h.fr.put t hd, h.stk, h.blk, h.inj, h.low, h.top, h.glo, h.lp⟩

end Go.Dam
