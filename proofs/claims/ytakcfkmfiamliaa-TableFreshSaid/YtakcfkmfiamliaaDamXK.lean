/- The engine: an abstract machine for the program's functions, proved right against the model. No condition. -/
import Derived.Test.YtakcfkmfiamliaaDamXE
import Derived.WalkKit
import Derived.ProofKit
import Derived.OpenShut
import Derived.ChangeOld
import Derived.Below
import Derived.Carry
import Derived.SizedLaws
import Derived.Deep.SlicePairs
set_option linter.unusedSectionVars false
set_option linter.unusedVariables false
set_option linter.unusedSimpArgs false
section
namespace Go.Dam
open Go Go.RowKit
set_option linter.unusedSectionVars false
variable [Glo]
set_option linter.unusedSimpArgs false
set_option linter.unusedVariables false
noncomputable section
/-! ### The state ahead of a loop: what counts of it, its blocks by other names -/
def renOf (i : Nat) : List (Nat × Nat) → Option Nat
  | [] => none
  | (k, j) :: l => bif Nat.beq k i then some j else renOf i l
mutual
def D.ren (l : List (Nat × Nat)) : D → D
  | .sl i off n sz => match renOf i l with
    | some j => .sl j off n sz
    | none => .undef
  | .ptr i off => match renOf i l with
    | some j => .ptr j off
    | none => .undef
  | .pel i a b c => match renOf i l with
    | some j => .pel j a b c
    | none => .undef
  | .agg cs => .agg (D.renL l cs)
  | .tup cs => .tup (D.renL l cs)
  | .fn f cs => .fn f (D.renL l cs)
  | d => d
def D.renL (l : List (Nat × Nat)) : List D → List D
  | [] => []
  | d :: ds => D.ren l d :: D.renL l ds
end
def BX.ren (l : List (Nat × Nat)) : BX → BX
  | .cells cs ro => .cells (D.renL l cs) ro
  | .row cols ro => .row cols ro
def keepT (t : TT) : List Nat → TT
  | [] => .lf
  | k :: ks => (keepT t ks).set (t.get (path k)) (path k)
/-- A tree out of what lies in it. -/
def TT.of : List (Nat × D) → TT
  | [] => .lf
  | (k, d) :: l => (TT.of l).set d (path k)
theorem get_keepT (t : TT) (k : Nat) : ∀ ks, (keepT t ks).get (path k) = if k ∈ ks then t.get (path k) else .undef
  | [] => by simp [keepT, get_lf]
  | j :: ks => by
    simp only [keepT, TT.get_set, get_keepT t k ks]
    by_cases h : k = j
    · subst h; simp
    · rw [if_neg (fun e => h (path_inj e))]; simp [h]
def renBk (bk : List (Nat × BX)) (l : List (Nat × Nat)) : List (Nat × Nat) → List (Nat × BX)
  | [] => []
  | (i, j) :: m => match lookX i bk with
    | some b => (j, b.ren l) :: renBk bk l m
    | none => renBk bk l m
def keepF (l : List (Nat × Nat)) (f : TT × Nat) (ks : List Nat) : TT × Nat := ((keepT f.1 ks).map (D.ren l), f.2)
def keepS (l : List (Nat × Nat)) : List (TT × Nat) → List (List Nat) → List (TT × Nat)
  | [], _ => []
  | f :: fs, [] => keepF l f [] :: keepS l fs []
  | f :: fs, k :: ks => keepF l f k :: keepS l fs ks
/-- The state ahead of a loop. -/
def Cs.norm (c : Cs) (keep : List (List Nat)) (l : List (Nat × Nat)) : Cs :=
  { tm := (keepF l (c.tm, c.nt) (keep.headD [])).1, nt := c.nt, stk := keepS l c.stk keep.tail, bk := renBk c.bk l l, loop := c.loop, gen := 0 }
/-- Names given once. -/
def okRen : List (Nat × Nat) → Bool
  | [] => true
  | (i, j) :: l => (!(Nat.beq j yldId)) && (l.all (fun p => !(Nat.beq p.1 i) && !(Nat.beq p.2 j)) && okRen l)
theorem okRen_mem : ∀ {l : List (Nat × Nat)}, okRen l = true → (∀ i j, (i, j) ∈ l → renOf i l = some j ∧ j ≠ yldId) ∧ ∀ i i' j, (i, j) ∈ l → (i', j) ∈ l → i = i'
  | [], _ => ⟨fun i j h => (by cases h), fun i i' j h => (by cases h)⟩
  | (a, b) :: l, h => by
    simp only [okRen, Bool.and_eq_true, Bool.not_eq_true', List.all_eq_true, Prod.forall] at h
    obtain ⟨h1, h2, h3⟩ := h
    obtain ⟨k1, k2⟩ := okRen_mem h3
    have hb : b ≠ yldId := fun e => by rw [e, beq_yes] at h1; cases h1
    refine ⟨fun i j hm => ?_, fun i i' j hm hm' => ?_⟩
    · simp only [List.mem_cons, Prod.mk.injEq] at hm
      rcases hm with ⟨rfl, rfl⟩ | hm
      · exact ⟨by simp [renOf, beq_yes], hb⟩
      · have hne : a ≠ i := fun e => by subst e; have := (h2 a j hm).1; rw [beq_yes] at this; cases this
        simp only [renOf, beq_no hne, cond_false]
        exact k1 i j hm
    · simp only [List.mem_cons, Prod.mk.injEq] at hm hm'
      rcases hm with ⟨e1, e2⟩ | hm <;> rcases hm' with ⟨e3, e4⟩ | hm'
      · rw [e1, e3]
      · have := (h2 i' _ hm').2; rw [e2, beq_yes] at this; cases this
      · have := (h2 i _ hm).2; rw [e4, beq_yes] at this; cases this
      · exact k2 i i' j hm hm'
theorem renOf_mem : ∀ {l : List (Nat × Nat)} {i j : Nat}, renOf i l = some j → (i, j) ∈ l
  | [], _, _, h => by simp [renOf] at h
  | (a, b) :: l, i, j, h => by
    simp only [renOf, cond_eq_ite] at h
    split at h
    next e => have := Nat.eq_of_beq_eq_true e; simp at h; subst this; subst h; simp
    next => simp [renOf_mem h]
def invOf (j : Nat) : List (Nat × Nat) → Option Nat
  | [] => none
  | (i, k) :: l => if k = j then some i else invOf j l
theorem invOf_mem {j : Nat} : ∀ {l : List (Nat × Nat)} {i : Nat}, okRen l = true → (i, j) ∈ l → invOf j l = some i
  | [], i, _, h => by cases h
  | (a, b) :: l, i, ho, h => by
    simp only [invOf]
    split
    next e =>
      subst e
      rw [(okRen_mem ho).2 i a b h (by simp)]
    next e =>
      simp only [List.mem_cons, Prod.mk.injEq] at h
      rcases h with ⟨rfl, rfl⟩ | h
      · exact absurd rfl e
      · simp only [okRen, Bool.and_eq_true] at ho
        exact invOf_mem ho.2.2 h
/-- Where the renamed blocks lie. -/
def renEnv (β : Env) (l : List (Nat × Nat)) : Env := fun k => if k = yldId then β yldId else (invOf k l).bind β
theorem renEnv_of {β : Env} {l : List (Nat × Nat)} (ho : okRen l = true) {i j : Nat} (h : renOf i l = some j) : renEnv β l j = β i := by
  have hm := renOf_mem h
  unfold renEnv
  rw [if_neg ((okRen_mem ho).1 i j hm).2, invOf_mem ho hm]
  rfl
mutual
theorem ren_rep {w : World} {A : Nat → Prop} {β : Env} {l : List (Nat × Nat)} (ho : okRen l = true) : ∀ (d : D) (u : Value), Rep w A β d u → Rep w A (renEnv β l) (d.ren l) u
  | .sl i off n sz, u, h => by
    simp only [D.ren]
    split
    next j hj =>
      simp only [Rep] at h ⊢
      rw [renEnv_of ho hj]; exact h
    next => simp [Rep, RepS]
  | .ptr i off, u, h => by
    simp only [D.ren]
    split
    next j hj =>
      simp only [Rep] at h ⊢
      rw [renEnv_of ho hj]; exact h
    next => simp [Rep, RepS]
  | .pel i a b c, u, h => by
    simp only [D.ren]
    split
    next j hj =>
      simp only [Rep] at h ⊢
      rw [renEnv_of ho hj]; exact h
    next => simp [Rep, RepS]
  | .agg cs, u, h => by
    simp only [Rep, D.ren] at h ⊢
    obtain ⟨vs, rfl, h⟩ := h
    exact ⟨vs, rfl, renL_rep ho cs vs h⟩
  | .tup cs, u, h => by
    simp only [Rep, D.ren] at h ⊢
    obtain ⟨vs, rfl, h⟩ := h
    exact ⟨vs, rfl, renL_rep ho cs vs h⟩
  | .fn f cs, u, h => by
    simp only [Rep, D.ren] at h ⊢
    obtain ⟨vs, rfl, h⟩ := h
    exact ⟨vs, rfl, renL_rep ho cs vs h⟩
  | .yld, u, h => by
    simp only [Rep, D.ren] at h ⊢
    obtain ⟨ad, h1, h2⟩ := h
    exact ⟨ad, by simp [renEnv, h1], h2⟩
  | .undef, u, h => by simpa [D.ren, Rep] using h
  | .v x, u, h => by simpa [D.ren, Rep] using h
  | .emp, u, h => by simpa [D.ren, Rep] using h
  | .sh _ _, u, h => by simpa [D.ren, Rep] using h
  | .ow _ _ _, u, h => by simpa [D.ren, Rep] using h
  | .shp _ _, u, h => by simpa [D.ren, Rep] using h
  | .rc _, u, h => by simpa [D.ren, Rep] using h
  | .oc _, u, h => by simpa [D.ren, Rep] using h
theorem renL_rep {w : World} {A : Nat → Prop} {β : Env} {l : List (Nat × Nat)} (ho : okRen l = true) : ∀ (ds : List D) (vs : List Value), RepLs w A β ds vs → RepLs w A (renEnv β l) (D.renL l ds) vs
  | [], vs, h => by simpa [D.renL, RepLs] using h
  | d :: ds, vs, h => by
    simp only [D.renL, RepLs] at h ⊢
    obtain ⟨x, xs, rfl, h1, h2⟩ := h
    exact ⟨x, xs, rfl, ren_rep ho d x h1, renL_rep ho ds xs h2⟩
end
theorem renL_at {w : World} {A : Nat → Prop} {β : Env} {l : List (Nat × Nat)} (ho : okRen l = true) : ∀ (ds : List D) (ad : Addr), CellsAt w A β ds ad → CellsAt w A (renEnv β l) (D.renL l ds) ad
  | [], _, _ => trivial
  | d :: ds, ad, ⟨⟨u, h1, h2⟩, h3⟩ => ⟨⟨u, h1, ren_rep ho d u h2⟩, renL_at ho ds _ h3⟩
theorem renL_map (l : List (Nat × Nat)) : ∀ ds : List D, D.renL l ds = ds.map (D.ren l)
  | [] => rfl
  | d :: ds => by simp [D.renL, renL_map l ds]
theorem renL_row (l : List (Nat × Nat)) (cols : List Col0) : D.renL l (rowCells0 cols) = rowCells0 cols := by
  rw [renL_map]
  refine (List.map_congr_left fun d hd => ?_).trans (List.map_id _)
  obtain ⟨x, rfl⟩ := rowCells0_v hd
  rfl
theorem BX.ren_cells (l : List (Nat × Nat)) (b : BX) : (b.ren l).blk = ⟨D.renL l b.blk.cells, b.blk.ro⟩ := by
  cases b with
  | cells cs ro => rfl
  | row cols ro => simp only [BX.ren, BX.blk, renL_row]
theorem lookX_ren {bk : List (Nat × BX)} {l : List (Nat × Nat)} {j : Nat} {b : BX} : ∀ {m : List (Nat × Nat)}, lookX j (renBk bk l m) = some b → ∃ i b0, (i, j) ∈ m ∧ lookX i bk = some b0 ∧ b = b0.ren l
  | [], h => by simp [renBk, lookX] at h
  | (i, k) :: m, h => by
    simp only [renBk] at h
    split at h
    next b0 hb0 =>
      simp only [lookX, cond_eq_ite] at h
      split at h
      next e =>
        have := Nat.eq_of_beq_eq_true e
        subst this
        simp at h; subst h
        exact ⟨i, b0, by simp, hb0, rfl⟩
      next =>
        obtain ⟨i', b', h1, h2, h3⟩ := lookX_ren h
        exact ⟨i', b', by simp [h1], h2, h3⟩
    next =>
      obtain ⟨i', b', h1, h2, h3⟩ := lookX_ren h
      exact ⟨i', b', by simp [h1], h2, h3⟩
theorem keepF_rep {w : World} {A : Nat → Prop} {β : Env} {l : List (Nat × Nat)} (ho : okRen l = true) {f : TT × Nat} {ks : List Nat} {a : Array Value} (h : FrRep w A β (frOf f) a) : FrRep w A (renEnv β l) (frOf (keepF l f ks)) a := by
  refine ⟨h.nt, fun t => ?_⟩
  show Rep w A (renEnv β l) (((keepT f.1 ks).map (D.ren l)).get (path t)) _
  rw [TT.get_map rfl, get_keepT]
  split
  · exact ren_rep ho _ _ (h.tm t)
  · simp [D.ren, Rep, RepS]
theorem keepS_rep {w : World} {A : Nat → Prop} {β : Env} {l : List (Nat × Nat)} (ho : okRen l = true) : ∀ (fs : List (TT × Nat)) (ks : List (List Nat)) (as : List (Array Value)), StkRep w A β (fs.map frOf) as → StkRep w A (renEnv β l) ((keepS l fs ks).map frOf) as
  | [], _, as, h => by cases h; simp only [keepS]; exact .nil
  | f :: fs, [], as, h => by
    cases h with
    | cons h1 h2 => simp only [keepS, List.map_cons]; exact .cons (keepF_rep ho h1) (keepS_rep ho fs [] _ h2)
  | f :: fs, k :: ks, as, h => by
    cases h with
    | cons h1 h2 => simp only [keepS, List.map_cons]; exact .cons (keepF_rep ho h1) (keepS_rep ho fs ks _ h2)
theorem norm_weaker (c : Cs) (keep : List (List Nat)) {l : List (Nat × Nat)} (ho : okRen l = true) : Weaker c.abs (c.norm keep l).abs := by
  intro w A β base tmps acts h
  have inv : ∀ j b, (c.norm keep l).abs.bk j = some b → ∃ i b0, (i, j) ∈ l ∧ c.abs.bk i = some b0 ∧ b = ⟨D.renL l b0.cells, b0.ro⟩ := by
    intro j b hb
    have hb : lookB j (renBk c.bk l l) = some b := hb
    unfold lookB at hb
    rw [Option.map_eq_some_iff] at hb
    obtain ⟨b1, hb1, rfl⟩ := hb
    obtain ⟨i, b0, h1, h2, rfl⟩ := lookX_ren hb1
    exact ⟨i, b0.blk, h1, by show lookB i c.bk = _; unfold lookB; rw [h2]; rfl, BX.ren_cells l b0⟩
  have henv : ∀ i j, (i, j) ∈ l → renEnv β l j = β i := fun i j hm => renEnv_of ho ((okRen_mem ho).1 i j hm).1
  refine ⟨renEnv β l, ⟨keepF_rep ho h.fr, keepS_rep ho _ _ _ h.stk, ?_, ?_, h.low, h.top, h.glo, ?_⟩⟩
  · intro j b hb
    obtain ⟨i, b0, hm, h1, rfl⟩ := inv j b hb
    rw [henv i j hm]
    rcases h.blk i b0 h1 with ⟨k1, k2⟩ | ⟨ad, k1, k2⟩
    · exact .inl ⟨k1, by simp [k2, D.renL]⟩
    · exact .inr ⟨ad, k1, ⟨k2.spot, k2.base, k2.obj, renL_at ho _ _ k2.cells, k2.own, k2.shared, k2.inside⟩⟩
  · intro j1 j2 a b h1 h2 ha hb hab
    obtain ⟨b1, hb1⟩ := Option.ne_none_iff_exists'.1 h1
    obtain ⟨b2, hb2⟩ := Option.ne_none_iff_exists'.1 h2
    obtain ⟨i1, c1, m1, k1, _⟩ := inv j1 b1 hb1
    obtain ⟨i2, c2, m2, k2, _⟩ := inv j2 b2 hb2
    rw [henv i1 j1 m1] at ha
    rw [henv i2 j2 m2] at hb
    have := h.inj i1 i2 a b (by simp [k1]) (by simp [k2]) ha hb hab
    subst this
    have e1 := ((okRen_mem ho).1 _ _ m1).1
    have e2 := ((okRen_mem ho).1 _ _ m2).1
    rw [e1] at e2
    exact Option.some.inj e2
  · exact h.lp.mono (w := w) (w' := w) (A := A) (.refl _) (.refl _ _) (fun _ => by simp [renEnv])
end
end Go.Dam
end

section
namespace Go.Dam
open Go Go.RowKit
set_option linter.unusedSectionVars false
variable [Glo]
set_option linter.unusedSimpArgs false
set_option linter.unusedVariables false
noncomputable section
/-! ### The machine, run on terms -/
/-- Why it stands still: a decision that is not told, .. -/
def NeedB (d : D) : Prop := False
def NeedL (x : Code) (c : Cs) : Prop := False
def StuckO (o : Oper) (c : Cs) : Prop := False
def StuckC (o : Oper) (f : FuncId) (as : List D) (c : Cs) : Prop := False
def StuckR (R : Array Oper) (c : Cs) : Prop := False
def StuckT (why : Nat) (c : Cs) : Prop := False
def Within (f : FuncId) : Prop := False
/-- The truth value that an operation waits for. -/
def guardB (R : Array Oper) (o : Oper) (c : Cf) : D :=
  match o.guard with
  | none => .undef
  | some (j, _) => match (R[j]?).bind (·.dst) with
    | none => .undef
    | some t => c.get t
def stopId : Nat := 1000000007
def stopX (c : Cf) (p : Prop) : Option (Ex × Cf) := some (.exit stopId, { c with cds := p :: c.cds })
def Ex.done : Ex → Bool
  | .normal | .ret => true
  | .exit _ => false
abbrev RunX := Job → Cf → Option (Ex × Cf)
def inlineX (P : Program) (ih : RunX) (R : Array Oper) (l : List Oper) (o : Oper) (f : FuncId) (fn : Func) (e : Ex) (c1 : Cf) : Option (Ex × Cf) :=
  match e.done, resD P c1.abs fn.results.toList, c1.stk with
  | true, some ds, f0 :: stk => bif loopFits c1.loop stk.length then ih (.ops R l) (Cf.put { tm := f0.1, nt := f0.2, stk := stk, bk := c1.bk, loop := c1.loop, gen := c1.gen, todo := c1.todo, cds := c1.cds } o.dst (resOut ds)) else stopX c1 (StuckT 1 c1.toCs)
  | _, _, _ => stopX c1 (Within f)
def callF (P : Program) (X : Contracts) (ih : RunX) (dep : Nat) (R : Array Oper) (l : List Oper) (o : Oper) (c : Cf) (f : FuncId) (caps as : List D) : Option (Ex × Cf) :=
  match bodyOf P f with
  | none => match caps, D.plains as with
    | [], some vs => match extX P X f vs with
      | some (u, ps) => ih (.ops R l) ((c.put o.dst (D.ofV u)).owe ps)
      | none => stopX c (StuckC o f as c.toCs)
    | _, _ => stopX c (StuckC o f as c.toCs)
  | some (fn, body) => match callOf X f with
    | some g => match callX g c o.dst (site dep o.dst) (as ++ caps) with
      | some c' => ih (.ops R l) c'
      | none => stopX c (StuckC o f (as ++ caps) c.toCs)
    | none => match ih (.code body) (c.enter (as ++ caps) fn.ntmps) with
      | some (e, c1) => inlineX P ih R l o f fn e c1
      | none => none
def yieldOn (ih : RunX) (o : Oper) (c : Cf) (args : List Operand) (L : LoopSt) (f0 : TT × Nat) (m : Nat) : Option Cf :=
  bif L.state.ready? && (Nat.beq (m + 2) L.depth && (Nat.beq args.length L.ps.size && (noRange L.assign && noRange L.body))) then
    match ih (.code L.assign) (c.round f0 (L.ps.toList.zip (args.map (evalC c.toCs)))) with
    | some (.normal, c1) => match c1.loop with
      | some L1 => bif L1.state.ready? && Nat.beq L1.depth L.depth then
          match ih (.code L.body) { c1 with loop := some { L1 with state := .busy } } with
          | some (e, c2) => match c2.loop, c2.stk with
            | some L2, fI :: stk' => bif L2.state.busy? && Nat.beq L2.depth L.depth then some (Cf.put { tm := fI.1, nt := fI.2, stk := stk', bk := c2.bk, loop := some { L2 with state := e.round }, gen := c2.gen, todo := c2.todo, cds := c2.cds } o.dst (.v (.bool e.goes))) else none
            | _, _ => none
          | none => none
        else none
      | none => none
    | _ => none
  else none
def yieldC (ih : RunX) (o : Oper) (c : Cf) (args : List Operand) : Option Cf :=
  match c.loop, c.stk with
  | some L, f0 :: _ :: stk => yieldOn ih o c args L f0 stk.length
  | _, _ => none
def rangedC (P : Program) (ih : RunX) (c : Cf) (g : Operand) (ps : Array Tmp) (assign body : Code) : Option (Ex × Cf) :=
  match c.loop with
  | some _ => stopX c (StuckT 2 c.toCs)
  | none => match evalC (c.forget yldId).toCs g with
    | .fn f caps => match bodyOf P f with
      | some (fn, b) => match fn.results.toList with
        | [] => match ih (.code b) (c.ranged ps assign body caps fn.ntmps) with
          | some (e1, c1) => bif e1.done then match c1.loop, c1.stk with
            | some L1, fr :: _ :: stk => bif Nat.beq L1.depth (c.stk.length + 2) then match L1.state.leaves with
                | some e => some (e, { tm := fr.1, nt := fr.2, stk := stk, bk := c1.bk, loop := none, gen := c1.gen, todo := c1.todo, cds := c1.cds })
                | none => stopX c1 (StuckT 3 c1.toCs)
              else stopX c1 (StuckT 4 c1.toCs)
            | _, _ => stopX c1 (StuckT 5 c1.toCs)
            else stopX c1 (Within f)
          | none => none
        | _ => stopX c (StuckT 6 c.toCs)
      | none => stopX c (StuckT 7 c.toCs)
    | _ => stopX c (StuckT 8 c.toCs)
def opsCall (P : Program) (X : Contracts) (ih : RunX) (R : Array Oper) (l : List Oper) (o : Oper) (c : Cf) (p : Operand × Array Operand) : Option (Ex × Cf) :=
  match evalC c.toCs p.1 with
  | .fn f caps => callF P X ih (depOf c) R l o c f caps (p.2.toList.map (evalC c.toCs))
  | .yld => match yieldC ih o c p.2.toList with
    | some c' => ih (.ops R l) c'
    | none => stopX c (StuckO o c.toCs)
  | _ => stopX c (StuckO o c.toCs)
def opsPlain (P : Program) (ih : RunX) (R : Array Oper) (l : List Oper) (o : Oper) (c : Cf) : Option (Ex × Cf) :=
  match rowStepX P c o.dst (site (depOf c) o.dst) o.op with
  | some (c', ps) => ih (.ops R l) (c'.owe ps)
  | none => match opY P c.bk (evalC c.toCs) o.type o.op with
    | none => stopX c (StuckO o c.toCs)
    | some (e, ps) => match stepC c o.dst (site (depOf c) o.dst) e with
      | none => stopX c (StuckO o c.toCs)
      | some c' => ih (.ops R l) (c'.owe ps)
def opsWanted (P : Program) (X : Contracts) (ih : RunX) (R : Array Oper) (l : List Oper) (o : Oper) (c : Cf) : Option (Ex × Cf) :=
  match callParts o.op with
  | none => opsPlain P ih R l o c
  | some p => opsCall P X ih R l o c p
def opsF (P : Program) (X : Contracts) (ih : RunX) (R : Array Oper) (l : List Oper) (c : Cf) : Option (Ex × Cf) :=
  match l with
  | [] => some (.normal, c)
  | o :: l => match wantedX R o c with
    | none => stopX c (NeedB (guardB R o c))
    | some (false, c1) => ih (.ops R l) (c1.put o.dst (.v undef))
    | some (true, c1) => opsWanted P X ih R l o c1
def roundsF (ih : RunX) (b : Code) (c : Cf) : Option (Ex × Cf) :=
  match ih (.code b) c with
  | none => none
  | some (.normal, c') => ih (.rounds b) c'
  | some (e, c') => some (e, c')
def drawnF (P : Program) (X : Contracts) (ih : RunX) (R : Array Oper) (c : Cf) : Option (Ex × Cf) :=
  bif P.follows .mixedOrders && calmB P R then
    match drawsGo P X (fun l c' => ih (.ops R l) c') R (depOf c) (tgtsOf P R (fun l c' => ih (.ops R l) c') (wipeS (makersOf R (depOf c)) c)) 0 R.toList (wipeS (makersOf R (depOf c)) c) with
    | none => stopX c (StuckR R c.toCs)
    | some c' => some (.normal, c')
  else stopX c (StuckT 9 c.toCs)
def regionF (P : Program) (X : Contracts) (ih : RunX) (R : Array Oper) (d : Bool) (c : Cf) : Option (Ex × Cf) :=
  match d with
  | false => ih (.ops R R.toList) c
  | true => drawnF P X ih R c
def seqF (ih : RunX) (x y : Code) (c : Cf) : Option (Ex × Cf) :=
  match ih (.code x) c with
  | none => none
  | some (.normal, c') => ih (.code y) c'
  | some (e, c') => some (e, c')
def condF (ih : RunX) (t : Operand) (x y : Code) (c : Cf) : Option (Ex × Cf) :=
  match t with
  | .tmp k => match c.get k with
    | .v (.bool b) => match decideX c k b with
      | some (v, c') => bif v then ih (.code x) c' else ih (.code y) c'
      | none => stopX c (NeedB (c.get k))
    | _ => stopX c (StuckT 10 c.toCs)
  | .const (.bool b) => bif b then ih (.code x) c else ih (.code y) c
  | _ => stopX c (StuckT 12 c.toCs)
def blockF (ih : RunX) (id : Nat) (x : Code) (c : Cf) : Option (Ex × Cf) :=
  match ih (.code x) c with
  | none => none
  | some (.exit i, c') => bif Nat.beq i id then some (.normal, c') else some (.exit i, c')
  | some (e, c') => some (e, c')
def loopF (P : Program) (ih : RunX) (x : Code) (c : Cf) : Option (Ex × Cf) :=
  match c.todo with
  | .u :: p => ih (.rounds x) { c with todo := p }
  | .k ks :: p => match castAll ks { c with todo := p } with
    | some c' => ih (.code (.loop x)) c'
    | none => stopX c (StuckT 13 c.toCs)
  | .l keep ren c0 e c1 :: p => bif okRen ren then some (e, { c1 with todo := p, cds := (c.toCs.norm keep ren = c0) :: Runs P (CallsD P) (.code (.loop x)) c0.abs e c1.abs :: c.cds }) else stopX c (StuckT 11 c.toCs)
  | _ => stopX c (NeedL x c.toCs)
def codeF (P : Program) (X : Contracts) (ih : RunX) (c : Cf) : Code → Option (Ex × Cf)
  | .region _ R d => regionF P X ih R d c
  | .skip => some (.normal, c)
  | .ret => some (.ret, c)
  | .exit id => some (.exit id, c)
  | .seq x y => seqF ih x y c
  | .cond t x y => condF ih t x y c
  | .block id x => blockF ih id x c
  | .loop x => loopF P ih x c
  | .rangeFunc g ps assign body => rangedC P ih c g ps assign body
  | _ => none
def jobF (P : Program) (X : Contracts) (ih : RunX) (j : Job) (c : Cf) : Option (Ex × Cf) :=
  match j with
  | .ops R l => opsF P X ih R l c
  | .rounds b => roundsF ih b c
  | .code x => codeF P X ih c x
  | .draws _ _ _ _ => none
/-- THE MACHINE, RUN. -/
def evX (P : Program) (X : Contracts) (n : Nat) : RunX := Nat.rec (motive := fun _ => RunX) (fun _ _ => none) (fun _ ih => jobF P X ih) n
theorem evX_succ (P : Program) (X : Contracts) (n : Nat) : evX P X (n + 1) = jobF P X (evX P X n) := rfl
/-- What a run comes to is right. -/
def Right (P : Program) (E : RunX) : Prop := ∀ j c e c', E j c = some (e, c') → AllP c'.cds → AllP c.cds ∧ Runs P (CallsD P) j c.abs e c'.abs ∧ (∀ R l, j = .ops R l → e = .normal)
section
variable {P : Program} {X : Contracts} (hX : ConOK P X)
theorem stopX_no {c : Cf} {p : Prop} {e : Ex} {c' : Cf} (hp : ¬ p) (h : stopX c p = some (e, c')) (hl : AllP c'.cds) : False := by
  simp only [stopX, Option.some.injEq, Prod.mk.injEq] at h
  obtain ⟨_, rfl⟩ := h
  exact hp hl.1
theorem Right.ops {E : RunX} (ih : Right P E) {R : Array Oper} {l : List Oper} {c : Cf} {e : Ex} {c' : Cf} (h : E (.ops R l) c = some (e, c')) (hl : AllP c'.cds) : AllP c.cds ∧ e = .normal ∧ Runs P (CallsD P) (.ops R l) c.abs .normal c'.abs := by
  obtain ⟨h1, h2, h3⟩ := ih _ _ _ _ h hl
  have := h3 R l rfl
  subst this
  exact ⟨h1, rfl, h2⟩
theorem yieldC_right {E : RunX} (ih : Right P E) {R : Array Oper} {o : Oper} {l : List Oper} {c c1 c' : Cf} {fo : Operand} {args : Array Operand} {e : Ex}
    (hp : callParts o.op = some (fo, args)) (hf : evalD c.abs fo = .yld) (hy : yieldC E o c args.toList = some c1) (h : E (.ops R l) c1 = some (e, c')) (hl : AllP c'.cds) :
    AllP c.cds ∧ e = .normal ∧ (wantedD R o c.abs = some true → Runs P (CallsD P) (.ops R (o :: l)) c.abs .normal c'.abs) := by
  obtain ⟨k1, rfl, hr⟩ := ih.ops h hl
  unfold yieldC at hy
  split at hy
  next L f0 gh stk hL hstk =>
    unfold yieldOn at hy
    simp only [cond_eq_ite] at hy
    split at hy
    next hc =>
      simp only [Bool.and_eq_true] at hc
      obtain ⟨h1, h2, h3, h4, h5⟩ := hc
      split at hy
      next ca ha =>
        split at hy
        next L1 hL1 =>
          split at hy
          next hc1 =>
            simp only [Bool.and_eq_true] at hc1
            split at hy
            next e2 c2 hb =>
              split at hy
              next L2 fI stk' hL2 hstk2 =>
                split at hy
                next hc2 =>
                  simp only [Bool.and_eq_true] at hc2
                  simp only [Option.some.injEq] at hy; subst hy
                  rw [cds_put] at k1
                  obtain ⟨j1, rb, _⟩ := ih _ _ _ _ hb k1
                  obtain ⟨j2, ra, _⟩ := ih _ _ _ _ ha j1
                  rw [abs_round, evalC_abs] at ra
                  rw [abs_put] at hr
                  refine ⟨j2, rfl, fun hw => ?_⟩
                  exact .yield (L := L) (L1 := L1) (L2 := L2) (fr0 := frOf f0) (gh := frOf gh) (frI := frOf fI) (stk := stk.map frOf) (stk' := stk'.map frOf) hw hp hf hL h1 (by simp [Cf.abs, Cs.abs, hstk]) (by have := Nat.eq_of_beq_eq_true h2; simpa using this)
                    (by have := Nat.eq_of_beq_eq_true h3; simpa using this) h4 h5 ra hL1 hc1.1 (Nat.eq_of_beq_eq_true hc1.2) rb hL2 hc2.1 (Nat.eq_of_beq_eq_true hc2.2) (by simp [Cf.abs, Cs.abs, hstk2]) hr
                · cases hy
              · cases hy
            · cases hy
          · cases hy
        · cases hy
      · cases hy
    · cases hy
  · cases hy
theorem rangedC_right {E : RunX} (ih : Right P E) {c c' : Cf} {g : Operand} {ps : Array Tmp} {assign body : Code} {e : Ex}
    (h : rangedC P E c g ps assign body = some (e, c')) (hl : AllP c'.cds) : AllP c.cds ∧ Runs P (CallsD P) (.code (.rangeFunc g ps assign body)) c.abs e c'.abs := by
  unfold rangedC at h
  split at h
  · exact (stopX_no (by simp [StuckT]) h hl).elim
  next hlp =>
    split at h
    next f caps hg =>
      split at h
      next fn b hb =>
        split at h
        next hres =>
          split at h
          next e1 c1 h1 =>
            simp only [cond_eq_ite] at h
            split at h
            next hdone =>
              split at h
              next L1 fr gh stk hL1 hstk =>
                split at h
                next hdep =>
                  split at h
                  next e' hlv =>
                    simp only [Option.some.injEq, Prod.mk.injEq] at h
                    obtain ⟨rfl, rfl⟩ := h
                    obtain ⟨j1, r1, _⟩ := ih _ _ _ _ h1 hl
                    rw [abs_ranged] at r1
                    refine ⟨j1, ?_⟩
                    exact .ranged (L1 := L1) (fr := frOf fr) (gh := frOf gh) (stk := stk.map frOf) hlp (by rw [← abs_forget, ← evalC_abs]; exact hg) hb r1 (by cases e1 <;> simp [Ex.done] at hdone <;> simp) hres hL1 hlv
                      (by have := Nat.eq_of_beq_eq_true hdep; simpa [Cf.abs, Cs.abs] using this) (by simp [Cf.abs, Cs.abs, hstk])
                  · exact (stopX_no (by simp [StuckT]) h hl).elim
                · exact (stopX_no (by simp [StuckT]) h hl).elim
              · exact (stopX_no (by simp [StuckT]) h hl).elim
            · exact (stopX_no (by simp [Within]) h hl).elim
          · cases h
        · exact (stopX_no (by simp [StuckT]) h hl).elim
      · exact (stopX_no (by simp [StuckT]) h hl).elim
    · exact (stopX_no (by simp [StuckT]) h hl).elim
include hX in
theorem callF_right {E : RunX} (ih : Right P E) {dep : Nat} {R : Array Oper} {l : List Oper} {o : Oper} {c : Cf} {f : FuncId} {caps : List D} {fo : Operand} {args : Array Operand} (hp : callParts o.op = some (fo, args))
    (hf : evalD c.abs fo = .fn f caps) {e : Ex} {c' : Cf} (h : callF P X E dep R l o c f caps (args.toList.map (evalC c.toCs)) = some (e, c')) (hl : AllP c'.cds) :
    AllP c.cds ∧ e = .normal ∧ (wantedD R o c.abs = some true → Runs P (CallsD P) (.ops R (o :: l)) c.abs .normal c'.abs) := by
  unfold callF at h
  split at h
  next hbody =>
    split at h
    next vs hpl =>
      split at h
      next u ps hrun =>
        obtain ⟨k1, rfl, k2⟩ := ih.ops h hl
        rw [cds_owe, cds_put, AllP_append] at k1
        rw [abs_owe, abs_put] at k2
        exact ⟨k1.2, rfl, fun hw => .step hw (.ext hp hf (by rw [← evalC_abs]; exact hpl) (extX_spec hX hrun k1.1)) k2⟩
      · exact (stopX_no (by simp [StuckC]) h hl).elim
    · exact (stopX_no (by simp [StuckC]) h hl).elim
  next fn body hbody =>
    split at h
    next g hg =>
      split at h
      next c1 hc =>
        obtain ⟨k1, rfl, k2⟩ := ih.ops h hl
        obtain ⟨j1, j2⟩ := callX_spec (fun args res l h hl => hX.call f g (callOf_spec hg) args res l h hl) hc k1
        exact ⟨j1, rfl, fun hw => .step hw (.call hp hf (by rw [hbody]; rfl) (by rw [← evalC_abs]; exact j2)) k2⟩
      · exact (stopX_no (by simp [StuckC]) h hl).elim
    next =>
      split at h
      next e1 c1 hev =>
        unfold inlineX at h
        split at h
        next ds f0 stk hdone hres hstk =>
          simp only [cond_eq_ite] at h
          split at h
          next hfit =>
            obtain ⟨k1, rfl, k2⟩ := ih.ops h hl
            rw [cds_put] at k1
            obtain ⟨j1, j2, _⟩ := ih _ _ _ _ hev k1
            rw [abs_enter] at j2
            rw [abs_put] at k2
            refine ⟨j1, rfl, fun hw => .inline (fr := frOf f0) (stk := stk.map frOf) hw hp hf hbody (by rw [← evalC_abs]; exact j2) ?_ hres (by simp [Cf.abs, Cs.abs, hstk]) (by simpa [Cf.abs, Cs.abs] using hfit) k2⟩
            cases e1 <;> simp [Ex.done] at hdone <;> simp
          · exact (stopX_no (by simp [StuckT]) h hl).elim
        · exact (stopX_no (by simp [Within]) h hl).elim
      · cases h
include hX in
theorem opsF_right {E : RunX} (ih : Right P E) {R : Array Oper} {l : List Oper} {c c' : Cf} {e : Ex} (h : opsF P X E R l c = some (e, c')) (hl : AllP c'.cds) : AllP c.cds ∧ e = .normal ∧ Runs P (CallsD P) (.ops R l) c.abs .normal c'.abs := by
  unfold opsF at h
  split at h
  next => simp only [Option.some.injEq, Prod.mk.injEq] at h; obtain ⟨rfl, rfl⟩ := h; exact ⟨hl, rfl, .nil⟩
  next o l =>
    split at h
    · exact (stopX_no (by simp [NeedB]) h hl).elim
    next c1 hw =>
      obtain ⟨k1, rfl, k2⟩ := ih.ops h hl
      rw [cds_put] at k1
      obtain ⟨j1, j2, j3⟩ := wantedX_spec hw k1
      rw [abs_put, j2] at k2
      exact ⟨j1, rfl, .skipped j3 k2⟩
    next c1 hw =>
      have step : AllP c1.cds ∧ e = .normal ∧ (wantedD R o c1.abs = some true → Runs P (CallsD P) (.ops R (o :: l)) c1.abs .normal c'.abs) := by
        unfold opsWanted at h
        split at h
        next hcp =>
          unfold opsPlain at h
          split at h
          next c2 ps hrow =>
            obtain ⟨k1, rfl, k2⟩ := ih.ops h hl
            rw [cds_owe, AllP_append] at k1
            obtain ⟨eff, σ1, q1, q2, q3, q4⟩ := rowStepX_spec (ty := o.type) hrow k1.1
            exact ⟨q4 ▸ k1.2, rfl, fun hw' => .step hw' (.op q1 q2) (.weak rfl q3 k2)⟩
          next =>
            split at h
            · exact (stopX_no (by simp [StuckO]) h hl).elim
            next eff ps hop =>
              split at h
              · exact (stopX_no (by simp [StuckO]) h hl).elim
              next c2 hst =>
                obtain ⟨k1, rfl, k2⟩ := ih.ops h hl
                rw [cds_owe, AllP_append] at k1
                obtain ⟨s1, s2⟩ := stepC_abs hst
                have hopd := opY_spec hop k1.1
                rw [evalC_abs] at hopd
                exact ⟨s2 ▸ k1.2, rfl, fun hw' => .step hw' (.op hopd s1) k2⟩
        next p hcp =>
          obtain ⟨fo, args⟩ := p
          unfold opsCall at h
          split at h
          next f caps hfo => exact callF_right hX ih hcp (by rw [← evalC_abs]; exact hfo) h hl
          next hfo =>
            split at h
            next c2 hy => exact yieldC_right ih hcp (by rw [← evalC_abs]; exact hfo) hy h hl
            · exact (stopX_no (by simp [StuckO]) h hl).elim
          · exact (stopX_no (by simp [StuckO]) h hl).elim
      obtain ⟨j1, j2, j3⟩ := wantedX_spec hw step.1
      rw [j2] at step
      exact ⟨j1, step.2.1, step.2.2 j3⟩
include hX in
theorem codeF_right {E : RunX} (ih : Right P E) {x : Code} {c c' : Cf} {e : Ex} (h : codeF P X E c x = some (e, c')) (hl : AllP c'.cds) : AllP c.cds ∧ Runs P (CallsD P) (.code x) c.abs e c'.abs := by
  cases x with
  | region id R d =>
    simp only [codeF] at h
    cases d with
    | false =>
      simp only [regionF] at h
      obtain ⟨k1, rfl, k2⟩ := ih.ops h hl
      exact ⟨k1, .region k2⟩
    | true =>
      simp only [regionF] at h
      unfold drawnF at h
      simp only [cond_eq_ite] at h
      split at h
      next hb =>
        simp only [Bool.and_eq_true] at hb
        split at h
        · exact (stopX_no (by simp [StuckR]) h hl).elim
        next c1 hd =>
          simp only [Option.some.injEq, Prod.mk.injEq] at h
          obtain ⟨rfl, rfl⟩ := h
          have hE : ∀ l c0 c0', (fun l c' => E (.ops R l) c') l c0 = some (.normal, c0') → AllP c0'.cds → AllP c0.cds ∧ Runs P (CallsD P) (.ops R l) c0.abs .normal c0'.abs := fun l c0 c0' he hl' => by
            obtain ⟨k1, _, k2⟩ := ih.ops he hl'
            exact ⟨k1, k2⟩
          obtain ⟨k1, k2⟩ := drawsGo_runs hX hE (plan_ok (depOf c) (tgtsOf P R (fun l c' => E (.ops R l) c') (wipeS (makersOf R (depOf c)) c)) hb.2) R.toList 0 _ _ (fun j => by simp) hd hl
          rw [cds_wipeS] at k1
          exact ⟨k1, wipeS_start rfl (.drawn hb.1 (plan_ok _ _ hb.2) (unused_makers c) (k2 fun m _ => unused_makers c m))⟩
      · exact (stopX_no (by simp [StuckT]) h hl).elim
  | skip => simp only [codeF, Option.some.injEq, Prod.mk.injEq] at h; obtain ⟨rfl, rfl⟩ := h; exact ⟨hl, .skip⟩
  | ret => simp only [codeF, Option.some.injEq, Prod.mk.injEq] at h; obtain ⟨rfl, rfl⟩ := h; exact ⟨hl, .ret⟩
  | exit id => simp only [codeF, Option.some.injEq, Prod.mk.injEq] at h; obtain ⟨rfl, rfl⟩ := h; exact ⟨hl, .exit⟩
  | seq x y =>
    simp only [codeF, seqF] at h
    split at h
    · cases h
    next c1 h1 =>
      obtain ⟨k1, k2, _⟩ := ih _ _ _ _ h hl
      obtain ⟨j1, j2, _⟩ := ih _ _ _ _ h1 k1
      exact ⟨j1, .seq j2 k2⟩
    next e1 c1 hne h1 =>
      simp only [Option.some.injEq, Prod.mk.injEq] at h
      obtain ⟨rfl, rfl⟩ := h
      obtain ⟨j1, j2, _⟩ := ih _ _ _ _ h1 hl
      exact ⟨j1, .leave j2 (fun he => hne he)⟩
  | cond t x y =>
    simp only [codeF, condF] at h
    split at h
    next k =>
      split at h
      next b hb =>
        split at h
        next v c1 hd =>
          have key : ∀ z, E (.code z) c1 = some (e, c') → z = (if v then x else y) → AllP c.cds ∧ Runs P (CallsD P) (.code (.cond (.tmp k) x y)) c.abs e c'.abs := by
            intro z hz ez
            obtain ⟨k1, k2, _⟩ := ih _ _ _ _ hz hl
            obtain ⟨j1, j2, j3⟩ := decideX_spec hb hd k1
            rw [j3, ez, ← j1] at k2
            exact ⟨j2, .cond (b := b) (by show c.get k = _; exact hb) k2⟩
          cases v with
          | true => exact key x h rfl
          | false => exact key y h rfl
        · exact (stopX_no (by simp [NeedB]) h hl).elim
      · exact (stopX_no (by simp [StuckT]) h hl).elim
    next b =>
      have key : ∀ z, E (.code z) c = some (e, c') → z = (if b then x else y) → AllP c.cds ∧ Runs P (CallsD P) (.code (.cond (.const (.bool b)) x y)) c.abs e c'.abs := by
        intro z hz ez
        obtain ⟨k1, k2, _⟩ := ih _ _ _ _ hz hl
        rw [ez] at k2
        exact ⟨k1, .cond (b := b) rfl k2⟩
      cases b with
      | true => exact key x h rfl
      | false => exact key y h rfl
    · exact (stopX_no (by simp [StuckT]) h hl).elim
  | block id x =>
    simp only [codeF, blockF] at h
    split at h
    · cases h
    next i c1 h1 =>
      simp only [cond_eq_ite] at h
      split at h
      next hi =>
        simp only [Option.some.injEq, Prod.mk.injEq] at h
        obtain ⟨rfl, rfl⟩ := h
        have hi' : i = id := Nat.eq_of_beq_eq_true hi
        subst hi'
        obtain ⟨j1, j2, _⟩ := ih _ _ _ _ h1 hl
        have := Runs.block (id := i) j2
        rw [if_pos rfl] at this
        exact ⟨j1, this⟩
      next hi =>
        simp only [Option.some.injEq, Prod.mk.injEq] at h
        obtain ⟨rfl, rfl⟩ := h
        have hne : ¬ (Ex.exit i = Ex.exit id) := fun he => by
          cases he; rw [beq_yes] at hi; exact hi rfl
        obtain ⟨j1, j2, _⟩ := ih _ _ _ _ h1 hl
        have := Runs.block (id := id) j2
        rw [if_neg hne] at this
        exact ⟨j1, this⟩
    next e1 c1 hne h1 =>
      simp only [Option.some.injEq, Prod.mk.injEq] at h
      obtain ⟨rfl, rfl⟩ := h
      obtain ⟨j1, j2, _⟩ := ih _ _ _ _ h1 hl
      have := Runs.block (id := id) j2
      rw [if_neg (fun he => hne id he)] at this
      exact ⟨j1, this⟩
  | loop x =>
    simp only [codeF, loopF] at h
    split at h
    next p hp =>
      obtain ⟨k1, k2, _⟩ := ih _ _ _ _ h hl
      exact ⟨k1, .loop k2⟩
    next ks p hp =>
      split at h
      next c1 hc1 =>
        obtain ⟨k1, k2, _⟩ := ih _ _ _ _ h hl
        obtain ⟨q1, q2⟩ := castAll_spec hc1
        exact ⟨q2 ▸ k1, .weak rfl q1 k2⟩
      · exact (stopX_no (by simp [StuckT]) h hl).elim
    next keep ren c0 e0 c1 p hp =>
      simp only [cond_eq_ite] at h
      split at h
      next ho =>
        simp only [Option.some.injEq, Prod.mk.injEq] at h
        obtain ⟨rfl, rfl⟩ := h
        obtain ⟨h1, h2, h3⟩ := hl
        subst h1
        exact ⟨h3, .weak rfl (norm_weaker c.toCs keep ho) h2⟩
      · exact (stopX_no (by simp [StuckT]) h hl).elim
    · exact (stopX_no (by simp [NeedL]) h hl).elim
  | rangeFunc g ps assign body => simp only [codeF] at h; exact rangedC_right ih h hl
  | _ => simp [codeF] at h
include hX in
theorem evX_right : ∀ n, Right P (evX P X n)
  | 0 => fun j c e c' h => by cases h
  | n + 1 => fun j c e c' h hl => by
    rw [evX_succ] at h
    have ih := evX_right n
    cases j with
    | ops R l =>
      simp only [jobF] at h
      obtain ⟨k1, rfl, k2⟩ := opsF_right hX ih h hl
      exact ⟨k1, k2, fun _ _ _ => rfl⟩
    | rounds b =>
      simp only [jobF, roundsF] at h
      split at h
      · cases h
      next c1 h1 =>
        obtain ⟨k1, k2, _⟩ := ih _ _ _ _ h hl
        obtain ⟨j1, j2, _⟩ := ih _ _ _ _ h1 k1
        exact ⟨j1, .round j2 k2, fun _ _ h => by cases h⟩
      next e1 c1 hne h1 =>
        simp only [Option.some.injEq, Prod.mk.injEq] at h
        obtain ⟨rfl, rfl⟩ := h
        obtain ⟨j1, j2, _⟩ := ih _ _ _ _ h1 hl
        exact ⟨j1, .last j2 (fun he => hne he), fun _ _ h => by cases h⟩
    | code x =>
      simp only [jobF] at h
      obtain ⟨k1, k2⟩ := codeF_right hX ih h hl
      exact ⟨k1, k2, fun _ _ h => by cases h⟩
    | draws => simp [jobF] at h
end
end
end Go.Dam
end

section
namespace Go.Dam
open Go Go.RowKit
set_option linter.unusedSectionVars false
variable [Glo]
set_option linter.unusedSimpArgs false
set_option linter.unusedVariables false
noncomputable section
def ReadsO (e e' : D) : Prop := ∀ (w : World) (A : Nat → Prop) (u : Value) (bl : List (Option Addr)), RepO w A e u bl → RepO w A e' u bl
theorem ReadsO.refl (e : D) : ReadsO e e := fun _ _ _ _ h => h
inductive ReadsOs : List D → List D → Prop
  | nil : ReadsOs [] []
  | cons {d e : D} {ds es : List D} : ReadsO d e → ReadsOs ds es → ReadsOs (d :: ds) (e :: es)
theorem ReadsOs.repOs {ds es : List D} (h : ReadsOs ds es) {w : World} {A : Nat → Prop} {vs : List Value} {bl : List (Option Addr)} (hr : RepOs w A ds vs bl) : RepOs w A es vs bl := by
  induction h generalizing vs bl with
  | nil => exact hr
  | cons h1 _ ih =>
    simp only [RepOs] at hr ⊢
    obtain ⟨x, xs, b1, b2, rfl, rfl, k1, k2⟩ := hr
    exact ⟨x, xs, b1, b2, rfl, rfl, h1 _ _ _ _ k1, ih k2⟩
theorem ReadsOs.agg {ds es : List D} (h : ReadsOs ds es) : ReadsO (.agg ds) (.agg es) := fun w A u bl hr => by
  simp only [RepO] at hr ⊢
  obtain ⟨vs, rfl, hr⟩ := hr
  exact ⟨vs, rfl, h.repOs hr⟩
theorem ReadsOs.tup {ds es : List D} (h : ReadsOs ds es) : ReadsO (.tup ds) (.tup es) := fun w A u bl hr => by
  simp only [RepO] at hr ⊢
  obtain ⟨vs, rfl, hr⟩ := hr
  exact ⟨vs, rfl, h.repOs hr⟩
theorem ReadsL.ow {ds es : List D} (h : ReadsL ds es) (n sz : Nat) : ReadsO (.ow n sz ds) (.ow n sz es) := fun w A u bl hr => by
  simp only [RepO] at hr ⊢
  obtain ⟨o, c, rfl, hr⟩ := hr
  refine ⟨o, c, rfl, ?_⟩
  rcases hr with ⟨h1, h2, h3, h4⟩ | ⟨h1, ad, h2, h3, h4, h5, h6⟩
  · exact .inl ⟨h1, h2, h.nil_iff.1 h3, h4⟩
  · exact .inr ⟨h1, ad, h2, h3, h4, h5, h.repAt h6⟩
theorem ow_oc (cols : List Col0) : ReadsO (.ow (rowLen0 cols) cols.length (rowCells0 cols)) (.oc cols) := fun w A u bl hr => by
  simp only [RepO] at hr ⊢
  exact hr
/-- A result, its own slices handed over. -/
def finX (bk : List (Nat × BX)) : D → Option (D × List Nat × List Nat × List Prop)
  | .undef => some (.undef, [], [], [])
  | .v x => some (.v x, [], [], [])
  | .sh n cs => some (.sh n cs, [], [], [])
  | .rc cs => some (.rc cs, [], [], [])
  | .emp => some (.emp, [], [], [])
  | .sl id off n sz => match lookX id bk with
    | some (.cells cells false) => if off + n * sz ≤ cells.length then
        match shareAllX (shareX bk depth) ((cells.drop off).take (n * sz)) with
        | none => none
        | some (cs, ids, l) => some (.ow n sz cs, ids, [id], l)
      else none
    | some (.row cols false) => bif Nat.beq off 0 && Nat.beq sz.s cols.length then some (.oc cols, [], [id], [n = rowLen0 cols]) else none
    | _ => none
  | .agg cs => match finXL cs with
    | none => none
    | some (ds, i, j, l) => some (.agg ds, i, j, l)
  | .tup cs => match finXL cs with
    | none => none
    | some (ds, i, j, l) => some (.tup ds, i, j, l)
  | _ => none
where
  finXL : List D → Option (List D × List Nat × List Nat × List Prop)
  | [] => some ([], [], [], [])
  | d :: ds => match finX bk d, finXL ds with
    | some (e, i, j, l), some (es, is, js, ls) => some (e :: es, i ++ is, j ++ js, l ++ ls)
    | _, _ => none
mutual
theorem finX_spec {bk : List (Nat × BX)} : ∀ (d e : D) (sh own : List Nat) (l : List Prop), finX bk d = some (e, sh, own, l) → AllP l → ∃ e', fin (fun i => lookB i bk) d = some (e', sh, own) ∧ ReadsO e' e
  | .undef, e, sh, own, l, h, hl => by simp [finX] at h; obtain ⟨rfl, rfl, rfl, rfl⟩ := h; exact ⟨_, by simp only [fin], .refl _⟩
  | .v x, e, sh, own, l, h, hl => by simp [finX] at h; obtain ⟨rfl, rfl, rfl, rfl⟩ := h; exact ⟨_, by simp only [fin], .refl _⟩
  | .sh _ _, e, sh, own, l, h, hl => by simp [finX] at h; obtain ⟨rfl, rfl, rfl, rfl⟩ := h; exact ⟨_, by simp only [fin], .refl _⟩
  | .rc _, e, sh, own, l, h, hl => by simp [finX] at h; obtain ⟨rfl, rfl, rfl, rfl⟩ := h; exact ⟨_, by simp only [fin], .refl _⟩
  | .emp, e, sh, own, l, h, hl => by simp [finX] at h; obtain ⟨rfl, rfl, rfl, rfl⟩ := h; exact ⟨_, by simp only [fin], .refl _⟩
  | .sl id off n sz, e, sh, own, l, h, hl => by
    simp only [finX] at h
    split at h
    next cells hb =>
      split at h
      next hle =>
        split at h
        · cases h
        next cs ids l' h1 =>
          simp at h; obtain ⟨rfl, rfl, rfl, rfl⟩ := h
          obtain ⟨es', k1, k2⟩ := shareAllX_spec (fun d e ids l h hl => shareX_spec depth d e ids l h hl) _ cs ids l' h1 hl
          refine ⟨.ow n sz es', ?_, k2.ow n sz⟩
          simp only [fin, lookB_cells hb]
          rw [if_pos ⟨hle, trivial⟩, k1]
      · cases h
    next cols hb =>
      simp only [cond_eq_ite] at h
      split at h
      next hc =>
        simp only [Bool.and_eq_true] at hc
        simp only [Option.some.injEq, Prod.mk.injEq] at h; obtain ⟨rfl, rfl, rfl, rfl⟩ := h
        obtain rfl := Nat.eq_of_beq_eq_true hc.1
        have hsz := Nat.eq_of_beq_eq_true hc.2
        simp only [AllP, and_true] at hl
        subst hl
        have hlb : lookB id bk = some ⟨rowCells0 cols, false⟩ := by unfold lookB; rw [hb]; rfl
        have hlen := rowCells0_length cols
        refine ⟨.ow (rowLen0 cols) sz (rowCells0 cols), ?_, ?_⟩
        · simp only [fin, hlb]
          rw [if_pos ⟨by rw [hlen, hsz]; omega, trivial⟩, List.drop_zero, List.take_of_length_le (by rw [hlen, hsz]; exact Nat.le_refl _), shareAll_v _ depth _ fun d hd => rowCells0_v hd]
        · rw [hsz]; exact ow_oc cols
      · cases h
    · cases h
  | .agg cs, e, sh, own, l, h, hl => by
    simp only [finX] at h
    split at h
    · cases h
    next ds i j l' h1 =>
      simp at h; obtain ⟨rfl, rfl, rfl, rfl⟩ := h
      obtain ⟨es, k1, k2⟩ := finXL_spec cs ds i j l' h1 hl
      exact ⟨.agg es, by simp only [fin, k1], k2.agg⟩
  | .tup cs, e, sh, own, l, h, hl => by
    simp only [finX] at h
    split at h
    · cases h
    next ds i j l' h1 =>
      simp at h; obtain ⟨rfl, rfl, rfl, rfl⟩ := h
      obtain ⟨es, k1, k2⟩ := finXL_spec cs ds i j l' h1 hl
      exact ⟨.tup es, by simp only [fin, k1], k2.tup⟩
  | .ow _ _ _, e, sh, own, l, h, hl => by simp [finX] at h
  | .oc _, e, sh, own, l, h, hl => by simp [finX] at h
  | .ptr _ _, e, sh, own, l, h, hl => by simp [finX] at h
  | .pel _ _ _ _, e, sh, own, l, h, hl => by simp [finX] at h
  | .shp _ _, e, sh, own, l, h, hl => by simp [finX] at h
  | .fn _ _, e, sh, own, l, h, hl => by simp [finX] at h
  | .yld, e, sh, own, l, h, hl => by simp [finX] at h
theorem finXL_spec {bk : List (Nat × BX)} : ∀ (ds es : List D) (sh own : List Nat) (l : List Prop), finX.finXL bk ds = some (es, sh, own, l) → AllP l → ∃ es', fin.finL (fun i => lookB i bk) ds = some (es', sh, own) ∧ ReadsOs es' es
  | [], es, sh, own, l, h, hl => by simp [finX.finXL] at h; obtain ⟨rfl, rfl, rfl, rfl⟩ := h; exact ⟨[], by simp only [fin.finL], .nil⟩
  | d :: ds, es, sh, own, l, h, hl => by
    simp only [finX.finXL] at h
    split at h
    next e i j l1 es' is js l2 h1 h2 =>
      simp at h; obtain ⟨rfl, rfl, rfl, rfl⟩ := h
      rw [AllP_append] at hl
      obtain ⟨e1, k1, k2⟩ := finX_spec d e i j l1 h1 hl.1
      obtain ⟨e2, k3, k4⟩ := finXL_spec ds es' is js l2 h2 hl.2
      exact ⟨e1 :: e2, by simp only [fin.finL, k1, k3], .cons k2 k4⟩
    · cases h
end
/-- A result, told as shared content. -/
def finSX (bk : List (Nat × BX)) : D → Option (D × List Prop)
  | .tup cs => match shareAllX (shareX bk depth) cs with
    | none => none
    | some (ds, ids, l) => some (.tup ds, l)
  | d => match shareX bk depth d with
    | none => none
    | some (e, ids, l) => some (e, l)
/-- How a result is told. -/
def finishX (bk : List (Nat × BX)) (d : D) : Option (D × List Prop) :=
  match finX bk d with
  | some (e, sh, own, l) => bif decide own.Nodup && own.all fun i => !sh.contains i then some (e, l) else finSX bk d
  | none => finSX bk d
theorem calls_mono {P : Program} {f : FuncId} {args : List D} {e e' : D} (h : ReadsO e e') (k : CallsD P f args e) : CallsD P f args e' := fun w A vs hv low glo => (k w A vs hv low glo).mono fun r w' ⟨v, A', bl, h1, h2, h3⟩ => ⟨v, A', bl, h1, h _ _ _ _ h2, h3⟩
theorem finishX_spec {bk : List (Nat × BX)} {d e : D} {l : List Prop} (h : finishX bk d = some (e, l)) (hl : AllP l) : ∃ e', Fins (fun i => lookB i bk) d e' ∧ ReadsO e' e := by
  have viaS : finSX bk d = some (e, l) → ∃ e', Fins (fun i => lookB i bk) d e' ∧ ReadsO e' e := by
    clear h
    intro h
    unfold finSX at h
    split at h
    next cs =>
      split at h
      · cases h
      next ds ids l' h1 =>
        simp only [Option.some.injEq, Prod.mk.injEq] at h; obtain ⟨rfl, rfl⟩ := h
        obtain ⟨es', k1, k2⟩ := shareAllX_spec (fun d e ids l h hl => shareX_spec depth d e ids l h hl) _ ds ids l' h1 hl
        exact ⟨_, .sharedT rfl k1 k2 rfl, .refl _⟩
    next =>
      split at h
      · cases h
      next e0 ids l' h1 =>
        simp only [Option.some.injEq, Prod.mk.injEq] at h; obtain ⟨rfl, rfl⟩ := h
        obtain ⟨e', k1, k2⟩ := shareX_spec depth d e0 ids l' h1 hl
        exact ⟨_, .shared k1 k2, .refl _⟩
  unfold finishX at h
  split at h
  next e1 sh own l1 h1 =>
    simp only [cond_eq_ite] at h
    split at h
    next hc =>
      simp only [Option.some.injEq, Prod.mk.injEq] at h; obtain ⟨rfl, rfl⟩ := h
      simp only [Bool.and_eq_true, decide_eq_true_eq] at hc
      obtain ⟨e', k1, k2⟩ := finX_spec d _ sh own _ h1 hl
      exact ⟨e', .own k1 hc.1 hc.2, k2⟩
    next => exact viaS h
  next => exact viaS h
def Cf.start (args : List D) (nt : Nat) (path : List PE) : Cf := { tm := TT.mk (initD args (args.length + (nt - args.length))) (args.length + (nt - args.length) + 1) 0 1, nt := args.length + (nt - args.length), stk := [], bk := [], loop := none, todo := path }
theorem start_abs (args : List D) (nt : Nat) (path : List PE) : (Cf.start args nt path).abs = St.start args nt := by
  simp only [Cf.start, Cf.abs, Cs.abs, St.start, St.enter, List.map_nil, lookB, lookX, Option.map_none]
  congr 1
  exact frOf_mk args nt
def endX (P : Program) (fn : Func) (e : Ex) (c' : Cf) : Option (D × List Prop) :=
  match e.done, resD P c'.abs fn.results.toList with
  | true, some ds => match finishX c'.bk (resOut ds) with
    | some (res, l) => some (res, l ++ c'.cds)
    | none => none
  | _, _ => none
/-- A function, run. -/
def fnX (P : Program) (X : Contracts) (fuel : Nat) (path : List PE) (f : FuncId) (args : List D) : Option (D × List Prop) :=
  match bodyOf P f with
  | none => none
  | some (fn, c) => match evX P X fuel (.code c) (Cf.start args fn.ntmps path) with
    | none => none
    | some (e, c') => endX P fn e c'
section
variable {P : Program} {X : Contracts} (hX : ConOK P X)
include hX in
theorem fnX_calls {fuel : Nat} {path : List PE} {f : FuncId} {args : List D} {res : D} {l : List Prop} (h : fnX P X fuel path f args = some (res, l)) (hl : AllP l) : CallsD P f args res := by
  unfold fnX at h
  split at h
  · cases h
  next fn c hb =>
    split at h
    · cases h
    next e c' hev =>
      unfold endX at h
      split at h
      next ds hd hr =>
        split at h
        next res0 l0 hf =>
          simp only [Option.some.injEq, Prod.mk.injEq] at h; obtain ⟨rfl, rfl⟩ := h
          rw [AllP_append] at hl
          obtain ⟨_, r1, _⟩ := evX_right hX fuel _ _ _ _ hev hl.2
          rw [start_abs] at r1
          obtain ⟨e', k1, k2⟩ := finishX_spec hf hl.1
          exact calls_mono k2 (calls_of_runs (fun f as res h => h) hb r1 (by cases e <;> simp [Ex.done] at hd <;> simp) hr k1)
        · cases h
      · cases h
def Cs.run (c : Cs) (path : List PE) : Cf := { c with todo := path }
/-- A round of a loop; and what counts behind it. -/
def roundX (P : Program) (X : Contracts) (fuel : Nat) (b : Code) (path : List PE) (keep : List (List Nat)) (ren : List (Nat × Nat)) (c : Cs) : Option (Ex × Cs × List Prop) :=
  match evX P X fuel (.code b) (c.run path) with
  | some (e, c') => bif okRen ren then some (e, c'.toCs.norm keep ren, c'.cds) else none
  | none => none
include hX in
theorem roundX_runs {fuel : Nat} {b : Code} {path : List PE} {keep : List (List Nat)} {ren : List (Nat × Nat)} {c c1 : Cs} {e : Ex} {l : List Prop} (h : roundX P X fuel b path keep ren c = some (e, c1, l)) (hl : AllP l) : Runs P (CallsD P) (.code b) c.abs e c1.abs := by
  unfold roundX at h
  split at h
  next e' c' hev =>
    simp only [cond_eq_ite] at h
    split at h
    next ho =>
      simp only [Option.some.injEq, Prod.mk.injEq] at h
      obtain ⟨rfl, rfl, rfl⟩ := h
      obtain ⟨_, r1, _⟩ := evX_right hX fuel _ _ _ _ hev hl
      exact .late rfl r1 (norm_weaker c'.toCs keep ho)
    · cases h
  · cases h
include hX in
/-- One more round. -/
theorem round_on {fuel : Nat} {b : Code} {path : List PE} {keep : List (List Nat)} {ren : List (Nat × Nat)} {c c1 : Cs} {σ : St} {e : Ex} {l : List Prop} (h : roundX P X fuel b path keep ren c = some (.normal, c1, l)) (hl : AllP l)
    (hr : Runs P (CallsD P) (.rounds b) c1.abs e σ) : Runs P (CallsD P) (.rounds b) c.abs e σ := .round (roundX_runs hX h hl) hr
include hX in
/-- The last round. -/
theorem round_end {fuel : Nat} {b : Code} {path : List PE} {keep : List (List Nat)} {ren : List (Nat × Nat)} {c c1 : Cs} {e : Ex} {l : List Prop} (h : roundX P X fuel b path keep ren c = some (e, c1, l)) (hl : AllP l) (he : e ≠ .normal) :
    Runs P (CallsD P) (.rounds b) c.abs e c1.abs := .last (roundX_runs hX h hl) he
/-- The loops of a text, in its order. -/
def loopsOf : Code → List Code
  | .seq a b => loopsOf a ++ loopsOf b
  | .cond _ a b => loopsOf a ++ loopsOf b
  | .block _ a => loopsOf a
  | .loop a => a :: loopsOf a
  | .rangeFunc _ _ a b => loopsOf a ++ loopsOf b
  | _ => []
/-- A function's loop. -/
def loopAt (P : Program) (f : FuncId) (k : Nat) : Code := match bodyOf P f with
  | some (_, c) => (loopsOf c).getD k .skip
  | none => .skip
theorem loop_of_rounds {b : Code} {σ σ' : St} {e : Ex} (h : Runs P (CallsD P) (.rounds b) σ e σ') : Runs P (CallsD P) (.code (.loop b)) σ e σ' := .loop h
end
end
end Go.Dam
namespace Go.Dam
open Go
variable [Glo]
/-- A function by one of its paths. -/
theorem of_path {P : Program} {X : Contracts} (hX : ConOK P X) {fuel : Nat} {path : List PE} {f : FuncId} {args : List D} {res res' : D} {l : List Prop}
    (h : fnX P X fuel path f args = some (res, l)) (hl : AllP l) (e : res' = res) : CallsD P f args res' := by rw [e]; exact fnX_calls hX h hl
theorem rounds_on {P : Program} {X : Contracts} (hX : ConOK P X) {fuel : Nat} {b : Code} {path : List PE} {keep : List (List Nat)} {ren : List (Nat × Nat)} {c c1 : Cs} {σ : St} {e : Ex} {l : List Prop}
    (h : roundX P X fuel b path keep ren c = some (.normal, c1, l)) (hl : AllP l) (hr : Runs P (CallsD P) (.rounds b) c1.abs e σ) : Runs P (CallsD P) (.rounds b) c.abs e σ := round_on hX h hl hr
theorem rounds_end {P : Program} {X : Contracts} (hX : ConOK P X) {fuel : Nat} {b : Code} {path : List PE} {keep : List (List Nat)} {ren : List (Nat × Nat)} {c c1 : Cs} {σ : St} {e e0 : Ex} {l : List Prop}
    (h : roundX P X fuel b path keep ren c = some (e0, c1, l)) (hl : AllP l) (hn : e0 ≠ .normal) (he : e = e0 ∧ σ = c1.abs) : Runs P (CallsD P) (.rounds b) c.abs e σ := by
  obtain ⟨rfl, rfl⟩ := he; exact round_end hX h hl hn
end Go.Dam
end

section
namespace Go.Dam
open Go Go.RowKit
set_option linter.unusedSectionVars false
set_option linter.unusedSimpArgs false
set_option linter.unusedVariables false
/-! ### Numbers -/
theorem wrap_u64 (n : Int) : IntKind.wrap .u64 n = n % 18446744073709551616 := by simp [IntKind.wrap, IntKind.signed, IntKind.bits]
theorem wrap_u32 (n : Int) : IntKind.wrap .u32 n = n % 4294967296 := by simp [IntKind.wrap, IntKind.signed, IntKind.bits]
theorem wrap_i64 (n : Int) : IntKind.wrap .i64 n = if n % 18446744073709551616 ≥ 9223372036854775808 then n % 18446744073709551616 - 18446744073709551616 else n % 18446744073709551616 := by simp [IntKind.wrap, IntKind.signed, IntKind.bits]
theorem wrap_i64_of {n : Int} (h1 : -9223372036854775808 ≤ n) (h2 : n < 9223372036854775808) : IntKind.wrap .i64 n = n := by
  rw [wrap_i64]; split <;> omega
theorem wrap_u64_of {n : Int} (h1 : 0 ≤ n) (h2 : n < 18446744073709551616) : IntKind.wrap .u64 n = n := by rw [wrap_u64]; omega
theorem opI_add (k : IntKind) (a b : Int) : opI .add k a b = k.wrap (a + b) := rfl
theorem opI_sub (k : IntKind) (a b : Int) : opI .sub k a b = k.wrap (a - b) := rfl
theorem opI_mul (k : IntKind) (a b : Int) : opI .mul k a b = k.wrap (a * b) := rfl
theorem opI_quo (k : IntKind) {a b : Int} (ha : 0 ≤ a) : opI .quo k a b = k.wrap (a / b) := by show k.wrap (a.tdiv b) = _; rw [Int.tdiv_eq_ediv_of_nonneg ha]
theorem opI_rem (k : IntKind) {a b : Int} (ha : 0 ≤ a) : opI .rem k a b = a % b := by show a.tmod b = _; rw [Int.tmod_eq_emod_of_nonneg ha]
@[simp] theorem lss_t {a b : Int} : (cmpI .lss a b = true) ↔ a < b := by simp [cmpI]
@[simp] theorem leq_t {a b : Int} : (cmpI .leq a b = true) ↔ a ≤ b := by simp [cmpI]
@[simp] theorem gtr_t {a b : Int} : (cmpI .gtr a b = true) ↔ b < a := by simp [cmpI]
@[simp] theorem geq_t {a b : Int} : (cmpI .geq a b = true) ↔ b ≤ a := by simp [cmpI]
@[simp] theorem eql_t {a b : Int} : (cmpI .eql a b = true) ↔ a = b := by simp [cmpI]
@[simp] theorem neq_t {a b : Int} : (cmpI .neq a b = true) ↔ a ≠ b := by simp [cmpI]
@[simp] theorem lss_f {a b : Int} : (cmpI .lss a b = false) ↔ b ≤ a := by simp [cmpI]
@[simp] theorem leq_f {a b : Int} : (cmpI .leq a b = false) ↔ b < a := by simp [cmpI]
@[simp] theorem gtr_f {a b : Int} : (cmpI .gtr a b = false) ↔ a ≤ b := by simp [cmpI]
@[simp] theorem geq_f {a b : Int} : (cmpI .geq a b = false) ↔ a < b := by simp [cmpI]
@[simp] theorem eql_f {a b : Int} : (cmpI .eql a b = false) ↔ a ≠ b := by simp [cmpI]
@[simp] theorem neq_f {a b : Int} : (cmpI .neq a b = false) ↔ a = b := by simp [cmpI]
/-! ### Contracts, put together -/
variable [Glo]
def noCon : Contracts := fun _ => none
theorem noCon_ok {P : Program} : ConOK P noCon := ⟨fun f g h => (by cases h), fun f g h => (by cases h)⟩
/-- One contract more. -/
def addCon (f : FuncId) (c : Con) (X : Contracts) : Contracts := fun k => bif Nat.beq k f then some c else X k
theorem addCall_ok {P : Program} {X : Contracts} {f : FuncId} {g : List D → Option (D × List Prop)} (hg : ∀ args res l, g args = some (res, l) → AllP l → CallsD P f args res) (hX : ConOK P X) : ConOK P (addCon f (.call g) X) := by
  refine ⟨fun k g' h => ?_, fun k g' h => ?_⟩
  · unfold addCon at h
    cases hb : Nat.beq k f with
    | true => rw [hb] at h; have := Nat.eq_of_beq_eq_true hb; subst this; cases h; exact hg
    | false => rw [hb] at h; exact hX.call k g' h
  · unfold addCon at h
    cases hb : Nat.beq k f with
    | true => rw [hb] at h; cases h
    | false => rw [hb] at h; exact hX.ext k g' h
end Go.Dam
end

section
namespace Go.Dam
set_option linter.unusedSectionVars false
set_option linter.unusedSimpArgs false
open Go Go.RowKit Go.ChangeShapes Go.WideShapes
section
variable {H : Type} {enc : TypeId × Value → H} {P : Program} {w : World} {spare : Nat → Bool}
/-! ### What comes in, laid open -/
/-- Rows of pairs of numbers. -/
def IsPairs (k0 k1 : IntKind) (w : World) (v : Value) (xs ys : List Int) : Prop :=
  xs.length = ys.length ∧ (∀ i, i < xs.length → (Lit.int k0 (xs.getD i 0)).wf = true) ∧ (∀ i, i < xs.length → (Lit.int k1 (ys.getD i 0)).wf = true) ∧
    ∃ o cp, v = .slice o xs.length cp ∧ xs.length ≤ cp ∧ cp ≤ maxLen ∧ (xs.length ≠ 0 → ∃ ad, o = some ad ∧ ad.spot = none ∧ ad.block < w.heap.size) ∧
      ∀ i, i < xs.length → w.cell? (plusOff (o.getD default) (i * 2)) = some (.int k0 (xs.getD i 0)) ∧ w.cell? (plusOff (o.getD default) (i * 2 + 1)) = some (.int k1 (ys.getD i 0))
theorem add_plus (a : Addr) (n : Nat) (h : a.spot = none) : a.add n = plusOff a n := by
  unfold Addr.add plusOff
  split
  · next e => subst e; cases a; simp at h; simp [h]
  · rfl
end
variable [Glo]
theorem IsPairs.rep (hg : ¬ Live) {k0 k1 : IntKind} {w : World} {v : Value} {xs ys : List Int} (h : IsPairs k0 k1 w v xs ys) : RepS w (fun k => k < w.heap.size) (.rc [.ints k0 xs, .ints k1 ys]) v := by
  obtain ⟨_, _, _, o, cp, rfl, hl, _, h0, hc⟩ := h
  simp only [RepS]
  refine ⟨o, cp, rfl, fun q => absurd q hg, hl, h0, fun i j c hi hj => ?_⟩
  have := hc i hi
  match j, hj with
  | 0, hj => simp at hj; subst hj; exact ⟨_, this.1, rfl⟩
  | 1, hj => simp at hj; subst hj; exact ⟨_, this.2, rfl⟩
theorem wf_u64 {n : Int} (h : (Lit.int .u64 n).wf = true) : 0 ≤ n ∧ n < 18446744073709551616 := by
  simp [Lit.wf, IntKind.has, IntKind.min, IntKind.max, IntKind.signed, IntKind.bits] at h; omega
theorem wf_i64 {n : Int} (h : (Lit.int .i64 n).wf = true) : -9223372036854775808 ≤ n ∧ n < 9223372036854775808 := by
  simp [Lit.wf, IntKind.has, IntKind.min, IntKind.max, IntKind.signed, IntKind.bits] at h; omega
end Go.Dam
end

section
namespace Go.Dam
open Go Go.RowKit
set_option linter.unusedSectionVars false
variable [Glo]
/-! Long rows of numbers in a contract. -/
def D.isK (k : IntKind) : D → Bool
  | .v (.int k' _) => decide (k' = k)
  | _ => false
def mkL : List IntKind → (Nat → Int) → List D
  | [], _ => []
  | k :: ks, f => .v (.int k (f 0)) :: mkL ks (fun i => f (i + 1))
end Go.Dam
end
