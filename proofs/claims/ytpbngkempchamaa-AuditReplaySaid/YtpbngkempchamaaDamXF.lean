/- The engine, part XF: an abstract machine for the program's functions, proved right against the model. No condition. -/
import Derived.Test.YtpbngkempchamaaDamXE
set_option linter.unusedSectionVars false
set_option linter.unusedVariables false
set_option linter.unusedSimpArgs false
namespace Go.Dam
open Go Go.RowKit
set_option linter.unusedSectionVars false
variable [Glo]
set_option linter.unusedSimpArgs false
set_option linter.unusedVariables false
noncomputable section

/-! ### The state ahead of a loop: what counts of it, its blocks by other names -/

def renOf (i : Nat) : List (Nat × Nat) → Option Nat
  | [] => none
  | (k, j) :: l => bif Nat.beq k i then some j else renOf i l

mutual
def D.ren (l : List (Nat × Nat)) : D → D
  | .sl i off n sz => match renOf i l with
    | some j => .sl j off n sz
    | none => .undef
  | .ptr i off => match renOf i l with
    | some j => .ptr j off
    | none => .undef
  | .pel i a b c => match renOf i l with
    | some j => .pel j a b c
    | none => .undef
  | .agg cs => .agg (D.renL l cs)
  | .tup cs => .tup (D.renL l cs)
  | .fn f cs => .fn f (D.renL l cs)
  | d => d
def D.renL (l : List (Nat × Nat)) : List D → List D
  | [] => []
  | d :: ds => D.ren l d :: D.renL l ds
end

def BX.ren (l : List (Nat × Nat)) : BX → BX
  | .cells cs ro => .cells (D.renL l cs) ro
  | .row cols ro => .row cols ro

def keepT (t : TT) : List Nat → TT
  | [] => .lf
  | k :: ks => (keepT t ks).set (t.get (path k)) (path k)

/-- A tree out of what lies in it. -/
def TT.of : List (Nat × D) → TT
  | [] => .lf
  | (k, d) :: l => (TT.of l).set d (path k)

theorem get_keepT (t : TT) (k : Nat) : ∀ ks, (keepT t ks).get (path k) = if k ∈ ks then t.get (path k) else .undef
  | [] => by simp [keepT, get_lf]
  | j :: ks => by
    simp only [keepT, TT.get_set, get_keepT t k ks]
    by_cases h : k = j
    · subst h; simp
    · rw [if_neg (fun e => h (path_inj e))]; simp [h]

def renBk (bk : List (Nat × BX)) (l : List (Nat × Nat)) : List (Nat × Nat) → List (Nat × BX)
  | [] => []
  | (i, j) :: m => match lookX i bk with
    | some b => (j, b.ren l) :: renBk bk l m
    | none => renBk bk l m

def keepF (l : List (Nat × Nat)) (f : TT × Nat) (ks : List Nat) : TT × Nat := ((keepT f.1 ks).map (D.ren l), f.2)

def keepS (l : List (Nat × Nat)) : List (TT × Nat) → List (List Nat) → List (TT × Nat)
  | [], _ => []
  | f :: fs, [] => keepF l f [] :: keepS l fs []
  | f :: fs, k :: ks => keepF l f k :: keepS l fs ks

/-- The state ahead of a loop. -/
def Cs.norm (c : Cs) (keep : List (List Nat)) (l : List (Nat × Nat)) : Cs :=
  { tm := (keepF l (c.tm, c.nt) (keep.headD [])).1, nt := c.nt, stk := keepS l c.stk keep.tail, bk := renBk c.bk l l, loop := c.loop, gen := 0 }

/-- Names given once. -/
def okRen : List (Nat × Nat) → Bool
  | [] => true
  | (i, j) :: l => (!(Nat.beq j yldId)) && (l.all (fun p => !(Nat.beq p.1 i) && !(Nat.beq p.2 j)) && okRen l)

theorem okRen_mem : ∀ {l : List (Nat × Nat)}, okRen l = true → (∀ i j, (i, j) ∈ l → renOf i l = some j ∧ j ≠ yldId) ∧ ∀ i i' j, (i, j) ∈ l → (i', j) ∈ l → i = i'
  | [], _ => ⟨fun i j h => (by cases h), fun i i' j h => (by cases h)⟩
  | (a, b) :: l, h => by
    simp only [okRen, Bool.and_eq_true, Bool.not_eq_true', List.all_eq_true, Prod.forall] at h
    obtain ⟨h1, h2, h3⟩ := h
    obtain ⟨k1, k2⟩ := okRen_mem h3
    have hb : b ≠ yldId := fun e => by rw [e, beq_yes] at h1; cases h1
    refine ⟨fun i j hm => ?_, fun i i' j hm hm' => ?_⟩
    · simp only [List.mem_cons, Prod.mk.injEq] at hm
      rcases hm with ⟨rfl, rfl⟩ | hm
      · exact ⟨by simp [renOf, beq_yes], hb⟩
      · have hne : a ≠ i := fun e => by subst e; have := (h2 a j hm).1; rw [beq_yes] at this; cases this
        simp only [renOf, beq_no hne, cond_false]
        exact k1 i j hm
    · simp only [List.mem_cons, Prod.mk.injEq] at hm hm'
      rcases hm with ⟨e1, e2⟩ | hm <;> rcases hm' with ⟨e3, e4⟩ | hm'
      · rw [e1, e3]
      · have := (h2 i' _ hm').2; rw [e2, beq_yes] at this; cases this
      · have := (h2 i _ hm).2; rw [e4, beq_yes] at this; cases this
      · exact k2 i i' j hm hm'

theorem renOf_mem : ∀ {l : List (Nat × Nat)} {i j : Nat}, renOf i l = some j → (i, j) ∈ l
  | [], _, _, h => by simp [renOf] at h
  | (a, b) :: l, i, j, h => by
    simp only [renOf, cond_eq_ite] at h
    split at h
    next e => have := Nat.eq_of_beq_eq_true e; simp at h; subst this; subst h; simp
    next => simp [renOf_mem h]

def invOf (j : Nat) : List (Nat × Nat) → Option Nat
  | [] => none
  | (i, k) :: l => if k = j then some i else invOf j l
theorem invOf_mem {j : Nat} : ∀ {l : List (Nat × Nat)} {i : Nat}, okRen l = true → (i, j) ∈ l → invOf j l = some i
  | [], i, _, h => by cases h
  | (a, b) :: l, i, ho, h => by
    simp only [invOf]
    split
    next e =>
      subst e
      rw [(okRen_mem ho).2 i a b h (by simp)]
    next e =>
      simp only [List.mem_cons, Prod.mk.injEq] at h
      rcases h with ⟨rfl, rfl⟩ | h
      · exact absurd rfl e
      · simp only [okRen, Bool.and_eq_true] at ho
        exact invOf_mem ho.2.2 h

/-- Where the renamed blocks lie. -/
def renEnv (β : Env) (l : List (Nat × Nat)) : Env := fun k => if k = yldId then β yldId else (invOf k l).bind β

theorem renEnv_of {β : Env} {l : List (Nat × Nat)} (ho : okRen l = true) {i j : Nat} (h : renOf i l = some j) : renEnv β l j = β i := by
  have hm := renOf_mem h
  unfold renEnv
  rw [if_neg ((okRen_mem ho).1 i j hm).2, invOf_mem ho hm]
  rfl

mutual
theorem ren_rep {w : World} {A : Nat → Prop} {β : Env} {l : List (Nat × Nat)} (ho : okRen l = true) : ∀ (d : D) (u : Value), Rep w A β d u → Rep w A (renEnv β l) (d.ren l) u
  | .sl i off n sz, u, h => by
    simp only [D.ren]
    split
    next j hj =>
      simp only [Rep] at h ⊢
      rw [renEnv_of ho hj]; exact h
    next => simp [Rep, RepS]
  | .ptr i off, u, h => by
    simp only [D.ren]
    split
    next j hj =>
      simp only [Rep] at h ⊢
      rw [renEnv_of ho hj]; exact h
    next => simp [Rep, RepS]
  | .pel i a b c, u, h => by
    simp only [D.ren]
    split
    next j hj =>
      simp only [Rep] at h ⊢
      rw [renEnv_of ho hj]; exact h
    next => simp [Rep, RepS]
  | .agg cs, u, h => by
    simp only [Rep, D.ren] at h ⊢
    obtain ⟨vs, rfl, h⟩ := h
    exact ⟨vs, rfl, renL_rep ho cs vs h⟩
  | .tup cs, u, h => by
    simp only [Rep, D.ren] at h ⊢
    obtain ⟨vs, rfl, h⟩ := h
    exact ⟨vs, rfl, renL_rep ho cs vs h⟩
  | .fn f cs, u, h => by
    simp only [Rep, D.ren] at h ⊢
    obtain ⟨vs, rfl, h⟩ := h
    exact ⟨vs, rfl, renL_rep ho cs vs h⟩
  | .yld, u, h => by
    simp only [Rep, D.ren] at h ⊢
    obtain ⟨ad, h1, h2⟩ := h
    exact ⟨ad, by simp [renEnv, h1], h2⟩
  | .undef, u, h => by simpa [D.ren, Rep] using h
  | .v x, u, h => by simpa [D.ren, Rep] using h
  | .emp, u, h => by simpa [D.ren, Rep] using h
  | .sh _ _, u, h => by simpa [D.ren, Rep] using h
  | .ow _ _ _, u, h => by simpa [D.ren, Rep] using h
  | .shp _ _, u, h => by simpa [D.ren, Rep] using h
  | .rc _, u, h => by simpa [D.ren, Rep] using h
  | .oc _, u, h => by simpa [D.ren, Rep] using h
theorem renL_rep {w : World} {A : Nat → Prop} {β : Env} {l : List (Nat × Nat)} (ho : okRen l = true) : ∀ (ds : List D) (vs : List Value), RepLs w A β ds vs → RepLs w A (renEnv β l) (D.renL l ds) vs
  | [], vs, h => by simpa [D.renL, RepLs] using h
  | d :: ds, vs, h => by
    simp only [D.renL, RepLs] at h ⊢
    obtain ⟨x, xs, rfl, h1, h2⟩ := h
    exact ⟨x, xs, rfl, ren_rep ho d x h1, renL_rep ho ds xs h2⟩
end

theorem renL_at {w : World} {A : Nat → Prop} {β : Env} {l : List (Nat × Nat)} (ho : okRen l = true) : ∀ (ds : List D) (ad : Addr), CellsAt w A β ds ad → CellsAt w A (renEnv β l) (D.renL l ds) ad
  | [], _, _ => trivial
  | d :: ds, ad, ⟨⟨u, h1, h2⟩, h3⟩ => ⟨⟨u, h1, ren_rep ho d u h2⟩, renL_at ho ds _ h3⟩

theorem renL_map (l : List (Nat × Nat)) : ∀ ds : List D, D.renL l ds = ds.map (D.ren l)
  | [] => rfl
  | d :: ds => by simp [D.renL, renL_map l ds]
theorem renL_row (l : List (Nat × Nat)) (cols : List Col0) : D.renL l (rowCells0 cols) = rowCells0 cols := by
  rw [renL_map]
  refine (List.map_congr_left fun d hd => ?_).trans (List.map_id _)
  obtain ⟨x, rfl⟩ := rowCells0_v hd
  rfl
theorem BX.ren_cells (l : List (Nat × Nat)) (b : BX) : (b.ren l).blk = ⟨D.renL l b.blk.cells, b.blk.ro⟩ := by
  cases b with
  | cells cs ro => rfl
  | row cols ro => simp only [BX.ren, BX.blk, renL_row]

theorem lookX_ren {bk : List (Nat × BX)} {l : List (Nat × Nat)} {j : Nat} {b : BX} : ∀ {m : List (Nat × Nat)}, lookX j (renBk bk l m) = some b → ∃ i b0, (i, j) ∈ m ∧ lookX i bk = some b0 ∧ b = b0.ren l
  | [], h => by simp [renBk, lookX] at h
  | (i, k) :: m, h => by
    simp only [renBk] at h
    split at h
    next b0 hb0 =>
      simp only [lookX, cond_eq_ite] at h
      split at h
      next e =>
        have := Nat.eq_of_beq_eq_true e
        subst this
        simp at h; subst h
        exact ⟨i, b0, by simp, hb0, rfl⟩
      next =>
        obtain ⟨i', b', h1, h2, h3⟩ := lookX_ren h
        exact ⟨i', b', by simp [h1], h2, h3⟩
    next =>
      obtain ⟨i', b', h1, h2, h3⟩ := lookX_ren h
      exact ⟨i', b', by simp [h1], h2, h3⟩

theorem keepF_rep {w : World} {A : Nat → Prop} {β : Env} {l : List (Nat × Nat)} (ho : okRen l = true) {f : TT × Nat} {ks : List Nat} {a : Array Value} (h : FrRep w A β (frOf f) a) : FrRep w A (renEnv β l) (frOf (keepF l f ks)) a := by
  refine ⟨h.nt, fun t => ?_⟩
  show Rep w A (renEnv β l) (((keepT f.1 ks).map (D.ren l)).get (path t)) _
  rw [TT.get_map rfl, get_keepT]
  split
  · exact ren_rep ho _ _ (h.tm t)
  · simp [D.ren, Rep, RepS]

theorem keepS_rep {w : World} {A : Nat → Prop} {β : Env} {l : List (Nat × Nat)} (ho : okRen l = true) : ∀ (fs : List (TT × Nat)) (ks : List (List Nat)) (as : List (Array Value)), StkRep w A β (fs.map frOf) as → StkRep w A (renEnv β l) ((keepS l fs ks).map frOf) as
  | [], _, as, h => by cases h; simp only [keepS]; exact .nil
  | f :: fs, [], as, h => by
    cases h with
    | cons h1 h2 => simp only [keepS, List.map_cons]; exact .cons (keepF_rep ho h1) (keepS_rep ho fs [] _ h2)
  | f :: fs, k :: ks, as, h => by
    cases h with
    | cons h1 h2 => simp only [keepS, List.map_cons]; exact .cons (keepF_rep ho h1) (keepS_rep ho fs ks _ h2)

theorem norm_weaker (c : Cs) (keep : List (List Nat)) {l : List (Nat × Nat)} (ho : okRen l = true) : Weaker c.abs (c.norm keep l).abs := by
  intro w A β base tmps acts h
  have inv : ∀ j b, (c.norm keep l).abs.bk j = some b → ∃ i b0, (i, j) ∈ l ∧ c.abs.bk i = some b0 ∧ b = ⟨D.renL l b0.cells, b0.ro⟩ := by
    intro j b hb
    have hb : lookB j (renBk c.bk l l) = some b := hb
    unfold lookB at hb
    rw [Option.map_eq_some_iff] at hb
    obtain ⟨b1, hb1, rfl⟩ := hb
    obtain ⟨i, b0, h1, h2, rfl⟩ := lookX_ren hb1
    exact ⟨i, b0.blk, h1, by show lookB i c.bk = _; unfold lookB; rw [h2]; rfl, BX.ren_cells l b0⟩
  have henv : ∀ i j, (i, j) ∈ l → renEnv β l j = β i := fun i j hm => renEnv_of ho ((okRen_mem ho).1 i j hm).1
  refine ⟨renEnv β l, ⟨keepF_rep ho h.fr, keepS_rep ho _ _ _ h.stk, ?_, ?_, h.low, h.top, h.glo, ?_⟩⟩
  · intro j b hb
    obtain ⟨i, b0, hm, h1, rfl⟩ := inv j b hb
    rw [henv i j hm]
    rcases h.blk i b0 h1 with ⟨k1, k2⟩ | ⟨ad, k1, k2⟩
    · exact .inl ⟨k1, by simp [k2, D.renL]⟩
    · exact .inr ⟨ad, k1, ⟨k2.spot, k2.base, k2.obj, renL_at ho _ _ k2.cells, k2.own, k2.shared, k2.inside⟩⟩
  · intro j1 j2 a b h1 h2 ha hb hab
    obtain ⟨b1, hb1⟩ := Option.ne_none_iff_exists'.1 h1
    obtain ⟨b2, hb2⟩ := Option.ne_none_iff_exists'.1 h2
    obtain ⟨i1, c1, m1, k1, _⟩ := inv j1 b1 hb1
    obtain ⟨i2, c2, m2, k2, _⟩ := inv j2 b2 hb2
    rw [henv i1 j1 m1] at ha
    rw [henv i2 j2 m2] at hb
    have := h.inj i1 i2 a b (by simp [k1]) (by simp [k2]) ha hb hab
    subst this
    have e1 := ((okRen_mem ho).1 _ _ m1).1
    have e2 := ((okRen_mem ho).1 _ _ m2).1
    rw [e1] at e2
    exact Option.some.inj e2
  · exact h.lp.mono (w := w) (w' := w) (A := A) (.refl _) (.refl _ _) (fun _ => by simp [renEnv])

end
end Go.Dam
