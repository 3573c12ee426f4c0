/- The engine, part XH: an abstract machine for the program's functions, proved right against the model. No condition. -/
import Derived.Test.YtpbngkempchamaaDamXG
set_option linter.unusedSectionVars false
set_option linter.unusedVariables false
set_option linter.unusedSimpArgs false
namespace Go.Dam
open Go Go.RowKit
set_option linter.unusedSectionVars false
variable [Glo]
set_option linter.unusedSimpArgs false
set_option linter.unusedVariables false
noncomputable section

def ReadsO (e e' : D) : Prop := ∀ (w : World) (A : Nat → Prop) (u : Value) (bl : List (Option Addr)), RepO w A e u bl → RepO w A e' u bl
theorem ReadsO.refl (e : D) : ReadsO e e := fun _ _ _ _ h => h
inductive ReadsOs : List D → List D → Prop
  | nil : ReadsOs [] []
  | cons {d e : D} {ds es : List D} : ReadsO d e → ReadsOs ds es → ReadsOs (d :: ds) (e :: es)
theorem ReadsOs.repOs {ds es : List D} (h : ReadsOs ds es) {w : World} {A : Nat → Prop} {vs : List Value} {bl : List (Option Addr)} (hr : RepOs w A ds vs bl) : RepOs w A es vs bl := by
  induction h generalizing vs bl with
  | nil => exact hr
  | cons h1 _ ih =>
    simp only [RepOs] at hr ⊢
    obtain ⟨x, xs, b1, b2, rfl, rfl, k1, k2⟩ := hr
    exact ⟨x, xs, b1, b2, rfl, rfl, h1 _ _ _ _ k1, ih k2⟩
theorem ReadsOs.agg {ds es : List D} (h : ReadsOs ds es) : ReadsO (.agg ds) (.agg es) := fun w A u bl hr => by
  simp only [RepO] at hr ⊢
  obtain ⟨vs, rfl, hr⟩ := hr
  exact ⟨vs, rfl, h.repOs hr⟩
theorem ReadsOs.tup {ds es : List D} (h : ReadsOs ds es) : ReadsO (.tup ds) (.tup es) := fun w A u bl hr => by
  simp only [RepO] at hr ⊢
  obtain ⟨vs, rfl, hr⟩ := hr
  exact ⟨vs, rfl, h.repOs hr⟩
theorem ReadsL.ow {ds es : List D} (h : ReadsL ds es) (n sz : Nat) : ReadsO (.ow n sz ds) (.ow n sz es) := fun w A u bl hr => by
  simp only [RepO] at hr ⊢
  obtain ⟨o, c, rfl, hr⟩ := hr
  refine ⟨o, c, rfl, ?_⟩
  rcases hr with ⟨h1, h2, h3, h4⟩ | ⟨h1, ad, h2, h3, h4, h5, h6⟩
  · exact .inl ⟨h1, h2, h.nil_iff.1 h3, h4⟩
  · exact .inr ⟨h1, ad, h2, h3, h4, h5, h.repAt h6⟩
theorem ow_oc (cols : List Col0) : ReadsO (.ow (rowLen0 cols) cols.length (rowCells0 cols)) (.oc cols) := fun w A u bl hr => by
  simp only [RepO] at hr ⊢
  exact hr

/-- A result, its own slices handed over. -/
def finX (bk : List (Nat × BX)) : D → Option (D × List Nat × List Nat × List Prop)
  | .undef => some (.undef, [], [], [])
  | .v x => some (.v x, [], [], [])
  | .sh n cs => some (.sh n cs, [], [], [])
  | .rc cs => some (.rc cs, [], [], [])
  | .emp => some (.emp, [], [], [])
  | .sl id off n sz => match lookX id bk with
    | some (.cells cells false) => if off + n * sz ≤ cells.length then
        match shareAllX (shareX bk depth) ((cells.drop off).take (n * sz)) with
        | none => none
        | some (cs, ids, l) => some (.ow n sz cs, ids, [id], l)
      else none
    | some (.row cols false) => bif Nat.beq off 0 && Nat.beq sz.s cols.length then some (.oc cols, [], [id], [n = rowLen0 cols]) else none
    | _ => none
  | .agg cs => match finXL cs with
    | none => none
    | some (ds, i, j, l) => some (.agg ds, i, j, l)
  | .tup cs => match finXL cs with
    | none => none
    | some (ds, i, j, l) => some (.tup ds, i, j, l)
  | _ => none
where
  finXL : List D → Option (List D × List Nat × List Nat × List Prop)
  | [] => some ([], [], [], [])
  | d :: ds => match finX bk d, finXL ds with
    | some (e, i, j, l), some (es, is, js, ls) => some (e :: es, i ++ is, j ++ js, l ++ ls)
    | _, _ => none

mutual
theorem finX_spec {bk : List (Nat × BX)} : ∀ (d e : D) (sh own : List Nat) (l : List Prop), finX bk d = some (e, sh, own, l) → AllP l → ∃ e', fin (fun i => lookB i bk) d = some (e', sh, own) ∧ ReadsO e' e
  | .undef, e, sh, own, l, h, hl => by simp [finX] at h; obtain ⟨rfl, rfl, rfl, rfl⟩ := h; exact ⟨_, by simp only [fin], .refl _⟩
  | .v x, e, sh, own, l, h, hl => by simp [finX] at h; obtain ⟨rfl, rfl, rfl, rfl⟩ := h; exact ⟨_, by simp only [fin], .refl _⟩
  | .sh _ _, e, sh, own, l, h, hl => by simp [finX] at h; obtain ⟨rfl, rfl, rfl, rfl⟩ := h; exact ⟨_, by simp only [fin], .refl _⟩
  | .rc _, e, sh, own, l, h, hl => by simp [finX] at h; obtain ⟨rfl, rfl, rfl, rfl⟩ := h; exact ⟨_, by simp only [fin], .refl _⟩
  | .emp, e, sh, own, l, h, hl => by simp [finX] at h; obtain ⟨rfl, rfl, rfl, rfl⟩ := h; exact ⟨_, by simp only [fin], .refl _⟩
  | .sl id off n sz, e, sh, own, l, h, hl => by
    simp only [finX] at h
    split at h
    next cells hb =>
      split at h
      next hle =>
        split at h
        · cases h
        next cs ids l' h1 =>
          simp at h; obtain ⟨rfl, rfl, rfl, rfl⟩ := h
          obtain ⟨es', k1, k2⟩ := shareAllX_spec (fun d e ids l h hl => shareX_spec depth d e ids l h hl) _ cs ids l' h1 hl
          refine ⟨.ow n sz es', ?_, k2.ow n sz⟩
          simp only [fin, lookB_cells hb]
          rw [if_pos ⟨hle, trivial⟩, k1]
      · cases h
    next cols hb =>
      simp only [cond_eq_ite] at h
      split at h
      next hc =>
        simp only [Bool.and_eq_true] at hc
        simp only [Option.some.injEq, Prod.mk.injEq] at h; obtain ⟨rfl, rfl, rfl, rfl⟩ := h
        obtain rfl := Nat.eq_of_beq_eq_true hc.1
        have hsz := Nat.eq_of_beq_eq_true hc.2
        simp only [AllP, and_true] at hl
        subst hl
        have hlb : lookB id bk = some ⟨rowCells0 cols, false⟩ := by unfold lookB; rw [hb]; rfl
        have hlen := rowCells0_length cols
        refine ⟨.ow (rowLen0 cols) sz (rowCells0 cols), ?_, ?_⟩
        · simp only [fin, hlb]
          rw [if_pos ⟨by rw [hlen, hsz]; omega, trivial⟩, List.drop_zero, List.take_of_length_le (by rw [hlen, hsz]; exact Nat.le_refl _), shareAll_v _ depth _ fun d hd => rowCells0_v hd]
        · rw [hsz]; exact ow_oc cols
      · cases h
    · cases h
  | .agg cs, e, sh, own, l, h, hl => by
    simp only [finX] at h
    split at h
    · cases h
    next ds i j l' h1 =>
      simp at h; obtain ⟨rfl, rfl, rfl, rfl⟩ := h
      obtain ⟨es, k1, k2⟩ := finXL_spec cs ds i j l' h1 hl
      exact ⟨.agg es, by simp only [fin, k1], k2.agg⟩
  | .tup cs, e, sh, own, l, h, hl => by
    simp only [finX] at h
    split at h
    · cases h
    next ds i j l' h1 =>
      simp at h; obtain ⟨rfl, rfl, rfl, rfl⟩ := h
      obtain ⟨es, k1, k2⟩ := finXL_spec cs ds i j l' h1 hl
      exact ⟨.tup es, by simp only [fin, k1], k2.tup⟩
  | .ow _ _ _, e, sh, own, l, h, hl => by simp [finX] at h
  | .oc _, e, sh, own, l, h, hl => by simp [finX] at h
  | .ptr _ _, e, sh, own, l, h, hl => by simp [finX] at h
  | .pel _ _ _ _, e, sh, own, l, h, hl => by simp [finX] at h
  | .shp _ _, e, sh, own, l, h, hl => by simp [finX] at h
  | .fn _ _, e, sh, own, l, h, hl => by simp [finX] at h
  | .yld, e, sh, own, l, h, hl => by simp [finX] at h
theorem finXL_spec {bk : List (Nat × BX)} : ∀ (ds es : List D) (sh own : List Nat) (l : List Prop), finX.finXL bk ds = some (es, sh, own, l) → AllP l → ∃ es', fin.finL (fun i => lookB i bk) ds = some (es', sh, own) ∧ ReadsOs es' es
  | [], es, sh, own, l, h, hl => by simp [finX.finXL] at h; obtain ⟨rfl, rfl, rfl, rfl⟩ := h; exact ⟨[], by simp only [fin.finL], .nil⟩
  | d :: ds, es, sh, own, l, h, hl => by
    simp only [finX.finXL] at h
    split at h
    next e i j l1 es' is js l2 h1 h2 =>
      simp at h; obtain ⟨rfl, rfl, rfl, rfl⟩ := h
      rw [AllP_append] at hl
      obtain ⟨e1, k1, k2⟩ := finX_spec d e i j l1 h1 hl.1
      obtain ⟨e2, k3, k4⟩ := finXL_spec ds es' is js l2 h2 hl.2
      exact ⟨e1 :: e2, by simp only [fin.finL, k1, k3], .cons k2 k4⟩
    · cases h
end

/-- A result, told as shared content. -/
def finSX (bk : List (Nat × BX)) : D → Option (D × List Prop)
  | .tup cs => match shareAllX (shareX bk depth) cs with
    | none => none
    | some (ds, ids, l) => some (.tup ds, l)
  | d => match shareX bk depth d with
    | none => none
    | some (e, ids, l) => some (e, l)

/-- How a result is told. -/
def finishX (bk : List (Nat × BX)) (d : D) : Option (D × List Prop) :=
  match finX bk d with
  | some (e, sh, own, l) => bif decide own.Nodup && own.all fun i => !sh.contains i then some (e, l) else finSX bk d
  | none => finSX bk d

theorem calls_mono {P : Program} {f : FuncId} {args : List D} {e e' : D} (h : ReadsO e e') (k : CallsD P f args e) : CallsD P f args e' := fun w A vs hv low glo => (k w A vs hv low glo).mono fun r w' ⟨v, A', bl, h1, h2, h3⟩ => ⟨v, A', bl, h1, h _ _ _ _ h2, h3⟩

theorem finishX_spec {bk : List (Nat × BX)} {d e : D} {l : List Prop} (h : finishX bk d = some (e, l)) (hl : AllP l) : ∃ e', Fins (fun i => lookB i bk) d e' ∧ ReadsO e' e := by
  have viaS : finSX bk d = some (e, l) → ∃ e', Fins (fun i => lookB i bk) d e' ∧ ReadsO e' e := by
    clear h
    intro h
    unfold finSX at h
    split at h
    next cs =>
      split at h
      · cases h
      next ds ids l' h1 =>
        simp only [Option.some.injEq, Prod.mk.injEq] at h; obtain ⟨rfl, rfl⟩ := h
        obtain ⟨es', k1, k2⟩ := shareAllX_spec (fun d e ids l h hl => shareX_spec depth d e ids l h hl) _ ds ids l' h1 hl
        exact ⟨_, .sharedT rfl k1 k2 rfl, .refl _⟩
    next =>
      split at h
      · cases h
      next e0 ids l' h1 =>
        simp only [Option.some.injEq, Prod.mk.injEq] at h; obtain ⟨rfl, rfl⟩ := h
        obtain ⟨e', k1, k2⟩ := shareX_spec depth d e0 ids l' h1 hl
        exact ⟨_, .shared k1 k2, .refl _⟩
  unfold finishX at h
  split at h
  next e1 sh own l1 h1 =>
    simp only [cond_eq_ite] at h
    split at h
    next hc =>
      simp only [Option.some.injEq, Prod.mk.injEq] at h; obtain ⟨rfl, rfl⟩ := h
      simp only [Bool.and_eq_true, decide_eq_true_eq] at hc
      obtain ⟨e', k1, k2⟩ := finX_spec d _ sh own _ h1 hl
      exact ⟨e', .own k1 hc.1 hc.2, k2⟩
    next => exact viaS h
  next => exact viaS h

def Cf.start (args : List D) (nt : Nat) (path : List PE) : Cf := { tm := TT.mk (initD args (args.length + (nt - args.length))) (args.length + (nt - args.length) + 1) 0 1, nt := args.length + (nt - args.length), stk := [], bk := [], loop := none, todo := path }
theorem start_abs (args : List D) (nt : Nat) (path : List PE) : (Cf.start args nt path).abs = St.start args nt := by
  simp only [Cf.start, Cf.abs, Cs.abs, St.start, St.enter, List.map_nil, lookB, lookX, Option.map_none]
  congr 1
  exact frOf_mk args nt

def endX (P : Program) (fn : Func) (e : Ex) (c' : Cf) : Option (D × List Prop) :=
  match e.done, resD P c'.abs fn.results.toList with
  | true, some ds => match finishX c'.bk (resOut ds) with
    | some (res, l) => some (res, l ++ c'.cds)
    | none => none
  | _, _ => none

/-- A function, run. -/
def fnX (P : Program) (X : Contracts) (fuel : Nat) (path : List PE) (f : FuncId) (args : List D) : Option (D × List Prop) :=
  match bodyOf P f with
  | none => none
  | some (fn, c) => match evX P X fuel (.code c) (Cf.start args fn.ntmps path) with
    | none => none
    | some (e, c') => endX P fn e c'

section
variable {P : Program} {X : Contracts} (hX : ConOK P X)

include hX in
theorem fnX_calls {fuel : Nat} {path : List PE} {f : FuncId} {args : List D} {res : D} {l : List Prop} (h : fnX P X fuel path f args = some (res, l)) (hl : AllP l) : CallsD P f args res := by
  unfold fnX at h
  split at h
  · cases h
  next fn c hb =>
    split at h
    · cases h
    next e c' hev =>
      unfold endX at h
      split at h
      next ds hd hr =>
        split at h
        next res0 l0 hf =>
          simp only [Option.some.injEq, Prod.mk.injEq] at h; obtain ⟨rfl, rfl⟩ := h
          rw [AllP_append] at hl
          obtain ⟨_, r1, _⟩ := evX_right hX fuel _ _ _ _ hev hl.2
          rw [start_abs] at r1
          obtain ⟨e', k1, k2⟩ := finishX_spec hf hl.1
          exact calls_mono k2 (calls_of_runs (fun f as res h => h) hb r1 (by cases e <;> simp [Ex.done] at hd <;> simp) hr k1)
        · cases h
      · cases h

def Cs.run (c : Cs) (path : List PE) : Cf := { c with todo := path }

/-- A round of a loop; and what counts behind it. -/
def roundX (P : Program) (X : Contracts) (fuel : Nat) (b : Code) (path : List PE) (keep : List (List Nat)) (ren : List (Nat × Nat)) (c : Cs) : Option (Ex × Cs × List Prop) :=
  match evX P X fuel (.code b) (c.run path) with
  | some (e, c') => bif okRen ren then some (e, c'.toCs.norm keep ren, c'.cds) else none
  | none => none

include hX in
theorem roundX_runs {fuel : Nat} {b : Code} {path : List PE} {keep : List (List Nat)} {ren : List (Nat × Nat)} {c c1 : Cs} {e : Ex} {l : List Prop} (h : roundX P X fuel b path keep ren c = some (e, c1, l)) (hl : AllP l) : Runs P (CallsD P) (.code b) c.abs e c1.abs := by
  unfold roundX at h
  split at h
  next e' c' hev =>
    simp only [cond_eq_ite] at h
    split at h
    next ho =>
      simp only [Option.some.injEq, Prod.mk.injEq] at h
      obtain ⟨rfl, rfl, rfl⟩ := h
      obtain ⟨_, r1, _⟩ := evX_right hX fuel _ _ _ _ hev hl
      exact .late rfl r1 (norm_weaker c'.toCs keep ho)
    · cases h
  · cases h

include hX in
/-- One more round. -/
theorem round_on {fuel : Nat} {b : Code} {path : List PE} {keep : List (List Nat)} {ren : List (Nat × Nat)} {c c1 : Cs} {σ : St} {e : Ex} {l : List Prop} (h : roundX P X fuel b path keep ren c = some (.normal, c1, l)) (hl : AllP l)
    (hr : Runs P (CallsD P) (.rounds b) c1.abs e σ) : Runs P (CallsD P) (.rounds b) c.abs e σ := .round (roundX_runs hX h hl) hr

include hX in
/-- The last round. -/
theorem round_end {fuel : Nat} {b : Code} {path : List PE} {keep : List (List Nat)} {ren : List (Nat × Nat)} {c c1 : Cs} {e : Ex} {l : List Prop} (h : roundX P X fuel b path keep ren c = some (e, c1, l)) (hl : AllP l) (he : e ≠ .normal) :
    Runs P (CallsD P) (.rounds b) c.abs e c1.abs := .last (roundX_runs hX h hl) he

/-- The loops of a text, in its order. -/
def loopsOf : Code → List Code
  | .seq a b => loopsOf a ++ loopsOf b
  | .cond _ a b => loopsOf a ++ loopsOf b
  | .block _ a => loopsOf a
  | .loop a => a :: loopsOf a
  | .rangeFunc _ _ a b => loopsOf a ++ loopsOf b
  | _ => []
/-- A function's loop. -/
def loopAt (P : Program) (f : FuncId) (k : Nat) : Code := match bodyOf P f with
  | some (_, c) => (loopsOf c).getD k .skip
  | none => .skip

theorem loop_of_rounds {b : Code} {σ σ' : St} {e : Ex} (h : Runs P (CallsD P) (.rounds b) σ e σ') : Runs P (CallsD P) (.code (.loop b)) σ e σ' := .loop h
end

end
end Go.Dam
namespace Go.Dam
open Go
variable [Glo]
/-- A function by one of its paths. -/
theorem of_path {P : Program} {X : Contracts} (hX : ConOK P X) {fuel : Nat} {path : List PE} {f : FuncId} {args : List D} {res res' : D} {l : List Prop}
    (h : fnX P X fuel path f args = some (res, l)) (hl : AllP l) (e : res' = res) : CallsD P f args res' := by rw [e]; exact fnX_calls hX h hl
theorem rounds_on {P : Program} {X : Contracts} (hX : ConOK P X) {fuel : Nat} {b : Code} {path : List PE} {keep : List (List Nat)} {ren : List (Nat × Nat)} {c c1 : Cs} {σ : St} {e : Ex} {l : List Prop}
    (h : roundX P X fuel b path keep ren c = some (.normal, c1, l)) (hl : AllP l) (hr : Runs P (CallsD P) (.rounds b) c1.abs e σ) : Runs P (CallsD P) (.rounds b) c.abs e σ := round_on hX h hl hr
theorem rounds_end {P : Program} {X : Contracts} (hX : ConOK P X) {fuel : Nat} {b : Code} {path : List PE} {keep : List (List Nat)} {ren : List (Nat × Nat)} {c c1 : Cs} {σ : St} {e e0 : Ex} {l : List Prop}
    (h : roundX P X fuel b path keep ren c = some (e0, c1, l)) (hl : AllP l) (hn : e0 ≠ .normal) (he : e = e0 ∧ σ = c1.abs) : Runs P (CallsD P) (.rounds b) c.abs e σ := by
  obtain ⟨rfl, rfl⟩ := he; exact round_end hX h hl hn
end Go.Dam
