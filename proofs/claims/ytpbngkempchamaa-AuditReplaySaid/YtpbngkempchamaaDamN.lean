/- The engine, part N: an abstract machine for the program's functions, proved right against the model. No condition. -/
import Derived.Test.YtpbngkempchamaaDamM
set_option linter.unusedSectionVars false
set_option linter.unusedVariables false
set_option linter.unusedSimpArgs false
namespace Go.Dam
open Go Go.RowKit
set_option linter.unusedSectionVars false
variable [Glo]
set_option linter.unusedSimpArgs false
set_option linter.unusedVariables false

/-- The abstract value with own blocks told as shared content; and the blocks that it speaks of. -/
def share (bk : Nat → Option Blk) : Nat → D → Option (D × List Nat)
  | _, .v x => some (.v x, [])
  | _, .emp => some (.emp, [])
  | _, .sh n cs => some (.sh n cs, [])
  | _, .rc cs => some (.rc cs, [])
  | k + 1, .sl id off n sz => match bk id with
    | none => none
    | some b => if off + n * sz ≤ b.cells.length then
        match shareAll (share bk k) ((b.cells.drop off).take (n * sz)) with
        | none => none
        | some (cs, ids) => some (.sh n cs, id :: ids)
      else none
  | k + 1, .agg cs => match shareAll (share bk k) cs with
    | none => none
    | some (ds, ids) => some (.agg ds, ids)
  | _, .fn f [] => some (.fn f [], [])
  | _, _ => none
where
  shareAll (g : D → Option (D × List Nat)) : List D → Option (List D × List Nat)
  | [] => some ([], [])
  | d :: ds => match g d, shareAll g ds with
    | some (e, i), some (es, is) => some (e :: es, i ++ is)
    | _, _ => none

abbrev shareAll := share.shareAll

section
variable {P : Program} {w : World} {A : Nat → Prop} {β : Env} {base : Nat} {σ : St} {tmps : Array Value} {acts : List (Array Value)}

theorem shareAll_spec {A' : Nat → Prop} {g : D → Option (D × List Nat)} {ok : Nat → Prop} (hg : ∀ d e ids u, g d = some (e, ids) → (∀ i ∈ ids, ok i) → Rep w A β d u → RepS w A' e u) :
    ∀ (ds es : List D) (ids : List Nat) (vs : List Value), shareAll g ds = some (es, ids) → (∀ i ∈ ids, ok i) → RepLs w A β ds vs → RepL w A' es vs
  | [], es, ids, vs, h, _, hr => by
    simp [share.shareAll] at h; obtain ⟨rfl, rfl⟩ := h
    simp [RepLs] at hr; simp [RepL, hr]
  | d :: ds, es, ids, vs, h, hk, hr => by
    simp only [share.shareAll] at h
    split at h
    next e i es' is' h1 h2 =>
      simp at h; obtain ⟨rfl, rfl⟩ := h
      simp only [RepLs] at hr
      obtain ⟨x, xs, rfl, r1, r2⟩ := hr
      simp only [RepL]
      exact ⟨x, xs, rfl, hg d e i x h1 (fun j hj => hk j (by simp [hj])) r1, shareAll_spec hg ds es' is' xs h2 (fun j hj => hk j (by simp [hj])) r2⟩
    · cases h

theorem shareAll_at {A' : Nat → Prop} {g : D → Option (D × List Nat)} {ok : Nat → Prop} (hg : ∀ d e ids u, g d = some (e, ids) → (∀ i ∈ ids, ok i) → Rep w A β d u → RepS w A' e u) :
    ∀ (ds es : List D) (ids : List Nat) (ad : Addr), shareAll g ds = some (es, ids) → (∀ i ∈ ids, ok i) → CellsAt w A β ds ad → RepAt w A' es ad
  | [], es, ids, ad, h, _, hr => by simp [share.shareAll] at h; obtain ⟨rfl, rfl⟩ := h; simp [RepAt]
  | d :: ds, es, ids, ad, h, hk, hr => by
    simp only [share.shareAll] at h
    split at h
    next e i es' is' h1 h2 =>
      simp at h; obtain ⟨rfl, rfl⟩ := h
      obtain ⟨⟨u, r1, r2⟩, r3⟩ := hr
      simp only [RepAt]
      exact ⟨⟨u, r1, hg d e i u h1 (fun j hj => hk j (by simp [hj])) r2⟩, shareAll_at hg ds es' is' _ h2 (fun j hj => hk j (by simp [hj])) r3⟩
    · cases h

theorem shareAll_length {g : D → Option (D × List Nat)} : ∀ (ds es : List D) (ids : List Nat), shareAll g ds = some (es, ids) → es.length = ds.length
  | [], es, ids, h => by simp [share.shareAll] at h; simp [h.1.symm]
  | d :: ds, es, ids, h => by
    simp only [share.shareAll] at h
    split at h
    next e i es' is' h1 h2 =>
      simp at h; obtain ⟨rfl, rfl⟩ := h
      simp [shareAll_length ds es' is' h2]
    · cases h

/-- A block that may be read by all. -/
def Sees (σ : St) (β : Env) (A' : Nat → Prop) (id : Nat) : Prop := ∀ b ad, σ.bk id = some b → β id = some ad → A' ad.block

theorem share_spec (hrel : Rel w A β base σ tmps acts) {A' : Nat → Prop} (hA : ∀ k, A k → A' k) : ∀ (n : Nat) (d e : D) (ids : List Nat) (u : Value), share σ.bk n d = some (e, ids) → (∀ i ∈ ids, Sees σ β A' i) → Rep w A β d u → RepS w A' e u := by
  intro n
  induction n with
  | zero =>
    intro d e ids u h hk hr
    cases d with
    | v x => simp only [share, Option.some.injEq, Prod.mk.injEq] at h; obtain ⟨rfl, rfl⟩ := h; simp only [Rep] at hr; exact RepS.mono (fun _ _ => rfl) hA _ _ hr
    | emp => simp only [share, Option.some.injEq, Prod.mk.injEq] at h; obtain ⟨rfl, rfl⟩ := h; simp only [Rep] at hr; exact RepS.mono (fun _ _ => rfl) hA _ _ hr
    | rc cs => simp only [share, Option.some.injEq, Prod.mk.injEq] at h; obtain ⟨rfl, rfl⟩ := h; simp only [Rep] at hr; exact RepS.mono (fun _ _ => rfl) hA _ _ hr
    | sh m cs => simp only [share, Option.some.injEq, Prod.mk.injEq] at h; obtain ⟨rfl, rfl⟩ := h; simp only [Rep] at hr; exact RepS.mono (fun _ _ => rfl) hA _ _ hr
    | fn f cs =>
      cases cs with
      | nil => simp only [share, Option.some.injEq, Prod.mk.injEq] at h; obtain ⟨rfl, rfl⟩ := h; simp only [Rep, RepLs] at hr; obtain ⟨vs, rfl, rfl⟩ := hr; simp only [RepS, RepL]; exact ⟨[], rfl, rfl⟩
      | cons _ _ => simp [share] at h
    | _ => simp [share] at h
  | succ n ih =>
    intro d e ids u h hk hr
    cases d with
    | v x => simp only [share, Option.some.injEq, Prod.mk.injEq] at h; obtain ⟨rfl, rfl⟩ := h; simp only [Rep] at hr; exact RepS.mono (fun _ _ => rfl) hA _ _ hr
    | emp => simp only [share, Option.some.injEq, Prod.mk.injEq] at h; obtain ⟨rfl, rfl⟩ := h; simp only [Rep] at hr; exact RepS.mono (fun _ _ => rfl) hA _ _ hr
    | rc cs => simp only [share, Option.some.injEq, Prod.mk.injEq] at h; obtain ⟨rfl, rfl⟩ := h; simp only [Rep] at hr; exact RepS.mono (fun _ _ => rfl) hA _ _ hr
    | sh m cs => simp only [share, Option.some.injEq, Prod.mk.injEq] at h; obtain ⟨rfl, rfl⟩ := h; simp only [Rep] at hr; exact RepS.mono (fun _ _ => rfl) hA _ _ hr
    | fn f cs =>
      cases cs with
      | nil => simp only [share, Option.some.injEq, Prod.mk.injEq] at h; obtain ⟨rfl, rfl⟩ := h; simp only [Rep, RepLs] at hr; obtain ⟨vs, rfl, rfl⟩ := hr; simp only [RepS, RepL]; exact ⟨[], rfl, rfl⟩
      | cons _ _ => simp [share] at h
    | agg cs =>
      simp only [share] at h
      split at h
      · cases h
      next ds is h1 =>
        simp at h; obtain ⟨rfl, rfl⟩ := h
        simp only [Rep] at hr
        obtain ⟨vs, rfl, hr⟩ := hr
        simp only [RepS]
        exact ⟨vs, rfl, shareAll_spec (fun d e ids u h1 h2 h3 => ih d e ids u h1 h2 h3) cs ds is vs h1 hk hr⟩
    | sl id off m sz =>
      simp only [share] at h
      split at h
      · cases h
      next b hb =>
        split at h
        next hl =>
          split at h
          · cases h
          next cs is h1 =>
            simp at h; obtain ⟨rfl, rfl⟩ := h
            simp only [Rep] at hr
            obtain ⟨o, c, rfl, hr⟩ := hr
            have hcl := shareAll_length _ _ _ h1
            simp only [RepS]
            rcases hr with ⟨hm0, rfl⟩ | ⟨hmr, ad, hβ, rfl, hroom⟩
            · obtain rfl : m = 0 := by omega
              have : cs = [] := List.length_eq_zero_iff.1 (by rw [hcl]; simp)
              subst this
              exact ⟨o, 0, rfl, Nat.le_refl _, by simp, by simp [RepAt]⟩
            · refine ⟨_, c, rfl, by omega, fun _ => ⟨plusOff ad off, rfl, rfl, hk id (by simp) b ad hb hβ⟩, ?_⟩
              rcases hrel.blk id b hb with ⟨h2, _⟩ | ⟨ad', h2, h3⟩
              · rw [hβ] at h2; cases h2
              · rw [hβ] at h2; cases h2
                exact shareAll_at (fun d e ids u h1 h2 h3 => ih d e ids u h1 h2 h3) _ _ _ _ h1 (fun i hi => hk i (by simp [hi])) ((h3.cells.drop h3.spot off).take rfl _)
        · cases h
    | _ => simp [share] at h

end

mutual
/-- A result: shared parts, and fresh own slices ('bl': their places, in order). -/
def RepO (w : World) (A : Nat → Prop) : D → Value → List (Option Addr) → Prop
  | .ow n sz cs, u, bl => ∃ o c, u = .slice o n c ∧ ((n = 0 ∧ c = 0 ∧ cs = [] ∧ bl = [none]) ∨
      (n ≤ c ∧ ∃ ad, o = some ad ∧ ad.spot = none ∧ bl = [some ad] ∧ (∃ cc T, w.heap[ad.block]? = some (.cells cc T (0, 0)) ∧ ad.off + c * sz ≤ cc.size ∧ ad.off ≤ cc.size) ∧ RepAt w A cs ad))
  | .oc cs, u, bl => ∃ o c, u = .slice o (rowLen0 cs) c ∧ ((rowLen0 cs = 0 ∧ c = 0 ∧ rowCells0 cs = [] ∧ bl = [none]) ∨
      (rowLen0 cs ≤ c ∧ ∃ ad, o = some ad ∧ ad.spot = none ∧ bl = [some ad] ∧ (∃ cc T, w.heap[ad.block]? = some (.cells cc T (0, 0)) ∧ ad.off + c * cs.length ≤ cc.size ∧ ad.off ≤ cc.size) ∧ RepAt w A (rowCells0 cs) ad))
  | .agg cs, u, bl => ∃ vs : List Value, u = .agg vs.toArray ∧ RepOs w A cs vs bl
  | .tup cs, u, bl => ∃ vs : List Value, u = .tuple vs.toArray ∧ RepOs w A cs vs bl
  | d, u, bl => RepS w A d u ∧ bl = []
def RepOs (w : World) (A : Nat → Prop) : List D → List Value → List (Option Addr) → Prop
  | [], vs, bl => vs = [] ∧ bl = []
  | d :: ds, vs, bl => ∃ x xs b1 b2, vs = x :: xs ∧ bl = b1 ++ b2 ∧ RepO w A d x b1 ∧ RepOs w A ds xs b2
end

structure Fresh (w' : World) (A' : Nat → Prop) (B : Nat) (bl : List (Option Addr)) : Prop where
  each : ∀ ad, some ad ∈ bl → B ≤ ad.block ∧ ad.block < w'.heap.size ∧ ¬ A' ad.block
  apart : bl.Pairwise fun x y => ∀ a b, x = some a → y = some b → a.block ≠ b.block

/-- WHAT A FUNCTION DOES: called with values that read so, it returns what reads so, in new memory or in what it was given; nothing that was there turns. -/
def CallsD (P : Program) (f : FuncId) (args : List D) (res : D) : Prop :=
  ∀ (w : World) (A : Nat → Prop) (vs : List Value), RepL w A args vs → (∀ k, A k → k < w.heap.size) → GloOK w A →
    Calls P f vs.toArray w fun e w' => ∃ v A' bl, e = .returned v ∧ RepO w' A' res v bl ∧ Fresh w' A' w.heap.size bl ∧ (∀ k, A k → A' k) ∧ (∀ k, A' k → k < w'.heap.size) ∧ (∀ k, A' k → k < w.heap.size → A k) ∧ Below w.heap.size w w'

mutual
/-- A result by which no memory that was there is shared: plain cells alone. -/
def flat : D → Bool
  | .v _ => true
  | .sh n cs => n == 0 && cs.isEmpty
  | .ow _ _ cs => flatL cs
  | .oc _ => true
  | .agg cs => flatL cs
  | .tup cs => flatL cs
  | _ => false
def flatL : List D → Bool
  | [] => true
  | d :: ds => flat d && flatL ds
end

mutual
theorem flat_any {w : World} {A A' : Nat → Prop} : ∀ (d : D) (u : Value), flat d = true → RepS w A d u → RepS w A' d u
  | .v _, _, _, h => by simpa [RepS] using h
  | .sh n cs, u, hf, h => by
    simp [flat] at hf
    obtain ⟨rfl, rfl⟩ := hf
    simp only [RepS] at h ⊢
    obtain ⟨o, c, rfl, h1, _, _⟩ := h
    exact ⟨o, c, rfl, h1, by simp, by simp [RepAt]⟩
  | .ow _ _ _, _, _, h => by simp [RepS] at h
  | .oc _, _, _, h => by simp [RepS] at h
  | .rc _, _, hf, _ => by simp [flat] at hf
  | .pel _ _ _ _, _, hf, _ => by simp [flat] at hf
  | .agg cs, u, hf, h => by
    simp only [RepS] at h ⊢; simp only [flat] at hf
    obtain ⟨vs, rfl, h⟩ := h
    exact ⟨vs, rfl, flatL_any cs vs hf h⟩
  | .tup cs, u, hf, h => by
    simp only [RepS] at h ⊢; simp only [flat] at hf
    obtain ⟨vs, rfl, h⟩ := h
    exact ⟨vs, rfl, flatL_any cs vs hf h⟩
  | .undef, _, hf, _ => by simp [flat] at hf
  | .sl _ _ _ _, _, hf, _ => by simp [flat] at hf
  | .ptr _ _, _, hf, _ => by simp [flat] at hf
  | .shp _ _, _, hf, _ => by simp [flat] at hf
  | .fn _ _, _, hf, _ => by simp [flat] at hf
theorem flatL_any {w : World} {A A' : Nat → Prop} : ∀ (ds : List D) (vs : List Value), flatL ds = true → RepL w A ds vs → RepL w A' ds vs
  | [], _, _, h => by simpa [RepL] using h
  | d :: ds, vs, hf, h => by
    simp only [flatL, Bool.and_eq_true] at hf
    simp only [RepL] at h ⊢
    obtain ⟨x, xs, rfl, h1, h2⟩ := h
    exact ⟨x, xs, rfl, flat_any d x hf.1 h1, flatL_any ds xs hf.2 h2⟩
end

theorem flatL_at {w : World} {A A' : Nat → Prop} : ∀ (ds : List D) (ad : Addr), flatL ds = true → RepAt w A ds ad → RepAt w A' ds ad
  | [], _, _, _ => by simp [RepAt]
  | d :: ds, ad, hf, h => by
    simp only [flatL, Bool.and_eq_true] at hf
    simp only [RepAt] at h ⊢
    obtain ⟨⟨u, h1, h2⟩, h3⟩ := h
    exact ⟨⟨u, h1, flat_any d u hf.1 h2⟩, flatL_at ds _ hf.2 h3⟩

theorem flatL_app : ∀ (xs ys : List D), flatL (xs ++ ys) = (flatL xs && flatL ys)
  | [], ys => by simp [flatL]
  | x :: xs, ys => by simp [flatL, flatL_app xs ys, Bool.and_assoc]
theorem flat_cells0 (i : Nat) : ∀ cs : List Col0, flatL ((cs.map Col0.up).map (Col.cell i)) = true
  | [] => rfl
  | c :: cs => by simp only [List.map_cons, flatL, flat_cells0 i cs, Bool.and_true]; cases c <;> rfl
theorem flat_rowCells (cs : List Col0) : flatL (rowCells0 cs) = true := by
  unfold rowCells0 rowCells
  generalize rowLen _ = n
  induction n with
  | zero => simp [flatL]
  | succ n ih => rw [List.range_succ, List.flatMap_append, flatL_app, ih]; simp only [List.flatMap_cons, List.flatMap_nil, List.append_nil, flat_cells0, Bool.and_self]

mutual
theorem flatO_any {w : World} {A A' : Nat → Prop} : ∀ (d : D) (u : Value) (bl : List (Option Addr)), flat d = true → RepO w A d u bl → RepO w A' d u bl
  | .ow n sz cs, u, bl, hf, h => by
    simp only [flat] at hf
    simp only [RepO] at h ⊢
    obtain ⟨o, c, rfl, h⟩ := h
    refine ⟨o, c, rfl, h.imp id ?_⟩
    rintro ⟨h1, ad, h2, h3, h4, h5, h6⟩
    exact ⟨h1, ad, h2, h3, h4, h5, flatL_at cs ad hf h6⟩
  | .oc cs, u, bl, hf, h => by
    simp only [RepO] at h ⊢
    obtain ⟨o, c, rfl, h⟩ := h
    refine ⟨o, c, rfl, h.imp id ?_⟩
    rintro ⟨h1, ad, h2, h3, h4, h5, h6⟩
    exact ⟨h1, ad, h2, h3, h4, h5, flatL_at _ ad (flat_rowCells cs) h6⟩
  | .rc _, _, _, hf, _ => by simp [flat] at hf
  | .pel _ _ _ _, _, _, hf, _ => by simp [flat] at hf
  | .agg cs, u, bl, hf, h => by
    simp only [flat] at hf
    simp only [RepO] at h ⊢
    obtain ⟨vs, rfl, h⟩ := h
    exact ⟨vs, rfl, flatOs_any cs vs bl hf h⟩
  | .tup cs, u, bl, hf, h => by
    simp only [flat] at hf
    simp only [RepO] at h ⊢
    obtain ⟨vs, rfl, h⟩ := h
    exact ⟨vs, rfl, flatOs_any cs vs bl hf h⟩
  | .v x, u, bl, hf, h => by simp only [RepO] at h ⊢; exact ⟨flat_any _ _ hf h.1, h.2⟩
  | .sh n cs, u, bl, hf, h => by simp only [RepO] at h ⊢; exact ⟨flat_any _ _ hf h.1, h.2⟩
  | .undef, _, _, hf, _ => by simp [flat] at hf
  | .sl _ _ _ _, _, _, hf, _ => by simp [flat] at hf
  | .ptr _ _, _, _, hf, _ => by simp [flat] at hf
  | .shp _ _, _, _, hf, _ => by simp [flat] at hf
  | .fn _ _, _, _, hf, _ => by simp [flat] at hf
theorem flatOs_any {w : World} {A A' : Nat → Prop} : ∀ (ds : List D) (vs : List Value) (bl : List (Option Addr)), flatL ds = true → RepOs w A ds vs bl → RepOs w A' ds vs bl
  | [], _, _, _, h => by simpa [RepOs] using h
  | d :: ds, vs, bl, hf, h => by
    simp only [flatL, Bool.and_eq_true] at hf
    simp only [RepOs] at h ⊢
    obtain ⟨x, xs, b1, b2, rfl, rfl, h1, h2⟩ := h
    exact ⟨x, xs, b1, b2, rfl, rfl, flatO_any d x b1 hf.1 h1, flatOs_any ds xs b2 hf.2 h2⟩
end

end Go.Dam
