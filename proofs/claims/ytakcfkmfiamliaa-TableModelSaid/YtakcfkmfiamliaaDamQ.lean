/- The engine: an abstract machine for the program's functions, proved right against the model. No condition. -/
import Derived.Test.YtakcfkmfiamliaaDamM
set_option linter.unusedSectionVars false
set_option linter.unusedVariables false
set_option linter.unusedSimpArgs false
section
namespace Go.Dam
open Go Go.RowKit
variable [Glo]
/-- The abstract value with own blocks told as shared content; and the blocks that it speaks of. -/
def share (bk : Nat → Option Blk) : Nat → D → Option (D × List Nat)
 | _, .v x => some (.v x, [])
 | _, .emp => some (.emp, [])
 | _, .sh n cs => some (.sh n cs, [])
 | _, .rc cs => some (.rc cs, [])
 | k + 1, .sl id off n sz => match bk id with
  | none => none
  | some b => if off + n * sz ≤ b.cells.length then
    match shareAll (share bk k) ((b.cells.drop off).take (n * sz)) with
    | none => none
    | some (cs, ids) => some (.sh n cs, id :: ids)
   else none
 | k + 1, .agg cs => match shareAll (share bk k) cs with
  | none => none
  | some (ds, ids) => some (.agg ds, ids)
 | _, .fn f [] => some (.fn f [], [])
 | _, _ => none
where
 shareAll (g : D → Option (D × List Nat)) : List D → Option (List D × List Nat)
 | [] => some ([], [])
 | d :: ds => match g d, shareAll g ds with
  | some (e, i), some (es, is) => some (e :: es, i ++ is)
  | _, _ => none
abbrev shareAll := share.shareAll
section
variable {P : Program} {w : World} {A : Nat → Prop} {β : Env} {base : Nat} {σ : St} {tmps : Array Value} {acts : List (Array Value)}
theorem shareAll_spec {A' : Nat → Prop} {g : D → Option (D × List Nat)} {ok : Nat → Prop} (hg : ∀ d e ids u, g d = some (e, ids) → (∀ i ∈ ids, ok i) → Rep w A β d u → RepS w A' e u) :
  ∀ (ds es : List D) (ids : List Nat) (vs : List Value), shareAll g ds = some (es, ids) → (∀ i ∈ ids, ok i) → RepLs w A β ds vs → RepL w A' es vs
 | [], es, ids, vs, h, _, hr => by
  simp [share.shareAll] at h; obtain ⟨rfl, rfl⟩ := h
  simp [RepLs] at hr; simp [RepL, hr]
 | d :: ds, es, ids, vs, h, hk, hr => by
  simp only [share.shareAll] at h
  split at h
  next e i es' is' h1 h2 =>
   simp at h; obtain ⟨rfl, rfl⟩ := h
   simp only [RepLs] at hr
   obtain ⟨x, xs, rfl, r1, r2⟩ := hr
   simp only [RepL]
   exact ⟨x, xs, rfl, hg d e i x h1 (fun j hj => hk j (by simp [hj])) r1, shareAll_spec hg ds es' is' xs h2 (fun j hj => hk j (by simp [hj])) r2⟩
  ·cases h
theorem shareAll_at {A' : Nat → Prop} {g : D → Option (D × List Nat)} {ok : Nat → Prop} (hg : ∀ d e ids u, g d = some (e, ids) → (∀ i ∈ ids, ok i) → Rep w A β d u → RepS w A' e u) :
  ∀ (ds es : List D) (ids : List Nat) (ad : Addr), shareAll g ds = some (es, ids) → (∀ i ∈ ids, ok i) → CellsAt w A β ds ad → RepAt w A' es ad
 | [], es, ids, ad, h, _, hr => by simp [share.shareAll] at h; obtain ⟨rfl, rfl⟩ := h; simp [RepAt]
 | d :: ds, es, ids, ad, h, hk, hr => by
  simp only [share.shareAll] at h
  split at h
  next e i es' is' h1 h2 =>
   simp at h; obtain ⟨rfl, rfl⟩ := h
   obtain ⟨⟨u, r1, r2⟩, r3⟩ := hr
   simp only [RepAt]
   exact ⟨⟨u, r1, hg d e i u h1 (fun j hj => hk j (by simp [hj])) r2⟩, shareAll_at hg ds es' is' _ h2 (fun j hj => hk j (by simp [hj])) r3⟩
  ·cases h
theorem shareAll_length {g : D → Option (D × List Nat)} : ∀ (ds es : List D) (ids : List Nat), shareAll g ds = some (es, ids) → es.length = ds.length
 | [], es, ids, h => by simp [share.shareAll] at h; simp [h.1.symm]
 | d :: ds, es, ids, h => by
  simp only [share.shareAll] at h
  split at h
  next e i es' is' h1 h2 =>
   simp at h; obtain ⟨rfl, rfl⟩ := h
   simp [shareAll_length ds es' is' h2]
  ·cases h
/-- A block that may be read by all. -/
def Sees (σ : St) (β : Env) (A' : Nat → Prop) (id : Nat) : Prop := ∀ b ad, σ.bk id = some b → β id = some ad → A' ad.block
theorem share_spec (hrel : Rel w A β base σ tmps acts) {A' : Nat → Prop} (hA : ∀ k, A k → A' k) : ∀ (n : Nat) (d e : D) (ids : List Nat) (u : Value), share σ.bk n d = some (e, ids) → (∀ i ∈ ids, Sees σ β A' i) → Rep w A β d u → RepS w A' e u := by
 intro n
 induction n with
 | zero =>
  intro d e ids u h hk hr
  cases d with
  | v x => simp only [share, Option.some.injEq, Prod.mk.injEq] at h; obtain ⟨rfl, rfl⟩ := h; simp only [Rep] at hr; exact RepS.mono (fun _ _ => rfl) hA _ _ hr
  | emp => simp only [share, Option.some.injEq, Prod.mk.injEq] at h; obtain ⟨rfl, rfl⟩ := h; simp only [Rep] at hr; exact RepS.mono (fun _ _ => rfl) hA _ _ hr
  | rc cs => simp only [share, Option.some.injEq, Prod.mk.injEq] at h; obtain ⟨rfl, rfl⟩ := h; simp only [Rep] at hr; exact RepS.mono (fun _ _ => rfl) hA _ _ hr
  | sh m cs => simp only [share, Option.some.injEq, Prod.mk.injEq] at h; obtain ⟨rfl, rfl⟩ := h; simp only [Rep] at hr; exact RepS.mono (fun _ _ => rfl) hA _ _ hr
  | fn f cs =>
   cases cs with
   | nil => simp only [share, Option.some.injEq, Prod.mk.injEq] at h; obtain ⟨rfl, rfl⟩ := h; simp only [Rep, RepLs] at hr; obtain ⟨vs, rfl, rfl⟩ := hr; simp only [RepS, RepL]; exact ⟨[], rfl, rfl⟩
   | cons _ _ => simp [share] at h
  | _ => simp [share] at h
 | succ n ih =>
  intro d e ids u h hk hr
  cases d with
  | v x => simp only [share, Option.some.injEq, Prod.mk.injEq] at h; obtain ⟨rfl, rfl⟩ := h; simp only [Rep] at hr; exact RepS.mono (fun _ _ => rfl) hA _ _ hr
  | emp => simp only [share, Option.some.injEq, Prod.mk.injEq] at h; obtain ⟨rfl, rfl⟩ := h; simp only [Rep] at hr; exact RepS.mono (fun _ _ => rfl) hA _ _ hr
  | rc cs => simp only [share, Option.some.injEq, Prod.mk.injEq] at h; obtain ⟨rfl, rfl⟩ := h; simp only [Rep] at hr; exact RepS.mono (fun _ _ => rfl) hA _ _ hr
  | sh m cs => simp only [share, Option.some.injEq, Prod.mk.injEq] at h; obtain ⟨rfl, rfl⟩ := h; simp only [Rep] at hr; exact RepS.mono (fun _ _ => rfl) hA _ _ hr
  | fn f cs =>
   cases cs with
   | nil => simp only [share, Option.some.injEq, Prod.mk.injEq] at h; obtain ⟨rfl, rfl⟩ := h; simp only [Rep, RepLs] at hr; obtain ⟨vs, rfl, rfl⟩ := hr; simp only [RepS, RepL]; exact ⟨[], rfl, rfl⟩
   | cons _ _ => simp [share] at h
  | agg cs =>
   simp only [share] at h
   split at h
   ·cases h
   next ds is h1 =>
    simp at h; obtain ⟨rfl, rfl⟩ := h
    simp only [Rep] at hr
    obtain ⟨vs, rfl, hr⟩ := hr
    simp only [RepS]
    exact ⟨vs, rfl, shareAll_spec (fun d e ids u h1 h2 h3 => ih d e ids u h1 h2 h3) cs ds is vs h1 hk hr⟩
  | sl id off m sz =>
   simp only [share] at h
   split at h
   ·cases h
   next b hb =>
    split at h
    next hl =>
     split at h
     ·cases h
     next cs is h1 =>
      simp at h; obtain ⟨rfl, rfl⟩ := h
      simp only [Rep] at hr
      obtain ⟨o, c, rfl, hr⟩ := hr
      have hcl := shareAll_length _ _ _ h1
      simp only [RepS]
      rcases hr with ⟨hm0, rfl⟩ | ⟨hmr, ad, hβ, rfl, hroom⟩
      ·obtain rfl : m = 0 := by omega
       have : cs = [] := List.length_eq_zero_iff.1 (by rw [hcl]; simp)
       subst this
       exact ⟨o, 0, rfl, Nat.le_refl _, by simp, by simp [RepAt]⟩
      ·refine ⟨_, c, rfl, by omega, fun _ => ⟨plusOff ad off, rfl, rfl, hk id (by simp) b ad hb hβ⟩, ?_⟩
       rcases hrel.blk id b hb with ⟨h2, _⟩ | ⟨ad', h2, h3⟩
       ·rw [hβ] at h2; cases h2
       ·rw [hβ] at h2; cases h2
        exact shareAll_at (fun d e ids u h1 h2 h3 => ih d e ids u h1 h2 h3) _ _ _ _ h1 (fun i hi => hk i (by simp [hi])) ((h3.cells.drop h3.spot off).take rfl _)
    ·cases h
  | _ => simp [share] at h
end
mutual
/-- A result: shared parts, and fresh own slices ('bl': their places, in order). -/
def RepO (w : World) (A : Nat → Prop) : D → Value → List (Option Addr) → Prop
 | .ow n sz cs, u, bl => ∃ o c, u = .slice o n c ∧ ((n = 0 ∧ c = 0 ∧ cs = [] ∧ bl = [none]) ∨
   (n ≤ c ∧ ∃ ad, o = some ad ∧ ad.spot = none ∧ bl = [some ad] ∧ (∃ cc T, w.heap[ad.block]? = some (.cells cc T (0, 0)) ∧ ad.off + c * sz ≤ cc.size ∧ ad.off ≤ cc.size) ∧ RepAt w A cs ad))
 | .oc cs, u, bl => ∃ o c, u = .slice o (rowLen0 cs) c ∧ ((rowLen0 cs = 0 ∧ c = 0 ∧ rowCells0 cs = [] ∧ bl = [none]) ∨
   (rowLen0 cs ≤ c ∧ ∃ ad, o = some ad ∧ ad.spot = none ∧ bl = [some ad] ∧ (∃ cc T, w.heap[ad.block]? = some (.cells cc T (0, 0)) ∧ ad.off + c * cs.length ≤ cc.size ∧ ad.off ≤ cc.size) ∧ RepAt w A (rowCells0 cs) ad))
 | .agg cs, u, bl => ∃ vs : List Value, u = .agg vs.toArray ∧ RepOs w A cs vs bl
 | .tup cs, u, bl => ∃ vs : List Value, u = .tuple vs.toArray ∧ RepOs w A cs vs bl
 | d, u, bl => RepS w A d u ∧ bl = []
def RepOs (w : World) (A : Nat → Prop) : List D → List Value → List (Option Addr) → Prop
 | [], vs, bl => vs = [] ∧ bl = []
 | d :: ds, vs, bl => ∃ x xs b1 b2, vs = x :: xs ∧ bl = b1 ++ b2 ∧ RepO w A d x b1 ∧ RepOs w A ds xs b2
end
structure Fresh (w' : World) (A' : Nat → Prop) (B : Nat) (bl : List (Option Addr)) : Prop where
 each : ∀ ad, some ad ∈ bl → B ≤ ad.block ∧ ad.block < w'.heap.size ∧ ¬ A' ad.block
 apart : bl.Pairwise fun x y => ∀ a b, x = some a → y = some b → a.block ≠ b.block
/-- WHAT A FUNCTION DOES: called with values that read so, it returns what reads so, in new memory or in what it was given; nothing that was there turns. -/
def CallsD (P : Program) (f : FuncId) (args : List D) (res : D) : Prop :=
 ∀ (w : World) (A : Nat → Prop) (vs : List Value), RepL w A args vs → (∀ k, A k → k < w.heap.size) → GloOK w A →
  Calls P f vs.toArray w fun e w' => ∃ v A' bl, e = .returned v ∧ RepO w' A' res v bl ∧ Fresh w' A' w.heap.size bl ∧ (∀ k, A k → A' k) ∧ (∀ k, A' k → k < w'.heap.size) ∧ (∀ k, A' k → k < w.heap.size → A k) ∧ Below w.heap.size w w'
mutual
/-- A result by which no memory that was there is shared: plain cells alone. -/
def flat : D → Bool
 | .v _ => true
 | .sh n cs => n == 0 && cs.isEmpty
 | .ow _ _ cs => flatL cs
 | .oc _ => true
 | .agg cs => flatL cs
 | .tup cs => flatL cs
 | _ => false
def flatL : List D → Bool
 | [] => true
 | d :: ds => flat d && flatL ds
end
mutual
theorem flat_any {w : World} {A A' : Nat → Prop} : ∀ (d : D) (u : Value), flat d = true → RepS w A d u → RepS w A' d u
 | .v _, _, _, h => by simpa [RepS] using h
 | .sh n cs, u, hf, h => by
  simp [flat] at hf
  obtain ⟨rfl, rfl⟩ := hf
  simp only [RepS] at h ⊢
  obtain ⟨o, c, rfl, h1, _, _⟩ := h
  exact ⟨o, c, rfl, h1, by simp, by simp [RepAt]⟩
 | .ow _ _ _, _, _, h => by simp [RepS] at h
 | .oc _, _, _, h => by simp [RepS] at h
 | .rc _, _, hf, _ => by simp [flat] at hf
 | .pel _ _ _ _, _, hf, _ => by simp [flat] at hf
 | .agg cs, u, hf, h => by
  simp only [RepS] at h ⊢; simp only [flat] at hf
  obtain ⟨vs, rfl, h⟩ := h
  exact ⟨vs, rfl, flatL_any cs vs hf h⟩
 | .tup cs, u, hf, h => by
  simp only [RepS] at h ⊢; simp only [flat] at hf
  obtain ⟨vs, rfl, h⟩ := h
  exact ⟨vs, rfl, flatL_any cs vs hf h⟩
 | .undef, _, hf, _ => by simp [flat] at hf
 | .sl _ _ _ _, _, hf, _ => by simp [flat] at hf
 | .ptr _ _, _, hf, _ => by simp [flat] at hf
 | .shp _ _, _, hf, _ => by simp [flat] at hf
 | .fn _ _, _, hf, _ => by simp [flat] at hf
theorem flatL_any {w : World} {A A' : Nat → Prop} : ∀ (ds : List D) (vs : List Value), flatL ds = true → RepL w A ds vs → RepL w A' ds vs
 | [], _, _, h => by simpa [RepL] using h
 | d :: ds, vs, hf, h => by
  simp only [flatL, Bool.and_eq_true] at hf
  simp only [RepL] at h ⊢
  obtain ⟨x, xs, rfl, h1, h2⟩ := h
  exact ⟨x, xs, rfl, flat_any d x hf.1 h1, flatL_any ds xs hf.2 h2⟩
end
theorem flatL_at {w : World} {A A' : Nat → Prop} : ∀ (ds : List D) (ad : Addr), flatL ds = true → RepAt w A ds ad → RepAt w A' ds ad
 | [], _, _, _ => by simp [RepAt]
 | d :: ds, ad, hf, h => by
  simp only [flatL, Bool.and_eq_true] at hf
  simp only [RepAt] at h ⊢
  obtain ⟨⟨u, h1, h2⟩, h3⟩ := h
  exact ⟨⟨u, h1, flat_any d u hf.1 h2⟩, flatL_at ds _ hf.2 h3⟩
theorem flatL_app : ∀ (xs ys : List D), flatL (xs ++ ys) = (flatL xs && flatL ys)
 | [], ys => by simp [flatL]
 | x :: xs, ys => by simp [flatL, flatL_app xs ys, Bool.and_assoc]
theorem flat_cells0 (i : Nat) : ∀ cs : List Col0, flatL ((cs.map Col0.up).map (Col.cell i)) = true
 | [] => rfl
 | c :: cs => by simp only [List.map_cons, flatL, flat_cells0 i cs, Bool.and_true]; cases c <;> rfl
theorem flat_rowCells (cs : List Col0) : flatL (rowCells0 cs) = true := by
 unfold rowCells0 rowCells
 generalize rowLen _ = n
 induction n with
 | zero => simp [flatL]
 | succ n ih => rw [List.range_succ, List.flatMap_append, flatL_app, ih]; simp only [List.flatMap_cons, List.flatMap_nil, List.append_nil, flat_cells0, Bool.and_self]
mutual
theorem flatO_any {w : World} {A A' : Nat → Prop} : ∀ (d : D) (u : Value) (bl : List (Option Addr)), flat d = true → RepO w A d u bl → RepO w A' d u bl
 | .ow n sz cs, u, bl, hf, h => by
  simp only [flat] at hf
  simp only [RepO] at h ⊢
  obtain ⟨o, c, rfl, h⟩ := h
  refine ⟨o, c, rfl, h.imp id ?_⟩
  rintro ⟨h1, ad, h2, h3, h4, h5, h6⟩
  exact ⟨h1, ad, h2, h3, h4, h5, flatL_at cs ad hf h6⟩
 | .oc cs, u, bl, hf, h => by
  simp only [RepO] at h ⊢
  obtain ⟨o, c, rfl, h⟩ := h
  refine ⟨o, c, rfl, h.imp id ?_⟩
  rintro ⟨h1, ad, h2, h3, h4, h5, h6⟩
  exact ⟨h1, ad, h2, h3, h4, h5, flatL_at _ ad (flat_rowCells cs) h6⟩
 | .rc _, _, _, hf, _ => by simp [flat] at hf
 | .pel _ _ _ _, _, _, hf, _ => by simp [flat] at hf
 | .agg cs, u, bl, hf, h => by
  simp only [flat] at hf
  simp only [RepO] at h ⊢
  obtain ⟨vs, rfl, h⟩ := h
  exact ⟨vs, rfl, flatOs_any cs vs bl hf h⟩
 | .tup cs, u, bl, hf, h => by
  simp only [flat] at hf
  simp only [RepO] at h ⊢
  obtain ⟨vs, rfl, h⟩ := h
  exact ⟨vs, rfl, flatOs_any cs vs bl hf h⟩
 | .v x, u, bl, hf, h => by simp only [RepO] at h ⊢; exact ⟨flat_any _ _ hf h.1, h.2⟩
 | .sh n cs, u, bl, hf, h => by simp only [RepO] at h ⊢; exact ⟨flat_any _ _ hf h.1, h.2⟩
 | .undef, _, _, hf, _ => by simp [flat] at hf
 | .sl _ _ _ _, _, _, hf, _ => by simp [flat] at hf
 | .ptr _ _, _, _, hf, _ => by simp [flat] at hf
 | .shp _ _, _, _, hf, _ => by simp [flat] at hf
 | .fn _ _, _, _, hf, _ => by simp [flat] at hf
theorem flatOs_any {w : World} {A A' : Nat → Prop} : ∀ (ds : List D) (vs : List Value) (bl : List (Option Addr)), flatL ds = true → RepOs w A ds vs bl → RepOs w A' ds vs bl
 | [], _, _, _, h => by simpa [RepOs] using h
 | d :: ds, vs, bl, hf, h => by
  simp only [flatL, Bool.and_eq_true] at hf
  simp only [RepOs] at h ⊢
  obtain ⟨x, xs, b1, b2, rfl, rfl, h1, h2⟩ := h
  exact ⟨x, xs, b1, b2, rfl, rfl, flatO_any d x b1 hf.1 h1, flatOs_any ds xs b2 hf.2 h2⟩
end
end Go.Dam
end

section
namespace Go.Dam
open Go Go.RowKit
variable [Glo]
mutual
/-- Fresh slices become blocks, with names from 'id' on. -/
def thaw (id : Nat) : D → D × List (List D)
 | .ow n sz cs => (.sl id 0 n ⟨sz, 0⟩, [cs])
 | .oc cs => (.sl id 0 (rowLen0 cs) ⟨cs.length, 0⟩, [rowCells0 cs])
 | .agg cs => (.agg (thawL id cs).1, (thawL id cs).2)
 | .tup cs => (.tup (thawL id cs).1, (thawL id cs).2)
 | d => (d, [])
def thawL (id : Nat) : List D → List D × List (List D)
 | [] => ([], [])
 | d :: ds => ((thaw id d).1 :: (thawL (id + (thaw id d).2.length) ds).1, (thaw id d).2 ++ (thawL (id + (thaw id d).2.length) ds).2)
end
def putBlocks (σ : St) (id : Nat) : List (List D) → St
 | [] => σ
 | c :: cs => putBlocks ((σ.forget id).setB id ⟨c, false⟩) (id + 1) cs
def BlkOne (w : World) (A : Nat → Prop) (c : List D) (oa : Option Addr) : Prop :=
 (oa = none ∧ c = []) ∨ ∃ ad, oa = some ad ∧ ad.spot = none ∧ (∃ cc T, w.heap[ad.block]? = some (.cells cc T (0, 0)) ∧ ad.off ≤ cc.size) ∧ RepAt w A c ad
inductive Blks (w : World) (A : Nat → Prop) : List (List D) → List (Option Addr) → Prop
 | nil : Blks w A [] []
 | cons {c : List D} {oa : Option Addr} {cs : List (List D)} {bl : List (Option Addr)} : BlkOne w A c oa → Blks w A cs bl → Blks w A (c :: cs) (oa :: bl)
theorem Blks.append {w : World} {A : Nat → Prop} : ∀ {cs ds : List (List D)} {bl bm : List (Option Addr)}, Blks w A cs bl → Blks w A ds bm → Blks w A (cs ++ ds) (bl ++ bm)
 | _, _, _, _, .nil, k => k
 | _, _, _, _, .cons h t, k => .cons h (t.append k)
theorem Blks.length {w : World} {A : Nat → Prop} : ∀ {cs : List (List D)} {bl : List (Option Addr)}, Blks w A cs bl → cs.length = bl.length
 | _, _, .nil => rfl
 | _, _, .cons _ t => by simp [t.length]
mutual
theorem thaw_spec {w : World} {A : Nat → Prop} : ∀ (d : D) (u : Value) (bl : List (Option Addr)) (id : Nat), RepO w A d u bl → Blks w A (thaw id d).2 bl ∧ ∀ β' : Env, (∀ k oa, bl[k]? = some oa → β' (id + k) = oa) → Rep w A β' (thaw id d).1 u
 | .ow n sz cs, u, bl, id, h => by
  simp only [RepO] at h
  obtain ⟨o, c, rfl, h⟩ := h
  simp only [thaw]
  rcases h with ⟨rfl, rfl, rfl, rfl⟩ | ⟨h1, ad, rfl, h3, rfl, ⟨cc, T, h4, h5, h6⟩, h7⟩
  ·exact ⟨.cons (.inl ⟨rfl, rfl⟩) .nil, fun β' _ => by simp only [Rep]; exact ⟨o, 0, rfl, .inl (by simp)⟩⟩
  ·refine ⟨.cons (.inr ⟨ad, rfl, h3, ⟨cc, T, h4, h6⟩, h7⟩) .nil, fun β' hβ => ?_⟩
   have := hβ 0 (some ad) (by simp)
   simp only [Rep]
   exact ⟨_, c, rfl, .inr ⟨by simpa using h1, ad, by simpa using this, by cases ad; simp at h3; simp [plusOff, h3], ⟨cc, T, (0, 0), h4, by simpa using h5⟩⟩⟩
 | .oc cs, u, bl, id, h => by
  simp only [RepO] at h
  obtain ⟨o, c, rfl, h⟩ := h
  simp only [thaw]
  rcases h with ⟨h1, rfl, h2, rfl⟩ | ⟨h1, ad, rfl, h3, rfl, ⟨cc, T, h4, h5, h6⟩, h7⟩
  ·exact ⟨.cons (.inl ⟨rfl, h2⟩) .nil, fun β' _ => by simp only [Rep]; exact ⟨o, 0, rfl, .inl (by simp [h1])⟩⟩
  ·refine ⟨.cons (.inr ⟨ad, rfl, h3, ⟨cc, T, h4, h6⟩, h7⟩) .nil, fun β' hβ => ?_⟩
   have := hβ 0 (some ad) (by simp)
   simp only [Rep]
   exact ⟨_, c, rfl, .inr ⟨by simpa using h1, ad, by simpa using this, by cases ad; simp at h3; simp [plusOff, h3], ⟨cc, T, (0, 0), h4, by simpa using h5⟩⟩⟩
 | .agg cs, u, bl, id, h => by
  simp only [RepO] at h
  obtain ⟨vs, rfl, h⟩ := h
  have := thawL_spec cs vs bl id h
  simp only [thaw]
  exact ⟨this.1, fun β' hβ => by simp only [Rep]; exact ⟨vs, rfl, this.2 β' hβ⟩⟩
 | .tup cs, u, bl, id, h => by
  simp only [RepO] at h
  obtain ⟨vs, rfl, h⟩ := h
  have := thawL_spec cs vs bl id h
  simp only [thaw]
  exact ⟨this.1, fun β' hβ => by simp only [Rep]; exact ⟨vs, rfl, this.2 β' hβ⟩⟩
 | .undef, u, bl, id, h => by simp only [RepO] at h; obtain ⟨h1, rfl⟩ := h; exact ⟨by simp only [thaw]; exact .nil, fun β' _ => by simp only [thaw]; exact RepS.rep _ _ h1⟩
 | .v x, u, bl, id, h => by simp only [RepO] at h; obtain ⟨h1, rfl⟩ := h; exact ⟨by simp only [thaw]; exact .nil, fun β' _ => by simp only [thaw]; exact RepS.rep _ _ h1⟩
 | .sh n cs, u, bl, id, h => by simp only [RepO] at h; obtain ⟨h1, rfl⟩ := h; exact ⟨by simp only [thaw]; exact .nil, fun β' _ => by simp only [thaw]; exact RepS.rep _ _ h1⟩
 | .sl a b c e, u, bl, id, h => by simp only [RepO] at h; obtain ⟨h1, rfl⟩ := h; exact ⟨by simp only [thaw]; exact .nil, fun β' _ => by simp only [thaw]; exact RepS.rep _ _ h1⟩
 | .ptr a b, u, bl, id, h => by simp only [RepO] at h; obtain ⟨h1, rfl⟩ := h; exact ⟨by simp only [thaw]; exact .nil, fun β' _ => by simp only [thaw]; exact RepS.rep _ _ h1⟩
 | .emp, u, bl, id, h => by simp only [RepO] at h; obtain ⟨h1, rfl⟩ := h; exact ⟨by simp only [thaw]; exact .nil, fun β' _ => by simp only [thaw]; exact RepS.rep _ _ h1⟩
 | .rc a, u, bl, id, h => by simp only [RepO] at h; obtain ⟨h1, rfl⟩ := h; exact ⟨by simp only [thaw]; exact .nil, fun β' _ => by simp only [thaw]; exact RepS.rep _ _ h1⟩
 | .pel a b c d, u, bl, id, h => by simp only [RepO] at h; obtain ⟨h1, rfl⟩ := h; exact ⟨by simp only [thaw]; exact .nil, fun β' _ => by simp only [thaw]; exact RepS.rep _ _ h1⟩
 | .shp a b, u, bl, id, h => by simp only [RepO] at h; obtain ⟨h1, rfl⟩ := h; exact ⟨by simp only [thaw]; exact .nil, fun β' _ => by simp only [thaw]; exact RepS.rep _ _ h1⟩
 | .fn a b, u, bl, id, h => by simp only [RepO] at h; obtain ⟨h1, rfl⟩ := h; exact ⟨by simp only [thaw]; exact .nil, fun β' _ => by simp only [thaw]; exact RepS.rep _ _ h1⟩
theorem thawL_spec {w : World} {A : Nat → Prop} : ∀ (ds : List D) (vs : List Value) (bl : List (Option Addr)) (id : Nat), RepOs w A ds vs bl → Blks w A (thawL id ds).2 bl ∧ ∀ β' : Env, (∀ k oa, bl[k]? = some oa → β' (id + k) = oa) → RepLs w A β' (thawL id ds).1 vs
 | [], vs, bl, id, h => by
  simp only [RepOs] at h; obtain ⟨rfl, rfl⟩ := h
  exact ⟨by simp only [thawL]; exact .nil, fun _ _ => by simp [thawL, RepLs]⟩
 | d :: ds, vs, bl, id, h => by
  simp only [RepOs] at h
  obtain ⟨x, xs, b1, b2, rfl, rfl, h1, h2⟩ := h
  obtain ⟨k1, k2⟩ := thaw_spec d x b1 id h1
  obtain ⟨k3, k4⟩ := thawL_spec ds xs b2 (id + (thaw id d).2.length) h2
  simp only [thawL]
  refine ⟨k1.append k3, fun β' hβ => ?_⟩
  simp only [RepLs]
  refine ⟨x, xs, rfl, k2 β' (fun k oa hk => hβ k oa ?_), k4 β' (fun k oa hk => ?_)⟩
  ·rw [List.getElem?_append_left (List.getElem?_eq_some_iff.1 hk).1]; exact hk
  ·have := hβ (b1.length + k) oa (by rw [List.getElem?_append_right (by omega)]; simpa using hk)
   rw [k1.length, Nat.add_assoc]; exact this
end
section
variable {P : Program} {w : World} {A : Nat → Prop} {base : Nat} {tmps : Array Value} {acts : List (Array Value)}
theorem putBlocks_spec : ∀ (bs : List (List D)) (bl : List (Option Addr)) (σ : St) (β : Env) (id : Nat), Rel w A β base σ tmps acts → Blks w A bs bl →
  (∀ ad, some ad ∈ bl → base ≤ ad.block ∧ ¬ A ad.block ∧ ∀ i a, σ.bk i ≠ none → β i = some a → a.block ≠ ad.block) →
  (bl.Pairwise fun x y => ∀ a b, x = some a → y = some b → a.block ≠ b.block) →
  ∃ β', Rel w A β' base (putBlocks σ id bs) tmps acts ∧ (∀ k oa, bl[k]? = some oa → β' (id + k) = oa) ∧ ∀ i, i < id → β' i = β i
 | [], bl, σ, β, id, h, hb, _, _ => by
  cases hb
  exact ⟨β, h, fun k oa hk => by simp at hk, fun _ _ => rfl⟩
 | c :: cs, _, σ, β, id, h, hb, hfree, hpw => by
  cases hb with
  | @cons _ oa _ bl h1 h2 =>
  rw [List.pairwise_cons] at hpw
  have hr := h.rebind (w' := w) id oa (.refl _ _) h.top (Nat.le_refl _) (.refl _) (fun _ _ _ _ _ _ => rfl)
  have hlive : ∀ i a, i ≠ id → (σ.forget id).bk i ≠ none → (β.set id oa) i = some a → σ.bk i ≠ none ∧ β i = some a := by
   intro i a hi hbk ha
   rw [Env.set_other _ _ hi] at ha
   simp only [St.forget, if_neg hi] at hbk
   exact ⟨fun e => hbk (by simp [e]), ha⟩
  have hs : Rel w A (β.set id oa) base ((σ.forget id).setB id ⟨c, false⟩) tmps acts := by
   refine hr.setB id _ ?_ ?_
   ·rcases h1 with ⟨rfl, rfl⟩ | ⟨ad, rfl, h3, ⟨cc, T, h4, h5⟩, h6⟩
    ·exact .inl (And.intro (Env.set_same _ _ _) rfl)
    ·obtain ⟨f1, f2, _⟩ := hfree ad (by simp)
     exact .inr ⟨ad, Env.set_same _ _ _, ⟨h3, f1, ⟨cc, T, h4⟩, RepAt.cellsAt (fun d u h => RepS.rep d u h) h6, fun _ => f2, fun e => (by cases e), fun c1 T1 h7 => by rw [h4] at h7; cases h7; exact h5⟩⟩
   ·intro i a ad hi hbk ha had
    rw [Env.set_same] at had
    subst had
    obtain ⟨g1, g2⟩ := hlive i a hi hbk ha
    exact (hfree ad (by simp)).2.2 i a g1 g2
  obtain ⟨β', k1, k2, k3⟩ := putBlocks_spec cs bl _ _ (id + 1) hs h2 (fun ad had => by
   obtain ⟨f1, f2, f3⟩ := hfree ad (by simp [had])
   refine ⟨f1, f2, fun i a hbk ha => ?_⟩
   by_cases hi : i = id
   ·subst hi
    rw [Env.set_same] at ha
    exact hpw.1 (some ad) had a ad ha rfl
   ·obtain ⟨g1, g2⟩ := hlive i a hi (by simpa [St.setB, hi] using hbk) ha
    exact f3 i a g1 g2) hpw.2
  refine ⟨β', k1, fun k oa' hk => ?_, fun i hi => ?_⟩
  ·cases k with
   | zero => simp at hk; subst hk; rw [Nat.add_zero, k3 id (by omega), Env.set_same]
   | succ k => rw [← Nat.add_assoc, Nat.add_right_comm]; exact k2 k oa' (by simpa using hk)
  ·rw [k3 i (by omega), Env.set_other _ _ (by omega)]
end
/-- Blocks are read-only from here on. -/
def St.markRo (σ : St) (ids : List Nat) : St := { σ with bk := fun i => if i ∈ ids then (σ.bk i).map fun b => { b with ro := true } else σ.bk i }
section
variable {P : Program} {w : World} {A : Nat → Prop} {β : Env} {base : Nat} {σ : St} {tmps : Array Value} {acts : List (Array Value)}
theorem Rel.markRo (h : Rel w A β base σ tmps acts) (ids : List Nat) {A' : Nat → Prop} (hA : ∀ k, A k → A' k) (low : ∀ k, A' k → k < w.heap.size)
  (hin : ∀ i ∈ ids, Sees σ β A' i) (hout : ∀ i b ad, i ∉ ids → σ.bk i = some b → β i = some ad → A' ad.block → A ad.block) (hlp : LoopRep w A' β base σ.loop acts) : Rel w A' β base (σ.markRo ids) tmps acts where
 fr := h.fr.mono (.refl _ _) hA (fun _ _ _ => rfl)
 stk := h.stk.mono (.refl _ _) hA (fun _ _ _ _ _ => rfl)
 blk := fun i b hb => by
  simp only [St.markRo] at hb
  split at hb
  next hi =>
   simp only [Option.map_eq_some_iff] at hb
   obtain ⟨b0, hb0, rfl⟩ := hb
   rcases h.blk i b0 hb0 with ⟨h1, h2⟩ | ⟨ad, h1, h2⟩
   ·exact .inl ⟨h1, h2⟩
   ·exact .inr ⟨ad, h1, ⟨h2.spot, h2.base, h2.obj, CellsAt.mono (.refl _ _) hA _ _ rfl (fun _ _ => rfl) h2.cells, (fun e => by cases e), fun _ => hin i hi b0 ad hb0 h1, h2.inside⟩⟩
  next hi =>
   rcases h.blk i b hb with ⟨h1, h2⟩ | ⟨ad, h1, h2⟩
   ·exact .inl ⟨h1, h2⟩
   ·exact .inr ⟨ad, h1, ⟨h2.spot, h2.base, h2.obj, CellsAt.mono (.refl _ _) hA _ _ rfl (fun _ _ => rfl) h2.cells, fun hr ha => h2.own hr (hout i b ad hi hb h1 ha), fun hr => hA _ (h2.shared hr), h2.inside⟩⟩
 inj := fun i j a b hi hj => h.inj i j a b (fun e => hi (by simp only [St.markRo]; split <;> simp [e])) (fun e => hj (by simp only [St.markRo]; split <;> simp [e]))
 low := low
 top := h.top
 glo := h.glo.grow hA
 lp := hlp
end
/-- Depth to which arguments are told. -/
def depth : Nat := 12
/-- THE STEP OF A CALL by what the function does ('F'). -/
def CallD (F : FuncId → List D → D → Prop) (σ : St) (dst : Option Tmp) (id : Nat) (f : FuncId) (args : List D) (σ' : St) : Prop :=
 ∃ as passed res, shareAll (share σ.bk depth) args = some (as, passed) ∧ F f as res ∧ σ' = (putBlocks (if flat res then σ else σ.markRo passed) id (thaw id res).2).put dst (thaw id res).1
section
variable {P : Program} {w : World} {A : Nat → Prop} {β : Env} {base : Nat} {σ : St} {a : Act} {acts : List (Array Value)}
theorem call_sound {F : FuncId → List D → D → Prop} (hF : ∀ f as res, F f as res → CallsD P f as res) (hrel : Rel w A β base σ a.tmps acts) {dst : Option Tmp} {id : Nat} {f : FuncId} {args : List D} {vs : List Value}
    (hargs : RepLs w A β args vs) {σ' : St} (h : CallD F σ dst id f args σ') :
    Calls P f vs.toArray w fun e w' => ∃ v A' β', e = .returned v ∧ Rel w' A' β' base σ' (a.put dst v).tmps acts ∧ Turn A A' base w w' := by
  obtain ⟨as, passed, res, hsh, hres, rfl⟩ := h
  · · -- what the callee may read
      let A1 : Nat → Prop := fun k => A k ∨ ∃ i ∈ passed, ∃ b ad, σ.bk i = some b ∧ β i = some ad ∧ ad.block = k
      have hA1 : ∀ k, A k → A1 k := fun k h => .inl h
      have hlow1 : ∀ k, A1 k → k < w.heap.size := by
        rintro k (hk | ⟨i, _, b, ad, hb, ha, rfl⟩)
        · exact hrel.low k hk
        · exact blk_lt hrel hb ha
      have has : RepL w A1 as vs := shareAll_spec (ok := fun i => Sees σ β A1 i) (fun d e ids u h1 h2 h3 => share_spec hrel hA1 depth d e ids u h1 h2 h3) args as passed vs hsh
        (fun i hi b ad hb ha => .inr ⟨i, hi, b, ad, hb, ha, rfl⟩) hargs
      refine (hF f as res hres w A1 vs has hlow1 (hrel.glo.grow hA1)).mono ?_
      rintro e w' ⟨v, A', bl, rfl, hO, hfresh, hA', hlow', hold, hbelow⟩
      have hx : Ext A w w' := ⟨fun k hk => hbelow.block k (hrel.low k hk), fun b m ⟨c, T, fz, h1, h2⟩ => ⟨c, T, fz, by
        have : b < w.heap.size := by
          rcases Nat.lt_or_ge b w.heap.size with h | h
          · exact h
          · rw [Array.getElem?_eq_none h] at h1; cases h1
        rw [hbelow.block b this]; exact h1, h2⟩⟩
      -- the state, in the world behind the call
      have hcar : Rel w' A β base σ a.tmps acts := hrel.carry hx (fun _ h => h) (fun k hk => Nat.lt_of_lt_of_le (hrel.low k hk) hbelow.size) (Nat.le_trans hrel.top hbelow.size) (fun _ _ _ => rfl) (fun _ _ _ _ _ => rfl)
        (fun i b hb => ⟨rfl, fun _ _ => rfl, fun ad ha => ⟨hbelow.block _ (blk_lt hrel hb ha), fun h => h⟩⟩) (hrel.lp.mono (.below hbelow) (.refl _ _) (fun _ => rfl))
      have hblk : ∀ i b ad, σ.bk i = some b → β i = some ad → ad.block < w.heap.size := fun i b ad hb ha => blk_lt hrel hb ha
      have hfin : ∃ A2, Rel w' A2 β base (if flat res then σ else σ.markRo passed) a.tmps acts ∧ RepO w' A2 res v bl ∧ (∀ k, A k → A2 k) ∧ (∀ ad, some ad ∈ bl → ¬ A2 ad.block) ∧ (∀ k, A2 k → k < base → A k) ∧ New A A2 w := by
        by_cases hfl : flat res = true
        · rw [if_pos hfl]
          exact ⟨A, hcar, flatO_any res v bl hfl hO, fun _ h => h, fun ad had ha => (hfresh.each ad had).2.2 (hA' _ (hA1 _ ha)), fun _ h _ => h, .refl _ _⟩
        · rw [if_neg hfl]
          have hnew : New A A' w := by
            intro k o hk ho ha
            rcases hold k ha (Array.getElem?_eq_some_iff.1 hk).1 with h1 | ⟨j, hj, b', ad', hb', ha', rfl⟩
            · exact h1
            · rcases hrel.blk j b' hb' with ⟨q1, _⟩ | ⟨a3, q1, q2⟩
              · rw [ha'] at q1; cases q1
              · rw [ha'] at q1; cases q1
                obtain ⟨c, T, hobj⟩ := q2.obj
                rw [hobj] at hk; cases hk; cases ho
          refine ⟨A', ?_, hO, fun k hk => hA' k (hA1 k hk), fun ad had => (hfresh.each ad had).2.2, ?_, hnew⟩
          refine hcar.markRo passed (fun k hk => hA' k (hA1 k hk)) hlow' ?_ ?_ (hrel.lp.mono (.below hbelow) hnew (fun _ => rfl))
          · intro i hi b ad hb ha
            exact hA' _ (.inr ⟨i, hi, b, ad, hb, ha, rfl⟩)
          · intro i b ad hi hb ha hin
            rcases hold _ hin (hblk i b ad hb ha) with h1 | ⟨j, hj, b', ad', hb', ha', he⟩
            · exact h1
            · exact absurd (hrel.inj j i ad' ad (by simp [hb']) (by simp [hb]) ha' ha he ▸ hj) hi
          · intro k hk hlt
            rcases hold k hk (Nat.lt_of_lt_of_le hlt hrel.top) with h1 | ⟨j, hj, b', ad', hb', ha', rfl⟩
            · exact h1
            · rcases hrel.blk j b' hb' with ⟨q1, _⟩ | ⟨a3, q1, q2⟩
              · rw [ha'] at q1; cases q1
              · rw [ha'] at q1; cases q1
                have := q2.base
                omega
      obtain ⟨A2, hr2, hO2, hA2, hne, hold2, hnew2⟩ := hfin
      obtain ⟨t1, t2⟩ := thaw_spec res v bl id hO2
      have hbk2 : ∀ i, (if flat res then σ else σ.markRo passed).bk i ≠ none → σ.bk i ≠ none := by
        intro i h e
        apply h
        split
        · exact e
        · simp only [St.markRo]; split <;> simp [e]
      obtain ⟨β', k1, k2, k3⟩ := putBlocks_spec _ bl _ β id hr2 t1 (fun ad had => by
        obtain ⟨f1, f2, f3⟩ := hfresh.each ad had
        refine ⟨Nat.le_trans hrel.top f1, hne ad had, fun i a2 hbk ha => ?_⟩
        obtain ⟨b, hb⟩ := Option.ne_none_iff_exists'.1 (hbk2 i hbk)
        have := hblk i b a2 hb ha
        omega) hfresh.apart
      exact ⟨v, A2, β', rfl, k1.putA dst (t2 β' k2), ⟨hx, hA2, hbelow.mono hrel.top, hold2, .strict (.below hbelow) hnew2⟩⟩
end
end Go.Dam
end

section
namespace Go.Dam
open Go Go.RowKit
variable [Glo]
/-- Nothing speaks of the block 'id', and it is not there. -/
structure Unused (id : Nat) (σ : St) : Prop where
 fr : ∀ t, (σ.fr.tm t).has id = false
 stk : ∀ f ∈ σ.stk, ∀ t, (f.tm t).has id = false
 no : σ.bk id = none
 bk : ∀ i b, σ.bk i = some b → D.hasL id b.cells = false
 lp : id = yldId → σ.loop = none
/-- A block is no longer there; what speaks of it does so still. -/
def St.dropB (σ : St) (id : Nat) : St := { σ with bk := fun i => if i = id then none else σ.bk i }
section
variable {P : Program} {w : World} {A : Nat → Prop} {β : Env} {base : Nat} {σ : St} {acts : List (Array Value)}
/-- A block under another name. -/
theorem Rel.rename {tmps : Array Value} (h : Rel w A β base σ tmps acts) {i z : Nat} {b : Blk} (hb : σ.bk i = some b) (hz : Unused z σ) :
  Rel w A (β.set z (β i)) base ((σ.dropB i).setB z b) tmps acts := by
 have hiz : i ≠ z := fun e => by rw [e, hz.no] at hb; cases hb
 have h1 : Rel w A (β.set z (β i)) base σ tmps acts := by
  refine h.carry (.refl _ _) (fun _ h => h) h.low h.top ?_ ?_ ?_ (h.lp.mono (fun _ _ h _ => h) (fun _ _ _ _ h => h) fun hne => Env.set_other _ _ fun e => hne (hz.lp e.symm))
  ·intro t j hj
   exact Env.set_other _ _ fun e => by rw [e, hz.fr t] at hj; cases hj
  ·intro f hf t j hj
   exact Env.set_other _ _ fun e => by rw [e, hz.stk f hf t] at hj; cases hj
  ·intro j c hj
   refine ⟨Env.set_other _ _ fun e => (by rw [e, hz.no] at hj; cases hj), fun l hl => Env.set_other _ _ fun e => (by rw [e, hz.bk j c hj] at hl; cases hl), fun ad _ => ⟨rfl, fun x => x⟩⟩
 have hi : (β.set z (β i)) i = β i := Env.set_other _ _ hiz
 have hzz : (β.set z (β i)) z = β i := Env.set_same _ _ _
 refine ⟨h1.fr, h1.stk, ?_, ?_, h1.low, h1.top, h1.glo, h1.lp⟩
 ·intro j c hj
  simp only [St.setB, St.dropB] at hj
  split at hj
  next e =>
   subst e
   simp only [Option.some.injEq] at hj; subst hj
   have := h1.blk i _ hb
   rw [hi] at this; rw [hzz]; exact this
  next e =>
   split at hj
   ·cases hj
   ·exact h1.blk j c hj
 ·intro j k a c hj hk ha hc he
  simp only [St.setB, St.dropB] at hj hk
  have key : ∀ {j : Nat} {a : Addr}, (if j = z then some b else if j = i then none else σ.bk j) ≠ none → (β.set z (β i)) j = some a → ∃ j', σ.bk j' ≠ none ∧ (β.set z (β i)) j' = some a ∧ (j = z ∧ j' = i ∨ j ≠ z ∧ j ≠ i ∧ j' = j) := by
   intro j a hj ha
   by_cases e : j = z
   ·refine ⟨i, by rw [hb]; simp, ?_, .inl ⟨e, rfl⟩⟩
    rw [e, hzz] at ha; rw [hi]; exact ha
   ·rw [if_neg e] at hj
    by_cases e2 : j = i
    ·rw [if_pos e2] at hj; exact absurd rfl hj
    ·rw [if_neg e2] at hj
     exact ⟨j, hj, ha, .inr ⟨e, e2, rfl⟩⟩
  obtain ⟨j', a1, a2, a3⟩ := key hj ha
  obtain ⟨k', b1, b2, b3⟩ := key hk hc
  have e := h1.inj j' k' a c a1 b1 a2 b2 he
  rcases a3 with ⟨x1, x2⟩ | ⟨x1, x2, x3⟩ <;> rcases b3 with ⟨y1, y2⟩ | ⟨y1, y2, y3⟩
  ·rw [x1, y1]
  ·exact absurd (by rw [← y3, ← e, x2]) y2
  ·exact absurd (by rw [← x3, e, y2]) x2
  ·rw [← x3, e, y3]
theorem RepLs.env {β' : Env} : ∀ {ds : List D} {vs : List Value}, (∀ id, D.hasL id ds = true → β' id = β id) → RepLs w A β ds vs → RepLs w A β' ds vs := fun h hr =>
 RepLs.mono (.of_heap rfl) (fun _ h => h) _ _ h hr
theorem forget_unused {d : D} {z : Nat} (h : d.has z = false) : d.forget z = d := by
 unfold D.forget; rw [if_neg (by rw [h]; simp)]
end
theorem hasL_mem' {id : Nat} {cs : List D} (h : D.hasL id cs = false) : ∀ d ∈ cs, d.has id = false := by
 induction cs with
 | nil => intro d hd; cases hd
 | cons c l ih =>
  intro d hd
  simp only [D.hasL, Bool.or_eq_false_iff] at h
  rcases List.mem_cons.1 hd with rfl | hd
  ·exact h.1
  ·exact ih h.2 d hd
theorem map_unused {cs : List D} {id : Nat} (h : D.hasL id cs = false) : cs.map (D.forget id) = cs := by
 have : cs.map (D.forget id) = cs.map _root_.id := List.map_congr_left fun d hd => forget_unused (hasL_mem' h d hd)
 rw [this]; simp
/-- The state behind an append to a block of its own: the block has a new name. -/
def St.grown (σ : St) (dst : Option Tmp) (i z n m s : Nat) (cs : List D) : St := ((σ.dropB i).setB z ⟨cs, false⟩).put dst (.sl z 0 (n + m) ⟨s, 0⟩)
theorem forget_renamed {σ : St} {i z : Nat} {b : Blk} (hz : Unused z σ) (c : Blk) : ((((σ.dropB i).setB z b).forget z).setB z c) = (σ.dropB i).setB z c := by
 have hf : ∀ f : Fr, (∀ t, (f.tm t).has z = false) → f.forget z = f := fun f hf => by
  cases f with
  | mk nt tm => simp only [Fr.forget, Fr.mk.injEq, true_and]; funext t; exact forget_unused (hf t)
 have h1 : σ.fr.forget z = σ.fr := hf _ hz.fr
 have h2 : σ.stk.map (Fr.forget z) = σ.stk := by
  have : σ.stk.map (Fr.forget z) = σ.stk.map _root_.id := List.map_congr_left fun f hf' => hf f (hz.stk f hf')
  rw [this]; simp
 have h3 : (if z = yldId then none else σ.loop) = σ.loop := by
  split
  ·next e => exact (hz.lp e).symm
  ·rfl
 simp only [St.forget, St.setB, St.dropB, h1, h2, h3, St.mk.injEq, true_and, and_true]
 funext j
 by_cases e : j = z
 ·simp [e]
 ·simp only [if_neg e]
  by_cases e2 : j = i
  ·simp [e2]
  ·simp only [if_neg e2]
   cases hb : σ.bk j with
   | none => rfl
   | some x =>
    cases x with
    | mk cs ro => simp only [Option.map_some, Blk.forget]; rw [map_unused (hz.bk j _ hb)]
section
variable {P : Program} {w : World} {A : Nat → Prop} {β : Env} {base : Nat} {σ : St} {a : Act} {acts : List (Array Value)}
theorem grow_sound (hrel : Rel w A β base σ a.tmps acts) {o : Oper} {r : Result Next} (hr : (execOp a.eval o).run P w = r) {i n m s z : Nat} {sz : Sz} {ds cells : List D} (hE : Good P w A β r (.app (.sl i 0 n sz) s m ds))
  (hb : σ.bk i = some ⟨cells, false⟩) (hl : n * s ≤ cells.length) (hz : Unused z σ) (hd : D.hasL z (cells.take (n * s) ++ ds) = false) :
  ∃ u w' β', ((execOp a.eval o).run P w = .ok (.value u) w' ∨ ((execOp a.eval o).run P w = .ok .skip w' ∧ u = undef)) ∧ Rel w' A β' base (σ.grown o.dst i z n m s (cells.take (n * s) ++ ds)) (a.put o.dst u).tmps acts ∧ Turn A A base w w' := by
 have h1 := hrel.rename hb hz
 refine step_sound (e := .app (.sl z 0 n sz) s m ds) h1 hr ?_ (id := 0) ?_
 ·obtain ⟨t, t2, ty, e, e2, inf, zz, oo, nn, c, x, vs, p1, p2, p3, p4, p5, p6, p7, p8, p9, p10, p11, p12, p13, p14, p15, p16⟩ := hE
  have hiz : i ≠ z := fun e => by rw [e, hz.no] at hb; cases hb
  refine ⟨t, t2, ty, e, e2, inf, zz, oo, nn, c, x, vs, p1, p2, p3, p4, p5, p6, p7, p8, ?_, p10, p11, p12, ?_, ?_, ?_, p16⟩
  ·refine RepLs.env (fun id hid => Env.set_other _ _ fun e => ?_) p9
   subst e
   have : D.hasL id ds = false := by
    cases hq : D.hasL id ds with
    | false => rfl
    | true =>
     have := hasL_mem' hd
     exfalso
     have hall : ∀ l : List D, (∀ d ∈ l, d.has id = false) → D.hasL id l = false := fun l => by
      induction l with
      | nil => intro _; rfl
      | cons c l ih => intro h; simp only [D.hasL, Bool.or_eq_false_iff]; exact ⟨h c (by simp), ih fun d hd => h d (by simp [hd])⟩
     rw [hall ds fun d hd => this d (by simp [hd])] at hq; cases hq
   rw [this] at hid; cases hid
  ·simp only [Rep] at p13 ⊢
   obtain ⟨o, c, e, h⟩ := p13
   refine ⟨o, c, e, ?_⟩
   rw [Env.set_same]; exact h
  ·intro id off n' sz' he
   simp only [D.sl.injEq] at he
   obtain ⟨_, _, _, rfl⟩ := he
   exact p14 i 0 n sz rfl
  ·intro u he; cases he
 ·simp only [stepE, St.setB, if_true]
  rw [if_pos (by simpa using hl)]
  simp only [List.drop_zero, Option.some.injEq]
  rw [map_unused hd]
  show (((((σ.dropB i).setB z ⟨cells, false⟩).forget z).setB z _).put _ _) = _
  rw [forget_renamed hz]; rfl
end
end Go.Dam
end

section
namespace Go.Dam
open Go Go.RowKit
variable [Glo]
/-- The body of a function that has one. -/
def bodyOf (P : Program) (f : FuncId) : Option (Func × Code) :=
 match P.funcs[f]? with
 | none => none
 | some fn => if fn.name == "runtime.NumGoroutine" then none else match fn.body with
  | none => none
  | some c => some (fn, c)
def truthV (want : Bool) : Value → Option Bool
 | .bool b => some (b == want)
 | _ => some false
def truthD (want : Bool) : D → Option Bool
 | .v x => truthV want x
 | _ => none
/-- Is an operation wanted? -/
def wantedD (R : Array Oper) (o : Oper) (σ : St) : Option Bool :=
 match o.guard with
 | none => some true
 | some (j, want) => match (R[j]?).bind (·.dst) with
  | none => some false
  | some t => truthD want (σ.fr.tm t)
def St.enter (σ : St) (args : List D) (nt : Nat) : St :=
 { fr := { nt := args.length + (nt - args.length), tm := fun t => (args ++ List.replicate (nt - args.length) (D.v undef)).getD t .undef }, stk := σ.fr :: σ.stk, bk := σ.bk, loop := σ.loop }
def resD (P : Program) (σ : St) : List ResultVar → Option (List D)
 | [] => some []
 | .tmp t :: rs => (resD P σ rs).map (σ.fr.tm t :: ·)
 | .cell t ty :: rs => match (σ.fr.tm t).behind σ.bk with
  | none => none
  | some (cs, off) => match takeD P ty cs off, resD P σ rs with
   | some d, some ds => some (d :: ds)
   | _, _ => none
def resOut : List D → D
 | [d] => d
 | ds => .tup ds
/-- A call of a function value: its parts. -/
def callParts : Op → Option (Operand × Array Operand)
 | .call ⟨.value fo, args, _⟩ => some (fo, args)
 | _ => none
inductive Ex where
 | normal
 | exit (id : Nat)
 | ret
 deriving DecidableEq
def Ex.out : Ex → Exit
 | .normal => .normal
 | .exit id => .exit id
 | .ret => .ret
/-- To know less, in other words. -/
def Weaker (σ σ' : St) : Prop := ∀ (w : World) (A : Nat → Prop) (β : Env) (base : Nat) (tmps : Array Value) (acts : List (Array Value)), Rel w A β base σ tmps acts → ∃ β' : Env, Rel w A β' base σ' tmps acts
/-- An operation that enters no body of ours. -/
inductive OpStep (P : Program) (F : FuncId → List D → D → Prop) (o : Oper) (σ : St) : St → Prop
 | op {e : Eff} {id : Nat} {σ' : St} : opD P σ.bk (evalD σ) o.type o.op = some e → stepE σ o.dst id e = some σ' → OpStep P F o σ σ'
 | opw {e : Eff} {id : Nat} {σ1 σ' : St} : opD P σ.bk (evalD σ) o.type o.op = some e → stepE σ o.dst id e = some σ1 → Weaker σ1 σ' → OpStep P F o σ σ'
 | ext {fo : Operand} {args : Array Operand} {f : FuncId} {vs : List Value} {u : Value} : callParts o.op = some (fo, args) → evalD σ fo = .fn f [] → D.plains (args.toList.map (evalD σ)) = some vs →
   pureRun P (callFunc f vs.toArray) = some (.value u) → OpStep P F o σ (σ.put o.dst (D.ofV u))
 | call {fo : Operand} {args : Array Operand} {f : FuncId} {caps : List D} {id : Nat} {σ' : St} : callParts o.op = some (fo, args) → evalD σ fo = .fn f caps → (bodyOf P f).isSome = true →
   CallD F σ o.dst id f (args.toList.map (evalD σ) ++ caps) σ' → OpStep P F o σ σ'
 | grow {i n m s z : Nat} {sz : Sz} {ds cells : List D} : opD P σ.bk (evalD σ) o.type o.op = some (.app (.sl i 0 n sz) s m ds) → σ.bk i = some ⟨cells, false⟩ → n * s ≤ cells.length → Unused z σ →
   D.hasL z (cells.take (n * s) ++ ds) = false → OpStep P F o σ (σ.grown o.dst i z n m s (cells.take (n * s) ++ ds))
/-- To know less. -/
structure WeakerS (σ σ' : St) : Prop where
 nt : σ'.fr.nt = σ.fr.nt
 tm : ∀ t, σ'.fr.tm t = σ.fr.tm t ∨ σ'.fr.tm t = .undef
 stk : σ'.stk = σ.stk
 bk : ∀ i, σ'.bk i = σ.bk i ∨ σ'.bk i = none
 lp : σ'.loop = σ.loop
section
variable {P : Program} {F : FuncId → List D → D → Prop}
theorem Weaker.refl (σ : St) : Weaker σ σ := fun _ _ β _ _ _ hr => ⟨β, hr⟩
theorem Weaker.trans {σ σ' σ'' : St} (h : Weaker σ σ') (k : Weaker σ' σ'') : Weaker σ σ'' := fun w A β base t a hr => let ⟨β', h'⟩ := h w A β base t a hr; k w A β' base t a h'
theorem eval_rep {w : World} {A : Nat → Prop} {β : Env} {base : Nat} {σ : St} {a : Act} {acts : List (Array Value)} (h : Rel w A β base σ a.tmps acts) (x : Operand) : Rep w A β (evalD σ x) (a.eval x) := by
 cases x with
 | tmp t => exact h.fr.tm t
 | const v => exact Rep.ofV v
 | global g =>
  show Rep w A β (gloD (Glo.g g)) _
  cases hg : Glo.g g with
  | nil => simp [gloD, Rep, RepS]
  | cons d ds =>
   have hne : Glo.g g ≠ [] := by rw [hg]; simp
   obtain ⟨h1, h2⟩ := h.glo g hne
   rw [hg] at h2
   exact ⟨⟨g, 0, none⟩, rfl, rfl, fun _ => h1, h2⟩
 | func f => simp only [evalD, Rep, Act.eval]; exact ⟨[], rfl, by simp [RepLs]⟩
theorem wanted_spec {w : World} {A : Nat → Prop} {β : Env} {base : Nat} {σ : St} {a : Act} {acts : List (Array Value)} (h : Rel w A β base σ a.tmps acts) {R : Array Oper} {o : Oper} {b : Bool} (hw : wantedD R o σ = some b) :
  Region.wanted o (yielded R a.tmps) = b := by
 unfold wantedD at hw
 unfold Region.wanted
 split at hw
 next hg => simp at hw; subst hw; simp [hg]
 next j want hg =>
  simp only [hg]
  split at hw
  next hd => simp at hw; subst hw; simp [yielded, hd]
  next t hd =>
   have ht := h.fr.tm t
   have hget : ∀ x : Value, (a.tmps.getD t Go.undef = x) → x ≠ Go.undef → a.tmps[t]? = some x := by
    intro x hx hne
    rw [Array.getD_eq_getD_getElem?] at hx
    cases hc : a.tmps[t]? with
    | none => rw [hc] at hx; exact absurd hx.symm hne
    | some y => rw [hc] at hx; simp at hx; rw [hx]
   unfold truthD at hw
   split at hw
   next x hx =>
    rw [hx] at ht
    simp only [Rep, RepS] at ht
    unfold truthV at hw
    split at hw
    next b' =>
     simp at hw; subst hw
     have := hget _ ht (by simp [Go.undef])
     simp [yielded, hd, this]
    next hnb =>
     simp at hw; subst hw
     have hy : yielded R a.tmps j = none := by
      simp only [yielded, hd, Option.bind_some]
      cases hc : a.tmps[t]? with
      | none => rfl
      | some y =>
       rw [Array.getD_eq_getD_getElem?, hc] at ht
       simp at ht
       subst ht
       cases y <;> first | rfl | exact absurd rfl (hnb _)
     rw [hy]; cases want <;> rfl
   ·cases hw
theorem body_spec {f : FuncId} {fn : Func} {c : Code} (h : bodyOf P f = some (fn, c)) : P.funcs[f]? = some fn ∧ fn.body = some c ∧ ∀ (args : Array Value) (w : World), (callFunc f args).run P w = .ok (.enter f args) w := by
 unfold bodyOf at h
 split at h
 ·cases h
 next fn' hf =>
  split at h
  ·cases h
  next hn =>
   split at h
   ·cases h
   next c' hb =>
    simp at h; obtain ⟨rfl, rfl⟩ := h
    refine ⟨hf, hb, fun args w => ?_⟩
    have hn' : (fn'.name == "runtime.NumGoroutine") = false := by simpa using hn
    have hn2 : ¬ fn'.name = "runtime.NumGoroutine" := by simpa using hn'
    simp [callFunc, hf, hn2, hb]
theorem callParts_run {w : World} {A : Nat → Prop} {β : Env} {o : Oper} {ρv : Operand → Value} {fo : Operand} {args : Array Operand} (h : callParts o.op = some (fo, args)) {f : FuncId} {vcaps : List Value} (hf : ρv fo = .func (.func f) #[] vcaps.toArray) :
  (execOp ρv o).run P w = (callFunc f ((args.toList.map ρv) ++ vcaps).toArray).run P w := by
 obtain ⟨dst, op, type, pos, after, guard⟩ := o
 cases op with
 | call c =>
  obtain ⟨callee, as, ts⟩ := c
  cases callee with
  | value g =>
   simp [callParts] at h
   obtain ⟨rfl, rfl⟩ := h
   simp only [execOp, resolve, hf, Deferred.ofValue, Sem.run_bind, Sem.run_pure, Result.andThen_ok, invoke]
   congr 2
   apply Array.ext'
   simp
  | _ => simp [callParts] at h
 | _ => simp [callParts] at h
/-- One operation, for the walk. -/
theorem opStep_sound (hF : ∀ f as res, F f as res → CallsD P f as res) {w : World} {A : Nat → Prop} {β : Env} {base : Nat} {σ σ' : St} {a : Act} {acts : List (Array Value)} (hrel : Rel w A β base σ a.tmps acts) {o : Oper} (h : OpStep P F o σ σ')
  {K : Act → World → Prop} {Q : Exit → Act → World → Prop} (hK : ∀ a' w' A' β', a'.defers = a.defers → Rel w' A' β' base σ' a'.tmps acts → Turn A A' base w w' → K a' w') : o.wp P a w K Q := by
 have hput : ∀ u, (a.put o.dst u).defers = a.defers := fun u => by cases o.dst <;> rfl
 cases h with
 | op h1 h2 =>
  obtain ⟨r, hr, hg⟩ := opD_sound hrel (eval_rep hrel) o h1
  obtain ⟨u, w', β', hrun, hrel', hturn⟩ := step_sound hrel hr hg h2
  unfold Oper.wp
  rcases hrun with h | ⟨h, rfl⟩ <;> rw [h]
  ·exact hK _ w' A β' (hput u) hrel' hturn
  ·exact hK _ w' A β' (hput _) hrel' hturn
 | opw h1 h2 h3 =>
  obtain ⟨r, hr, hg⟩ := opD_sound hrel (eval_rep hrel) o h1
  obtain ⟨u, w', β', hrun, hrel', hturn⟩ := step_sound hrel hr hg h2
  obtain ⟨β2, hr2⟩ := h3 _ _ _ _ _ _ hrel'
  unfold Oper.wp
  rcases hrun with h | ⟨h, rfl⟩ <;> rw [h]
  ·exact hK _ w' A β2 (hput u) hr2 hturn
  ·exact hK _ w' A β2 (hput _) hr2 hturn
 | grow h1 h2 h3 h4 h5 =>
  obtain ⟨r, hr, hg⟩ := opD_sound hrel (eval_rep hrel) o h1
  obtain ⟨u, w', β', hrun, hrel', hturn⟩ := grow_sound hrel hr hg h2 h3 h4 h5
  unfold Oper.wp
  rcases hrun with h | ⟨h, rfl⟩ <;> rw [h]
  ·exact hK _ w' A β' (hput u) hrel' hturn
  ·exact hK _ w' A β' (hput _) hrel' hturn
 | @ext fo args f vs u h1 h2 h3 h4 =>
  have hfo := eval_rep hrel fo
  rw [h2] at hfo
  simp only [Rep, RepLs] at hfo
  obtain ⟨vc, hfo, rfl⟩ := hfo
  have hp := plains_spec (eval_rep hrel) _ _ h3
  unfold Oper.wp
  rw [callParts_run (w := w) (A := A) (β := β) h1 hfo, hp, List.append_nil, pureRun_run P w _ _ h4]
  exact hK _ w A β (hput u) (hrel.putA o.dst (Rep.ofV u)) (.refl _ _ _)
 | @call fo args f caps id _ h1 h2 h3 h4 =>
  have hfo := eval_rep hrel fo
  rw [h2] at hfo
  simp only [Rep] at hfo
  obtain ⟨vc, hfo, hcaps⟩ := hfo
  obtain ⟨⟨fn, c⟩, hb⟩ := Option.isSome_iff_exists.1 h3
  unfold Oper.wp
  rw [callParts_run (w := w) (A := A) (β := β) h1 hfo, (body_spec hb).2.2]
  have hargs : RepLs w A β (args.toList.map (evalD σ) ++ caps) (args.toList.map a.eval ++ vc) := (maps_rel (eval_rep hrel) _).append hcaps
  refine (call_sound hF hrel hargs h4).mono ?_
  rintro e w' ⟨v, A', β', rfl, hrel', hturn⟩
  exact hK _ w' A' β' (hput v) hrel' hturn
/-- One result variable is read. -/
def resOne (tmps : Array Value) : ResultVar → Sem Value
 | .tmp t => pure (tmps.getD t undef)
 | .cell a t => do loadVar t (← asAddr (tmps.getD a undef))
theorem asAddr_some (a : Addr) : asAddr (.pointer (some a)) = pure a := rfl
theorem results_eq (fn : Func) (tmps : Array Value) : results fn tmps = (do let vs ← fn.results.mapM (resOne tmps); pure (if h : vs.size = 1 then vs[0] else .tuple vs)) := rfl
theorem res_run {w : World} {A : Nat → Prop} {β : Env} {base : Nat} {σ : St} {tmps : Array Value} {acts : List (Array Value)} (hrel : Rel w A β base σ tmps acts) : ∀ (rs : List ResultVar) (ds : List D), resD P σ rs = some ds →
  ∃ vs : List Value, (rs.mapM (resOne tmps)).run P w = .ok vs w ∧ RepLs w A β ds vs
 | [], ds, h => by simp [resD] at h; subst h; exact ⟨[], rfl, by simp [RepLs]⟩
 | .tmp t :: rs, ds, h => by
  simp only [resD, Option.map_eq_some_iff] at h
  obtain ⟨es, h1, rfl⟩ := h
  obtain ⟨vs, k1, k2⟩ := res_run hrel rs es h1
  refine ⟨tmps.getD t undef :: vs, ?_, by simp only [RepLs]; exact ⟨_, _, rfl, hrel.fr.tm t, k2⟩⟩
  rw [List.mapM_cons]
  simp only [resOne, Sem.run_bind, Sem.run_pure, Result.andThen_ok, k1]
 | .cell t ty :: rs, ds, h => by
  simp only [resD] at h
  split at h
  ·cases h
  next cs off hb =>
   split at h
   next d es hd h1 =>
    simp at h; subst h
    obtain ⟨vs, k1, k2⟩ := res_run hrel rs es h1
    have hne : cs ≠ [] := by
     rintro rfl
     unfold takeD at hd
     split at hd
     ·cases hd
     ·split at hd
      ·split at hd
       next hlt => simp at hlt; omega
       ·cases hd
      ·simp at hd
    obtain ⟨ad, e1, e2, e3⟩ := behind_spec hrel (hrel.fr.tm t) hb hne
    obtain ⟨u, k3, k4⟩ := load_run (P := P) e2 e3 hd
    refine ⟨u :: vs, ?_, by simp only [RepLs]; exact ⟨_, _, rfl, k4, k2⟩⟩
    rw [List.mapM_cons]
    simp only [Sem.run_bind, Sem.run_pure, k1, show resOne tmps (.cell t ty) = (do loadVar ty (← asAddr (tmps.getD t undef))) from rfl, e1, asAddr_some, Result.andThen_ok, k3]
   ·cases h
theorem results_run {w : World} {A : Nat → Prop} {β : Env} {base : Nat} {σ : St} {tmps : Array Value} {acts : List (Array Value)} (hrel : Rel w A β base σ tmps acts) {fn : Func} {ds : List D} (h : resD P σ fn.results.toList = some ds) :
  ∃ v, (results fn tmps).run P w = .ok v w ∧ Rep w A β (resOut ds) v := by
 obtain ⟨vs, k1, k2⟩ := res_run hrel _ ds h
 have hrun : (results fn tmps).run P w = .ok (if h : vs.toArray.size = 1 then vs.toArray[0] else .tuple vs.toArray) w := by
  rw [results_eq]
  simp only [Sem.run_bind, Array.mapM_eq_mapM_toList, Sem.run_map, k1, Result.andThen_ok, Sem.run_pure]
 refine ⟨_, hrun, ?_⟩
 have hlen := k2.length
 match ds, vs, k2, hlen with
 | [d], [v], k2, _ => simp only [RepLs] at k2; obtain ⟨x, xs, he, h1, h2⟩ := k2; simp at he; simp [resOut]; rw [he.1]; exact h1
 | [], [], k2, _ => simp [resOut, Rep, RepLs]
 | d1 :: d2 :: ds, v1 :: v2 :: vs, k2, _ => simp only [resOut, Rep]; exact ⟨_, by simp, k2⟩
 | [d], [], _, h => simp at h
 | [d], v1 :: v2 :: vs, _, h => simp at h
 | [], v :: vs, _, h => simp at h
 | d1 :: d2 :: ds, [], _, h => simp at h
 | d1 :: d2 :: ds, [v], _, h => simp at h
end
end Go.Dam
end
