/- The engine, part S: an abstract machine for the program's functions, proved right against the model. No condition. -/
import Derived.Test.YtpbngkempchamaaDamRB
set_option linter.unusedSectionVars false
set_option linter.unusedVariables false
set_option linter.unusedSimpArgs false
namespace Go.Dam
open Go Go.RowKit
set_option linter.unusedSectionVars false
variable [Glo]
set_option linter.unusedSimpArgs false
set_option linter.unusedVariables false

/-- A result, its own slices handed over: the result, the blocks that it shares, the blocks that it hands over. -/
def fin (bk : Nat → Option Blk) : D → Option (D × List Nat × List Nat)
  | .undef => some (.undef, [], [])
  | .v x => some (.v x, [], [])
  | .sh n cs => some (.sh n cs, [], [])
  | .rc cs => some (.rc cs, [], [])
  | .emp => some (.emp, [], [])
  | .sl id off n sz => match bk id with
    | none => none
    | some b => if off + n * sz ≤ b.cells.length ∧ b.ro = false then
        match shareAll (share bk depth) ((b.cells.drop off).take (n * sz)) with
        | none => none
        | some (cs, ids) => some (.ow n sz cs, ids, [id])
      else none
  | .agg cs => match finL cs with
    | none => none
    | some (ds, i, j) => some (.agg ds, i, j)
  | .tup cs => match finL cs with
    | none => none
    | some (ds, i, j) => some (.tup ds, i, j)
  | _ => none
where
  finL : List D → Option (List D × List Nat × List Nat)
  | [] => some ([], [], [])
  | d :: ds => match fin bk d, finL ds with
    | some (e, i, j), some (es, is, js) => some (e :: es, i ++ is, j ++ js)
    | _, _ => none

/-- A result, told as shared content. -/
def finS (bk : Nat → Option Blk) : D → Option (D × List Nat)
  | .tup cs => match shareAll (share bk depth) cs with
    | none => none
    | some (ds, ids) => some (.tup ds, ids)
  | d => share bk depth d

def finish (bk : Nat → Option Blk) (d : D) : Option D :=
  match fin bk d with
  | some (e, sh, own) => if own.Nodup ∧ (own.all fun i => !sh.contains i) = true then some e else (finS bk d).map (·.1)
  | none => (finS bk d).map (·.1)

/-- What reads so reads so, too. -/
def Reads (e e' : D) : Prop := ∀ (w : World) (A : Nat → Prop) (u : Value), RepS w A e u → RepS w A e' u
theorem Reads.refl (e : D) : Reads e e := fun _ _ _ h => h

inductive ReadsL : List D → List D → Prop
  | nil : ReadsL [] []
  | cons {d e : D} {ds es : List D} : Reads d e → ReadsL ds es → ReadsL (d :: ds) (e :: es)

theorem ReadsL.length {ds es : List D} (h : ReadsL ds es) : ds.length = es.length := by
  induction h with
  | nil => rfl
  | cons _ _ ih => simp [ih]
theorem ReadsL.nil_iff {ds es : List D} (h : ReadsL ds es) : ds = [] ↔ es = [] := by
  cases h <;> simp
theorem ReadsL.refl : ∀ ds : List D, ReadsL ds ds
  | [] => .nil
  | d :: ds => .cons (.refl d) (.refl ds)
theorem ReadsL.repL {ds es : List D} (h : ReadsL ds es) {w : World} {A : Nat → Prop} {vs : List Value} (hr : RepL w A ds vs) : RepL w A es vs := by
  induction h generalizing vs with
  | nil => exact hr
  | cons h1 _ ih =>
    simp only [RepL] at hr ⊢
    obtain ⟨x, xs, rfl, k1, k2⟩ := hr
    exact ⟨x, xs, rfl, h1 _ _ _ k1, ih k2⟩
theorem ReadsL.repAt {ds es : List D} (h : ReadsL ds es) {w : World} {A : Nat → Prop} {ad : Addr} (hr : RepAt w A ds ad) : RepAt w A es ad := by
  induction h generalizing ad with
  | nil => exact hr
  | cons h1 _ ih =>
    simp only [RepAt] at hr ⊢
    obtain ⟨⟨u, k1, k2⟩, k3⟩ := hr
    exact ⟨⟨u, k1, h1 _ _ _ k2⟩, ih k3⟩
theorem ReadsL.agg {ds es : List D} (h : ReadsL ds es) : Reads (.agg ds) (.agg es) := fun w A u hr => by
  simp only [RepS] at hr ⊢
  obtain ⟨vs, rfl, hr⟩ := hr
  exact ⟨vs, rfl, h.repL hr⟩
theorem ReadsL.sh {ds es : List D} (h : ReadsL ds es) (n : Nat) : Reads (.sh n ds) (.sh n es) := fun w A u hr => by
  simp only [RepS] at hr ⊢
  obtain ⟨o, c, rfl, h1, h2, h3⟩ := hr
  exact ⟨o, c, rfl, h1, fun hne => h2 (hne.imp id fun hne e => hne (h.nil_iff.1 e)), h.repAt h3⟩

section
variable {P : Program} {w : World} {A : Nat → Prop} {β : Env} {base : Nat} {σ : St} {tmps : Array Value} {acts : List (Array Value)}

/-- Where the blocks handed over lie. -/
inductive Placed (w : World) (σ : St) (β : Env) : List Nat → List (Option Addr) → Prop
  | nil : Placed w σ β [] []
  | gap {id : Nat} {ids : List Nat} {bl : List (Option Addr)} : Placed w σ β ids bl → Placed w σ β (id :: ids) (none :: bl)
  | lies {id : Nat} {ids : List Nat} {bl : List (Option Addr)} {ad : Addr} {off : Nat} {b : Blk} : σ.bk id = some b → b.ro = false → β id = some ad → Placed w σ β ids bl → Placed w σ β (id :: ids) (some (plusOff ad off) :: bl)

theorem Placed.append {ids js : List Nat} {bl bm : List (Option Addr)} (h : Placed w σ β ids bl) (k : Placed w σ β js bm) : Placed w σ β (ids ++ js) (bl ++ bm) := by
  induction h with
  | nil => exact k
  | gap _ ih => exact .gap ih
  | lies h1 h2 h3 _ ih => exact .lies h1 h2 h3 ih

theorem Placed.mem {ids : List Nat} {bl : List (Option Addr)} (h : Placed w σ β ids bl) : ∀ a, some a ∈ bl → ∃ id ∈ ids, ∃ b ad, σ.bk id = some b ∧ b.ro = false ∧ β id = some ad ∧ a.block = ad.block := by
  induction h with
  | nil => intro a h; cases h
  | gap _ ih =>
    intro a h
    simp at h
    obtain ⟨id, h1, h2⟩ := ih a h
    exact ⟨id, by simp [h1], h2⟩
  | @lies id ids bl ad off b h1 h2 h3 _ ih =>
    intro a h
    simp only [List.mem_cons, Option.some.injEq] at h
    rcases h with rfl | h
    · exact ⟨id, by simp, b, ad, h1, h2, h3, rfl⟩
    · obtain ⟨i, k1, k2⟩ := ih a h
      exact ⟨i, by simp [k1], k2⟩

theorem Placed.apart (hrel : Rel w A β base σ tmps acts) {ids : List Nat} {bl : List (Option Addr)} (h : Placed w σ β ids bl) (hn : ids.Nodup) : bl.Pairwise fun x y => ∀ a b, x = some a → y = some b → a.block ≠ b.block := by
  induction h with
  | nil => exact .nil
  | gap _ ih => rw [List.nodup_cons] at hn; exact .cons (fun _ _ a b h => by cases h) (ih hn.2)
  | @lies id ids bl ad off b h1 h2 h3 ht ih =>
    rw [List.nodup_cons] at hn
    refine .cons (fun y hy a b' ha hb' => ?_) (ih hn.2)
    cases ha
    subst hb'
    obtain ⟨i, k1, b2, ad2, k2, k3, k4, k5⟩ := ht.mem b' hy
    rw [k5]
    intro e
    have : id = i := hrel.inj id i ad ad2 (by simp [h1]) (by simp [k2]) h3 k4 e
    exact hn.1 (this ▸ k1)

mutual
theorem fin_spec (hrel : Rel w A β base σ tmps acts) {A' : Nat → Prop} (hA : ∀ k, A k → A' k) : ∀ (d e : D) (sh own : List Nat) (u : Value), fin σ.bk d = some (e, sh, own) → (∀ i ∈ sh, Sees σ β A' i) → Rep w A β d u →
    ∃ bl, RepO w A' e u bl ∧ Placed w σ β own bl
  | .undef, e, sh, own, u, h, _, hr => by simp [fin] at h; obtain ⟨rfl, rfl, rfl⟩ := h; exact ⟨[], by simp [RepO, RepS], .nil⟩
  | .v x, e, sh, own, u, h, _, hr => by simp [fin] at h; obtain ⟨rfl, rfl, rfl⟩ := h; simp only [Rep, RepS] at hr; exact ⟨[], by simp [RepO, RepS, hr], .nil⟩
  | .sh n cs, e, sh, own, u, h, _, hr => by
    simp [fin] at h; obtain ⟨rfl, rfl, rfl⟩ := h
    simp only [Rep] at hr
    exact ⟨[], by simp only [RepO]; exact ⟨RepS.mono (fun _ _ => rfl) hA _ _ hr, trivial⟩, .nil⟩
  | .emp, e, sh, own, u, h, _, hr => by
    simp [fin] at h; obtain ⟨rfl, rfl, rfl⟩ := h
    simp only [Rep] at hr
    exact ⟨[], by simp only [RepO]; exact ⟨RepS.mono (fun _ _ => rfl) hA _ _ hr, trivial⟩, .nil⟩
  | .rc cs, e, sh, own, u, h, _, hr => by
    simp [fin] at h; obtain ⟨rfl, rfl, rfl⟩ := h
    simp only [Rep] at hr
    exact ⟨[], by simp only [RepO]; exact ⟨RepS.mono (fun _ _ => rfl) hA _ _ hr, trivial⟩, .nil⟩
  | .sl id off n sz, e, sh, own, u, h, hk, hr => by
    simp only [fin] at h
    split at h
    · cases h
    next b hb =>
      split at h
      next hl =>
        split at h
        · cases h
        next cs ids h1 =>
          simp at h; obtain ⟨rfl, rfl, rfl⟩ := h
          simp only [Rep] at hr
          obtain ⟨o, c, rfl, hr⟩ := hr
          have hcl := shareAll_length _ _ _ h1
          rcases hr with ⟨hn0, rfl⟩ | ⟨hnr, ad, hβ, rfl, cc, T, fz, hob, hroom⟩
          · obtain rfl : n = 0 := by omega
            have : cs = [] := List.length_eq_zero_iff.1 (by rw [hcl]; simp)
            subst this
            exact ⟨[none], by simp only [RepO]; exact ⟨o, 0, rfl, .inl (by simp)⟩, .gap .nil⟩
          · rcases hrel.blk id b hb with ⟨h2, _⟩ | ⟨ad', h2, h3⟩
            · rw [hβ] at h2; cases h2
            · rw [hβ] at h2; cases h2
              obtain ⟨c2, T2, hob2⟩ := h3.obj
              rw [hob2] at hob; cases hob
              refine ⟨[some (plusOff ad off)], ?_, .lies hb hl.2 hβ .nil⟩
              simp only [RepO]
              refine ⟨_, c, rfl, .inr ⟨by omega, _, rfl, rfl, rfl, ⟨_, _, hob2, by simpa using hroom, by simp; omega⟩, ?_⟩⟩
              exact shareAll_at (ok := fun i => Sees σ β A' i) (fun d e ids u h1 h2 h3 => share_spec hrel hA depth d e ids u h1 h2 h3) _ _ _ _ h1 hk ((h3.cells.drop h3.spot off).take rfl _)
      · cases h
  | .agg cs, e, sh, own, u, h, hk, hr => by
    simp only [fin] at h
    split at h
    · cases h
    next ds i j h1 =>
      simp at h; obtain ⟨rfl, rfl, rfl⟩ := h
      simp only [Rep] at hr
      obtain ⟨vs, rfl, hr⟩ := hr
      obtain ⟨bl, k1, k2⟩ := finL_spec hrel hA cs ds i j vs h1 hk hr
      exact ⟨bl, by simp only [RepO]; exact ⟨vs, rfl, k1⟩, k2⟩
  | .tup cs, e, sh, own, u, h, hk, hr => by
    simp only [fin] at h
    split at h
    · cases h
    next ds i j h1 =>
      simp at h; obtain ⟨rfl, rfl, rfl⟩ := h
      simp only [Rep] at hr
      obtain ⟨vs, rfl, hr⟩ := hr
      obtain ⟨bl, k1, k2⟩ := finL_spec hrel hA cs ds i j vs h1 hk hr
      exact ⟨bl, by simp only [RepO]; exact ⟨vs, rfl, k1⟩, k2⟩
  | .ow _ _ _, e, sh, own, u, h, _, _ => by simp [fin] at h
  | .ptr _ _, e, sh, own, u, h, _, _ => by simp [fin] at h
  | .pel _ _ _ _, e, sh, own, u, h, _, _ => by simp [fin] at h
  | .oc _, e, sh, own, u, h, _, _ => by simp [fin] at h
  | .shp _ _, e, sh, own, u, h, _, _ => by simp [fin] at h
  | .fn _ _, e, sh, own, u, h, _, _ => by simp [fin] at h
theorem finL_spec (hrel : Rel w A β base σ tmps acts) {A' : Nat → Prop} (hA : ∀ k, A k → A' k) : ∀ (ds es : List D) (sh own : List Nat) (vs : List Value), fin.finL σ.bk ds = some (es, sh, own) → (∀ i ∈ sh, Sees σ β A' i) → RepLs w A β ds vs →
    ∃ bl, RepOs w A' es vs bl ∧ Placed w σ β own bl
  | [], es, sh, own, vs, h, _, hr => by
    simp [fin.finL] at h; obtain ⟨rfl, rfl, rfl⟩ := h
    simp [RepLs] at hr
    exact ⟨[], by simp [RepOs, hr], .nil⟩
  | d :: ds, es, sh, own, vs, h, hk, hr => by
    simp only [fin.finL] at h
    split at h
    next e i j es' is js h1 h2 =>
      simp at h; obtain ⟨rfl, rfl, rfl⟩ := h
      simp only [RepLs] at hr
      obtain ⟨x, xs, rfl, r1, r2⟩ := hr
      obtain ⟨b1, k1, k2⟩ := fin_spec hrel hA d e i j x h1 (fun z hz => hk z (by simp [hz])) r1
      obtain ⟨b2, k3, k4⟩ := finL_spec hrel hA ds es' is js xs h2 (fun z hz => hk z (by simp [hz])) r2
      exact ⟨b1 ++ b2, by simp only [RepOs]; exact ⟨x, xs, b1, b2, rfl, rfl, k1, k3⟩, k2.append k4⟩
    · cases h
end

theorem RepL.repOs {A' : Nat → Prop} : ∀ (cs : List D) (vs : List Value), (∀ d ∈ cs, ∀ u, RepS w A' d u → RepO w A' d u []) → RepL w A' cs vs → RepOs w A' cs vs []
  | [], vs, _, h => by simp only [RepL] at h; simp [RepOs, h]
  | d :: ds, vs, hd, h => by
    simp only [RepL] at h
    obtain ⟨x, xs, rfl, h1, h2⟩ := h
    simp only [RepOs]
    exact ⟨x, xs, [], [], rfl, rfl, hd d (by simp) x h1, RepL.repOs ds xs (fun e he => hd e (by simp [he])) h2⟩

mutual
theorem RepS.repO {A' : Nat → Prop} : ∀ (d : D) (u : Value), RepS w A' d u → RepO w A' d u []
  | .undef, _, h => by simp only [RepO]; exact ⟨h, trivial⟩
  | .v _, _, h => by simp only [RepO]; exact ⟨h, trivial⟩
  | .sh _ _, _, h => by simp only [RepO]; exact ⟨h, trivial⟩
  | .shp _ _, _, h => by simp only [RepO]; exact ⟨h, trivial⟩
  | .rc _, _, h => by simp only [RepO]; exact ⟨h, trivial⟩
  | .oc _, _, h => by simp [RepS] at h
  | .pel _ _ _ _, _, h => by simp [RepS] at h
  | .emp, _, h => by simp only [RepO]; exact ⟨h, trivial⟩
  | .fn _ _, _, h => by simp only [RepO]; exact ⟨h, trivial⟩
  | .ow _ _ _, _, h => by simp [RepS] at h
  | .sl _ _ _ _, _, h => by simp [RepS] at h
  | .ptr _ _, _, h => by simp [RepS] at h
  | .agg cs, u, h => by
    simp only [RepS] at h
    obtain ⟨vs, rfl, h⟩ := h
    simp only [RepO]; exact ⟨vs, rfl, RepL.repO cs vs h⟩
  | .tup cs, u, h => by
    simp only [RepS] at h
    obtain ⟨vs, rfl, h⟩ := h
    simp only [RepO]; exact ⟨vs, rfl, RepL.repO cs vs h⟩
theorem RepL.repO {A' : Nat → Prop} : ∀ (cs : List D) (vs : List Value), RepL w A' cs vs → RepOs w A' cs vs []
  | [], vs, h => by simp only [RepL] at h; simp [RepOs, h]
  | d :: ds, vs, h => by
    simp only [RepL] at h
    obtain ⟨x, xs, rfl, h1, h2⟩ := h
    simp only [RepOs]
    exact ⟨x, xs, [], [], rfl, rfl, RepS.repO d x h1, RepL.repO ds xs h2⟩
end

theorem finS_spec (hrel : Rel w A β base σ tmps acts) {A' : Nat → Prop} (hA : ∀ k, A k → A' k) {d e : D} {sh : List Nat} {u : Value} (h : finS σ.bk d = some (e, sh)) (hk : ∀ i ∈ sh, Sees σ β A' i) (hr : Rep w A β d u) : RepO w A' e u [] := by
  unfold finS at h
  split at h
  next cs =>
    split at h
    · cases h
    next ds ids h1 =>
      simp at h; obtain ⟨rfl, rfl⟩ := h
      simp only [Rep] at hr
      obtain ⟨vs, rfl, hr⟩ := hr
      simp only [RepO]
      exact ⟨vs, rfl, RepL.repO _ _ (shareAll_spec (ok := fun i => Sees σ β A' i) (fun d e ids u h1 h2 h3 => share_spec hrel hA depth d e ids u h1 h2 h3) cs ds ids vs h1 hk hr)⟩
  · exact RepS.repO _ _ (share_spec hrel hA depth _ _ _ _ h hk hr)

/-- How a result is told: own slices handed over; or all shared. -/
inductive Fins (bk : Nat → Option Blk) (d e : D) : Prop
  | own {sh own : List Nat} : fin bk d = some (e, sh, own) → own.Nodup → (own.all fun i => !sh.contains i) = true → Fins bk d e
  | shared {sh : List Nat} {e0 : D} : share bk depth d = some (e0, sh) → Reads e0 e → Fins bk d e
  | sharedT {sh : List Nat} {cs ds es : List D} : d = .tup cs → shareAll (share bk depth) cs = some (ds, sh) → ReadsL ds es → e = .tup es → Fins bk d e

/-- The end of a function. -/
theorem finish_spec (hrel : Rel w A β base σ tmps acts) {d e : D} {u : Value} (h : Fins σ.bk d e) (hr : Rep w A β d u) :
    ∃ A' bl, RepO w A' e u bl ∧ Fresh w A' base bl ∧ (∀ k, A k → A' k) ∧ (∀ k, A' k → k < w.heap.size) ∧ (∀ k, A' k → k < base → A k) := by
  have main : ∀ (sh : List Nat), ∃ A' : Nat → Prop, (∀ k, A k → A' k) ∧ (∀ i ∈ sh, Sees σ β A' i) ∧ (∀ k, A' k → k < w.heap.size) ∧ (∀ k, A' k → k < base → A k) ∧ ∀ i b ad, i ∉ sh → σ.bk i = some b → b.ro = false → β i = some ad → ¬ A' ad.block := by
    intro sh
    refine ⟨fun k => A k ∨ ∃ i ∈ sh, ∃ b ad, σ.bk i = some b ∧ β i = some ad ∧ ad.block = k, fun k h => .inl h, fun i hi b ad hb ha => .inr ⟨i, hi, b, ad, hb, ha, rfl⟩, ?_, ?_, ?_⟩
    · rintro k (hk | ⟨i, _, b, ad, hb, ha, rfl⟩)
      · exact hrel.low k hk
      · exact blk_lt hrel hb ha
    · rintro k (hk | ⟨i, _, b, ad, hb, ha, rfl⟩) hlt
      · exact hk
      · rcases hrel.blk i b hb with ⟨h1, _⟩ | ⟨ad', h1, h2⟩
        · rw [ha] at h1; cases h1
        · rw [ha] at h1; cases h1
          have := h2.base
          omega
    · rintro i b ad hi hb hro ha (hk | ⟨j, hj, b', ad', hb', ha', he⟩)
      · rcases hrel.blk i b hb with ⟨h1, _⟩ | ⟨ad2, h1, h2⟩
        · rw [ha] at h1; cases h1
        · rw [ha] at h1; cases h1
          exact h2.own hro hk
      · exact hi (hrel.inj j i ad' ad (by simp [hb']) (by simp [hb]) ha' ha he ▸ hj)
  cases h with
  | shared h1 hrd =>
    rename_i sh e0
    obtain ⟨A', k1, k2, k3, k4, _⟩ := main sh
    exact ⟨A', [], RepS.repO _ _ (hrd _ _ _ (share_spec hrel k1 depth _ _ _ _ h1 k2 hr)), ⟨(fun ad h => by cases h), .nil⟩, k1, k3, k4⟩
  | sharedT hd h1 hrd he =>
    rename_i sh cs ds es
    subst hd he
    obtain ⟨A', k1, k2, k3, k4, _⟩ := main sh
    simp only [Rep] at hr
    obtain ⟨vs, rfl, hr⟩ := hr
    refine ⟨A', [], ?_, ⟨(fun ad h => by cases h), .nil⟩, k1, k3, k4⟩
    simp only [RepO]
    exact ⟨vs, rfl, RepL.repO _ _ (hrd.repL (shareAll_spec (ok := fun i => Sees σ β A' i) (fun d e ids u h1 h2 h3 => share_spec hrel k1 depth d e ids u h1 h2 h3) cs ds sh vs h1 k2 hr))⟩
  | own h1 hn ha =>
    rename_i sh own
    obtain ⟨A', k1, k2, k3, k4, k5⟩ := main sh
    obtain ⟨bl, r1, r2⟩ := fin_spec hrel k1 d e sh own u h1 k2 hr
    refine ⟨A', bl, r1, ⟨fun ad had => ?_, r2.apart hrel hn⟩, k1, k3, k4⟩
    obtain ⟨id, m1, b, a2, m2, m3, m4, m5⟩ := r2.mem ad had
    have hns : id ∉ sh := by
      have := List.all_eq_true.1 ha id m1
      simpa using this
    rcases hrel.blk id b m2 with ⟨q1, _⟩ | ⟨a3, q1, q2⟩
    · rw [m4] at q1; cases q1
    · rw [m4] at q1; cases q1
      rw [m5]
      exact ⟨q2.base, blk_lt hrel m2 m4, k5 id b a2 hns m2 m3 m4⟩

/-- The state in which a function begins. -/
def St.start (args : List D) (nt : Nat) : St := { (St.enter { fr := { nt := 0, tm := fun _ => .undef }, stk := [], bk := fun _ => none } args nt) with stk := [] }

theorem start_rel {args : List D} {vs : List Value} (hargs : RepL w A args vs) (low : ∀ k, A k → k < w.heap.size) (glo : GloOK w A) (nt : Nat) :
    Rel w A (fun _ => none) w.heap.size (St.start args nt) (vs.toArray ++ Array.replicate (nt - vs.toArray.size) undef) [] := by
  have h0 : Rel w A (fun _ => none) w.heap.size { fr := { nt := 0, tm := fun _ => .undef }, stk := [], bk := fun _ => none } #[] [] :=
    ⟨⟨rfl, fun t => by simp [Rep, RepS]⟩, .nil, (fun i b h => by cases h), (fun i j a b h => absurd rfl h), low, Nat.le_refl _, glo, trivial⟩
  have h1 := enter_rel h0 (RepL.repLs args vs hargs) nt
  exact ⟨h1.fr, .nil, h1.blk, h1.inj, h1.low, h1.top, h1.glo, trivial⟩

/-- A FUNCTION IS WHAT ITS BODY DOES. -/
theorem calls_of_runs {F : FuncId → List D → D → Prop} (hF : ∀ f as res, F f as res → CallsD P f as res) {f : FuncId} {fn : Func} {c : Code} (hb : bodyOf P f = some (fn, c)) {args : List D} {σ' : St} {e : Ex} {ds : List D} {res : D}
    (hr : Runs P F (.code c) (St.start args fn.ntmps) e σ') (he : e = .normal ∨ e = .ret) (hres : resD P σ' fn.results.toList = some ds) (hfin : Fins σ'.bk (resOut ds) res) : CallsD P f args res := by
  intro w A vs hargs low glo
  obtain ⟨hfn, hbody, _⟩ := body_spec hb
  have hs : Sound P F (.code c) (St.start args fn.ntmps) e σ' := runs_sound hF hr
  refine (callsIn_wide (n := 0)).1 (callsIn_of_wp_marks (F := FW none) hfn hbody trivial (hs none (.inl rfl) w A _ w.heap.size { tmps := _, defers := [] } [] _ (start_rel hargs low glo fn.ntmps) ?_))
  intro a' w1 A' β' hd hrel1 ht1
  refine bodyEnd he (Nat.le_refl _) low hd rfl hrel1 ht1 (fun w' hrel ht => ?_)
  obtain ⟨v, hv, hrep⟩ := results_run hrel hres
  obtain ⟨A2, bl, k1, k2, k3, k4, k5⟩ := finish_spec hrel hfin hrep
  exact ⟨v, hv, v, A2, bl, rfl, k1, k2, fun k hk => k3 k (ht.grows k hk), k4, fun k hk hlt => ht.old k (k5 k hk hlt) hlt, ht.below⟩

end
end Go.Dam
