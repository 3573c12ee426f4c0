/- The engine, part O: an abstract machine for the program's functions, proved right against the model. No condition. -/
import Derived.Test.YtpbngkempchamaaDamN
set_option linter.unusedSectionVars false
set_option linter.unusedVariables false
set_option linter.unusedSimpArgs false
namespace Go.Dam
open Go Go.RowKit
set_option linter.unusedSectionVars false
variable [Glo]
set_option linter.unusedSimpArgs false
set_option linter.unusedVariables false

mutual
/-- Fresh slices become blocks, with names from 'id' on. -/
def thaw (id : Nat) : D → D × List (List D)
  | .ow n sz cs => (.sl id 0 n ⟨sz, 0⟩, [cs])
  | .oc cs => (.sl id 0 (rowLen0 cs) ⟨cs.length, 0⟩, [rowCells0 cs])
  | .agg cs => (.agg (thawL id cs).1, (thawL id cs).2)
  | .tup cs => (.tup (thawL id cs).1, (thawL id cs).2)
  | d => (d, [])
def thawL (id : Nat) : List D → List D × List (List D)
  | [] => ([], [])
  | d :: ds => ((thaw id d).1 :: (thawL (id + (thaw id d).2.length) ds).1, (thaw id d).2 ++ (thawL (id + (thaw id d).2.length) ds).2)
end

def putBlocks (σ : St) (id : Nat) : List (List D) → St
  | [] => σ
  | c :: cs => putBlocks ((σ.forget id).setB id ⟨c, false⟩) (id + 1) cs

def BlkOne (w : World) (A : Nat → Prop) (c : List D) (oa : Option Addr) : Prop :=
  (oa = none ∧ c = []) ∨ ∃ ad, oa = some ad ∧ ad.spot = none ∧ (∃ cc T, w.heap[ad.block]? = some (.cells cc T (0, 0)) ∧ ad.off ≤ cc.size) ∧ RepAt w A c ad

inductive Blks (w : World) (A : Nat → Prop) : List (List D) → List (Option Addr) → Prop
  | nil : Blks w A [] []
  | cons {c : List D} {oa : Option Addr} {cs : List (List D)} {bl : List (Option Addr)} : BlkOne w A c oa → Blks w A cs bl → Blks w A (c :: cs) (oa :: bl)

theorem Blks.append {w : World} {A : Nat → Prop} : ∀ {cs ds : List (List D)} {bl bm : List (Option Addr)}, Blks w A cs bl → Blks w A ds bm → Blks w A (cs ++ ds) (bl ++ bm)
  | _, _, _, _, .nil, k => k
  | _, _, _, _, .cons h t, k => .cons h (t.append k)
theorem Blks.length {w : World} {A : Nat → Prop} : ∀ {cs : List (List D)} {bl : List (Option Addr)}, Blks w A cs bl → cs.length = bl.length
  | _, _, .nil => rfl
  | _, _, .cons _ t => by simp [t.length]

mutual
theorem thaw_spec {w : World} {A : Nat → Prop} : ∀ (d : D) (u : Value) (bl : List (Option Addr)) (id : Nat), RepO w A d u bl → Blks w A (thaw id d).2 bl ∧ ∀ β' : Env, (∀ k oa, bl[k]? = some oa → β' (id + k) = oa) → Rep w A β' (thaw id d).1 u
  | .ow n sz cs, u, bl, id, h => by
    simp only [RepO] at h
    obtain ⟨o, c, rfl, h⟩ := h
    simp only [thaw]
    rcases h with ⟨rfl, rfl, rfl, rfl⟩ | ⟨h1, ad, rfl, h3, rfl, ⟨cc, T, h4, h5, h6⟩, h7⟩
    · exact ⟨.cons (.inl ⟨rfl, rfl⟩) .nil, fun β' _ => by simp only [Rep]; exact ⟨o, 0, rfl, .inl (by simp)⟩⟩
    · refine ⟨.cons (.inr ⟨ad, rfl, h3, ⟨cc, T, h4, h6⟩, h7⟩) .nil, fun β' hβ => ?_⟩
      have := hβ 0 (some ad) (by simp)
      simp only [Rep]
      exact ⟨_, c, rfl, .inr ⟨by simpa using h1, ad, by simpa using this, by cases ad; simp at h3; simp [plusOff, h3], ⟨cc, T, (0, 0), h4, by simpa using h5⟩⟩⟩
  | .oc cs, u, bl, id, h => by
    simp only [RepO] at h
    obtain ⟨o, c, rfl, h⟩ := h
    simp only [thaw]
    rcases h with ⟨h1, rfl, h2, rfl⟩ | ⟨h1, ad, rfl, h3, rfl, ⟨cc, T, h4, h5, h6⟩, h7⟩
    · exact ⟨.cons (.inl ⟨rfl, h2⟩) .nil, fun β' _ => by simp only [Rep]; exact ⟨o, 0, rfl, .inl (by simp [h1])⟩⟩
    · refine ⟨.cons (.inr ⟨ad, rfl, h3, ⟨cc, T, h4, h6⟩, h7⟩) .nil, fun β' hβ => ?_⟩
      have := hβ 0 (some ad) (by simp)
      simp only [Rep]
      exact ⟨_, c, rfl, .inr ⟨by simpa using h1, ad, by simpa using this, by cases ad; simp at h3; simp [plusOff, h3], ⟨cc, T, (0, 0), h4, by simpa using h5⟩⟩⟩
  | .agg cs, u, bl, id, h => by
    simp only [RepO] at h
    obtain ⟨vs, rfl, h⟩ := h
    have := thawL_spec cs vs bl id h
    simp only [thaw]
    exact ⟨this.1, fun β' hβ => by simp only [Rep]; exact ⟨vs, rfl, this.2 β' hβ⟩⟩
  | .tup cs, u, bl, id, h => by
    simp only [RepO] at h
    obtain ⟨vs, rfl, h⟩ := h
    have := thawL_spec cs vs bl id h
    simp only [thaw]
    exact ⟨this.1, fun β' hβ => by simp only [Rep]; exact ⟨vs, rfl, this.2 β' hβ⟩⟩
  | .undef, u, bl, id, h => by simp only [RepO] at h; obtain ⟨h1, rfl⟩ := h; exact ⟨by simp only [thaw]; exact .nil, fun β' _ => by simp only [thaw]; exact RepS.rep _ _ h1⟩
  | .v x, u, bl, id, h => by simp only [RepO] at h; obtain ⟨h1, rfl⟩ := h; exact ⟨by simp only [thaw]; exact .nil, fun β' _ => by simp only [thaw]; exact RepS.rep _ _ h1⟩
  | .sh n cs, u, bl, id, h => by simp only [RepO] at h; obtain ⟨h1, rfl⟩ := h; exact ⟨by simp only [thaw]; exact .nil, fun β' _ => by simp only [thaw]; exact RepS.rep _ _ h1⟩
  | .sl a b c e, u, bl, id, h => by simp only [RepO] at h; obtain ⟨h1, rfl⟩ := h; exact ⟨by simp only [thaw]; exact .nil, fun β' _ => by simp only [thaw]; exact RepS.rep _ _ h1⟩
  | .ptr a b, u, bl, id, h => by simp only [RepO] at h; obtain ⟨h1, rfl⟩ := h; exact ⟨by simp only [thaw]; exact .nil, fun β' _ => by simp only [thaw]; exact RepS.rep _ _ h1⟩
  | .emp, u, bl, id, h => by simp only [RepO] at h; obtain ⟨h1, rfl⟩ := h; exact ⟨by simp only [thaw]; exact .nil, fun β' _ => by simp only [thaw]; exact RepS.rep _ _ h1⟩
  | .rc a, u, bl, id, h => by simp only [RepO] at h; obtain ⟨h1, rfl⟩ := h; exact ⟨by simp only [thaw]; exact .nil, fun β' _ => by simp only [thaw]; exact RepS.rep _ _ h1⟩
  | .pel a b c d, u, bl, id, h => by simp only [RepO] at h; obtain ⟨h1, rfl⟩ := h; exact ⟨by simp only [thaw]; exact .nil, fun β' _ => by simp only [thaw]; exact RepS.rep _ _ h1⟩
  | .shp a b, u, bl, id, h => by simp only [RepO] at h; obtain ⟨h1, rfl⟩ := h; exact ⟨by simp only [thaw]; exact .nil, fun β' _ => by simp only [thaw]; exact RepS.rep _ _ h1⟩
  | .fn a b, u, bl, id, h => by simp only [RepO] at h; obtain ⟨h1, rfl⟩ := h; exact ⟨by simp only [thaw]; exact .nil, fun β' _ => by simp only [thaw]; exact RepS.rep _ _ h1⟩
theorem thawL_spec {w : World} {A : Nat → Prop} : ∀ (ds : List D) (vs : List Value) (bl : List (Option Addr)) (id : Nat), RepOs w A ds vs bl → Blks w A (thawL id ds).2 bl ∧ ∀ β' : Env, (∀ k oa, bl[k]? = some oa → β' (id + k) = oa) → RepLs w A β' (thawL id ds).1 vs
  | [], vs, bl, id, h => by
    simp only [RepOs] at h; obtain ⟨rfl, rfl⟩ := h
    exact ⟨by simp only [thawL]; exact .nil, fun _ _ => by simp [thawL, RepLs]⟩
  | d :: ds, vs, bl, id, h => by
    simp only [RepOs] at h
    obtain ⟨x, xs, b1, b2, rfl, rfl, h1, h2⟩ := h
    obtain ⟨k1, k2⟩ := thaw_spec d x b1 id h1
    obtain ⟨k3, k4⟩ := thawL_spec ds xs b2 (id + (thaw id d).2.length) h2
    simp only [thawL]
    refine ⟨k1.append k3, fun β' hβ => ?_⟩
    simp only [RepLs]
    refine ⟨x, xs, rfl, k2 β' (fun k oa hk => hβ k oa ?_), k4 β' (fun k oa hk => ?_)⟩
    · rw [List.getElem?_append_left (List.getElem?_eq_some_iff.1 hk).1]; exact hk
    · have := hβ (b1.length + k) oa (by rw [List.getElem?_append_right (by omega)]; simpa using hk)
      rw [k1.length, Nat.add_assoc]; exact this
end

section
variable {P : Program} {w : World} {A : Nat → Prop} {base : Nat} {tmps : Array Value} {acts : List (Array Value)}

theorem putBlocks_spec : ∀ (bs : List (List D)) (bl : List (Option Addr)) (σ : St) (β : Env) (id : Nat), Rel w A β base σ tmps acts → Blks w A bs bl →
    (∀ ad, some ad ∈ bl → base ≤ ad.block ∧ ¬ A ad.block ∧ ∀ i a, σ.bk i ≠ none → β i = some a → a.block ≠ ad.block) →
    (bl.Pairwise fun x y => ∀ a b, x = some a → y = some b → a.block ≠ b.block) →
    ∃ β', Rel w A β' base (putBlocks σ id bs) tmps acts ∧ (∀ k oa, bl[k]? = some oa → β' (id + k) = oa) ∧ ∀ i, i < id → β' i = β i
  | [], bl, σ, β, id, h, hb, _, _ => by
    cases hb
    exact ⟨β, h, fun k oa hk => by simp at hk, fun _ _ => rfl⟩
  | c :: cs, _, σ, β, id, h, hb, hfree, hpw => by
    cases hb with
    | @cons _ oa _ bl h1 h2 =>
    rw [List.pairwise_cons] at hpw
    have hr := h.rebind (w' := w) id oa (.refl _ _) h.top (Nat.le_refl _) (.refl _) (fun _ _ _ _ _ _ => rfl)
    have hlive : ∀ i a, i ≠ id → (σ.forget id).bk i ≠ none → (β.set id oa) i = some a → σ.bk i ≠ none ∧ β i = some a := by
      intro i a hi hbk ha
      rw [Env.set_other _ _ hi] at ha
      simp only [St.forget, if_neg hi] at hbk
      exact ⟨fun e => hbk (by simp [e]), ha⟩
    have hs : Rel w A (β.set id oa) base ((σ.forget id).setB id ⟨c, false⟩) tmps acts := by
      refine hr.setB id _ ?_ ?_
      · rcases h1 with ⟨rfl, rfl⟩ | ⟨ad, rfl, h3, ⟨cc, T, h4, h5⟩, h6⟩
        · exact .inl (And.intro (Env.set_same _ _ _) rfl)
        · obtain ⟨f1, f2, _⟩ := hfree ad (by simp)
          exact .inr ⟨ad, Env.set_same _ _ _, ⟨h3, f1, ⟨cc, T, h4⟩, RepAt.cellsAt (fun d u h => RepS.rep d u h) h6, fun _ => f2, fun e => (by cases e), fun c1 T1 h7 => by rw [h4] at h7; cases h7; exact h5⟩⟩
      · intro i a ad hi hbk ha had
        rw [Env.set_same] at had
        subst had
        obtain ⟨g1, g2⟩ := hlive i a hi hbk ha
        exact (hfree ad (by simp)).2.2 i a g1 g2
    obtain ⟨β', k1, k2, k3⟩ := putBlocks_spec cs bl _ _ (id + 1) hs h2 (fun ad had => by
      obtain ⟨f1, f2, f3⟩ := hfree ad (by simp [had])
      refine ⟨f1, f2, fun i a hbk ha => ?_⟩
      by_cases hi : i = id
      · subst hi
        rw [Env.set_same] at ha
        exact hpw.1 (some ad) had a ad ha rfl
      · obtain ⟨g1, g2⟩ := hlive i a hi (by simpa [St.setB, hi] using hbk) ha
        exact f3 i a g1 g2) hpw.2
    refine ⟨β', k1, fun k oa' hk => ?_, fun i hi => ?_⟩
    · cases k with
      | zero => simp at hk; subst hk; rw [Nat.add_zero, k3 id (by omega), Env.set_same]
      | succ k => rw [← Nat.add_assoc, Nat.add_right_comm]; exact k2 k oa' (by simpa using hk)
    · rw [k3 i (by omega), Env.set_other _ _ (by omega)]

end

/-- Blocks are read-only from here on. -/
def St.markRo (σ : St) (ids : List Nat) : St := { σ with bk := fun i => if i ∈ ids then (σ.bk i).map fun b => { b with ro := true } else σ.bk i }

section
variable {P : Program} {w : World} {A : Nat → Prop} {β : Env} {base : Nat} {σ : St} {tmps : Array Value} {acts : List (Array Value)}

theorem Rel.markRo (h : Rel w A β base σ tmps acts) (ids : List Nat) {A' : Nat → Prop} (hA : ∀ k, A k → A' k) (low : ∀ k, A' k → k < w.heap.size)
    (hin : ∀ i ∈ ids, Sees σ β A' i) (hout : ∀ i b ad, i ∉ ids → σ.bk i = some b → β i = some ad → A' ad.block → A ad.block) (hlp : LoopRep w A' β base σ.loop acts) : Rel w A' β base (σ.markRo ids) tmps acts where
  fr := h.fr.mono (.refl _ _) hA (fun _ _ _ => rfl)
  stk := h.stk.mono (.refl _ _) hA (fun _ _ _ _ _ => rfl)
  blk := fun i b hb => by
    simp only [St.markRo] at hb
    split at hb
    next hi =>
      simp only [Option.map_eq_some_iff] at hb
      obtain ⟨b0, hb0, rfl⟩ := hb
      rcases h.blk i b0 hb0 with ⟨h1, h2⟩ | ⟨ad, h1, h2⟩
      · exact .inl ⟨h1, h2⟩
      · exact .inr ⟨ad, h1, ⟨h2.spot, h2.base, h2.obj, CellsAt.mono (.refl _ _) hA _ _ rfl (fun _ _ => rfl) h2.cells, (fun e => by cases e), fun _ => hin i hi b0 ad hb0 h1, h2.inside⟩⟩
    next hi =>
      rcases h.blk i b hb with ⟨h1, h2⟩ | ⟨ad, h1, h2⟩
      · exact .inl ⟨h1, h2⟩
      · exact .inr ⟨ad, h1, ⟨h2.spot, h2.base, h2.obj, CellsAt.mono (.refl _ _) hA _ _ rfl (fun _ _ => rfl) h2.cells, fun hr ha => h2.own hr (hout i b ad hi hb h1 ha), fun hr => hA _ (h2.shared hr), h2.inside⟩⟩
  inj := fun i j a b hi hj => h.inj i j a b (fun e => hi (by simp only [St.markRo]; split <;> simp [e])) (fun e => hj (by simp only [St.markRo]; split <;> simp [e]))
  low := low
  top := h.top
  glo := h.glo.grow hA
  lp := hlp

end

/-- Depth to which arguments are told. -/
def depth : Nat := 12

/-- THE STEP OF A CALL by what the function does ('F'). -/
def CallD (F : FuncId → List D → D → Prop) (σ : St) (dst : Option Tmp) (id : Nat) (f : FuncId) (args : List D) (σ' : St) : Prop :=
  ∃ as passed res, shareAll (share σ.bk depth) args = some (as, passed) ∧ F f as res ∧ σ' = (putBlocks (if flat res then σ else σ.markRo passed) id (thaw id res).2).put dst (thaw id res).1

section
variable {P : Program} {w : World} {A : Nat → Prop} {β : Env} {base : Nat} {σ : St} {a : Act} {acts : List (Array Value)}

theorem call_sound {F : FuncId → List D → D → Prop} (hF : ∀ f as res, F f as res → CallsD P f as res) (hrel : Rel w A β base σ a.tmps acts) {dst : Option Tmp} {id : Nat} {f : FuncId} {args : List D} {vs : List Value}
    (hargs : RepLs w A β args vs) {σ' : St} (h : CallD F σ dst id f args σ') :
    Calls P f vs.toArray w fun e w' => ∃ v A' β', e = .returned v ∧ Rel w' A' β' base σ' (a.put dst v).tmps acts ∧ Turn A A' base w w' := by
  obtain ⟨as, passed, res, hsh, hres, rfl⟩ := h
  · · -- what the callee may read
      let A1 : Nat → Prop := fun k => A k ∨ ∃ i ∈ passed, ∃ b ad, σ.bk i = some b ∧ β i = some ad ∧ ad.block = k
      have hA1 : ∀ k, A k → A1 k := fun k h => .inl h
      have hlow1 : ∀ k, A1 k → k < w.heap.size := by
        rintro k (hk | ⟨i, _, b, ad, hb, ha, rfl⟩)
        · exact hrel.low k hk
        · exact blk_lt hrel hb ha
      have has : RepL w A1 as vs := shareAll_spec (ok := fun i => Sees σ β A1 i) (fun d e ids u h1 h2 h3 => share_spec hrel hA1 depth d e ids u h1 h2 h3) args as passed vs hsh
        (fun i hi b ad hb ha => .inr ⟨i, hi, b, ad, hb, ha, rfl⟩) hargs
      refine (hF f as res hres w A1 vs has hlow1 (hrel.glo.grow hA1)).mono ?_
      rintro e w' ⟨v, A', bl, rfl, hO, hfresh, hA', hlow', hold, hbelow⟩
      have hx : Ext A w w' := ⟨fun k hk => hbelow.block k (hrel.low k hk), fun b m ⟨c, T, fz, h1, h2⟩ => ⟨c, T, fz, by
        have : b < w.heap.size := by
          rcases Nat.lt_or_ge b w.heap.size with h | h
          · exact h
          · rw [Array.getElem?_eq_none h] at h1; cases h1
        rw [hbelow.block b this]; exact h1, h2⟩⟩
      -- the state, in the world behind the call
      have hcar : Rel w' A β base σ a.tmps acts := hrel.carry hx (fun _ h => h) (fun k hk => Nat.lt_of_lt_of_le (hrel.low k hk) hbelow.size) (Nat.le_trans hrel.top hbelow.size) (fun _ _ _ => rfl) (fun _ _ _ _ _ => rfl)
        (fun i b hb => ⟨rfl, fun _ _ => rfl, fun ad ha => ⟨hbelow.block _ (blk_lt hrel hb ha), fun h => h⟩⟩) (hrel.lp.mono (.below hbelow) (.refl _ _) (fun _ => rfl))
      have hblk : ∀ i b ad, σ.bk i = some b → β i = some ad → ad.block < w.heap.size := fun i b ad hb ha => blk_lt hrel hb ha
      have hfin : ∃ A2, Rel w' A2 β base (if flat res then σ else σ.markRo passed) a.tmps acts ∧ RepO w' A2 res v bl ∧ (∀ k, A k → A2 k) ∧ (∀ ad, some ad ∈ bl → ¬ A2 ad.block) ∧ (∀ k, A2 k → k < base → A k) ∧ New A A2 w := by
        by_cases hfl : flat res = true
        · rw [if_pos hfl]
          exact ⟨A, hcar, flatO_any res v bl hfl hO, fun _ h => h, fun ad had ha => (hfresh.each ad had).2.2 (hA' _ (hA1 _ ha)), fun _ h _ => h, .refl _ _⟩
        · rw [if_neg hfl]
          have hnew : New A A' w := by
            intro k o hk ho ha
            rcases hold k ha (Array.getElem?_eq_some_iff.1 hk).1 with h1 | ⟨j, hj, b', ad', hb', ha', rfl⟩
            · exact h1
            · rcases hrel.blk j b' hb' with ⟨q1, _⟩ | ⟨a3, q1, q2⟩
              · rw [ha'] at q1; cases q1
              · rw [ha'] at q1; cases q1
                obtain ⟨c, T, hobj⟩ := q2.obj
                rw [hobj] at hk; cases hk; cases ho
          refine ⟨A', ?_, hO, fun k hk => hA' k (hA1 k hk), fun ad had => (hfresh.each ad had).2.2, ?_, hnew⟩
          refine hcar.markRo passed (fun k hk => hA' k (hA1 k hk)) hlow' ?_ ?_ (hrel.lp.mono (.below hbelow) hnew (fun _ => rfl))
          · intro i hi b ad hb ha
            exact hA' _ (.inr ⟨i, hi, b, ad, hb, ha, rfl⟩)
          · intro i b ad hi hb ha hin
            rcases hold _ hin (hblk i b ad hb ha) with h1 | ⟨j, hj, b', ad', hb', ha', he⟩
            · exact h1
            · exact absurd (hrel.inj j i ad' ad (by simp [hb']) (by simp [hb]) ha' ha he ▸ hj) hi
          · intro k hk hlt
            rcases hold k hk (Nat.lt_of_lt_of_le hlt hrel.top) with h1 | ⟨j, hj, b', ad', hb', ha', rfl⟩
            · exact h1
            · rcases hrel.blk j b' hb' with ⟨q1, _⟩ | ⟨a3, q1, q2⟩
              · rw [ha'] at q1; cases q1
              · rw [ha'] at q1; cases q1
                have := q2.base
                omega
      obtain ⟨A2, hr2, hO2, hA2, hne, hold2, hnew2⟩ := hfin
      obtain ⟨t1, t2⟩ := thaw_spec res v bl id hO2
      have hbk2 : ∀ i, (if flat res then σ else σ.markRo passed).bk i ≠ none → σ.bk i ≠ none := by
        intro i h e
        apply h
        split
        · exact e
        · simp only [St.markRo]; split <;> simp [e]
      obtain ⟨β', k1, k2, k3⟩ := putBlocks_spec _ bl _ β id hr2 t1 (fun ad had => by
        obtain ⟨f1, f2, f3⟩ := hfresh.each ad had
        refine ⟨Nat.le_trans hrel.top f1, hne ad had, fun i a2 hbk ha => ?_⟩
        obtain ⟨b, hb⟩ := Option.ne_none_iff_exists'.1 (hbk2 i hbk)
        have := hblk i b a2 hb ha
        omega) hfresh.apart
      exact ⟨v, A2, β', rfl, k1.putA dst (t2 β' k2), ⟨hx, hA2, hbelow.mono hrel.top, hold2, .strict (.below hbelow) hnew2⟩⟩
end
end Go.Dam
