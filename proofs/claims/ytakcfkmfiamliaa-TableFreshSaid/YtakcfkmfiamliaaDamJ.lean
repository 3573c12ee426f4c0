/- The engine: an abstract machine for the program's functions, proved right against the model. No condition. -/
import Derived.Test.YtakcfkmfiamliaaDamH
set_option linter.unusedSectionVars false
set_option linter.unusedVariables false
set_option linter.unusedSimpArgs false
section
namespace Go.Dam
open Go Go.RowKit
set_option linter.unusedSectionVars false
variable [Glo]
set_option linter.unusedSimpArgs false
set_option linter.unusedVariables false
section
variable {P : Program} {w : World} {A : Nat → Prop} {β : Env} {base : Nat} {σ : St} {tmps : Array Value} {acts : List (Array Value)}
/-- What a run has come to, by an effect. -/
def Good (P : Program) (w : World) (A : Nat → Prop) (β : Env) (r : Result Next) : Eff → Prop
  | .val d => ∃ u, r = .ok (.value u) w ∧ Rep w A β d u
  | .box cs => ∃ T vs, RepLs w A β cs vs ∧ r = .ok (.value (.pointer (some ⟨w.heap.size, 0, none⟩))) (w.alloc (.cells vs.toArray T))
  | .row cs n sz => ∃ T vs cap, RepLs w A β cs vs ∧ n ≤ cap ∧ cap * sz ≤ vs.length ∧ r = .ok (.value (.slice (some ⟨w.heap.size, 0, none⟩) n cap)) (w.alloc (.cells vs.toArray T))
  | .row0 => ∃ T vs, r = .ok (.value (.slice (some ⟨w.heap.size, 0, none⟩) 0 0)) (w.alloc (.cells vs T))
  | .sto id off ds => ∃ ad vs, β id = some ad ∧ RepLs w A β ds vs ∧ (∀ u ∈ vs, u.oneCell' = true) ∧ r = ((storeCells (plusOff ad off) vs).run P w).andThen fun _ w' => .ok .skip w'
  | .cpy id off ds u => ∃ ad vs, β id = some ad ∧ RepLs w A β ds vs ∧ (∀ u ∈ vs, u.oneCell' = true) ∧ r = ((storeCells (plusOff ad off) vs).run P w).andThen fun _ w' => .ok (.value u) w'
  | .app s sz m ds => ∃ (t t2 ty e : TypeId) (e2 : TypeId) (i : TypeInfo) (z : Value) (o : Option Addr) (n c : Nat) (x : Value) (vs : List Value),
      P.underlying t = some (.slice e) ∧ P.underlying t2 = some (.slice e2) ∧ P.info? e = some i ∧ i.zero = some z ∧ z.cells.size = i.size ∧ 1 ≤ i.bytes ∧ sz = i.size ∧ Src P w sz m x vs ∧ RepLs w A β ds vs ∧
      (∀ u ∈ vs, u.oneCell' = true) ∧ (n + m) * i.bytes ≤ 2 ^ 44 ∧ ds.length = m * sz ∧ Rep w A β s (.slice o n c) ∧ (∀ id off n' sz', s = .sl id off n' sz' → sz'.s = sz) ∧ (∀ u, s = .v u → u = .slice none 0 0) ∧
      r = ((Builtin.append_ #[t, t2] ty #[.slice o n c, x]).run P w).andThen fun v w' => .ok (.value v) w'
theorem infoD_spec {t : TypeId} {sz : Nat} {d : TypeDesc} (h : infoD P t = some (sz, d)) : ∃ i, P.info? t = some i ∧ i.size = sz ∧ P.underlying t = some d := by
  unfold infoD at h
  split at h
  next i d' h1 h2 => simp at h; obtain ⟨rfl, rfl⟩ := h; exact ⟨i, h1, rfl, h2⟩
  next => cases h
theorem isAgg_run {t : TypeId} {d : TypeDesc} (h : P.underlying t = some d) (w : World) : (isAgg t).run P w = .ok (aggD d) w := by
  unfold isAgg
  simp only [Sem.run_bind, run_underlying h, Result.andThen_ok]
  cases d <;> rfl
/-- A variable is loaded. -/
theorem load_run {t : TypeId} {cs : List D} {off : Nat} {ad : Addr} {d : D} (hs : ad.spot = none) (hc : CellsAt w A β cs ad) (h : takeD P t cs off = some d) :
    ∃ u, (loadVar t (plusOff ad off)).run P w = .ok u w ∧ Rep w A β d u := by
  unfold takeD at h
  split at h
  · cases h
  next sz dd hi =>
    obtain ⟨i, h1, rfl, h2⟩ := infoD_spec hi
    split at h
    next hag =>
      split at h
      next hl =>
        simp at h; subst h
        have hlen : ((cs.drop off).take i.size).length = i.size := by simp; omega
        obtain ⟨vs, k1, k2⟩ := loadCells_run P rfl ((hc.drop hs off).take rfl i.size)
        refine ⟨.agg vs.toArray, ?_, by simp only [Rep]; exact ⟨vs, rfl, k2⟩⟩
        rw [hlen] at k1
        simp [loadVar, isAgg_run h2, hag, run_sizeOf h1, k1]
      · cases h
    next hag =>
      obtain ⟨u, k1, k2⟩ := hc.get hs off d h
      refine ⟨u, ?_, k2⟩
      simp [loadVar, isAgg_run h2, hag, k1]
/-- A part of a value. -/
theorem part_run {t : TypeId} {cs : List D} {vs : List Value} {off : Nat} {d : D} (hc : RepLs w A β cs vs) (h : takeD P t cs off = some d) :
    ∃ u, (part t vs.toArray off).run P w = .ok u w ∧ Rep w A β d u := by
  unfold takeD at h
  split at h
  · cases h
  next sz dd hi =>
    obtain ⟨i, h1, rfl, h2⟩ := infoD_spec hi
    split at h
    next hag =>
      split at h
      next hl =>
        simp at h; subst h
        refine ⟨.agg (vs.toArray.extract off (off + i.size)), ?_, ?_⟩
        · simp [part, isAgg_run h2, hag, run_sizeOf h1]
        · simp only [Rep]
          refine ⟨(vs.drop off).take i.size, ?_, (hc.drop off).take _⟩
          congr 1
          apply Array.ext'
          simp [List.extract_eq_take_drop]
      · cases h
    next hag =>
      obtain ⟨u, k1, k2⟩ := hc.get off d h
      refine ⟨u, ?_, k2⟩
      simp [part, isAgg_run h2, hag, k1]
theorem behind_spec (h : Rel w A β base σ tmps acts) {a : D} {va : Value} (ha : Rep w A β a va) {cs : List D} {off : Nat} (hb : a.behind σ.bk = some (cs, off)) (hne : cs ≠ []) :
    ∃ ad, va = .pointer (some (plusOff ad off)) ∧ ad.spot = none ∧ CellsAt w A β cs ad := by
  cases a with
  | ptr id o =>
    simp only [D.behind, Option.map_eq_some_iff] at hb
    obtain ⟨b, hb, he⟩ := hb
    simp at he; obtain ⟨rfl, rfl⟩ := he
    simp only [Rep] at ha
    obtain ⟨ad, h1, rfl⟩ := ha
    rcases h.blk id b hb with ⟨h2, _⟩ | ⟨ad', h2, h3⟩
    · rw [h1] at h2; cases h2
    · rw [h1] at h2; cases h2
      exact ⟨ad, rfl, h3.spot, h3.cells⟩
  | pel id i n j =>
    simp only [D.behind, Option.map_eq_some_iff] at hb
    obtain ⟨b, hb, he⟩ := hb
    simp at he; obtain ⟨rfl, rfl⟩ := he
    simp only [Rep] at ha
    obtain ⟨ad, h1, rfl⟩ := ha
    rcases h.blk id b hb with ⟨h2, _⟩ | ⟨ad', h2, h3⟩
    · rw [h1] at h2; cases h2
    · rw [h1] at h2; cases h2
      exact ⟨ad, rfl, h3.spot, h3.cells⟩
  | shp c o =>
    simp [D.behind] at hb; obtain ⟨rfl, rfl⟩ := hb
    simp only [Rep, RepS] at ha
    obtain ⟨ad, rfl, h1, _, h2⟩ := ha
    exact ⟨ad, rfl, h1, h2.cellsAt (fun d u h => RepS.rep d u h)⟩
  | _ => simp [D.behind] at hb
theorem cells_spec {x : D} {v : Value} (hr : Rep w A β x v) {cs : List D} (h : x.cells = some cs) : RepLs w A β cs v.cells.toList := by
  cases x with
  | agg ds => simp [D.cells] at h; subst h; simp only [Rep] at hr; obtain ⟨vs, rfl, hr⟩ := hr; simpa [Value.cells] using hr
  | v y => simp [D.cells] at h; subst h; simp only [Rep, RepS] at hr; subst hr; simpa using RepLs.ofV (w := w) (A := A) (β := β) v.cells.toList
  | sh n ds => simp [D.cells] at h; subst h; have hr0 := hr; simp only [Rep, RepS] at hr; obtain ⟨o, c, rfl, _⟩ := hr; simp [Value.cells, RepLs]; exact hr0
  | sl id off n sz => simp [D.cells] at h; subst h; have hr0 := hr; simp only [Rep] at hr; obtain ⟨o, c, rfl, _⟩ := hr; simp [Value.cells, RepLs]; exact hr0
  | ptr id off => simp [D.cells] at h; subst h; have hr0 := hr; simp only [Rep] at hr; obtain ⟨ad, _, rfl⟩ := hr; simp [Value.cells, RepLs]; exact hr0
  | shp ds off => simp [D.cells] at h; subst h; have hr0 := hr; simp only [Rep, RepS] at hr; obtain ⟨ad, rfl, _⟩ := hr; simp [Value.cells, RepLs]; exact hr0
  | fn f ds => simp [D.cells] at h; subst h; have hr0 := hr; simp only [Rep] at hr; obtain ⟨vs, rfl, _⟩ := hr; simp [Value.cells, RepLs]; exact hr0
  | emp => simp [D.cells] at h; subst h; have hr0 := hr; simp only [Rep, RepS] at hr; obtain ⟨o, rfl⟩ := hr; simp [Value.cells, RepLs]; exact hr0
  | rc ds => simp [D.cells] at h; subst h; have hr0 := hr; simp only [Rep, RepS] at hr; obtain ⟨o, c, rfl, _⟩ := hr; simp [Value.cells, RepLs]; exact hr0
  | pel id i n j => simp [D.cells] at h; subst h; have hr0 := hr; simp only [Rep] at hr; obtain ⟨ad, _, rfl⟩ := hr; simp [Value.cells, RepLs]; exact hr0
  | oc _ => simp [D.cells] at h
  | undef => simp [D.cells] at h
  | ow _ _ _ => simp [D.cells] at h
  | tup _ => simp [D.cells] at h
  | yld => simp [D.cells] at h
theorem one_spec {x : D} {v : Value} (hr : Rep w A β x v) (h : x.one = true) : v.oneCell' = true := by
  cases x with
  | v y => simp [D.one] at h; simp only [Rep, RepS] at hr; subst hr; exact h
  | sh n ds => simp only [Rep, RepS] at hr; obtain ⟨o, c, rfl, _⟩ := hr; rfl
  | sl id off n sz => simp only [Rep] at hr; obtain ⟨o, c, rfl, _⟩ := hr; rfl
  | ptr id off => simp only [Rep] at hr; obtain ⟨ad, _, rfl⟩ := hr; rfl
  | shp ds off => simp only [Rep, RepS] at hr; obtain ⟨ad, rfl, _⟩ := hr; rfl
  | fn f ds => simp only [Rep] at hr; obtain ⟨vs, rfl, _⟩ := hr; rfl
  | emp => simp only [Rep, RepS] at hr; obtain ⟨o, rfl⟩ := hr; rfl
  | rc ds => simp only [Rep, RepS] at hr; obtain ⟨o, c, rfl, _⟩ := hr; rfl
  | pel id i n j => simp only [Rep] at hr; obtain ⟨ad, _, rfl⟩ := hr; rfl
  | _ => simp [D.one] at h
theorem ones_spec : ∀ {cs : List D} {vs : List Value}, RepLs w A β cs vs → cs.all D.one = true → ∀ u ∈ vs, u.oneCell' = true
  | [], vs, h, _, u, hu => by simp [RepLs] at h; subst h; cases hu
  | d :: ds, vs, h, ho, u, hu => by
    simp only [RepLs] at h
    obtain ⟨x, xs, rfl, h1, h2⟩ := h
    simp at ho hu
    rcases hu with rfl | hu
    · exact one_spec h1 ho.1
    · exact ones_spec h2 (by simpa using ho.2) u hu
inductive PartsRep (w : World) (A : Nat → Prop) (β : Env) : List (Nat × D) → List (Nat × Value) → Prop
  | nil : PartsRep w A β [] []
  | cons {i : Nat} {d : D} {v : Value} {ps : List (Nat × D)} {qs : List (Nat × Value)} : Rep w A β d v → PartsRep w A β ps qs → PartsRep w A β ((i, d) :: ps) ((i, v) :: qs)
theorem fillD_spec (place : Nat → Option (Nat × Nat)) : ∀ (parts : List (Nat × D)) (vparts : List (Nat × Value)) (cells : List D) (vcells : Array Value) (out : List D),
    PartsRep w A β parts vparts → RepLs w A β cells vcells.toList → fillD place cells parts = some out →
    ∃ vout : Array Value, Instr.fill place vcells vparts = some vout ∧ RepLs w A β out vout.toList
  | [], _, cells, vcells, out, hf, hr, h => by
    cases hf
    simp [fillD] at h; subst h
    exact ⟨vcells, by simp [Instr.fill], hr⟩
  | (i, x) :: rest, _, cells, vcells, out, hf, hr, h => by
    cases hf with
    | @cons _ _ v _ qs hx h2 =>
    simp only [fillD] at h
    split at h
    next off size ds hp hc =>
      split at h
      next hl =>
        have hcs := cells_spec hx hc
        have hlen := hcs.length
        have hlen2 := hr.length
        simp only [Array.length_toList] at hlen hlen2
        have hput : RepLs w A β (splice cells off ds) (v.cells.zipIdx.foldl (fun cs (c, j) => cs.setIfInBounds (off + j) c) vcells).toList := by
          have hfold : ∀ (us : List Value) (k : Nat) (c : Array Value), (us.zipIdx k).foldl (fun cs (c, j) => cs.setIfInBounds (off + j) c) c = putAt c (off + k) us := by
            intro us
            induction us with
            | nil => intro k c; rfl
            | cons u us ih => intro k c; simp only [List.zipIdx_cons, List.foldl_cons, ih, putAt]; rw [Nat.add_assoc]
          have hfold' : v.cells.zipIdx.foldl (fun cs (c, j) => cs.setIfInBounds (off + j) c) vcells = putAt vcells off v.cells.toList := by
            have := hfold v.cells.toList 0 vcells
            rw [← Array.foldl_toList, Array.toList_zipIdx]
            simpa using this
          rw [hfold']
          refine RepLs.of_get ?_ ?_
          · simp [splice, putAt_size]; omega
          · intro j d hj
            rw [splice_get (by omega)] at hj
            rw [Array.getElem?_toList, putAt_get _ _ _ _ (by simp; omega)]
            split at hj
            next hin =>
              obtain ⟨u, k1, k2⟩ := hcs.get _ _ hj
              exact ⟨u, by rw [if_pos (by simp; omega)]; exact k1, k2⟩
            next hout =>
              obtain ⟨u, k1, k2⟩ := hr.get _ _ hj
              exact ⟨u, by rw [if_neg (by simp; omega)]; simpa using k1, k2⟩
        obtain ⟨vout, k1, k2⟩ := fillD_spec place rest qs _ _ out h2 hput h
        refine ⟨vout, ?_, k2⟩
        simp only [Instr.fill, hp]
        rw [if_neg (by simp; omega)]
        exact k1
      · cases h
    · cases h
theorem parts_spec {ρ : Operand → D} {ρv : Operand → Value} (hρ : ∀ x, Rep w A β (ρ x) (ρv x)) : ∀ (ps : List (Nat × Operand)), PartsRep w A β (ps.map fun p => (p.1, ρ p.2)) (ps.map fun p => (p.1, ρv p.2))
  | [] => .nil
  | p :: ps => .cons (hρ _) (parts_spec hρ ps)
theorem zero_spec {t : TypeId} {z : List D} (h : zeroD P t = some z) : ∃ i v, P.info? t = some i ∧ i.zero = some v ∧ z = v.cells.toList.map .v := by
  unfold zeroD at h
  split at h
  · cases h
  next i hi =>
    split at h
    · cases h
    next v hv => simp at h; exact ⟨i, v, hi, hv, h.symm⟩
theorem places_run : ∀ (fs : List Field) (w : World), (∀ f ∈ fs, (P.info? f.type).isSome = true) → (fs.mapM (fun f => do pure (f.offset, ← sizeOf f.type)) : Sem (List (Nat × Nat))).run P w = .ok (fs.map fun f => (f.offset, ((P.info? f.type).map (·.size)).getD 0)) w
  | [], w, _ => rfl
  | f :: fs, w, hall => by
    obtain ⟨j, hj⟩ := Option.isSome_iff_exists.1 (hall f (by simp))
    have ih := places_run fs w (fun g hg => hall g (by simp [hg]))
    simp only [List.mapM_cons, Sem.run_bind, run_sizeOf hj, Result.andThen_ok, Sem.run_pure, ih, List.map_cons, hj, Option.map_some, Option.getD_some]
theorem build_sound {ρ : Operand → D} {ρv : Operand → Value} (hρ : ∀ x, Rep w A β (ρ x) (ρv x)) {t : TypeId} {parts : Array (Nat × Operand)} {e : Eff} (h : buildD P t (parts.toList.map fun p => (p.1, ρ p.2)) = some e) :
    ∃ d u, e = .val d ∧ (Instr.build t (parts.map fun (i, x) => (i, ρv x))).run P w = .ok u w ∧ Rep w A β d u := by
  have hp : (parts.map fun (i, x) => (i, ρv x)).toList = parts.toList.map fun p => (p.1, ρv p.2) := by simp
  unfold buildD at h
  split at h
  next zero fields hz hu =>
    obtain ⟨i, z, hi, hzz, rfl⟩ := zero_spec hz
    split at h
    next hall =>
      simp only [Option.map_eq_some_iff] at h
      obtain ⟨cs, hf, rfl⟩ := h
      obtain ⟨vout, k1, k2⟩ := fillD_spec _ _ _ _ z.cells _ (parts_spec hρ parts.toList) (RepLs.ofV _) hf
      refine ⟨_, .agg vout, rfl, ?_, by simp only [Rep]; exact ⟨vout.toList, by simp, k2⟩⟩
      have hall' : ∀ f ∈ fields.toList, (P.info? f.type).isSome = true := fun f hf => List.all_eq_true.1 hall f hf
      simp only [Instr.build, Sem.run_bind, run_zeroValue hi hzz, Result.andThen_ok, run_underlying hu, Array.mapM_eq_mapM_toList, Sem.run_map, places_run fields.toList w hall', hp]
      have hpl : (fun (x : Nat) => ((fields.toList.map fun f => (f.offset, ((P.info? f.type).map (·.size)).getD 0)).toArray)[x]?) = fun i => (fields.toList.map fun f => (f.offset, ((P.info? f.type).map (·.size)).getD 0))[i]? := by funext i; simp
      rw [hpl, k1]
      rfl
    next => cases h
  next zero len elem hz hu =>
    obtain ⟨i, z, hi, hzz, rfl⟩ := zero_spec hz
    split at h
    · cases h
    next j hj =>
      simp only [Option.map_eq_some_iff] at h
      obtain ⟨cs, hf, rfl⟩ := h
      obtain ⟨vout, k1, k2⟩ := fillD_spec _ _ _ _ z.cells _ (parts_spec hρ parts.toList) (RepLs.ofV _) hf
      refine ⟨_, .agg vout, rfl, ?_, by simp only [Rep]; exact ⟨vout.toList, by simp, k2⟩⟩
      simp only [Instr.build, Sem.run_bind, run_zeroValue hi hzz, Result.andThen_ok, run_underlying hu, run_sizeOf hj, hp, k1]
      rfl
  · cases h
end
end Go.Dam
end

section
namespace Go.Dam
open Go Go.RowKit
set_option linter.unusedSectionVars false
variable [Glo]
set_option linter.unusedSimpArgs false
set_option linter.unusedVariables false
section
variable {P : Program} {w : World} {A : Nat → Prop} {β : Env} {base : Nat} {σ : St} {tmps : Array Value} {acts : List (Array Value)}
theorem pureD_sound {s : Sem Value} {e : Eff} (h : pureD P s = some e) : ∃ u, s.run P w = .ok u w ∧ e = .val (D.ofV u) := by
  simp only [pureD, Option.map_eq_some_iff] at h
  obtain ⟨u, h1, rfl⟩ := h
  exact ⟨u, pureRun_run P w s u h1, rfl⟩
theorem indexOf_spec {x : D} {v : Value} (hr : Rep w A β x v) {i : Int} (h : indexOf x = some i) : ∃ k, v = .int k i := by
  unfold indexOf at h
  split at h
  next k j => simp at h; subst h; simp only [Rep, RepS] at hr; exact ⟨k, hr⟩
  · cases h
theorem plusOff_zero {ad : Addr} (h : ad.spot = none) : plusOff ad 0 = ad := by cases ad; simp at h; simp [plusOff, h]
theorem Rep0.up {cs : List Col0} {x : Value} (h : Rep0 w A cs x) : RepR w A (cs.map Col0.up) x := by
  obtain ⟨o, cp, rfl, hv, h1, h2, h3⟩ := h
  refine ⟨o, cp, by rw [rowLen_up], hv, by rw [rowLen_up]; exact h1, by rw [rowLen_up]; exact h2, fun i j c hi hc => ?_⟩
  rw [rowLen_up] at hi
  rw [List.getElem?_map, Option.map_eq_some_iff] at hc
  obtain ⟨c0, hc0, rfl⟩ := hc
  refine ⟨_, by rw [List.length_map]; exact h3 i j c0 hi hc0, ?_⟩
  cases c0 <;> rfl
theorem cell_rep {c : Col} {i : Nat} {x : Value} (h : RepC w A i x c) : RepS w A (c.cell i) x := by
  cases c with
  | ints k xs => simp only [Col.cell, RepS]; exact h
  | bools xs => simp only [Col.cell, RepS]; exact h
  | rows n f => simp only [Col.cell, RepS]; exact Rep0.up h
theorem cells_at {i : Nat} : ∀ (cs : List Col) (ad : Addr), (∀ j c, cs[j]? = some c → ∃ x, w.cell? (plusOff ad j) = some x ∧ RepC w A i x c) → ad.spot = none → RepAt w A (cs.map (Col.cell i)) ad
  | [], ad, h, hs => by simp [RepAt]
  | c :: cs, ad, h, hs => by
    simp only [List.map_cons, RepAt]
    refine ⟨?_, cells_at cs (plusOff ad 1) (fun j k' hj => ?_) rfl⟩
    · obtain ⟨x, h1, h2⟩ := h 0 c rfl
      rw [plusOff_zero hs] at h1
      exact ⟨x, h1, cell_rep h2⟩
    · obtain ⟨x, h1, h2⟩ := h (j + 1) k' (by simpa using hj)
      rw [plusOff_plus, Nat.add_comm 1 j]
      exact ⟨x, h1, h2⟩
theorem rcAddr_sound {t : TypeId} {cs : List Col} {ix : D} {vx vi : Value} (hx : Rep w A β (.rc cs) vx) (hi : Rep w A β ix vi) {e : Eff} (h : rcAddrD P t cs ix = some e) :
    ∃ d u, e = .val d ∧ (Instr.indexAt t vx vi).run P w = .ok u w ∧ Rep w A β d u := by
  unfold rcAddrD at h
  split at h
  next elem i hu hix =>
    obtain ⟨k, rfl⟩ := indexOf_spec hi hix
    split at h
    · cases h
    next j hj =>
      split at h
      next hb =>
        obtain ⟨hsz, h0, h1⟩ := hb
        simp at h; subst h
        simp only [Rep, RepS] at hx
        obtain ⟨o, cp, rfl, _, hc, hx1, hx2⟩ := hx
        obtain ⟨ad, rfl, h2, h3⟩ := hx1 (by omega)
        have hb' : 0 ≤ i ∧ i < ((rowLen cs : Nat) : Int) := ⟨h0, h1⟩
        refine ⟨_, .pointer (some (plusOff ad (i.toNat * j.size))), rfl, ?_, ?_⟩
        · simp [Instr.indexAt, asIntOf, run_underlying hu, Instr.sureAddr, hb', run_sizeOf hj, add_eq_plus _ _ h2]
        · simp only [Rep, RepS]
          refine ⟨plusOff ad (i.toNat * j.size), by simp, rfl, fun _ => h3, cells_at _ _ (fun m k' hk => ?_) rfl⟩
          rw [plusOff_plus, hsz]
          exact hx2 i.toNat m k' (by omega) hk
      · cases h
  · cases h
theorem indexAddrP_sound {t : TypeId} {x ix : D} {vx vi : Value} (hx : Rep w A β x vx) (hi : Rep w A β ix vi) {e : Eff} (h : indexAddrP P t x ix = some e) :
    ∃ d u, e = .val d ∧ (Instr.indexAt t vx vi).run P w = .ok u w ∧ Rep w A β d u := by
  unfold indexAddrP at h
  split at h
  next i len elem hix hu =>
    obtain ⟨k, rfl⟩ := indexOf_spec hi hix
    split at h
    · cases h
    next j hj =>
      split at h
      next hb =>
        split at h
        next id off =>
          simp at h; subst h
          simp only [Rep] at hx
          obtain ⟨ad, h1, rfl⟩ := hx
          refine ⟨_, .pointer (some (plusOff ad (off + i.toNat * j.size))), rfl, ?_, by simp only [Rep]; exact ⟨ad, h1, rfl⟩⟩
          simp [Instr.indexAt, asIntOf, run_underlying hu, Instr.sureAddr, hb, run_sizeOf hj, add_eq_plus]
        next id i0 n0 j0 =>
          simp at h; subst h
          simp only [Rep] at hx
          obtain ⟨ad, h1, rfl⟩ := hx
          refine ⟨_, .pointer (some (plusOff ad (i0 * n0 + j0 + i.toNat * j.size))), rfl, ?_, by simp only [Rep]; exact ⟨ad, h1, by rw [Nat.add_assoc]⟩⟩
          simp [Instr.indexAt, asIntOf, run_underlying hu, Instr.sureAddr, hb, run_sizeOf hj, add_eq_plus]
        next cs off =>
          simp at h; subst h
          simp only [Rep, RepS] at hx
          obtain ⟨ad, rfl, h1, h2, h3⟩ := hx
          refine ⟨_, .pointer (some (plusOff ad (off + i.toNat * j.size))), rfl, ?_, by simp only [Rep, RepS]; exact ⟨ad, rfl, h1, h2, h3⟩⟩
          simp [Instr.indexAt, asIntOf, run_underlying hu, Instr.sureAddr, hb, run_sizeOf hj, add_eq_plus]
        · cases h
      · cases h
  next i elem hix hu =>
    obtain ⟨k, rfl⟩ := indexOf_spec hi hix
    split at h
    · cases h
    next j hj =>
      split at h
      next id off n sz =>
        split at h
        next hb =>
          simp at h; subst h
          simp only [Rep] at hx
          obtain ⟨o, c, rfl, hx⟩ := hx
          rcases hx with ⟨h1, _⟩ | ⟨_, ad, h1, rfl, _⟩
          · omega
          refine ⟨_, .pointer (some (plusOff ad (off + i.toNat * j.size))), rfl, ?_, by simp only [Rep]; exact ⟨ad, h1, by rw [Nat.add_comm]⟩⟩
          simp [Instr.indexAt, asIntOf, run_underlying hu, Instr.sureAddr, hb, run_sizeOf hj, add_eq_plus]
        · cases h
      next n cs =>
        split at h
        next hb =>
          simp at h; subst h
          simp only [Rep, RepS] at hx
          obtain ⟨o, c, rfl, hn, hx1, hx2⟩ := hx
          obtain ⟨ad, rfl, h2, h3⟩ := hx1 (.inl (by omega))
          refine ⟨_, .pointer (some (plusOff ad (i.toNat * j.size))), rfl, ?_, by simp only [Rep, RepS]; exact ⟨ad, rfl, h2, fun _ => h3, hx2⟩⟩
          simp [Instr.indexAt, asIntOf, run_underlying hu, Instr.sureAddr, hb, run_sizeOf hj, add_eq_plus _ _ h2]
        · cases h
      · cases h
  · cases h
theorem indexAddr_sound {t : TypeId} {x ix : D} {vx vi : Value} (hx : Rep w A β x vx) (hi : Rep w A β ix vi) {e : Eff} (h : indexAddrD P t x ix = some e) :
    ∃ d u, e = .val d ∧ (Instr.indexAt t vx vi).run P w = .ok u w ∧ Rep w A β d u := by
  unfold indexAddrD at h
  split at h
  · exact rcAddr_sound hx hi h
  · exact indexAddrP_sound hx hi h
theorem fieldAddr_sound {t : TypeId} {x : D} {vx : Value} (hx : Rep w A β x vx) {f : Nat} {e : Eff} (h : fieldAddrD P t x f = some e) :
    ∃ d u, e = .val d ∧ (Instr.fieldAt t vx f).run P w = .ok u w ∧ Rep w A β d u := by
  unfold fieldAddrD at h
  split at h
  next fields hu =>
    split at h
    · cases h
    next f' hf =>
      split at h
      · cases h
      next j hj =>
        split at h
        · cases h
        next hz =>
          split at h
          next id off =>
            simp at h; subst h
            simp only [Rep] at hx
            obtain ⟨ad, h1, rfl⟩ := hx
            refine ⟨_, .pointer (some (plusOff ad (off + f'.offset))), rfl, ?_, by simp only [Rep]; exact ⟨ad, h1, rfl⟩⟩
            simp [Instr.fieldAt, run_underlying hu, hf, Instr.sureAddr, fieldPlace, run_sizeOf hj, hz, add_eq_plus]
          next id i0 n0 j0 =>
            simp at h; subst h
            simp only [Rep] at hx
            obtain ⟨ad, h1, rfl⟩ := hx
            refine ⟨_, .pointer (some (plusOff ad (i0 * n0 + j0 + f'.offset))), rfl, ?_, by simp only [Rep]; exact ⟨ad, h1, by rw [Nat.add_assoc]⟩⟩
            simp [Instr.fieldAt, run_underlying hu, hf, Instr.sureAddr, fieldPlace, run_sizeOf hj, hz, add_eq_plus]
          next cs off =>
            simp at h; subst h
            simp only [Rep, RepS] at hx
            obtain ⟨ad, rfl, h1, h2, h3⟩ := hx
            refine ⟨_, .pointer (some (plusOff ad (off + f'.offset))), rfl, ?_, by simp only [Rep, RepS]; exact ⟨ad, rfl, h1, h2, h3⟩⟩
            simp [Instr.fieldAt, run_underlying hu, hf, Instr.sureAddr, fieldPlace, run_sizeOf hj, hz, add_eq_plus]
          · cases h
  · cases h
theorem field_sound {t : TypeId} {x : D} {vx : Value} (hx : Rep w A β x vx) {f : Nat} {e : Eff} (h : fieldD P t x f = some e) :
    ∃ d u, e = .val d ∧ (Instr.field t vx f).run P w = .ok u w ∧ Rep w A β d u := by
  unfold fieldD at h
  split at h
  next fields cs hu =>
    split at h
    · cases h
    next f' hf =>
      simp only [Option.map_eq_some_iff] at h
      obtain ⟨d, hd, rfl⟩ := h
      simp only [Rep] at hx
      obtain ⟨vs, rfl, hx⟩ := hx
      obtain ⟨u, k1, k2⟩ := part_run hx hd
      exact ⟨d, u, rfl, by simp [Instr.field, run_underlying hu, hf, asAgg, k1], k2⟩
  · cases h
theorem index_sound {t : TypeId} {x ix : D} {vx vi : Value} (hx : Rep w A β x vx) (hi : Rep w A β ix vi) {e : Eff} (h : indexD P t x ix = some e) :
    ∃ d u, e = .val d ∧ (Instr.index t vx vi).run P w = .ok u w ∧ Rep w A β d u := by
  unfold indexD at h
  split at h
  next i len elem cs hix hu =>
    obtain ⟨k, rfl⟩ := indexOf_spec hi hix
    split at h
    · cases h
    next j hj =>
      split at h
      next hb =>
        simp only [Option.map_eq_some_iff] at h
        obtain ⟨d, hd, rfl⟩ := h
        simp only [Rep] at hx
        obtain ⟨vs, rfl, hx⟩ := hx
        obtain ⟨u, k1, k2⟩ := part_run hx hd
        exact ⟨d, u, rfl, by simp [Instr.index, asIntOf, run_underlying hu, hb, run_sizeOf hj, k1], k2⟩
      · cases h
  next i s hix hu =>
    obtain ⟨k, rfl⟩ := indexOf_spec hi hix
    split at h
    next hb =>
      split at h
      next b hs =>
        simp at h; subst h
        simp only [Rep, RepS] at hx; subst hx
        exact ⟨_, .int .u8 b.toNat, rfl, by simp [Instr.index, asIntOf, run_underlying hu, hb, hs], by simp [Rep, RepS]⟩
      · cases h
    · cases h
  · cases h
theorem extract_sound {x : D} {vx : Value} (hx : Rep w A β x vx) {i : Nat} {e : Eff} (h : extractD x i = some e) :
    ∃ d u, e = .val d ∧ (Instr.extract vx i).run P w = .ok u w ∧ Rep w A β d u := by
  unfold extractD at h
  split at h
  next cs =>
    simp only [Option.map_eq_some_iff] at h
    obtain ⟨d, hd, rfl⟩ := h
    simp only [Rep] at hx
    obtain ⟨vs, rfl, hx⟩ := hx
    obtain ⟨u, k1, k2⟩ := hx.get i d hd
    exact ⟨d, u, rfl, by simp [Instr.extract, k1], k2⟩
  · cases h
theorem bound_sound {o : Option D} {ov : Option Value} (hr : match o, ov with | none, none => True | some d, some v => Rep w A β d v | _, _ => False) {dflt most n : Nat} (h : boundD o dflt most = some n) (code : BoundsCode) :
    match ov with | some v => (Instr.sliceBound v most code).run P w = .ok n w ∧ n ≤ most | none => n = dflt := by
  cases o with
  | none =>
    cases ov with
    | none => simp [boundD] at h; exact h.symm
    | some v => exact hr.elim
  | some d =>
    cases ov with
    | none => exact hr.elim
    | some v =>
      cases d with
      | v x =>
        cases x with
        | int k i =>
          simp only [boundD] at h
          split at h
          next hb =>
            simp at h; subst h
            simp only [Rep, RepS] at hr
            subst hr
            exact ⟨by simp [Instr.sliceBound, asIntOf, hb], by omega⟩
          · cases h
        | _ => simp [boundD] at h
      | _ => simp [boundD] at h
theorem map_rel {ρ : Operand → D} {ρv : Operand → Value} (hρ : ∀ x, Rep w A β (ρ x) (ρv x)) (o : Option Operand) :
    match o.map ρ, o.map ρv with | none, none => True | some d, some v => Rep w A β d v | _, _ => False := by
  cases o <;> simp [hρ]
/-- The three bounds of a slice expression. -/
theorem bounds_sound {lo hi : Option D} {vlo vhi : Option Value} (hlo : match lo, vlo with | none, none => True | some d, some v => Rep w A β d v | _, _ => False)
    (hhi : match hi, vhi with | none, none => True | some d, some v => Rep w A β d v | _, _ => False) {isSlice : Bool} {len cap h l most : Nat} (hm : len ≤ most) (hc : most ≤ cap) (h1 : boundD hi len most = some h) (h2 : boundD lo 0 h = some l) :
    (Instr.sliceBounds isSlice len cap vlo vhi none).run P w = .ok (l, h, cap) w ∧ l ≤ h ∧ h ≤ most := by
  have hh : h ≤ most := by
    unfold boundD at h1
    split at h1
    · simp at h1; omega
    · split at h1
      · simp at h1; omega
      · cases h1
    · cases h1
  have hl : l ≤ h := by
    unfold boundD at h2
    split at h2
    · simp at h2; omega
    · split at h2
      · simp at h2; omega
      · cases h2
    · cases h2
  refine ⟨?_, hl, hh⟩
  have e1 := fun code => bound_sound (P := P) hlo h2 code
  -- the upper bound is asked against the capacity
  have e2 : ∀ code, match vhi with | some v => (Instr.sliceBound v cap code).run P w = .ok h w | none => h = len := by
    intro code
    cases hi with
    | none =>
      cases vhi with
      | none => simp [boundD] at h1; exact h1.symm
      | some v => exact hhi.elim
    | some d =>
      cases vhi with
      | none => exact hhi.elim
      | some v =>
        cases d with
        | v x =>
          cases x with
          | int k i =>
            simp only [boundD] at h1
            split at h1
            next hb =>
              simp at h1; subst h1
              simp only [Rep, RepS] at hhi
              subst hhi
              have hb' : 0 ≤ i ∧ i ≤ cap := by omega
              show (Instr.sliceBound _ _ _).run P w = _
              simp [Instr.sliceBound, asIntOf, hb']
            · cases h1
          | _ => simp [boundD] at h1
        | _ => simp [boundD] at h1
  cases vlo with
  | none =>
    have e3 : l = 0 := e1 .index
    cases vhi with
    | none => have e4 : h = len := e2 .index; simp [Instr.sliceBounds, e3, e4]
    | some v => simp [Instr.sliceBounds, e3, e2]
  | some v' =>
    have e3 := fun code => (e1 code).1
    cases vhi with
    | none => have e4 : h = len := e2 .index; subst e4; simp [Instr.sliceBounds, e3]
    | some v => simp [Instr.sliceBounds, e3, e2]
theorem rowLen_part {cs : List Col} {l h' : Nat} (h1 : l ≤ h') (h2 : h' ≤ rowLen cs) : rowLen (cs.map (Col.part l (h' - l))) = h' - l := by
  cases cs with
  | nil => simp [rowLen] at *; omega
  | cons c cs => cases c <;> simp [rowLen, Col.part, Col.len] at * <;> omega
theorem part_rep {c : Col} {i l n : Nat} {x : Value} (hi : i < n) (h : RepC w A (i + l) x c) : RepC w A i x (c.part l n) := by
  cases c with
  | ints k xs => simp only [RepC, Col.part] at h ⊢; rw [h]; simp [List.getD_eq_getElem?_getD, List.getElem?_take, hi, Nat.add_comm]
  | bools xs => simp only [RepC, Col.part] at h ⊢; rw [h]; simp [List.getD_eq_getElem?_getD, List.getElem?_take, hi, Nat.add_comm]
  | rows m f => exact h
theorem rcSlice_sound {t : TypeId} {cs : List Col} {vx : Value} (hx : Rep w A β (.rc cs) vx) {lo hi : Option D} {vlo vhi : Option Value}
    (hlo : match lo, vlo with | none, none => True | some d, some v => Rep w A β d v | _, _ => False) (hhi : match hi, vhi with | none, none => True | some d, some v => Rep w A β d v | _, _ => False)
    {e : Eff} (h : rcSliceD P t cs lo hi = some e) : ∃ d u, e = .val d ∧ (Instr.sliceAt t vx vlo vhi none).run P w = .ok u w ∧ Rep w A β d u := by
  unfold rcSliceD at h
  split at h
  next elem hu =>
    split at h
    next j h' hj hb1 =>
      split at h
      · cases h
      next l hb2 =>
        split at h
        next hsz =>
          simp at h; subst h
          simp only [Rep, RepS] at hx
          obtain ⟨o, c, rfl, hv, hnc, hx1, hx2⟩ := hx
          obtain ⟨hrun, hl, hh⟩ := bounds_sound (P := P) (isSlice := true) hlo hhi (Nat.le_refl _) hnc hb1 hb2
          refine ⟨_, .slice (if c = l then o else o.map (·.add (l * j.size))) (h' - l) (c - l), rfl, ?_, ?_⟩
          · simp only [Instr.sliceAt, Instr.slice, Sem.run_bind, run_underlying hu, Result.andThen_ok, hrun, run_sizeOf hj, Sem.run_pure]
          · simp only [Rep, RepS]
            refine ⟨_, _, by rw [rowLen_part hl hh], fun hL => by have := hv hL; split <;> simp_all, by rw [rowLen_part hl hh]; omega, ?_, ?_⟩
            · rw [rowLen_part hl hh]
              intro hne
              obtain ⟨ad, rfl, h3, h4⟩ := hx1 (by omega)
              rw [if_neg (by omega)]
              exact ⟨plusOff ad (l * j.size), by simp [add_eq_plus _ _ h3], rfl, h4⟩
            · rw [rowLen_part hl hh]
              intro i m k hi hk
              obtain ⟨ad, rfl, h3, h4⟩ := hx1 (by omega)
              rw [if_neg (by omega)]
              simp only [Option.map_some, add_eq_plus _ _ h3, Option.getD_some, plusOff_plus, List.length_map]
              rw [List.getElem?_map, Option.map_eq_some_iff] at hk
              obtain ⟨k0, hk0, rfl⟩ := hk
              obtain ⟨x, hx3, hx4⟩ := hx2 (i + l) m k0 (by omega) hk0
              simp only [Option.getD_some] at hx3
              rw [hsz, ← Nat.add_assoc, ← Nat.add_mul, Nat.add_comm l i]
              exact ⟨x, hx3, part_rep hi hx4⟩
        · cases h
    · cases h
  · cases h
theorem sliceP_sound (hrel : Rel w A β base σ tmps acts) {t : TypeId} {x : D} {vx : Value} (hx : Rep w A β x vx) {lo hi : Option D} {vlo vhi : Option Value}
    (hlo : match lo, vlo with | none, none => True | some d, some v => Rep w A β d v | _, _ => False) (hhi : match hi, vhi with | none, none => True | some d, some v => Rep w A β d v | _, _ => False)
    {e : Eff} (h : sliceP P σ.bk t x lo hi = some e) : ∃ d u, e = .val d ∧ (Instr.sliceAt t vx vlo vhi none).run P w = .ok u w ∧ Rep w A β d u := by
  unfold sliceP at h
  split at h
  next n elem id off hu =>
    split at h
    next j h' hj hb1 =>
      split at h
      · cases h
      next l hb2 =>
        split at h
        next b hbk =>
          split at h
          next hlen =>
            simp at h; subst h
            simp only [Rep] at hx
            obtain ⟨ad, h1, rfl⟩ := hx
            obtain ⟨hrun, hl, hh⟩ := bounds_sound (P := P) (isSlice := false) hlo hhi (Nat.le_refl n) (Nat.le_refl n) hb1 hb2
            refine ⟨_, .slice (some (if n = l then plusOff ad off else plusOff ad (off + l * j.size))) (h' - l) (n - l), rfl, ?_, ?_⟩
            · simp only [Instr.sliceAt, Sem.run_bind, run_underlying hu, Result.andThen_ok, Instr.sureAddr, Sem.run_pure, hrun, run_sizeOf hj, plusOff_add]
            · simp only [Rep]
              refine ⟨_, _, rfl, ?_⟩
              by_cases e : n = l
              · left; omega
              · rw [if_neg e]
                refine .inr ⟨by omega, ad, h1, rfl, ?_⟩
                rcases hrel.blk id b hbk with ⟨h2, _⟩ | ⟨ad', h2, h3⟩
                · rw [h1] at h2; cases h2
                · rw [h1] at h2; cases h2
                  obtain ⟨c, T, hobj⟩ := h3.obj
                  refine ⟨c, T, (0, 0), hobj, ?_⟩
                  have hle : l ≤ n := by omega
                  have hmul : l * j.size + (n - l) * j.size = n * j.size := by rw [← Nat.add_mul]; congr 1; omega
                  rcases Nat.eq_zero_or_pos (n * j.size) with hz | hz
                  · have := h3.inside c T hobj
                    have : off ≤ b.cells.length := by omega
                    rcases Nat.eq_zero_or_pos b.cells.length with hz2 | hz2
                    · omega
                    · obtain ⟨u, hu2, _⟩ := h3.cells.get h3.spot (b.cells.length - 1) _ (List.getElem?_eq_getElem (by omega))
                      have hc : w.cell? (plusOff ad (b.cells.length - 1)) = c[ad.off + (b.cells.length - 1)]? := cell_of_obj hobj
                      rw [hc] at hu2
                      have := (Array.getElem?_eq_some_iff.1 hu2).1
                      omega
                  · obtain ⟨u, hu2, _⟩ := h3.cells.get h3.spot (b.cells.length - 1) _ (List.getElem?_eq_getElem (by omega))
                    have hc : w.cell? (plusOff ad (b.cells.length - 1)) = c[ad.off + (b.cells.length - 1)]? := cell_of_obj hobj
                    rw [hc] at hu2
                    have := (Array.getElem?_eq_some_iff.1 hu2).1
                    omega
          · cases h
        · cases h
    · cases h
  next elem n cs hu =>
    split at h
    next j h' hj hb1 =>
      split at h
      · cases h
      next l hb2 =>
        simp at h; subst h
        simp only [Rep, RepS] at hx
        obtain ⟨o, c, rfl, hnc, hx1, hx2⟩ := hx
        obtain ⟨hrun, hl, hh⟩ := bounds_sound (P := P) (isSlice := true) hlo hhi (Nat.le_refl _) hnc hb1 hb2
        refine ⟨_, .slice (if c = l then o else o.map (·.add (l * j.size))) (h' - l) (c - l), rfl, ?_, ?_⟩
        · simp only [Instr.sliceAt, Instr.slice, Sem.run_bind, run_underlying hu, Result.andThen_ok, hrun, run_sizeOf hj, Sem.run_pure]
        · simp only [Rep, RepS]
          refine ⟨_, _, rfl, by omega, ?_, ?_⟩
          · intro hne
            have hn0 : n ≠ 0 := by
              intro hn
              subst hn
              have e1 : h' - l = 0 := by omega
              rw [e1] at hne
              simp at hne
            obtain ⟨ad, rfl, h3, h4⟩ := hx1 (.inl hn0)
            by_cases e : c = l
            · rw [if_pos e]; exact ⟨ad, rfl, h3, h4⟩
            · rw [if_neg e]; exact ⟨plusOff ad (l * j.size), by simp [add_eq_plus _ _ h3], rfl, h4⟩
          · by_cases e : c = l
            · have e1 : h' - l = 0 := by omega
              rw [e1]; simp [RepAt]
            · rw [if_neg e]
              by_cases hz : n = 0 ∧ cs = []
              · rw [hz.2]; simp [RepAt]
              · obtain ⟨ad, rfl, h3, h4⟩ := hx1 (by by_cases hn : n = 0 <;> simp_all)
                simp only [Option.map_some, add_eq_plus _ _ h3, Option.getD_some]
                exact RepAt.take _ (RepAt.drop h3 (l * j.size) hx2)
    · cases h
  next elem id off n sz hu =>
    split at h
    next j h' hj hb1 =>
      split at h
      · cases h
      next l hb2 =>
        split at h
        next hsz =>
          obtain ⟨sz, r⟩ := sz
          simp only at hsz hb1 h
          subst hsz
          simp at h; subst h
          simp only [Rep] at hx
          obtain ⟨o, c, rfl, hx⟩ := hx
          have hnc : max n r ≤ c := by rcases hx with h | h <;> omega
          obtain ⟨hrun, hl, hh⟩ := bounds_sound (P := P) (isSlice := true) hlo hhi (Nat.le_max_left n r) hnc hb1 hb2
          refine ⟨_, .slice (if c = l then o else o.map (·.add (l * j.size))) (h' - l) (c - l), rfl, ?_, ?_⟩
          · simp only [Instr.sliceAt, Instr.slice, Sem.run_bind, run_underlying hu, Result.andThen_ok, hrun, run_sizeOf hj, Sem.run_pure]
          · simp only [Rep]
            refine ⟨_, _, rfl, ?_⟩
            by_cases e : c = l
            · left; omega
            · rcases hx with ⟨h1, h2⟩ | ⟨h1, ad, h2, rfl, c1, T1, fz1, h3, h4⟩
              · omega
              · refine .inr ⟨by omega, ad, h2, by rw [if_neg e]; simp, ⟨c1, T1, fz1, h3, ?_⟩⟩
                have hmul : l * j.size + (c - l) * j.size = c * j.size := by rw [← Nat.add_mul]; congr 1; omega
                omega
        · cases h
    · cases h
  next elem hu =>
    split at h
    next j h' hj hb1 =>
      split at h
      · cases h
      next l hb2 =>
        simp at h; subst h
        simp only [Rep, RepS] at hx; subst hx
        obtain ⟨hrun, hl, hh⟩ := bounds_sound (P := P) (isSlice := true) hlo hhi (Nat.le_refl 0) (Nat.le_refl 0) hb1 hb2
        obtain rfl : h' = 0 := by omega
        obtain rfl : l = 0 := by omega
        refine ⟨_, .slice none 0 0, rfl, ?_, by simp [Rep, RepS]⟩
        simp [Instr.sliceAt, Instr.slice, run_underlying hu, hrun, run_sizeOf hj]
    · cases h
  next s hu =>
    split at h
    next h' hb1 =>
      split at h
      · cases h
      next l hb2 =>
        simp at h; subst h
        simp only [Rep, RepS] at hx; subst hx
        obtain ⟨hrun, hl, hh⟩ := bounds_sound (P := P) (isSlice := false) hlo hhi (Nat.le_refl s.size) (Nat.le_refl s.size) hb1 hb2
        refine ⟨_, .string (s.extract l h'), rfl, ?_, by simp [Rep, RepS]⟩
        simp [Instr.sliceAt, Instr.slice, run_underlying hu, hrun]
    · cases h
  · cases h
theorem slice_sound (hrel : Rel w A β base σ tmps acts) {t : TypeId} {x : D} {vx : Value} (hx : Rep w A β x vx) {lo hi : Option D} {vlo vhi : Option Value}
    (hlo : match lo, vlo with | none, none => True | some d, some v => Rep w A β d v | _, _ => False) (hhi : match hi, vhi with | none, none => True | some d, some v => Rep w A β d v | _, _ => False)
    {e : Eff} (h : sliceD P σ.bk t x lo hi = some e) : ∃ d u, e = .val d ∧ (Instr.sliceAt t vx vlo vhi none).run P w = .ok u w ∧ Rep w A β d u := by
  unfold sliceD at h
  split at h
  · exact rcSlice_sound hx hlo hhi h
  · exact sliceP_sound hrel hx hlo hhi h
theorem zeroInt_spec {d : D} {v : Value} (h : zeroInt d = true) (hr : Rep w A β d v) : ∃ k, v = .int k 0 := by
  unfold zeroInt at h
  split at h
  next k => simp only [Rep, RepS] at hr; exact ⟨k, hr⟩
  · cases h
theorem slice3_sound {t : TypeId} {x : D} {vx : Value} (hx : Rep w A β x vx) {lo hi : Option D} {vlo vhi : Option Value} {mx : D} {vmx : Value}
    (hlo : match lo, vlo with | none, none => True | some d, some v => Rep w A β d v | _, _ => False) (hhi : match hi, vhi with | none, none => True | some d, some v => Rep w A β d v | _, _ => False) (hmx : Rep w A β mx vmx)
    {e : Eff} (h : slice3D P t x lo hi mx = some e) : ∃ d u, e = .val d ∧ (Instr.sliceAt t vx vlo vhi (some vmx)).run P w = .ok u w ∧ Rep w A β d u := by
  unfold slice3D at h
  split at h
  next elem h' hu =>
    split at h
    · cases h
    next j hj =>
      split at h
      next hz =>
        obtain ⟨z1, z2, z3⟩ := hz
        obtain ⟨k1, rfl⟩ := zeroInt_spec z1 hmx
        cases vhi with
        | none => exact hhi.elim
        | some vh =>
          obtain ⟨k2, rfl⟩ := zeroInt_spec z2 hhi
          have key : ∀ (o : Option Addr) (n c : Nat), (Instr.sliceAt t (.slice o n c) vlo (some (.int k2 0)) (some (.int k1 0))).run P w = .ok (.slice o 0 0) w := by
            intro o n c
            cases lo with
            | none =>
              cases vlo with
              | none => simp [Instr.sliceAt, Instr.slice, run_underlying hu, Instr.sliceBounds, Instr.sliceBound, asIntOf, run_sizeOf hj]
              | some v => exact hlo.elim
            | some d =>
              cases vlo with
              | none => exact hlo.elim
              | some v =>
                obtain ⟨k3, rfl⟩ := zeroInt_spec (by simpa using z3) hlo
                simp [Instr.sliceAt, Instr.slice, run_underlying hu, Instr.sliceBounds, Instr.sliceBound, asIntOf, run_sizeOf hj]
          split at h
          · split at h
            · cases h
            next hn =>
              simp only [Option.some.injEq] at h; subst h
              simp only [Rep, RepS] at hx
              obtain ⟨o, c, rfl, _, hx1, _⟩ := hx
              obtain ⟨ad, rfl, _⟩ := hx1 (.inl hn)
              exact ⟨_, _, rfl, key _ _ _, by simp only [Rep, RepS]; exact ⟨ad, rfl⟩⟩
          · split at h
            · cases h
            next hn =>
              simp only [Option.some.injEq] at h; subst h
              simp only [Rep] at hx
              obtain ⟨o, c, rfl, hx⟩ := hx
              rcases hx with ⟨h1, _⟩ | ⟨_, ad, _, rfl, _⟩
              · exact absurd h1 hn
              · exact ⟨_, _, rfl, key _ _ _, by simp only [Rep, RepS]; exact ⟨_, rfl⟩⟩
          · simp only [Option.some.injEq] at h; subst h
            simp only [Rep, RepS] at hx
            obtain ⟨o, rfl⟩ := hx
            exact ⟨_, _, rfl, key _ _ _, by simp only [Rep, RepS]; exact ⟨o, rfl⟩⟩
          · simp only [Option.some.injEq] at h; subst h
            simp only [Rep, RepS] at hx; subst hx
            exact ⟨_, _, rfl, key _ _ _, by simp [Rep, RepS]⟩
          · cases h
      · unfold sliceChk at h
        split at h
        next id off n sz k1 l k2 hh k3 m hneg =>
          split at h
          next hb =>
            simp only [Option.some.injEq] at h; subst h
            simp only [Rep] at hx
            obtain ⟨o, c, rfl, hx⟩ := hx
            have hnc : n ≤ c := by rcases hx with h | h <;> omega
            cases vhi with
            | none => exact hhi.elim
            | some vh =>
              cases vlo with
              | none => exact hlo.elim
              | some vl =>
                simp only [Rep, RepS] at hhi hlo hmx
                subst hhi; subst hlo; subst hmx
                obtain ⟨m', rfl⟩ := Int.eq_ofNat_of_zero_le (show 0 ≤ m by omega)
                obtain ⟨h2, rfl⟩ := Int.eq_ofNat_of_zero_le (show 0 ≤ hh by omega)
                obtain ⟨l', rfl⟩ := Int.eq_ofNat_of_zero_le (show 0 ≤ l by omega)
                have b1 : m' ≤ c := by omega
                have b2 : h2 ≤ m' := by omega
                have b3 : l' ≤ h2 := by omega
                refine ⟨.undef, .slice (if m' = l' then o else o.map (·.add (l' * j.size))) (h2 - l') (m' - l'), rfl, ?_, by simp [Rep, RepS]⟩
                simp [Instr.sliceAt, Instr.slice, run_underlying hu, Instr.sliceBounds, Instr.sliceBound, asIntOf, run_sizeOf hj, b1, b2, b3]
          · cases h
        · cases h
  · cases h
end
end Go.Dam
end
