/- The engine, part I: an abstract machine for the program's functions, proved right against the model. No condition. -/
import Derived.Test.YtpbngkempchamaaDamH
set_option linter.unusedSectionVars false
set_option linter.unusedVariables false
set_option linter.unusedSimpArgs false
namespace Go.Dam
open Go Go.RowKit
set_option linter.unusedSectionVars false
variable [Glo]
set_option linter.unusedSimpArgs false
set_option linter.unusedVariables false

section
variable {P : Program} {w : World} {A : Nat → Prop} {β : Env} {base : Nat} {σ : St} {tmps : Array Value} {acts : List (Array Value)}

/-- What a run has come to, by an effect. -/
def Good (P : Program) (w : World) (A : Nat → Prop) (β : Env) (r : Result Next) : Eff → Prop
  | .val d => ∃ u, r = .ok (.value u) w ∧ Rep w A β d u
  | .box cs => ∃ T vs, RepLs w A β cs vs ∧ r = .ok (.value (.pointer (some ⟨w.heap.size, 0, none⟩))) (w.alloc (.cells vs.toArray T))
  | .row cs n sz => ∃ T vs cap, RepLs w A β cs vs ∧ n ≤ cap ∧ cap * sz ≤ vs.length ∧ r = .ok (.value (.slice (some ⟨w.heap.size, 0, none⟩) n cap)) (w.alloc (.cells vs.toArray T))
  | .row0 => ∃ T vs, r = .ok (.value (.slice (some ⟨w.heap.size, 0, none⟩) 0 0)) (w.alloc (.cells vs T))
  | .sto id off ds => ∃ ad vs, β id = some ad ∧ RepLs w A β ds vs ∧ (∀ u ∈ vs, u.oneCell' = true) ∧ r = ((storeCells (plusOff ad off) vs).run P w).andThen fun _ w' => .ok .skip w'
  | .cpy id off ds u => ∃ ad vs, β id = some ad ∧ RepLs w A β ds vs ∧ (∀ u ∈ vs, u.oneCell' = true) ∧ r = ((storeCells (plusOff ad off) vs).run P w).andThen fun _ w' => .ok (.value u) w'
  | .app s sz m ds => ∃ (t t2 ty e : TypeId) (e2 : TypeId) (i : TypeInfo) (z : Value) (o : Option Addr) (n c : Nat) (x : Value) (vs : List Value),
      P.underlying t = some (.slice e) ∧ P.underlying t2 = some (.slice e2) ∧ P.info? e = some i ∧ i.zero = some z ∧ z.cells.size = i.size ∧ 1 ≤ i.bytes ∧ sz = i.size ∧ Src P w sz m x vs ∧ RepLs w A β ds vs ∧
      (∀ u ∈ vs, u.oneCell' = true) ∧ (n + m) * i.bytes ≤ 2 ^ 44 ∧ ds.length = m * sz ∧ Rep w A β s (.slice o n c) ∧ (∀ id off n' sz', s = .sl id off n' sz' → sz'.s = sz) ∧ (∀ u, s = .v u → u = .slice none 0 0) ∧
      r = ((Builtin.append_ #[t, t2] ty #[.slice o n c, x]).run P w).andThen fun v w' => .ok (.value v) w'

theorem Good.val_v {r : Result Next} {u : Value} (h : r = .ok (.value u) w) : Good P w A β r (.val (D.ofV u)) := ⟨u, h, Rep.ofV u⟩

theorem infoD_spec {t : TypeId} {sz : Nat} {d : TypeDesc} (h : infoD P t = some (sz, d)) : ∃ i, P.info? t = some i ∧ i.size = sz ∧ P.underlying t = some d := by
  unfold infoD at h
  split at h
  next i d' h1 h2 => simp at h; obtain ⟨rfl, rfl⟩ := h; exact ⟨i, h1, rfl, h2⟩
  next => cases h

theorem isAgg_run {t : TypeId} {d : TypeDesc} (h : P.underlying t = some d) (w : World) : (isAgg t).run P w = .ok (aggD d) w := by
  unfold isAgg
  simp only [Sem.run_bind, run_underlying h, Result.andThen_ok]
  cases d <;> rfl

/-- A variable is loaded. -/
theorem load_run {t : TypeId} {cs : List D} {off : Nat} {ad : Addr} {d : D} (hs : ad.spot = none) (hc : CellsAt w A β cs ad) (h : takeD P t cs off = some d) :
    ∃ u, (loadVar t (plusOff ad off)).run P w = .ok u w ∧ Rep w A β d u := by
  unfold takeD at h
  split at h
  · cases h
  next sz dd hi =>
    obtain ⟨i, h1, rfl, h2⟩ := infoD_spec hi
    split at h
    next hag =>
      split at h
      next hl =>
        simp at h; subst h
        have hlen : ((cs.drop off).take i.size).length = i.size := by simp; omega
        obtain ⟨vs, k1, k2⟩ := loadCells_run P rfl ((hc.drop hs off).take rfl i.size)
        refine ⟨.agg vs.toArray, ?_, by simp only [Rep]; exact ⟨vs, rfl, k2⟩⟩
        rw [hlen] at k1
        simp [loadVar, isAgg_run h2, hag, run_sizeOf h1, k1]
      · cases h
    next hag =>
      obtain ⟨u, k1, k2⟩ := hc.get hs off d h
      refine ⟨u, ?_, k2⟩
      simp [loadVar, isAgg_run h2, hag, k1]

/-- A part of a value. -/
theorem part_run {t : TypeId} {cs : List D} {vs : List Value} {off : Nat} {d : D} (hc : RepLs w A β cs vs) (h : takeD P t cs off = some d) :
    ∃ u, (part t vs.toArray off).run P w = .ok u w ∧ Rep w A β d u := by
  unfold takeD at h
  split at h
  · cases h
  next sz dd hi =>
    obtain ⟨i, h1, rfl, h2⟩ := infoD_spec hi
    split at h
    next hag =>
      split at h
      next hl =>
        simp at h; subst h
        refine ⟨.agg (vs.toArray.extract off (off + i.size)), ?_, ?_⟩
        · simp [part, isAgg_run h2, hag, run_sizeOf h1]
        · simp only [Rep]
          refine ⟨(vs.drop off).take i.size, ?_, (hc.drop off).take _⟩
          congr 1
          apply Array.ext'
          simp [List.extract_eq_take_drop]
      · cases h
    next hag =>
      obtain ⟨u, k1, k2⟩ := hc.get off d h
      refine ⟨u, ?_, k2⟩
      simp [part, isAgg_run h2, hag, k1]

theorem behind_spec (h : Rel w A β base σ tmps acts) {a : D} {va : Value} (ha : Rep w A β a va) {cs : List D} {off : Nat} (hb : a.behind σ.bk = some (cs, off)) (hne : cs ≠ []) :
    ∃ ad, va = .pointer (some (plusOff ad off)) ∧ ad.spot = none ∧ CellsAt w A β cs ad := by
  cases a with
  | ptr id o =>
    simp only [D.behind, Option.map_eq_some_iff] at hb
    obtain ⟨b, hb, he⟩ := hb
    simp at he; obtain ⟨rfl, rfl⟩ := he
    simp only [Rep] at ha
    obtain ⟨ad, h1, rfl⟩ := ha
    rcases h.blk id b hb with ⟨h2, _⟩ | ⟨ad', h2, h3⟩
    · rw [h1] at h2; cases h2
    · rw [h1] at h2; cases h2
      exact ⟨ad, rfl, h3.spot, h3.cells⟩
  | pel id i n j =>
    simp only [D.behind, Option.map_eq_some_iff] at hb
    obtain ⟨b, hb, he⟩ := hb
    simp at he; obtain ⟨rfl, rfl⟩ := he
    simp only [Rep] at ha
    obtain ⟨ad, h1, rfl⟩ := ha
    rcases h.blk id b hb with ⟨h2, _⟩ | ⟨ad', h2, h3⟩
    · rw [h1] at h2; cases h2
    · rw [h1] at h2; cases h2
      exact ⟨ad, rfl, h3.spot, h3.cells⟩
  | shp c o =>
    simp [D.behind] at hb; obtain ⟨rfl, rfl⟩ := hb
    simp only [Rep, RepS] at ha
    obtain ⟨ad, rfl, h1, _, h2⟩ := ha
    exact ⟨ad, rfl, h1, h2.cellsAt (fun d u h => RepS.rep d u h)⟩
  | _ => simp [D.behind] at hb

theorem cells_spec {x : D} {v : Value} (hr : Rep w A β x v) {cs : List D} (h : x.cells = some cs) : RepLs w A β cs v.cells.toList := by
  cases x with
  | agg ds => simp [D.cells] at h; subst h; simp only [Rep] at hr; obtain ⟨vs, rfl, hr⟩ := hr; simpa [Value.cells] using hr
  | v y => simp [D.cells] at h; subst h; simp only [Rep, RepS] at hr; subst hr; simpa using RepLs.ofV (w := w) (A := A) (β := β) v.cells.toList
  | sh n ds => simp [D.cells] at h; subst h; have hr0 := hr; simp only [Rep, RepS] at hr; obtain ⟨o, c, rfl, _⟩ := hr; simp [Value.cells, RepLs]; exact hr0
  | sl id off n sz => simp [D.cells] at h; subst h; have hr0 := hr; simp only [Rep] at hr; obtain ⟨o, c, rfl, _⟩ := hr; simp [Value.cells, RepLs]; exact hr0
  | ptr id off => simp [D.cells] at h; subst h; have hr0 := hr; simp only [Rep] at hr; obtain ⟨ad, _, rfl⟩ := hr; simp [Value.cells, RepLs]; exact hr0
  | shp ds off => simp [D.cells] at h; subst h; have hr0 := hr; simp only [Rep, RepS] at hr; obtain ⟨ad, rfl, _⟩ := hr; simp [Value.cells, RepLs]; exact hr0
  | fn f ds => simp [D.cells] at h; subst h; have hr0 := hr; simp only [Rep] at hr; obtain ⟨vs, rfl, _⟩ := hr; simp [Value.cells, RepLs]; exact hr0
  | emp => simp [D.cells] at h; subst h; have hr0 := hr; simp only [Rep, RepS] at hr; obtain ⟨o, rfl⟩ := hr; simp [Value.cells, RepLs]; exact hr0
  | rc ds => simp [D.cells] at h; subst h; have hr0 := hr; simp only [Rep, RepS] at hr; obtain ⟨o, c, rfl, _⟩ := hr; simp [Value.cells, RepLs]; exact hr0
  | pel id i n j => simp [D.cells] at h; subst h; have hr0 := hr; simp only [Rep] at hr; obtain ⟨ad, _, rfl⟩ := hr; simp [Value.cells, RepLs]; exact hr0
  | oc _ => simp [D.cells] at h
  | undef => simp [D.cells] at h
  | ow _ _ _ => simp [D.cells] at h
  | tup _ => simp [D.cells] at h
  | yld => simp [D.cells] at h

theorem one_spec {x : D} {v : Value} (hr : Rep w A β x v) (h : x.one = true) : v.oneCell' = true := by
  cases x with
  | v y => simp [D.one] at h; simp only [Rep, RepS] at hr; subst hr; exact h
  | sh n ds => simp only [Rep, RepS] at hr; obtain ⟨o, c, rfl, _⟩ := hr; rfl
  | sl id off n sz => simp only [Rep] at hr; obtain ⟨o, c, rfl, _⟩ := hr; rfl
  | ptr id off => simp only [Rep] at hr; obtain ⟨ad, _, rfl⟩ := hr; rfl
  | shp ds off => simp only [Rep, RepS] at hr; obtain ⟨ad, rfl, _⟩ := hr; rfl
  | fn f ds => simp only [Rep] at hr; obtain ⟨vs, rfl, _⟩ := hr; rfl
  | emp => simp only [Rep, RepS] at hr; obtain ⟨o, rfl⟩ := hr; rfl
  | rc ds => simp only [Rep, RepS] at hr; obtain ⟨o, c, rfl, _⟩ := hr; rfl
  | pel id i n j => simp only [Rep] at hr; obtain ⟨ad, _, rfl⟩ := hr; rfl
  | _ => simp [D.one] at h

theorem ones_spec : ∀ {cs : List D} {vs : List Value}, RepLs w A β cs vs → cs.all D.one = true → ∀ u ∈ vs, u.oneCell' = true
  | [], vs, h, _, u, hu => by simp [RepLs] at h; subst h; cases hu
  | d :: ds, vs, h, ho, u, hu => by
    simp only [RepLs] at h
    obtain ⟨x, xs, rfl, h1, h2⟩ := h
    simp at ho hu
    rcases hu with rfl | hu
    · exact one_spec h1 ho.1
    · exact ones_spec h2 (by simpa using ho.2) u hu

inductive PartsRep (w : World) (A : Nat → Prop) (β : Env) : List (Nat × D) → List (Nat × Value) → Prop
  | nil : PartsRep w A β [] []
  | cons {i : Nat} {d : D} {v : Value} {ps : List (Nat × D)} {qs : List (Nat × Value)} : Rep w A β d v → PartsRep w A β ps qs → PartsRep w A β ((i, d) :: ps) ((i, v) :: qs)

theorem fillD_spec (place : Nat → Option (Nat × Nat)) : ∀ (parts : List (Nat × D)) (vparts : List (Nat × Value)) (cells : List D) (vcells : Array Value) (out : List D),
    PartsRep w A β parts vparts → RepLs w A β cells vcells.toList → fillD place cells parts = some out →
    ∃ vout : Array Value, Instr.fill place vcells vparts = some vout ∧ RepLs w A β out vout.toList
  | [], _, cells, vcells, out, hf, hr, h => by
    cases hf
    simp [fillD] at h; subst h
    exact ⟨vcells, by simp [Instr.fill], hr⟩
  | (i, x) :: rest, _, cells, vcells, out, hf, hr, h => by
    cases hf with
    | @cons _ _ v _ qs hx h2 =>
    simp only [fillD] at h
    split at h
    next off size ds hp hc =>
      split at h
      next hl =>
        have hcs := cells_spec hx hc
        have hlen := hcs.length
        have hlen2 := hr.length
        simp only [Array.length_toList] at hlen hlen2
        have hput : RepLs w A β (splice cells off ds) (v.cells.zipIdx.foldl (fun cs (c, j) => cs.setIfInBounds (off + j) c) vcells).toList := by
          have hfold : ∀ (us : List Value) (k : Nat) (c : Array Value), (us.zipIdx k).foldl (fun cs (c, j) => cs.setIfInBounds (off + j) c) c = putAt c (off + k) us := by
            intro us
            induction us with
            | nil => intro k c; rfl
            | cons u us ih => intro k c; simp only [List.zipIdx_cons, List.foldl_cons, ih, putAt]; rw [Nat.add_assoc]
          have hfold' : v.cells.zipIdx.foldl (fun cs (c, j) => cs.setIfInBounds (off + j) c) vcells = putAt vcells off v.cells.toList := by
            have := hfold v.cells.toList 0 vcells
            rw [← Array.foldl_toList, Array.toList_zipIdx]
            simpa using this
          rw [hfold']
          refine RepLs.of_get ?_ ?_
          · simp [splice, putAt_size]; omega
          · intro j d hj
            rw [splice_get (by omega)] at hj
            rw [Array.getElem?_toList, putAt_get _ _ _ _ (by simp; omega)]
            split at hj
            next hin =>
              obtain ⟨u, k1, k2⟩ := hcs.get _ _ hj
              exact ⟨u, by rw [if_pos (by simp; omega)]; exact k1, k2⟩
            next hout =>
              obtain ⟨u, k1, k2⟩ := hr.get _ _ hj
              exact ⟨u, by rw [if_neg (by simp; omega)]; simpa using k1, k2⟩
        obtain ⟨vout, k1, k2⟩ := fillD_spec place rest qs _ _ out h2 hput h
        refine ⟨vout, ?_, k2⟩
        simp only [Instr.fill, hp]
        rw [if_neg (by simp; omega)]
        exact k1
      · cases h
    · cases h

theorem parts_spec {ρ : Operand → D} {ρv : Operand → Value} (hρ : ∀ x, Rep w A β (ρ x) (ρv x)) : ∀ (ps : List (Nat × Operand)), PartsRep w A β (ps.map fun p => (p.1, ρ p.2)) (ps.map fun p => (p.1, ρv p.2))
  | [] => .nil
  | p :: ps => .cons (hρ _) (parts_spec hρ ps)

theorem zero_spec {t : TypeId} {z : List D} (h : zeroD P t = some z) : ∃ i v, P.info? t = some i ∧ i.zero = some v ∧ z = v.cells.toList.map .v := by
  unfold zeroD at h
  split at h
  · cases h
  next i hi =>
    split at h
    · cases h
    next v hv => simp at h; exact ⟨i, v, hi, hv, h.symm⟩

theorem places_run : ∀ (fs : List Field) (w : World), (∀ f ∈ fs, (P.info? f.type).isSome = true) → (fs.mapM (fun f => do pure (f.offset, ← sizeOf f.type)) : Sem (List (Nat × Nat))).run P w = .ok (fs.map fun f => (f.offset, ((P.info? f.type).map (·.size)).getD 0)) w
  | [], w, _ => rfl
  | f :: fs, w, hall => by
    obtain ⟨j, hj⟩ := Option.isSome_iff_exists.1 (hall f (by simp))
    have ih := places_run fs w (fun g hg => hall g (by simp [hg]))
    simp only [List.mapM_cons, Sem.run_bind, run_sizeOf hj, Result.andThen_ok, Sem.run_pure, ih, List.map_cons, hj, Option.map_some, Option.getD_some]

theorem build_sound {ρ : Operand → D} {ρv : Operand → Value} (hρ : ∀ x, Rep w A β (ρ x) (ρv x)) {t : TypeId} {parts : Array (Nat × Operand)} {e : Eff} (h : buildD P t (parts.toList.map fun p => (p.1, ρ p.2)) = some e) :
    ∃ d u, e = .val d ∧ (Instr.build t (parts.map fun (i, x) => (i, ρv x))).run P w = .ok u w ∧ Rep w A β d u := by
  have hp : (parts.map fun (i, x) => (i, ρv x)).toList = parts.toList.map fun p => (p.1, ρv p.2) := by simp
  unfold buildD at h
  split at h
  next zero fields hz hu =>
    obtain ⟨i, z, hi, hzz, rfl⟩ := zero_spec hz
    split at h
    next hall =>
      simp only [Option.map_eq_some_iff] at h
      obtain ⟨cs, hf, rfl⟩ := h
      obtain ⟨vout, k1, k2⟩ := fillD_spec _ _ _ _ z.cells _ (parts_spec hρ parts.toList) (RepLs.ofV _) hf
      refine ⟨_, .agg vout, rfl, ?_, by simp only [Rep]; exact ⟨vout.toList, by simp, k2⟩⟩
      have hall' : ∀ f ∈ fields.toList, (P.info? f.type).isSome = true := fun f hf => List.all_eq_true.1 hall f hf
      simp only [Instr.build, Sem.run_bind, run_zeroValue hi hzz, Result.andThen_ok, run_underlying hu, Array.mapM_eq_mapM_toList, Sem.run_map, places_run fields.toList w hall', hp]
      have hpl : (fun (x : Nat) => ((fields.toList.map fun f => (f.offset, ((P.info? f.type).map (·.size)).getD 0)).toArray)[x]?) = fun i => (fields.toList.map fun f => (f.offset, ((P.info? f.type).map (·.size)).getD 0))[i]? := by funext i; simp
      rw [hpl, k1]
      rfl
    next => cases h
  next zero len elem hz hu =>
    obtain ⟨i, z, hi, hzz, rfl⟩ := zero_spec hz
    split at h
    · cases h
    next j hj =>
      simp only [Option.map_eq_some_iff] at h
      obtain ⟨cs, hf, rfl⟩ := h
      obtain ⟨vout, k1, k2⟩ := fillD_spec _ _ _ _ z.cells _ (parts_spec hρ parts.toList) (RepLs.ofV _) hf
      refine ⟨_, .agg vout, rfl, ?_, by simp only [Rep]; exact ⟨vout.toList, by simp, k2⟩⟩
      simp only [Instr.build, Sem.run_bind, run_zeroValue hi hzz, Result.andThen_ok, run_underlying hu, run_sizeOf hj, hp, k1]
      rfl
  · cases h
end
end Go.Dam
