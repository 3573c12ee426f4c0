/- The engine: an abstract machine for the program's functions, proved right against the model. No condition. -/
import Derived.Test.YtakcfkmfiamliaaDamJ
import Derived.IntWalk
set_option linter.unusedSectionVars false
set_option linter.unusedVariables false
set_option linter.unusedSimpArgs false
section
namespace Go.Dam
open Go Go.RowKit
set_option linter.unusedSectionVars false
variable [Glo]
set_option linter.unusedSimpArgs false
set_option linter.unusedVariables false
section
variable {P : Program} {w : World} {A : Nat → Prop} {β : Env} {base : Nat} {σ : St} {tmps : Array Value} {acts : List (Array Value)}
theorem range_map_zero (z : Array Value) (n : Nat) : ((Array.range (n * z.size)).map fun i => z[i % z.size]!) = (List.replicate n z.toList).flatten.toArray := by
  induction n with
  | zero => simp
  | succ n ih =>
    apply Array.ext'
    have h1 := congrArg Array.toList ih
    simp only [Array.toList_map, Array.toList_range] at h1 ⊢
    rw [Nat.succ_mul, List.range_add, List.map_append, h1, List.replicate_succ', List.flatten_append]
    simp only [List.map_map]
    congr 1
    simp only [List.flatten_cons, List.flatten_nil, List.append_nil]
    apply List.ext_getElem?
    intro i
    rcases Nat.lt_or_ge i z.size with h | h
    · simp [h, Nat.mod_eq_of_lt h]
    · simp [h]
theorem zeros_rep (z : Array Value) (n : Nat) : RepLs w A β (List.replicate n (z.toList.map D.v)).flatten (List.replicate n z.toList).flatten := by
  induction n with
  | zero => simp [RepLs]
  | succ n ih => simp only [List.replicate_succ, List.flatten_cons]; exact (RepLs.ofV _).append ih
theorem makeSlice_sound {t : TypeId} {l c : D} {vl vc : Value} (hl : Rep w A β l vl) (hc : Rep w A β c vc) {e : Eff} (h : makeSliceD P t l c = some e) :
    Good P w A β (((Instr.makeSlice t vl vc).run P w).andThen fun v w' => .ok (.value v) w') e := by
  unfold makeSliceD at h
  split at h
  next elem li ci hu h1 h2 =>
    obtain ⟨k1, rfl⟩ := indexOf_spec hl h1
    obtain ⟨k2, rfl⟩ := indexOf_spec hc h2
    split at h
    next j zs hj hz =>
      obtain ⟨j', z, hj', hzz, rfl⟩ := zero_spec hz
      rw [hj] at hj'; cases hj'
      split at h
      next hb =>
        simp at h; subst h
        obtain ⟨b1, b2, b3, b4, b5⟩ := hb
        have b5' : z.cells.size = j.size := by simpa using b5
        have e1 : IntKind.i64.wrap li = li := IntWalk.i64_in li (by omega)
        have e2 : IntKind.i64.wrap ci = ci := IntWalk.i64_in ci (by omega)
        have b3' : j.bytes * ci ≤ 2 ^ 40 := by rw [Int.mul_comm]; exact b3
        refine ⟨elem, (List.replicate ci.toNat z.cells.toList).flatten, ci.toNat, zeros_rep _ _, by omega, ?_, ?_⟩
        · simp [b5']
        · have hn1' : ¬ ((281474976710656 : Int) < j.bytes * ci) := by omega
          have hn2 : ¬ ci < 0 := by omega
          have hn3 : ¬ li < 0 := by omega
          have hn4 : ¬ ci < li := by omega
          simp only [Instr.makeSlice, Sem.run_bind, run_underlying hu, Result.andThen_ok, asInt, asIntOf, Sem.run_pure, run_typeInfo hj, e1, e2]
          simp [hn1', hn2, hn3, hn4, run_sizeOf hj, newRow]
          have hm := range_map_zero z.cells ci.toNat
          rw [b5'] at hm
          by_cases h0 : ci.toNat * j.size = 0
          · rw [if_pos h0]
            rw [h0] at hm ⊢
            rw [← hm]
            simp [show Array.range 0 = #[] from rfl]
          · rw [if_neg h0]
            simp [run_zeroValue hj hzz, b5', hm]
      · cases h
    · cases h
  · cases h
theorem fillD_length (place : Nat → Option (Nat × Nat)) : ∀ (parts : List (Nat × D)) (cells out : List D), fillD place cells parts = some out → out.length = cells.length
  | [], cells, out, h => by simp [fillD] at h; rw [h]
  | (i, x) :: rest, cells, out, h => by
    simp only [fillD] at h
    split at h
    next off size ds hp hc =>
      split at h
      next hl =>
        rw [fillD_length place rest _ _ h]
        simp [splice]; omega
      · cases h
    · cases h
theorem buildSlice_sound {ρ : Operand → D} {ρv : Operand → Value} (hρ : ∀ x, Rep w A β (ρ x) (ρv x)) {t : TypeId} {len : Nat} {parts : Array (Nat × Operand)} {e : Eff} (h : buildSliceD P t len (parts.toList.map fun p => (p.1, ρ p.2)) = some e) :
    Good P w A β (((Instr.buildSlice t len (parts.map fun (i, x) => (i, ρv x))).run P w).andThen fun v w' => .ok (.value v) w') e := by
  have hp : (parts.map fun (i, x) => (i, ρv x)).toList = parts.toList.map fun p => (p.1, ρv p.2) := by simp
  unfold buildSliceD at h
  split at h
  next elem hu =>
    split at h
    next j zs hj hz =>
      obtain ⟨j', z, hj', hzz, rfl⟩ := zero_spec hz
      rw [hj] at hj'; cases hj'
      split at h
      next hb =>
        simp only [Option.map_eq_some_iff] at h
        obtain ⟨cs, hf, rfl⟩ := h
        have b5 : z.cells.size = j.size := by simpa using hb.2
        have hm := range_map_zero z.cells len
        rw [b5] at hm
        obtain ⟨vout, k1, k2⟩ := fillD_spec _ _ _ _ (List.replicate len z.cells.toList).flatten.toArray _ (parts_spec hρ parts.toList) (zeros_rep _ _) hf
        have hlen := k2.length
        have hcs : cs.length = len * j.size := by
          have := fillD_length _ _ _ _ hf
          rw [this]; simp [b5]
        suffices hrun : (((Instr.buildSlice t len (parts.map fun (i, x) => (i, ρv x))).run P w).andThen fun v w' => Result.ok (Next.value v) w') = .ok (.value (.slice (some ⟨w.heap.size, 0, none⟩) len len)) (w.alloc (.cells vout.toList.toArray elem)) by
          cases len with
          | zero => exact ⟨elem, vout.toList.toArray, hrun⟩
          | succ n => exact ⟨elem, vout.toList, n + 1, k2, Nat.le_refl _, by rw [hlen, hcs]; exact Nat.le_refl _, hrun⟩
        have hn : ¬ (len * j.size > 2 ^ 24) := by omega
        simp only [Instr.buildSlice, Sem.run_bind, run_underlying hu, Result.andThen_ok, run_sizeOf hj, hn, if_false]
        by_cases h0 : len * j.size = 0
        · have hm0 : ((Array.range (len * j.size)).map fun i => (#[] : Array Value)[i % (#[] : Array Value).size]!) = (List.replicate len z.cells.toList).flatten.toArray := by
            rw [← hm, h0]; simp [show Array.range 0 = #[] from rfl]
          simp only [if_pos h0, Sem.run_bind, Sem.run_pure, Result.andThen_ok, hm0, hp, k1]
          rfl
        · simp only [if_neg h0, Sem.run_bind, Sem.run_pure, Result.andThen_ok, run_zeroValue hj hzz, b5, hm, hp, k1]
          rfl
      · cases h
    · cases h
  · cases h
theorem len_sound {t : TypeId} {x : D} {vx : Value} (hx : Rep w A β x vx) {ty : TypeId} {e : Eff} (h : lenD P t x = some e) : ∃ d u, e = .val d ∧ (Builtin.len_ #[t] ty #[vx]).run P w = .ok u w ∧ Rep w A β d u := by
  unfold lenD at h
  split at h
  next el hu =>
    split at h
    · simp at h; subst h
      simp only [Rep, RepS] at hx
      obtain ⟨o, c, rfl, _⟩ := hx
      exact ⟨_, _, rfl, by simp [Builtin.len_, run_underlying hu]; rfl, by simp [Rep, RepS]⟩
    · simp at h; subst h
      simp only [Rep] at hx
      obtain ⟨o, c, rfl, _⟩ := hx
      exact ⟨_, _, rfl, by simp [Builtin.len_, run_underlying hu]; rfl, by simp [Rep, RepS]⟩
    · simp at h; subst h
      simp only [Rep, RepS] at hx; subst hx
      exact ⟨_, _, rfl, by simp [Builtin.len_, run_underlying hu]; rfl, by simp [Rep, RepS]⟩
    · simp at h; subst h
      simp only [Rep, RepS] at hx
      obtain ⟨o, rfl⟩ := hx
      exact ⟨_, _, rfl, by simp [Builtin.len_, run_underlying hu]; rfl, by simp [Rep, RepS, goInt]⟩
    · simp at h; subst h
      simp only [Rep, RepS] at hx
      obtain ⟨o, c, rfl, _⟩ := hx
      exact ⟨_, _, rfl, by simp [Builtin.len_, run_underlying hu]; rfl, by simp [Rep, RepS]⟩
    · cases h
  next hu =>
    split at h
    · simp at h; subst h
      simp only [Rep, RepS] at hx; subst hx
      exact ⟨_, _, rfl, by simp [Builtin.len_, run_underlying hu]; rfl, by simp [Rep, RepS]⟩
    · cases h
  next n el hu =>
    simp at h; subst h
    exact ⟨_, _, rfl, by simp [Builtin.len_, run_underlying hu]; rfl, by simp [Rep, RepS]⟩
  · cases h
theorem cells_read {ad : Addr} {cs : List D} (hs : ad.spot = none) (hc : CellsAt w A β cs ad) : ∃ vs : List Value, (∀ w' : World, w'.heap = w.heap → (loadCells ad cs.length).run P w' = .ok vs.toArray w') ∧ RepLs w A β cs vs := by
  obtain ⟨vs, k1, k2⟩ := loadCells_run P hs hc
  refine ⟨vs, fun w' hw' => ?_, k2⟩
  have hx' : Ext A w w' := .of_heap hw'
  obtain ⟨vs', k3, k4⟩ := loadCells_run P hs (CellsAt.mono (β' := β) hx' (fun _ h => h) _ _ (by rw [hw']) (fun _ _ => rfl) hc)
  -- the same cells are read
  have hsame : ∀ (n i : Nat) (acc : Array Value) (r : Array Value), (loadCellsFrom ad i n acc).run P w = .ok r w → (∀ j, j < n → (w.cell? (plusOff ad (i + j))).isSome = true) → (loadCellsFrom ad i n acc).run P w' = .ok r w' := by
    intro n
    induction n with
    | zero => intro i acc r h _; simp [loadCellsFrom] at h ⊢; exact h
    | succ n ih =>
      intro i acc r h hj
      obtain ⟨u, hu⟩ := Option.isSome_iff_exists.1 (hj 0 (by omega))
      have hu' : w'.cell? (plusOff ad (i + 0)) = some u := by rw [← hu]; exact cell_of_same (by rw [hw'])
      simp only [Nat.add_zero] at hu hu'
      simp only [loadCellsFrom, Sem.run_bind, run_load, add_eq_plus _ _ hs, hu, hu', Result.andThen_ok] at h ⊢
      exact ih (i + 1) _ r h (fun j hlt => by rw [show i + 1 + j = i + (j + 1) from by omega]; exact hj (j + 1) (by omega))
  exact hsame _ 0 #[] _ k1 (fun j hj => by
    obtain ⟨u, hu, _⟩ := hc.get hs j _ (List.getElem?_eq_getElem hj)
    rw [Nat.zero_add, hu]; rfl)
theorem repAt_app : ∀ (xs ys : List D) (ad : Addr), ad.spot = none → RepAt w A xs ad → RepAt w A ys (plusOff ad xs.length) → RepAt w A (xs ++ ys) ad
  | [], ys, ad, hs, _, h => by rw [List.length_nil, plusOff_zero hs] at h; exact h
  | x :: xs, ys, ad, hs, h1, h2 => by
    simp only [List.cons_append, RepAt] at h1 ⊢
    refine ⟨h1.1, repAt_app xs ys (plusOff ad 1) rfl h1.2 ?_⟩
    rw [plusOff_plus, Nat.add_comm 1, ← List.length_cons (a := x)]
    exact h2
theorem rowCells_length (cs : List Col) : (rowCells cs).length = rowLen cs * cs.length := by
  unfold rowCells
  rw [List.length_flatMap]
  simp [List.map_const']
/-- A row that came in, as cells. -/
theorem RepR.sh {cs : List Col} {u : Value} (h : RepR w A cs u) : RepS w A (.sh (rowLen cs) (rowCells cs)) u := by
  obtain ⟨o, cp, rfl, _, h1, h2, h3⟩ := h
  simp only [RepS]
  have hz : rowLen cs = 0 → rowCells cs = [] := fun e => by simp [rowCells, e]
  refine ⟨o, cp, rfl, h1, fun h => h2 (fun e => by rcases h with h | h; exact h e; exact h (hz e)), ?_⟩
  by_cases hn : rowLen cs = 0
  · rw [hz hn]; simp [RepAt]
  · obtain ⟨ad, rfl, h4, h5⟩ := h2 hn
    simp only [Option.getD_some] at h3 ⊢
    have key : ∀ n, n ≤ rowLen cs → RepAt w A ((List.range n).flatMap fun i => cs.map (Col.cell i)) ad := by
      intro n
      induction n with
      | zero => intro _; simp [RepAt]
      | succ n ih =>
        intro hle
        rw [List.range_succ, List.flatMap_append]
        refine repAt_app _ _ _ h4 (ih (by omega)) ?_
        have hl : ((List.range n).flatMap fun i => cs.map (Col.cell i)).length = n * cs.length := by rw [List.length_flatMap]; simp [List.map_const']
        rw [hl]
        simp only [List.flatMap_cons, List.flatMap_nil, List.append_nil]
        exact cells_at cs _ (fun j c hj => by rw [plusOff_plus]; exact h3 n j c (by omega) hj) rfl
    exact key _ (Nat.le_refl _)
theorem elems_sh {size n : Nat} {cs : List D} {vx : Value} (hx : RepS w A (.sh n cs) vx) (hl : n * size = cs.length) : ∃ vs, Src P w size n vx vs ∧ RepLs w A β cs vs ∧ cs.length = n * size := by
  simp only [RepS] at hx
  obtain ⟨o, c, rfl, hnc, h1, h2⟩ := hx
  by_cases hz : n * size = 0
  · have hnil : cs = [] := List.length_eq_zero_iff.1 (by omega)
    subst hnil
    refine ⟨[], ⟨by simp [Builtin.lenOf], fun w' _ => ?_⟩, by simp [RepLs], by simp [hz]⟩
    cases o <;> simp [Builtin.firstCells, hz, loadCells, loadCellsFrom]
  · obtain ⟨ad, rfl, h3, h4⟩ := h1 (.inl (by intro h; subst h; simp at hz))
    obtain ⟨vs, k1, k2⟩ := cells_read (P := P) h3 (RepAt.cellsAt (fun d u h => RepS.rep (β := β) d u h) h2)
    refine ⟨vs, ⟨by simp [Builtin.lenOf], fun w' hw' => ?_⟩, k2, hl.symm⟩
    rw [← hl] at k1
    simp [Builtin.firstCells, k1 w' hw']
/-- The elements of a slice are read: by whatever world has this heap. -/
theorem elems_sound (hrel : Rel w A β base σ tmps acts) {size : Nat} {x : D} {vx : Value} (hx : Rep w A β x vx) {m : Nat} {ds : List D} (h : x.elems σ.bk size = some (m, ds)) :
    ∃ vs, Src P w size m vx vs ∧ RepLs w A β ds vs ∧ ds.length = m * size := by
  have hload : ∀ (ad : Addr) (cs : List D), ad.spot = none → CellsAt w A β cs ad → ∃ vs : List Value, (∀ w' : World, w'.heap = w.heap → (loadCells ad cs.length).run P w' = .ok vs.toArray w') ∧ RepLs w A β cs vs := fun ad cs hs hc => cells_read hs hc
  cases x with
  | sh n cs =>
    simp only [D.elems] at h
    split at h
    next hl =>
      simp at h; obtain ⟨rfl, rfl⟩ := h
      simp only [Rep, RepS] at hx
      obtain ⟨o, c, rfl, hnc, h1, h2⟩ := hx
      by_cases hz : n * size = 0
      · have hnil : cs = [] := List.length_eq_zero_iff.1 (by omega)
        subst hnil
        refine ⟨[], ⟨by simp [Builtin.lenOf], fun w' _ => ?_⟩, by simp [RepLs], by simp [hz]⟩
        cases o <;> simp [Builtin.firstCells, hz, loadCells, loadCellsFrom]
      · obtain ⟨ad, rfl, h3, h4⟩ := h1 (.inl (by intro h; subst h; simp at hz))
        obtain ⟨vs, k1, k2⟩ := hload ad cs h3 (RepAt.cellsAt (fun d u h => RepS.rep d u h) h2)
        refine ⟨vs, ⟨by simp [Builtin.lenOf], fun w' hw' => ?_⟩, k2, hl.symm⟩
        rw [← hl] at k1
        simp [Builtin.firstCells, k1 w' hw']
    · cases h
  | sl id off n sz =>
    simp only [D.elems] at h
    split at h
    next b hb =>
      split at h
      next hl =>
        simp at h; obtain ⟨rfl, rfl⟩ := h
        obtain ⟨sz, r⟩ := sz
        simp only at hl
        obtain ⟨rfl, hl⟩ := hl
        have hlen : ((b.cells.drop off).take (n * sz)).length = n * sz := by simp; omega
        simp only [Rep] at hx
        obtain ⟨o, c, rfl, hx⟩ := hx
        by_cases hz : n * sz = 0
        · refine ⟨[], ⟨by simp [Builtin.lenOf], fun w' _ => ?_⟩, by rw [hz]; simp [RepLs], hlen⟩
          cases o <;> simp [Builtin.firstCells, hz, loadCells, loadCellsFrom]
        · rcases hx with ⟨h1, _⟩ | ⟨_, ad, h1, rfl, _⟩
          · obtain rfl : n = 0 := by omega
            simp at hz
          · rcases hrel.blk id b hb with ⟨h2, _⟩ | ⟨ad', h2, h3⟩
            · rw [h1] at h2; cases h2
            · rw [h1] at h2; cases h2
              obtain ⟨vs, k1, k2⟩ := hload (plusOff ad off) _ rfl ((h3.cells.drop h3.spot off).take rfl (n * sz))
              refine ⟨vs, ⟨by simp [Builtin.lenOf], fun w' hw' => ?_⟩, k2, hlen⟩
              rw [hlen] at k1
              simp [Builtin.firstCells, k1 w' hw']
      · cases h
    · cases h
  | v y =>
    have hy : y = .slice none 0 0 ∧ m = 0 ∧ ds = [] := by
      cases y with
      | slice o n c =>
        cases o with
        | none =>
          cases n with
          | zero =>
            cases c with
            | zero => simp [D.elems] at h; exact ⟨rfl, h.1.symm, h.2⟩
            | succ c => simp [D.elems] at h
          | succ n => simp [D.elems] at h
        | some a => simp [D.elems] at h
      | _ => simp [D.elems] at h
    obtain ⟨rfl, rfl, rfl⟩ := hy
    simp only [Rep, RepS] at hx; subst hx
    exact ⟨[], ⟨by simp [Builtin.lenOf], fun w' _ => by simp [Builtin.firstCells]⟩, by simp [RepLs], by simp⟩
  | rc cs =>
    simp only [D.elems] at h
    split at h
    next hl =>
      simp at h; obtain ⟨rfl, rfl⟩ := h
      simp only [Rep, RepS] at hx
      exact elems_sh hx.sh (by rw [rowCells_length, hl])
    · cases h
  | emp =>
    simp only [D.elems, Option.some.injEq, Prod.mk.injEq] at h
    obtain ⟨rfl, rfl⟩ := h
    simp only [Rep, RepS] at hx
    obtain ⟨o, rfl⟩ := hx
    refine ⟨[], ⟨by simp [Builtin.lenOf], fun w' _ => ?_⟩, by simp [RepLs], by simp⟩
    cases o <;> simp [Builtin.firstCells, loadCells, loadCellsFrom]
  | _ => simp [D.elems] at h
end
end Go.Dam
end
