/- The engine, part C: an abstract machine for the program's functions, proved right against the model. No condition. -/
import Derived.Test.YtpbngkempchamaaDamB
import Derived.Laws.World
set_option linter.unusedSectionVars false
set_option linter.unusedVariables false
set_option linter.unusedSimpArgs false
namespace Go.Dam
open Go Go.RowKit
set_option linter.unusedSectionVars false
variable [Glo]
set_option linter.unusedSimpArgs false
set_option linter.unusedVariables false

theorem Result.andThen_eq_ok' {α γ : Type} {r : Result α} {f : α → World → Result γ} {b : γ} {w' : World} (h : r.andThen f = .ok b w') : ∃ a w1, r = .ok a w1 ∧ f a w1 = .ok b w' := by
  cases r with
  | ok a w1 => exact ⟨a, w1, rfl, h⟩
  | halt x w1 => cases h

theorem CellsAt.get {w : World} {A : Nat → Prop} {β : Env} : ∀ {cs : List D} {ad : Addr}, ad.spot = none → CellsAt w A β cs ad → ∀ (j : Nat) (d : D), cs[j]? = some d → ∃ u, w.cell? (plusOff ad j) = some u ∧ Rep w A β d u
  | [], _, _, _, _, _, h => by simp at h
  | d :: ds, ad, hs, h, 0, e, he => by
    simp at he; subst he
    obtain ⟨⟨u, h1, h2⟩, _⟩ := h
    refine ⟨u, ?_, h2⟩
    rw [← h1]; congr 1; cases ad; simp at hs; simp [plusOff, hs]
  | d :: ds, ad, hs, h, j + 1, e, he => by
    obtain ⟨u, h1, h2⟩ := CellsAt.get rfl h.2 j e (by simpa using he)
    refine ⟨u, ?_, h2⟩
    rw [plusOff_plus] at h1; rw [Nat.add_comm j 1]; exact h1

theorem CellsAt.of_get {w : World} {A : Nat → Prop} {β : Env} : ∀ {cs : List D} {ad : Addr}, ad.spot = none → (∀ (j : Nat) (d : D), cs[j]? = some d → ∃ u, w.cell? (plusOff ad j) = some u ∧ Rep w A β d u) → CellsAt w A β cs ad
  | [], _, _, _ => trivial
  | d :: ds, ad, hs, h => by
    refine ⟨?_, CellsAt.of_get rfl fun j e he => ?_⟩
    · obtain ⟨u, h1, h2⟩ := h 0 d (by simp)
      refine ⟨u, ?_, h2⟩
      rw [← h1]; congr 1; cases ad; simp at hs; simp [plusOff, hs]
    · obtain ⟨u, h1, h2⟩ := h (j + 1) e (by simpa using he)
      refine ⟨u, ?_, h2⟩
      rw [plusOff_plus, Nat.add_comm 1 j]; exact h1

theorem RepAt.cellsAt {w : World} {A : Nat → Prop} {β : Env} (hR : ∀ d u, RepS w A d u → Rep w A β d u) : ∀ {cs : List D} {ad : Addr}, RepAt w A cs ad → CellsAt w A β cs ad
  | [], _, _ => trivial
  | _ :: _, _, h => by
    simp only [RepAt] at h
    obtain ⟨⟨u, h1, h2⟩, h3⟩ := h
    exact ⟨⟨u, h1, hR _ _ h2⟩, RepAt.cellsAt hR h3⟩

mutual
/-- What reads by shared memory reads so beside blocks. -/
theorem RepS.rep {w : World} {A : Nat → Prop} {β : Env} : ∀ (d : D) (u : Value), RepS w A d u → Rep w A β d u
  | .undef, _, h => by simpa [Rep] using h
  | .v _, _, h => by simpa [Rep] using h
  | .yld, _, h => by simp [RepS] at h
  | .sh _ _, _, h => by simpa [Rep] using h
  | .shp _ _, _, h => by simpa [Rep] using h
  | .emp, _, h => by simpa [Rep] using h
  | .rc _, _, h => by simp only [Rep]; exact h
  | .oc _, _, h => by simpa [Rep] using h
  | .pel _ _ _ _, _, h => by simp [RepS] at h
  | .ow _ _ _, _, h => by simpa [Rep] using h
  | .sl _ _ _ _, _, h => by simp [RepS] at h
  | .ptr _ _, _, h => by simp [RepS] at h
  | .agg cs, u, h => by
    simp only [RepS] at h; simp only [Rep]
    obtain ⟨vs, rfl, h⟩ := h
    exact ⟨vs, rfl, RepL.repLs cs vs h⟩
  | .tup cs, u, h => by
    simp only [RepS] at h; simp only [Rep]
    obtain ⟨vs, rfl, h⟩ := h
    exact ⟨vs, rfl, RepL.repLs cs vs h⟩
  | .fn f cs, u, h => by
    simp only [RepS] at h; simp only [Rep]
    obtain ⟨vs, rfl, h⟩ := h
    exact ⟨vs, rfl, RepL.repLs cs vs h⟩
theorem RepL.repLs {w : World} {A : Nat → Prop} {β : Env} : ∀ (cs : List D) (vs : List Value), RepL w A cs vs → RepLs w A β cs vs
  | [], _, h => by simpa [RepL, RepLs] using h
  | d :: ds, vs, h => by
    simp only [RepL] at h; simp only [RepLs]
    obtain ⟨x, xs, rfl, h1, h2⟩ := h
    exact ⟨x, xs, rfl, RepS.rep d x h1, RepL.repLs ds xs h2⟩
end

theorem RepAt.drop {w : World} {A : Nat → Prop} : ∀ {cs : List D} {ad : Addr}, ad.spot = none → ∀ n, RepAt w A cs ad → RepAt w A (cs.drop n) (plusOff ad n)
  | cs, ad, hs, 0, h => by
    have : plusOff ad 0 = ad := by cases ad; simp at hs; simp [plusOff, hs]
    rw [this]; simpa using h
  | [], _, _, _ + 1, _ => by simp [RepAt]
  | d :: ds, ad, hs, n + 1, h => by
    simp only [RepAt] at h
    have := RepAt.drop (ad := plusOff ad 1) rfl n h.2
    rw [plusOff_plus, Nat.add_comm 1 n] at this
    simpa using this

theorem RepAt.take {w : World} {A : Nat → Prop} : ∀ {cs : List D} {ad : Addr} (n : Nat), RepAt w A cs ad → RepAt w A (cs.take n) ad
  | _, _, 0, _ => by simp [RepAt]
  | [], _, _ + 1, _ => by simp [RepAt]
  | d :: ds, ad, n + 1, h => by
    simp only [RepAt, List.take_succ_cons] at h ⊢
    exact ⟨h.1, RepAt.take n h.2⟩

theorem RepLs.get {w : World} {A : Nat → Prop} {β : Env} : ∀ {cs : List D} {vs : List Value}, RepLs w A β cs vs → ∀ (j : Nat) (d : D), cs[j]? = some d → ∃ u, vs[j]? = some u ∧ Rep w A β d u
  | [], _, _, _, _, h => by simp at h
  | d :: ds, vs, h, j, e, he => by
    simp only [RepLs] at h
    obtain ⟨x, xs, rfl, h1, h2⟩ := h
    cases j with
    | zero => simp at he; subst he; exact ⟨x, by simp, h1⟩
    | succ j => simpa using RepLs.get h2 j e (by simpa using he)

theorem RepLs.of_get {w : World} {A : Nat → Prop} {β : Env} : ∀ {cs : List D} {vs : List Value}, cs.length = vs.length → (∀ (j : Nat) (d : D), cs[j]? = some d → ∃ u, vs[j]? = some u ∧ Rep w A β d u) → RepLs w A β cs vs
  | [], vs, hl, _ => by simp at hl; simp [RepLs, List.length_eq_zero_iff.1 hl.symm]
  | d :: ds, [], hl, _ => by simp at hl
  | d :: ds, x :: xs, hl, h => by
    simp only [RepLs]
    refine ⟨x, xs, rfl, ?_, RepLs.of_get (by simpa using hl) fun j e he => ?_⟩
    · obtain ⟨u, h1, h2⟩ := h 0 d (by simp); simp at h1; subst h1; exact h2
    · simpa using h (j + 1) e (by simpa using he)

theorem RepLs.length {w : World} {A : Nat → Prop} {β : Env} : ∀ {cs : List D} {vs : List Value}, RepLs w A β cs vs → vs.length = cs.length
  | [], vs, h => by simp [RepLs] at h; simp [h]
  | d :: ds, vs, h => by
    simp only [RepLs] at h
    obtain ⟨x, xs, rfl, _, h2⟩ := h
    simp [RepLs.length h2]

theorem RepLs.append {w : World} {A : Nat → Prop} {β : Env} : ∀ {cs ds : List D} {vs us : List Value}, RepLs w A β cs vs → RepLs w A β ds us → RepLs w A β (cs ++ ds) (vs ++ us)
  | [], _, vs, _, h, k => by simp [RepLs] at h; subst h; simpa using k
  | d :: cs, _, vs, _, h, k => by
    simp only [RepLs, List.cons_append] at h ⊢
    obtain ⟨x, xs, rfl, h1, h2⟩ := h
    exact ⟨x, xs ++ _, rfl, h1, RepLs.append h2 k⟩

theorem RepLs.take {w : World} {A : Nat → Prop} {β : Env} {cs : List D} {vs : List Value} (n : Nat) (h : RepLs w A β cs vs) : RepLs w A β (cs.take n) (vs.take n) := by
  induction n generalizing cs vs with
  | zero => simp [RepLs]
  | succ n ih =>
    cases cs with
    | nil => simp [RepLs] at h; subst h; simp [RepLs]
    | cons d ds =>
      simp only [RepLs] at h
      obtain ⟨x, xs, rfl, h1, h2⟩ := h
      simp only [List.take_succ_cons, RepLs]
      exact ⟨x, _, rfl, h1, ih h2⟩

theorem RepLs.drop {w : World} {A : Nat → Prop} {β : Env} {cs : List D} {vs : List Value} (n : Nat) (h : RepLs w A β cs vs) : RepLs w A β (cs.drop n) (vs.drop n) := by
  induction n generalizing cs vs with
  | zero => simpa using h
  | succ n ih =>
    cases cs with
    | nil => simp [RepLs] at h; subst h; simp [RepLs]
    | cons d ds =>
      simp only [RepLs] at h
      obtain ⟨x, xs, rfl, h1, h2⟩ := h
      simpa using ih h2

/-- Cells are loaded. -/
theorem loadCellsFrom_run {w : World} {A : Nat → Prop} {β : Env} (P : Program) {ad : Addr} (hs : ad.spot = none) : ∀ (n i : Nat) (cs : List D) (acc : Array Value),
    (∀ (j : Nat) (d : D), cs[j]? = some d → ∃ u, w.cell? (plusOff ad (i + j)) = some u ∧ Rep w A β d u) → cs.length = n →
    ∃ vs : List Value, (loadCellsFrom ad i n acc).run P w = .ok (acc ++ vs.toArray) w ∧ RepLs w A β cs vs
  | 0, i, cs, acc, _, hl => by
    have : cs = [] := List.length_eq_zero_iff.1 hl
    subst this
    exact ⟨[], by simp [loadCellsFrom], by simp [RepLs]⟩
  | n + 1, i, [], acc, _, hl => by simp at hl
  | n + 1, i, d :: ds, acc, h, hl => by
    obtain ⟨u, h1, h2⟩ := h 0 d (by simp)
    obtain ⟨vs, h3, h4⟩ := loadCellsFrom_run P hs n (i + 1) ds (acc.push u) (fun j e he => by
      obtain ⟨u, k1, k2⟩ := h (j + 1) e (by simpa using he)
      exact ⟨u, by rw [← k1]; congr 2; omega, k2⟩) (by simpa using hl)
    refine ⟨u :: vs, ?_, by simp only [RepLs]; exact ⟨u, vs, rfl, h2, h4⟩⟩
    simp only [loadCellsFrom, Sem.run_bind, run_load]
    rw [add_eq_plus _ _ hs]
    have h1' : w.cell? (plusOff ad i) = some u := h1
    rw [h1']
    simp only [Result.andThen_ok, h3]
    simp

theorem loadCells_run {w : World} {A : Nat → Prop} {β : Env} (P : Program) {ad : Addr} (hs : ad.spot = none) {cs : List D} (h : CellsAt w A β cs ad) :
    ∃ vs : List Value, (loadCells ad cs.length).run P w = .ok vs.toArray w ∧ RepLs w A β cs vs := by
  obtain ⟨vs, h1, h2⟩ := loadCellsFrom_run P hs cs.length 0 cs #[] (fun j d hj => by simpa using h.get hs j d hj) rfl
  exact ⟨vs, by simpa [loadCells] using h1, h2⟩

/-- The array with some cells put at a place. -/
def putAt (c : Array Value) (i : Nat) : List Value → Array Value
  | [] => c
  | u :: us => putAt (c.setIfInBounds i u) (i + 1) us

theorem putAt_size : ∀ (us : List Value) (c : Array Value) (i : Nat), (putAt c i us).size = c.size
  | [], _, _ => rfl
  | u :: us, c, i => by simp [putAt, putAt_size us]

theorem putAt_get : ∀ (us : List Value) (c : Array Value) (i j : Nat), i + us.length ≤ c.size → (putAt c i us)[j]? = if i ≤ j ∧ j < i + us.length then us[j - i]? else c[j]?
  | [], c, i, j, _ => by simp [putAt]; omega
  | u :: us, c, i, j, h => by
    simp only [List.length_cons] at h ⊢
    rw [putAt, putAt_get us _ (i + 1) j (by simp; omega)]
    by_cases e : i = j
    · subst e
      rw [if_neg (by omega), if_pos (by omega)]
      have hi : i < c.size := by omega
      simp [hi]
    · by_cases h1 : i + 1 ≤ j ∧ j < i + 1 + us.length
      · rw [if_pos h1, if_pos (by omega)]
        rw [show j - i = (j - (i + 1)) + 1 from by omega]; simp
      · rw [if_neg h1, if_neg (by omega)]
        simp [Array.getElem?_setIfInBounds_ne e]

theorem cell_of_obj {w : World} {b o : Nat} {c : Array Value} {T : TypeId} {fz : Nat × Nat} (h : w.heap[b]? = some (.cells c T fz)) : w.cell? ⟨b, o, none⟩ = c[o]? := by
  simp [World.cell?, h]

/-- Cells are stored. -/
theorem storeCells_run (P : Program) (b T : Nat) : ∀ (us : List Value) (w : World) (c : Array Value) (off i : Nat), w.heap[b]? = some (.cells c T (0, 0)) → (∀ u ∈ us, u.oneCell' = true) → off + i + us.length ≤ c.size →
    ∃ w', (storeCells ⟨b, off, none⟩ us i).run P w = .ok () w' ∧ w'.heap[b]? = some (.cells (putAt c (off + i) us) T (0, 0)) ∧ (∀ k, k ≠ b → w'.heap[k]? = w.heap[k]?) ∧
      w'.os = w.os ∧ w'.tape = w.tape ∧ w'.output = w.output ∧ w'.heap.size = w.heap.size
  | [], w, c, off, i, h, _, _ => ⟨w, by simp [storeCells], by simpa [putAt] using h, fun _ _ => rfl, rfl, rfl, rfl, rfl⟩
  | u :: us, w, c, off, i, h, ho, hl => by
    simp only [List.length_cons] at hl
    have hcell : w.cell? ⟨b, off + i, none⟩ = c[off + i]? := cell_of_obj h
    have hlt : off + i < c.size := by omega
    have hset : (w.setCell ⟨b, off + i, none⟩ u).heap[b]? = some (.cells (c.setIfInBounds (off + i) u) T (0, 0)) := by
      simp [World.setCell, Array.getElem?_modify, h]
    obtain ⟨w', h1, h2, h3, h4, h5, h6, h7⟩ := storeCells_run P b T us (w.setCell ⟨b, off + i, none⟩ u) (c.setIfInBounds (off + i) u) off (i + 1) hset (fun x hx => ho x (by simp [hx])) (by simp; omega)
    refine ⟨w', ?_, by rw [h2]; simp [putAt, Nat.add_assoc], fun k hk => ?_, ?_⟩
    · simp only [storeCells, Sem.run_bind]
      rw [add_eq_plus _ _ rfl, run_store _ _ _ _ _ (ho u (by simp))]
      have e1 : w.cell? (plusOff ⟨b, off, none⟩ i) = some c[off + i] := by
        show w.cell? ⟨b, off + i, none⟩ = _
        rw [hcell, Array.getElem?_eq_getElem hlt]
      have e2 : w.frozen? (plusOff ⟨b, off, none⟩ i) = false := by simp [World.frozen?, plusOff, h]
      rw [e1, e2]
      simp only [Result.andThen_ok]
      exact h1
    · rw [h3 k hk]; exact Below.heap_setCell _ _ _ _ hk
    · exact ⟨h4.trans rfl, h5.trans rfl, h6.trans rfl, h7.trans (by simp)⟩

end Go.Dam
