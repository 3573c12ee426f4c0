/- The engine, part E: an abstract machine for the program's functions, proved right against the model. No condition. -/
import Derived.Test.YtpbngkempchamaaDamC
set_option linter.unusedSectionVars false
set_option linter.unusedVariables false
set_option linter.unusedSimpArgs false
namespace Go.Dam
open Go Go.RowKit
set_option linter.unusedSectionVars false
variable [Glo]
set_option linter.unusedSimpArgs false
set_option linter.unusedVariables false

section
variable {w w' : World} {A : Nat → Prop} {β : Env} {base : Nat} {σ : St} {tmps : Array Value} {acts : List (Array Value)}

theorem Ext.of_heap (h : w'.heap = w.heap) : Ext A w w' := ⟨fun k _ => by rw [h], fun b m ⟨c, T, fz, h1, h2⟩ => ⟨c, T, fz, by rw [h]; exact h1, h2⟩⟩

/-- Only the heap counts. -/
theorem Rel.heap_eq (h : Rel w A β base σ tmps acts) (e : w'.heap = w.heap) : Rel w' A β base σ tmps acts :=
  h.carry (.of_heap e) (fun _ h => h) (fun k hk => by rw [e]; exact h.low k hk) (by rw [e]; exact h.top) (fun _ _ _ => rfl) (fun _ _ _ _ _ => rfl) (fun i b hb => ⟨rfl, fun _ _ => rfl, fun ad _ => ⟨by rw [e], fun x => x⟩⟩) (h.lp.mono (.of_heap e) (.refl _ _) (fun _ => rfl))

theorem Rel.rep_drew {cs : List D} {vs : List Value} (h : RepLs w A β cs vs) : RepLs w.drew A β cs vs := RepLs.mono (w := w) (w' := w.drew) (.of_heap rfl) (fun _ h => h) _ _ (fun _ _ => rfl) h

theorem Turn.of_heap (e : w'.heap = w.heap) (h1 : w'.os = w.os) (h2 : w'.tape = w.tape) (h3 : w'.output = w.output) : Turn A A base w w' :=
  ⟨.of_heap e, fun _ h => h, ⟨h1, h2, h3, by rw [e]; exact Nat.le_refl _, fun k _ => by rw [e]⟩, fun _ h _ => h, .strict (.of_heap e) (.refl _ _)⟩

theorem Oth.alloc (w : World) (o : Obj) : Oth w (w.alloc o) := fun k o' hk _ => (Below.heap_alloc w o k (Array.getElem?_eq_some_iff.1 hk).1).trans hk

theorem Ext.alloc (hA : ∀ k, A k → k < w.heap.size) (o : Obj) : Ext A w (w.alloc o) :=
  ⟨fun k hk => Below.heap_alloc _ _ _ (hA k hk), fun b m ⟨c, T, fz, h1, h2⟩ => ⟨c, T, fz, by
    have : b < w.heap.size := by
      rcases Nat.lt_or_ge b w.heap.size with h | h
      · exact h
      · rw [Array.getElem?_eq_none h] at h1; cases h1
    rw [Below.heap_alloc _ _ _ this]; exact h1, h2⟩⟩

theorem Turn.alloc (h : Rel w A β base σ tmps acts) (o : Obj) : Turn A A base w (w.alloc o) :=
  ⟨.alloc h.low o, fun _ h => h, (Below.refl _ _).alloc h.top o, fun _ h _ => h, .strict (.alloc w o) (.refl _ _)⟩

theorem Rel.alloc0 (h : Rel w A β base σ tmps acts) (o : Obj) : Rel (w.alloc o) A β base σ tmps acts :=
  h.carry (.alloc h.low o) (fun _ h => h) (fun k hk => by have := h.low k hk; simp; omega) (by have := h.top; simp; omega) (fun _ _ _ => rfl) (fun _ _ _ _ _ => rfl)
    (fun i b hb => ⟨rfl, fun _ _ => rfl, fun ad ha => ⟨Below.heap_alloc _ _ _ (by
      rcases h.blk i b hb with ⟨h1, _⟩ | ⟨ad', h1, hB⟩
      · rw [ha] at h1; cases h1
      · rw [ha] at h1; cases h1
        obtain ⟨c, T, hobj⟩ := hB.obj
        exact (Array.getElem?_eq_some_iff.1 hobj).1), fun x => x⟩⟩) (h.lp.mono (.alloc w o) (.refl _ _) (fun _ => rfl))

/-- 'β' with a block more. -/
def Env.set (β : Env) (id : Nat) (ad : Option Addr) : Env := fun i => if i = id then ad else β i
theorem Env.set_same (β : Env) (id : Nat) (ad : Option Addr) : β.set id ad id = ad := by simp [Env.set]
theorem Env.set_other (β : Env) {id i : Nat} (ad : Option Addr) (h : i ≠ id) : β.set id ad i = β i := by simp [Env.set, h]

/-- After a block was forgotten its place may be turned, and the world beside. -/
theorem Rel.rebind (h : Rel w A β base σ tmps acts) (id : Nat) (oa : Option Addr) (hx : Ext A w w') (top : base ≤ w'.heap.size) (low : w.heap.size ≤ w'.heap.size) (ho : Oth w w')
    (hb : ∀ i b ad, i ≠ id → σ.bk i = some b → β i = some ad → w'.heap[ad.block]? = w.heap[ad.block]?) : Rel w' A (β.set id oa) base (σ.forget id) tmps acts := by
  have hf := h.forget id
  refine hf.carry hx (fun _ h => h) (fun k hk => Nat.lt_of_lt_of_le (h.low k hk) low) top ?_ ?_ ?_ (hf.lp.mono ho (.refl _ _) (fun hne => Env.set_other _ _ (fun e => hne (by show (if id = yldId then none else σ.loop) = none; rw [if_pos e.symm]))))
  · intro t i hi
    exact Env.set_other _ _ (D.has_forget_of hi).2
  · intro f hfm t i hi
    simp only [St.forget, List.mem_map] at hfm
    obtain ⟨g, _, rfl⟩ := hfm
    exact Env.set_other _ _ (D.has_forget_of hi).2
  · intro i b hbi
    simp only [St.forget] at hbi
    split at hbi
    · cases hbi
    next hne =>
      simp only [Option.map_eq_some_iff] at hbi
      obtain ⟨b0, hb0, rfl⟩ := hbi
      refine ⟨Env.set_other _ _ hne, fun j hj => Env.set_other _ _ (D.hasL_forget_of hj).2, fun ad had => ⟨hb i b0 ad hne hb0 had, fun x => x⟩⟩

/-- A block is set whose place nothing else has. -/
theorem Rel.setB (h : Rel w A β base σ tmps acts) (id : Nat) (b : Blk) (hb : (β id = none ∧ b.cells = []) ∨ ∃ ad, β id = some ad ∧ BlkRep w A β base b ad)
    (hi : ∀ i a ad, i ≠ id → σ.bk i ≠ none → β i = some a → β id = some ad → a.block ≠ ad.block) : Rel w A β base (σ.setB id b) tmps acts where
  fr := h.fr
  stk := h.stk
  blk := fun i c hc => by
    simp only [St.setB] at hc
    split at hc
    next e => subst e; simp at hc; subst hc; exact hb
    next e => exact h.blk i c hc
  inj := fun i j a c hi' hj' ha hc hac => by
    by_cases e1 : i = id
    · by_cases e2 : j = id
      · rw [e1, e2]
      · subst e1
        exact absurd hac.symm (hi j c a e2 (by simpa [St.setB, e2] using hj') hc ha)
    · by_cases e2 : j = id
      · subst e2
        exact absurd hac (hi i a c e1 (by simpa [St.setB, e1] using hi') ha hc)
      · exact h.inj i j a c (by simpa [St.setB, e1] using hi') (by simpa [St.setB, e2] using hj') ha hc hac
  low := h.low
  top := h.top
  glo := h.glo
  lp := h.lp

theorem RepLs.forget (id : Nat) : ∀ {cs : List D} {vs : List Value}, RepLs w A β cs vs → RepLs w A β (cs.map (D.forget id)) vs
  | [], _, h => by simpa [RepLs] using h
  | d :: ds, vs, h => by
    simp only [RepLs, List.map_cons] at h ⊢
    obtain ⟨x, xs, rfl, h1, h2⟩ := h
    exact ⟨x, xs, rfl, h1.forget id, RepLs.forget id h2⟩

theorem blk_lt (h : Rel w A β base σ tmps acts) {i : Nat} {b : Blk} {ad : Addr} (hb : σ.bk i = some b) (ha : β i = some ad) : ad.block < w.heap.size := by
  rcases h.blk i b hb with ⟨h1, _⟩ | ⟨ad', h1, h2⟩
  · rw [ha] at h1; cases h1
  · rw [ha] at h1; cases h1
    obtain ⟨c, T, ho⟩ := h2.obj
    rcases Nat.lt_or_ge ad.block w.heap.size with h | h
    · exact h
    · rw [Array.getElem?_eq_none h] at ho; cases ho

/-- A new block. -/
theorem Rel.new (h : Rel w A β base σ tmps acts) (id : Nat) (c : Array Value) (T : TypeId) (cs : List D) (vs : List Value) (hc : RepLs w A β cs vs) (hv : ∀ (j : Nat) u, vs[j]? = some u → c[j]? = some u) :
    Rel (w.alloc (.cells c T)) A (β.set id (some ⟨w.heap.size, 0, none⟩)) base ((σ.forget id).setB id ⟨cs.map (D.forget id), false⟩) tmps acts := by
  have hx : Ext A w (w.alloc (.cells c T)) := .alloc h.low _
  have h1 := h.rebind id (some ⟨w.heap.size, 0, none⟩) hx (by simp; have := h.top; omega) (by simp) (.alloc w _) (fun i b ad _ hb ha => Below.heap_alloc _ _ _ (blk_lt h hb ha))
  refine h1.setB id _ (.inr ⟨_, Env.set_same _ _ _, ⟨rfl, h.top, ⟨c, T, by show (w.heap.push _)[w.heap.size]? = _; simp⟩, ?_, fun _ ha => Nat.lt_irrefl _ (h.low _ ha), fun e => (by cases e), fun c1 T1 _ => Nat.zero_le _⟩⟩) ?_
  · refine CellsAt.of_get rfl fun j d hj => ?_
    simp only [List.getElem?_map, Option.map_eq_some_iff] at hj
    obtain ⟨d0, hd0, rfl⟩ := hj
    obtain ⟨u, hu, hr⟩ := hc.get j d0 hd0
    refine ⟨u, ?_, ?_⟩
    · have : (w.alloc (.cells c T)).heap[w.heap.size]? = some (.cells c T (0, 0)) := by show (w.heap.push _)[w.heap.size]? = _; simp
      show World.cell? _ ⟨w.heap.size, 0 + j, none⟩ = _
      rw [cell_of_obj this, Nat.zero_add]
      exact hv j u hu
    · exact Rep.mono hx (fun _ h => h) _ _ (fun i hi => Env.set_other _ _ (D.has_forget_of hi).2) (hr.forget id)
  · intro i a ad hne hbk ha had
    rw [Env.set_same] at had
    cases had
    rw [Env.set_other _ _ hne] at ha
    simp only [St.forget, if_neg hne] at hbk
    obtain ⟨b, hb⟩ := Option.ne_none_iff_exists'.1 hbk
    simp only [Option.map_eq_some_iff] at hb
    obtain ⟨b0, hb0, _⟩ := hb
    have := blk_lt h hb0 ha
    intro e
    simp at e
    omega

/-- List with cells put at a place. -/
def splice (cs : List D) (off : Nat) (ds : List D) : List D := cs.take off ++ ds ++ cs.drop (off + ds.length)

theorem splice_get {cs : List D} {off : Nat} {ds : List D} (h : off + ds.length ≤ cs.length) (j : Nat) : (splice cs off ds)[j]? = if off ≤ j ∧ j < off + ds.length then ds[j - off]? else cs[j]? := by
  unfold splice
  rcases Nat.lt_or_ge j off with h1 | h1
  · rw [if_neg (by omega), List.append_assoc, List.getElem?_append_left (by simp; omega), List.getElem?_take, if_pos h1]
  · rcases Nat.lt_or_ge j (off + ds.length) with h2 | h2
    · rw [if_pos ⟨h1, h2⟩, List.append_assoc, List.getElem?_append_right (by simp; omega), List.getElem?_append_left (by simp; omega)]
      congr 1; simp; omega
    · rw [if_neg (by omega), List.getElem?_append_right (by simp; omega), List.getElem?_drop]
      congr 1; simp; omega

/-- What a store into an own block leaves. -/
theorem Rel.store (P : Program) (h : Rel w A β base σ tmps acts) {id : Nat} {cells : List D} (hb : σ.bk id = some ⟨cells, false⟩) {ad : Addr} (ha : β id = some ad) {off : Nat} {ds : List D} {vs : List Value}
    (hd : RepLs w A β ds vs) (ho : ∀ u ∈ vs, u.oneCell' = true) (hl : off + ds.length ≤ cells.length) :
    ∃ w', (storeCells (plusOff ad off) vs).run P w = .ok () w' ∧ Rel w' A β base (σ.setB id ⟨splice cells off ds, false⟩) tmps acts ∧ Turn A A base w w' := by
  rcases h.blk id _ hb with ⟨h1, _⟩ | ⟨ad', h1, hB⟩
  · rw [ha] at h1; cases h1
  rw [ha] at h1; cases h1
  obtain ⟨c, T, hobj⟩ := hB.obj
  have hlen := hd.length
  have hsz : ad.off + off + vs.length ≤ c.size := by
    rcases Nat.eq_zero_or_pos cells.length with e | e
    · have e1 : vs.length = 0 := by omega
      have e2 : off = 0 := by omega
      rw [e1, e2]
      have := hB.inside c T hobj
      omega
    · have hlast : cells.length - 1 < cells.length := by omega
      obtain ⟨u, hu, _⟩ := hB.cells.get hB.spot (cells.length - 1) _ (List.getElem?_eq_getElem hlast)
      have : w.cell? (plusOff ad (cells.length - 1)) = c[ad.off + (cells.length - 1)]? := cell_of_obj hobj
      rw [this] at hu
      have := (Array.getElem?_eq_some_iff.1 hu).1
      omega
  obtain ⟨w', r1, r2, r3, r4, r5, r6, r7⟩ := storeCells_run P ad.block T vs w c (ad.off + off) 0 hobj ho (by omega)
  have hx : Ext A w w' := ⟨fun k hk => r3 k (fun e => hB.own rfl (e ▸ hk)), fun b m ⟨c1, T1, fz1, k1, k2⟩ => by
    by_cases e : b = ad.block
    · subst e
      rw [hobj] at k1; cases k1
      exact ⟨_, T, (0, 0), r2, by rw [putAt_size]; exact k2⟩
    · exact ⟨c1, T1, fz1, by rw [r3 b e]; exact k1, k2⟩⟩
  have hoth : Oth w w' := .but hobj r3
  refine ⟨w', r1, ?_, ⟨hx, fun _ h => h, ⟨r4, r5, r6, by omega, fun k hk => r3 k (by have := hB.base; omega)⟩, fun _ h _ => h, .strict hoth (.refl _ _)⟩⟩
  refine ⟨h.fr.mono hx (fun _ h => h) (fun _ _ _ => rfl), h.stk.mono hx (fun _ h => h) (fun _ _ _ _ _ => rfl), ?_, ?_, fun k hk => by rw [r7]; exact h.low k hk, by rw [r7]; exact h.top, h.glo.mono hx.same (fun _ h => h), h.lp.mono hoth (.refl _ _) (fun _ => rfl)⟩
  · intro i b hbi
    simp only [St.setB] at hbi
    split at hbi
    next e =>
      subst e; simp at hbi; subst hbi
      refine .inr ⟨ad, ha, ⟨hB.spot, hB.base, ⟨_, T, r2⟩, ?_, hB.own, hB.shared, fun c1 T1 h1 => by rw [r2] at h1; cases h1; rw [putAt_size]; exact hB.inside c T hobj⟩⟩
      refine CellsAt.of_get hB.spot fun j d hj => ?_
      rw [splice_get hl] at hj
      have hc' : w'.cell? (plusOff ad j) = (putAt c (ad.off + off + 0) vs)[ad.off + j]? := cell_of_obj r2
      rw [hc', putAt_get _ _ _ _ (by omega)]
      split at hj
      next hin =>
        obtain ⟨u, hu, hr⟩ := hd.get _ _ hj
        refine ⟨u, ?_, Rep.mono hx (fun _ h => h) _ _ (fun _ _ => rfl) hr⟩
        rw [if_pos (by omega), ← hu]; congr 1; omega
      next hout =>
        obtain ⟨u, hu, hr⟩ := hB.cells.get hB.spot j d hj
        refine ⟨u, ?_, Rep.mono hx (fun _ h => h) _ _ (fun _ _ => rfl) hr⟩
        rw [if_neg (by omega), ← hu]
        exact (cell_of_obj (o := ad.off + j) hobj).symm
    next e =>
      rcases h.blk i b hbi with ⟨k1, k2⟩ | ⟨a2, k1, k2⟩
      · exact .inl ⟨k1, k2⟩
      · have hne : a2.block ≠ ad.block := fun e2 => e (h.inj i id a2 ad (by simp [hbi]) (by simp [hb]) k1 ha e2)
        have hsame := r3 _ hne
        exact .inr ⟨a2, k1, ⟨k2.spot, k2.base, by rw [hsame]; exact k2.obj, CellsAt.mono hx (fun _ h => h) _ _ hsame (fun _ _ => rfl) k2.cells, k2.own, k2.shared, fun c1 T1 h1 => k2.inside c1 T1 (by rw [← hsame]; exact h1)⟩⟩
  · intro i j a b hi hj
    refine h.inj i j a b (fun e => hi ?_) (fun e => hj ?_)
    · simp only [St.setB]; split
      next e1 => subst e1; rw [hb] at e; cases e
      next => exact e
    · simp only [St.setB]; split
      next e1 => subst e1; rw [hb] at e; cases e
      next => exact e
end
end Go.Dam
