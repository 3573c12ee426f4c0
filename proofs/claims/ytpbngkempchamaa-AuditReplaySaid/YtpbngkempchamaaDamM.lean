/- The engine, part M: an abstract machine for the program's functions, proved right against the model. No condition. -/
import Derived.Test.YtpbngkempchamaaDamL
set_option linter.unusedSectionVars false
set_option linter.unusedVariables false
set_option linter.unusedSimpArgs false
namespace Go.Dam
open Go Go.RowKit
set_option linter.unusedSectionVars false
variable [Glo]
set_option linter.unusedSimpArgs false
set_option linter.unusedVariables false

section
variable {P : Program} {w : World} {A : Nat → Prop} {β : Env} {base : Nat} {σ : St} {a : Act} {acts : List (Array Value)}

theorem put_tmps (a : Act) (dst : Option Tmp) (u : Value) : (a.put dst u).tmps = match dst with | some t => a.tmps.setIfInBounds t u | none => a.tmps := by
  cases dst <;> rfl

theorem Rel.putA {w : World} {A : Nat → Prop} {β : Env} {base : Nat} {σ : St} {acts : List (Array Value)} (h : Rel w A β base σ a.tmps acts) (dst : Option Tmp) {d : D} {u : Value} (hd : Rep w A β d u) :
    Rel w A β base (σ.put dst d) (a.put dst u).tmps acts := by
  rw [put_tmps]; exact h.put dst hd

theorem alloc_obj (w : World) (c : Array Value) (T : TypeId) : (w.alloc (.cells c T)).heap[w.heap.size]? = some (.cells c T (0, 0)) := by show (w.heap.push _)[w.heap.size]? = _; simp

/-- THE STEP OF AN OPERATION. -/
theorem step_sound (hrel : Rel w A β base σ a.tmps acts) {o : Oper} {e : Eff} {r : Result Next} (hr : (execOp a.eval o).run P w = r) (hE : Good P w A β r e) {id : Nat} {σ' : St} (hs : stepE σ o.dst id e = some σ') :
    ∃ u w' β', ((execOp a.eval o).run P w = .ok (.value u) w' ∨ ((execOp a.eval o).run P w = .ok .skip w' ∧ u = undef)) ∧ Rel w' A β' base σ' (a.put o.dst u).tmps acts ∧ Turn A A base w w' := by
  cases e with
  | val d =>
    obtain ⟨u, h1, h2⟩ := hE
    simp [stepE] at hs; subst hs
    exact ⟨u, w, β, .inl (by rw [hr, h1]), hrel.putA o.dst h2, .refl _ _ _⟩
  | box cs =>
    obtain ⟨T, vs, h1, h2⟩ := hE
    simp [stepE] at hs; subst hs
    refine ⟨_, _, _, .inl (by rw [hr, h2]), (hrel.new id vs.toArray T cs vs h1 (fun j u h => by simpa using h)).putA o.dst ?_, .alloc hrel _⟩
    simp only [Rep]
    exact ⟨_, Env.set_same _ _ _, rfl⟩
  | row cs n sz =>
    obtain ⟨T, vs, cap, h1, h2, h3, h4⟩ := hE
    simp [stepE] at hs; subst hs
    refine ⟨_, _, _, .inl (by rw [hr, h4]), (hrel.new id vs.toArray T cs vs h1 (fun j u h => by simpa using h)).putA o.dst ?_, .alloc hrel _⟩
    simp only [Rep]
    exact ⟨_, _, rfl, .inr ⟨by simpa using h2, _, Env.set_same _ _ _, rfl, ⟨_, _, _, alloc_obj _ _ _, by simpa using h3⟩⟩⟩
  | row0 =>
    obtain ⟨T, vs, h4⟩ := hE
    simp [stepE] at hs; subst hs
    exact ⟨_, _, β, .inl (by rw [hr, h4]), (hrel.alloc0 _).putA o.dst (by simp only [Rep, RepS]; exact ⟨_, rfl⟩), .alloc hrel _⟩
  | sto i off ds =>
    obtain ⟨ad, vs, h1, h2, h3, h4⟩ := hE
    simp only [stepE] at hs
    split at hs
    next cells hb =>
      split at hs
      next hl =>
        simp at hs; subst hs
        obtain ⟨w', k1, k2, k3⟩ := hrel.store P hb h1 h2 h3 hl
        exact ⟨undef, w', β, .inr ⟨by rw [hr, h4, k1]; rfl, rfl⟩, k2.putA o.dst (by simp [Rep, RepS]), k3⟩
      · cases hs
    · cases hs
  | cpy i off ds k =>
    obtain ⟨ad, vs, h1, h2, h3, h4⟩ := hE
    simp only [stepE] at hs
    split at hs
    next cells hb =>
      split at hs
      next hl =>
        simp at hs; subst hs
        obtain ⟨w', k1, k2, k3⟩ := hrel.store P hb h1 h2 h3 hl
        exact ⟨k, w', β, .inl (by rw [hr, h4, k1]; rfl), k2.putA o.dst (Rep.ofV k), k3⟩
      · cases hs
    · cases hs
  | app s sz m ds =>
    obtain ⟨t, t2, ty, el, e2, i, z, oa, n, c, x, vs, hu, hu2, hi, hz, hzs, hb1, rfl, hsrc, hds, hone, hbytes, hdl, hrs, hssz, hsv, hrun⟩ := hE
    have hd2 : ∀ k, TypeDesc.slice e2 ≠ .int k := fun k h => by cases h
    have hvl := hds.length
    cases s with
    | v y =>
      have hy := hsv y rfl
      subst hy
      simp only [stepE, Option.some.injEq] at hs; subst hs
      simp only [Rep, RepS] at hrs
      cases hrs
      rcases Nat.lt_or_ge 0 m with hm | hm
      · obtain ⟨cap, rest, g1, g2, g3⟩ := append_grows (ty := ty) (o := none) (n := 0) (c := 0) hu hi hz hu2 hd2 hb1 hzs hsrc (by omega) hbytes (olds := []) (fun w' _ => by simp [Builtin.firstCells])
        refine ⟨.slice (some ⟨w.heap.size, 0, none⟩) (0 + m) cap, w.drew.alloc (.cells (([] ++ vs).toArray ++ rest) el), β.set id (some ⟨w.heap.size, 0, none⟩), .inl (by rw [hr, hrun, g3]; rfl), ?_, ?_⟩
        · have h1 := (hrel.heap_eq (w' := w.drew) rfl).new id (([] ++ vs).toArray ++ rest) el ds vs (Rel.rep_drew hds) (fun j u hj => by
            have hlt := (List.getElem?_eq_some_iff.1 hj).1
            simp only [List.nil_append]
            rw [Array.getElem?_append_left (by simpa using hlt)]; simpa using hj)
          refine h1.putA o.dst ?_
          simp only [Rep]
          refine ⟨some ⟨w.heap.size, 0, none⟩, cap, by rw [Nat.zero_add], .inr ⟨by omega, _, Env.set_same _ _ _, rfl, ⟨_, _, _, alloc_obj _ _ _, ?_⟩⟩⟩
          simp only [World.size_drew, List.nil_append, Array.size_append, List.size_toArray, g2, hvl, hdl, Nat.zero_add]
          rw [← Nat.add_mul]
          exact Nat.mul_le_mul_right _ (by omega)
        · exact (Turn.of_heap (w := w) (w' := w.drew) rfl rfl rfl rfl).trans (.alloc (hrel.heap_eq (w' := w.drew) rfl) _)
      · obtain rfl : m = 0 := by omega
        have hds0 : ds = [] := List.length_eq_zero_iff.1 (by omega)
        subst hds0
        simp only [RepLs] at hds; subst hds
        have g := append_fits (w' := w) (ty := ty) hu hi hu2 hd2 hsrc (n := 0) (c := 0) (o := none) (by omega) (fun a h => by cases h) (fun _ => rfl)
        refine ⟨.slice none 0 0, w, β.set id none, .inl (by rw [hr, hrun, g]; rfl), ?_, .refl _ _ _⟩
        have h1 := hrel.rebind (w' := w) id none (.refl _ _) hrel.top (Nat.le_refl _) (.refl _) (fun _ _ _ _ _ _ => rfl)
        have h2 := h1.setB id ⟨[].map (D.forget id), false⟩ (.inl (And.intro (Env.set_same _ _ _) (by simp))) (fun _ _ _ _ _ _ h => by rw [Env.set_same] at h; cases h)
        exact h2.putA o.dst (by simp only [Rep]; exact ⟨none, 0, rfl, .inl (by simp)⟩)
    | emp =>
      simp only [stepE, Option.some.injEq] at hs; subst hs
      simp only [Rep, RepS] at hrs
      obtain ⟨o1, he⟩ := hrs
      cases he
      rcases Nat.lt_or_ge 0 m with hm | hm
      · obtain ⟨cap, rest, g1, g2, g3⟩ := append_grows (ty := ty) (o := some o1) (n := 0) (c := 0) hu hi hz hu2 hd2 hb1 hzs hsrc (by omega) hbytes (olds := []) (fun w' _ => by simp [Builtin.firstCells, loadCells, loadCellsFrom])
        refine ⟨.slice (some ⟨w.heap.size, 0, none⟩) (0 + m) cap, w.drew.alloc (.cells (([] ++ vs).toArray ++ rest) el), β.set id (some ⟨w.heap.size, 0, none⟩), .inl (by rw [hr, hrun, g3]; rfl), ?_, ?_⟩
        · have h1 := (hrel.heap_eq (w' := w.drew) rfl).new id (([] ++ vs).toArray ++ rest) el ds vs (Rel.rep_drew hds) (fun j u hj => by
            have hlt := (List.getElem?_eq_some_iff.1 hj).1
            simp only [List.nil_append]
            rw [Array.getElem?_append_left (by simpa using hlt)]; simpa using hj)
          refine h1.putA o.dst ?_
          simp only [Rep]
          refine ⟨some ⟨w.heap.size, 0, none⟩, cap, by rw [Nat.zero_add], .inr ⟨by omega, _, Env.set_same _ _ _, rfl, ⟨_, _, _, alloc_obj _ _ _, ?_⟩⟩⟩
          simp only [World.size_drew, List.nil_append, Array.size_append, List.size_toArray, g2, hvl, hdl, Nat.zero_add]
          rw [← Nat.add_mul]
          exact Nat.mul_le_mul_right _ (by omega)
        · exact (Turn.of_heap (w := w) (w' := w.drew) rfl rfl rfl rfl).trans (.alloc (hrel.heap_eq (w' := w.drew) rfl) _)
      · obtain rfl : m = 0 := by omega
        have hds0 : ds = [] := List.length_eq_zero_iff.1 (by omega)
        subst hds0
        simp only [RepLs] at hds; subst hds
        have g := append_fits (w' := w) (ty := ty) hu hi hu2 hd2 hsrc (n := 0) (c := 0) (o := some o1) (by omega) (fun a h => by simp [storeCells]) (fun _ => rfl)
        refine ⟨.slice (some o1) 0 0, w, β.set id none, .inl (by rw [hr, hrun, g]; rfl), ?_, .refl _ _ _⟩
        have h1 := hrel.rebind (w' := w) id none (.refl _ _) hrel.top (Nat.le_refl _) (.refl _) (fun _ _ _ _ _ _ => rfl)
        have h2 := h1.setB id ⟨[].map (D.forget id), false⟩ (.inl (And.intro (Env.set_same _ _ _) (by simp))) (fun _ _ _ _ _ _ h => by rw [Env.set_same] at h; cases h)
        exact h2.putA o.dst (by simp only [Rep]; exact ⟨some o1, 0, rfl, .inl (by simp)⟩)
    | sl j off n' sz' =>
      have hsz := hssz j off n' sz' rfl
      obtain ⟨sz', r'⟩ := sz'
      simp only at hsz
      subst hsz
      simp only [stepE] at hs
      split at hs
      next cells hb =>
        split at hs
        next hl =>
          simp only [Option.some.injEq] at hs; subst hs
          simp only [Rep] at hrs
          obtain ⟨o2, c2, he, hrs⟩ := hrs
          cases he
          have holdlen : ((cells.drop off).take (n * i.size)).length = n * i.size := by simp; omega
          -- it grows
          have grow : ∀ olds : List Value, c < n + m → RepLs w A β ((cells.drop off).take (n * i.size)) olds → (∀ w' : World, w'.heap = w.heap → (Builtin.firstCells i.size n (.slice oa n c)).run P w' = .ok olds.toArray w') →
              ∃ u w' β', ((execOp a.eval o).run P w = .ok (.value u) w' ∨ ((execOp a.eval o).run P w = .ok .skip w' ∧ u = undef)) ∧
                Rel w' A β' base (((σ.forget j).setB j ⟨((cells.drop off).take (n * i.size) ++ ds).map (D.forget j), false⟩).put o.dst (.sl j 0 (n + m) ⟨i.size, 0⟩)) (a.put o.dst u).tmps acts ∧ Turn A A base w w' := by
            intro olds hlt holds hfirst
            obtain ⟨cap, rest, g1, g2, g3⟩ := append_grows (ty := ty) hu hi hz hu2 hd2 hb1 hzs hsrc hlt hbytes hfirst
            refine ⟨.slice (some ⟨w.heap.size, 0, none⟩) (n + m) cap, w.drew.alloc (.cells ((olds ++ vs).toArray ++ rest) el), β.set j (some ⟨w.heap.size, 0, none⟩), .inl (by rw [hr, hrun, g3]; rfl), ?_, ?_⟩
            · have h1 := (hrel.heap_eq (w' := w.drew) rfl).new j ((olds ++ vs).toArray ++ rest) el ((cells.drop off).take (n * i.size) ++ ds) (olds ++ vs) (Rel.rep_drew (holds.append hds)) (fun k u hk => by
                have hlt2 := (List.getElem?_eq_some_iff.1 hk).1
                rw [Array.getElem?_append_left (by simpa using hlt2)]; simpa using hk)
              refine h1.putA o.dst ?_
              simp only [Rep]
              refine ⟨_, _, rfl, .inr ⟨by omega, _, Env.set_same _ _ _, rfl, ⟨_, _, _, alloc_obj _ _ _, ?_⟩⟩⟩
              simp only [World.size_drew, Array.size_append, List.size_toArray, List.length_append, g2, hvl, hdl, holds.length, holdlen, Nat.zero_add]
              rw [← Nat.add_mul, ← Nat.add_mul]
              exact Nat.mul_le_mul_right _ (by omega)
            · exact (Turn.of_heap (w := w) (w' := w.drew) rfl rfl rfl rfl).trans (.alloc (hrel.heap_eq (w' := w.drew) rfl) _)
          rcases hrs with ⟨hn0, rfl⟩ | ⟨hnr, ad, hβ, rfl, hroom⟩
          · -- nothing was there
            obtain rfl : n = 0 := by omega
            rcases Nat.lt_or_ge 0 m with hm | hm
            · refine grow [] (by omega) (by simp [RepLs]) (fun w' _ => ?_)
              cases oa <;> simp [Builtin.firstCells, loadCells, loadCellsFrom]
            · obtain rfl : m = 0 := by omega
              have hds0 : ds = [] := List.length_eq_zero_iff.1 (by omega)
              subst hds0
              simp only [RepLs] at hds; subst hds
              have g := append_fits (w' := w) (ty := ty) hu hi hu2 hd2 hsrc (n := 0) (c := 0) (o := oa) (by omega) (fun a h => by simp [storeCells]) (fun _ => rfl)
              refine ⟨.slice oa 0 0, w, β.set j none, .inl (by rw [hr, hrun, g]; rfl), ?_, .refl _ _ _⟩
              have h1 := hrel.rebind (w' := w) j none (.refl _ _) hrel.top (Nat.le_refl _) (.refl _) (fun _ _ _ _ _ _ => rfl)
              have h2 := h1.setB j ⟨((cells.drop off).take (0 * i.size) ++ []).map (D.forget j), false⟩ (.inl (And.intro (Env.set_same _ _ _) (by simp))) (fun _ _ _ _ _ _ h => by rw [Env.set_same] at h; cases h)
              exact h2.putA o.dst (by simp only [Rep]; exact ⟨oa, 0, rfl, .inl (by simp)⟩)
          · rcases Nat.lt_or_ge c (n + m) with hlt | hge
            · rcases hrel.blk j _ hb with ⟨h2, _⟩ | ⟨ad', h2, h3⟩
              · rw [hβ] at h2; cases h2
              · rw [hβ] at h2; cases h2
                have hcells := (h3.cells.drop h3.spot off).take rfl (n * i.size)
                obtain ⟨olds, k1, k2⟩ := cells_read (P := P) (w := w) rfl hcells
                rw [holdlen] at k1
                exact grow olds hlt k2 (fun w' hw' => by simp [Builtin.firstCells, k1 w' hw'])
            · obtain ⟨w', k1, k2, k3, k4⟩ := hrel.app P hb hβ (off := off) (k := n * i.size) (lim := c * i.size) hds hone (by omega) hroom (by rw [hdl, ← Nat.add_mul]; exact Nat.mul_le_mul_right _ hge)
              have g := append_fits (w' := w') (ty := ty) hu hi hu2 hd2 hsrc (n := n) (c := c) (o := some (plusOff ad off)) hge (fun a h => by cases h; rw [plusOff_add]; exact k1) (fun h => by cases h)
              refine ⟨.slice (some (plusOff ad off)) (n + m) c, w', _, .inl (by rw [hr, hrun, g]; rfl), k2.putA o.dst ?_, k3⟩
              simp only [Rep]
              refine ⟨_, _, rfl, .inr ⟨by omega, _, Env.set_same _ _ _, by simp [plusOff], ?_⟩⟩
              simpa using k4
        · cases hs
      · cases hs
    | _ => simp [stepE] at hs

end
end Go.Dam
