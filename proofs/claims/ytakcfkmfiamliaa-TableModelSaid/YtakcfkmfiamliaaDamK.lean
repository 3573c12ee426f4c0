/- The engine: an abstract machine for the program's functions, proved right against the model. No condition. -/
import Derived.Test.YtakcfkmfiamliaaDamI
import Derived.IntWalk
set_option linter.unusedSectionVars false
set_option linter.unusedVariables false
set_option linter.unusedSimpArgs false
section
namespace Go.Dam
open Go Go.RowKit
variable [Glo]
section
variable {P : Program} {w : World} {A : Nat → Prop} {β : Env} {base : Nat} {σ : St} {tmps : Array Value} {acts : List (Array Value)}
theorem pureD_sound {s : Sem Value} {e : Eff} (h : pureD P s = some e) : ∃ u, s.run P w = .ok u w ∧ e = .val (D.ofV u) := by
 simp only [pureD, Option.map_eq_some_iff] at h
 obtain ⟨u, h1, rfl⟩ := h
 exact ⟨u, pureRun_run P w s u h1, rfl⟩
theorem indexOf_spec {x : D} {v : Value} (hr : Rep w A β x v) {i : Int} (h : indexOf x = some i) : ∃ k, v = .int k i := by
 unfold indexOf at h
 split at h
 next k j => simp at h; subst h; simp only [Rep, RepS] at hr; exact ⟨k, hr⟩
 ·cases h
theorem plusOff_zero {ad : Addr} (h : ad.spot = none) : plusOff ad 0 = ad := by cases ad; simp at h; simp [plusOff, h]
theorem Rep0.up {cs : List Col0} {x : Value} (h : Rep0 w A cs x) : RepR w A (cs.map Col0.up) x := by
 obtain ⟨o, cp, rfl, hv, h1, h2, h3⟩ := h
 refine ⟨o, cp, by rw [rowLen_up], hv, by rw [rowLen_up]; exact h1, by rw [rowLen_up]; exact h2, fun i j c hi hc => ?_⟩
 rw [rowLen_up] at hi
 rw [List.getElem?_map, Option.map_eq_some_iff] at hc
 obtain ⟨c0, hc0, rfl⟩ := hc
 refine ⟨_, by rw [List.length_map]; exact h3 i j c0 hi hc0, ?_⟩
 cases c0 <;> rfl
theorem cell_rep {c : Col} {i : Nat} {x : Value} (h : RepC w A i x c) : RepS w A (c.cell i) x := by
 cases c with
 | ints k xs => simp only [Col.cell, RepS]; exact h
 | bools xs => simp only [Col.cell, RepS]; exact h
 | rows n f => simp only [Col.cell, RepS]; exact Rep0.up h
theorem cells_at {i : Nat} : ∀ (cs : List Col) (ad : Addr), (∀ j c, cs[j]? = some c → ∃ x, w.cell? (plusOff ad j) = some x ∧ RepC w A i x c) → ad.spot = none → RepAt w A (cs.map (Col.cell i)) ad
 | [], ad, h, hs => by simp [RepAt]
 | c :: cs, ad, h, hs => by
  simp only [List.map_cons, RepAt]
  refine ⟨?_, cells_at cs (plusOff ad 1) (fun j k' hj => ?_) rfl⟩
  ·obtain ⟨x, h1, h2⟩ := h 0 c rfl
   rw [plusOff_zero hs] at h1
   exact ⟨x, h1, cell_rep h2⟩
  ·obtain ⟨x, h1, h2⟩ := h (j + 1) k' (by simpa using hj)
   rw [plusOff_plus, Nat.add_comm 1 j]
   exact ⟨x, h1, h2⟩
theorem rcAddr_sound {t : TypeId} {cs : List Col} {ix : D} {vx vi : Value} (hx : Rep w A β (.rc cs) vx) (hi : Rep w A β ix vi) {e : Eff} (h : rcAddrD P t cs ix = some e) :
  ∃ d u, e = .val d ∧ (Instr.indexAt t vx vi).run P w = .ok u w ∧ Rep w A β d u := by
 unfold rcAddrD at h
 split at h
 next elem i hu hix =>
  obtain ⟨k, rfl⟩ := indexOf_spec hi hix
  split at h
  ·cases h
  next j hj =>
   split at h
   next hb =>
    obtain ⟨hsz, h0, h1⟩ := hb
    simp at h; subst h
    simp only [Rep, RepS] at hx
    obtain ⟨o, cp, rfl, _, hc, hx1, hx2⟩ := hx
    obtain ⟨ad, rfl, h2, h3⟩ := hx1 (by omega)
    have hb' : 0 ≤ i ∧ i < ((rowLen cs : Nat) : Int) := ⟨h0, h1⟩
    refine ⟨_, .pointer (some (plusOff ad (i.toNat * j.size))), rfl, ?_, ?_⟩
    ·simp [Instr.indexAt, asIntOf, run_underlying hu, Instr.sureAddr, hb', run_sizeOf hj, add_eq_plus _ _ h2]
    ·simp only [Rep, RepS]
     refine ⟨plusOff ad (i.toNat * j.size), by simp, rfl, fun _ => h3, cells_at _ _ (fun m k' hk => ?_) rfl⟩
     rw [plusOff_plus, hsz]
     exact hx2 i.toNat m k' (by omega) hk
   ·cases h
 ·cases h
theorem indexAddrP_sound {t : TypeId} {x ix : D} {vx vi : Value} (hx : Rep w A β x vx) (hi : Rep w A β ix vi) {e : Eff} (h : indexAddrP P t x ix = some e) :
  ∃ d u, e = .val d ∧ (Instr.indexAt t vx vi).run P w = .ok u w ∧ Rep w A β d u := by
 unfold indexAddrP at h
 split at h
 next i len elem hix hu =>
  obtain ⟨k, rfl⟩ := indexOf_spec hi hix
  split at h
  ·cases h
  next j hj =>
   split at h
   next hb =>
    split at h
    next id off =>
     simp at h; subst h
     simp only [Rep] at hx
     obtain ⟨ad, h1, rfl⟩ := hx
     refine ⟨_, .pointer (some (plusOff ad (off + i.toNat * j.size))), rfl, ?_, by simp only [Rep]; exact ⟨ad, h1, rfl⟩⟩
     simp [Instr.indexAt, asIntOf, run_underlying hu, Instr.sureAddr, hb, run_sizeOf hj, add_eq_plus]
    next id i0 n0 j0 =>
     simp at h; subst h
     simp only [Rep] at hx
     obtain ⟨ad, h1, rfl⟩ := hx
     refine ⟨_, .pointer (some (plusOff ad (i0 * n0 + j0 + i.toNat * j.size))), rfl, ?_, by simp only [Rep]; exact ⟨ad, h1, by rw [Nat.add_assoc]⟩⟩
     simp [Instr.indexAt, asIntOf, run_underlying hu, Instr.sureAddr, hb, run_sizeOf hj, add_eq_plus]
    next cs off =>
     simp at h; subst h
     simp only [Rep, RepS] at hx
     obtain ⟨ad, rfl, h1, h2, h3⟩ := hx
     refine ⟨_, .pointer (some (plusOff ad (off + i.toNat * j.size))), rfl, ?_, by simp only [Rep, RepS]; exact ⟨ad, rfl, h1, h2, h3⟩⟩
     simp [Instr.indexAt, asIntOf, run_underlying hu, Instr.sureAddr, hb, run_sizeOf hj, add_eq_plus]
    ·cases h
   ·cases h
 next i elem hix hu =>
  obtain ⟨k, rfl⟩ := indexOf_spec hi hix
  split at h
  ·cases h
  next j hj =>
   split at h
   next id off n sz =>
    split at h
    next hb =>
     simp at h; subst h
     simp only [Rep] at hx
     obtain ⟨o, c, rfl, hx⟩ := hx
     rcases hx with ⟨h1, _⟩ | ⟨_, ad, h1, rfl, _⟩
     ·omega
     refine ⟨_, .pointer (some (plusOff ad (off + i.toNat * j.size))), rfl, ?_, by simp only [Rep]; exact ⟨ad, h1, by rw [Nat.add_comm]⟩⟩
     simp [Instr.indexAt, asIntOf, run_underlying hu, Instr.sureAddr, hb, run_sizeOf hj, add_eq_plus]
    ·cases h
   next n cs =>
    split at h
    next hb =>
     simp at h; subst h
     simp only [Rep, RepS] at hx
     obtain ⟨o, c, rfl, hn, hx1, hx2⟩ := hx
     obtain ⟨ad, rfl, h2, h3⟩ := hx1 (.inl (by omega))
     refine ⟨_, .pointer (some (plusOff ad (i.toNat * j.size))), rfl, ?_, by simp only [Rep, RepS]; exact ⟨ad, rfl, h2, fun _ => h3, hx2⟩⟩
     simp [Instr.indexAt, asIntOf, run_underlying hu, Instr.sureAddr, hb, run_sizeOf hj, add_eq_plus _ _ h2]
    ·cases h
   ·cases h
 ·cases h
theorem indexAddr_sound {t : TypeId} {x ix : D} {vx vi : Value} (hx : Rep w A β x vx) (hi : Rep w A β ix vi) {e : Eff} (h : indexAddrD P t x ix = some e) :
  ∃ d u, e = .val d ∧ (Instr.indexAt t vx vi).run P w = .ok u w ∧ Rep w A β d u := by
 unfold indexAddrD at h
 split at h
 ·exact rcAddr_sound hx hi h
 ·exact indexAddrP_sound hx hi h
theorem fieldAddr_sound {t : TypeId} {x : D} {vx : Value} (hx : Rep w A β x vx) {f : Nat} {e : Eff} (h : fieldAddrD P t x f = some e) :
  ∃ d u, e = .val d ∧ (Instr.fieldAt t vx f).run P w = .ok u w ∧ Rep w A β d u := by
 unfold fieldAddrD at h
 split at h
 next fields hu =>
  split at h
  ·cases h
  next f' hf =>
   split at h
   ·cases h
   next j hj =>
    split at h
    ·cases h
    next hz =>
     split at h
     next id off =>
      simp at h; subst h
      simp only [Rep] at hx
      obtain ⟨ad, h1, rfl⟩ := hx
      refine ⟨_, .pointer (some (plusOff ad (off + f'.offset))), rfl, ?_, by simp only [Rep]; exact ⟨ad, h1, rfl⟩⟩
      simp [Instr.fieldAt, run_underlying hu, hf, Instr.sureAddr, fieldPlace, run_sizeOf hj, hz, add_eq_plus]
     next id i0 n0 j0 =>
      simp at h; subst h
      simp only [Rep] at hx
      obtain ⟨ad, h1, rfl⟩ := hx
      refine ⟨_, .pointer (some (plusOff ad (i0 * n0 + j0 + f'.offset))), rfl, ?_, by simp only [Rep]; exact ⟨ad, h1, by rw [Nat.add_assoc]⟩⟩
      simp [Instr.fieldAt, run_underlying hu, hf, Instr.sureAddr, fieldPlace, run_sizeOf hj, hz, add_eq_plus]
     next cs off =>
      simp at h; subst h
      simp only [Rep, RepS] at hx
      obtain ⟨ad, rfl, h1, h2, h3⟩ := hx
      refine ⟨_, .pointer (some (plusOff ad (off + f'.offset))), rfl, ?_, by simp only [Rep, RepS]; exact ⟨ad, rfl, h1, h2, h3⟩⟩
      simp [Instr.fieldAt, run_underlying hu, hf, Instr.sureAddr, fieldPlace, run_sizeOf hj, hz, add_eq_plus]
     ·cases h
 ·cases h
theorem field_sound {t : TypeId} {x : D} {vx : Value} (hx : Rep w A β x vx) {f : Nat} {e : Eff} (h : fieldD P t x f = some e) :
  ∃ d u, e = .val d ∧ (Instr.field t vx f).run P w = .ok u w ∧ Rep w A β d u := by
 unfold fieldD at h
 split at h
 next fields cs hu =>
  split at h
  ·cases h
  next f' hf =>
   simp only [Option.map_eq_some_iff] at h
   obtain ⟨d, hd, rfl⟩ := h
   simp only [Rep] at hx
   obtain ⟨vs, rfl, hx⟩ := hx
   obtain ⟨u, k1, k2⟩ := part_run hx hd
   exact ⟨d, u, rfl, by simp [Instr.field, run_underlying hu, hf, asAgg, k1], k2⟩
 ·cases h
theorem index_sound {t : TypeId} {x ix : D} {vx vi : Value} (hx : Rep w A β x vx) (hi : Rep w A β ix vi) {e : Eff} (h : indexD P t x ix = some e) :
  ∃ d u, e = .val d ∧ (Instr.index t vx vi).run P w = .ok u w ∧ Rep w A β d u := by
 unfold indexD at h
 split at h
 next i len elem cs hix hu =>
  obtain ⟨k, rfl⟩ := indexOf_spec hi hix
  split at h
  ·cases h
  next j hj =>
   split at h
   next hb =>
    simp only [Option.map_eq_some_iff] at h
    obtain ⟨d, hd, rfl⟩ := h
    simp only [Rep] at hx
    obtain ⟨vs, rfl, hx⟩ := hx
    obtain ⟨u, k1, k2⟩ := part_run hx hd
    exact ⟨d, u, rfl, by simp [Instr.index, asIntOf, run_underlying hu, hb, run_sizeOf hj, k1], k2⟩
   ·cases h
 next i s hix hu =>
  obtain ⟨k, rfl⟩ := indexOf_spec hi hix
  split at h
  next hb =>
   split at h
   next b hs =>
    simp at h; subst h
    simp only [Rep, RepS] at hx; subst hx
    exact ⟨_, .int .u8 b.toNat, rfl, by simp [Instr.index, asIntOf, run_underlying hu, hb, hs], by simp [Rep, RepS]⟩
   ·cases h
  ·cases h
 ·cases h
theorem extract_sound {x : D} {vx : Value} (hx : Rep w A β x vx) {i : Nat} {e : Eff} (h : extractD x i = some e) :
  ∃ d u, e = .val d ∧ (Instr.extract vx i).run P w = .ok u w ∧ Rep w A β d u := by
 unfold extractD at h
 split at h
 next cs =>
  simp only [Option.map_eq_some_iff] at h
  obtain ⟨d, hd, rfl⟩ := h
  simp only [Rep] at hx
  obtain ⟨vs, rfl, hx⟩ := hx
  obtain ⟨u, k1, k2⟩ := hx.get i d hd
  exact ⟨d, u, rfl, by simp [Instr.extract, k1], k2⟩
 ·cases h
theorem bound_sound {o : Option D} {ov : Option Value} (hr : match o, ov with | none, none => True | some d, some v => Rep w A β d v | _, _ => False) {dflt most n : Nat} (h : boundD o dflt most = some n) (code : BoundsCode) :
  match ov with | some v => (Instr.sliceBound v most code).run P w = .ok n w ∧ n ≤ most | none => n = dflt := by
 cases o with
 | none =>
  cases ov with
  | none => simp [boundD] at h; exact h.symm
  | some v => exact hr.elim
 | some d =>
  cases ov with
  | none => exact hr.elim
  | some v =>
   cases d with
   | v x =>
    cases x with
    | int k i =>
     simp only [boundD] at h
     split at h
     next hb =>
      simp at h; subst h
      simp only [Rep, RepS] at hr
      subst hr
      exact ⟨by simp [Instr.sliceBound, asIntOf, hb], by omega⟩
     ·cases h
    | _ => simp [boundD] at h
   | _ => simp [boundD] at h
theorem map_rel {ρ : Operand → D} {ρv : Operand → Value} (hρ : ∀ x, Rep w A β (ρ x) (ρv x)) (o : Option Operand) :
  match o.map ρ, o.map ρv with | none, none => True | some d, some v => Rep w A β d v | _, _ => False := by
 cases o <;> simp [hρ]
/-- The three bounds of a slice expression. -/
theorem bounds_sound {lo hi : Option D} {vlo vhi : Option Value} (hlo : match lo, vlo with | none, none => True | some d, some v => Rep w A β d v | _, _ => False)
  (hhi : match hi, vhi with | none, none => True | some d, some v => Rep w A β d v | _, _ => False) {isSlice : Bool} {len cap h l most : Nat} (hm : len ≤ most) (hc : most ≤ cap) (h1 : boundD hi len most = some h) (h2 : boundD lo 0 h = some l) :
  (Instr.sliceBounds isSlice len cap vlo vhi none).run P w = .ok (l, h, cap) w ∧ l ≤ h ∧ h ≤ most := by
 have hh : h ≤ most := by
  unfold boundD at h1
  split at h1
  ·simp at h1; omega
  ·split at h1
   ·simp at h1; omega
   ·cases h1
  ·cases h1
 have hl : l ≤ h := by
  unfold boundD at h2
  split at h2
  ·simp at h2; omega
  ·split at h2
   ·simp at h2; omega
   ·cases h2
  ·cases h2
 refine ⟨?_, hl, hh⟩
 have e1 := fun code => bound_sound (P := P) hlo h2 code
 -- the upper bound is asked against the capacity
 have e2 : ∀ code, match vhi with | some v => (Instr.sliceBound v cap code).run P w = .ok h w | none => h = len := by
  intro code
  cases hi with
  | none =>
   cases vhi with
   | none => simp [boundD] at h1; exact h1.symm
   | some v => exact hhi.elim
  | some d =>
   cases vhi with
   | none => exact hhi.elim
   | some v =>
    cases d with
    | v x =>
     cases x with
     | int k i =>
      simp only [boundD] at h1
      split at h1
      next hb =>
       simp at h1; subst h1
       simp only [Rep, RepS] at hhi
       subst hhi
       have hb' : 0 ≤ i ∧ i ≤ cap := by omega
       show (Instr.sliceBound _ _ _).run P w = _
       simp [Instr.sliceBound, asIntOf, hb']
      ·cases h1
     | _ => simp [boundD] at h1
    | _ => simp [boundD] at h1
 cases vlo with
 | none =>
  have e3 : l = 0 := e1 .index
  cases vhi with
  | none => have e4 : h = len := e2 .index; simp [Instr.sliceBounds, e3, e4]
  | some v => simp [Instr.sliceBounds, e3, e2]
 | some v' =>
  have e3 := fun code => (e1 code).1
  cases vhi with
  | none => have e4 : h = len := e2 .index; subst e4; simp [Instr.sliceBounds, e3]
  | some v => simp [Instr.sliceBounds, e3, e2]
theorem rowLen_part {cs : List Col} {l h' : Nat} (h1 : l ≤ h') (h2 : h' ≤ rowLen cs) : rowLen (cs.map (Col.part l (h' - l))) = h' - l := by
 cases cs with
 | nil => simp [rowLen] at *; omega
 | cons c cs => cases c <;> simp [rowLen, Col.part, Col.len] at * <;> omega
theorem part_rep {c : Col} {i l n : Nat} {x : Value} (hi : i < n) (h : RepC w A (i + l) x c) : RepC w A i x (c.part l n) := by
 cases c with
 | ints k xs => simp only [RepC, Col.part] at h ⊢; rw [h]; simp [List.getD_eq_getElem?_getD, List.getElem?_take, hi, Nat.add_comm]
 | bools xs => simp only [RepC, Col.part] at h ⊢; rw [h]; simp [List.getD_eq_getElem?_getD, List.getElem?_take, hi, Nat.add_comm]
 | rows m f => exact h
theorem rcSlice_sound {t : TypeId} {cs : List Col} {vx : Value} (hx : Rep w A β (.rc cs) vx) {lo hi : Option D} {vlo vhi : Option Value}
  (hlo : match lo, vlo with | none, none => True | some d, some v => Rep w A β d v | _, _ => False) (hhi : match hi, vhi with | none, none => True | some d, some v => Rep w A β d v | _, _ => False)
  {e : Eff} (h : rcSliceD P t cs lo hi = some e) : ∃ d u, e = .val d ∧ (Instr.sliceAt t vx vlo vhi none).run P w = .ok u w ∧ Rep w A β d u := by
 unfold rcSliceD at h
 split at h
 next elem hu =>
  split at h
  next j h' hj hb1 =>
   split at h
   ·cases h
   next l hb2 =>
    split at h
    next hsz =>
     simp at h; subst h
     simp only [Rep, RepS] at hx
     obtain ⟨o, c, rfl, hv, hnc, hx1, hx2⟩ := hx
     obtain ⟨hrun, hl, hh⟩ := bounds_sound (P := P) (isSlice := true) hlo hhi (Nat.le_refl _) hnc hb1 hb2
     refine ⟨_, .slice (if c = l then o else o.map (·.add (l * j.size))) (h' - l) (c - l), rfl, ?_, ?_⟩
     ·simp only [Instr.sliceAt, Instr.slice, Sem.run_bind, run_underlying hu, Result.andThen_ok, hrun, run_sizeOf hj, Sem.run_pure]
     ·simp only [Rep, RepS]
      refine ⟨_, _, by rw [rowLen_part hl hh], fun hL => by have := hv hL; split <;> simp_all, by rw [rowLen_part hl hh]; omega, ?_, ?_⟩
      ·rw [rowLen_part hl hh]
       intro hne
       obtain ⟨ad, rfl, h3, h4⟩ := hx1 (by omega)
       rw [if_neg (by omega)]
       exact ⟨plusOff ad (l * j.size), by simp [add_eq_plus _ _ h3], rfl, h4⟩
      ·rw [rowLen_part hl hh]
       intro i m k hi hk
       obtain ⟨ad, rfl, h3, h4⟩ := hx1 (by omega)
       rw [if_neg (by omega)]
       simp only [Option.map_some, add_eq_plus _ _ h3, Option.getD_some, plusOff_plus, List.length_map]
       rw [List.getElem?_map, Option.map_eq_some_iff] at hk
       obtain ⟨k0, hk0, rfl⟩ := hk
       obtain ⟨x, hx3, hx4⟩ := hx2 (i + l) m k0 (by omega) hk0
       simp only [Option.getD_some] at hx3
       rw [hsz, ← Nat.add_assoc, ← Nat.add_mul, Nat.add_comm l i]
       exact ⟨x, hx3, part_rep hi hx4⟩
    ·cases h
  ·cases h
 ·cases h
theorem sliceP_sound (hrel : Rel w A β base σ tmps acts) {t : TypeId} {x : D} {vx : Value} (hx : Rep w A β x vx) {lo hi : Option D} {vlo vhi : Option Value}
  (hlo : match lo, vlo with | none, none => True | some d, some v => Rep w A β d v | _, _ => False) (hhi : match hi, vhi with | none, none => True | some d, some v => Rep w A β d v | _, _ => False)
  {e : Eff} (h : sliceP P σ.bk t x lo hi = some e) : ∃ d u, e = .val d ∧ (Instr.sliceAt t vx vlo vhi none).run P w = .ok u w ∧ Rep w A β d u := by
 unfold sliceP at h
 split at h
 next n elem id off hu =>
  split at h
  next j h' hj hb1 =>
   split at h
   ·cases h
   next l hb2 =>
    split at h
    next b hbk =>
     split at h
     next hlen =>
      simp at h; subst h
      simp only [Rep] at hx
      obtain ⟨ad, h1, rfl⟩ := hx
      obtain ⟨hrun, hl, hh⟩ := bounds_sound (P := P) (isSlice := false) hlo hhi (Nat.le_refl n) (Nat.le_refl n) hb1 hb2
      refine ⟨_, .slice (some (if n = l then plusOff ad off else plusOff ad (off + l * j.size))) (h' - l) (n - l), rfl, ?_, ?_⟩
      ·simp only [Instr.sliceAt, Sem.run_bind, run_underlying hu, Result.andThen_ok, Instr.sureAddr, Sem.run_pure, hrun, run_sizeOf hj, plusOff_add]
      ·simp only [Rep]
       refine ⟨_, _, rfl, ?_⟩
       by_cases e : n = l
       ·left; omega
       ·rw [if_neg e]
        refine .inr ⟨by omega, ad, h1, rfl, ?_⟩
        rcases hrel.blk id b hbk with ⟨h2, _⟩ | ⟨ad', h2, h3⟩
        ·rw [h1] at h2; cases h2
        ·rw [h1] at h2; cases h2
         obtain ⟨c, T, hobj⟩ := h3.obj
         refine ⟨c, T, (0, 0), hobj, ?_⟩
         have hle : l ≤ n := by omega
         have hmul : l * j.size + (n - l) * j.size = n * j.size := by rw [← Nat.add_mul]; congr 1; omega
         rcases Nat.eq_zero_or_pos (n * j.size) with hz | hz
         ·have := h3.inside c T hobj
          have : off ≤ b.cells.length := by omega
          rcases Nat.eq_zero_or_pos b.cells.length with hz2 | hz2
          ·omega
          ·obtain ⟨u, hu2, _⟩ := h3.cells.get h3.spot (b.cells.length - 1) _ (List.getElem?_eq_getElem (by omega))
           have hc : w.cell? (plusOff ad (b.cells.length - 1)) = c[ad.off + (b.cells.length - 1)]? := cell_of_obj hobj
           rw [hc] at hu2
           have := (Array.getElem?_eq_some_iff.1 hu2).1
           omega
         ·obtain ⟨u, hu2, _⟩ := h3.cells.get h3.spot (b.cells.length - 1) _ (List.getElem?_eq_getElem (by omega))
          have hc : w.cell? (plusOff ad (b.cells.length - 1)) = c[ad.off + (b.cells.length - 1)]? := cell_of_obj hobj
          rw [hc] at hu2
          have := (Array.getElem?_eq_some_iff.1 hu2).1
          omega
     ·cases h
    ·cases h
  ·cases h
 next elem n cs hu =>
  split at h
  next j h' hj hb1 =>
   split at h
   ·cases h
   next l hb2 =>
    simp at h; subst h
    simp only [Rep, RepS] at hx
    obtain ⟨o, c, rfl, hnc, hx1, hx2⟩ := hx
    obtain ⟨hrun, hl, hh⟩ := bounds_sound (P := P) (isSlice := true) hlo hhi (Nat.le_refl _) hnc hb1 hb2
    refine ⟨_, .slice (if c = l then o else o.map (·.add (l * j.size))) (h' - l) (c - l), rfl, ?_, ?_⟩
    ·simp only [Instr.sliceAt, Instr.slice, Sem.run_bind, run_underlying hu, Result.andThen_ok, hrun, run_sizeOf hj, Sem.run_pure]
    ·simp only [Rep, RepS]
     refine ⟨_, _, rfl, by omega, ?_, ?_⟩
     ·intro hne
      have hn0 : n ≠ 0 := by
       intro hn
       subst hn
       have e1 : h' - l = 0 := by omega
       rw [e1] at hne
       simp at hne
      obtain ⟨ad, rfl, h3, h4⟩ := hx1 (.inl hn0)
      by_cases e : c = l
      ·rw [if_pos e]; exact ⟨ad, rfl, h3, h4⟩
      ·rw [if_neg e]; exact ⟨plusOff ad (l * j.size), by simp [add_eq_plus _ _ h3], rfl, h4⟩
     ·by_cases e : c = l
      ·have e1 : h' - l = 0 := by omega
       rw [e1]; simp [RepAt]
      ·rw [if_neg e]
       by_cases hz : n = 0 ∧ cs = []
       ·rw [hz.2]; simp [RepAt]
       ·obtain ⟨ad, rfl, h3, h4⟩ := hx1 (by by_cases hn : n = 0 <;> simp_all)
        simp only [Option.map_some, add_eq_plus _ _ h3, Option.getD_some]
        exact RepAt.take _ (RepAt.drop h3 (l * j.size) hx2)
  ·cases h
 next elem id off n sz hu =>
  split at h
  next j h' hj hb1 =>
   split at h
   ·cases h
   next l hb2 =>
    split at h
    next hsz =>
     obtain ⟨sz, r⟩ := sz
     simp only at hsz hb1 h
     subst hsz
     simp at h; subst h
     simp only [Rep] at hx
     obtain ⟨o, c, rfl, hx⟩ := hx
     have hnc : max n r ≤ c := by rcases hx with h | h <;> omega
     obtain ⟨hrun, hl, hh⟩ := bounds_sound (P := P) (isSlice := true) hlo hhi (Nat.le_max_left n r) hnc hb1 hb2
     refine ⟨_, .slice (if c = l then o else o.map (·.add (l * j.size))) (h' - l) (c - l), rfl, ?_, ?_⟩
     ·simp only [Instr.sliceAt, Instr.slice, Sem.run_bind, run_underlying hu, Result.andThen_ok, hrun, run_sizeOf hj, Sem.run_pure]
     ·simp only [Rep]
      refine ⟨_, _, rfl, ?_⟩
      by_cases e : c = l
      ·left; omega
      ·rcases hx with ⟨h1, h2⟩ | ⟨h1, ad, h2, rfl, c1, T1, fz1, h3, h4⟩
       ·omega
       ·refine .inr ⟨by omega, ad, h2, by rw [if_neg e]; simp, ⟨c1, T1, fz1, h3, ?_⟩⟩
        have hmul : l * j.size + (c - l) * j.size = c * j.size := by rw [← Nat.add_mul]; congr 1; omega
        omega
    ·cases h
  ·cases h
 next elem hu =>
  split at h
  next j h' hj hb1 =>
   split at h
   ·cases h
   next l hb2 =>
    simp at h; subst h
    simp only [Rep, RepS] at hx; subst hx
    obtain ⟨hrun, hl, hh⟩ := bounds_sound (P := P) (isSlice := true) hlo hhi (Nat.le_refl 0) (Nat.le_refl 0) hb1 hb2
    obtain rfl : h' = 0 := by omega
    obtain rfl : l = 0 := by omega
    refine ⟨_, .slice none 0 0, rfl, ?_, by simp [Rep, RepS]⟩
    simp [Instr.sliceAt, Instr.slice, run_underlying hu, hrun, run_sizeOf hj]
  ·cases h
 next s hu =>
  split at h
  next h' hb1 =>
   split at h
   ·cases h
   next l hb2 =>
    simp at h; subst h
    simp only [Rep, RepS] at hx; subst hx
    obtain ⟨hrun, hl, hh⟩ := bounds_sound (P := P) (isSlice := false) hlo hhi (Nat.le_refl s.size) (Nat.le_refl s.size) hb1 hb2
    refine ⟨_, .string (s.extract l h'), rfl, ?_, by simp [Rep, RepS]⟩
    simp [Instr.sliceAt, Instr.slice, run_underlying hu, hrun]
  ·cases h
 ·cases h
theorem slice_sound (hrel : Rel w A β base σ tmps acts) {t : TypeId} {x : D} {vx : Value} (hx : Rep w A β x vx) {lo hi : Option D} {vlo vhi : Option Value}
  (hlo : match lo, vlo with | none, none => True | some d, some v => Rep w A β d v | _, _ => False) (hhi : match hi, vhi with | none, none => True | some d, some v => Rep w A β d v | _, _ => False)
  {e : Eff} (h : sliceD P σ.bk t x lo hi = some e) : ∃ d u, e = .val d ∧ (Instr.sliceAt t vx vlo vhi none).run P w = .ok u w ∧ Rep w A β d u := by
 unfold sliceD at h
 split at h
 ·exact rcSlice_sound hx hlo hhi h
 ·exact sliceP_sound hrel hx hlo hhi h
theorem zeroInt_spec {d : D} {v : Value} (h : zeroInt d = true) (hr : Rep w A β d v) : ∃ k, v = .int k 0 := by
 unfold zeroInt at h
 split at h
 next k => simp only [Rep, RepS] at hr; exact ⟨k, hr⟩
 ·cases h
theorem slice3_sound {t : TypeId} {x : D} {vx : Value} (hx : Rep w A β x vx) {lo hi : Option D} {vlo vhi : Option Value} {mx : D} {vmx : Value}
  (hlo : match lo, vlo with | none, none => True | some d, some v => Rep w A β d v | _, _ => False) (hhi : match hi, vhi with | none, none => True | some d, some v => Rep w A β d v | _, _ => False) (hmx : Rep w A β mx vmx)
  {e : Eff} (h : slice3D P t x lo hi mx = some e) : ∃ d u, e = .val d ∧ (Instr.sliceAt t vx vlo vhi (some vmx)).run P w = .ok u w ∧ Rep w A β d u := by
 unfold slice3D at h
 split at h
 next elem h' hu =>
  split at h
  ·cases h
  next j hj =>
   split at h
   next hz =>
    obtain ⟨z1, z2, z3⟩ := hz
    obtain ⟨k1, rfl⟩ := zeroInt_spec z1 hmx
    cases vhi with
    | none => exact hhi.elim
    | some vh =>
     obtain ⟨k2, rfl⟩ := zeroInt_spec z2 hhi
     have key : ∀ (o : Option Addr) (n c : Nat), (Instr.sliceAt t (.slice o n c) vlo (some (.int k2 0)) (some (.int k1 0))).run P w = .ok (.slice o 0 0) w := by
      intro o n c
      cases lo with
      | none =>
       cases vlo with
       | none => simp [Instr.sliceAt, Instr.slice, run_underlying hu, Instr.sliceBounds, Instr.sliceBound, asIntOf, run_sizeOf hj]
       | some v => exact hlo.elim
      | some d =>
       cases vlo with
       | none => exact hlo.elim
       | some v =>
        obtain ⟨k3, rfl⟩ := zeroInt_spec (by simpa using z3) hlo
        simp [Instr.sliceAt, Instr.slice, run_underlying hu, Instr.sliceBounds, Instr.sliceBound, asIntOf, run_sizeOf hj]
     split at h
     ·split at h
      ·cases h
      next hn =>
       simp only [Option.some.injEq] at h; subst h
       simp only [Rep, RepS] at hx
       obtain ⟨o, c, rfl, _, hx1, _⟩ := hx
       obtain ⟨ad, rfl, _⟩ := hx1 (.inl hn)
       exact ⟨_, _, rfl, key _ _ _, by simp only [Rep, RepS]; exact ⟨ad, rfl⟩⟩
     ·split at h
      ·cases h
      next hn =>
       simp only [Option.some.injEq] at h; subst h
       simp only [Rep] at hx
       obtain ⟨o, c, rfl, hx⟩ := hx
       rcases hx with ⟨h1, _⟩ | ⟨_, ad, _, rfl, _⟩
       ·exact absurd h1 hn
       ·exact ⟨_, _, rfl, key _ _ _, by simp only [Rep, RepS]; exact ⟨_, rfl⟩⟩
     ·simp only [Option.some.injEq] at h; subst h
      simp only [Rep, RepS] at hx
      obtain ⟨o, rfl⟩ := hx
      exact ⟨_, _, rfl, key _ _ _, by simp only [Rep, RepS]; exact ⟨o, rfl⟩⟩
     ·simp only [Option.some.injEq] at h; subst h
      simp only [Rep, RepS] at hx; subst hx
      exact ⟨_, _, rfl, key _ _ _, by simp [Rep, RepS]⟩
     ·cases h
   ·unfold sliceChk at h
    split at h
    next id off n sz k1 l k2 hh k3 m hneg =>
     split at h
     next hb =>
      simp only [Option.some.injEq] at h; subst h
      simp only [Rep] at hx
      obtain ⟨o, c, rfl, hx⟩ := hx
      have hnc : n ≤ c := by rcases hx with h | h <;> omega
      cases vhi with
      | none => exact hhi.elim
      | some vh =>
       cases vlo with
       | none => exact hlo.elim
       | some vl =>
        simp only [Rep, RepS] at hhi hlo hmx
        subst hhi; subst hlo; subst hmx
        obtain ⟨m', rfl⟩ := Int.eq_ofNat_of_zero_le (show 0 ≤ m by omega)
        obtain ⟨h2, rfl⟩ := Int.eq_ofNat_of_zero_le (show 0 ≤ hh by omega)
        obtain ⟨l', rfl⟩ := Int.eq_ofNat_of_zero_le (show 0 ≤ l by omega)
        have b1 : m' ≤ c := by omega
        have b2 : h2 ≤ m' := by omega
        have b3 : l' ≤ h2 := by omega
        refine ⟨.undef, .slice (if m' = l' then o else o.map (·.add (l' * j.size))) (h2 - l') (m' - l'), rfl, ?_, by simp [Rep, RepS]⟩
        simp [Instr.sliceAt, Instr.slice, run_underlying hu, Instr.sliceBounds, Instr.sliceBound, asIntOf, run_sizeOf hj, b1, b2, b3]
     ·cases h
    ·cases h
 ·cases h
end
end Go.Dam
end

section
namespace Go.Dam
open Go Go.RowKit
variable [Glo]
section
variable {P : Program} {w : World} {A : Nat → Prop} {β : Env} {base : Nat} {σ : St} {tmps : Array Value} {acts : List (Array Value)}
theorem range_map_zero (z : Array Value) (n : Nat) : ((Array.range (n * z.size)).map fun i => z[i % z.size]!) = (List.replicate n z.toList).flatten.toArray := by
 induction n with
 | zero => simp
 | succ n ih =>
  apply Array.ext'
  have h1 := congrArg Array.toList ih
  simp only [Array.toList_map, Array.toList_range] at h1 ⊢
  rw [Nat.succ_mul, List.range_add, List.map_append, h1, List.replicate_succ', List.flatten_append]
  simp only [List.map_map]
  congr 1
  simp only [List.flatten_cons, List.flatten_nil, List.append_nil]
  apply List.ext_getElem?
  intro i
  rcases Nat.lt_or_ge i z.size with h | h
  ·simp [h, Nat.mod_eq_of_lt h]
  ·simp [h]
theorem zeros_rep (z : Array Value) (n : Nat) : RepLs w A β (List.replicate n (z.toList.map D.v)).flatten (List.replicate n z.toList).flatten := by
 induction n with
 | zero => simp [RepLs]
 | succ n ih => simp only [List.replicate_succ, List.flatten_cons]; exact (RepLs.ofV _).append ih
theorem makeSlice_sound {t : TypeId} {l c : D} {vl vc : Value} (hl : Rep w A β l vl) (hc : Rep w A β c vc) {e : Eff} (h : makeSliceD P t l c = some e) :
  Good P w A β (((Instr.makeSlice t vl vc).run P w).andThen fun v w' => .ok (.value v) w') e := by
 unfold makeSliceD at h
 split at h
 next elem li ci hu h1 h2 =>
  obtain ⟨k1, rfl⟩ := indexOf_spec hl h1
  obtain ⟨k2, rfl⟩ := indexOf_spec hc h2
  split at h
  next j zs hj hz =>
   obtain ⟨j', z, hj', hzz, rfl⟩ := zero_spec hz
   rw [hj] at hj'; cases hj'
   split at h
   next hb =>
    simp at h; subst h
    obtain ⟨b1, b2, b3, b4, b5⟩ := hb
    have b5' : z.cells.size = j.size := by simpa using b5
    have e1 : IntKind.i64.wrap li = li := IntWalk.i64_in li (by omega)
    have e2 : IntKind.i64.wrap ci = ci := IntWalk.i64_in ci (by omega)
    have b3' : j.bytes * ci ≤ 2 ^ 40 := by rw [Int.mul_comm]; exact b3
    refine ⟨elem, (List.replicate ci.toNat z.cells.toList).flatten, ci.toNat, zeros_rep _ _, by omega, ?_, ?_⟩
    ·simp [b5']
    ·have hn1' : ¬ ((281474976710656 : Int) < j.bytes * ci) := by omega
     have hn2 : ¬ ci < 0 := by omega
     have hn3 : ¬ li < 0 := by omega
     have hn4 : ¬ ci < li := by omega
     simp only [Instr.makeSlice, Sem.run_bind, run_underlying hu, Result.andThen_ok, asInt, asIntOf, Sem.run_pure, run_typeInfo hj, e1, e2]
     simp [hn1', hn2, hn3, hn4, run_sizeOf hj, newRow]
     have hm := range_map_zero z.cells ci.toNat
     rw [b5'] at hm
     by_cases h0 : ci.toNat * j.size = 0
     ·rw [if_pos h0]
      rw [h0] at hm ⊢
      rw [← hm]
      simp [show Array.range 0 = #[] from rfl]
     ·rw [if_neg h0]
      simp [run_zeroValue hj hzz, b5', hm]
   ·cases h
  ·cases h
 ·cases h
theorem fillD_length (place : Nat → Option (Nat × Nat)) : ∀ (parts : List (Nat × D)) (cells out : List D), fillD place cells parts = some out → out.length = cells.length
 | [], cells, out, h => by simp [fillD] at h; rw [h]
 | (i, x) :: rest, cells, out, h => by
  simp only [fillD] at h
  split at h
  next off size ds hp hc =>
   split at h
   next hl =>
    rw [fillD_length place rest _ _ h]
    simp [splice]; omega
   ·cases h
  ·cases h
theorem buildSlice_sound {ρ : Operand → D} {ρv : Operand → Value} (hρ : ∀ x, Rep w A β (ρ x) (ρv x)) {t : TypeId} {len : Nat} {parts : Array (Nat × Operand)} {e : Eff} (h : buildSliceD P t len (parts.toList.map fun p => (p.1, ρ p.2)) = some e) :
  Good P w A β (((Instr.buildSlice t len (parts.map fun (i, x) => (i, ρv x))).run P w).andThen fun v w' => .ok (.value v) w') e := by
 have hp : (parts.map fun (i, x) => (i, ρv x)).toList = parts.toList.map fun p => (p.1, ρv p.2) := by simp
 unfold buildSliceD at h
 split at h
 next elem hu =>
  split at h
  next j zs hj hz =>
   obtain ⟨j', z, hj', hzz, rfl⟩ := zero_spec hz
   rw [hj] at hj'; cases hj'
   split at h
   next hb =>
    simp only [Option.map_eq_some_iff] at h
    obtain ⟨cs, hf, rfl⟩ := h
    have b5 : z.cells.size = j.size := by simpa using hb.2
    have hm := range_map_zero z.cells len
    rw [b5] at hm
    obtain ⟨vout, k1, k2⟩ := fillD_spec _ _ _ _ (List.replicate len z.cells.toList).flatten.toArray _ (parts_spec hρ parts.toList) (zeros_rep _ _) hf
    have hlen := k2.length
    have hcs : cs.length = len * j.size := by
     have := fillD_length _ _ _ _ hf
     rw [this]; simp [b5]
    suffices hrun : (((Instr.buildSlice t len (parts.map fun (i, x) => (i, ρv x))).run P w).andThen fun v w' => Result.ok (Next.value v) w') = .ok (.value (.slice (some ⟨w.heap.size, 0, none⟩) len len)) (w.alloc (.cells vout.toList.toArray elem)) by
     cases len with
     | zero => exact ⟨elem, vout.toList.toArray, hrun⟩
     | succ n => exact ⟨elem, vout.toList, n + 1, k2, Nat.le_refl _, by rw [hlen, hcs]; exact Nat.le_refl _, hrun⟩
    have hn : ¬ (len * j.size > 2 ^ 24) := by omega
    simp only [Instr.buildSlice, Sem.run_bind, run_underlying hu, Result.andThen_ok, run_sizeOf hj, hn, if_false]
    by_cases h0 : len * j.size = 0
    ·have hm0 : ((Array.range (len * j.size)).map fun i => (#[] : Array Value)[i % (#[] : Array Value).size]!) = (List.replicate len z.cells.toList).flatten.toArray := by
      rw [← hm, h0]; simp [show Array.range 0 = #[] from rfl]
     simp only [if_pos h0, Sem.run_bind, Sem.run_pure, Result.andThen_ok, hm0, hp, k1]
     rfl
    ·simp only [if_neg h0, Sem.run_bind, Sem.run_pure, Result.andThen_ok, run_zeroValue hj hzz, b5, hm, hp, k1]
     rfl
   ·cases h
  ·cases h
 ·cases h
theorem len_sound {t : TypeId} {x : D} {vx : Value} (hx : Rep w A β x vx) {ty : TypeId} {e : Eff} (h : lenD P t x = some e) : ∃ d u, e = .val d ∧ (Builtin.len_ #[t] ty #[vx]).run P w = .ok u w ∧ Rep w A β d u := by
 unfold lenD at h
 split at h
 next el hu =>
  split at h
  ·simp at h; subst h
   simp only [Rep, RepS] at hx
   obtain ⟨o, c, rfl, _⟩ := hx
   exact ⟨_, _, rfl, by simp [Builtin.len_, run_underlying hu]; rfl, by simp [Rep, RepS]⟩
  ·simp at h; subst h
   simp only [Rep] at hx
   obtain ⟨o, c, rfl, _⟩ := hx
   exact ⟨_, _, rfl, by simp [Builtin.len_, run_underlying hu]; rfl, by simp [Rep, RepS]⟩
  ·simp at h; subst h
   simp only [Rep, RepS] at hx; subst hx
   exact ⟨_, _, rfl, by simp [Builtin.len_, run_underlying hu]; rfl, by simp [Rep, RepS]⟩
  ·simp at h; subst h
   simp only [Rep, RepS] at hx
   obtain ⟨o, rfl⟩ := hx
   exact ⟨_, _, rfl, by simp [Builtin.len_, run_underlying hu]; rfl, by simp [Rep, RepS, goInt]⟩
  ·simp at h; subst h
   simp only [Rep, RepS] at hx
   obtain ⟨o, c, rfl, _⟩ := hx
   exact ⟨_, _, rfl, by simp [Builtin.len_, run_underlying hu]; rfl, by simp [Rep, RepS]⟩
  ·cases h
 next hu =>
  split at h
  ·simp at h; subst h
   simp only [Rep, RepS] at hx; subst hx
   exact ⟨_, _, rfl, by simp [Builtin.len_, run_underlying hu]; rfl, by simp [Rep, RepS]⟩
  ·cases h
 next n el hu =>
  simp at h; subst h
  exact ⟨_, _, rfl, by simp [Builtin.len_, run_underlying hu]; rfl, by simp [Rep, RepS]⟩
 ·cases h
theorem cells_read {ad : Addr} {cs : List D} (hs : ad.spot = none) (hc : CellsAt w A β cs ad) : ∃ vs : List Value, (∀ w' : World, w'.heap = w.heap → (loadCells ad cs.length).run P w' = .ok vs.toArray w') ∧ RepLs w A β cs vs := by
 obtain ⟨vs, k1, k2⟩ := loadCells_run P hs hc
 refine ⟨vs, fun w' hw' => ?_, k2⟩
 have hx' : Ext A w w' := .of_heap hw'
 obtain ⟨vs', k3, k4⟩ := loadCells_run P hs (CellsAt.mono (β' := β) hx' (fun _ h => h) _ _ (by rw [hw']) (fun _ _ => rfl) hc)
 -- the same cells are read
 have hsame : ∀ (n i : Nat) (acc : Array Value) (r : Array Value), (loadCellsFrom ad i n acc).run P w = .ok r w → (∀ j, j < n → (w.cell? (plusOff ad (i + j))).isSome = true) → (loadCellsFrom ad i n acc).run P w' = .ok r w' := by
  intro n
  induction n with
  | zero => intro i acc r h _; simp [loadCellsFrom] at h ⊢; exact h
  | succ n ih =>
   intro i acc r h hj
   obtain ⟨u, hu⟩ := Option.isSome_iff_exists.1 (hj 0 (by omega))
   have hu' : w'.cell? (plusOff ad (i + 0)) = some u := by rw [← hu]; exact cell_of_same (by rw [hw'])
   simp only [Nat.add_zero] at hu hu'
   simp only [loadCellsFrom, Sem.run_bind, run_load, add_eq_plus _ _ hs, hu, hu', Result.andThen_ok] at h ⊢
   exact ih (i + 1) _ r h (fun j hlt => by rw [show i + 1 + j = i + (j + 1) from by omega]; exact hj (j + 1) (by omega))
 exact hsame _ 0 #[] _ k1 (fun j hj => by
  obtain ⟨u, hu, _⟩ := hc.get hs j _ (List.getElem?_eq_getElem hj)
  rw [Nat.zero_add, hu]; rfl)
theorem repAt_app : ∀ (xs ys : List D) (ad : Addr), ad.spot = none → RepAt w A xs ad → RepAt w A ys (plusOff ad xs.length) → RepAt w A (xs ++ ys) ad
 | [], ys, ad, hs, _, h => by rw [List.length_nil, plusOff_zero hs] at h; exact h
 | x :: xs, ys, ad, hs, h1, h2 => by
  simp only [List.cons_append, RepAt] at h1 ⊢
  refine ⟨h1.1, repAt_app xs ys (plusOff ad 1) rfl h1.2 ?_⟩
  rw [plusOff_plus, Nat.add_comm 1, ← List.length_cons (a := x)]
  exact h2
theorem rowCells_length (cs : List Col) : (rowCells cs).length = rowLen cs * cs.length := by
 unfold rowCells
 rw [List.length_flatMap]
 simp [List.map_const']
/-- A row that came in, as cells. -/
theorem RepR.sh {cs : List Col} {u : Value} (h : RepR w A cs u) : RepS w A (.sh (rowLen cs) (rowCells cs)) u := by
 obtain ⟨o, cp, rfl, _, h1, h2, h3⟩ := h
 simp only [RepS]
 have hz : rowLen cs = 0 → rowCells cs = [] := fun e => by simp [rowCells, e]
 refine ⟨o, cp, rfl, h1, fun h => h2 (fun e => by rcases h with h | h; exact h e; exact h (hz e)), ?_⟩
 by_cases hn : rowLen cs = 0
 ·rw [hz hn]; simp [RepAt]
 ·obtain ⟨ad, rfl, h4, h5⟩ := h2 hn
  simp only [Option.getD_some] at h3 ⊢
  have key : ∀ n, n ≤ rowLen cs → RepAt w A ((List.range n).flatMap fun i => cs.map (Col.cell i)) ad := by
   intro n
   induction n with
   | zero => intro _; simp [RepAt]
   | succ n ih =>
    intro hle
    rw [List.range_succ, List.flatMap_append]
    refine repAt_app _ _ _ h4 (ih (by omega)) ?_
    have hl : ((List.range n).flatMap fun i => cs.map (Col.cell i)).length = n * cs.length := by rw [List.length_flatMap]; simp [List.map_const']
    rw [hl]
    simp only [List.flatMap_cons, List.flatMap_nil, List.append_nil]
    exact cells_at cs _ (fun j c hj => by rw [plusOff_plus]; exact h3 n j c (by omega) hj) rfl
  exact key _ (Nat.le_refl _)
theorem elems_sh {size n : Nat} {cs : List D} {vx : Value} (hx : RepS w A (.sh n cs) vx) (hl : n * size = cs.length) : ∃ vs, Src P w size n vx vs ∧ RepLs w A β cs vs ∧ cs.length = n * size := by
 simp only [RepS] at hx
 obtain ⟨o, c, rfl, hnc, h1, h2⟩ := hx
 by_cases hz : n * size = 0
 ·have hnil : cs = [] := List.length_eq_zero_iff.1 (by omega)
  subst hnil
  refine ⟨[], ⟨by simp [Builtin.lenOf], fun w' _ => ?_⟩, by simp [RepLs], by simp [hz]⟩
  cases o <;> simp [Builtin.firstCells, hz, loadCells, loadCellsFrom]
 ·obtain ⟨ad, rfl, h3, h4⟩ := h1 (.inl (by intro h; subst h; simp at hz))
  obtain ⟨vs, k1, k2⟩ := cells_read (P := P) h3 (RepAt.cellsAt (fun d u h => RepS.rep (β := β) d u h) h2)
  refine ⟨vs, ⟨by simp [Builtin.lenOf], fun w' hw' => ?_⟩, k2, hl.symm⟩
  rw [← hl] at k1
  simp [Builtin.firstCells, k1 w' hw']
/-- The elements of a slice are read: by whatever world has this heap. -/
theorem elems_sound (hrel : Rel w A β base σ tmps acts) {size : Nat} {x : D} {vx : Value} (hx : Rep w A β x vx) {m : Nat} {ds : List D} (h : x.elems σ.bk size = some (m, ds)) :
  ∃ vs, Src P w size m vx vs ∧ RepLs w A β ds vs ∧ ds.length = m * size := by
 have hload : ∀ (ad : Addr) (cs : List D), ad.spot = none → CellsAt w A β cs ad → ∃ vs : List Value, (∀ w' : World, w'.heap = w.heap → (loadCells ad cs.length).run P w' = .ok vs.toArray w') ∧ RepLs w A β cs vs := fun ad cs hs hc => cells_read hs hc
 cases x with
 | sh n cs =>
  simp only [D.elems] at h
  split at h
  next hl =>
   simp at h; obtain ⟨rfl, rfl⟩ := h
   simp only [Rep, RepS] at hx
   obtain ⟨o, c, rfl, hnc, h1, h2⟩ := hx
   by_cases hz : n * size = 0
   ·have hnil : cs = [] := List.length_eq_zero_iff.1 (by omega)
    subst hnil
    refine ⟨[], ⟨by simp [Builtin.lenOf], fun w' _ => ?_⟩, by simp [RepLs], by simp [hz]⟩
    cases o <;> simp [Builtin.firstCells, hz, loadCells, loadCellsFrom]
   ·obtain ⟨ad, rfl, h3, h4⟩ := h1 (.inl (by intro h; subst h; simp at hz))
    obtain ⟨vs, k1, k2⟩ := hload ad cs h3 (RepAt.cellsAt (fun d u h => RepS.rep d u h) h2)
    refine ⟨vs, ⟨by simp [Builtin.lenOf], fun w' hw' => ?_⟩, k2, hl.symm⟩
    rw [← hl] at k1
    simp [Builtin.firstCells, k1 w' hw']
  ·cases h
 | sl id off n sz =>
  simp only [D.elems] at h
  split at h
  next b hb =>
   split at h
   next hl =>
    simp at h; obtain ⟨rfl, rfl⟩ := h
    obtain ⟨sz, r⟩ := sz
    simp only at hl
    obtain ⟨rfl, hl⟩ := hl
    have hlen : ((b.cells.drop off).take (n * sz)).length = n * sz := by simp; omega
    simp only [Rep] at hx
    obtain ⟨o, c, rfl, hx⟩ := hx
    by_cases hz : n * sz = 0
    ·refine ⟨[], ⟨by simp [Builtin.lenOf], fun w' _ => ?_⟩, by rw [hz]; simp [RepLs], hlen⟩
     cases o <;> simp [Builtin.firstCells, hz, loadCells, loadCellsFrom]
    ·rcases hx with ⟨h1, _⟩ | ⟨_, ad, h1, rfl, _⟩
     ·obtain rfl : n = 0 := by omega
      simp at hz
     ·rcases hrel.blk id b hb with ⟨h2, _⟩ | ⟨ad', h2, h3⟩
      ·rw [h1] at h2; cases h2
      ·rw [h1] at h2; cases h2
       obtain ⟨vs, k1, k2⟩ := hload (plusOff ad off) _ rfl ((h3.cells.drop h3.spot off).take rfl (n * sz))
       refine ⟨vs, ⟨by simp [Builtin.lenOf], fun w' hw' => ?_⟩, k2, hlen⟩
       rw [hlen] at k1
       simp [Builtin.firstCells, k1 w' hw']
   ·cases h
  ·cases h
 | v y =>
  have hy : y = .slice none 0 0 ∧ m = 0 ∧ ds = [] := by
   cases y with
   | slice o n c =>
    cases o with
    | none =>
     cases n with
     | zero =>
      cases c with
      | zero => simp [D.elems] at h; exact ⟨rfl, h.1.symm, h.2⟩
      | succ c => simp [D.elems] at h
     | succ n => simp [D.elems] at h
    | some a => simp [D.elems] at h
   | _ => simp [D.elems] at h
  obtain ⟨rfl, rfl, rfl⟩ := hy
  simp only [Rep, RepS] at hx; subst hx
  exact ⟨[], ⟨by simp [Builtin.lenOf], fun w' _ => by simp [Builtin.firstCells]⟩, by simp [RepLs], by simp⟩
 | rc cs =>
  simp only [D.elems] at h
  split at h
  next hl =>
   simp at h; obtain ⟨rfl, rfl⟩ := h
   simp only [Rep, RepS] at hx
   exact elems_sh hx.sh (by rw [rowCells_length, hl])
  ·cases h
 | emp =>
  simp only [D.elems, Option.some.injEq, Prod.mk.injEq] at h
  obtain ⟨rfl, rfl⟩ := h
  simp only [Rep, RepS] at hx
  obtain ⟨o, rfl⟩ := hx
  refine ⟨[], ⟨by simp [Builtin.lenOf], fun w' _ => ?_⟩, by simp [RepLs], by simp⟩
  cases o <;> simp [Builtin.firstCells, loadCells, loadCellsFrom]
 | _ => simp [D.elems] at h
end
end Go.Dam
end
