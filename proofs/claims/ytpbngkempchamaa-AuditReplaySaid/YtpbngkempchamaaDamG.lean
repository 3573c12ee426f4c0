/- The engine, part G: an abstract machine for the program's functions, proved right against the model. No condition. -/
import Derived.Test.YtpbngkempchamaaDamE
import GoSem.Builtin.Append
set_option linter.unusedSectionVars false
set_option linter.unusedVariables false
set_option linter.unusedSimpArgs false
namespace Go.Dam
open Go Go.RowKit
set_option linter.unusedSectionVars false
variable [Glo]
set_option linter.unusedSimpArgs false
set_option linter.unusedVariables false

theorem run_underlying {P : Program} {t : TypeId} {d : TypeDesc} (h : P.underlying t = some d) (w : World) : (underlying t).run P w = .ok d w := by simp [underlying, h]
theorem run_typeInfo {P : Program} {t : TypeId} {i : TypeInfo} (h : P.info? t = some i) (w : World) : (typeInfo t).run P w = .ok i w := by simp [typeInfo, h]
theorem run_sizeOf {P : Program} {t : TypeId} {i : TypeInfo} (h : P.info? t = some i) (w : World) : (sizeOf t).run P w = .ok i.size w := by simp [sizeOf, run_typeInfo h]
theorem run_zeroValue {P : Program} {t : TypeId} {i : TypeInfo} {z : Value} (h : P.info? t = some i) (hz : i.zero = some z) (w : World) : (zeroValue t).run P w = .ok z w := by simp [zeroValue, run_typeInfo h, hz]

theorem growBy_le (newLen : Nat) : ∀ r c, Builtin.growBy newLen r c ≤ c * 2 ^ r ∨ c < 256
  | 0, c => .inl (by simp [Builtin.growBy])
  | r + 1, c => by
    by_cases hc : c < 256
    · exact .inr hc
    · simp only [Builtin.growBy]
      split
      · exact .inl (Nat.le_mul_of_pos_right _ (Nat.two_pow_pos _))
      · rcases growBy_le newLen r (c + (c + 768) / 4) with h | h
        · refine .inl (Nat.le_trans h ?_)
          rw [Nat.pow_succ, Nat.mul_comm (2 ^ r) 2, ← Nat.mul_assoc]
          exact Nat.mul_le_mul_right _ (by omega)
        · omega

theorem nextslicecap_le (need c : Nat) (h : c < need) : Builtin.nextslicecap need c ≤ 16 * need := by
  unfold Builtin.nextslicecap
  split
  · omega
  · split
    · omega
    · rcases growBy_le need 4 c with h1 | h1 <;> omega

/-- The elements that are appended are read. -/
structure Src (P : Program) (w : World) (size m : Nat) (x : Value) (vs : List Value) : Prop where
  len : (Builtin.lenOf x).run P w = .ok m w
  cells : ∀ w' : World, w'.heap = w.heap → (Builtin.firstCells size m x).run P w' = .ok vs.toArray w'

theorem append_fits {P : Program} {w w' : World} {t t2 ty e : TypeId} {d2 : TypeDesc} {i : TypeInfo} (hu : P.underlying t = some (.slice e)) (hi : P.info? e = some i) (hu2 : P.underlying t2 = some d2) (hd2 : ∀ k, d2 ≠ .int k)
    {o : Option Addr} {n c m : Nat} {x : Value} {vs : List Value} (hs : Src P w i.size m x vs) (hfit : n + m ≤ c)
    (hst : ∀ a, o = some a → (storeCells (a.add (n * i.size)) vs).run P w = .ok () w') (hno : o = none → w' = w) :
    (Builtin.append_ #[t, t2] ty #[.slice o n c, x]).run P w = .ok (.slice o (n + m) c) w' := by
  have hm : (match d2 with | .int _ => true | _ => false) = false := by
    cases d2 <;> first | rfl | exact absurd rfl (hd2 _)
  cases o with
  | none =>
    have := hno rfl; subst this
    simp [Builtin.append_, run_underlying hu, run_underlying hu2, run_sizeOf hi, hm, hs.len, hfit, hs.cells _ rfl]
  | some a =>
    simp [Builtin.append_, run_underlying hu, run_underlying hu2, run_sizeOf hi, hm, hs.len, hfit, hs.cells w rfl, hst a rfl]

theorem append_grows {P : Program} {w : World} {t t2 ty e : TypeId} {d2 : TypeDesc} {i : TypeInfo} {z : Value} (hu : P.underlying t = some (.slice e)) (hi : P.info? e = some i) (hz : i.zero = some z) (hu2 : P.underlying t2 = some d2) (hd2 : ∀ k, d2 ≠ .int k)
    (hb1 : 1 ≤ i.bytes) (hzs : z.cells.size = i.size)
    {o : Option Addr} {n c m : Nat} {x : Value} {vs olds : List Value} (hs : Src P w i.size m x vs) (hfit : c < n + m) (hbytes : (n + m) * i.bytes ≤ 2 ^ 44)
    (hold : ∀ w' : World, w'.heap = w.heap → (Builtin.firstCells i.size n (.slice o n c)).run P w' = .ok olds.toArray w') :
    ∃ (cap : Nat) (rest : Array Value), n + m ≤ cap ∧ rest.size = (cap - (n + m)) * i.size ∧
      (Builtin.append_ #[t, t2] ty #[.slice o n c, x]).run P w = .ok (.slice (some ⟨w.heap.size, 0, none⟩) (n + m) cap) (w.drew.alloc (.cells ((olds ++ vs).toArray ++ rest) e)) := by
  have hm : (match d2 with | .int _ => true | _ => false) = false := by
    cases d2 <;> first | rfl | exact absurd rfl (hd2 _)
  have hneed : n + m ≤ 2 ^ 44 := Nat.le_trans (Nat.le_mul_of_pos_right _ hb1) hbytes
  have h1 : ¬ (((n + m : Nat) : Int) > IntKind.i64.max ∧ (False ∨ i.bytes = 0)) := by
    rintro ⟨_, h | h⟩
    · exact h
    · omega
  have h2 : ¬ (Builtin.nextslicecap (n + m) c * i.bytes > 2 ^ 48) := by
    have h3 := Nat.mul_le_mul_right i.bytes (nextslicecap_le (n + m) c hfit)
    rw [Nat.mul_assoc] at h3
    omega
  refine ⟨(Question.appendCap (n + m) c e).cut (w.tape w.drawn (.appendCap (n + m) c e)), Builtin.zeroCells z.cells (((Question.appendCap (n + m) c e).cut (w.tape w.drawn (.appendCap (n + m) c e))) - (n + m)), ?_, ?_, ?_⟩
  · simp [Question.cut]
  · simp [Builtin.zeroCells, hzs]
  · have hb0 : i.bytes ≠ 0 := by omega
    have hfit' : ¬ (n + m ≤ c) := by omega
    have hcut : ∀ w1 : World, w1 = w.drew → w1.heap = w.heap := fun _ h => by rw [h]; rfl
    simp [Builtin.append_, run_underlying hu, run_underlying hu2, run_sizeOf hi, run_typeInfo hi, run_zeroValue hi hz, hm, hs.len, hfit', hb0, Question.forced, hs.cells _ (hcut _ rfl), hold _ (hcut _ rfl), newRow]
    rw [if_neg (by simpa using h2)]
    simp [hs.cells w.drew rfl, hold w.drew rfl]
    simp only [← List.append_toArray, Array.append_assoc]

section
variable {w w' : World} {A : Nat → Prop} {β : Env} {base : Nat} {σ : St} {tmps : Array Value} {acts : List (Array Value)}

theorem CellsAt.take {cs : List D} {ad : Addr} (hs : ad.spot = none) (h : CellsAt w A β cs ad) (n : Nat) : CellsAt w A β (cs.take n) ad :=
  CellsAt.of_get hs fun j d hj => by
    rw [List.getElem?_take] at hj
    split at hj
    · exact h.get hs j d hj
    · cases hj

theorem CellsAt.drop {cs : List D} {ad : Addr} (hs : ad.spot = none) (h : CellsAt w A β cs ad) (n : Nat) : CellsAt w A β (cs.drop n) (plusOff ad n) :=
  CellsAt.of_get rfl fun j d hj => by
    rw [List.getElem?_drop] at hj
    obtain ⟨u, h1, h2⟩ := h.get hs _ d hj
    exact ⟨u, by rw [plusOff_plus]; exact h1, h2⟩

/-- An append that fits: in place. -/
theorem Rel.app (P : Program) (h : Rel w A β base σ tmps acts) {id : Nat} {cells : List D} (hb : σ.bk id = some ⟨cells, false⟩) {ad : Addr} (ha : β id = some ad) {off k lim : Nat} {ds : List D} {vs : List Value}
    (hd : RepLs w A β ds vs) (ho : ∀ u ∈ vs, u.oneCell' = true) (hl : off + k ≤ cells.length) (hroom : Room w ad.block (ad.off + off + lim)) (hk : k + ds.length ≤ lim) :
    ∃ w', (storeCells (plusOff ad (off + k)) vs).run P w = .ok () w' ∧ Rel w' A (β.set id (some (plusOff ad off))) base ((σ.forget id).setB id ⟨((cells.drop off).take k ++ ds).map (D.forget id), false⟩) tmps acts ∧ Turn A A base w w' ∧
      Room w' ad.block (ad.off + off + lim) := by
  rcases h.blk id _ hb with ⟨h1, _⟩ | ⟨ad', h1, hB⟩
  · rw [ha] at h1; cases h1
  rw [ha] at h1; cases h1
  obtain ⟨c, T, hobj⟩ := hB.obj
  have hlen := hd.length
  obtain ⟨c2, T2, fz2, hobj2, hlim⟩ := hroom
  rw [hobj] at hobj2; cases hobj2
  obtain ⟨w', r1, r2, r3, r4, r5, r6, r7⟩ := storeCells_run P ad.block T vs w c (ad.off + (off + k)) 0 hobj ho (by omega)
  have hx : Ext A w w' := ⟨fun j hj => r3 j (fun e => hB.own rfl (e ▸ hj)), fun b m ⟨c1, T1, fz1, k1, k2⟩ => by
    by_cases e : b = ad.block
    · subst e
      rw [hobj] at k1; cases k1
      exact ⟨_, T, (0, 0), r2, by rw [putAt_size]; exact k2⟩
    · exact ⟨c1, T1, fz1, by rw [r3 b e]; exact k1, k2⟩⟩
  have hne : ∀ i b a2, i ≠ id → σ.bk i = some b → β i = some a2 → a2.block ≠ ad.block := fun i b a2 hne hbi hai e => hne (h.inj i id a2 ad (by simp [hbi]) (by simp [hb]) hai ha e)
  have h1 := h.rebind (w' := w') id (some (plusOff ad off)) hx (by rw [r7]; exact h.top) (by omega) (.but hobj r3) (fun i b a2 hi hbi hai => r3 _ (hne i b a2 hi hbi hai))
  refine ⟨w', r1, ?_, ⟨hx, fun _ h => h, ⟨r4, r5, r6, by omega, fun j hj => r3 j (by have := hB.base; omega)⟩, fun _ h _ => h, .strict (.but hobj r3) (.refl _ _)⟩, ⟨_, T, (0, 0), r2, by rw [putAt_size]; exact hlim⟩⟩
  refine h1.setB id _ (.inr ⟨_, Env.set_same _ _ _, ⟨rfl, hB.base, ⟨_, T, r2⟩, ?_, hB.own, hB.shared, fun c1 T1 h1 => by
    have h1' : w'.heap[ad.block]? = some (.cells c1 T1 (0, 0)) := h1
    rw [r2] at h1'; cases h1'; rw [putAt_size]; simp; omega⟩⟩) ?_
  · have hrep : ∀ (d : D) u, Rep w A β d u → Rep w' A (β.set id (some (plusOff ad off))) (d.forget id) u := fun d u hr =>
      Rep.mono hx (fun _ h => h) _ _ (fun i hi => Env.set_other _ _ (D.has_forget_of hi).2) (hr.forget id)
    have hkl : ((cells.drop off).take k).length = k := by simp; omega
    refine CellsAt.of_get rfl fun j d hj => ?_
    simp only [List.getElem?_map, Option.map_eq_some_iff] at hj
    obtain ⟨d0, hd0, rfl⟩ := hj
    have hc' : w'.cell? (plusOff (plusOff ad off) j) = (putAt c (ad.off + (off + k) + 0) vs)[ad.off + off + j]? := by rw [plusOff_plus]; rw [Nat.add_assoc ad.off off j]; exact cell_of_obj (o := ad.off + (off + j)) r2
    rw [hc', putAt_get _ _ _ _ (by omega)]
    rcases Nat.lt_or_ge j k with hjk | hjk
    · rw [List.getElem?_append_left (by omega), List.getElem?_take, if_pos hjk, List.getElem?_drop] at hd0
      obtain ⟨u, hu, hr⟩ := hB.cells.get hB.spot _ d0 hd0
      refine ⟨u, ?_, hrep _ _ hr⟩
      rw [if_neg (by omega), ← hu, Nat.add_assoc]
      exact (cell_of_obj (o := ad.off + (off + j)) hobj).symm
    · rw [List.getElem?_append_right (by omega), hkl] at hd0
      obtain ⟨u, hu, hr⟩ := hd.get _ _ hd0
      have hjl := (List.getElem?_eq_some_iff.1 hd0).1
      refine ⟨u, ?_, hrep _ _ hr⟩
      rw [if_pos (by omega), ← hu]; congr 1; omega
  · intro i a a2 hi hbk hai ha2
    rw [Env.set_same] at ha2
    cases ha2
    rw [Env.set_other _ _ hi] at hai
    simp only [St.forget, if_neg hi] at hbk
    obtain ⟨b, hbb⟩ := Option.ne_none_iff_exists'.1 hbk
    simp only [Option.map_eq_some_iff] at hbb
    obtain ⟨b0, hb0, _⟩ := hbb
    exact hne i b0 a hi hb0 hai
end
end Go.Dam
