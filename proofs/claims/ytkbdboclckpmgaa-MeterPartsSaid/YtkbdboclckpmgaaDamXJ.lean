/- The engine, part XJ: an abstract machine for the program's functions, proved right against the model. No condition. -/
import Derived.Test.YtkbdboclckpmgaaDamXI
import Derived.WalkKit
import Derived.ProofKit
import Derived.OpenShut
import Derived.ChangeOld
import Derived.Below
import Derived.Carry
import Derived.SizedLaws
import Derived.Deep.SlicePairs
set_option linter.unusedSectionVars false
set_option linter.unusedVariables false
set_option linter.unusedSimpArgs false
namespace Go.Dam
set_option linter.unusedSectionVars false
set_option linter.unusedSimpArgs false
open Go Go.RowKit Go.ChangeShapes Go.WideShapes
section
variable {H : Type} {enc : TypeId × Value → H} {P : Program} {w : World} {spare : Nat → Bool}

/-! ### What comes in, laid open -/

theorem field_int {t : TypeId} {k : IntKind} {n : Nat} {cs : List Value} {x : Option (DataW H × List MemPlace)} (hu : P.underlying t = some (.int k)) (hc : P.cellsOf t = 1) {o : Nat} (ho : o < cs.length)
    (h : DataW.trod enc P w 0 spare true n t ((cs.drop o).take (P.cellsOf t)) = x) (hx : x.isSome = true) : ∃ a, cs[o]? = some (.int k a) ∧ (Lit.int k a).wf = true := by
  obtain ⟨y, rfl⟩ := Option.isSome_iff_exists.1 hx
  obtain ⟨a, h1, _, h2⟩ := DataW.trod_int hu h
  refine ⟨a, ?_, h2⟩
  rw [hc] at h1
  have := congrArg (·[0]?) h1
  simpa [List.getElem?_take, List.getElem?_drop] using this

/-- A value of three numbers. -/
theorem open_three {t : TypeId} {f0 f1 f2 : Field} {k0 k1 k2 : IntKind} {v : Value} {d : DataW H} {ps : List MemPlace} {r : Reach} {b0 : Nat} (ht : P.underlying t = some (.struct #[f0, f1, f2])) (hs : P.cellsOf t = 3)
    (o0 : f0.offset = 0) (o1 : f1.offset = 1) (o2 : f2.offset = 2) (u0 : P.underlying f0.type = some (.int k0)) (u1 : P.underlying f1.type = some (.int k1)) (u2 : P.underlying f2.type = some (.int k2))
    (c0 : P.cellsOf f0.type = 1) (c1 : P.cellsOf f1.type = 1) (c2 : P.cellsOf f2.type = 1) (hval : Value.okWide P w r b0 t v) (h : DataW.Trod enc P w 0 spare true t v d ps) :
    ∃ a b c, v = .agg #[.int k0 a, .int k1 b, .int k2 c] ∧ (Lit.int k0 a).wf = true ∧ (Lit.int k1 b).wf = true ∧ (Lit.int k2 c).wf = true := by
  simp only [Value.okWide, ht] at hval
  obtain ⟨cs, rfl, hsz, _⟩ := hval
  obtain ⟨fuel, hf⟩ := h
  obtain ⟨xs, n, rfl, _, hl, hlen, hx⟩ := DataW.trod_struct ht hf
  have hcl : ∀ i, i < 3 → (xs[i]?).isSome = true := fun i hi => by
    rw [List.getElem?_eq_getElem (by rw [hlen]; exact hi)]; rfl
  simp only [Value.cells] at hl hx
  have hl3 : cs.toList.length = 3 := by rw [hl, hs]
  obtain ⟨a, a1, a2⟩ := field_int u0 c0 (by omega) (hx 0 f0 rfl) (hcl 0 (by decide))
  obtain ⟨b, b1, b2⟩ := field_int u1 c1 (by omega) (hx 1 f1 rfl) (hcl 1 (by decide))
  obtain ⟨c, c1', c2'⟩ := field_int u2 c2 (by omega) (hx 2 f2 rfl) (hcl 2 (by decide))
  rw [o0] at a1; rw [o1] at b1; rw [o2] at c1'
  refine ⟨a, b, c, ?_, a2, b2, c2'⟩
  obtain ⟨l⟩ := cs
  match l, hl3 with
  | [x, y, z], _ =>
    simp at a1 b1 c1'
    rw [a1, b1, c1']

/-- Rows of pairs of numbers. -/
def IsPairs (k0 k1 : IntKind) (w : World) (v : Value) (xs ys : List Int) : Prop :=
  xs.length = ys.length ∧ (∀ i, i < xs.length → (Lit.int k0 (xs.getD i 0)).wf = true) ∧ (∀ i, i < xs.length → (Lit.int k1 (ys.getD i 0)).wf = true) ∧
    ∃ o cp, v = .slice o xs.length cp ∧ xs.length ≤ cp ∧ cp ≤ maxLen ∧ (xs.length ≠ 0 → ∃ ad, o = some ad ∧ ad.spot = none ∧ ad.block < w.heap.size) ∧
      ∀ i, i < xs.length → w.cell? (plusOff (o.getD default) (i * 2)) = some (.int k0 (xs.getD i 0)) ∧ w.cell? (plusOff (o.getD default) (i * 2 + 1)) = some (.int k1 (ys.getD i 0))
theorem add_plus (a : Addr) (n : Nat) (h : a.spot = none) : a.add n = plusOff a n := by
  unfold Addr.add plusOff
  split
  · next e => subst e; cases a; simp at h; simp [h]
  · rfl
theorem open_pairs {t e : TypeId} {f0 f1 : Field} {k0 k1 : IntKind} {v : Value} {d : DataW H} {ps : List MemPlace} {r : Reach} {b0 : Nat} (ht : P.underlying t = some (.slice e)) (he : P.underlying e = some (.struct #[f0, f1])) (ce : P.cellsOf e = 2)
    (o0 : f0.offset = 0) (o1 : f1.offset = 1) (c0 : P.cellsOf f0.type = 1) (c1 : P.cellsOf f1.type = 1) (u0 : P.underlying f0.type = some (.int k0)) (u1 : P.underlying f1.type = some (.int k1))
    (hval : Value.okWide P w r b0 t v) (h : DataW.Trod enc P w 0 spare true t v d ps) : ∃ xs ys, IsPairs k0 k1 w v xs ys := by
  obtain ⟨a0, l0, cp0, rfl⟩ := okWide_slice ht hval
  obtain ⟨fuel, hf⟩ := h
  rcases Go.Deep.open_slice_pairs ht he ce o0 o1 c0 c1 hf with ⟨hcs, _⟩ | ⟨a, len, cap, m, n, V0, V1, D0, D1, P0, P1, hcs, _, hl, hm, hmm, _, hx⟩
  · simp [Value.cells] at hcs
    obtain ⟨rfl, rfl, rfl⟩ := hcs
    exact ⟨[], [], rfl, fun i hi => by simp at hi, fun i hi => by simp at hi, none, 0, rfl, by simp, by simp, fun hi => absurd rfl hi, fun i hi => by simp at hi⟩
  · simp [Value.cells] at hcs
    obtain ⟨rfl, rfl, rfl⟩ := hcs
    have hlm : l0 ≤ m := by rw [hmm]; split <;> omega
    have each : ∀ i, i < l0 → ∃ q : Int × Int, w.cell? (a.add (i * 2)) = some (.int k0 q.1) ∧ w.cell? (a.add (i * 2 + 1)) = some (.int k1 q.2) ∧ (Lit.int k0 q.1).wf = true ∧ (Lit.int k1 q.2).wf = true := fun i hi => by
      obtain ⟨h1, h2, h3, h4⟩ := hx i (by omega)
      obtain ⟨x, e1, _, w1⟩ := DataW.trod_int u0 h3
      obtain ⟨y, e2, _, w2⟩ := DataW.trod_int u1 h4
      simp only [List.cons.injEq, and_true] at e1 e2
      rw [e1] at h1; rw [e2] at h2
      exact ⟨(x, y), h1, h2, w1, w2⟩
    have hch : ∃ f : Nat → Int × Int, ∀ i, i < l0 → w.cell? (a.add (i * 2)) = some (.int k0 (f i).1) ∧ w.cell? (a.add (i * 2 + 1)) = some (.int k1 (f i).2) ∧ (Lit.int k0 (f i).1).wf = true ∧ (Lit.int k1 (f i).2).wf = true := by
      refine ⟨fun i => if h : i < l0 then Classical.choose (each i h) else (0, 0), fun i hi => ?_⟩
      simp only [dif_pos hi]
      exact Classical.choose_spec (each i hi)
    obtain ⟨f, hfx⟩ := hch
    have spot : l0 ≠ 0 → a.spot = none ∧ a.block < w.heap.size := fun h0 => by
      have := (hfx 0 (by omega)).1
      rw [Nat.zero_mul, show a.add 0 = a from rfl] at this
      unfold World.cell? at this
      split at this
      next c _ _ hb =>
        refine ⟨?_, ?_⟩
        · cases hs : a.spot with
          | none => rfl
          | some x => rw [hs] at this; simp at this
        · have : a.block < w.heap.size := by
            rcases Nat.lt_or_ge a.block w.heap.size with h | h
            · exact h
            · rw [Array.getElem?_eq_none h] at hb; cases hb
          exact this
      · cases this
    have gx : ∀ i, i < l0 → ((List.range l0).map fun i => (f i).1).getD i 0 = (f i).1 := fun i hi => by
      simp [List.getD_eq_getElem?_getD, List.getElem?_range hi]
    have gy : ∀ i, i < l0 → ((List.range l0).map fun i => (f i).2).getD i 0 = (f i).2 := fun i hi => by
      simp [List.getD_eq_getElem?_getD, List.getElem?_range hi]
    have el : ((List.range l0).map fun i => (f i).1).length = l0 := by simp
    refine ⟨(List.range l0).map fun i => (f i).1, (List.range l0).map fun i => (f i).2, by simp, ?_, ?_, some a, cp0, by rw [el], by rw [el]; exact hl, hm, ?_, ?_⟩
    · rw [el]; intro i hi; rw [gx i hi]; exact (hfx i hi).2.2.1
    · rw [el]; intro i hi; rw [gy i hi]; exact (hfx i hi).2.2.2
    · rw [el]; intro h0; exact ⟨a, rfl, (spot h0).1, (spot h0).2⟩
    · rw [el]; intro i hi
      have hs := (spot (by omega)).1
      rw [gx i hi, gy i hi]
      simp only [Option.getD_some]
      rw [← add_plus a _ hs, ← add_plus a _ hs]
      exact ⟨(hfx i hi).1, (hfx i hi).2.1⟩
end
variable [Glo]
theorem IsPairs.rep {k0 k1 : IntKind} {w : World} {v : Value} {xs ys : List Int} (h : IsPairs k0 k1 w v xs ys) : RepS w (fun k => k < w.heap.size) (.rc [.ints k0 xs, .ints k1 ys]) v := by
  obtain ⟨_, _, _, o, cp, rfl, hl, _, h0, hc⟩ := h
  simp only [RepS]
  refine ⟨o, cp, rfl, hl, h0, fun i j c hi hj => ?_⟩
  have := hc i hi
  match j, hj with
  | 0, hj => simp at hj; subst hj; exact ⟨_, this.1, rfl⟩
  | 1, hj => simp at hj; subst hj; exact ⟨_, this.2, rfl⟩
theorem wf_u64 {n : Int} (h : (Lit.int .u64 n).wf = true) : 0 ≤ n ∧ n < 18446744073709551616 := by
  simp [Lit.wf, IntKind.has, IntKind.min, IntKind.max, IntKind.signed, IntKind.bits] at h; omega
theorem wf_i64 {n : Int} (h : (Lit.int .i64 n).wf = true) : -9223372036854775808 ≤ n ∧ n < 9223372036854775808 := by
  simp [Lit.wf, IntKind.has, IntKind.min, IntKind.max, IntKind.signed, IntKind.bits] at h; omega
end Go.Dam
