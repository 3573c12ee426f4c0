/- The engine, part XJ: an abstract machine for the program's functions, proved right against the model. No condition. -/
import Derived.Test.YtpbngkempchamaaDamXH
import Derived.WalkKit
import Derived.ProofKit
import Derived.OpenShut
import Derived.ChangeOld
import Derived.Below
import Derived.Carry
import Derived.SizedLaws
import Derived.Deep.SlicePairs
set_option linter.unusedSectionVars false
set_option linter.unusedVariables false
set_option linter.unusedSimpArgs false
namespace Go.Dam
open Go Go.RowKit
set_option linter.unusedSectionVars false
set_option linter.unusedSimpArgs false
set_option linter.unusedVariables false

/-! ### Numbers -/
theorem wrap_u64 (n : Int) : IntKind.wrap .u64 n = n % 18446744073709551616 := by simp [IntKind.wrap, IntKind.signed, IntKind.bits]
theorem wrap_u32 (n : Int) : IntKind.wrap .u32 n = n % 4294967296 := by simp [IntKind.wrap, IntKind.signed, IntKind.bits]
theorem wrap_u16 (n : Int) : IntKind.wrap .u16 n = n % 65536 := by simp [IntKind.wrap, IntKind.signed, IntKind.bits]
theorem wrap_u8 (n : Int) : IntKind.wrap .u8 n = n % 256 := by simp [IntKind.wrap, IntKind.signed, IntKind.bits]
theorem wrap_i64 (n : Int) : IntKind.wrap .i64 n = if n % 18446744073709551616 ≥ 9223372036854775808 then n % 18446744073709551616 - 18446744073709551616 else n % 18446744073709551616 := by simp [IntKind.wrap, IntKind.signed, IntKind.bits]
theorem wrap_i64_of {n : Int} (h1 : -9223372036854775808 ≤ n) (h2 : n < 9223372036854775808) : IntKind.wrap .i64 n = n := by
  rw [wrap_i64]; split <;> omega
theorem wrap_u64_of {n : Int} (h1 : 0 ≤ n) (h2 : n < 18446744073709551616) : IntKind.wrap .u64 n = n := by rw [wrap_u64]; omega
theorem wrap_u32_of {n : Int} (h1 : 0 ≤ n) (h2 : n < 4294967296) : IntKind.wrap .u32 n = n := by rw [wrap_u32]; omega

theorem opI_add (k : IntKind) (a b : Int) : opI .add k a b = k.wrap (a + b) := rfl
theorem opI_sub (k : IntKind) (a b : Int) : opI .sub k a b = k.wrap (a - b) := rfl
theorem opI_mul (k : IntKind) (a b : Int) : opI .mul k a b = k.wrap (a * b) := rfl
theorem opI_quo (k : IntKind) {a b : Int} (ha : 0 ≤ a) : opI .quo k a b = k.wrap (a / b) := by show k.wrap (a.tdiv b) = _; rw [Int.tdiv_eq_ediv_of_nonneg ha]
theorem opI_rem (k : IntKind) {a b : Int} (ha : 0 ≤ a) : opI .rem k a b = a % b := by show a.tmod b = _; rw [Int.tmod_eq_emod_of_nonneg ha]
theorem opI_shr64 {a s : Int} (h0 : 0 ≤ s) (h1 : s ≤ 64) : opI .shr .u64 a s = a / 2 ^ s.toNat := by
  show a.fdiv (2 ^ min s.toNat 64) = _
  rw [show min s.toNat 64 = s.toNat by omega, Int.fdiv_eq_ediv_of_nonneg _ (Int.le_of_lt (Int.pow_pos (by decide)))]
theorem opI_shl64 {a s : Int} (h0 : 0 ≤ s) (h1 : s ≤ 64) : opI .shl .u64 a s = IntKind.wrap .u64 (a * 2 ^ s.toNat) := by
  show IntKind.wrap .u64 (a * 2 ^ min s.toNat 64) = _
  rw [show min s.toNat 64 = s.toNat by omega]
theorem opI_and_mask64 {x : Int} (n : Nat) (hn : n ≤ 64) (h0 : 0 ≤ x) (h1 : x < 18446744073709551616) : opI .and .u64 x (2 ^ n - 1) = x % 2 ^ n := by
  obtain ⟨m, rfl⟩ := Int.eq_ofNat_of_zero_le h0
  have hm : m < 18446744073709551616 := by omega
  have hp : (2 : Int) ^ n - 1 = ((2 ^ n - 1 : Nat) : Int) := by
    have : 1 ≤ 2 ^ n := Nat.one_le_two_pow
    rw [Int.natCast_sub this]; simp
  have h64 : 2 ^ n ≤ 2 ^ 64 := Nat.pow_le_pow_right (by decide) hn
  have hpos : 0 < 2 ^ n := Nat.two_pow_pos n
  show IntKind.wrap .u64 ((BitVec.ofInt 64 (m : Int) &&& BitVec.ofInt 64 (2 ^ n - 1)).toNat : Int) = _
  rw [hp, wrap_u64, BitVec.ofInt_natCast, BitVec.ofInt_natCast, BitVec.toNat_and, BitVec.toNat_ofNat, BitVec.toNat_ofNat]
  rw [Nat.mod_eq_of_lt (show m < 2 ^ 64 from hm), Nat.mod_eq_of_lt (show 2 ^ n - 1 < 2 ^ 64 by omega), Nat.and_two_pow_sub_one_eq_mod]
  have h2 : m % 2 ^ n ≤ m := Nat.mod_le _ _
  have h3 : ((m % 2 ^ n : Nat) : Int) % 18446744073709551616 = ((m % 2 ^ n : Nat) : Int) := by omega
  rw [h3]; simp

@[simp] theorem lss_t {a b : Int} : (cmpI .lss a b = true) ↔ a < b := by simp [cmpI]
@[simp] theorem leq_t {a b : Int} : (cmpI .leq a b = true) ↔ a ≤ b := by simp [cmpI]
@[simp] theorem gtr_t {a b : Int} : (cmpI .gtr a b = true) ↔ b < a := by simp [cmpI]
@[simp] theorem geq_t {a b : Int} : (cmpI .geq a b = true) ↔ b ≤ a := by simp [cmpI]
@[simp] theorem eql_t {a b : Int} : (cmpI .eql a b = true) ↔ a = b := by simp [cmpI]
@[simp] theorem neq_t {a b : Int} : (cmpI .neq a b = true) ↔ a ≠ b := by simp [cmpI]
@[simp] theorem lss_f {a b : Int} : (cmpI .lss a b = false) ↔ b ≤ a := by simp [cmpI]
@[simp] theorem leq_f {a b : Int} : (cmpI .leq a b = false) ↔ b < a := by simp [cmpI]
@[simp] theorem gtr_f {a b : Int} : (cmpI .gtr a b = false) ↔ a ≤ b := by simp [cmpI]
@[simp] theorem geq_f {a b : Int} : (cmpI .geq a b = false) ↔ a < b := by simp [cmpI]
@[simp] theorem eql_f {a b : Int} : (cmpI .eql a b = false) ↔ a ≠ b := by simp [cmpI]
@[simp] theorem neq_f {a b : Int} : (cmpI .neq a b = false) ↔ a = b := by simp [cmpI]

/-! ### Contracts, put together -/
variable [Glo]
def noCon : Contracts := fun _ => none
theorem noCon_ok {P : Program} : ConOK P noCon := ⟨fun f g h => (by cases h), fun f g h => (by cases h)⟩
/-- One contract more. -/
def addCon (f : FuncId) (c : Con) (X : Contracts) : Contracts := fun k => bif Nat.beq k f then some c else X k
theorem addCall_ok {P : Program} {X : Contracts} {f : FuncId} {g : List D → Option (D × List Prop)} (hg : ∀ args res l, g args = some (res, l) → AllP l → CallsD P f args res) (hX : ConOK P X) : ConOK P (addCon f (.call g) X) := by
  refine ⟨fun k g' h => ?_, fun k g' h => ?_⟩
  · unfold addCon at h
    cases hb : Nat.beq k f with
    | true => rw [hb] at h; have := Nat.eq_of_beq_eq_true hb; subst this; cases h; exact hg
    | false => rw [hb] at h; exact hX.call k g' h
  · unfold addCon at h
    cases hb : Nat.beq k f with
    | true => rw [hb] at h; cases h
    | false => rw [hb] at h; exact hX.ext k g' h
theorem addExt_ok {P : Program} {X : Contracts} {f : FuncId} {g : List Value → Option (Value × List Prop)} (hg : ∀ vs u l, g vs = some (u, l) → AllP l → pureRun P (callFunc f vs.toArray) = some (.value u)) (hX : ConOK P X) : ConOK P (addCon f (.ext g) X) := by
  refine ⟨fun k g' h => ?_, fun k g' h => ?_⟩
  · unfold addCon at h
    cases hb : Nat.beq k f with
    | true => rw [hb] at h; cases h
    | false => rw [hb] at h; exact hX.call k g' h
  · unfold addCon at h
    cases hb : Nat.beq k f with
    | true => rw [hb] at h; have := Nat.eq_of_beq_eq_true hb; subst this; cases h; exact hg
    | false => rw [hb] at h; exact hX.ext k g' h

end Go.Dam

namespace Go.Dam
set_option linter.unusedSectionVars false
set_option linter.unusedSimpArgs false
open Go Go.RowKit Go.ChangeShapes Go.WideShapes
section
variable {H : Type} {enc : TypeId × Value → H} {P : Program} {w : World} {spare : Nat → Bool}

/-! ### What comes in, laid open -/

theorem field_int {t : TypeId} {k : IntKind} {n : Nat} {cs : List Value} {x : Option (DataW H × List MemPlace)} (hu : P.underlying t = some (.int k)) (hc : P.cellsOf t = 1) {o : Nat} (ho : o < cs.length)
    (h : DataW.trod enc P w 0 spare true n t ((cs.drop o).take (P.cellsOf t)) = x) (hx : x.isSome = true) : ∃ a, cs[o]? = some (.int k a) ∧ (Lit.int k a).wf = true := by
  obtain ⟨y, rfl⟩ := Option.isSome_iff_exists.1 hx
  obtain ⟨a, h1, _, h2⟩ := DataW.trod_int hu h
  refine ⟨a, ?_, h2⟩
  rw [hc] at h1
  have := congrArg (·[0]?) h1
  simpa [List.getElem?_take, List.getElem?_drop] using this

/-- A value of three numbers. -/
theorem open_three {t : TypeId} {f0 f1 f2 : Field} {k0 k1 k2 : IntKind} {v : Value} {d : DataW H} {ps : List MemPlace} {r : Reach} {b0 : Nat} (ht : P.underlying t = some (.struct #[f0, f1, f2])) (hs : P.cellsOf t = 3)
    (o0 : f0.offset = 0) (o1 : f1.offset = 1) (o2 : f2.offset = 2) (u0 : P.underlying f0.type = some (.int k0)) (u1 : P.underlying f1.type = some (.int k1)) (u2 : P.underlying f2.type = some (.int k2))
    (c0 : P.cellsOf f0.type = 1) (c1 : P.cellsOf f1.type = 1) (c2 : P.cellsOf f2.type = 1) (hval : Value.okWide P w r b0 t v) (h : DataW.Trod enc P w 0 spare true t v d ps) :
    ∃ a b c, v = .agg #[.int k0 a, .int k1 b, .int k2 c] ∧ (Lit.int k0 a).wf = true ∧ (Lit.int k1 b).wf = true ∧ (Lit.int k2 c).wf = true := by
  simp only [Value.okWide, ht] at hval
  obtain ⟨cs, rfl, hsz, _⟩ := hval
  obtain ⟨fuel, hf⟩ := h
  obtain ⟨xs, n, rfl, _, hl, hlen, hx⟩ := DataW.trod_struct ht hf
  have hcl : ∀ i, i < 3 → (xs[i]?).isSome = true := fun i hi => by
    rw [List.getElem?_eq_getElem (by rw [hlen]; exact hi)]; rfl
  simp only [Value.cells] at hl hx
  have hl3 : cs.toList.length = 3 := by rw [hl, hs]
  obtain ⟨a, a1, a2⟩ := field_int u0 c0 (by omega) (hx 0 f0 rfl) (hcl 0 (by decide))
  obtain ⟨b, b1, b2⟩ := field_int u1 c1 (by omega) (hx 1 f1 rfl) (hcl 1 (by decide))
  obtain ⟨c, c1', c2'⟩ := field_int u2 c2 (by omega) (hx 2 f2 rfl) (hcl 2 (by decide))
  rw [o0] at a1; rw [o1] at b1; rw [o2] at c1'
  refine ⟨a, b, c, ?_, a2, b2, c2'⟩
  obtain ⟨l⟩ := cs
  match l, hl3 with
  | [x, y, z], _ =>
    simp at a1 b1 c1'
    rw [a1, b1, c1']

/-- Rows of pairs of numbers. -/
def IsPairs (k0 k1 : IntKind) (w : World) (v : Value) (xs ys : List Int) : Prop :=
  xs.length = ys.length ∧ (∀ i, i < xs.length → (Lit.int k0 (xs.getD i 0)).wf = true) ∧ (∀ i, i < xs.length → (Lit.int k1 (ys.getD i 0)).wf = true) ∧
    ∃ o cp, v = .slice o xs.length cp ∧ xs.length ≤ cp ∧ cp ≤ maxLen ∧ (xs.length ≠ 0 → ∃ ad, o = some ad ∧ ad.spot = none ∧ ad.block < w.heap.size) ∧
      ∀ i, i < xs.length → w.cell? (plusOff (o.getD default) (i * 2)) = some (.int k0 (xs.getD i 0)) ∧ w.cell? (plusOff (o.getD default) (i * 2 + 1)) = some (.int k1 (ys.getD i 0))
theorem add_plus (a : Addr) (n : Nat) (h : a.spot = none) : a.add n = plusOff a n := by
  unfold Addr.add plusOff
  split
  · next e => subst e; cases a; simp at h; simp [h]
  · rfl
theorem open_pairs {t e : TypeId} {f0 f1 : Field} {k0 k1 : IntKind} {v : Value} {d : DataW H} {ps : List MemPlace} {r : Reach} {b0 : Nat} (ht : P.underlying t = some (.slice e)) (he : P.underlying e = some (.struct #[f0, f1])) (ce : P.cellsOf e = 2)
    (o0 : f0.offset = 0) (o1 : f1.offset = 1) (c0 : P.cellsOf f0.type = 1) (c1 : P.cellsOf f1.type = 1) (u0 : P.underlying f0.type = some (.int k0)) (u1 : P.underlying f1.type = some (.int k1))
    (hval : Value.okWide P w r b0 t v) (h : DataW.Trod enc P w 0 spare true t v d ps) : ∃ xs ys, IsPairs k0 k1 w v xs ys := by
  obtain ⟨a0, l0, cp0, rfl⟩ := okWide_slice ht hval
  obtain ⟨fuel, hf⟩ := h
  rcases Go.Deep.open_slice_pairs ht he ce o0 o1 c0 c1 hf with ⟨hcs, _⟩ | ⟨a, len, cap, m, n, V0, V1, D0, D1, P0, P1, hcs, _, hl, hm, hmm, _, hx⟩
  · simp [Value.cells] at hcs
    obtain ⟨rfl, rfl, rfl⟩ := hcs
    exact ⟨[], [], rfl, fun i hi => by simp at hi, fun i hi => by simp at hi, none, 0, rfl, by simp, by simp, fun hi => absurd rfl hi, fun i hi => by simp at hi⟩
  · simp [Value.cells] at hcs
    obtain ⟨rfl, rfl, rfl⟩ := hcs
    have hlm : l0 ≤ m := by rw [hmm]; split <;> omega
    have each : ∀ i, i < l0 → ∃ q : Int × Int, w.cell? (a.add (i * 2)) = some (.int k0 q.1) ∧ w.cell? (a.add (i * 2 + 1)) = some (.int k1 q.2) ∧ (Lit.int k0 q.1).wf = true ∧ (Lit.int k1 q.2).wf = true := fun i hi => by
      obtain ⟨h1, h2, h3, h4⟩ := hx i (by omega)
      obtain ⟨x, e1, _, w1⟩ := DataW.trod_int u0 h3
      obtain ⟨y, e2, _, w2⟩ := DataW.trod_int u1 h4
      simp only [List.cons.injEq, and_true] at e1 e2
      rw [e1] at h1; rw [e2] at h2
      exact ⟨(x, y), h1, h2, w1, w2⟩
    have hch : ∃ f : Nat → Int × Int, ∀ i, i < l0 → w.cell? (a.add (i * 2)) = some (.int k0 (f i).1) ∧ w.cell? (a.add (i * 2 + 1)) = some (.int k1 (f i).2) ∧ (Lit.int k0 (f i).1).wf = true ∧ (Lit.int k1 (f i).2).wf = true := by
      refine ⟨fun i => if h : i < l0 then Classical.choose (each i h) else (0, 0), fun i hi => ?_⟩
      simp only [dif_pos hi]
      exact Classical.choose_spec (each i hi)
    obtain ⟨f, hfx⟩ := hch
    have spot : l0 ≠ 0 → a.spot = none ∧ a.block < w.heap.size := fun h0 => by
      have := (hfx 0 (by omega)).1
      rw [Nat.zero_mul, show a.add 0 = a from rfl] at this
      unfold World.cell? at this
      split at this
      next c _ _ hb =>
        refine ⟨?_, ?_⟩
        · cases hs : a.spot with
          | none => rfl
          | some x => rw [hs] at this; simp at this
        · have : a.block < w.heap.size := by
            rcases Nat.lt_or_ge a.block w.heap.size with h | h
            · exact h
            · rw [Array.getElem?_eq_none h] at hb; cases hb
          exact this
      · cases this
    have gx : ∀ i, i < l0 → ((List.range l0).map fun i => (f i).1).getD i 0 = (f i).1 := fun i hi => by
      simp [List.getD_eq_getElem?_getD, List.getElem?_range hi]
    have gy : ∀ i, i < l0 → ((List.range l0).map fun i => (f i).2).getD i 0 = (f i).2 := fun i hi => by
      simp [List.getD_eq_getElem?_getD, List.getElem?_range hi]
    have el : ((List.range l0).map fun i => (f i).1).length = l0 := by simp
    refine ⟨(List.range l0).map fun i => (f i).1, (List.range l0).map fun i => (f i).2, by simp, ?_, ?_, some a, cp0, by rw [el], by rw [el]; exact hl, hm, ?_, ?_⟩
    · rw [el]; intro i hi; rw [gx i hi]; exact (hfx i hi).2.2.1
    · rw [el]; intro i hi; rw [gy i hi]; exact (hfx i hi).2.2.2
    · rw [el]; intro h0; exact ⟨a, rfl, (spot h0).1, (spot h0).2⟩
    · rw [el]; intro i hi
      have hs := (spot (by omega)).1
      rw [gx i hi, gy i hi]
      simp only [Option.getD_some]
      rw [← add_plus a _ hs, ← add_plus a _ hs]
      exact ⟨(hfx i hi).1, (hfx i hi).2.1⟩
end
variable [Glo]
theorem IsPairs.rep {k0 k1 : IntKind} {w : World} {v : Value} {xs ys : List Int} (h : IsPairs k0 k1 w v xs ys) : RepS w (fun k => k < w.heap.size) (.rc [.ints k0 xs, .ints k1 ys]) v := by
  obtain ⟨_, _, _, o, cp, rfl, hl, _, h0, hc⟩ := h
  simp only [RepS]
  refine ⟨o, cp, rfl, hl, h0, fun i j c hi hj => ?_⟩
  have := hc i hi
  match j, hj with
  | 0, hj => simp at hj; subst hj; exact ⟨_, this.1, rfl⟩
  | 1, hj => simp at hj; subst hj; exact ⟨_, this.2, rfl⟩
theorem wf_u64 {n : Int} (h : (Lit.int .u64 n).wf = true) : 0 ≤ n ∧ n < 18446744073709551616 := by
  simp [Lit.wf, IntKind.has, IntKind.min, IntKind.max, IntKind.signed, IntKind.bits] at h; omega
theorem wf_i64 {n : Int} (h : (Lit.int .i64 n).wf = true) : -9223372036854775808 ≤ n ∧ n < 9223372036854775808 := by
  simp [Lit.wf, IntKind.has, IntKind.min, IntKind.max, IntKind.signed, IntKind.bits] at h; omega
end Go.Dam
