/- The engine, part XI: an abstract machine for the program's functions, proved right against the model. No condition. -/
import Derived.Test.YtkbdboclckpmgaaDamXH
set_option linter.unusedSectionVars false
set_option linter.unusedVariables false
set_option linter.unusedSimpArgs false
namespace Go.Dam
open Go Go.RowKit
set_option linter.unusedSectionVars false
set_option linter.unusedSimpArgs false
set_option linter.unusedVariables false

/-! ### Numbers -/
theorem wrap_u64 (n : Int) : IntKind.wrap .u64 n = n % 18446744073709551616 := by simp [IntKind.wrap, IntKind.signed, IntKind.bits]
theorem wrap_u32 (n : Int) : IntKind.wrap .u32 n = n % 4294967296 := by simp [IntKind.wrap, IntKind.signed, IntKind.bits]
theorem wrap_u16 (n : Int) : IntKind.wrap .u16 n = n % 65536 := by simp [IntKind.wrap, IntKind.signed, IntKind.bits]
theorem wrap_u8 (n : Int) : IntKind.wrap .u8 n = n % 256 := by simp [IntKind.wrap, IntKind.signed, IntKind.bits]
theorem wrap_i64 (n : Int) : IntKind.wrap .i64 n = if n % 18446744073709551616 ≥ 9223372036854775808 then n % 18446744073709551616 - 18446744073709551616 else n % 18446744073709551616 := by simp [IntKind.wrap, IntKind.signed, IntKind.bits]
theorem wrap_i64_of {n : Int} (h1 : -9223372036854775808 ≤ n) (h2 : n < 9223372036854775808) : IntKind.wrap .i64 n = n := by
  rw [wrap_i64]; split <;> omega
theorem wrap_u64_of {n : Int} (h1 : 0 ≤ n) (h2 : n < 18446744073709551616) : IntKind.wrap .u64 n = n := by rw [wrap_u64]; omega
theorem wrap_u32_of {n : Int} (h1 : 0 ≤ n) (h2 : n < 4294967296) : IntKind.wrap .u32 n = n := by rw [wrap_u32]; omega

theorem opI_add (k : IntKind) (a b : Int) : opI .add k a b = k.wrap (a + b) := rfl
theorem opI_sub (k : IntKind) (a b : Int) : opI .sub k a b = k.wrap (a - b) := rfl
theorem opI_mul (k : IntKind) (a b : Int) : opI .mul k a b = k.wrap (a * b) := rfl
theorem opI_quo (k : IntKind) {a b : Int} (ha : 0 ≤ a) : opI .quo k a b = k.wrap (a / b) := by show k.wrap (a.tdiv b) = _; rw [Int.tdiv_eq_ediv_of_nonneg ha]
theorem opI_rem (k : IntKind) {a b : Int} (ha : 0 ≤ a) : opI .rem k a b = a % b := by show a.tmod b = _; rw [Int.tmod_eq_emod_of_nonneg ha]
theorem opI_shr64 {a s : Int} (h0 : 0 ≤ s) (h1 : s ≤ 64) : opI .shr .u64 a s = a / 2 ^ s.toNat := by
  show a.fdiv (2 ^ min s.toNat 64) = _
  rw [show min s.toNat 64 = s.toNat by omega, Int.fdiv_eq_ediv_of_nonneg _ (Int.le_of_lt (Int.pow_pos (by decide)))]
theorem opI_shl64 {a s : Int} (h0 : 0 ≤ s) (h1 : s ≤ 64) : opI .shl .u64 a s = IntKind.wrap .u64 (a * 2 ^ s.toNat) := by
  show IntKind.wrap .u64 (a * 2 ^ min s.toNat 64) = _
  rw [show min s.toNat 64 = s.toNat by omega]
theorem opI_and_mask64 {x : Int} (n : Nat) (hn : n ≤ 64) (h0 : 0 ≤ x) (h1 : x < 18446744073709551616) : opI .and .u64 x (2 ^ n - 1) = x % 2 ^ n := by
  obtain ⟨m, rfl⟩ := Int.eq_ofNat_of_zero_le h0
  have hm : m < 18446744073709551616 := by omega
  have hp : (2 : Int) ^ n - 1 = ((2 ^ n - 1 : Nat) : Int) := by
    have : 1 ≤ 2 ^ n := Nat.one_le_two_pow
    rw [Int.natCast_sub this]; simp
  have h64 : 2 ^ n ≤ 2 ^ 64 := Nat.pow_le_pow_right (by decide) hn
  have hpos : 0 < 2 ^ n := Nat.two_pow_pos n
  show IntKind.wrap .u64 ((BitVec.ofInt 64 (m : Int) &&& BitVec.ofInt 64 (2 ^ n - 1)).toNat : Int) = _
  rw [hp, wrap_u64, BitVec.ofInt_natCast, BitVec.ofInt_natCast, BitVec.toNat_and, BitVec.toNat_ofNat, BitVec.toNat_ofNat]
  rw [Nat.mod_eq_of_lt (show m < 2 ^ 64 from hm), Nat.mod_eq_of_lt (show 2 ^ n - 1 < 2 ^ 64 by omega), Nat.and_two_pow_sub_one_eq_mod]
  have h2 : m % 2 ^ n ≤ m := Nat.mod_le _ _
  have h3 : ((m % 2 ^ n : Nat) : Int) % 18446744073709551616 = ((m % 2 ^ n : Nat) : Int) := by omega
  rw [h3]; simp

@[simp] theorem lss_t {a b : Int} : (cmpI .lss a b = true) ↔ a < b := by simp [cmpI]
@[simp] theorem leq_t {a b : Int} : (cmpI .leq a b = true) ↔ a ≤ b := by simp [cmpI]
@[simp] theorem gtr_t {a b : Int} : (cmpI .gtr a b = true) ↔ b < a := by simp [cmpI]
@[simp] theorem geq_t {a b : Int} : (cmpI .geq a b = true) ↔ b ≤ a := by simp [cmpI]
@[simp] theorem eql_t {a b : Int} : (cmpI .eql a b = true) ↔ a = b := by simp [cmpI]
@[simp] theorem neq_t {a b : Int} : (cmpI .neq a b = true) ↔ a ≠ b := by simp [cmpI]
@[simp] theorem lss_f {a b : Int} : (cmpI .lss a b = false) ↔ b ≤ a := by simp [cmpI]
@[simp] theorem leq_f {a b : Int} : (cmpI .leq a b = false) ↔ b < a := by simp [cmpI]
@[simp] theorem gtr_f {a b : Int} : (cmpI .gtr a b = false) ↔ a ≤ b := by simp [cmpI]
@[simp] theorem geq_f {a b : Int} : (cmpI .geq a b = false) ↔ a < b := by simp [cmpI]
@[simp] theorem eql_f {a b : Int} : (cmpI .eql a b = false) ↔ a ≠ b := by simp [cmpI]
@[simp] theorem neq_f {a b : Int} : (cmpI .neq a b = false) ↔ a = b := by simp [cmpI]

/-! ### Contracts, put together -/
variable [Glo]
def noCon : Contracts := fun _ => none
theorem noCon_ok {P : Program} : ConOK P noCon := ⟨fun f g h => (by cases h), fun f g h => (by cases h)⟩
/-- One contract more. -/
def addCon (f : FuncId) (c : Con) (X : Contracts) : Contracts := fun k => bif Nat.beq k f then some c else X k
theorem addCall_ok {P : Program} {X : Contracts} {f : FuncId} {g : List D → Option (D × List Prop)} (hg : ∀ args res l, g args = some (res, l) → AllP l → CallsD P f args res) (hX : ConOK P X) : ConOK P (addCon f (.call g) X) := by
  refine ⟨fun k g' h => ?_, fun k g' h => ?_⟩
  · unfold addCon at h
    cases hb : Nat.beq k f with
    | true => rw [hb] at h; have := Nat.eq_of_beq_eq_true hb; subst this; cases h; exact hg
    | false => rw [hb] at h; exact hX.call k g' h
  · unfold addCon at h
    cases hb : Nat.beq k f with
    | true => rw [hb] at h; cases h
    | false => rw [hb] at h; exact hX.ext k g' h
theorem addExt_ok {P : Program} {X : Contracts} {f : FuncId} {g : List Value → Option (Value × List Prop)} (hg : ∀ vs u l, g vs = some (u, l) → AllP l → pureRun P (callFunc f vs.toArray) = some (.value u)) (hX : ConOK P X) : ConOK P (addCon f (.ext g) X) := by
  refine ⟨fun k g' h => ?_, fun k g' h => ?_⟩
  · unfold addCon at h
    cases hb : Nat.beq k f with
    | true => rw [hb] at h; cases h
    | false => rw [hb] at h; exact hX.call k g' h
  · unfold addCon at h
    cases hb : Nat.beq k f with
    | true => rw [hb] at h; have := Nat.eq_of_beq_eq_true hb; subst this; cases h; exact hg
    | false => rw [hb] at h; exact hX.ext k g' h

end Go.Dam
