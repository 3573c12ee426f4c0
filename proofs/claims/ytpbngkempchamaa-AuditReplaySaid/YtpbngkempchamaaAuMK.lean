/- The functions of the folder audit and what they reach: what they compute. No condition. -/
import Derived.Test.YtpbngkempchamaaAuMH
set_option linter.unusedSectionVars false
set_option linter.unusedVariables false
set_option linter.unusedSimpArgs false
namespace MeterS
open Go Go.Dam Go.Proofs
set_option maxRecDepth 1000000
set_option linter.unusedVariables false
set_option linter.unusedSectionVars false
set_option linter.unusedSimpArgs false
/-- One more digit of a quotient. -/
theorem digit_step (A A' d g : Int) (hd : 0 < d) (hA : A = 2 * A' + g) (hA' : 0 ≤ A') (g0 : 0 ≤ g) (g1 : g ≤ 1) :
    (d ≤ A' % d * 2 + g → A / d = 2 * (A' / d) + 1 ∧ A % d = A' % d * 2 + g - d) ∧ (A' % d * 2 + g < d → A / d = 2 * (A' / d) ∧ A % d = A' % d * 2 + g) := by
  have h1 := Int.mul_ediv_add_emod A' d
  have h2 := Int.emod_nonneg A' (show d ≠ 0 by omega)
  have h3 := Int.emod_lt_of_pos A' hd
  generalize A' / d = q at *
  generalize A' % d = r at *
  have key : ∀ x y : Int, A = d * x + y → 0 ≤ y → y < d → A / d = x ∧ A % d = y := fun x y e y0 y1 => by
    rw [e, Int.add_comm]
    exact ⟨by rw [Int.add_mul_ediv_left _ _ (by omega), Int.ediv_eq_zero_of_lt y0 y1]; omega, by rw [Int.add_mul_emod_self_left, Int.emod_eq_of_lt y0 y1]⟩
  constructor
  · intro h
    refine key (2 * q + 1) (r * 2 + g - d) ?_ (by omega) (by omega)
    rw [Int.mul_add, Int.mul_one, Int.mul_left_comm]; omega
  · intro h
    refine key (2 * q) (r * 2 + g) ?_ (by omega) (by omega)
    rw [Int.mul_left_comm]; omega
theorem cmpZ_ge_t {x y : Int} : (cmpI .geq (cmpZ x y) 0 = true) ↔ y ≤ x := by
  rw [geq_t]; unfold cmpZ; split
  · omega
  · split <;> omega
theorem cmpZ_ge_f {x y : Int} : (cmpI .geq (cmpZ x y) 0 = false) ↔ x < y := by
  rw [geq_f]; unfold cmpZ; split
  · omega
  · split <;> omega
theorem cmpZ_ls_t {x y : Int} : (cmpI .lss (cmpZ x y) 0 = true) ↔ x < y := by
  rw [lss_t]; unfold cmpZ; split
  · omega
  · split <;> omega
theorem cmpZ_ls_f {x y : Int} : (cmpI .lss (cmpZ x y) 0 = false) ↔ y ≤ x := by
  rw [lss_f]; unfold cmpZ; split
  · omega
  · split <;> omega
theorem and1 {x : Int} (h0 : 0 ≤ x) (h1 : x < 18446744073709551616) : opI .and .u64 x 1 = x % 2 := opI_and_mask64 1 (by decide) h0 h1
theorem shr63 (x : Int) : opI .shr .u64 x 63 = x / 9223372036854775808 := by
  rw [opI_shr64 (by decide) (by decide)]; rfl
variable [Glo]
noncomputable def refDivT (d i h l qh ql rh rl : Int) : Cs := ⟨TT.of [(1, (D.v (Value.int IntKind.u64 d))), (2, (D.ptr 64 0)), (4, (D.ptr 128 0)), (5, (D.v (Value.int IntKind.u64 0))), (6, (D.v (Value.int IntKind.i64 0))), (7, (D.ptr 224 0)), (8, (D.ptr 256 0)), (9, (D.v (Value.int IntKind.i64 i)))], 71, [], [(64, (BX.cells [(D.v (Value.int IntKind.u64 h)), (D.v (Value.int IntKind.u64 l))] false)), (128, (BX.cells [(D.v (Value.int IntKind.u64 0)), (D.v (Value.int IntKind.u64 0))] false)), (224, (BX.cells [(D.v (Value.int IntKind.u64 qh)), (D.v (Value.int IntKind.u64 ql))] false)), (256, (BX.cells [(D.v (Value.int IntKind.u64 rh)), (D.v (Value.int IntKind.u64 rl))] false))], none, 0⟩
theorem refDiv0_r0 (d : Int) (i : Int) (h : Int) (l : Int) (qh : Int) (ql : Int) (rh : Int) (rl : Int) : roundX Try.prog X4 100000 (loopAt Try.prog 71 0) [.d true, .d true, .d true] [[1, 2, 4, 5, 6, 7, 8, 9]] [(64, 64), (128, 128), (224, 224), (256, 256)] (refDivT d i h l qh ql rh rl) = some (Ex.normal, (refDivT (d) (opI BinOp.sub IntKind.i64 i 1) (h) (l) (opI BinOp.add IntKind.u64 (opI BinOp.mul IntKind.u64 qh 2) (opI BinOp.shr IntKind.u64 ql 63)) (opI BinOp.add IntKind.u64 (opI BinOp.mul IntKind.u64 ql 2) 1) ((opI BinOp.add IntKind.u64 (opI BinOp.mul IntKind.u64 rh 2) (opI BinOp.shr IntKind.u64 rl 63) * 18446744073709551616 +
      opI BinOp.add IntKind.u64 (opI BinOp.mul IntKind.u64 rl 2)
        (opI BinOp.and IntKind.u64 (opI BinOp.shr IntKind.u64 h (opI BinOp.sub IntKind.i64 i 64)) 1) -
    (0 + d)) /
  18446744073709551616) ((opI BinOp.add IntKind.u64 (opI BinOp.mul IntKind.u64 rh 2) (opI BinOp.shr IntKind.u64 rl 63) * 18446744073709551616 +
      opI BinOp.add IntKind.u64 (opI BinOp.mul IntKind.u64 rl 2)
        (opI BinOp.and IntKind.u64 (opI BinOp.shr IntKind.u64 h (opI BinOp.sub IntKind.i64 i 64)) 1) -
    (0 + d)) %
  18446744073709551616)), [opI BinOp.add IntKind.u64 (opI BinOp.mul IntKind.u64 rh 2) (opI BinOp.shr IntKind.u64 rl 63) < 18446744073709551616,
  0 ≤
  opI BinOp.add IntKind.u64 (opI BinOp.mul IntKind.u64 rl 2)
    (opI BinOp.and IntKind.u64 (opI BinOp.shr IntKind.u64 h (opI BinOp.sub IntKind.i64 i 64)) 1),
  opI BinOp.add IntKind.u64 (opI BinOp.mul IntKind.u64 rl 2)
    (opI BinOp.and IntKind.u64 (opI BinOp.shr IntKind.u64 h (opI BinOp.sub IntKind.i64 i 64)) 1) <
  18446744073709551616,
  (0 : Int) ≤ (0 : Int),
  0 ≤ d,
  d < 18446744073709551616,
  0 * 18446744073709551616 + d ≤
  opI BinOp.add IntKind.u64 (opI BinOp.mul IntKind.u64 rh 2) (opI BinOp.shr IntKind.u64 rl 63) * 18446744073709551616 +
    opI BinOp.add IntKind.u64 (opI BinOp.mul IntKind.u64 rl 2)
      (opI BinOp.and IntKind.u64 (opI BinOp.shr IntKind.u64 h (opI BinOp.sub IntKind.i64 i 64)) 1),
  cmpI BinOp.geq
    (cmpZ
      (opI BinOp.add IntKind.u64 (opI BinOp.mul IntKind.u64 rh 2) (opI BinOp.shr IntKind.u64 rl 63) *
          18446744073709551616 +
        opI BinOp.add IntKind.u64 (opI BinOp.mul IntKind.u64 rl 2)
          (opI BinOp.and IntKind.u64 (opI BinOp.shr IntKind.u64 h (opI BinOp.sub IntKind.i64 i 64)) 1))
      (0 + d))
    0 =
  true,
  0 ≤
  opI BinOp.add IntKind.u64 (opI BinOp.mul IntKind.u64 rl 2)
    (opI BinOp.and IntKind.u64 (opI BinOp.shr IntKind.u64 h (opI BinOp.sub IntKind.i64 i 64)) 1),
  opI BinOp.add IntKind.u64 (opI BinOp.mul IntKind.u64 rl 2)
    (opI BinOp.and IntKind.u64 (opI BinOp.shr IntKind.u64 h (opI BinOp.sub IntKind.i64 i 64)) 1) <
  18446744073709551616,
  0 ≤ d,
  d < 18446744073709551616,
  true = true,
  true = true,
  decide (0 ≤ opI BinOp.sub IntKind.i64 i 64) = true,
  cmpI BinOp.gtr i 63 = true,
  decide (0 ≤ i) = true,
  cmpI BinOp.geq i 0 = true]) := by kernel_rfl
theorem refDiv0_r1 (d : Int) (i : Int) (h : Int) (l : Int) (qh : Int) (ql : Int) (rh : Int) (rl : Int) : roundX Try.prog X4 100000 (loopAt Try.prog 71 0) [.d true, .d true, .d false] [[1, 2, 4, 5, 6, 7, 8, 9]] [(64, 64), (128, 128), (224, 224), (256, 256)] (refDivT d i h l qh ql rh rl) = some (Ex.normal, (refDivT (d) (opI BinOp.sub IntKind.i64 i 1) (h) (l) (opI BinOp.add IntKind.u64 (opI BinOp.mul IntKind.u64 qh 2) (opI BinOp.shr IntKind.u64 ql 63)) (opI BinOp.mul IntKind.u64 ql 2) (opI BinOp.add IntKind.u64 (opI BinOp.mul IntKind.u64 rh 2) (opI BinOp.shr IntKind.u64 rl 63)) (opI BinOp.add IntKind.u64 (opI BinOp.mul IntKind.u64 rl 2)
  (opI BinOp.and IntKind.u64 (opI BinOp.shr IntKind.u64 h (opI BinOp.sub IntKind.i64 i 64)) 1))), [cmpI BinOp.geq
    (cmpZ
      (opI BinOp.add IntKind.u64 (opI BinOp.mul IntKind.u64 rh 2) (opI BinOp.shr IntKind.u64 rl 63) *
          18446744073709551616 +
        opI BinOp.add IntKind.u64 (opI BinOp.mul IntKind.u64 rl 2)
          (opI BinOp.and IntKind.u64 (opI BinOp.shr IntKind.u64 h (opI BinOp.sub IntKind.i64 i 64)) 1))
      (0 + d))
    0 =
  false,
  0 ≤
  opI BinOp.add IntKind.u64 (opI BinOp.mul IntKind.u64 rl 2)
    (opI BinOp.and IntKind.u64 (opI BinOp.shr IntKind.u64 h (opI BinOp.sub IntKind.i64 i 64)) 1),
  opI BinOp.add IntKind.u64 (opI BinOp.mul IntKind.u64 rl 2)
    (opI BinOp.and IntKind.u64 (opI BinOp.shr IntKind.u64 h (opI BinOp.sub IntKind.i64 i 64)) 1) <
  18446744073709551616,
  0 ≤ d,
  d < 18446744073709551616,
  true = true,
  true = true,
  decide (0 ≤ opI BinOp.sub IntKind.i64 i 64) = true,
  cmpI BinOp.gtr i 63 = true,
  decide (0 ≤ i) = true,
  cmpI BinOp.geq i 0 = true]) := by kernel_rfl
theorem refDiv0_r2 (d : Int) (i : Int) (h : Int) (l : Int) (qh : Int) (ql : Int) (rh : Int) (rl : Int) : roundX Try.prog X4 100000 (loopAt Try.prog 71 0) [.d true, .d false, .d true] [[1, 2, 4, 5, 6, 7, 8, 9]] [(64, 64), (128, 128), (224, 224), (256, 256)] (refDivT d i h l qh ql rh rl) = some (Ex.normal, (refDivT (d) (opI BinOp.sub IntKind.i64 i 1) (h) (l) (opI BinOp.add IntKind.u64 (opI BinOp.mul IntKind.u64 qh 2) (opI BinOp.shr IntKind.u64 ql 63)) (opI BinOp.add IntKind.u64 (opI BinOp.mul IntKind.u64 ql 2) 1) ((opI BinOp.add IntKind.u64 (opI BinOp.mul IntKind.u64 rh 2) (opI BinOp.shr IntKind.u64 rl 63) * 18446744073709551616 +
      opI BinOp.add IntKind.u64 (opI BinOp.mul IntKind.u64 rl 2)
        (opI BinOp.and IntKind.u64 (opI BinOp.shr IntKind.u64 l i) 1) -
    (0 + d)) /
  18446744073709551616) ((opI BinOp.add IntKind.u64 (opI BinOp.mul IntKind.u64 rh 2) (opI BinOp.shr IntKind.u64 rl 63) * 18446744073709551616 +
      opI BinOp.add IntKind.u64 (opI BinOp.mul IntKind.u64 rl 2)
        (opI BinOp.and IntKind.u64 (opI BinOp.shr IntKind.u64 l i) 1) -
    (0 + d)) %
  18446744073709551616)), [opI BinOp.add IntKind.u64 (opI BinOp.mul IntKind.u64 rh 2) (opI BinOp.shr IntKind.u64 rl 63) < 18446744073709551616,
  0 ≤
  opI BinOp.add IntKind.u64 (opI BinOp.mul IntKind.u64 rl 2)
    (opI BinOp.and IntKind.u64 (opI BinOp.shr IntKind.u64 l i) 1),
  opI BinOp.add IntKind.u64 (opI BinOp.mul IntKind.u64 rl 2)
    (opI BinOp.and IntKind.u64 (opI BinOp.shr IntKind.u64 l i) 1) <
  18446744073709551616,
  (0 : Int) ≤ (0 : Int),
  0 ≤ d,
  d < 18446744073709551616,
  0 * 18446744073709551616 + d ≤
  opI BinOp.add IntKind.u64 (opI BinOp.mul IntKind.u64 rh 2) (opI BinOp.shr IntKind.u64 rl 63) * 18446744073709551616 +
    opI BinOp.add IntKind.u64 (opI BinOp.mul IntKind.u64 rl 2)
      (opI BinOp.and IntKind.u64 (opI BinOp.shr IntKind.u64 l i) 1),
  cmpI BinOp.geq
    (cmpZ
      (opI BinOp.add IntKind.u64 (opI BinOp.mul IntKind.u64 rh 2) (opI BinOp.shr IntKind.u64 rl 63) *
          18446744073709551616 +
        opI BinOp.add IntKind.u64 (opI BinOp.mul IntKind.u64 rl 2)
          (opI BinOp.and IntKind.u64 (opI BinOp.shr IntKind.u64 l i) 1))
      (0 + d))
    0 =
  true,
  0 ≤
  opI BinOp.add IntKind.u64 (opI BinOp.mul IntKind.u64 rl 2)
    (opI BinOp.and IntKind.u64 (opI BinOp.shr IntKind.u64 l i) 1),
  opI BinOp.add IntKind.u64 (opI BinOp.mul IntKind.u64 rl 2)
    (opI BinOp.and IntKind.u64 (opI BinOp.shr IntKind.u64 l i) 1) <
  18446744073709551616,
  0 ≤ d,
  d < 18446744073709551616,
  true = true,
  true = true,
  cmpI BinOp.gtr i 63 = false,
  decide (0 ≤ i) = true,
  cmpI BinOp.geq i 0 = true]) := by kernel_rfl
theorem refDiv0_r3 (d : Int) (i : Int) (h : Int) (l : Int) (qh : Int) (ql : Int) (rh : Int) (rl : Int) : roundX Try.prog X4 100000 (loopAt Try.prog 71 0) [.d true, .d false, .d false] [[1, 2, 4, 5, 6, 7, 8, 9]] [(64, 64), (128, 128), (224, 224), (256, 256)] (refDivT d i h l qh ql rh rl) = some (Ex.normal, (refDivT (d) (opI BinOp.sub IntKind.i64 i 1) (h) (l) (opI BinOp.add IntKind.u64 (opI BinOp.mul IntKind.u64 qh 2) (opI BinOp.shr IntKind.u64 ql 63)) (opI BinOp.mul IntKind.u64 ql 2) (opI BinOp.add IntKind.u64 (opI BinOp.mul IntKind.u64 rh 2) (opI BinOp.shr IntKind.u64 rl 63)) (opI BinOp.add IntKind.u64 (opI BinOp.mul IntKind.u64 rl 2) (opI BinOp.and IntKind.u64 (opI BinOp.shr IntKind.u64 l i) 1))), [cmpI BinOp.geq
    (cmpZ
      (opI BinOp.add IntKind.u64 (opI BinOp.mul IntKind.u64 rh 2) (opI BinOp.shr IntKind.u64 rl 63) *
          18446744073709551616 +
        opI BinOp.add IntKind.u64 (opI BinOp.mul IntKind.u64 rl 2)
          (opI BinOp.and IntKind.u64 (opI BinOp.shr IntKind.u64 l i) 1))
      (0 + d))
    0 =
  false,
  0 ≤
  opI BinOp.add IntKind.u64 (opI BinOp.mul IntKind.u64 rl 2)
    (opI BinOp.and IntKind.u64 (opI BinOp.shr IntKind.u64 l i) 1),
  opI BinOp.add IntKind.u64 (opI BinOp.mul IntKind.u64 rl 2)
    (opI BinOp.and IntKind.u64 (opI BinOp.shr IntKind.u64 l i) 1) <
  18446744073709551616,
  0 ≤ d,
  d < 18446744073709551616,
  true = true,
  true = true,
  cmpI BinOp.gtr i 63 = false,
  decide (0 ≤ i) = true,
  cmpI BinOp.geq i 0 = true]) := by kernel_rfl
theorem refDiv0_r4 (d : Int) (i : Int) (h : Int) (l : Int) (qh : Int) (ql : Int) (rh : Int) (rl : Int) : roundX Try.prog X4 100000 (loopAt Try.prog 71 0) [.d false] [[1, 2, 4, 5, 6, 7, 8, 9]] [(64, 64), (128, 128), (224, 224), (256, 256)] (refDivT d i h l qh ql rh rl) = some (Ex.exit 0, (refDivT (d) (i) (h) (l) (qh) (ql) (rh) (rl)), [cmpI BinOp.geq i 0 = false]) := by kernel_rfl
theorem refDiv0_step (d : Int) (i : Int) (h : Int) (l : Int) (qh : Int) (ql : Int) (rh : Int) (rl : Int) (σ : St) (e : Ex)
  (h0 : ((cmpI BinOp.geq i 0) = true) → ((cmpI BinOp.gtr i 63) = true) → ((cmpI BinOp.geq
  (cmpZ
    (opI BinOp.add IntKind.u64 (opI BinOp.mul IntKind.u64 rh 2) (opI BinOp.shr IntKind.u64 rl 63) *
        18446744073709551616 +
      opI BinOp.add IntKind.u64 (opI BinOp.mul IntKind.u64 rl 2)
        (opI BinOp.and IntKind.u64 (opI BinOp.shr IntKind.u64 h (opI BinOp.sub IntKind.i64 i 64)) 1))
    (0 + d))
  0) = true) → ((opI BinOp.add IntKind.u64 (opI BinOp.mul IntKind.u64 rh 2) (opI BinOp.shr IntKind.u64 rl 63) < 18446744073709551616) ∧ (0 ≤
  opI BinOp.add IntKind.u64 (opI BinOp.mul IntKind.u64 rl 2)
    (opI BinOp.and IntKind.u64 (opI BinOp.shr IntKind.u64 h (opI BinOp.sub IntKind.i64 i 64)) 1)) ∧ (opI BinOp.add IntKind.u64 (opI BinOp.mul IntKind.u64 rl 2)
    (opI BinOp.and IntKind.u64 (opI BinOp.shr IntKind.u64 h (opI BinOp.sub IntKind.i64 i 64)) 1) <
  18446744073709551616) ∧ ((0 : Int) ≤ (0 : Int)) ∧ (0 ≤ d) ∧ (d < 18446744073709551616) ∧ (0 * 18446744073709551616 + d ≤
  opI BinOp.add IntKind.u64 (opI BinOp.mul IntKind.u64 rh 2) (opI BinOp.shr IntKind.u64 rl 63) * 18446744073709551616 +
    opI BinOp.add IntKind.u64 (opI BinOp.mul IntKind.u64 rl 2)
      (opI BinOp.and IntKind.u64 (opI BinOp.shr IntKind.u64 h (opI BinOp.sub IntKind.i64 i 64)) 1)) ∧ (0 ≤
  opI BinOp.add IntKind.u64 (opI BinOp.mul IntKind.u64 rl 2)
    (opI BinOp.and IntKind.u64 (opI BinOp.shr IntKind.u64 h (opI BinOp.sub IntKind.i64 i 64)) 1)) ∧ (opI BinOp.add IntKind.u64 (opI BinOp.mul IntKind.u64 rl 2)
    (opI BinOp.and IntKind.u64 (opI BinOp.shr IntKind.u64 h (opI BinOp.sub IntKind.i64 i 64)) 1) <
  18446744073709551616) ∧ (0 ≤ d) ∧ (d < 18446744073709551616) ∧ (decide (0 ≤ opI BinOp.sub IntKind.i64 i 64) = true) ∧ (decide (0 ≤ i) = true) ∧ True) ∧ Runs Try.prog (CallsD Try.prog) (.rounds (loopAt Try.prog 71 0)) (refDivT (d) (opI BinOp.sub IntKind.i64 i 1) (h) (l) (opI BinOp.add IntKind.u64 (opI BinOp.mul IntKind.u64 qh 2) (opI BinOp.shr IntKind.u64 ql 63)) (opI BinOp.add IntKind.u64 (opI BinOp.mul IntKind.u64 ql 2) 1) ((opI BinOp.add IntKind.u64 (opI BinOp.mul IntKind.u64 rh 2) (opI BinOp.shr IntKind.u64 rl 63) * 18446744073709551616 +
      opI BinOp.add IntKind.u64 (opI BinOp.mul IntKind.u64 rl 2)
        (opI BinOp.and IntKind.u64 (opI BinOp.shr IntKind.u64 h (opI BinOp.sub IntKind.i64 i 64)) 1) -
    (0 + d)) /
  18446744073709551616) ((opI BinOp.add IntKind.u64 (opI BinOp.mul IntKind.u64 rh 2) (opI BinOp.shr IntKind.u64 rl 63) * 18446744073709551616 +
      opI BinOp.add IntKind.u64 (opI BinOp.mul IntKind.u64 rl 2)
        (opI BinOp.and IntKind.u64 (opI BinOp.shr IntKind.u64 h (opI BinOp.sub IntKind.i64 i 64)) 1) -
    (0 + d)) %
  18446744073709551616)).abs e σ)
  (h1 : ((cmpI BinOp.geq i 0) = true) → ((cmpI BinOp.gtr i 63) = true) → ((cmpI BinOp.geq
  (cmpZ
    (opI BinOp.add IntKind.u64 (opI BinOp.mul IntKind.u64 rh 2) (opI BinOp.shr IntKind.u64 rl 63) *
        18446744073709551616 +
      opI BinOp.add IntKind.u64 (opI BinOp.mul IntKind.u64 rl 2)
        (opI BinOp.and IntKind.u64 (opI BinOp.shr IntKind.u64 h (opI BinOp.sub IntKind.i64 i 64)) 1))
    (0 + d))
  0) = false) → ((0 ≤
  opI BinOp.add IntKind.u64 (opI BinOp.mul IntKind.u64 rl 2)
    (opI BinOp.and IntKind.u64 (opI BinOp.shr IntKind.u64 h (opI BinOp.sub IntKind.i64 i 64)) 1)) ∧ (opI BinOp.add IntKind.u64 (opI BinOp.mul IntKind.u64 rl 2)
    (opI BinOp.and IntKind.u64 (opI BinOp.shr IntKind.u64 h (opI BinOp.sub IntKind.i64 i 64)) 1) <
  18446744073709551616) ∧ (0 ≤ d) ∧ (d < 18446744073709551616) ∧ (decide (0 ≤ opI BinOp.sub IntKind.i64 i 64) = true) ∧ (decide (0 ≤ i) = true) ∧ True) ∧ Runs Try.prog (CallsD Try.prog) (.rounds (loopAt Try.prog 71 0)) (refDivT (d) (opI BinOp.sub IntKind.i64 i 1) (h) (l) (opI BinOp.add IntKind.u64 (opI BinOp.mul IntKind.u64 qh 2) (opI BinOp.shr IntKind.u64 ql 63)) (opI BinOp.mul IntKind.u64 ql 2) (opI BinOp.add IntKind.u64 (opI BinOp.mul IntKind.u64 rh 2) (opI BinOp.shr IntKind.u64 rl 63)) (opI BinOp.add IntKind.u64 (opI BinOp.mul IntKind.u64 rl 2)
  (opI BinOp.and IntKind.u64 (opI BinOp.shr IntKind.u64 h (opI BinOp.sub IntKind.i64 i 64)) 1))).abs e σ)
  (h2 : ((cmpI BinOp.geq i 0) = true) → ((cmpI BinOp.gtr i 63) = false) → ((cmpI BinOp.geq
  (cmpZ
    (opI BinOp.add IntKind.u64 (opI BinOp.mul IntKind.u64 rh 2) (opI BinOp.shr IntKind.u64 rl 63) *
        18446744073709551616 +
      opI BinOp.add IntKind.u64 (opI BinOp.mul IntKind.u64 rl 2)
        (opI BinOp.and IntKind.u64 (opI BinOp.shr IntKind.u64 l i) 1))
    (0 + d))
  0) = true) → ((opI BinOp.add IntKind.u64 (opI BinOp.mul IntKind.u64 rh 2) (opI BinOp.shr IntKind.u64 rl 63) < 18446744073709551616) ∧ (0 ≤
  opI BinOp.add IntKind.u64 (opI BinOp.mul IntKind.u64 rl 2)
    (opI BinOp.and IntKind.u64 (opI BinOp.shr IntKind.u64 l i) 1)) ∧ (opI BinOp.add IntKind.u64 (opI BinOp.mul IntKind.u64 rl 2)
    (opI BinOp.and IntKind.u64 (opI BinOp.shr IntKind.u64 l i) 1) <
  18446744073709551616) ∧ ((0 : Int) ≤ (0 : Int)) ∧ (0 ≤ d) ∧ (d < 18446744073709551616) ∧ (0 * 18446744073709551616 + d ≤
  opI BinOp.add IntKind.u64 (opI BinOp.mul IntKind.u64 rh 2) (opI BinOp.shr IntKind.u64 rl 63) * 18446744073709551616 +
    opI BinOp.add IntKind.u64 (opI BinOp.mul IntKind.u64 rl 2)
      (opI BinOp.and IntKind.u64 (opI BinOp.shr IntKind.u64 l i) 1)) ∧ (0 ≤
  opI BinOp.add IntKind.u64 (opI BinOp.mul IntKind.u64 rl 2)
    (opI BinOp.and IntKind.u64 (opI BinOp.shr IntKind.u64 l i) 1)) ∧ (opI BinOp.add IntKind.u64 (opI BinOp.mul IntKind.u64 rl 2)
    (opI BinOp.and IntKind.u64 (opI BinOp.shr IntKind.u64 l i) 1) <
  18446744073709551616) ∧ (0 ≤ d) ∧ (d < 18446744073709551616) ∧ (decide (0 ≤ i) = true) ∧ True) ∧ Runs Try.prog (CallsD Try.prog) (.rounds (loopAt Try.prog 71 0)) (refDivT (d) (opI BinOp.sub IntKind.i64 i 1) (h) (l) (opI BinOp.add IntKind.u64 (opI BinOp.mul IntKind.u64 qh 2) (opI BinOp.shr IntKind.u64 ql 63)) (opI BinOp.add IntKind.u64 (opI BinOp.mul IntKind.u64 ql 2) 1) ((opI BinOp.add IntKind.u64 (opI BinOp.mul IntKind.u64 rh 2) (opI BinOp.shr IntKind.u64 rl 63) * 18446744073709551616 +
      opI BinOp.add IntKind.u64 (opI BinOp.mul IntKind.u64 rl 2)
        (opI BinOp.and IntKind.u64 (opI BinOp.shr IntKind.u64 l i) 1) -
    (0 + d)) /
  18446744073709551616) ((opI BinOp.add IntKind.u64 (opI BinOp.mul IntKind.u64 rh 2) (opI BinOp.shr IntKind.u64 rl 63) * 18446744073709551616 +
      opI BinOp.add IntKind.u64 (opI BinOp.mul IntKind.u64 rl 2)
        (opI BinOp.and IntKind.u64 (opI BinOp.shr IntKind.u64 l i) 1) -
    (0 + d)) %
  18446744073709551616)).abs e σ)
  (h3 : ((cmpI BinOp.geq i 0) = true) → ((cmpI BinOp.gtr i 63) = false) → ((cmpI BinOp.geq
  (cmpZ
    (opI BinOp.add IntKind.u64 (opI BinOp.mul IntKind.u64 rh 2) (opI BinOp.shr IntKind.u64 rl 63) *
        18446744073709551616 +
      opI BinOp.add IntKind.u64 (opI BinOp.mul IntKind.u64 rl 2)
        (opI BinOp.and IntKind.u64 (opI BinOp.shr IntKind.u64 l i) 1))
    (0 + d))
  0) = false) → ((0 ≤
  opI BinOp.add IntKind.u64 (opI BinOp.mul IntKind.u64 rl 2)
    (opI BinOp.and IntKind.u64 (opI BinOp.shr IntKind.u64 l i) 1)) ∧ (opI BinOp.add IntKind.u64 (opI BinOp.mul IntKind.u64 rl 2)
    (opI BinOp.and IntKind.u64 (opI BinOp.shr IntKind.u64 l i) 1) <
  18446744073709551616) ∧ (0 ≤ d) ∧ (d < 18446744073709551616) ∧ (decide (0 ≤ i) = true) ∧ True) ∧ Runs Try.prog (CallsD Try.prog) (.rounds (loopAt Try.prog 71 0)) (refDivT (d) (opI BinOp.sub IntKind.i64 i 1) (h) (l) (opI BinOp.add IntKind.u64 (opI BinOp.mul IntKind.u64 qh 2) (opI BinOp.shr IntKind.u64 ql 63)) (opI BinOp.mul IntKind.u64 ql 2) (opI BinOp.add IntKind.u64 (opI BinOp.mul IntKind.u64 rh 2) (opI BinOp.shr IntKind.u64 rl 63)) (opI BinOp.add IntKind.u64 (opI BinOp.mul IntKind.u64 rl 2) (opI BinOp.and IntKind.u64 (opI BinOp.shr IntKind.u64 l i) 1))).abs e σ)
  (h4 : ((cmpI BinOp.geq i 0) = false) → (True) ∧ (e = Ex.exit 0 ∧ σ = (refDivT (d) (i) (h) (l) (qh) (ql) (rh) (rl)).abs)) :
  Runs Try.prog (CallsD Try.prog) (.rounds (loopAt Try.prog 71 0)) (refDivT d i h l qh ql rh rl).abs e σ := by
  cases e0 : (cmpI BinOp.geq i 0) with
  | true =>
    cases e1 : (cmpI BinOp.gtr i 63) with
    | true =>
      cases e2 : (cmpI BinOp.geq
  (cmpZ
    (opI BinOp.add IntKind.u64 (opI BinOp.mul IntKind.u64 rh 2) (opI BinOp.shr IntKind.u64 rl 63) *
        18446744073709551616 +
      opI BinOp.add IntKind.u64 (opI BinOp.mul IntKind.u64 rl 2)
        (opI BinOp.and IntKind.u64 (opI BinOp.shr IntKind.u64 h (opI BinOp.sub IntKind.i64 i 64)) 1))
    (0 + d))
  0) with
      | true =>
        exact rounds_on hX4 (refDiv0_r0 d i h l qh ql rh rl) ⟨(h0 e0 e1 e2).1.1, (h0 e0 e1 e2).1.2.1, (h0 e0 e1 e2).1.2.2.1, (h0 e0 e1 e2).1.2.2.2.1, (h0 e0 e1 e2).1.2.2.2.2.1, (h0 e0 e1 e2).1.2.2.2.2.2.1, (h0 e0 e1 e2).1.2.2.2.2.2.2.1, e2, (h0 e0 e1 e2).1.2.2.2.2.2.2.2.1, (h0 e0 e1 e2).1.2.2.2.2.2.2.2.2.1, (h0 e0 e1 e2).1.2.2.2.2.2.2.2.2.2.1, (h0 e0 e1 e2).1.2.2.2.2.2.2.2.2.2.2.1, rfl, rfl, (h0 e0 e1 e2).1.2.2.2.2.2.2.2.2.2.2.2.1, e1, (h0 e0 e1 e2).1.2.2.2.2.2.2.2.2.2.2.2.2.1, e0, trivial⟩ (h0 e0 e1 e2).2
      | false =>
        exact rounds_on hX4 (refDiv0_r1 d i h l qh ql rh rl) ⟨e2, (h1 e0 e1 e2).1.1, (h1 e0 e1 e2).1.2.1, (h1 e0 e1 e2).1.2.2.1, (h1 e0 e1 e2).1.2.2.2.1, rfl, rfl, (h1 e0 e1 e2).1.2.2.2.2.1, e1, (h1 e0 e1 e2).1.2.2.2.2.2.1, e0, trivial⟩ (h1 e0 e1 e2).2
    | false =>
      cases e2 : (cmpI BinOp.geq
  (cmpZ
    (opI BinOp.add IntKind.u64 (opI BinOp.mul IntKind.u64 rh 2) (opI BinOp.shr IntKind.u64 rl 63) *
        18446744073709551616 +
      opI BinOp.add IntKind.u64 (opI BinOp.mul IntKind.u64 rl 2)
        (opI BinOp.and IntKind.u64 (opI BinOp.shr IntKind.u64 l i) 1))
    (0 + d))
  0) with
      | true =>
        exact rounds_on hX4 (refDiv0_r2 d i h l qh ql rh rl) ⟨(h2 e0 e1 e2).1.1, (h2 e0 e1 e2).1.2.1, (h2 e0 e1 e2).1.2.2.1, (h2 e0 e1 e2).1.2.2.2.1, (h2 e0 e1 e2).1.2.2.2.2.1, (h2 e0 e1 e2).1.2.2.2.2.2.1, (h2 e0 e1 e2).1.2.2.2.2.2.2.1, e2, (h2 e0 e1 e2).1.2.2.2.2.2.2.2.1, (h2 e0 e1 e2).1.2.2.2.2.2.2.2.2.1, (h2 e0 e1 e2).1.2.2.2.2.2.2.2.2.2.1, (h2 e0 e1 e2).1.2.2.2.2.2.2.2.2.2.2.1, rfl, rfl, e1, (h2 e0 e1 e2).1.2.2.2.2.2.2.2.2.2.2.2.1, e0, trivial⟩ (h2 e0 e1 e2).2
      | false =>
        exact rounds_on hX4 (refDiv0_r3 d i h l qh ql rh rl) ⟨e2, (h3 e0 e1 e2).1.1, (h3 e0 e1 e2).1.2.1, (h3 e0 e1 e2).1.2.2.1, (h3 e0 e1 e2).1.2.2.2.1, rfl, rfl, e1, (h3 e0 e1 e2).1.2.2.2.2.1, e0, trivial⟩ (h3 e0 e1 e2).2
  | false =>
    exact rounds_end hX4 (refDiv0_r4 d i h l qh ql rh rl) ⟨e0, trivial⟩ (by simp) (h4 e0).2
theorem hi_digit (h l : Int) (m : Nat) (l0 : 0 ≤ l) (l1 : l < 18446744073709551616) : h / 2 ^ m = (h * 18446744073709551616 + l) / 2 ^ (64 + m) := by
  rw [Int.pow_add, ← Int.ediv_ediv_of_nonneg (Int.le_of_lt (Int.pow_pos (by decide))), show (2 : Int) ^ 64 = 18446744073709551616 from rfl]
  rw [show (h * 18446744073709551616 + l) / 18446744073709551616 = h by omega]
theorem lo_digit (h l : Int) (m : Nat) (hm : m < 64) : l / 2 ^ m % 2 = (h * 18446744073709551616 + l) / 2 ^ m % 2 := by
  have e : (18446744073709551616 : Int) = 2 ^ m * (2 * 2 ^ (63 - m)) := by
    rw [← Int.pow_succ', ← Int.pow_add, show m + (63 - m).succ = 64 by omega]; rfl
  have hp : (0 : Int) < 2 ^ m := Int.pow_pos (by decide)
  rw [e, Int.mul_left_comm, Int.add_comm, Int.add_mul_ediv_left _ _ (by omega), Int.mul_left_comm, Int.add_mul_emod_self_left]
theorem refDiv_loop (d h l : Int) (hd : 0 < d) (hd1 : d < 4294967296) (h0 : 0 ≤ h) (h1 : h < 18446744073709551616) (l0 : 0 ≤ l) (l1 : l < 18446744073709551616) : ∀ (n : Nat), n ≤ 128 →
    Runs Try.prog (CallsD Try.prog) (.rounds (loopAt Try.prog 71 0)) (refDivT d ((n : Int) - 1) h l ((h * 18446744073709551616 + l) / 2 ^ n / d / 18446744073709551616) ((h * 18446744073709551616 + l) / 2 ^ n / d % 18446744073709551616) 0 ((h * 18446744073709551616 + l) / 2 ^ n % d)).abs (.exit 0)
      (refDivT d (-1) h l ((h * 18446744073709551616 + l) / d / 18446744073709551616) ((h * 18446744073709551616 + l) / d % 18446744073709551616) 0 ((h * 18446744073709551616 + l) % d)).abs := by
  intro n
  induction n with
  | zero =>
    intro _
    rw [Int.pow_zero, Int.ediv_one]
    refine refDiv0_step _ _ _ _ _ _ _ _ _ _ ?_ ?_ ?_ ?_ ?_
    · intro a; simp only [geq_t] at a; omega
    · intro a; simp only [geq_t] at a; omega
    · intro a; simp only [geq_t] at a; omega
    · intro a; simp only [geq_t] at a; omega
    · intro a; exact ⟨trivial, rfl, rfl⟩
  | succ m ih =>
    intro hm
    have ih := ih (by omega)
    have hp : (0 : Int) < 2 ^ m := Int.pow_pos (by decide)
    have eA : (h * 18446744073709551616 + l) / 2 ^ (m + 1) = (h * 18446744073709551616 + l) / 2 ^ m / 2 := by
      rw [Int.pow_succ, Int.ediv_ediv_of_nonneg (by omega)]
    have hA0 : 0 ≤ (h * 18446744073709551616 + l) / 2 ^ m := Int.ediv_nonneg (by omega) (by omega)
    have hA1 : (h * 18446744073709551616 + l) / 2 ^ m < 340282366920938463463374607431768211456 := Int.lt_of_le_of_lt (Int.ediv_le_self _ (by omega)) (by omega)
    have gh : (63 : Int) < m → opI .and .u64 (opI .shr .u64 h ((m : Int) - 64)) 1 = (h * 18446744073709551616 + l) / 2 ^ m % 2 := fun hm' => by
      rw [show ((m : Int) - 64) = ((m - 64 : Nat) : Int) by omega, shrN _ _ (by omega)]
      have hq : h / 2 ^ (m - 64) ≤ h := Int.ediv_le_self _ h0
      rw [and1 (Int.ediv_nonneg h0 (Int.le_of_lt (Int.pow_pos (by decide)))) (by omega), hi_digit h l (m - 64) l0 l1, show 64 + (m - 64) = m by omega]
    have gl : (m : Int) ≤ 63 → opI .and .u64 (opI .shr .u64 l m) 1 = (h * 18446744073709551616 + l) / 2 ^ m % 2 := fun hm' => by
      rw [shrN _ _ (by omega)]
      have hq : l / 2 ^ m ≤ l := Int.ediv_le_self _ l0
      rw [and1 (Int.ediv_nonneg l0 (Int.le_of_lt (Int.pow_pos (by decide)))) (by omega), lo_digit h l m (by omega)]
    rw [eA]
    generalize (h * 18446744073709551616 + l) / 2 ^ m = A at *
    obtain ⟨s1, s2⟩ := digit_step A (A / 2) d (A % 2) hd (by omega) (by omega) (by omega) (by omega)
    have r0 := Int.emod_nonneg (A / 2) (show d ≠ 0 by omega)
    have r1 := Int.emod_lt_of_pos (A / 2) hd
    have q0 : 0 ≤ A / 2 / d := Int.ediv_nonneg (by omega) (by omega)
    have q1 : A / 2 / d ≤ A / 2 := Int.ediv_le_self _ (by omega)
    generalize A / 2 / d = q at *
    generalize A / 2 % d = r at *
    have ei : (((m + 1 : Nat) : Int) - 1) = m := by omega
    rw [ei]
    have e1 : opI .sub .i64 (m : Int) 1 = m - 1 := by rw [opI_sub, wrap_i64_of (by omega) (by omega)]
    have e2 : opI .add .u64 (opI .mul .u64 (q / 18446744073709551616) 2) (opI .shr .u64 (q % 18446744073709551616) 63) = (2 * q) / 18446744073709551616 := by
      simp only [opI_add, opI_mul, shr63, wrap_u64]; omega
    have e3 : opI .mul .u64 (q % 18446744073709551616) 2 = (2 * q) % 18446744073709551616 := by
      simp only [opI_mul, wrap_u64]; omega
    have e3' : opI .add .u64 ((2 * q) % 18446744073709551616) 1 = (2 * q + 1) % 18446744073709551616 := by
      simp only [opI_add, wrap_u64]; omega
    have e3'' : (2 * q) / 18446744073709551616 = (2 * q + 1) / 18446744073709551616 := by omega
    have e4 : opI .add .u64 (opI .mul .u64 0 2) (opI .shr .u64 r 63) = 0 := by
      simp only [opI_add, opI_mul, shr63, wrap_u64]; omega
    have e5 : opI .add .u64 (opI .mul .u64 r 2) (A % 2) = r * 2 + A % 2 := by
      simp only [opI_add, opI_mul, wrap_u64]; omega
    have e6 : opI .sub .i64 (m : Int) 64 = m - 64 := by rw [opI_sub, wrap_i64_of (by omega) (by omega)]
    refine refDiv0_step _ _ _ _ _ _ _ _ _ _ ?_ ?_ ?_ ?_ ?_
    · intro a b c
      simp only [gtr_t] at b
      have b : (63 : Int) < m := b
      simp only [gh b, e1, e2, e3, e3', e4, e5, e6, Int.zero_mul, Int.zero_add, cmpZ_ge_t, decide_eq_true_eq] at c ⊢
      obtain ⟨t1, t2⟩ := s1 c
      rw [t1, t2] at ih
      refine ⟨by simp only [and_true]; omega, ?_⟩
      rw [e3'', show (r * 2 + A % 2 - d) / 18446744073709551616 = 0 by omega, show (r * 2 + A % 2 - d) % 18446744073709551616 = r * 2 + A % 2 - d by omega]
      exact ih
    · intro a b c
      simp only [gtr_t] at b
      have b : (63 : Int) < m := b
      simp only [gh b, e1, e2, e3, e4, e5, e6, Int.zero_mul, Int.zero_add, cmpZ_ge_f, decide_eq_true_eq] at c ⊢
      obtain ⟨t1, t2⟩ := s2 c
      rw [t1, t2] at ih
      exact ⟨by simp only [and_true]; omega, ih⟩
    · intro a b c
      simp only [gtr_f] at b
      have b : (m : Int) ≤ 63 := b
      simp only [gl b, e1, e2, e3, e3', e4, e5, Int.zero_mul, Int.zero_add, cmpZ_ge_t, decide_eq_true_eq] at c ⊢
      obtain ⟨t1, t2⟩ := s1 c
      rw [t1, t2] at ih
      refine ⟨by simp only [and_true]; omega, ?_⟩
      rw [e3'', show (r * 2 + A % 2 - d) / 18446744073709551616 = 0 by omega, show (r * 2 + A % 2 - d) % 18446744073709551616 = r * 2 + A % 2 - d by omega]
      exact ih
    · intro a b c
      simp only [gtr_f] at b
      have b : (m : Int) ≤ 63 := b
      simp only [gl b, e1, e2, e3, e4, e5, Int.zero_mul, Int.zero_add, cmpZ_ge_f, decide_eq_true_eq] at c ⊢
      obtain ⟨t1, t2⟩ := s2 c
      rw [t1, t2] at ih
      exact ⟨by simp only [and_true]; omega, ih⟩
    · intro a; simp only [geq_f] at a; omega
end MeterS

namespace MeterS
open Go Go.Dam Go.Proofs
set_option maxRecDepth 1000000
set_option linter.unusedVariables false
set_option linter.unusedSectionVars false
set_option linter.unusedSimpArgs false
variable [Glo]
theorem refDiv_p0 (h : Int) (l : Int) (d : Int) (qh : Int) (ql : Int) (rl : Int) : fnX Try.prog X4 100000 [.d true] 71 [D.agg [D.v (Value.int IntKind.u64 h), D.v (Value.int IntKind.u64 l)], D.v (Value.int IntKind.u64 d)] = some (D.tup
  [D.agg [D.v (Value.int IntKind.u64 0), D.v (Value.int IntKind.u64 0)], D.v (Value.int IntKind.u64 0),
    D.v (Value.int IntKind.i64 26)], [cmpI BinOp.eql d 0 = true]) := by kernel_rfl
theorem refDiv_p1 (h : Int) (l : Int) (d : Int) (qh : Int) (ql : Int) (rl : Int) : fnX Try.prog X4 100000 [.d false, PE.l [[1, 2, 4, 5, 6, 7, 8, 9]] [(64, 64), (128, 128), (224, 224), (256, 256)] (refDivT d 127 h l 0 0 0 0)
  (Ex.exit 0) (refDivT d (-1) h l qh ql 0 rl)] 71 [D.agg [D.v (Value.int IntKind.u64 h), D.v (Value.int IntKind.u64 l)], D.v (Value.int IntKind.u64 d)] = some (D.tup
  [D.agg [D.v (Value.int IntKind.u64 qh), D.v (Value.int IntKind.u64 ql)], D.v (Value.int IntKind.u64 rl),
    D.v (Value.int IntKind.i64 0)], [(refDivT d 127 h l 0 0 0 0 = refDivT d 127 h l 0 0 0 0),
  Runs Try.prog (CallsD Try.prog) (.code (.loop (loopAt Try.prog 71 0))) (refDivT d 127 h l 0 0 0 0).abs (Ex.exit 0) (refDivT d (-1) h l qh ql 0 rl).abs,
  cmpI BinOp.eql d 0 = false]) := by kernel_rfl
theorem refDiv_calls (h : Int) (l : Int) (d : Int) (qh : Int) (ql : Int) (rl : Int) (res : D)
  (h0 : ((cmpI BinOp.eql d 0) = true) → (True) ∧ res = D.tup
  [D.agg [D.v (Value.int IntKind.u64 0), D.v (Value.int IntKind.u64 0)], D.v (Value.int IntKind.u64 0),
    D.v (Value.int IntKind.i64 26)])
  (h1 : ((cmpI BinOp.eql d 0) = false) → ((Runs Try.prog (CallsD Try.prog) (.code (.loop (loopAt Try.prog 71 0))) (refDivT d 127 h l 0 0 0 0).abs (Ex.exit 0) (refDivT d (-1) h l qh ql 0 rl).abs) ∧ True) ∧ res = D.tup
  [D.agg [D.v (Value.int IntKind.u64 qh), D.v (Value.int IntKind.u64 ql)], D.v (Value.int IntKind.u64 rl),
    D.v (Value.int IntKind.i64 0)]) :
  CallsD Try.prog 71 [D.agg [D.v (Value.int IntKind.u64 h), D.v (Value.int IntKind.u64 l)], D.v (Value.int IntKind.u64 d)] res := by
  cases e0 : (cmpI BinOp.eql d 0) with
  | true =>
    exact of_path hX4 (refDiv_p0 h l d qh ql rl) ⟨e0, trivial⟩ (h0 e0).2
  | false =>
    exact of_path hX4 (refDiv_p1 h l d qh ql rl) ⟨rfl, (h1 e0).1.1, e0, trivial⟩ (h1 e0).2
theorem divA_p0 (h : Int) (l : Int) (d : Int) : fnX Try.prog X4 100000 [.d true] 67 [D.agg [D.v (Value.int IntKind.u64 h), D.v (Value.int IntKind.u64 l)], D.v (Value.int IntKind.u64 d)] = some (D.tup
  [D.agg [D.v (Value.int IntKind.u64 0), D.v (Value.int IntKind.u64 0)], D.v (Value.int IntKind.u64 0),
    D.v (Value.int IntKind.i64 26)], [cmpI BinOp.eql d 0 = true]) := by kernel_rfl
theorem divA_p1 (h : Int) (l : Int) (d : Int) : fnX Try.prog X4 100000 [.d false] 67 [D.agg [D.v (Value.int IntKind.u64 h), D.v (Value.int IntKind.u64 l)], D.v (Value.int IntKind.u64 d)] = some (D.tup
  [D.agg
      [D.v (Value.int IntKind.u64 ((0 + h) / d)),
        D.v (Value.int IntKind.u64 (((0 + h) % d * 18446744073709551616 + l) / d))],
    D.v (Value.int IntKind.u64 (((0 + h) % d * 18446744073709551616 + l) % d)), D.v (Value.int IntKind.i64 0)], [0 ≤ (0 * 18446744073709551616 + h) % d,
  (0 * 18446744073709551616 + h) % d < d,
  d < 4294967296,
  0 ≤ l,
  l < 18446744073709551616,
  (0 : Int) ≤ (0 : Int),
  0 < d,
  d < 4294967296,
  0 ≤ h,
  h < 18446744073709551616,
  cmpI BinOp.eql d 0 = false]) := by kernel_rfl
theorem divA_calls (h : Int) (l : Int) (d : Int) (res : D)
  (h0 : ((cmpI BinOp.eql d 0) = true) → (True) ∧ res = D.tup
  [D.agg [D.v (Value.int IntKind.u64 0), D.v (Value.int IntKind.u64 0)], D.v (Value.int IntKind.u64 0),
    D.v (Value.int IntKind.i64 26)])
  (h1 : ((cmpI BinOp.eql d 0) = false) → ((0 ≤ (0 * 18446744073709551616 + h) % d) ∧ ((0 * 18446744073709551616 + h) % d < d) ∧ (d < 4294967296) ∧ (0 ≤ l) ∧ (l < 18446744073709551616) ∧ ((0 : Int) ≤ (0 : Int)) ∧ (0 < d) ∧ (d < 4294967296) ∧ (0 ≤ h) ∧ (h < 18446744073709551616) ∧ True) ∧ res = D.tup
  [D.agg
      [D.v (Value.int IntKind.u64 ((0 + h) / d)),
        D.v (Value.int IntKind.u64 (((0 + h) % d * 18446744073709551616 + l) / d))],
    D.v (Value.int IntKind.u64 (((0 + h) % d * 18446744073709551616 + l) % d)), D.v (Value.int IntKind.i64 0)]) :
  CallsD Try.prog 67 [D.agg [D.v (Value.int IntKind.u64 h), D.v (Value.int IntKind.u64 l)], D.v (Value.int IntKind.u64 d)] res := by
  cases e0 : (cmpI BinOp.eql d 0) with
  | true =>
    exact of_path hX4 (divA_p0 h l d) ⟨e0, trivial⟩ (h0 e0).2
  | false =>
    exact of_path hX4 (divA_p1 h l d) ⟨(h1 e0).1.1, (h1 e0).1.2.1, (h1 e0).1.2.2.1, (h1 e0).1.2.2.2.1, (h1 e0).1.2.2.2.2.1, (h1 e0).1.2.2.2.2.2.1, (h1 e0).1.2.2.2.2.2.2.1, (h1 e0).1.2.2.2.2.2.2.2.1, (h1 e0).1.2.2.2.2.2.2.2.2.1, (h1 e0).1.2.2.2.2.2.2.2.2.2.1, e0, trivial⟩ (h1 e0).2
def divD (a d : Int) : D := .tup [wd (a / d), u64 (a % d), i64 0]
theorem refDiv_ok (h l d : Int) (hd : 0 < d) (hd1 : d < 4294967296) (h0 : 0 ≤ h) (h1 : h < 18446744073709551616) (l0 : 0 ≤ l) (l1 : l < 18446744073709551616) :
    CallsD Try.prog 71 [.agg [u64 h, u64 l], u64 d] (divD (h * 18446744073709551616 + l) d) := by
  refine refDiv_calls h l d ((h * 18446744073709551616 + l) / d / 18446744073709551616) ((h * 18446744073709551616 + l) / d % 18446744073709551616) ((h * 18446744073709551616 + l) % d) _ ?_ ?_
  · intro a; rw [eql_t] at a; omega
  · intro a
    refine ⟨⟨?_, trivial⟩, rfl⟩
    have := refDiv_loop d h l hd hd1 h0 h1 l0 l1 128 (by decide)
    have e : (h * 18446744073709551616 + l) / 2 ^ 128 = 0 := Int.ediv_eq_zero_of_lt (by omega) (by omega)
    rw [e, Int.zero_ediv, Int.zero_emod] at this
    exact loop_of_rounds this
theorem divA_ok (h l d : Int) (hd : 0 < d) (hd1 : d < 4294967296) (h0 : 0 ≤ h) (h1 : h < 18446744073709551616) (l0 : 0 ≤ l) (l1 : l < 18446744073709551616) :
    CallsD Try.prog 67 [.agg [u64 h, u64 l], u64 d] (divD (h * 18446744073709551616 + l) d) := by
  have r0 := Int.emod_nonneg h (show d ≠ 0 by omega)
  have r1 := Int.emod_lt_of_pos h hd
  have hq := Int.mul_ediv_add_emod h d
  have q0 : 0 ≤ h / d := Int.ediv_nonneg h0 (by omega)
  have q1 : h / d ≤ h := Int.ediv_le_self _ h0
  refine divA_calls h l d _ ?_ ?_
  · intro a; rw [eql_t] at a; omega
  · intro a
    simp only [Int.zero_mul, Int.zero_add]
    refine ⟨by simp only [and_true]; omega, ?_⟩
    have s0 := Int.emod_nonneg (h % d * 18446744073709551616 + l) (show d ≠ 0 by omega)
    have s1 := Int.emod_lt_of_pos (h % d * 18446744073709551616 + l) hd
    have hs := Int.mul_ediv_add_emod (h % d * 18446744073709551616 + l) d
    have s2 : 0 ≤ (h % d * 18446744073709551616 + l) / d := Int.ediv_nonneg (by omega) (by omega)
    have s3 : (h % d * 18446744073709551616 + l) / d < 18446744073709551616 := by
      rw [Int.ediv_lt_iff_lt_mul hd]; omega
    have key : (h * 18446744073709551616 + l) / d = h / d * 18446744073709551616 + (h % d * 18446744073709551616 + l) / d ∧ (h * 18446744073709551616 + l) % d = (h % d * 18446744073709551616 + l) % d := by
      have e : h * 18446744073709551616 + l = (h % d * 18446744073709551616 + l) % d + d * (h / d * 18446744073709551616 + (h % d * 18446744073709551616 + l) / d) := by
        rw [Int.mul_add, ← Int.mul_assoc]; omega
      refine ⟨?_, ?_⟩
      · rw [e, Int.add_mul_ediv_left _ _ (by omega), Int.ediv_eq_zero_of_lt s0 s1, Int.zero_add]
      · rw [e, Int.add_mul_emod_self_left, Int.emod_eq_of_lt s0 s1]
    unfold divD wd
    rw [key.1, key.2, show (h / d * 18446744073709551616 + (h % d * 18446744073709551616 + l) / d) / 18446744073709551616 = h / d by omega, show (h / d * 18446744073709551616 + (h % d * 18446744073709551616 + l) / d) % 18446744073709551616 = (h % d * 18446744073709551616 + l) / d by omega]
def divC2 : List D → Option (D × List Prop)
  | [.agg [.v (.int .u64 h), .v (.int .u64 l)], .v (.int .u64 d)] => some (divD (h * 18446744073709551616 + l) d, [0 < d, d < 4294967296, 0 ≤ h, h < 18446744073709551616, 0 ≤ l, l < 18446744073709551616])
  | _ => none
theorem divC_okA (args res l) (h : divC2 args = some (res, l)) (hl : AllP l) : CallsD Try.prog 67 args res := by
  unfold divC2 at h; split at h
  · simp only [Option.some.injEq, Prod.mk.injEq] at h
    obtain ⟨rfl, rfl⟩ := h; obtain ⟨h0, h1, h2, h3, h4, h5, _⟩ := hl
    exact divA_ok _ _ _ h0 h1 h2 h3 h4 h5
  · cases h
theorem divC_okB (args res l) (h : divC2 args = some (res, l)) (hl : AllP l) : CallsD Try.prog 71 args res := by
  unfold divC2 at h; split at h
  · simp only [Option.some.injEq, Prod.mk.injEq] at h
    obtain ⟨rfl, rfl⟩ := h; obtain ⟨h0, h1, h2, h3, h4, h5, _⟩ := hl
    exact refDiv_ok _ _ _ h0 h1 h2 h3 h4 h5
  · cases h
def X5 : Contracts := addCon 67 (.call divC2) (addCon 71 (.call divC2) X4)
theorem hX5 : ConOK Try.prog X5 := addCall_ok divC_okA (addCall_ok divC_okB hX4)
end MeterS

namespace MeterS
open Go Go.Dam Go.Proofs
set_option maxRecDepth 1000000
set_option linter.unusedVariables false
set_option linter.unusedSectionVars false
set_option linter.unusedSimpArgs false
variable [Glo]
theorem ofA_p0 (x : Int) : fnX Try.prog X4 100000 [] 52 [D.v (Value.int IntKind.u64 x)] = some (D.agg [D.v (Value.int IntKind.u64 0), D.v (Value.int IntKind.u64 x)], []) := by kernel_rfl
theorem ofA_calls (x : Int) (res : D)
  (h0 : (True) ∧ res = D.agg [D.v (Value.int IntKind.u64 0), D.v (Value.int IntKind.u64 x)]) :
  CallsD Try.prog 52 [D.v (Value.int IntKind.u64 x)] res := by
  exact of_path hX4 (ofA_p0 x) trivial (h0).2
theorem smallA_p0 (h : Int) (l : Int) : fnX Try.prog X4 100000 [.d true] 54 [D.agg [D.v (Value.int IntKind.u64 h), D.v (Value.int IntKind.u64 l)]] = some (D.tup [D.v (Value.int IntKind.u64 0), D.v (Value.int IntKind.i64 16)], [cmpI BinOp.neq h 0 = true]) := by kernel_rfl
theorem smallA_p1 (h : Int) (l : Int) : fnX Try.prog X4 100000 [.d false] 54 [D.agg [D.v (Value.int IntKind.u64 h), D.v (Value.int IntKind.u64 l)]] = some (D.tup [D.v (Value.int IntKind.u64 l), D.v (Value.int IntKind.i64 0)], [cmpI BinOp.neq h 0 = false]) := by kernel_rfl
theorem smallA_calls (h : Int) (l : Int) (res : D)
  (h0 : ((cmpI BinOp.neq h 0) = true) → (True) ∧ res = D.tup [D.v (Value.int IntKind.u64 0), D.v (Value.int IntKind.i64 16)])
  (h1 : ((cmpI BinOp.neq h 0) = false) → (True) ∧ res = D.tup [D.v (Value.int IntKind.u64 l), D.v (Value.int IntKind.i64 0)]) :
  CallsD Try.prog 54 [D.agg [D.v (Value.int IntKind.u64 h), D.v (Value.int IntKind.u64 l)]] res := by
  cases e0 : (cmpI BinOp.neq h 0) with
  | true =>
    exact of_path hX4 (smallA_p0 h l) ⟨e0, trivial⟩ (h0 e0).2
  | false =>
    exact of_path hX4 (smallA_p1 h l) ⟨e0, trivial⟩ (h1 e0).2
def ofC : List D → Option (D × List Prop)
  | [.v (.int .u64 x)] => some (.agg [u64 0, u64 x], [])
  | _ => none
def smallC : List D → Option (D × List Prop)
  | [.agg [.v (.int .u64 h), .v (.int .u64 l)]] => some (.tup [u64 (if h = 0 then l else 0), i64 (if h = 0 then 0 else 16)], [])
  | _ => none
theorem ofC_ok (args res l) (h : ofC args = some (res, l)) (hl : AllP l) : CallsD Try.prog 52 args res := by
  unfold ofC at h; split at h
  · simp only [Option.some.injEq, Prod.mk.injEq] at h
    obtain ⟨rfl, rfl⟩ := h
    exact ofA_calls _ _ ⟨trivial, rfl⟩
  · cases h
theorem smallC_ok (args res l) (h : smallC args = some (res, l)) (hl : AllP l) : CallsD Try.prog 54 args res := by
  unfold smallC at h; split at h
  · simp only [Option.some.injEq, Prod.mk.injEq] at h
    obtain ⟨rfl, rfl⟩ := h
    refine smallA_calls _ _ _ ?_ ?_
    · intro a; rw [neq_t] at a; rw [if_neg a, if_neg a]; exact ⟨trivial, rfl⟩
    · intro a; rw [neq_f] at a; rw [if_pos a, if_pos a]; exact ⟨trivial, rfl⟩
  · cases h
def X6 : Contracts := addCon 52 (.call ofC) (addCon 54 (.call smallC) X5)
theorem hX6 : ConOK Try.prog X6 := addCall_ok ofC_ok (addCall_ok smallC_ok hX5)
end MeterS
