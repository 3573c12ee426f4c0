/- The functions of the folder meter and what they reach: what they compute. No condition. -/
import Derived.Test.YtkbdboclckpmgaaMetR
set_option linter.unusedSectionVars false
set_option linter.unusedVariables false
set_option linter.unusedSimpArgs false
namespace MeterS
open Go Go.Dam Go.Proofs
set_option maxRecDepth 1000000
set_option linter.unusedVariables false
set_option linter.unusedSectionVars false
set_option linter.unusedSimpArgs false
theorem floor_two {n1 n2 p : Int} (hp : 0 < p) : n1 / p + n2 / p ≤ (n1 + n2) / p ∧ (n1 + n2) / p ≤ n1 / p + n2 / p + 1 := by
  have a := Int.mul_ediv_add_emod n1 p
  have b := Int.mul_ediv_add_emod n2 p
  have a1 := Int.emod_nonneg n1 (show p ≠ 0 by omega)
  have b1 := Int.emod_nonneg n2 (show p ≠ 0 by omega)
  have a2 := Int.emod_lt_of_pos n1 hp
  have b2 := Int.emod_lt_of_pos n2 hp
  have e : n1 + n2 = (n1 % p + n2 % p) + p * (n1 / p + n2 / p) := by rw [Int.mul_add]; omega
  rw [e, Int.add_mul_ediv_left _ _ (by omega)]
  have h0 : 0 ≤ (n1 % p + n2 % p) / p := Int.ediv_nonneg (by omega) (by omega)
  have h1 : (n1 % p + n2 % p) / p < 2 := by rw [Int.ediv_lt_iff_lt_mul hp]; omega
  omega
theorem bE_eq {b r p f t : Int} (h : limE b r p = 0) (hf : f ≤ t) : bE b r p f t = if wN b r p (t - f) < 18446744073709551616 then 0 else 16 := by
  unfold bE; rw [if_pos h, if_pos hf]
theorem bE_small {b r p f t : Int} (h : limE b r p = 0) (hf : f ≤ t) (hw : wN b r p (t - f) < 18446744073709551616) : bE b r p f t = 0 ∧ bV b r p f t = wN b r p (t - f) := by
  have e : bE b r p f t = 0 := by rw [bE_eq h hf, if_pos hw]
  exact ⟨e, by unfold bV; rw [if_pos e]⟩
theorem bE_great {b r p f t : Int} (h : limE b r p = 0) (hf : f ≤ t) (hw : ¬ wN b r p (t - f) < 18446744073709551616) : bE b r p f t = 16 := by
  rw [bE_eq h hf, if_neg hw]
variable [Glo]
theorem law7_p0 (b : Int) (r : Int) (p : Int) (x : Int) (y : Int) (z : Int) (m : Int) : fnX Try.prog X12 100000 [.d true, .c 7] 7 [D.agg [D.v (Value.int IntKind.i64 b), D.v (Value.int IntKind.i64 r), D.v (Value.int IntKind.i64 p)],
  D.v (Value.int IntKind.u64 x), D.v (Value.int IntKind.u64 y), D.v (Value.int IntKind.u64 z),
  D.v (Value.int IntKind.i64 m)] = some (D.v (Value.bool true), [cmpI BinOp.neq (limE b r p) 0 = true]) := by kernel_rfl
theorem law7_p1 (b : Int) (r : Int) (p : Int) (x : Int) (y : Int) (z : Int) (m : Int) : fnX Try.prog X12 100000 [.d false, .c 1, .d true, .c 4] 7 [D.agg [D.v (Value.int IntKind.i64 b), D.v (Value.int IntKind.i64 r), D.v (Value.int IntKind.i64 p)],
  D.v (Value.int IntKind.u64 x), D.v (Value.int IntKind.u64 y), D.v (Value.int IntKind.u64 z),
  D.v (Value.int IntKind.i64 m)] = some (D.v (Value.bool true), [cmpI BinOp.gtr x y = true,
  cmpI BinOp.neq (limE b r p) 0 = false]) := by kernel_rfl
theorem law7_p2 (b : Int) (r : Int) (p : Int) (x : Int) (y : Int) (z : Int) (m : Int) : fnX Try.prog X12 100000 [.d false, .c 1, .d false, .c 1, .d true, .c 1] 7 [D.agg [D.v (Value.int IntKind.i64 b), D.v (Value.int IntKind.i64 r), D.v (Value.int IntKind.i64 p)],
  D.v (Value.int IntKind.u64 x), D.v (Value.int IntKind.u64 y), D.v (Value.int IntKind.u64 z),
  D.v (Value.int IntKind.i64 m)] = some (D.v (Value.bool true), [cmpI BinOp.gtr y z = true,
  cmpI BinOp.gtr x y = false,
  cmpI BinOp.neq (limE b r p) 0 = false]) := by kernel_rfl
theorem law7_p3 (b : Int) (r : Int) (p : Int) (x : Int) (y : Int) (z : Int) (m : Int) : fnX Try.prog X12 100000 [.d false, .c 1, .d false, .c 1, .d false, .c 1, .d true, .c 1, .d true, .c 1, .d true, .c 5, .d true, .c 2] 7 [D.agg [D.v (Value.int IntKind.i64 b), D.v (Value.int IntKind.i64 r), D.v (Value.int IntKind.i64 p)],
  D.v (Value.int IntKind.u64 x), D.v (Value.int IntKind.u64 y), D.v (Value.int IntKind.u64 z),
  D.v (Value.int IntKind.i64 m)] = some (D.v (Value.bool true), [cmpI BinOp.eql (bE b r p y z) 0 = true,
  cmpI BinOp.eql (bE b r p x y) 0 = true,
  cmpI BinOp.eql (bE b r p x z) 16 = true,
  cmpI BinOp.neq (bE b r p x z) 0 = true,
  0 ≤ x,
  x < 18446744073709551616,
  0 ≤ z,
  z < 18446744073709551616,
  0 ≤ y,
  y < 18446744073709551616,
  0 ≤ z,
  z < 18446744073709551616,
  0 ≤ x,
  x < 18446744073709551616,
  0 ≤ y,
  y < 18446744073709551616,
  cmpI BinOp.gtr y z = false,
  cmpI BinOp.gtr x y = false,
  cmpI BinOp.neq (limE b r p) 0 = false]) := by kernel_rfl
theorem law7_p4 (b : Int) (r : Int) (p : Int) (x : Int) (y : Int) (z : Int) (m : Int) : fnX Try.prog X12 100000 [.d false, .c 1, .d false, .c 1, .d false, .c 1, .d true, .c 1, .d true, .c 1, .d true, .c 5, .d false, .c 2] 7 [D.agg [D.v (Value.int IntKind.i64 b), D.v (Value.int IntKind.i64 r), D.v (Value.int IntKind.i64 p)],
  D.v (Value.int IntKind.u64 x), D.v (Value.int IntKind.u64 y), D.v (Value.int IntKind.u64 z),
  D.v (Value.int IntKind.i64 m)] = some (D.v (Value.bool (cmpI BinOp.eql (bE b r p y z) (bE b r p x z))), [cmpI BinOp.eql (bE b r p y z) 0 = false,
  cmpI BinOp.eql (bE b r p x y) 0 = true,
  cmpI BinOp.eql (bE b r p x z) 16 = true,
  cmpI BinOp.neq (bE b r p x z) 0 = true,
  0 ≤ x,
  x < 18446744073709551616,
  0 ≤ z,
  z < 18446744073709551616,
  0 ≤ y,
  y < 18446744073709551616,
  0 ≤ z,
  z < 18446744073709551616,
  0 ≤ x,
  x < 18446744073709551616,
  0 ≤ y,
  y < 18446744073709551616,
  cmpI BinOp.gtr y z = false,
  cmpI BinOp.gtr x y = false,
  cmpI BinOp.neq (limE b r p) 0 = false]) := by kernel_rfl
theorem law7_p5 (b : Int) (r : Int) (p : Int) (x : Int) (y : Int) (z : Int) (m : Int) : fnX Try.prog X12 100000 [.d false, .c 1, .d false, .c 1, .d false, .c 1, .d true, .c 1, .d true, .c 1, .d false, .c 2, .d true, .c 1, .d true, .c 2] 7 [D.agg [D.v (Value.int IntKind.i64 b), D.v (Value.int IntKind.i64 r), D.v (Value.int IntKind.i64 p)],
  D.v (Value.int IntKind.u64 x), D.v (Value.int IntKind.u64 y), D.v (Value.int IntKind.u64 z),
  D.v (Value.int IntKind.i64 m)] = some (D.v (Value.bool true), [cmpI BinOp.eql (bE b r p y z) 0 = true,
  cmpI BinOp.eql (bE b r p x y) (bE b r p x z) = true,
  cmpI BinOp.eql (bE b r p x y) 0 = false,
  cmpI BinOp.eql (bE b r p x z) 16 = true,
  cmpI BinOp.neq (bE b r p x z) 0 = true,
  0 ≤ x,
  x < 18446744073709551616,
  0 ≤ z,
  z < 18446744073709551616,
  0 ≤ y,
  y < 18446744073709551616,
  0 ≤ z,
  z < 18446744073709551616,
  0 ≤ x,
  x < 18446744073709551616,
  0 ≤ y,
  y < 18446744073709551616,
  cmpI BinOp.gtr y z = false,
  cmpI BinOp.gtr x y = false,
  cmpI BinOp.neq (limE b r p) 0 = false]) := by kernel_rfl
theorem law7_p6 (b : Int) (r : Int) (p : Int) (x : Int) (y : Int) (z : Int) (m : Int) : fnX Try.prog X12 100000 [.d false, .c 1, .d false, .c 1, .d false, .c 1, .d true, .c 1, .d true, .c 1, .d false, .c 2, .d true, .c 1, .d false, .c 2] 7 [D.agg [D.v (Value.int IntKind.i64 b), D.v (Value.int IntKind.i64 r), D.v (Value.int IntKind.i64 p)],
  D.v (Value.int IntKind.u64 x), D.v (Value.int IntKind.u64 y), D.v (Value.int IntKind.u64 z),
  D.v (Value.int IntKind.i64 m)] = some (D.v (Value.bool (cmpI BinOp.eql (bE b r p y z) (bE b r p x z))), [cmpI BinOp.eql (bE b r p y z) 0 = false,
  cmpI BinOp.eql (bE b r p x y) (bE b r p x z) = true,
  cmpI BinOp.eql (bE b r p x y) 0 = false,
  cmpI BinOp.eql (bE b r p x z) 16 = true,
  cmpI BinOp.neq (bE b r p x z) 0 = true,
  0 ≤ x,
  x < 18446744073709551616,
  0 ≤ z,
  z < 18446744073709551616,
  0 ≤ y,
  y < 18446744073709551616,
  0 ≤ z,
  z < 18446744073709551616,
  0 ≤ x,
  x < 18446744073709551616,
  0 ≤ y,
  y < 18446744073709551616,
  cmpI BinOp.gtr y z = false,
  cmpI BinOp.gtr x y = false,
  cmpI BinOp.neq (limE b r p) 0 = false]) := by kernel_rfl
theorem law7_p7 (b : Int) (r : Int) (p : Int) (x : Int) (y : Int) (z : Int) (m : Int) : fnX Try.prog X12 100000 [.d false, .c 1, .d false, .c 1, .d false, .c 1, .d true, .c 1, .d true, .c 1, .d false, .c 2, .d false, .c 2] 7 [D.agg [D.v (Value.int IntKind.i64 b), D.v (Value.int IntKind.i64 r), D.v (Value.int IntKind.i64 p)],
  D.v (Value.int IntKind.u64 x), D.v (Value.int IntKind.u64 y), D.v (Value.int IntKind.u64 z),
  D.v (Value.int IntKind.i64 m)] = some (D.v (Value.bool false), [cmpI BinOp.eql (bE b r p x y) (bE b r p x z) = false,
  cmpI BinOp.eql (bE b r p x y) 0 = false,
  cmpI BinOp.eql (bE b r p x z) 16 = true,
  cmpI BinOp.neq (bE b r p x z) 0 = true,
  0 ≤ x,
  x < 18446744073709551616,
  0 ≤ z,
  z < 18446744073709551616,
  0 ≤ y,
  y < 18446744073709551616,
  0 ≤ z,
  z < 18446744073709551616,
  0 ≤ x,
  x < 18446744073709551616,
  0 ≤ y,
  y < 18446744073709551616,
  cmpI BinOp.gtr y z = false,
  cmpI BinOp.gtr x y = false,
  cmpI BinOp.neq (limE b r p) 0 = false]) := by kernel_rfl
theorem law7_p8 (b : Int) (r : Int) (p : Int) (x : Int) (y : Int) (z : Int) (m : Int) : fnX Try.prog X12 100000 [.d false, .c 1, .d false, .c 1, .d false, .c 1, .d true, .c 1, .d false, .c 6] 7 [D.agg [D.v (Value.int IntKind.i64 b), D.v (Value.int IntKind.i64 r), D.v (Value.int IntKind.i64 p)],
  D.v (Value.int IntKind.u64 x), D.v (Value.int IntKind.u64 y), D.v (Value.int IntKind.u64 z),
  D.v (Value.int IntKind.i64 m)] = some (D.v (Value.bool false), [cmpI BinOp.eql (bE b r p x z) 16 = false,
  cmpI BinOp.neq (bE b r p x z) 0 = true,
  0 ≤ x,
  x < 18446744073709551616,
  0 ≤ z,
  z < 18446744073709551616,
  0 ≤ y,
  y < 18446744073709551616,
  0 ≤ z,
  z < 18446744073709551616,
  0 ≤ x,
  x < 18446744073709551616,
  0 ≤ y,
  y < 18446744073709551616,
  cmpI BinOp.gtr y z = false,
  cmpI BinOp.gtr x y = false,
  cmpI BinOp.neq (limE b r p) 0 = false]) := by kernel_rfl
theorem law7_p9 (b : Int) (r : Int) (p : Int) (x : Int) (y : Int) (z : Int) (m : Int) : fnX Try.prog X12 100000 [.d false, .c 1, .d false, .c 1, .d false, .c 1, .d false, .d true, .c 17] 7 [D.agg [D.v (Value.int IntKind.i64 b), D.v (Value.int IntKind.i64 r), D.v (Value.int IntKind.i64 p)],
  D.v (Value.int IntKind.u64 x), D.v (Value.int IntKind.u64 y), D.v (Value.int IntKind.u64 z),
  D.v (Value.int IntKind.i64 m)] = some (D.v (Value.bool false), [cmpI BinOp.neq (bE b r p x y) 0 = true,
  cmpI BinOp.neq (bE b r p x z) 0 = false,
  0 ≤ x,
  x < 18446744073709551616,
  0 ≤ z,
  z < 18446744073709551616,
  0 ≤ y,
  y < 18446744073709551616,
  0 ≤ z,
  z < 18446744073709551616,
  0 ≤ x,
  x < 18446744073709551616,
  0 ≤ y,
  y < 18446744073709551616,
  cmpI BinOp.gtr y z = false,
  cmpI BinOp.gtr x y = false,
  cmpI BinOp.neq (limE b r p) 0 = false]) := by kernel_rfl
theorem law7_p10 (b : Int) (r : Int) (p : Int) (x : Int) (y : Int) (z : Int) (m : Int) : fnX Try.prog X12 100000 [.d false, .c 1, .d false, .c 1, .d false, .c 1, .d false, .d false, .c 0, .d true, .c 15] 7 [D.agg [D.v (Value.int IntKind.i64 b), D.v (Value.int IntKind.i64 r), D.v (Value.int IntKind.i64 p)],
  D.v (Value.int IntKind.u64 x), D.v (Value.int IntKind.u64 y), D.v (Value.int IntKind.u64 z),
  D.v (Value.int IntKind.i64 m)] = some (D.v (Value.bool false), [cmpI BinOp.neq (bE b r p y z) 0 = true,
  cmpI BinOp.neq (bE b r p x y) 0 = false,
  cmpI BinOp.neq (bE b r p x z) 0 = false,
  0 ≤ x,
  x < 18446744073709551616,
  0 ≤ z,
  z < 18446744073709551616,
  0 ≤ y,
  y < 18446744073709551616,
  0 ≤ z,
  z < 18446744073709551616,
  0 ≤ x,
  x < 18446744073709551616,
  0 ≤ y,
  y < 18446744073709551616,
  cmpI BinOp.gtr y z = false,
  cmpI BinOp.gtr x y = false,
  cmpI BinOp.neq (limE b r p) 0 = false]) := by kernel_rfl
theorem law7_p11 (b : Int) (r : Int) (p : Int) (x : Int) (y : Int) (z : Int) (m : Int) : fnX Try.prog X12 100000 [.d false, .c 1, .d false, .c 1, .d false, .c 1, .d false, .d false, .c 0, .d false, .c 1, .d true, .c 12] 7 [D.agg [D.v (Value.int IntKind.i64 b), D.v (Value.int IntKind.i64 r), D.v (Value.int IntKind.i64 p)],
  D.v (Value.int IntKind.u64 x), D.v (Value.int IntKind.u64 y), D.v (Value.int IntKind.u64 z),
  D.v (Value.int IntKind.i64 m)] = some (D.v (Value.bool false), [cmpI BinOp.gtr (bV b r p x y) (bV b r p x z) = true,
  cmpI BinOp.neq (bE b r p y z) 0 = false,
  cmpI BinOp.neq (bE b r p x y) 0 = false,
  cmpI BinOp.neq (bE b r p x z) 0 = false,
  0 ≤ x,
  x < 18446744073709551616,
  0 ≤ z,
  z < 18446744073709551616,
  0 ≤ y,
  y < 18446744073709551616,
  0 ≤ z,
  z < 18446744073709551616,
  0 ≤ x,
  x < 18446744073709551616,
  0 ≤ y,
  y < 18446744073709551616,
  cmpI BinOp.gtr y z = false,
  cmpI BinOp.gtr x y = false,
  cmpI BinOp.neq (limE b r p) 0 = false]) := by kernel_rfl
theorem law7_p12 (b : Int) (r : Int) (p : Int) (x : Int) (y : Int) (z : Int) (m : Int) : fnX Try.prog X12 100000 [.d false, .c 1, .d false, .c 1, .d false, .c 1, .d false, .d false, .c 0, .d false, .c 1, .d false, .c 1, .d true, .c 9] 7 [D.agg [D.v (Value.int IntKind.i64 b), D.v (Value.int IntKind.i64 r), D.v (Value.int IntKind.i64 p)],
  D.v (Value.int IntKind.u64 x), D.v (Value.int IntKind.u64 y), D.v (Value.int IntKind.u64 z),
  D.v (Value.int IntKind.i64 m)] = some (D.v (Value.bool false), [cmpI BinOp.gtr (bV b r p y z) (bV b r p x z) = true,
  cmpI BinOp.gtr (bV b r p x y) (bV b r p x z) = false,
  cmpI BinOp.neq (bE b r p y z) 0 = false,
  cmpI BinOp.neq (bE b r p x y) 0 = false,
  cmpI BinOp.neq (bE b r p x z) 0 = false,
  0 ≤ x,
  x < 18446744073709551616,
  0 ≤ z,
  z < 18446744073709551616,
  0 ≤ y,
  y < 18446744073709551616,
  0 ≤ z,
  z < 18446744073709551616,
  0 ≤ x,
  x < 18446744073709551616,
  0 ≤ y,
  y < 18446744073709551616,
  cmpI BinOp.gtr y z = false,
  cmpI BinOp.gtr x y = false,
  cmpI BinOp.neq (limE b r p) 0 = false]) := by kernel_rfl
theorem law7_p13 (b : Int) (r : Int) (p : Int) (x : Int) (y : Int) (z : Int) (m : Int) : fnX Try.prog X12 100000 [.d false, .c 1, .d false, .c 1, .d false, .c 1, .d false, .d false, .c 0, .d false, .c 1, .d false, .c 1, .d false, .c 3, .d true, .c 4] 7 [D.agg [D.v (Value.int IntKind.i64 b), D.v (Value.int IntKind.i64 r), D.v (Value.int IntKind.i64 p)],
  D.v (Value.int IntKind.u64 x), D.v (Value.int IntKind.u64 y), D.v (Value.int IntKind.u64 z),
  D.v (Value.int IntKind.i64 m)] = some (D.v (Value.bool false), [cmpI BinOp.lss (bV b r p x y) (IntKind.u64.wrap b) = true,
  cmpI BinOp.gtr (bV b r p y z) (bV b r p x z) = false,
  cmpI BinOp.gtr (bV b r p x y) (bV b r p x z) = false,
  cmpI BinOp.neq (bE b r p y z) 0 = false,
  cmpI BinOp.neq (bE b r p x y) 0 = false,
  cmpI BinOp.neq (bE b r p x z) 0 = false,
  0 ≤ x,
  x < 18446744073709551616,
  0 ≤ z,
  z < 18446744073709551616,
  0 ≤ y,
  y < 18446744073709551616,
  0 ≤ z,
  z < 18446744073709551616,
  0 ≤ x,
  x < 18446744073709551616,
  0 ≤ y,
  y < 18446744073709551616,
  cmpI BinOp.gtr y z = false,
  cmpI BinOp.gtr x y = false,
  cmpI BinOp.neq (limE b r p) 0 = false]) := by kernel_rfl
theorem law7_p14 (b : Int) (r : Int) (p : Int) (x : Int) (y : Int) (z : Int) (m : Int) : fnX Try.prog X12 100000 [.d false, .c 1, .d false, .c 1, .d false, .c 1, .d false, .d false, .c 0, .d false, .c 1, .d false, .c 1, .d false, .c 3, .d false, .c 3, .d true] 7 [D.agg [D.v (Value.int IntKind.i64 b), D.v (Value.int IntKind.i64 r), D.v (Value.int IntKind.i64 p)],
  D.v (Value.int IntKind.u64 x), D.v (Value.int IntKind.u64 y), D.v (Value.int IntKind.u64 z),
  D.v (Value.int IntKind.i64 m)] = some (D.v (Value.bool false), [cmpI BinOp.gtr (opI BinOp.sub IntKind.u64 (bV b r p x z) (bV b r p x y)) (bV b r p y z) = true,
  cmpI BinOp.lss (bV b r p x y) (IntKind.u64.wrap b) = false,
  cmpI BinOp.gtr (bV b r p y z) (bV b r p x z) = false,
  cmpI BinOp.gtr (bV b r p x y) (bV b r p x z) = false,
  cmpI BinOp.neq (bE b r p y z) 0 = false,
  cmpI BinOp.neq (bE b r p x y) 0 = false,
  cmpI BinOp.neq (bE b r p x z) 0 = false,
  0 ≤ x,
  x < 18446744073709551616,
  0 ≤ z,
  z < 18446744073709551616,
  0 ≤ y,
  y < 18446744073709551616,
  0 ≤ z,
  z < 18446744073709551616,
  0 ≤ x,
  x < 18446744073709551616,
  0 ≤ y,
  y < 18446744073709551616,
  cmpI BinOp.gtr y z = false,
  cmpI BinOp.gtr x y = false,
  cmpI BinOp.neq (limE b r p) 0 = false]) := by kernel_rfl
theorem law7_p15 (b : Int) (r : Int) (p : Int) (x : Int) (y : Int) (z : Int) (m : Int) : fnX Try.prog X12 100000 [.d false, .c 1, .d false, .c 1, .d false, .c 1, .d false, .d false, .c 0, .d false, .c 1, .d false, .c 1, .d false, .c 3, .d false, .c 3, .d false, .d true, .c 23] 7 [D.agg [D.v (Value.int IntKind.i64 b), D.v (Value.int IntKind.i64 r), D.v (Value.int IntKind.i64 p)],
  D.v (Value.int IntKind.u64 x), D.v (Value.int IntKind.u64 y), D.v (Value.int IntKind.u64 z),
  D.v (Value.int IntKind.i64 m)] = some (D.v (Value.bool false), [cmpI BinOp.neq
    ((if
          opI BinOp.sub IntKind.u64 (bV b r p x z) (IntKind.u64.wrap b) * IntKind.u64.wrap p / 18446744073709551616 *
                18446744073709551616 +
              opI BinOp.sub IntKind.u64 (bV b r p x z) (IntKind.u64.wrap b) * IntKind.u64.wrap p %
                18446744073709551616 ≤
            opI BinOp.sub IntKind.u64 z x * IntKind.u64.wrap r / 18446744073709551616 * 18446744073709551616 +
              opI BinOp.sub IntKind.u64 z x * IntKind.u64.wrap r % 18446744073709551616 then
        opI BinOp.sub IntKind.u64 z x * IntKind.u64.wrap r / 18446744073709551616 * 18446744073709551616 +
            opI BinOp.sub IntKind.u64 z x * IntKind.u64.wrap r % 18446744073709551616 -
          (opI BinOp.sub IntKind.u64 (bV b r p x z) (IntKind.u64.wrap b) * IntKind.u64.wrap p / 18446744073709551616 *
              18446744073709551616 +
            opI BinOp.sub IntKind.u64 (bV b r p x z) (IntKind.u64.wrap b) * IntKind.u64.wrap p % 18446744073709551616)
      else 0) /
      18446744073709551616)
    0 =
  true,
  opI BinOp.sub IntKind.u64 z x * IntKind.u64.wrap r / 18446744073709551616 < 18446744073709551616,
  0 ≤ opI BinOp.sub IntKind.u64 z x * IntKind.u64.wrap r % 18446744073709551616,
  opI BinOp.sub IntKind.u64 z x * IntKind.u64.wrap r % 18446744073709551616 < 18446744073709551616,
  0 ≤ opI BinOp.sub IntKind.u64 (bV b r p x z) (IntKind.u64.wrap b) * IntKind.u64.wrap p / 18446744073709551616,
  0 ≤ opI BinOp.sub IntKind.u64 (bV b r p x z) (IntKind.u64.wrap b) * IntKind.u64.wrap p % 18446744073709551616,
  opI BinOp.sub IntKind.u64 (bV b r p x z) (IntKind.u64.wrap b) * IntKind.u64.wrap p % 18446744073709551616 <
  18446744073709551616,
  0 ≤ opI BinOp.sub IntKind.u64 (bV b r p x z) (IntKind.u64.wrap b),
  opI BinOp.sub IntKind.u64 (bV b r p x z) (IntKind.u64.wrap b) < 18446744073709551616,
  0 ≤ IntKind.u64.wrap p,
  IntKind.u64.wrap p < 18446744073709551616,
  0 ≤ opI BinOp.sub IntKind.u64 z x,
  opI BinOp.sub IntKind.u64 z x < 18446744073709551616,
  0 ≤ IntKind.u64.wrap r,
  IntKind.u64.wrap r < 18446744073709551616,
  cmpI BinOp.gtr (opI BinOp.sub IntKind.u64 (bV b r p x z) (bV b r p x y)) (bV b r p y z) = false,
  cmpI BinOp.lss (bV b r p x y) (IntKind.u64.wrap b) = false,
  cmpI BinOp.gtr (bV b r p y z) (bV b r p x z) = false,
  cmpI BinOp.gtr (bV b r p x y) (bV b r p x z) = false,
  cmpI BinOp.neq (bE b r p y z) 0 = false,
  cmpI BinOp.neq (bE b r p x y) 0 = false,
  cmpI BinOp.neq (bE b r p x z) 0 = false,
  0 ≤ x,
  x < 18446744073709551616,
  0 ≤ z,
  z < 18446744073709551616,
  0 ≤ y,
  y < 18446744073709551616,
  0 ≤ z,
  z < 18446744073709551616,
  0 ≤ x,
  x < 18446744073709551616,
  0 ≤ y,
  y < 18446744073709551616,
  cmpI BinOp.gtr y z = false,
  cmpI BinOp.gtr x y = false,
  cmpI BinOp.neq (limE b r p) 0 = false]) := by kernel_rfl
theorem law7_p16 (b : Int) (r : Int) (p : Int) (x : Int) (y : Int) (z : Int) (m : Int) : fnX Try.prog X12 100000 [.d false, .c 1, .d false, .c 1, .d false, .c 1, .d false, .d false, .c 0, .d false, .c 1, .d false, .c 1, .d false, .c 3, .d false, .c 3, .d false, .d false, .c 4, .d true, .c 17] 7 [D.agg [D.v (Value.int IntKind.i64 b), D.v (Value.int IntKind.i64 r), D.v (Value.int IntKind.i64 p)],
  D.v (Value.int IntKind.u64 x), D.v (Value.int IntKind.u64 y), D.v (Value.int IntKind.u64 z),
  D.v (Value.int IntKind.i64 m)] = some (D.v (Value.bool false), [cmpI BinOp.geq
    ((if
          opI BinOp.sub IntKind.u64 (bV b r p x z) (IntKind.u64.wrap b) * IntKind.u64.wrap p / 18446744073709551616 *
                18446744073709551616 +
              opI BinOp.sub IntKind.u64 (bV b r p x z) (IntKind.u64.wrap b) * IntKind.u64.wrap p %
                18446744073709551616 ≤
            opI BinOp.sub IntKind.u64 z x * IntKind.u64.wrap r / 18446744073709551616 * 18446744073709551616 +
              opI BinOp.sub IntKind.u64 z x * IntKind.u64.wrap r % 18446744073709551616 then
        opI BinOp.sub IntKind.u64 z x * IntKind.u64.wrap r / 18446744073709551616 * 18446744073709551616 +
            opI BinOp.sub IntKind.u64 z x * IntKind.u64.wrap r % 18446744073709551616 -
          (opI BinOp.sub IntKind.u64 (bV b r p x z) (IntKind.u64.wrap b) * IntKind.u64.wrap p / 18446744073709551616 *
              18446744073709551616 +
            opI BinOp.sub IntKind.u64 (bV b r p x z) (IntKind.u64.wrap b) * IntKind.u64.wrap p % 18446744073709551616)
      else 0) %
      18446744073709551616)
    (IntKind.u64.wrap p) =
  true,
  cmpI BinOp.neq
    ((if
          opI BinOp.sub IntKind.u64 (bV b r p x z) (IntKind.u64.wrap b) * IntKind.u64.wrap p / 18446744073709551616 *
                18446744073709551616 +
              opI BinOp.sub IntKind.u64 (bV b r p x z) (IntKind.u64.wrap b) * IntKind.u64.wrap p %
                18446744073709551616 ≤
            opI BinOp.sub IntKind.u64 z x * IntKind.u64.wrap r / 18446744073709551616 * 18446744073709551616 +
              opI BinOp.sub IntKind.u64 z x * IntKind.u64.wrap r % 18446744073709551616 then
        opI BinOp.sub IntKind.u64 z x * IntKind.u64.wrap r / 18446744073709551616 * 18446744073709551616 +
            opI BinOp.sub IntKind.u64 z x * IntKind.u64.wrap r % 18446744073709551616 -
          (opI BinOp.sub IntKind.u64 (bV b r p x z) (IntKind.u64.wrap b) * IntKind.u64.wrap p / 18446744073709551616 *
              18446744073709551616 +
            opI BinOp.sub IntKind.u64 (bV b r p x z) (IntKind.u64.wrap b) * IntKind.u64.wrap p % 18446744073709551616)
      else 0) /
      18446744073709551616)
    0 =
  false,
  opI BinOp.sub IntKind.u64 z x * IntKind.u64.wrap r / 18446744073709551616 < 18446744073709551616,
  0 ≤ opI BinOp.sub IntKind.u64 z x * IntKind.u64.wrap r % 18446744073709551616,
  opI BinOp.sub IntKind.u64 z x * IntKind.u64.wrap r % 18446744073709551616 < 18446744073709551616,
  0 ≤ opI BinOp.sub IntKind.u64 (bV b r p x z) (IntKind.u64.wrap b) * IntKind.u64.wrap p / 18446744073709551616,
  0 ≤ opI BinOp.sub IntKind.u64 (bV b r p x z) (IntKind.u64.wrap b) * IntKind.u64.wrap p % 18446744073709551616,
  opI BinOp.sub IntKind.u64 (bV b r p x z) (IntKind.u64.wrap b) * IntKind.u64.wrap p % 18446744073709551616 <
  18446744073709551616,
  0 ≤ opI BinOp.sub IntKind.u64 (bV b r p x z) (IntKind.u64.wrap b),
  opI BinOp.sub IntKind.u64 (bV b r p x z) (IntKind.u64.wrap b) < 18446744073709551616,
  0 ≤ IntKind.u64.wrap p,
  IntKind.u64.wrap p < 18446744073709551616,
  0 ≤ opI BinOp.sub IntKind.u64 z x,
  opI BinOp.sub IntKind.u64 z x < 18446744073709551616,
  0 ≤ IntKind.u64.wrap r,
  IntKind.u64.wrap r < 18446744073709551616,
  cmpI BinOp.gtr (opI BinOp.sub IntKind.u64 (bV b r p x z) (bV b r p x y)) (bV b r p y z) = false,
  cmpI BinOp.lss (bV b r p x y) (IntKind.u64.wrap b) = false,
  cmpI BinOp.gtr (bV b r p y z) (bV b r p x z) = false,
  cmpI BinOp.gtr (bV b r p x y) (bV b r p x z) = false,
  cmpI BinOp.neq (bE b r p y z) 0 = false,
  cmpI BinOp.neq (bE b r p x y) 0 = false,
  cmpI BinOp.neq (bE b r p x z) 0 = false,
  0 ≤ x,
  x < 18446744073709551616,
  0 ≤ z,
  z < 18446744073709551616,
  0 ≤ y,
  y < 18446744073709551616,
  0 ≤ z,
  z < 18446744073709551616,
  0 ≤ x,
  x < 18446744073709551616,
  0 ≤ y,
  y < 18446744073709551616,
  cmpI BinOp.gtr y z = false,
  cmpI BinOp.gtr x y = false,
  cmpI BinOp.neq (limE b r p) 0 = false]) := by kernel_rfl
theorem law7_p17 (b : Int) (r : Int) (p : Int) (x : Int) (y : Int) (z : Int) (m : Int) : fnX Try.prog X12 100000 [.d false, .c 1, .d false, .c 1, .d false, .c 1, .d false, .d false, .c 0, .d false, .c 1, .d false, .c 1, .d false, .c 3, .d false, .c 3, .d false, .d false, .c 4, .d false, .c 16, .d true] 7 [D.agg [D.v (Value.int IntKind.i64 b), D.v (Value.int IntKind.i64 r), D.v (Value.int IntKind.i64 p)],
  D.v (Value.int IntKind.u64 x), D.v (Value.int IntKind.u64 y), D.v (Value.int IntKind.u64 z),
  D.v (Value.int IntKind.i64 m)] = some (D.v (Value.bool false), [cmpI BinOp.lss
    (cmpZ
      (opI BinOp.sub IntKind.u64 z x * IntKind.u64.wrap r / 18446744073709551616 * 18446744073709551616 +
        opI BinOp.sub IntKind.u64 z x * IntKind.u64.wrap r % 18446744073709551616)
      (opI BinOp.sub IntKind.u64 (bV b r p x z) (IntKind.u64.wrap b) * IntKind.u64.wrap p / 18446744073709551616 *
          18446744073709551616 +
        opI BinOp.sub IntKind.u64 (bV b r p x z) (IntKind.u64.wrap b) * IntKind.u64.wrap p % 18446744073709551616))
    0 =
  true,
  0 ≤ opI BinOp.sub IntKind.u64 z x * IntKind.u64.wrap r % 18446744073709551616,
  opI BinOp.sub IntKind.u64 z x * IntKind.u64.wrap r % 18446744073709551616 < 18446744073709551616,
  0 ≤ opI BinOp.sub IntKind.u64 (bV b r p x z) (IntKind.u64.wrap b) * IntKind.u64.wrap p % 18446744073709551616,
  opI BinOp.sub IntKind.u64 (bV b r p x z) (IntKind.u64.wrap b) * IntKind.u64.wrap p % 18446744073709551616 <
  18446744073709551616,
  0 ≤ opI BinOp.sub IntKind.u64 (bV b r p x z) (IntKind.u64.wrap b),
  opI BinOp.sub IntKind.u64 (bV b r p x z) (IntKind.u64.wrap b) < 18446744073709551616,
  0 ≤ IntKind.u64.wrap p,
  IntKind.u64.wrap p < 18446744073709551616,
  0 ≤ opI BinOp.sub IntKind.u64 z x,
  opI BinOp.sub IntKind.u64 z x < 18446744073709551616,
  0 ≤ IntKind.u64.wrap r,
  IntKind.u64.wrap r < 18446744073709551616,
  cmpI BinOp.geq
    ((if
          opI BinOp.sub IntKind.u64 (bV b r p x z) (IntKind.u64.wrap b) * IntKind.u64.wrap p / 18446744073709551616 *
                18446744073709551616 +
              opI BinOp.sub IntKind.u64 (bV b r p x z) (IntKind.u64.wrap b) * IntKind.u64.wrap p %
                18446744073709551616 ≤
            opI BinOp.sub IntKind.u64 z x * IntKind.u64.wrap r / 18446744073709551616 * 18446744073709551616 +
              opI BinOp.sub IntKind.u64 z x * IntKind.u64.wrap r % 18446744073709551616 then
        opI BinOp.sub IntKind.u64 z x * IntKind.u64.wrap r / 18446744073709551616 * 18446744073709551616 +
            opI BinOp.sub IntKind.u64 z x * IntKind.u64.wrap r % 18446744073709551616 -
          (opI BinOp.sub IntKind.u64 (bV b r p x z) (IntKind.u64.wrap b) * IntKind.u64.wrap p / 18446744073709551616 *
              18446744073709551616 +
            opI BinOp.sub IntKind.u64 (bV b r p x z) (IntKind.u64.wrap b) * IntKind.u64.wrap p % 18446744073709551616)
      else 0) %
      18446744073709551616)
    (IntKind.u64.wrap p) =
  false,
  cmpI BinOp.neq
    ((if
          opI BinOp.sub IntKind.u64 (bV b r p x z) (IntKind.u64.wrap b) * IntKind.u64.wrap p / 18446744073709551616 *
                18446744073709551616 +
              opI BinOp.sub IntKind.u64 (bV b r p x z) (IntKind.u64.wrap b) * IntKind.u64.wrap p %
                18446744073709551616 ≤
            opI BinOp.sub IntKind.u64 z x * IntKind.u64.wrap r / 18446744073709551616 * 18446744073709551616 +
              opI BinOp.sub IntKind.u64 z x * IntKind.u64.wrap r % 18446744073709551616 then
        opI BinOp.sub IntKind.u64 z x * IntKind.u64.wrap r / 18446744073709551616 * 18446744073709551616 +
            opI BinOp.sub IntKind.u64 z x * IntKind.u64.wrap r % 18446744073709551616 -
          (opI BinOp.sub IntKind.u64 (bV b r p x z) (IntKind.u64.wrap b) * IntKind.u64.wrap p / 18446744073709551616 *
              18446744073709551616 +
            opI BinOp.sub IntKind.u64 (bV b r p x z) (IntKind.u64.wrap b) * IntKind.u64.wrap p % 18446744073709551616)
      else 0) /
      18446744073709551616)
    0 =
  false,
  opI BinOp.sub IntKind.u64 z x * IntKind.u64.wrap r / 18446744073709551616 < 18446744073709551616,
  0 ≤ opI BinOp.sub IntKind.u64 z x * IntKind.u64.wrap r % 18446744073709551616,
  opI BinOp.sub IntKind.u64 z x * IntKind.u64.wrap r % 18446744073709551616 < 18446744073709551616,
  0 ≤ opI BinOp.sub IntKind.u64 (bV b r p x z) (IntKind.u64.wrap b) * IntKind.u64.wrap p / 18446744073709551616,
  0 ≤ opI BinOp.sub IntKind.u64 (bV b r p x z) (IntKind.u64.wrap b) * IntKind.u64.wrap p % 18446744073709551616,
  opI BinOp.sub IntKind.u64 (bV b r p x z) (IntKind.u64.wrap b) * IntKind.u64.wrap p % 18446744073709551616 <
  18446744073709551616,
  0 ≤ opI BinOp.sub IntKind.u64 (bV b r p x z) (IntKind.u64.wrap b),
  opI BinOp.sub IntKind.u64 (bV b r p x z) (IntKind.u64.wrap b) < 18446744073709551616,
  0 ≤ IntKind.u64.wrap p,
  IntKind.u64.wrap p < 18446744073709551616,
  0 ≤ opI BinOp.sub IntKind.u64 z x,
  opI BinOp.sub IntKind.u64 z x < 18446744073709551616,
  0 ≤ IntKind.u64.wrap r,
  IntKind.u64.wrap r < 18446744073709551616,
  cmpI BinOp.gtr (opI BinOp.sub IntKind.u64 (bV b r p x z) (bV b r p x y)) (bV b r p y z) = false,
  cmpI BinOp.lss (bV b r p x y) (IntKind.u64.wrap b) = false,
  cmpI BinOp.gtr (bV b r p y z) (bV b r p x z) = false,
  cmpI BinOp.gtr (bV b r p x y) (bV b r p x z) = false,
  cmpI BinOp.neq (bE b r p y z) 0 = false,
  cmpI BinOp.neq (bE b r p x y) 0 = false,
  cmpI BinOp.neq (bE b r p x z) 0 = false,
  0 ≤ x,
  x < 18446744073709551616,
  0 ≤ z,
  z < 18446744073709551616,
  0 ≤ y,
  y < 18446744073709551616,
  0 ≤ z,
  z < 18446744073709551616,
  0 ≤ x,
  x < 18446744073709551616,
  0 ≤ y,
  y < 18446744073709551616,
  cmpI BinOp.gtr y z = false,
  cmpI BinOp.gtr x y = false,
  cmpI BinOp.neq (limE b r p) 0 = false]) := by kernel_rfl
theorem law7_p18 (b : Int) (r : Int) (p : Int) (x : Int) (y : Int) (z : Int) (m : Int) : fnX Try.prog X12 100000 [.d false, .c 1, .d false, .c 1, .d false, .c 1, .d false, .d false, .c 0, .d false, .c 1, .d false, .c 1, .d false, .c 3, .d false, .c 3, .d false, .d false, .c 4, .d false, .c 16, .d false, .d true, .c 4] 7 [D.agg [D.v (Value.int IntKind.i64 b), D.v (Value.int IntKind.i64 r), D.v (Value.int IntKind.i64 p)],
  D.v (Value.int IntKind.u64 x), D.v (Value.int IntKind.u64 y), D.v (Value.int IntKind.u64 z),
  D.v (Value.int IntKind.i64 m)] = some (D.v (Value.bool true), [cmpI BinOp.lss m 1 = true,
  cmpI BinOp.lss
    (cmpZ
      (opI BinOp.sub IntKind.u64 z x * IntKind.u64.wrap r / 18446744073709551616 * 18446744073709551616 +
        opI BinOp.sub IntKind.u64 z x * IntKind.u64.wrap r % 18446744073709551616)
      (opI BinOp.sub IntKind.u64 (bV b r p x z) (IntKind.u64.wrap b) * IntKind.u64.wrap p / 18446744073709551616 *
          18446744073709551616 +
        opI BinOp.sub IntKind.u64 (bV b r p x z) (IntKind.u64.wrap b) * IntKind.u64.wrap p % 18446744073709551616))
    0 =
  false,
  0 ≤ opI BinOp.sub IntKind.u64 z x * IntKind.u64.wrap r % 18446744073709551616,
  opI BinOp.sub IntKind.u64 z x * IntKind.u64.wrap r % 18446744073709551616 < 18446744073709551616,
  0 ≤ opI BinOp.sub IntKind.u64 (bV b r p x z) (IntKind.u64.wrap b) * IntKind.u64.wrap p % 18446744073709551616,
  opI BinOp.sub IntKind.u64 (bV b r p x z) (IntKind.u64.wrap b) * IntKind.u64.wrap p % 18446744073709551616 <
  18446744073709551616,
  0 ≤ opI BinOp.sub IntKind.u64 (bV b r p x z) (IntKind.u64.wrap b),
  opI BinOp.sub IntKind.u64 (bV b r p x z) (IntKind.u64.wrap b) < 18446744073709551616,
  0 ≤ IntKind.u64.wrap p,
  IntKind.u64.wrap p < 18446744073709551616,
  0 ≤ opI BinOp.sub IntKind.u64 z x,
  opI BinOp.sub IntKind.u64 z x < 18446744073709551616,
  0 ≤ IntKind.u64.wrap r,
  IntKind.u64.wrap r < 18446744073709551616,
  cmpI BinOp.geq
    ((if
          opI BinOp.sub IntKind.u64 (bV b r p x z) (IntKind.u64.wrap b) * IntKind.u64.wrap p / 18446744073709551616 *
                18446744073709551616 +
              opI BinOp.sub IntKind.u64 (bV b r p x z) (IntKind.u64.wrap b) * IntKind.u64.wrap p %
                18446744073709551616 ≤
            opI BinOp.sub IntKind.u64 z x * IntKind.u64.wrap r / 18446744073709551616 * 18446744073709551616 +
              opI BinOp.sub IntKind.u64 z x * IntKind.u64.wrap r % 18446744073709551616 then
        opI BinOp.sub IntKind.u64 z x * IntKind.u64.wrap r / 18446744073709551616 * 18446744073709551616 +
            opI BinOp.sub IntKind.u64 z x * IntKind.u64.wrap r % 18446744073709551616 -
          (opI BinOp.sub IntKind.u64 (bV b r p x z) (IntKind.u64.wrap b) * IntKind.u64.wrap p / 18446744073709551616 *
              18446744073709551616 +
            opI BinOp.sub IntKind.u64 (bV b r p x z) (IntKind.u64.wrap b) * IntKind.u64.wrap p % 18446744073709551616)
      else 0) %
      18446744073709551616)
    (IntKind.u64.wrap p) =
  false,
  cmpI BinOp.neq
    ((if
          opI BinOp.sub IntKind.u64 (bV b r p x z) (IntKind.u64.wrap b) * IntKind.u64.wrap p / 18446744073709551616 *
                18446744073709551616 +
              opI BinOp.sub IntKind.u64 (bV b r p x z) (IntKind.u64.wrap b) * IntKind.u64.wrap p %
                18446744073709551616 ≤
            opI BinOp.sub IntKind.u64 z x * IntKind.u64.wrap r / 18446744073709551616 * 18446744073709551616 +
              opI BinOp.sub IntKind.u64 z x * IntKind.u64.wrap r % 18446744073709551616 then
        opI BinOp.sub IntKind.u64 z x * IntKind.u64.wrap r / 18446744073709551616 * 18446744073709551616 +
            opI BinOp.sub IntKind.u64 z x * IntKind.u64.wrap r % 18446744073709551616 -
          (opI BinOp.sub IntKind.u64 (bV b r p x z) (IntKind.u64.wrap b) * IntKind.u64.wrap p / 18446744073709551616 *
              18446744073709551616 +
            opI BinOp.sub IntKind.u64 (bV b r p x z) (IntKind.u64.wrap b) * IntKind.u64.wrap p % 18446744073709551616)
      else 0) /
      18446744073709551616)
    0 =
  false,
  opI BinOp.sub IntKind.u64 z x * IntKind.u64.wrap r / 18446744073709551616 < 18446744073709551616,
  0 ≤ opI BinOp.sub IntKind.u64 z x * IntKind.u64.wrap r % 18446744073709551616,
  opI BinOp.sub IntKind.u64 z x * IntKind.u64.wrap r % 18446744073709551616 < 18446744073709551616,
  0 ≤ opI BinOp.sub IntKind.u64 (bV b r p x z) (IntKind.u64.wrap b) * IntKind.u64.wrap p / 18446744073709551616,
  0 ≤ opI BinOp.sub IntKind.u64 (bV b r p x z) (IntKind.u64.wrap b) * IntKind.u64.wrap p % 18446744073709551616,
  opI BinOp.sub IntKind.u64 (bV b r p x z) (IntKind.u64.wrap b) * IntKind.u64.wrap p % 18446744073709551616 <
  18446744073709551616,
  0 ≤ opI BinOp.sub IntKind.u64 (bV b r p x z) (IntKind.u64.wrap b),
  opI BinOp.sub IntKind.u64 (bV b r p x z) (IntKind.u64.wrap b) < 18446744073709551616,
  0 ≤ IntKind.u64.wrap p,
  IntKind.u64.wrap p < 18446744073709551616,
  0 ≤ opI BinOp.sub IntKind.u64 z x,
  opI BinOp.sub IntKind.u64 z x < 18446744073709551616,
  0 ≤ IntKind.u64.wrap r,
  IntKind.u64.wrap r < 18446744073709551616,
  cmpI BinOp.gtr (opI BinOp.sub IntKind.u64 (bV b r p x z) (bV b r p x y)) (bV b r p y z) = false,
  cmpI BinOp.lss (bV b r p x y) (IntKind.u64.wrap b) = false,
  cmpI BinOp.gtr (bV b r p y z) (bV b r p x z) = false,
  cmpI BinOp.gtr (bV b r p x y) (bV b r p x z) = false,
  cmpI BinOp.neq (bE b r p y z) 0 = false,
  cmpI BinOp.neq (bE b r p x y) 0 = false,
  cmpI BinOp.neq (bE b r p x z) 0 = false,
  0 ≤ x,
  x < 18446744073709551616,
  0 ≤ z,
  z < 18446744073709551616,
  0 ≤ y,
  y < 18446744073709551616,
  0 ≤ z,
  z < 18446744073709551616,
  0 ≤ x,
  x < 18446744073709551616,
  0 ≤ y,
  y < 18446744073709551616,
  cmpI BinOp.gtr y z = false,
  cmpI BinOp.gtr x y = false,
  cmpI BinOp.neq (limE b r p) 0 = false]) := by kernel_rfl
theorem law7_p19 (b : Int) (r : Int) (p : Int) (x : Int) (y : Int) (z : Int) (m : Int) : fnX Try.prog X12 100000 [.d false, .c 1, .d false, .c 1, .d false, .c 1, .d false, .d false, .c 0, .d false, .c 1, .d false, .c 1, .d false, .c 3, .d false, .c 3, .d false, .d false, .c 4, .d false, .c 16, .d false, .d false, .c 3, .d true] 7 [D.agg [D.v (Value.int IntKind.i64 b), D.v (Value.int IntKind.i64 r), D.v (Value.int IntKind.i64 p)],
  D.v (Value.int IntKind.u64 x), D.v (Value.int IntKind.u64 y), D.v (Value.int IntKind.u64 z),
  D.v (Value.int IntKind.i64 m)] = some (D.v (Value.bool true), [cmpI BinOp.gtr m (opI BinOp.sub IntKind.i64 1000000000 b) = true,
  cmpI BinOp.lss m 1 = false,
  cmpI BinOp.lss
    (cmpZ
      (opI BinOp.sub IntKind.u64 z x * IntKind.u64.wrap r / 18446744073709551616 * 18446744073709551616 +
        opI BinOp.sub IntKind.u64 z x * IntKind.u64.wrap r % 18446744073709551616)
      (opI BinOp.sub IntKind.u64 (bV b r p x z) (IntKind.u64.wrap b) * IntKind.u64.wrap p / 18446744073709551616 *
          18446744073709551616 +
        opI BinOp.sub IntKind.u64 (bV b r p x z) (IntKind.u64.wrap b) * IntKind.u64.wrap p % 18446744073709551616))
    0 =
  false,
  0 ≤ opI BinOp.sub IntKind.u64 z x * IntKind.u64.wrap r % 18446744073709551616,
  opI BinOp.sub IntKind.u64 z x * IntKind.u64.wrap r % 18446744073709551616 < 18446744073709551616,
  0 ≤ opI BinOp.sub IntKind.u64 (bV b r p x z) (IntKind.u64.wrap b) * IntKind.u64.wrap p % 18446744073709551616,
  opI BinOp.sub IntKind.u64 (bV b r p x z) (IntKind.u64.wrap b) * IntKind.u64.wrap p % 18446744073709551616 <
  18446744073709551616,
  0 ≤ opI BinOp.sub IntKind.u64 (bV b r p x z) (IntKind.u64.wrap b),
  opI BinOp.sub IntKind.u64 (bV b r p x z) (IntKind.u64.wrap b) < 18446744073709551616,
  0 ≤ IntKind.u64.wrap p,
  IntKind.u64.wrap p < 18446744073709551616,
  0 ≤ opI BinOp.sub IntKind.u64 z x,
  opI BinOp.sub IntKind.u64 z x < 18446744073709551616,
  0 ≤ IntKind.u64.wrap r,
  IntKind.u64.wrap r < 18446744073709551616,
  cmpI BinOp.geq
    ((if
          opI BinOp.sub IntKind.u64 (bV b r p x z) (IntKind.u64.wrap b) * IntKind.u64.wrap p / 18446744073709551616 *
                18446744073709551616 +
              opI BinOp.sub IntKind.u64 (bV b r p x z) (IntKind.u64.wrap b) * IntKind.u64.wrap p %
                18446744073709551616 ≤
            opI BinOp.sub IntKind.u64 z x * IntKind.u64.wrap r / 18446744073709551616 * 18446744073709551616 +
              opI BinOp.sub IntKind.u64 z x * IntKind.u64.wrap r % 18446744073709551616 then
        opI BinOp.sub IntKind.u64 z x * IntKind.u64.wrap r / 18446744073709551616 * 18446744073709551616 +
            opI BinOp.sub IntKind.u64 z x * IntKind.u64.wrap r % 18446744073709551616 -
          (opI BinOp.sub IntKind.u64 (bV b r p x z) (IntKind.u64.wrap b) * IntKind.u64.wrap p / 18446744073709551616 *
              18446744073709551616 +
            opI BinOp.sub IntKind.u64 (bV b r p x z) (IntKind.u64.wrap b) * IntKind.u64.wrap p % 18446744073709551616)
      else 0) %
      18446744073709551616)
    (IntKind.u64.wrap p) =
  false,
  cmpI BinOp.neq
    ((if
          opI BinOp.sub IntKind.u64 (bV b r p x z) (IntKind.u64.wrap b) * IntKind.u64.wrap p / 18446744073709551616 *
                18446744073709551616 +
              opI BinOp.sub IntKind.u64 (bV b r p x z) (IntKind.u64.wrap b) * IntKind.u64.wrap p %
                18446744073709551616 ≤
            opI BinOp.sub IntKind.u64 z x * IntKind.u64.wrap r / 18446744073709551616 * 18446744073709551616 +
              opI BinOp.sub IntKind.u64 z x * IntKind.u64.wrap r % 18446744073709551616 then
        opI BinOp.sub IntKind.u64 z x * IntKind.u64.wrap r / 18446744073709551616 * 18446744073709551616 +
            opI BinOp.sub IntKind.u64 z x * IntKind.u64.wrap r % 18446744073709551616 -
          (opI BinOp.sub IntKind.u64 (bV b r p x z) (IntKind.u64.wrap b) * IntKind.u64.wrap p / 18446744073709551616 *
              18446744073709551616 +
            opI BinOp.sub IntKind.u64 (bV b r p x z) (IntKind.u64.wrap b) * IntKind.u64.wrap p % 18446744073709551616)
      else 0) /
      18446744073709551616)
    0 =
  false,
  opI BinOp.sub IntKind.u64 z x * IntKind.u64.wrap r / 18446744073709551616 < 18446744073709551616,
  0 ≤ opI BinOp.sub IntKind.u64 z x * IntKind.u64.wrap r % 18446744073709551616,
  opI BinOp.sub IntKind.u64 z x * IntKind.u64.wrap r % 18446744073709551616 < 18446744073709551616,
  0 ≤ opI BinOp.sub IntKind.u64 (bV b r p x z) (IntKind.u64.wrap b) * IntKind.u64.wrap p / 18446744073709551616,
  0 ≤ opI BinOp.sub IntKind.u64 (bV b r p x z) (IntKind.u64.wrap b) * IntKind.u64.wrap p % 18446744073709551616,
  opI BinOp.sub IntKind.u64 (bV b r p x z) (IntKind.u64.wrap b) * IntKind.u64.wrap p % 18446744073709551616 <
  18446744073709551616,
  0 ≤ opI BinOp.sub IntKind.u64 (bV b r p x z) (IntKind.u64.wrap b),
  opI BinOp.sub IntKind.u64 (bV b r p x z) (IntKind.u64.wrap b) < 18446744073709551616,
  0 ≤ IntKind.u64.wrap p,
  IntKind.u64.wrap p < 18446744073709551616,
  0 ≤ opI BinOp.sub IntKind.u64 z x,
  opI BinOp.sub IntKind.u64 z x < 18446744073709551616,
  0 ≤ IntKind.u64.wrap r,
  IntKind.u64.wrap r < 18446744073709551616,
  cmpI BinOp.gtr (opI BinOp.sub IntKind.u64 (bV b r p x z) (bV b r p x y)) (bV b r p y z) = false,
  cmpI BinOp.lss (bV b r p x y) (IntKind.u64.wrap b) = false,
  cmpI BinOp.gtr (bV b r p y z) (bV b r p x z) = false,
  cmpI BinOp.gtr (bV b r p x y) (bV b r p x z) = false,
  cmpI BinOp.neq (bE b r p y z) 0 = false,
  cmpI BinOp.neq (bE b r p x y) 0 = false,
  cmpI BinOp.neq (bE b r p x z) 0 = false,
  0 ≤ x,
  x < 18446744073709551616,
  0 ≤ z,
  z < 18446744073709551616,
  0 ≤ y,
  y < 18446744073709551616,
  0 ≤ z,
  z < 18446744073709551616,
  0 ≤ x,
  x < 18446744073709551616,
  0 ≤ y,
  y < 18446744073709551616,
  cmpI BinOp.gtr y z = false,
  cmpI BinOp.gtr x y = false,
  cmpI BinOp.neq (limE b r p) 0 = false]) := by kernel_rfl
theorem law7_p20 (b : Int) (r : Int) (p : Int) (x : Int) (y : Int) (z : Int) (m : Int) : fnX Try.prog X12 100000 [.d false, .c 1, .d false, .c 1, .d false, .c 1, .d false, .d false, .c 0, .d false, .c 1, .d false, .c 1, .d false, .c 3, .d false, .c 3, .d false, .d false, .c 4, .d false, .c 16, .d false, .d false, .c 3, .d false, .c 2, .d true, .c 3] 7 [D.agg [D.v (Value.int IntKind.i64 b), D.v (Value.int IntKind.i64 r), D.v (Value.int IntKind.i64 p)],
  D.v (Value.int IntKind.u64 x), D.v (Value.int IntKind.u64 y), D.v (Value.int IntKind.u64 z),
  D.v (Value.int IntKind.i64 m)] = some (D.v (Value.bool true), [cmpI BinOp.eql (bE (opI BinOp.add IntKind.i64 b m) r p x z) 16 = true,
  0 ≤ x,
  x < 18446744073709551616,
  0 ≤ z,
  z < 18446744073709551616,
  cmpI BinOp.gtr m (opI BinOp.sub IntKind.i64 1000000000 b) = false,
  cmpI BinOp.lss m 1 = false,
  cmpI BinOp.lss
    (cmpZ
      (opI BinOp.sub IntKind.u64 z x * IntKind.u64.wrap r / 18446744073709551616 * 18446744073709551616 +
        opI BinOp.sub IntKind.u64 z x * IntKind.u64.wrap r % 18446744073709551616)
      (opI BinOp.sub IntKind.u64 (bV b r p x z) (IntKind.u64.wrap b) * IntKind.u64.wrap p / 18446744073709551616 *
          18446744073709551616 +
        opI BinOp.sub IntKind.u64 (bV b r p x z) (IntKind.u64.wrap b) * IntKind.u64.wrap p % 18446744073709551616))
    0 =
  false,
  0 ≤ opI BinOp.sub IntKind.u64 z x * IntKind.u64.wrap r % 18446744073709551616,
  opI BinOp.sub IntKind.u64 z x * IntKind.u64.wrap r % 18446744073709551616 < 18446744073709551616,
  0 ≤ opI BinOp.sub IntKind.u64 (bV b r p x z) (IntKind.u64.wrap b) * IntKind.u64.wrap p % 18446744073709551616,
  opI BinOp.sub IntKind.u64 (bV b r p x z) (IntKind.u64.wrap b) * IntKind.u64.wrap p % 18446744073709551616 <
  18446744073709551616,
  0 ≤ opI BinOp.sub IntKind.u64 (bV b r p x z) (IntKind.u64.wrap b),
  opI BinOp.sub IntKind.u64 (bV b r p x z) (IntKind.u64.wrap b) < 18446744073709551616,
  0 ≤ IntKind.u64.wrap p,
  IntKind.u64.wrap p < 18446744073709551616,
  0 ≤ opI BinOp.sub IntKind.u64 z x,
  opI BinOp.sub IntKind.u64 z x < 18446744073709551616,
  0 ≤ IntKind.u64.wrap r,
  IntKind.u64.wrap r < 18446744073709551616,
  cmpI BinOp.geq
    ((if
          opI BinOp.sub IntKind.u64 (bV b r p x z) (IntKind.u64.wrap b) * IntKind.u64.wrap p / 18446744073709551616 *
                18446744073709551616 +
              opI BinOp.sub IntKind.u64 (bV b r p x z) (IntKind.u64.wrap b) * IntKind.u64.wrap p %
                18446744073709551616 ≤
            opI BinOp.sub IntKind.u64 z x * IntKind.u64.wrap r / 18446744073709551616 * 18446744073709551616 +
              opI BinOp.sub IntKind.u64 z x * IntKind.u64.wrap r % 18446744073709551616 then
        opI BinOp.sub IntKind.u64 z x * IntKind.u64.wrap r / 18446744073709551616 * 18446744073709551616 +
            opI BinOp.sub IntKind.u64 z x * IntKind.u64.wrap r % 18446744073709551616 -
          (opI BinOp.sub IntKind.u64 (bV b r p x z) (IntKind.u64.wrap b) * IntKind.u64.wrap p / 18446744073709551616 *
              18446744073709551616 +
            opI BinOp.sub IntKind.u64 (bV b r p x z) (IntKind.u64.wrap b) * IntKind.u64.wrap p % 18446744073709551616)
      else 0) %
      18446744073709551616)
    (IntKind.u64.wrap p) =
  false,
  cmpI BinOp.neq
    ((if
          opI BinOp.sub IntKind.u64 (bV b r p x z) (IntKind.u64.wrap b) * IntKind.u64.wrap p / 18446744073709551616 *
                18446744073709551616 +
              opI BinOp.sub IntKind.u64 (bV b r p x z) (IntKind.u64.wrap b) * IntKind.u64.wrap p %
                18446744073709551616 ≤
            opI BinOp.sub IntKind.u64 z x * IntKind.u64.wrap r / 18446744073709551616 * 18446744073709551616 +
              opI BinOp.sub IntKind.u64 z x * IntKind.u64.wrap r % 18446744073709551616 then
        opI BinOp.sub IntKind.u64 z x * IntKind.u64.wrap r / 18446744073709551616 * 18446744073709551616 +
            opI BinOp.sub IntKind.u64 z x * IntKind.u64.wrap r % 18446744073709551616 -
          (opI BinOp.sub IntKind.u64 (bV b r p x z) (IntKind.u64.wrap b) * IntKind.u64.wrap p / 18446744073709551616 *
              18446744073709551616 +
            opI BinOp.sub IntKind.u64 (bV b r p x z) (IntKind.u64.wrap b) * IntKind.u64.wrap p % 18446744073709551616)
      else 0) /
      18446744073709551616)
    0 =
  false,
  opI BinOp.sub IntKind.u64 z x * IntKind.u64.wrap r / 18446744073709551616 < 18446744073709551616,
  0 ≤ opI BinOp.sub IntKind.u64 z x * IntKind.u64.wrap r % 18446744073709551616,
  opI BinOp.sub IntKind.u64 z x * IntKind.u64.wrap r % 18446744073709551616 < 18446744073709551616,
  0 ≤ opI BinOp.sub IntKind.u64 (bV b r p x z) (IntKind.u64.wrap b) * IntKind.u64.wrap p / 18446744073709551616,
  0 ≤ opI BinOp.sub IntKind.u64 (bV b r p x z) (IntKind.u64.wrap b) * IntKind.u64.wrap p % 18446744073709551616,
  opI BinOp.sub IntKind.u64 (bV b r p x z) (IntKind.u64.wrap b) * IntKind.u64.wrap p % 18446744073709551616 <
  18446744073709551616,
  0 ≤ opI BinOp.sub IntKind.u64 (bV b r p x z) (IntKind.u64.wrap b),
  opI BinOp.sub IntKind.u64 (bV b r p x z) (IntKind.u64.wrap b) < 18446744073709551616,
  0 ≤ IntKind.u64.wrap p,
  IntKind.u64.wrap p < 18446744073709551616,
  0 ≤ opI BinOp.sub IntKind.u64 z x,
  opI BinOp.sub IntKind.u64 z x < 18446744073709551616,
  0 ≤ IntKind.u64.wrap r,
  IntKind.u64.wrap r < 18446744073709551616,
  cmpI BinOp.gtr (opI BinOp.sub IntKind.u64 (bV b r p x z) (bV b r p x y)) (bV b r p y z) = false,
  cmpI BinOp.lss (bV b r p x y) (IntKind.u64.wrap b) = false,
  cmpI BinOp.gtr (bV b r p y z) (bV b r p x z) = false,
  cmpI BinOp.gtr (bV b r p x y) (bV b r p x z) = false,
  cmpI BinOp.neq (bE b r p y z) 0 = false,
  cmpI BinOp.neq (bE b r p x y) 0 = false,
  cmpI BinOp.neq (bE b r p x z) 0 = false,
  0 ≤ x,
  x < 18446744073709551616,
  0 ≤ z,
  z < 18446744073709551616,
  0 ≤ y,
  y < 18446744073709551616,
  0 ≤ z,
  z < 18446744073709551616,
  0 ≤ x,
  x < 18446744073709551616,
  0 ≤ y,
  y < 18446744073709551616,
  cmpI BinOp.gtr y z = false,
  cmpI BinOp.gtr x y = false,
  cmpI BinOp.neq (limE b r p) 0 = false]) := by kernel_rfl
theorem law7_p21 (b : Int) (r : Int) (p : Int) (x : Int) (y : Int) (z : Int) (m : Int) : fnX Try.prog X12 100000 [.d false, .c 1, .d false, .c 1, .d false, .c 1, .d false, .d false, .c 0, .d false, .c 1, .d false, .c 1, .d false, .c 3, .d false, .c 3, .d false, .d false, .c 4, .d false, .c 16, .d false, .d false, .c 3, .d false, .c 2, .d false, .c 1, .d true, .c 6] 7 [D.agg [D.v (Value.int IntKind.i64 b), D.v (Value.int IntKind.i64 r), D.v (Value.int IntKind.i64 p)],
  D.v (Value.int IntKind.u64 x), D.v (Value.int IntKind.u64 y), D.v (Value.int IntKind.u64 z),
  D.v (Value.int IntKind.i64 m)] = some (D.v
  (Value.bool
    (cmpI BinOp.eql (bV (opI BinOp.add IntKind.i64 b m) r p x z)
      (opI BinOp.add IntKind.u64 (bV b r p x z) (IntKind.u64.wrap m)))), [cmpI BinOp.eql (bE (opI BinOp.add IntKind.i64 b m) r p x z) 0 = true,
  cmpI BinOp.eql (bE (opI BinOp.add IntKind.i64 b m) r p x z) 16 = false,
  0 ≤ x,
  x < 18446744073709551616,
  0 ≤ z,
  z < 18446744073709551616,
  cmpI BinOp.gtr m (opI BinOp.sub IntKind.i64 1000000000 b) = false,
  cmpI BinOp.lss m 1 = false,
  cmpI BinOp.lss
    (cmpZ
      (opI BinOp.sub IntKind.u64 z x * IntKind.u64.wrap r / 18446744073709551616 * 18446744073709551616 +
        opI BinOp.sub IntKind.u64 z x * IntKind.u64.wrap r % 18446744073709551616)
      (opI BinOp.sub IntKind.u64 (bV b r p x z) (IntKind.u64.wrap b) * IntKind.u64.wrap p / 18446744073709551616 *
          18446744073709551616 +
        opI BinOp.sub IntKind.u64 (bV b r p x z) (IntKind.u64.wrap b) * IntKind.u64.wrap p % 18446744073709551616))
    0 =
  false,
  0 ≤ opI BinOp.sub IntKind.u64 z x * IntKind.u64.wrap r % 18446744073709551616,
  opI BinOp.sub IntKind.u64 z x * IntKind.u64.wrap r % 18446744073709551616 < 18446744073709551616,
  0 ≤ opI BinOp.sub IntKind.u64 (bV b r p x z) (IntKind.u64.wrap b) * IntKind.u64.wrap p % 18446744073709551616,
  opI BinOp.sub IntKind.u64 (bV b r p x z) (IntKind.u64.wrap b) * IntKind.u64.wrap p % 18446744073709551616 <
  18446744073709551616,
  0 ≤ opI BinOp.sub IntKind.u64 (bV b r p x z) (IntKind.u64.wrap b),
  opI BinOp.sub IntKind.u64 (bV b r p x z) (IntKind.u64.wrap b) < 18446744073709551616,
  0 ≤ IntKind.u64.wrap p,
  IntKind.u64.wrap p < 18446744073709551616,
  0 ≤ opI BinOp.sub IntKind.u64 z x,
  opI BinOp.sub IntKind.u64 z x < 18446744073709551616,
  0 ≤ IntKind.u64.wrap r,
  IntKind.u64.wrap r < 18446744073709551616,
  cmpI BinOp.geq
    ((if
          opI BinOp.sub IntKind.u64 (bV b r p x z) (IntKind.u64.wrap b) * IntKind.u64.wrap p / 18446744073709551616 *
                18446744073709551616 +
              opI BinOp.sub IntKind.u64 (bV b r p x z) (IntKind.u64.wrap b) * IntKind.u64.wrap p %
                18446744073709551616 ≤
            opI BinOp.sub IntKind.u64 z x * IntKind.u64.wrap r / 18446744073709551616 * 18446744073709551616 +
              opI BinOp.sub IntKind.u64 z x * IntKind.u64.wrap r % 18446744073709551616 then
        opI BinOp.sub IntKind.u64 z x * IntKind.u64.wrap r / 18446744073709551616 * 18446744073709551616 +
            opI BinOp.sub IntKind.u64 z x * IntKind.u64.wrap r % 18446744073709551616 -
          (opI BinOp.sub IntKind.u64 (bV b r p x z) (IntKind.u64.wrap b) * IntKind.u64.wrap p / 18446744073709551616 *
              18446744073709551616 +
            opI BinOp.sub IntKind.u64 (bV b r p x z) (IntKind.u64.wrap b) * IntKind.u64.wrap p % 18446744073709551616)
      else 0) %
      18446744073709551616)
    (IntKind.u64.wrap p) =
  false,
  cmpI BinOp.neq
    ((if
          opI BinOp.sub IntKind.u64 (bV b r p x z) (IntKind.u64.wrap b) * IntKind.u64.wrap p / 18446744073709551616 *
                18446744073709551616 +
              opI BinOp.sub IntKind.u64 (bV b r p x z) (IntKind.u64.wrap b) * IntKind.u64.wrap p %
                18446744073709551616 ≤
            opI BinOp.sub IntKind.u64 z x * IntKind.u64.wrap r / 18446744073709551616 * 18446744073709551616 +
              opI BinOp.sub IntKind.u64 z x * IntKind.u64.wrap r % 18446744073709551616 then
        opI BinOp.sub IntKind.u64 z x * IntKind.u64.wrap r / 18446744073709551616 * 18446744073709551616 +
            opI BinOp.sub IntKind.u64 z x * IntKind.u64.wrap r % 18446744073709551616 -
          (opI BinOp.sub IntKind.u64 (bV b r p x z) (IntKind.u64.wrap b) * IntKind.u64.wrap p / 18446744073709551616 *
              18446744073709551616 +
            opI BinOp.sub IntKind.u64 (bV b r p x z) (IntKind.u64.wrap b) * IntKind.u64.wrap p % 18446744073709551616)
      else 0) /
      18446744073709551616)
    0 =
  false,
  opI BinOp.sub IntKind.u64 z x * IntKind.u64.wrap r / 18446744073709551616 < 18446744073709551616,
  0 ≤ opI BinOp.sub IntKind.u64 z x * IntKind.u64.wrap r % 18446744073709551616,
  opI BinOp.sub IntKind.u64 z x * IntKind.u64.wrap r % 18446744073709551616 < 18446744073709551616,
  0 ≤ opI BinOp.sub IntKind.u64 (bV b r p x z) (IntKind.u64.wrap b) * IntKind.u64.wrap p / 18446744073709551616,
  0 ≤ opI BinOp.sub IntKind.u64 (bV b r p x z) (IntKind.u64.wrap b) * IntKind.u64.wrap p % 18446744073709551616,
  opI BinOp.sub IntKind.u64 (bV b r p x z) (IntKind.u64.wrap b) * IntKind.u64.wrap p % 18446744073709551616 <
  18446744073709551616,
  0 ≤ opI BinOp.sub IntKind.u64 (bV b r p x z) (IntKind.u64.wrap b),
  opI BinOp.sub IntKind.u64 (bV b r p x z) (IntKind.u64.wrap b) < 18446744073709551616,
  0 ≤ IntKind.u64.wrap p,
  IntKind.u64.wrap p < 18446744073709551616,
  0 ≤ opI BinOp.sub IntKind.u64 z x,
  opI BinOp.sub IntKind.u64 z x < 18446744073709551616,
  0 ≤ IntKind.u64.wrap r,
  IntKind.u64.wrap r < 18446744073709551616,
  cmpI BinOp.gtr (opI BinOp.sub IntKind.u64 (bV b r p x z) (bV b r p x y)) (bV b r p y z) = false,
  cmpI BinOp.lss (bV b r p x y) (IntKind.u64.wrap b) = false,
  cmpI BinOp.gtr (bV b r p y z) (bV b r p x z) = false,
  cmpI BinOp.gtr (bV b r p x y) (bV b r p x z) = false,
  cmpI BinOp.neq (bE b r p y z) 0 = false,
  cmpI BinOp.neq (bE b r p x y) 0 = false,
  cmpI BinOp.neq (bE b r p x z) 0 = false,
  0 ≤ x,
  x < 18446744073709551616,
  0 ≤ z,
  z < 18446744073709551616,
  0 ≤ y,
  y < 18446744073709551616,
  0 ≤ z,
  z < 18446744073709551616,
  0 ≤ x,
  x < 18446744073709551616,
  0 ≤ y,
  y < 18446744073709551616,
  cmpI BinOp.gtr y z = false,
  cmpI BinOp.gtr x y = false,
  cmpI BinOp.neq (limE b r p) 0 = false]) := by kernel_rfl
theorem law7_p22 (b : Int) (r : Int) (p : Int) (x : Int) (y : Int) (z : Int) (m : Int) : fnX Try.prog X12 100000 [.d false, .c 1, .d false, .c 1, .d false, .c 1, .d false, .d false, .c 0, .d false, .c 1, .d false, .c 1, .d false, .c 3, .d false, .c 3, .d false, .d false, .c 4, .d false, .c 16, .d false, .d false, .c 3, .d false, .c 2, .d false, .c 1, .d false, .c 6] 7 [D.agg [D.v (Value.int IntKind.i64 b), D.v (Value.int IntKind.i64 r), D.v (Value.int IntKind.i64 p)],
  D.v (Value.int IntKind.u64 x), D.v (Value.int IntKind.u64 y), D.v (Value.int IntKind.u64 z),
  D.v (Value.int IntKind.i64 m)] = some (D.v (Value.bool false), [cmpI BinOp.eql (bE (opI BinOp.add IntKind.i64 b m) r p x z) 0 = false,
  cmpI BinOp.eql (bE (opI BinOp.add IntKind.i64 b m) r p x z) 16 = false,
  0 ≤ x,
  x < 18446744073709551616,
  0 ≤ z,
  z < 18446744073709551616,
  cmpI BinOp.gtr m (opI BinOp.sub IntKind.i64 1000000000 b) = false,
  cmpI BinOp.lss m 1 = false,
  cmpI BinOp.lss
    (cmpZ
      (opI BinOp.sub IntKind.u64 z x * IntKind.u64.wrap r / 18446744073709551616 * 18446744073709551616 +
        opI BinOp.sub IntKind.u64 z x * IntKind.u64.wrap r % 18446744073709551616)
      (opI BinOp.sub IntKind.u64 (bV b r p x z) (IntKind.u64.wrap b) * IntKind.u64.wrap p / 18446744073709551616 *
          18446744073709551616 +
        opI BinOp.sub IntKind.u64 (bV b r p x z) (IntKind.u64.wrap b) * IntKind.u64.wrap p % 18446744073709551616))
    0 =
  false,
  0 ≤ opI BinOp.sub IntKind.u64 z x * IntKind.u64.wrap r % 18446744073709551616,
  opI BinOp.sub IntKind.u64 z x * IntKind.u64.wrap r % 18446744073709551616 < 18446744073709551616,
  0 ≤ opI BinOp.sub IntKind.u64 (bV b r p x z) (IntKind.u64.wrap b) * IntKind.u64.wrap p % 18446744073709551616,
  opI BinOp.sub IntKind.u64 (bV b r p x z) (IntKind.u64.wrap b) * IntKind.u64.wrap p % 18446744073709551616 <
  18446744073709551616,
  0 ≤ opI BinOp.sub IntKind.u64 (bV b r p x z) (IntKind.u64.wrap b),
  opI BinOp.sub IntKind.u64 (bV b r p x z) (IntKind.u64.wrap b) < 18446744073709551616,
  0 ≤ IntKind.u64.wrap p,
  IntKind.u64.wrap p < 18446744073709551616,
  0 ≤ opI BinOp.sub IntKind.u64 z x,
  opI BinOp.sub IntKind.u64 z x < 18446744073709551616,
  0 ≤ IntKind.u64.wrap r,
  IntKind.u64.wrap r < 18446744073709551616,
  cmpI BinOp.geq
    ((if
          opI BinOp.sub IntKind.u64 (bV b r p x z) (IntKind.u64.wrap b) * IntKind.u64.wrap p / 18446744073709551616 *
                18446744073709551616 +
              opI BinOp.sub IntKind.u64 (bV b r p x z) (IntKind.u64.wrap b) * IntKind.u64.wrap p %
                18446744073709551616 ≤
            opI BinOp.sub IntKind.u64 z x * IntKind.u64.wrap r / 18446744073709551616 * 18446744073709551616 +
              opI BinOp.sub IntKind.u64 z x * IntKind.u64.wrap r % 18446744073709551616 then
        opI BinOp.sub IntKind.u64 z x * IntKind.u64.wrap r / 18446744073709551616 * 18446744073709551616 +
            opI BinOp.sub IntKind.u64 z x * IntKind.u64.wrap r % 18446744073709551616 -
          (opI BinOp.sub IntKind.u64 (bV b r p x z) (IntKind.u64.wrap b) * IntKind.u64.wrap p / 18446744073709551616 *
              18446744073709551616 +
            opI BinOp.sub IntKind.u64 (bV b r p x z) (IntKind.u64.wrap b) * IntKind.u64.wrap p % 18446744073709551616)
      else 0) %
      18446744073709551616)
    (IntKind.u64.wrap p) =
  false,
  cmpI BinOp.neq
    ((if
          opI BinOp.sub IntKind.u64 (bV b r p x z) (IntKind.u64.wrap b) * IntKind.u64.wrap p / 18446744073709551616 *
                18446744073709551616 +
              opI BinOp.sub IntKind.u64 (bV b r p x z) (IntKind.u64.wrap b) * IntKind.u64.wrap p %
                18446744073709551616 ≤
            opI BinOp.sub IntKind.u64 z x * IntKind.u64.wrap r / 18446744073709551616 * 18446744073709551616 +
              opI BinOp.sub IntKind.u64 z x * IntKind.u64.wrap r % 18446744073709551616 then
        opI BinOp.sub IntKind.u64 z x * IntKind.u64.wrap r / 18446744073709551616 * 18446744073709551616 +
            opI BinOp.sub IntKind.u64 z x * IntKind.u64.wrap r % 18446744073709551616 -
          (opI BinOp.sub IntKind.u64 (bV b r p x z) (IntKind.u64.wrap b) * IntKind.u64.wrap p / 18446744073709551616 *
              18446744073709551616 +
            opI BinOp.sub IntKind.u64 (bV b r p x z) (IntKind.u64.wrap b) * IntKind.u64.wrap p % 18446744073709551616)
      else 0) /
      18446744073709551616)
    0 =
  false,
  opI BinOp.sub IntKind.u64 z x * IntKind.u64.wrap r / 18446744073709551616 < 18446744073709551616,
  0 ≤ opI BinOp.sub IntKind.u64 z x * IntKind.u64.wrap r % 18446744073709551616,
  opI BinOp.sub IntKind.u64 z x * IntKind.u64.wrap r % 18446744073709551616 < 18446744073709551616,
  0 ≤ opI BinOp.sub IntKind.u64 (bV b r p x z) (IntKind.u64.wrap b) * IntKind.u64.wrap p / 18446744073709551616,
  0 ≤ opI BinOp.sub IntKind.u64 (bV b r p x z) (IntKind.u64.wrap b) * IntKind.u64.wrap p % 18446744073709551616,
  opI BinOp.sub IntKind.u64 (bV b r p x z) (IntKind.u64.wrap b) * IntKind.u64.wrap p % 18446744073709551616 <
  18446744073709551616,
  0 ≤ opI BinOp.sub IntKind.u64 (bV b r p x z) (IntKind.u64.wrap b),
  opI BinOp.sub IntKind.u64 (bV b r p x z) (IntKind.u64.wrap b) < 18446744073709551616,
  0 ≤ IntKind.u64.wrap p,
  IntKind.u64.wrap p < 18446744073709551616,
  0 ≤ opI BinOp.sub IntKind.u64 z x,
  opI BinOp.sub IntKind.u64 z x < 18446744073709551616,
  0 ≤ IntKind.u64.wrap r,
  IntKind.u64.wrap r < 18446744073709551616,
  cmpI BinOp.gtr (opI BinOp.sub IntKind.u64 (bV b r p x z) (bV b r p x y)) (bV b r p y z) = false,
  cmpI BinOp.lss (bV b r p x y) (IntKind.u64.wrap b) = false,
  cmpI BinOp.gtr (bV b r p y z) (bV b r p x z) = false,
  cmpI BinOp.gtr (bV b r p x y) (bV b r p x z) = false,
  cmpI BinOp.neq (bE b r p y z) 0 = false,
  cmpI BinOp.neq (bE b r p x y) 0 = false,
  cmpI BinOp.neq (bE b r p x z) 0 = false,
  0 ≤ x,
  x < 18446744073709551616,
  0 ≤ z,
  z < 18446744073709551616,
  0 ≤ y,
  y < 18446744073709551616,
  0 ≤ z,
  z < 18446744073709551616,
  0 ≤ x,
  x < 18446744073709551616,
  0 ≤ y,
  y < 18446744073709551616,
  cmpI BinOp.gtr y z = false,
  cmpI BinOp.gtr x y = false,
  cmpI BinOp.neq (limE b r p) 0 = false]) := by kernel_rfl
theorem law7_calls (b : Int) (r : Int) (p : Int) (x : Int) (y : Int) (z : Int) (m : Int) (res : D)
  (h0 : ((cmpI BinOp.neq (limE b r p) 0) = true) → (True) ∧ res = D.v (Value.bool true))
  (h1 : ((cmpI BinOp.neq (limE b r p) 0) = false) → ((cmpI BinOp.gtr x y) = true) → (True) ∧ res = D.v (Value.bool true))
  (h2 : ((cmpI BinOp.neq (limE b r p) 0) = false) → ((cmpI BinOp.gtr x y) = false) → ((cmpI BinOp.gtr y z) = true) → (True) ∧ res = D.v (Value.bool true))
  (h3 : ((cmpI BinOp.neq (limE b r p) 0) = false) → ((cmpI BinOp.gtr x y) = false) → ((cmpI BinOp.gtr y z) = false) → ((cmpI BinOp.neq (bE b r p x z) 0) = true) → ((cmpI BinOp.eql (bE b r p x z) 16) = true) → ((cmpI BinOp.eql (bE b r p x y) 0) = true) → ((cmpI BinOp.eql (bE b r p y z) 0) = true) → ((0 ≤ x) ∧ (x < 18446744073709551616) ∧ (0 ≤ z) ∧ (z < 18446744073709551616) ∧ (0 ≤ y) ∧ (y < 18446744073709551616) ∧ (0 ≤ z) ∧ (z < 18446744073709551616) ∧ (0 ≤ x) ∧ (x < 18446744073709551616) ∧ (0 ≤ y) ∧ (y < 18446744073709551616) ∧ True) ∧ res = D.v (Value.bool true))
  (h4 : ((cmpI BinOp.neq (limE b r p) 0) = false) → ((cmpI BinOp.gtr x y) = false) → ((cmpI BinOp.gtr y z) = false) → ((cmpI BinOp.neq (bE b r p x z) 0) = true) → ((cmpI BinOp.eql (bE b r p x z) 16) = true) → ((cmpI BinOp.eql (bE b r p x y) 0) = true) → ((cmpI BinOp.eql (bE b r p y z) 0) = false) → ((0 ≤ x) ∧ (x < 18446744073709551616) ∧ (0 ≤ z) ∧ (z < 18446744073709551616) ∧ (0 ≤ y) ∧ (y < 18446744073709551616) ∧ (0 ≤ z) ∧ (z < 18446744073709551616) ∧ (0 ≤ x) ∧ (x < 18446744073709551616) ∧ (0 ≤ y) ∧ (y < 18446744073709551616) ∧ True) ∧ res = D.v (Value.bool (cmpI BinOp.eql (bE b r p y z) (bE b r p x z))))
  (h5 : ((cmpI BinOp.neq (limE b r p) 0) = false) → ((cmpI BinOp.gtr x y) = false) → ((cmpI BinOp.gtr y z) = false) → ((cmpI BinOp.neq (bE b r p x z) 0) = true) → ((cmpI BinOp.eql (bE b r p x z) 16) = true) → ((cmpI BinOp.eql (bE b r p x y) 0) = false) → ((cmpI BinOp.eql (bE b r p x y) (bE b r p x z)) = true) → ((cmpI BinOp.eql (bE b r p y z) 0) = true) → ((0 ≤ x) ∧ (x < 18446744073709551616) ∧ (0 ≤ z) ∧ (z < 18446744073709551616) ∧ (0 ≤ y) ∧ (y < 18446744073709551616) ∧ (0 ≤ z) ∧ (z < 18446744073709551616) ∧ (0 ≤ x) ∧ (x < 18446744073709551616) ∧ (0 ≤ y) ∧ (y < 18446744073709551616) ∧ True) ∧ res = D.v (Value.bool true))
  (h6 : ((cmpI BinOp.neq (limE b r p) 0) = false) → ((cmpI BinOp.gtr x y) = false) → ((cmpI BinOp.gtr y z) = false) → ((cmpI BinOp.neq (bE b r p x z) 0) = true) → ((cmpI BinOp.eql (bE b r p x z) 16) = true) → ((cmpI BinOp.eql (bE b r p x y) 0) = false) → ((cmpI BinOp.eql (bE b r p x y) (bE b r p x z)) = true) → ((cmpI BinOp.eql (bE b r p y z) 0) = false) → ((0 ≤ x) ∧ (x < 18446744073709551616) ∧ (0 ≤ z) ∧ (z < 18446744073709551616) ∧ (0 ≤ y) ∧ (y < 18446744073709551616) ∧ (0 ≤ z) ∧ (z < 18446744073709551616) ∧ (0 ≤ x) ∧ (x < 18446744073709551616) ∧ (0 ≤ y) ∧ (y < 18446744073709551616) ∧ True) ∧ res = D.v (Value.bool (cmpI BinOp.eql (bE b r p y z) (bE b r p x z))))
  (h7 : ((cmpI BinOp.neq (limE b r p) 0) = false) → ((cmpI BinOp.gtr x y) = false) → ((cmpI BinOp.gtr y z) = false) → ((cmpI BinOp.neq (bE b r p x z) 0) = true) → ((cmpI BinOp.eql (bE b r p x z) 16) = true) → ((cmpI BinOp.eql (bE b r p x y) 0) = false) → ((cmpI BinOp.eql (bE b r p x y) (bE b r p x z)) = false) → ((0 ≤ x) ∧ (x < 18446744073709551616) ∧ (0 ≤ z) ∧ (z < 18446744073709551616) ∧ (0 ≤ y) ∧ (y < 18446744073709551616) ∧ (0 ≤ z) ∧ (z < 18446744073709551616) ∧ (0 ≤ x) ∧ (x < 18446744073709551616) ∧ (0 ≤ y) ∧ (y < 18446744073709551616) ∧ True) ∧ res = D.v (Value.bool false))
  (h8 : ((cmpI BinOp.neq (limE b r p) 0) = false) → ((cmpI BinOp.gtr x y) = false) → ((cmpI BinOp.gtr y z) = false) → ((cmpI BinOp.neq (bE b r p x z) 0) = true) → ((cmpI BinOp.eql (bE b r p x z) 16) = false) → ((0 ≤ x) ∧ (x < 18446744073709551616) ∧ (0 ≤ z) ∧ (z < 18446744073709551616) ∧ (0 ≤ y) ∧ (y < 18446744073709551616) ∧ (0 ≤ z) ∧ (z < 18446744073709551616) ∧ (0 ≤ x) ∧ (x < 18446744073709551616) ∧ (0 ≤ y) ∧ (y < 18446744073709551616) ∧ True) ∧ res = D.v (Value.bool false))
  (h9 : ((cmpI BinOp.neq (limE b r p) 0) = false) → ((cmpI BinOp.gtr x y) = false) → ((cmpI BinOp.gtr y z) = false) → ((cmpI BinOp.neq (bE b r p x z) 0) = false) → ((cmpI BinOp.neq (bE b r p x y) 0) = true) → ((0 ≤ x) ∧ (x < 18446744073709551616) ∧ (0 ≤ z) ∧ (z < 18446744073709551616) ∧ (0 ≤ y) ∧ (y < 18446744073709551616) ∧ (0 ≤ z) ∧ (z < 18446744073709551616) ∧ (0 ≤ x) ∧ (x < 18446744073709551616) ∧ (0 ≤ y) ∧ (y < 18446744073709551616) ∧ True) ∧ res = D.v (Value.bool false))
  (h10 : ((cmpI BinOp.neq (limE b r p) 0) = false) → ((cmpI BinOp.gtr x y) = false) → ((cmpI BinOp.gtr y z) = false) → ((cmpI BinOp.neq (bE b r p x z) 0) = false) → ((cmpI BinOp.neq (bE b r p x y) 0) = false) → ((cmpI BinOp.neq (bE b r p y z) 0) = true) → ((0 ≤ x) ∧ (x < 18446744073709551616) ∧ (0 ≤ z) ∧ (z < 18446744073709551616) ∧ (0 ≤ y) ∧ (y < 18446744073709551616) ∧ (0 ≤ z) ∧ (z < 18446744073709551616) ∧ (0 ≤ x) ∧ (x < 18446744073709551616) ∧ (0 ≤ y) ∧ (y < 18446744073709551616) ∧ True) ∧ res = D.v (Value.bool false))
  (h11 : ((cmpI BinOp.neq (limE b r p) 0) = false) → ((cmpI BinOp.gtr x y) = false) → ((cmpI BinOp.gtr y z) = false) → ((cmpI BinOp.neq (bE b r p x z) 0) = false) → ((cmpI BinOp.neq (bE b r p x y) 0) = false) → ((cmpI BinOp.neq (bE b r p y z) 0) = false) → ((cmpI BinOp.gtr (bV b r p x y) (bV b r p x z)) = true) → ((0 ≤ x) ∧ (x < 18446744073709551616) ∧ (0 ≤ z) ∧ (z < 18446744073709551616) ∧ (0 ≤ y) ∧ (y < 18446744073709551616) ∧ (0 ≤ z) ∧ (z < 18446744073709551616) ∧ (0 ≤ x) ∧ (x < 18446744073709551616) ∧ (0 ≤ y) ∧ (y < 18446744073709551616) ∧ True) ∧ res = D.v (Value.bool false))
  (h12 : ((cmpI BinOp.neq (limE b r p) 0) = false) → ((cmpI BinOp.gtr x y) = false) → ((cmpI BinOp.gtr y z) = false) → ((cmpI BinOp.neq (bE b r p x z) 0) = false) → ((cmpI BinOp.neq (bE b r p x y) 0) = false) → ((cmpI BinOp.neq (bE b r p y z) 0) = false) → ((cmpI BinOp.gtr (bV b r p x y) (bV b r p x z)) = false) → ((cmpI BinOp.gtr (bV b r p y z) (bV b r p x z)) = true) → ((0 ≤ x) ∧ (x < 18446744073709551616) ∧ (0 ≤ z) ∧ (z < 18446744073709551616) ∧ (0 ≤ y) ∧ (y < 18446744073709551616) ∧ (0 ≤ z) ∧ (z < 18446744073709551616) ∧ (0 ≤ x) ∧ (x < 18446744073709551616) ∧ (0 ≤ y) ∧ (y < 18446744073709551616) ∧ True) ∧ res = D.v (Value.bool false))
  (h13 : ((cmpI BinOp.neq (limE b r p) 0) = false) → ((cmpI BinOp.gtr x y) = false) → ((cmpI BinOp.gtr y z) = false) → ((cmpI BinOp.neq (bE b r p x z) 0) = false) → ((cmpI BinOp.neq (bE b r p x y) 0) = false) → ((cmpI BinOp.neq (bE b r p y z) 0) = false) → ((cmpI BinOp.gtr (bV b r p x y) (bV b r p x z)) = false) → ((cmpI BinOp.gtr (bV b r p y z) (bV b r p x z)) = false) → ((cmpI BinOp.lss (bV b r p x y) (IntKind.u64.wrap b)) = true) → ((0 ≤ x) ∧ (x < 18446744073709551616) ∧ (0 ≤ z) ∧ (z < 18446744073709551616) ∧ (0 ≤ y) ∧ (y < 18446744073709551616) ∧ (0 ≤ z) ∧ (z < 18446744073709551616) ∧ (0 ≤ x) ∧ (x < 18446744073709551616) ∧ (0 ≤ y) ∧ (y < 18446744073709551616) ∧ True) ∧ res = D.v (Value.bool false))
  (h14 : ((cmpI BinOp.neq (limE b r p) 0) = false) → ((cmpI BinOp.gtr x y) = false) → ((cmpI BinOp.gtr y z) = false) → ((cmpI BinOp.neq (bE b r p x z) 0) = false) → ((cmpI BinOp.neq (bE b r p x y) 0) = false) → ((cmpI BinOp.neq (bE b r p y z) 0) = false) → ((cmpI BinOp.gtr (bV b r p x y) (bV b r p x z)) = false) → ((cmpI BinOp.gtr (bV b r p y z) (bV b r p x z)) = false) → ((cmpI BinOp.lss (bV b r p x y) (IntKind.u64.wrap b)) = false) → ((cmpI BinOp.gtr (opI BinOp.sub IntKind.u64 (bV b r p x z) (bV b r p x y)) (bV b r p y z)) = true) → ((0 ≤ x) ∧ (x < 18446744073709551616) ∧ (0 ≤ z) ∧ (z < 18446744073709551616) ∧ (0 ≤ y) ∧ (y < 18446744073709551616) ∧ (0 ≤ z) ∧ (z < 18446744073709551616) ∧ (0 ≤ x) ∧ (x < 18446744073709551616) ∧ (0 ≤ y) ∧ (y < 18446744073709551616) ∧ True) ∧ res = D.v (Value.bool false))
  (h15 : ((cmpI BinOp.neq (limE b r p) 0) = false) → ((cmpI BinOp.gtr x y) = false) → ((cmpI BinOp.gtr y z) = false) → ((cmpI BinOp.neq (bE b r p x z) 0) = false) → ((cmpI BinOp.neq (bE b r p x y) 0) = false) → ((cmpI BinOp.neq (bE b r p y z) 0) = false) → ((cmpI BinOp.gtr (bV b r p x y) (bV b r p x z)) = false) → ((cmpI BinOp.gtr (bV b r p y z) (bV b r p x z)) = false) → ((cmpI BinOp.lss (bV b r p x y) (IntKind.u64.wrap b)) = false) → ((cmpI BinOp.gtr (opI BinOp.sub IntKind.u64 (bV b r p x z) (bV b r p x y)) (bV b r p y z)) = false) → ((cmpI BinOp.neq
  ((if
        opI BinOp.sub IntKind.u64 (bV b r p x z) (IntKind.u64.wrap b) * IntKind.u64.wrap p / 18446744073709551616 *
              18446744073709551616 +
            opI BinOp.sub IntKind.u64 (bV b r p x z) (IntKind.u64.wrap b) * IntKind.u64.wrap p % 18446744073709551616 ≤
          opI BinOp.sub IntKind.u64 z x * IntKind.u64.wrap r / 18446744073709551616 * 18446744073709551616 +
            opI BinOp.sub IntKind.u64 z x * IntKind.u64.wrap r % 18446744073709551616 then
      opI BinOp.sub IntKind.u64 z x * IntKind.u64.wrap r / 18446744073709551616 * 18446744073709551616 +
          opI BinOp.sub IntKind.u64 z x * IntKind.u64.wrap r % 18446744073709551616 -
        (opI BinOp.sub IntKind.u64 (bV b r p x z) (IntKind.u64.wrap b) * IntKind.u64.wrap p / 18446744073709551616 *
            18446744073709551616 +
          opI BinOp.sub IntKind.u64 (bV b r p x z) (IntKind.u64.wrap b) * IntKind.u64.wrap p % 18446744073709551616)
    else 0) /
    18446744073709551616)
  0) = true) → ((opI BinOp.sub IntKind.u64 z x * IntKind.u64.wrap r / 18446744073709551616 < 18446744073709551616) ∧ (0 ≤ opI BinOp.sub IntKind.u64 z x * IntKind.u64.wrap r % 18446744073709551616) ∧ (opI BinOp.sub IntKind.u64 z x * IntKind.u64.wrap r % 18446744073709551616 < 18446744073709551616) ∧ (0 ≤ opI BinOp.sub IntKind.u64 (bV b r p x z) (IntKind.u64.wrap b) * IntKind.u64.wrap p / 18446744073709551616) ∧ (0 ≤ opI BinOp.sub IntKind.u64 (bV b r p x z) (IntKind.u64.wrap b) * IntKind.u64.wrap p % 18446744073709551616) ∧ (opI BinOp.sub IntKind.u64 (bV b r p x z) (IntKind.u64.wrap b) * IntKind.u64.wrap p % 18446744073709551616 <
  18446744073709551616) ∧ (0 ≤ opI BinOp.sub IntKind.u64 (bV b r p x z) (IntKind.u64.wrap b)) ∧ (opI BinOp.sub IntKind.u64 (bV b r p x z) (IntKind.u64.wrap b) < 18446744073709551616) ∧ (0 ≤ IntKind.u64.wrap p) ∧ (IntKind.u64.wrap p < 18446744073709551616) ∧ (0 ≤ opI BinOp.sub IntKind.u64 z x) ∧ (opI BinOp.sub IntKind.u64 z x < 18446744073709551616) ∧ (0 ≤ IntKind.u64.wrap r) ∧ (IntKind.u64.wrap r < 18446744073709551616) ∧ (0 ≤ x) ∧ (x < 18446744073709551616) ∧ (0 ≤ z) ∧ (z < 18446744073709551616) ∧ (0 ≤ y) ∧ (y < 18446744073709551616) ∧ (0 ≤ z) ∧ (z < 18446744073709551616) ∧ (0 ≤ x) ∧ (x < 18446744073709551616) ∧ (0 ≤ y) ∧ (y < 18446744073709551616) ∧ True) ∧ res = D.v (Value.bool false))
  (h16 : ((cmpI BinOp.neq (limE b r p) 0) = false) → ((cmpI BinOp.gtr x y) = false) → ((cmpI BinOp.gtr y z) = false) → ((cmpI BinOp.neq (bE b r p x z) 0) = false) → ((cmpI BinOp.neq (bE b r p x y) 0) = false) → ((cmpI BinOp.neq (bE b r p y z) 0) = false) → ((cmpI BinOp.gtr (bV b r p x y) (bV b r p x z)) = false) → ((cmpI BinOp.gtr (bV b r p y z) (bV b r p x z)) = false) → ((cmpI BinOp.lss (bV b r p x y) (IntKind.u64.wrap b)) = false) → ((cmpI BinOp.gtr (opI BinOp.sub IntKind.u64 (bV b r p x z) (bV b r p x y)) (bV b r p y z)) = false) → ((cmpI BinOp.neq
  ((if
        opI BinOp.sub IntKind.u64 (bV b r p x z) (IntKind.u64.wrap b) * IntKind.u64.wrap p / 18446744073709551616 *
              18446744073709551616 +
            opI BinOp.sub IntKind.u64 (bV b r p x z) (IntKind.u64.wrap b) * IntKind.u64.wrap p % 18446744073709551616 ≤
          opI BinOp.sub IntKind.u64 z x * IntKind.u64.wrap r / 18446744073709551616 * 18446744073709551616 +
            opI BinOp.sub IntKind.u64 z x * IntKind.u64.wrap r % 18446744073709551616 then
      opI BinOp.sub IntKind.u64 z x * IntKind.u64.wrap r / 18446744073709551616 * 18446744073709551616 +
          opI BinOp.sub IntKind.u64 z x * IntKind.u64.wrap r % 18446744073709551616 -
        (opI BinOp.sub IntKind.u64 (bV b r p x z) (IntKind.u64.wrap b) * IntKind.u64.wrap p / 18446744073709551616 *
            18446744073709551616 +
          opI BinOp.sub IntKind.u64 (bV b r p x z) (IntKind.u64.wrap b) * IntKind.u64.wrap p % 18446744073709551616)
    else 0) /
    18446744073709551616)
  0) = false) → ((cmpI BinOp.geq
  ((if
        opI BinOp.sub IntKind.u64 (bV b r p x z) (IntKind.u64.wrap b) * IntKind.u64.wrap p / 18446744073709551616 *
              18446744073709551616 +
            opI BinOp.sub IntKind.u64 (bV b r p x z) (IntKind.u64.wrap b) * IntKind.u64.wrap p % 18446744073709551616 ≤
          opI BinOp.sub IntKind.u64 z x * IntKind.u64.wrap r / 18446744073709551616 * 18446744073709551616 +
            opI BinOp.sub IntKind.u64 z x * IntKind.u64.wrap r % 18446744073709551616 then
      opI BinOp.sub IntKind.u64 z x * IntKind.u64.wrap r / 18446744073709551616 * 18446744073709551616 +
          opI BinOp.sub IntKind.u64 z x * IntKind.u64.wrap r % 18446744073709551616 -
        (opI BinOp.sub IntKind.u64 (bV b r p x z) (IntKind.u64.wrap b) * IntKind.u64.wrap p / 18446744073709551616 *
            18446744073709551616 +
          opI BinOp.sub IntKind.u64 (bV b r p x z) (IntKind.u64.wrap b) * IntKind.u64.wrap p % 18446744073709551616)
    else 0) %
    18446744073709551616)
  (IntKind.u64.wrap p)) = true) → ((opI BinOp.sub IntKind.u64 z x * IntKind.u64.wrap r / 18446744073709551616 < 18446744073709551616) ∧ (0 ≤ opI BinOp.sub IntKind.u64 z x * IntKind.u64.wrap r % 18446744073709551616) ∧ (opI BinOp.sub IntKind.u64 z x * IntKind.u64.wrap r % 18446744073709551616 < 18446744073709551616) ∧ (0 ≤ opI BinOp.sub IntKind.u64 (bV b r p x z) (IntKind.u64.wrap b) * IntKind.u64.wrap p / 18446744073709551616) ∧ (0 ≤ opI BinOp.sub IntKind.u64 (bV b r p x z) (IntKind.u64.wrap b) * IntKind.u64.wrap p % 18446744073709551616) ∧ (opI BinOp.sub IntKind.u64 (bV b r p x z) (IntKind.u64.wrap b) * IntKind.u64.wrap p % 18446744073709551616 <
  18446744073709551616) ∧ (0 ≤ opI BinOp.sub IntKind.u64 (bV b r p x z) (IntKind.u64.wrap b)) ∧ (opI BinOp.sub IntKind.u64 (bV b r p x z) (IntKind.u64.wrap b) < 18446744073709551616) ∧ (0 ≤ IntKind.u64.wrap p) ∧ (IntKind.u64.wrap p < 18446744073709551616) ∧ (0 ≤ opI BinOp.sub IntKind.u64 z x) ∧ (opI BinOp.sub IntKind.u64 z x < 18446744073709551616) ∧ (0 ≤ IntKind.u64.wrap r) ∧ (IntKind.u64.wrap r < 18446744073709551616) ∧ (0 ≤ x) ∧ (x < 18446744073709551616) ∧ (0 ≤ z) ∧ (z < 18446744073709551616) ∧ (0 ≤ y) ∧ (y < 18446744073709551616) ∧ (0 ≤ z) ∧ (z < 18446744073709551616) ∧ (0 ≤ x) ∧ (x < 18446744073709551616) ∧ (0 ≤ y) ∧ (y < 18446744073709551616) ∧ True) ∧ res = D.v (Value.bool false))
  (h17 : ((cmpI BinOp.neq (limE b r p) 0) = false) → ((cmpI BinOp.gtr x y) = false) → ((cmpI BinOp.gtr y z) = false) → ((cmpI BinOp.neq (bE b r p x z) 0) = false) → ((cmpI BinOp.neq (bE b r p x y) 0) = false) → ((cmpI BinOp.neq (bE b r p y z) 0) = false) → ((cmpI BinOp.gtr (bV b r p x y) (bV b r p x z)) = false) → ((cmpI BinOp.gtr (bV b r p y z) (bV b r p x z)) = false) → ((cmpI BinOp.lss (bV b r p x y) (IntKind.u64.wrap b)) = false) → ((cmpI BinOp.gtr (opI BinOp.sub IntKind.u64 (bV b r p x z) (bV b r p x y)) (bV b r p y z)) = false) → ((cmpI BinOp.neq
  ((if
        opI BinOp.sub IntKind.u64 (bV b r p x z) (IntKind.u64.wrap b) * IntKind.u64.wrap p / 18446744073709551616 *
              18446744073709551616 +
            opI BinOp.sub IntKind.u64 (bV b r p x z) (IntKind.u64.wrap b) * IntKind.u64.wrap p % 18446744073709551616 ≤
          opI BinOp.sub IntKind.u64 z x * IntKind.u64.wrap r / 18446744073709551616 * 18446744073709551616 +
            opI BinOp.sub IntKind.u64 z x * IntKind.u64.wrap r % 18446744073709551616 then
      opI BinOp.sub IntKind.u64 z x * IntKind.u64.wrap r / 18446744073709551616 * 18446744073709551616 +
          opI BinOp.sub IntKind.u64 z x * IntKind.u64.wrap r % 18446744073709551616 -
        (opI BinOp.sub IntKind.u64 (bV b r p x z) (IntKind.u64.wrap b) * IntKind.u64.wrap p / 18446744073709551616 *
            18446744073709551616 +
          opI BinOp.sub IntKind.u64 (bV b r p x z) (IntKind.u64.wrap b) * IntKind.u64.wrap p % 18446744073709551616)
    else 0) /
    18446744073709551616)
  0) = false) → ((cmpI BinOp.geq
  ((if
        opI BinOp.sub IntKind.u64 (bV b r p x z) (IntKind.u64.wrap b) * IntKind.u64.wrap p / 18446744073709551616 *
              18446744073709551616 +
            opI BinOp.sub IntKind.u64 (bV b r p x z) (IntKind.u64.wrap b) * IntKind.u64.wrap p % 18446744073709551616 ≤
          opI BinOp.sub IntKind.u64 z x * IntKind.u64.wrap r / 18446744073709551616 * 18446744073709551616 +
            opI BinOp.sub IntKind.u64 z x * IntKind.u64.wrap r % 18446744073709551616 then
      opI BinOp.sub IntKind.u64 z x * IntKind.u64.wrap r / 18446744073709551616 * 18446744073709551616 +
          opI BinOp.sub IntKind.u64 z x * IntKind.u64.wrap r % 18446744073709551616 -
        (opI BinOp.sub IntKind.u64 (bV b r p x z) (IntKind.u64.wrap b) * IntKind.u64.wrap p / 18446744073709551616 *
            18446744073709551616 +
          opI BinOp.sub IntKind.u64 (bV b r p x z) (IntKind.u64.wrap b) * IntKind.u64.wrap p % 18446744073709551616)
    else 0) %
    18446744073709551616)
  (IntKind.u64.wrap p)) = false) → ((cmpI BinOp.lss
  (cmpZ
    (opI BinOp.sub IntKind.u64 z x * IntKind.u64.wrap r / 18446744073709551616 * 18446744073709551616 +
      opI BinOp.sub IntKind.u64 z x * IntKind.u64.wrap r % 18446744073709551616)
    (opI BinOp.sub IntKind.u64 (bV b r p x z) (IntKind.u64.wrap b) * IntKind.u64.wrap p / 18446744073709551616 *
        18446744073709551616 +
      opI BinOp.sub IntKind.u64 (bV b r p x z) (IntKind.u64.wrap b) * IntKind.u64.wrap p % 18446744073709551616))
  0) = true) → ((0 ≤ opI BinOp.sub IntKind.u64 z x * IntKind.u64.wrap r % 18446744073709551616) ∧ (opI BinOp.sub IntKind.u64 z x * IntKind.u64.wrap r % 18446744073709551616 < 18446744073709551616) ∧ (0 ≤ opI BinOp.sub IntKind.u64 (bV b r p x z) (IntKind.u64.wrap b) * IntKind.u64.wrap p % 18446744073709551616) ∧ (opI BinOp.sub IntKind.u64 (bV b r p x z) (IntKind.u64.wrap b) * IntKind.u64.wrap p % 18446744073709551616 <
  18446744073709551616) ∧ (0 ≤ opI BinOp.sub IntKind.u64 (bV b r p x z) (IntKind.u64.wrap b)) ∧ (opI BinOp.sub IntKind.u64 (bV b r p x z) (IntKind.u64.wrap b) < 18446744073709551616) ∧ (0 ≤ IntKind.u64.wrap p) ∧ (IntKind.u64.wrap p < 18446744073709551616) ∧ (0 ≤ opI BinOp.sub IntKind.u64 z x) ∧ (opI BinOp.sub IntKind.u64 z x < 18446744073709551616) ∧ (0 ≤ IntKind.u64.wrap r) ∧ (IntKind.u64.wrap r < 18446744073709551616) ∧ (opI BinOp.sub IntKind.u64 z x * IntKind.u64.wrap r / 18446744073709551616 < 18446744073709551616) ∧ (0 ≤ opI BinOp.sub IntKind.u64 z x * IntKind.u64.wrap r % 18446744073709551616) ∧ (opI BinOp.sub IntKind.u64 z x * IntKind.u64.wrap r % 18446744073709551616 < 18446744073709551616) ∧ (0 ≤ opI BinOp.sub IntKind.u64 (bV b r p x z) (IntKind.u64.wrap b) * IntKind.u64.wrap p / 18446744073709551616) ∧ (0 ≤ opI BinOp.sub IntKind.u64 (bV b r p x z) (IntKind.u64.wrap b) * IntKind.u64.wrap p % 18446744073709551616) ∧ (opI BinOp.sub IntKind.u64 (bV b r p x z) (IntKind.u64.wrap b) * IntKind.u64.wrap p % 18446744073709551616 <
  18446744073709551616) ∧ (0 ≤ opI BinOp.sub IntKind.u64 (bV b r p x z) (IntKind.u64.wrap b)) ∧ (opI BinOp.sub IntKind.u64 (bV b r p x z) (IntKind.u64.wrap b) < 18446744073709551616) ∧ (0 ≤ IntKind.u64.wrap p) ∧ (IntKind.u64.wrap p < 18446744073709551616) ∧ (0 ≤ opI BinOp.sub IntKind.u64 z x) ∧ (opI BinOp.sub IntKind.u64 z x < 18446744073709551616) ∧ (0 ≤ IntKind.u64.wrap r) ∧ (IntKind.u64.wrap r < 18446744073709551616) ∧ (0 ≤ x) ∧ (x < 18446744073709551616) ∧ (0 ≤ z) ∧ (z < 18446744073709551616) ∧ (0 ≤ y) ∧ (y < 18446744073709551616) ∧ (0 ≤ z) ∧ (z < 18446744073709551616) ∧ (0 ≤ x) ∧ (x < 18446744073709551616) ∧ (0 ≤ y) ∧ (y < 18446744073709551616) ∧ True) ∧ res = D.v (Value.bool false))
  (h18 : ((cmpI BinOp.neq (limE b r p) 0) = false) → ((cmpI BinOp.gtr x y) = false) → ((cmpI BinOp.gtr y z) = false) → ((cmpI BinOp.neq (bE b r p x z) 0) = false) → ((cmpI BinOp.neq (bE b r p x y) 0) = false) → ((cmpI BinOp.neq (bE b r p y z) 0) = false) → ((cmpI BinOp.gtr (bV b r p x y) (bV b r p x z)) = false) → ((cmpI BinOp.gtr (bV b r p y z) (bV b r p x z)) = false) → ((cmpI BinOp.lss (bV b r p x y) (IntKind.u64.wrap b)) = false) → ((cmpI BinOp.gtr (opI BinOp.sub IntKind.u64 (bV b r p x z) (bV b r p x y)) (bV b r p y z)) = false) → ((cmpI BinOp.neq
  ((if
        opI BinOp.sub IntKind.u64 (bV b r p x z) (IntKind.u64.wrap b) * IntKind.u64.wrap p / 18446744073709551616 *
              18446744073709551616 +
            opI BinOp.sub IntKind.u64 (bV b r p x z) (IntKind.u64.wrap b) * IntKind.u64.wrap p % 18446744073709551616 ≤
          opI BinOp.sub IntKind.u64 z x * IntKind.u64.wrap r / 18446744073709551616 * 18446744073709551616 +
            opI BinOp.sub IntKind.u64 z x * IntKind.u64.wrap r % 18446744073709551616 then
      opI BinOp.sub IntKind.u64 z x * IntKind.u64.wrap r / 18446744073709551616 * 18446744073709551616 +
          opI BinOp.sub IntKind.u64 z x * IntKind.u64.wrap r % 18446744073709551616 -
        (opI BinOp.sub IntKind.u64 (bV b r p x z) (IntKind.u64.wrap b) * IntKind.u64.wrap p / 18446744073709551616 *
            18446744073709551616 +
          opI BinOp.sub IntKind.u64 (bV b r p x z) (IntKind.u64.wrap b) * IntKind.u64.wrap p % 18446744073709551616)
    else 0) /
    18446744073709551616)
  0) = false) → ((cmpI BinOp.geq
  ((if
        opI BinOp.sub IntKind.u64 (bV b r p x z) (IntKind.u64.wrap b) * IntKind.u64.wrap p / 18446744073709551616 *
              18446744073709551616 +
            opI BinOp.sub IntKind.u64 (bV b r p x z) (IntKind.u64.wrap b) * IntKind.u64.wrap p % 18446744073709551616 ≤
          opI BinOp.sub IntKind.u64 z x * IntKind.u64.wrap r / 18446744073709551616 * 18446744073709551616 +
            opI BinOp.sub IntKind.u64 z x * IntKind.u64.wrap r % 18446744073709551616 then
      opI BinOp.sub IntKind.u64 z x * IntKind.u64.wrap r / 18446744073709551616 * 18446744073709551616 +
          opI BinOp.sub IntKind.u64 z x * IntKind.u64.wrap r % 18446744073709551616 -
        (opI BinOp.sub IntKind.u64 (bV b r p x z) (IntKind.u64.wrap b) * IntKind.u64.wrap p / 18446744073709551616 *
            18446744073709551616 +
          opI BinOp.sub IntKind.u64 (bV b r p x z) (IntKind.u64.wrap b) * IntKind.u64.wrap p % 18446744073709551616)
    else 0) %
    18446744073709551616)
  (IntKind.u64.wrap p)) = false) → ((cmpI BinOp.lss
  (cmpZ
    (opI BinOp.sub IntKind.u64 z x * IntKind.u64.wrap r / 18446744073709551616 * 18446744073709551616 +
      opI BinOp.sub IntKind.u64 z x * IntKind.u64.wrap r % 18446744073709551616)
    (opI BinOp.sub IntKind.u64 (bV b r p x z) (IntKind.u64.wrap b) * IntKind.u64.wrap p / 18446744073709551616 *
        18446744073709551616 +
      opI BinOp.sub IntKind.u64 (bV b r p x z) (IntKind.u64.wrap b) * IntKind.u64.wrap p % 18446744073709551616))
  0) = false) → ((cmpI BinOp.lss m 1) = true) → ((0 ≤ opI BinOp.sub IntKind.u64 z x * IntKind.u64.wrap r % 18446744073709551616) ∧ (opI BinOp.sub IntKind.u64 z x * IntKind.u64.wrap r % 18446744073709551616 < 18446744073709551616) ∧ (0 ≤ opI BinOp.sub IntKind.u64 (bV b r p x z) (IntKind.u64.wrap b) * IntKind.u64.wrap p % 18446744073709551616) ∧ (opI BinOp.sub IntKind.u64 (bV b r p x z) (IntKind.u64.wrap b) * IntKind.u64.wrap p % 18446744073709551616 <
  18446744073709551616) ∧ (0 ≤ opI BinOp.sub IntKind.u64 (bV b r p x z) (IntKind.u64.wrap b)) ∧ (opI BinOp.sub IntKind.u64 (bV b r p x z) (IntKind.u64.wrap b) < 18446744073709551616) ∧ (0 ≤ IntKind.u64.wrap p) ∧ (IntKind.u64.wrap p < 18446744073709551616) ∧ (0 ≤ opI BinOp.sub IntKind.u64 z x) ∧ (opI BinOp.sub IntKind.u64 z x < 18446744073709551616) ∧ (0 ≤ IntKind.u64.wrap r) ∧ (IntKind.u64.wrap r < 18446744073709551616) ∧ (opI BinOp.sub IntKind.u64 z x * IntKind.u64.wrap r / 18446744073709551616 < 18446744073709551616) ∧ (0 ≤ opI BinOp.sub IntKind.u64 z x * IntKind.u64.wrap r % 18446744073709551616) ∧ (opI BinOp.sub IntKind.u64 z x * IntKind.u64.wrap r % 18446744073709551616 < 18446744073709551616) ∧ (0 ≤ opI BinOp.sub IntKind.u64 (bV b r p x z) (IntKind.u64.wrap b) * IntKind.u64.wrap p / 18446744073709551616) ∧ (0 ≤ opI BinOp.sub IntKind.u64 (bV b r p x z) (IntKind.u64.wrap b) * IntKind.u64.wrap p % 18446744073709551616) ∧ (opI BinOp.sub IntKind.u64 (bV b r p x z) (IntKind.u64.wrap b) * IntKind.u64.wrap p % 18446744073709551616 <
  18446744073709551616) ∧ (0 ≤ opI BinOp.sub IntKind.u64 (bV b r p x z) (IntKind.u64.wrap b)) ∧ (opI BinOp.sub IntKind.u64 (bV b r p x z) (IntKind.u64.wrap b) < 18446744073709551616) ∧ (0 ≤ IntKind.u64.wrap p) ∧ (IntKind.u64.wrap p < 18446744073709551616) ∧ (0 ≤ opI BinOp.sub IntKind.u64 z x) ∧ (opI BinOp.sub IntKind.u64 z x < 18446744073709551616) ∧ (0 ≤ IntKind.u64.wrap r) ∧ (IntKind.u64.wrap r < 18446744073709551616) ∧ (0 ≤ x) ∧ (x < 18446744073709551616) ∧ (0 ≤ z) ∧ (z < 18446744073709551616) ∧ (0 ≤ y) ∧ (y < 18446744073709551616) ∧ (0 ≤ z) ∧ (z < 18446744073709551616) ∧ (0 ≤ x) ∧ (x < 18446744073709551616) ∧ (0 ≤ y) ∧ (y < 18446744073709551616) ∧ True) ∧ res = D.v (Value.bool true))
  (h19 : ((cmpI BinOp.neq (limE b r p) 0) = false) → ((cmpI BinOp.gtr x y) = false) → ((cmpI BinOp.gtr y z) = false) → ((cmpI BinOp.neq (bE b r p x z) 0) = false) → ((cmpI BinOp.neq (bE b r p x y) 0) = false) → ((cmpI BinOp.neq (bE b r p y z) 0) = false) → ((cmpI BinOp.gtr (bV b r p x y) (bV b r p x z)) = false) → ((cmpI BinOp.gtr (bV b r p y z) (bV b r p x z)) = false) → ((cmpI BinOp.lss (bV b r p x y) (IntKind.u64.wrap b)) = false) → ((cmpI BinOp.gtr (opI BinOp.sub IntKind.u64 (bV b r p x z) (bV b r p x y)) (bV b r p y z)) = false) → ((cmpI BinOp.neq
  ((if
        opI BinOp.sub IntKind.u64 (bV b r p x z) (IntKind.u64.wrap b) * IntKind.u64.wrap p / 18446744073709551616 *
              18446744073709551616 +
            opI BinOp.sub IntKind.u64 (bV b r p x z) (IntKind.u64.wrap b) * IntKind.u64.wrap p % 18446744073709551616 ≤
          opI BinOp.sub IntKind.u64 z x * IntKind.u64.wrap r / 18446744073709551616 * 18446744073709551616 +
            opI BinOp.sub IntKind.u64 z x * IntKind.u64.wrap r % 18446744073709551616 then
      opI BinOp.sub IntKind.u64 z x * IntKind.u64.wrap r / 18446744073709551616 * 18446744073709551616 +
          opI BinOp.sub IntKind.u64 z x * IntKind.u64.wrap r % 18446744073709551616 -
        (opI BinOp.sub IntKind.u64 (bV b r p x z) (IntKind.u64.wrap b) * IntKind.u64.wrap p / 18446744073709551616 *
            18446744073709551616 +
          opI BinOp.sub IntKind.u64 (bV b r p x z) (IntKind.u64.wrap b) * IntKind.u64.wrap p % 18446744073709551616)
    else 0) /
    18446744073709551616)
  0) = false) → ((cmpI BinOp.geq
  ((if
        opI BinOp.sub IntKind.u64 (bV b r p x z) (IntKind.u64.wrap b) * IntKind.u64.wrap p / 18446744073709551616 *
              18446744073709551616 +
            opI BinOp.sub IntKind.u64 (bV b r p x z) (IntKind.u64.wrap b) * IntKind.u64.wrap p % 18446744073709551616 ≤
          opI BinOp.sub IntKind.u64 z x * IntKind.u64.wrap r / 18446744073709551616 * 18446744073709551616 +
            opI BinOp.sub IntKind.u64 z x * IntKind.u64.wrap r % 18446744073709551616 then
      opI BinOp.sub IntKind.u64 z x * IntKind.u64.wrap r / 18446744073709551616 * 18446744073709551616 +
          opI BinOp.sub IntKind.u64 z x * IntKind.u64.wrap r % 18446744073709551616 -
        (opI BinOp.sub IntKind.u64 (bV b r p x z) (IntKind.u64.wrap b) * IntKind.u64.wrap p / 18446744073709551616 *
            18446744073709551616 +
          opI BinOp.sub IntKind.u64 (bV b r p x z) (IntKind.u64.wrap b) * IntKind.u64.wrap p % 18446744073709551616)
    else 0) %
    18446744073709551616)
  (IntKind.u64.wrap p)) = false) → ((cmpI BinOp.lss
  (cmpZ
    (opI BinOp.sub IntKind.u64 z x * IntKind.u64.wrap r / 18446744073709551616 * 18446744073709551616 +
      opI BinOp.sub IntKind.u64 z x * IntKind.u64.wrap r % 18446744073709551616)
    (opI BinOp.sub IntKind.u64 (bV b r p x z) (IntKind.u64.wrap b) * IntKind.u64.wrap p / 18446744073709551616 *
        18446744073709551616 +
      opI BinOp.sub IntKind.u64 (bV b r p x z) (IntKind.u64.wrap b) * IntKind.u64.wrap p % 18446744073709551616))
  0) = false) → ((cmpI BinOp.lss m 1) = false) → ((cmpI BinOp.gtr m (opI BinOp.sub IntKind.i64 1000000000 b)) = true) → ((0 ≤ opI BinOp.sub IntKind.u64 z x * IntKind.u64.wrap r % 18446744073709551616) ∧ (opI BinOp.sub IntKind.u64 z x * IntKind.u64.wrap r % 18446744073709551616 < 18446744073709551616) ∧ (0 ≤ opI BinOp.sub IntKind.u64 (bV b r p x z) (IntKind.u64.wrap b) * IntKind.u64.wrap p % 18446744073709551616) ∧ (opI BinOp.sub IntKind.u64 (bV b r p x z) (IntKind.u64.wrap b) * IntKind.u64.wrap p % 18446744073709551616 <
  18446744073709551616) ∧ (0 ≤ opI BinOp.sub IntKind.u64 (bV b r p x z) (IntKind.u64.wrap b)) ∧ (opI BinOp.sub IntKind.u64 (bV b r p x z) (IntKind.u64.wrap b) < 18446744073709551616) ∧ (0 ≤ IntKind.u64.wrap p) ∧ (IntKind.u64.wrap p < 18446744073709551616) ∧ (0 ≤ opI BinOp.sub IntKind.u64 z x) ∧ (opI BinOp.sub IntKind.u64 z x < 18446744073709551616) ∧ (0 ≤ IntKind.u64.wrap r) ∧ (IntKind.u64.wrap r < 18446744073709551616) ∧ (opI BinOp.sub IntKind.u64 z x * IntKind.u64.wrap r / 18446744073709551616 < 18446744073709551616) ∧ (0 ≤ opI BinOp.sub IntKind.u64 z x * IntKind.u64.wrap r % 18446744073709551616) ∧ (opI BinOp.sub IntKind.u64 z x * IntKind.u64.wrap r % 18446744073709551616 < 18446744073709551616) ∧ (0 ≤ opI BinOp.sub IntKind.u64 (bV b r p x z) (IntKind.u64.wrap b) * IntKind.u64.wrap p / 18446744073709551616) ∧ (0 ≤ opI BinOp.sub IntKind.u64 (bV b r p x z) (IntKind.u64.wrap b) * IntKind.u64.wrap p % 18446744073709551616) ∧ (opI BinOp.sub IntKind.u64 (bV b r p x z) (IntKind.u64.wrap b) * IntKind.u64.wrap p % 18446744073709551616 <
  18446744073709551616) ∧ (0 ≤ opI BinOp.sub IntKind.u64 (bV b r p x z) (IntKind.u64.wrap b)) ∧ (opI BinOp.sub IntKind.u64 (bV b r p x z) (IntKind.u64.wrap b) < 18446744073709551616) ∧ (0 ≤ IntKind.u64.wrap p) ∧ (IntKind.u64.wrap p < 18446744073709551616) ∧ (0 ≤ opI BinOp.sub IntKind.u64 z x) ∧ (opI BinOp.sub IntKind.u64 z x < 18446744073709551616) ∧ (0 ≤ IntKind.u64.wrap r) ∧ (IntKind.u64.wrap r < 18446744073709551616) ∧ (0 ≤ x) ∧ (x < 18446744073709551616) ∧ (0 ≤ z) ∧ (z < 18446744073709551616) ∧ (0 ≤ y) ∧ (y < 18446744073709551616) ∧ (0 ≤ z) ∧ (z < 18446744073709551616) ∧ (0 ≤ x) ∧ (x < 18446744073709551616) ∧ (0 ≤ y) ∧ (y < 18446744073709551616) ∧ True) ∧ res = D.v (Value.bool true))
  (h20 : ((cmpI BinOp.neq (limE b r p) 0) = false) → ((cmpI BinOp.gtr x y) = false) → ((cmpI BinOp.gtr y z) = false) → ((cmpI BinOp.neq (bE b r p x z) 0) = false) → ((cmpI BinOp.neq (bE b r p x y) 0) = false) → ((cmpI BinOp.neq (bE b r p y z) 0) = false) → ((cmpI BinOp.gtr (bV b r p x y) (bV b r p x z)) = false) → ((cmpI BinOp.gtr (bV b r p y z) (bV b r p x z)) = false) → ((cmpI BinOp.lss (bV b r p x y) (IntKind.u64.wrap b)) = false) → ((cmpI BinOp.gtr (opI BinOp.sub IntKind.u64 (bV b r p x z) (bV b r p x y)) (bV b r p y z)) = false) → ((cmpI BinOp.neq
  ((if
        opI BinOp.sub IntKind.u64 (bV b r p x z) (IntKind.u64.wrap b) * IntKind.u64.wrap p / 18446744073709551616 *
              18446744073709551616 +
            opI BinOp.sub IntKind.u64 (bV b r p x z) (IntKind.u64.wrap b) * IntKind.u64.wrap p % 18446744073709551616 ≤
          opI BinOp.sub IntKind.u64 z x * IntKind.u64.wrap r / 18446744073709551616 * 18446744073709551616 +
            opI BinOp.sub IntKind.u64 z x * IntKind.u64.wrap r % 18446744073709551616 then
      opI BinOp.sub IntKind.u64 z x * IntKind.u64.wrap r / 18446744073709551616 * 18446744073709551616 +
          opI BinOp.sub IntKind.u64 z x * IntKind.u64.wrap r % 18446744073709551616 -
        (opI BinOp.sub IntKind.u64 (bV b r p x z) (IntKind.u64.wrap b) * IntKind.u64.wrap p / 18446744073709551616 *
            18446744073709551616 +
          opI BinOp.sub IntKind.u64 (bV b r p x z) (IntKind.u64.wrap b) * IntKind.u64.wrap p % 18446744073709551616)
    else 0) /
    18446744073709551616)
  0) = false) → ((cmpI BinOp.geq
  ((if
        opI BinOp.sub IntKind.u64 (bV b r p x z) (IntKind.u64.wrap b) * IntKind.u64.wrap p / 18446744073709551616 *
              18446744073709551616 +
            opI BinOp.sub IntKind.u64 (bV b r p x z) (IntKind.u64.wrap b) * IntKind.u64.wrap p % 18446744073709551616 ≤
          opI BinOp.sub IntKind.u64 z x * IntKind.u64.wrap r / 18446744073709551616 * 18446744073709551616 +
            opI BinOp.sub IntKind.u64 z x * IntKind.u64.wrap r % 18446744073709551616 then
      opI BinOp.sub IntKind.u64 z x * IntKind.u64.wrap r / 18446744073709551616 * 18446744073709551616 +
          opI BinOp.sub IntKind.u64 z x * IntKind.u64.wrap r % 18446744073709551616 -
        (opI BinOp.sub IntKind.u64 (bV b r p x z) (IntKind.u64.wrap b) * IntKind.u64.wrap p / 18446744073709551616 *
            18446744073709551616 +
          opI BinOp.sub IntKind.u64 (bV b r p x z) (IntKind.u64.wrap b) * IntKind.u64.wrap p % 18446744073709551616)
    else 0) %
    18446744073709551616)
  (IntKind.u64.wrap p)) = false) → ((cmpI BinOp.lss
  (cmpZ
    (opI BinOp.sub IntKind.u64 z x * IntKind.u64.wrap r / 18446744073709551616 * 18446744073709551616 +
      opI BinOp.sub IntKind.u64 z x * IntKind.u64.wrap r % 18446744073709551616)
    (opI BinOp.sub IntKind.u64 (bV b r p x z) (IntKind.u64.wrap b) * IntKind.u64.wrap p / 18446744073709551616 *
        18446744073709551616 +
      opI BinOp.sub IntKind.u64 (bV b r p x z) (IntKind.u64.wrap b) * IntKind.u64.wrap p % 18446744073709551616))
  0) = false) → ((cmpI BinOp.lss m 1) = false) → ((cmpI BinOp.gtr m (opI BinOp.sub IntKind.i64 1000000000 b)) = false) → ((cmpI BinOp.eql (bE (opI BinOp.add IntKind.i64 b m) r p x z) 16) = true) → ((0 ≤ x) ∧ (x < 18446744073709551616) ∧ (0 ≤ z) ∧ (z < 18446744073709551616) ∧ (0 ≤ opI BinOp.sub IntKind.u64 z x * IntKind.u64.wrap r % 18446744073709551616) ∧ (opI BinOp.sub IntKind.u64 z x * IntKind.u64.wrap r % 18446744073709551616 < 18446744073709551616) ∧ (0 ≤ opI BinOp.sub IntKind.u64 (bV b r p x z) (IntKind.u64.wrap b) * IntKind.u64.wrap p % 18446744073709551616) ∧ (opI BinOp.sub IntKind.u64 (bV b r p x z) (IntKind.u64.wrap b) * IntKind.u64.wrap p % 18446744073709551616 <
  18446744073709551616) ∧ (0 ≤ opI BinOp.sub IntKind.u64 (bV b r p x z) (IntKind.u64.wrap b)) ∧ (opI BinOp.sub IntKind.u64 (bV b r p x z) (IntKind.u64.wrap b) < 18446744073709551616) ∧ (0 ≤ IntKind.u64.wrap p) ∧ (IntKind.u64.wrap p < 18446744073709551616) ∧ (0 ≤ opI BinOp.sub IntKind.u64 z x) ∧ (opI BinOp.sub IntKind.u64 z x < 18446744073709551616) ∧ (0 ≤ IntKind.u64.wrap r) ∧ (IntKind.u64.wrap r < 18446744073709551616) ∧ (opI BinOp.sub IntKind.u64 z x * IntKind.u64.wrap r / 18446744073709551616 < 18446744073709551616) ∧ (0 ≤ opI BinOp.sub IntKind.u64 z x * IntKind.u64.wrap r % 18446744073709551616) ∧ (opI BinOp.sub IntKind.u64 z x * IntKind.u64.wrap r % 18446744073709551616 < 18446744073709551616) ∧ (0 ≤ opI BinOp.sub IntKind.u64 (bV b r p x z) (IntKind.u64.wrap b) * IntKind.u64.wrap p / 18446744073709551616) ∧ (0 ≤ opI BinOp.sub IntKind.u64 (bV b r p x z) (IntKind.u64.wrap b) * IntKind.u64.wrap p % 18446744073709551616) ∧ (opI BinOp.sub IntKind.u64 (bV b r p x z) (IntKind.u64.wrap b) * IntKind.u64.wrap p % 18446744073709551616 <
  18446744073709551616) ∧ (0 ≤ opI BinOp.sub IntKind.u64 (bV b r p x z) (IntKind.u64.wrap b)) ∧ (opI BinOp.sub IntKind.u64 (bV b r p x z) (IntKind.u64.wrap b) < 18446744073709551616) ∧ (0 ≤ IntKind.u64.wrap p) ∧ (IntKind.u64.wrap p < 18446744073709551616) ∧ (0 ≤ opI BinOp.sub IntKind.u64 z x) ∧ (opI BinOp.sub IntKind.u64 z x < 18446744073709551616) ∧ (0 ≤ IntKind.u64.wrap r) ∧ (IntKind.u64.wrap r < 18446744073709551616) ∧ (0 ≤ x) ∧ (x < 18446744073709551616) ∧ (0 ≤ z) ∧ (z < 18446744073709551616) ∧ (0 ≤ y) ∧ (y < 18446744073709551616) ∧ (0 ≤ z) ∧ (z < 18446744073709551616) ∧ (0 ≤ x) ∧ (x < 18446744073709551616) ∧ (0 ≤ y) ∧ (y < 18446744073709551616) ∧ True) ∧ res = D.v (Value.bool true))
  (h21 : ((cmpI BinOp.neq (limE b r p) 0) = false) → ((cmpI BinOp.gtr x y) = false) → ((cmpI BinOp.gtr y z) = false) → ((cmpI BinOp.neq (bE b r p x z) 0) = false) → ((cmpI BinOp.neq (bE b r p x y) 0) = false) → ((cmpI BinOp.neq (bE b r p y z) 0) = false) → ((cmpI BinOp.gtr (bV b r p x y) (bV b r p x z)) = false) → ((cmpI BinOp.gtr (bV b r p y z) (bV b r p x z)) = false) → ((cmpI BinOp.lss (bV b r p x y) (IntKind.u64.wrap b)) = false) → ((cmpI BinOp.gtr (opI BinOp.sub IntKind.u64 (bV b r p x z) (bV b r p x y)) (bV b r p y z)) = false) → ((cmpI BinOp.neq
  ((if
        opI BinOp.sub IntKind.u64 (bV b r p x z) (IntKind.u64.wrap b) * IntKind.u64.wrap p / 18446744073709551616 *
              18446744073709551616 +
            opI BinOp.sub IntKind.u64 (bV b r p x z) (IntKind.u64.wrap b) * IntKind.u64.wrap p % 18446744073709551616 ≤
          opI BinOp.sub IntKind.u64 z x * IntKind.u64.wrap r / 18446744073709551616 * 18446744073709551616 +
            opI BinOp.sub IntKind.u64 z x * IntKind.u64.wrap r % 18446744073709551616 then
      opI BinOp.sub IntKind.u64 z x * IntKind.u64.wrap r / 18446744073709551616 * 18446744073709551616 +
          opI BinOp.sub IntKind.u64 z x * IntKind.u64.wrap r % 18446744073709551616 -
        (opI BinOp.sub IntKind.u64 (bV b r p x z) (IntKind.u64.wrap b) * IntKind.u64.wrap p / 18446744073709551616 *
            18446744073709551616 +
          opI BinOp.sub IntKind.u64 (bV b r p x z) (IntKind.u64.wrap b) * IntKind.u64.wrap p % 18446744073709551616)
    else 0) /
    18446744073709551616)
  0) = false) → ((cmpI BinOp.geq
  ((if
        opI BinOp.sub IntKind.u64 (bV b r p x z) (IntKind.u64.wrap b) * IntKind.u64.wrap p / 18446744073709551616 *
              18446744073709551616 +
            opI BinOp.sub IntKind.u64 (bV b r p x z) (IntKind.u64.wrap b) * IntKind.u64.wrap p % 18446744073709551616 ≤
          opI BinOp.sub IntKind.u64 z x * IntKind.u64.wrap r / 18446744073709551616 * 18446744073709551616 +
            opI BinOp.sub IntKind.u64 z x * IntKind.u64.wrap r % 18446744073709551616 then
      opI BinOp.sub IntKind.u64 z x * IntKind.u64.wrap r / 18446744073709551616 * 18446744073709551616 +
          opI BinOp.sub IntKind.u64 z x * IntKind.u64.wrap r % 18446744073709551616 -
        (opI BinOp.sub IntKind.u64 (bV b r p x z) (IntKind.u64.wrap b) * IntKind.u64.wrap p / 18446744073709551616 *
            18446744073709551616 +
          opI BinOp.sub IntKind.u64 (bV b r p x z) (IntKind.u64.wrap b) * IntKind.u64.wrap p % 18446744073709551616)
    else 0) %
    18446744073709551616)
  (IntKind.u64.wrap p)) = false) → ((cmpI BinOp.lss
  (cmpZ
    (opI BinOp.sub IntKind.u64 z x * IntKind.u64.wrap r / 18446744073709551616 * 18446744073709551616 +
      opI BinOp.sub IntKind.u64 z x * IntKind.u64.wrap r % 18446744073709551616)
    (opI BinOp.sub IntKind.u64 (bV b r p x z) (IntKind.u64.wrap b) * IntKind.u64.wrap p / 18446744073709551616 *
        18446744073709551616 +
      opI BinOp.sub IntKind.u64 (bV b r p x z) (IntKind.u64.wrap b) * IntKind.u64.wrap p % 18446744073709551616))
  0) = false) → ((cmpI BinOp.lss m 1) = false) → ((cmpI BinOp.gtr m (opI BinOp.sub IntKind.i64 1000000000 b)) = false) → ((cmpI BinOp.eql (bE (opI BinOp.add IntKind.i64 b m) r p x z) 16) = false) → ((cmpI BinOp.eql (bE (opI BinOp.add IntKind.i64 b m) r p x z) 0) = true) → ((0 ≤ x) ∧ (x < 18446744073709551616) ∧ (0 ≤ z) ∧ (z < 18446744073709551616) ∧ (0 ≤ opI BinOp.sub IntKind.u64 z x * IntKind.u64.wrap r % 18446744073709551616) ∧ (opI BinOp.sub IntKind.u64 z x * IntKind.u64.wrap r % 18446744073709551616 < 18446744073709551616) ∧ (0 ≤ opI BinOp.sub IntKind.u64 (bV b r p x z) (IntKind.u64.wrap b) * IntKind.u64.wrap p % 18446744073709551616) ∧ (opI BinOp.sub IntKind.u64 (bV b r p x z) (IntKind.u64.wrap b) * IntKind.u64.wrap p % 18446744073709551616 <
  18446744073709551616) ∧ (0 ≤ opI BinOp.sub IntKind.u64 (bV b r p x z) (IntKind.u64.wrap b)) ∧ (opI BinOp.sub IntKind.u64 (bV b r p x z) (IntKind.u64.wrap b) < 18446744073709551616) ∧ (0 ≤ IntKind.u64.wrap p) ∧ (IntKind.u64.wrap p < 18446744073709551616) ∧ (0 ≤ opI BinOp.sub IntKind.u64 z x) ∧ (opI BinOp.sub IntKind.u64 z x < 18446744073709551616) ∧ (0 ≤ IntKind.u64.wrap r) ∧ (IntKind.u64.wrap r < 18446744073709551616) ∧ (opI BinOp.sub IntKind.u64 z x * IntKind.u64.wrap r / 18446744073709551616 < 18446744073709551616) ∧ (0 ≤ opI BinOp.sub IntKind.u64 z x * IntKind.u64.wrap r % 18446744073709551616) ∧ (opI BinOp.sub IntKind.u64 z x * IntKind.u64.wrap r % 18446744073709551616 < 18446744073709551616) ∧ (0 ≤ opI BinOp.sub IntKind.u64 (bV b r p x z) (IntKind.u64.wrap b) * IntKind.u64.wrap p / 18446744073709551616) ∧ (0 ≤ opI BinOp.sub IntKind.u64 (bV b r p x z) (IntKind.u64.wrap b) * IntKind.u64.wrap p % 18446744073709551616) ∧ (opI BinOp.sub IntKind.u64 (bV b r p x z) (IntKind.u64.wrap b) * IntKind.u64.wrap p % 18446744073709551616 <
  18446744073709551616) ∧ (0 ≤ opI BinOp.sub IntKind.u64 (bV b r p x z) (IntKind.u64.wrap b)) ∧ (opI BinOp.sub IntKind.u64 (bV b r p x z) (IntKind.u64.wrap b) < 18446744073709551616) ∧ (0 ≤ IntKind.u64.wrap p) ∧ (IntKind.u64.wrap p < 18446744073709551616) ∧ (0 ≤ opI BinOp.sub IntKind.u64 z x) ∧ (opI BinOp.sub IntKind.u64 z x < 18446744073709551616) ∧ (0 ≤ IntKind.u64.wrap r) ∧ (IntKind.u64.wrap r < 18446744073709551616) ∧ (0 ≤ x) ∧ (x < 18446744073709551616) ∧ (0 ≤ z) ∧ (z < 18446744073709551616) ∧ (0 ≤ y) ∧ (y < 18446744073709551616) ∧ (0 ≤ z) ∧ (z < 18446744073709551616) ∧ (0 ≤ x) ∧ (x < 18446744073709551616) ∧ (0 ≤ y) ∧ (y < 18446744073709551616) ∧ True) ∧ res = D.v
  (Value.bool
    (cmpI BinOp.eql (bV (opI BinOp.add IntKind.i64 b m) r p x z)
      (opI BinOp.add IntKind.u64 (bV b r p x z) (IntKind.u64.wrap m)))))
  (h22 : ((cmpI BinOp.neq (limE b r p) 0) = false) → ((cmpI BinOp.gtr x y) = false) → ((cmpI BinOp.gtr y z) = false) → ((cmpI BinOp.neq (bE b r p x z) 0) = false) → ((cmpI BinOp.neq (bE b r p x y) 0) = false) → ((cmpI BinOp.neq (bE b r p y z) 0) = false) → ((cmpI BinOp.gtr (bV b r p x y) (bV b r p x z)) = false) → ((cmpI BinOp.gtr (bV b r p y z) (bV b r p x z)) = false) → ((cmpI BinOp.lss (bV b r p x y) (IntKind.u64.wrap b)) = false) → ((cmpI BinOp.gtr (opI BinOp.sub IntKind.u64 (bV b r p x z) (bV b r p x y)) (bV b r p y z)) = false) → ((cmpI BinOp.neq
  ((if
        opI BinOp.sub IntKind.u64 (bV b r p x z) (IntKind.u64.wrap b) * IntKind.u64.wrap p / 18446744073709551616 *
              18446744073709551616 +
            opI BinOp.sub IntKind.u64 (bV b r p x z) (IntKind.u64.wrap b) * IntKind.u64.wrap p % 18446744073709551616 ≤
          opI BinOp.sub IntKind.u64 z x * IntKind.u64.wrap r / 18446744073709551616 * 18446744073709551616 +
            opI BinOp.sub IntKind.u64 z x * IntKind.u64.wrap r % 18446744073709551616 then
      opI BinOp.sub IntKind.u64 z x * IntKind.u64.wrap r / 18446744073709551616 * 18446744073709551616 +
          opI BinOp.sub IntKind.u64 z x * IntKind.u64.wrap r % 18446744073709551616 -
        (opI BinOp.sub IntKind.u64 (bV b r p x z) (IntKind.u64.wrap b) * IntKind.u64.wrap p / 18446744073709551616 *
            18446744073709551616 +
          opI BinOp.sub IntKind.u64 (bV b r p x z) (IntKind.u64.wrap b) * IntKind.u64.wrap p % 18446744073709551616)
    else 0) /
    18446744073709551616)
  0) = false) → ((cmpI BinOp.geq
  ((if
        opI BinOp.sub IntKind.u64 (bV b r p x z) (IntKind.u64.wrap b) * IntKind.u64.wrap p / 18446744073709551616 *
              18446744073709551616 +
            opI BinOp.sub IntKind.u64 (bV b r p x z) (IntKind.u64.wrap b) * IntKind.u64.wrap p % 18446744073709551616 ≤
          opI BinOp.sub IntKind.u64 z x * IntKind.u64.wrap r / 18446744073709551616 * 18446744073709551616 +
            opI BinOp.sub IntKind.u64 z x * IntKind.u64.wrap r % 18446744073709551616 then
      opI BinOp.sub IntKind.u64 z x * IntKind.u64.wrap r / 18446744073709551616 * 18446744073709551616 +
          opI BinOp.sub IntKind.u64 z x * IntKind.u64.wrap r % 18446744073709551616 -
        (opI BinOp.sub IntKind.u64 (bV b r p x z) (IntKind.u64.wrap b) * IntKind.u64.wrap p / 18446744073709551616 *
            18446744073709551616 +
          opI BinOp.sub IntKind.u64 (bV b r p x z) (IntKind.u64.wrap b) * IntKind.u64.wrap p % 18446744073709551616)
    else 0) %
    18446744073709551616)
  (IntKind.u64.wrap p)) = false) → ((cmpI BinOp.lss
  (cmpZ
    (opI BinOp.sub IntKind.u64 z x * IntKind.u64.wrap r / 18446744073709551616 * 18446744073709551616 +
      opI BinOp.sub IntKind.u64 z x * IntKind.u64.wrap r % 18446744073709551616)
    (opI BinOp.sub IntKind.u64 (bV b r p x z) (IntKind.u64.wrap b) * IntKind.u64.wrap p / 18446744073709551616 *
        18446744073709551616 +
      opI BinOp.sub IntKind.u64 (bV b r p x z) (IntKind.u64.wrap b) * IntKind.u64.wrap p % 18446744073709551616))
  0) = false) → ((cmpI BinOp.lss m 1) = false) → ((cmpI BinOp.gtr m (opI BinOp.sub IntKind.i64 1000000000 b)) = false) → ((cmpI BinOp.eql (bE (opI BinOp.add IntKind.i64 b m) r p x z) 16) = false) → ((cmpI BinOp.eql (bE (opI BinOp.add IntKind.i64 b m) r p x z) 0) = false) → ((0 ≤ x) ∧ (x < 18446744073709551616) ∧ (0 ≤ z) ∧ (z < 18446744073709551616) ∧ (0 ≤ opI BinOp.sub IntKind.u64 z x * IntKind.u64.wrap r % 18446744073709551616) ∧ (opI BinOp.sub IntKind.u64 z x * IntKind.u64.wrap r % 18446744073709551616 < 18446744073709551616) ∧ (0 ≤ opI BinOp.sub IntKind.u64 (bV b r p x z) (IntKind.u64.wrap b) * IntKind.u64.wrap p % 18446744073709551616) ∧ (opI BinOp.sub IntKind.u64 (bV b r p x z) (IntKind.u64.wrap b) * IntKind.u64.wrap p % 18446744073709551616 <
  18446744073709551616) ∧ (0 ≤ opI BinOp.sub IntKind.u64 (bV b r p x z) (IntKind.u64.wrap b)) ∧ (opI BinOp.sub IntKind.u64 (bV b r p x z) (IntKind.u64.wrap b) < 18446744073709551616) ∧ (0 ≤ IntKind.u64.wrap p) ∧ (IntKind.u64.wrap p < 18446744073709551616) ∧ (0 ≤ opI BinOp.sub IntKind.u64 z x) ∧ (opI BinOp.sub IntKind.u64 z x < 18446744073709551616) ∧ (0 ≤ IntKind.u64.wrap r) ∧ (IntKind.u64.wrap r < 18446744073709551616) ∧ (opI BinOp.sub IntKind.u64 z x * IntKind.u64.wrap r / 18446744073709551616 < 18446744073709551616) ∧ (0 ≤ opI BinOp.sub IntKind.u64 z x * IntKind.u64.wrap r % 18446744073709551616) ∧ (opI BinOp.sub IntKind.u64 z x * IntKind.u64.wrap r % 18446744073709551616 < 18446744073709551616) ∧ (0 ≤ opI BinOp.sub IntKind.u64 (bV b r p x z) (IntKind.u64.wrap b) * IntKind.u64.wrap p / 18446744073709551616) ∧ (0 ≤ opI BinOp.sub IntKind.u64 (bV b r p x z) (IntKind.u64.wrap b) * IntKind.u64.wrap p % 18446744073709551616) ∧ (opI BinOp.sub IntKind.u64 (bV b r p x z) (IntKind.u64.wrap b) * IntKind.u64.wrap p % 18446744073709551616 <
  18446744073709551616) ∧ (0 ≤ opI BinOp.sub IntKind.u64 (bV b r p x z) (IntKind.u64.wrap b)) ∧ (opI BinOp.sub IntKind.u64 (bV b r p x z) (IntKind.u64.wrap b) < 18446744073709551616) ∧ (0 ≤ IntKind.u64.wrap p) ∧ (IntKind.u64.wrap p < 18446744073709551616) ∧ (0 ≤ opI BinOp.sub IntKind.u64 z x) ∧ (opI BinOp.sub IntKind.u64 z x < 18446744073709551616) ∧ (0 ≤ IntKind.u64.wrap r) ∧ (IntKind.u64.wrap r < 18446744073709551616) ∧ (0 ≤ x) ∧ (x < 18446744073709551616) ∧ (0 ≤ z) ∧ (z < 18446744073709551616) ∧ (0 ≤ y) ∧ (y < 18446744073709551616) ∧ (0 ≤ z) ∧ (z < 18446744073709551616) ∧ (0 ≤ x) ∧ (x < 18446744073709551616) ∧ (0 ≤ y) ∧ (y < 18446744073709551616) ∧ True) ∧ res = D.v (Value.bool false)) :
  CallsD Try.prog 7 [D.agg [D.v (Value.int IntKind.i64 b), D.v (Value.int IntKind.i64 r), D.v (Value.int IntKind.i64 p)],
  D.v (Value.int IntKind.u64 x), D.v (Value.int IntKind.u64 y), D.v (Value.int IntKind.u64 z),
  D.v (Value.int IntKind.i64 m)] res := by
  cases e0 : (cmpI BinOp.neq (limE b r p) 0) with
  | true =>
    exact of_path hX12 (law7_p0 b r p x y z m) ⟨e0, trivial⟩ (h0 e0).2
  | false =>
    cases e1 : (cmpI BinOp.gtr x y) with
    | true =>
      exact of_path hX12 (law7_p1 b r p x y z m) ⟨e1, e0, trivial⟩ (h1 e0 e1).2
    | false =>
      cases e2 : (cmpI BinOp.gtr y z) with
      | true =>
        exact of_path hX12 (law7_p2 b r p x y z m) ⟨e2, e1, e0, trivial⟩ (h2 e0 e1 e2).2
      | false =>
        cases e3 : (cmpI BinOp.neq (bE b r p x z) 0) with
        | true =>
          cases e4 : (cmpI BinOp.eql (bE b r p x z) 16) with
          | true =>
            cases e5 : (cmpI BinOp.eql (bE b r p x y) 0) with
            | true =>
              cases e6 : (cmpI BinOp.eql (bE b r p y z) 0) with
              | true =>
                exact of_path hX12 (law7_p3 b r p x y z m) ⟨e6, e5, e4, e3, (h3 e0 e1 e2 e3 e4 e5 e6).1.1, (h3 e0 e1 e2 e3 e4 e5 e6).1.2.1, (h3 e0 e1 e2 e3 e4 e5 e6).1.2.2.1, (h3 e0 e1 e2 e3 e4 e5 e6).1.2.2.2.1, (h3 e0 e1 e2 e3 e4 e5 e6).1.2.2.2.2.1, (h3 e0 e1 e2 e3 e4 e5 e6).1.2.2.2.2.2.1, (h3 e0 e1 e2 e3 e4 e5 e6).1.2.2.2.2.2.2.1, (h3 e0 e1 e2 e3 e4 e5 e6).1.2.2.2.2.2.2.2.1, (h3 e0 e1 e2 e3 e4 e5 e6).1.2.2.2.2.2.2.2.2.1, (h3 e0 e1 e2 e3 e4 e5 e6).1.2.2.2.2.2.2.2.2.2.1, (h3 e0 e1 e2 e3 e4 e5 e6).1.2.2.2.2.2.2.2.2.2.2.1, (h3 e0 e1 e2 e3 e4 e5 e6).1.2.2.2.2.2.2.2.2.2.2.2.1, e2, e1, e0, trivial⟩ (h3 e0 e1 e2 e3 e4 e5 e6).2
              | false =>
                exact of_path hX12 (law7_p4 b r p x y z m) ⟨e6, e5, e4, e3, (h4 e0 e1 e2 e3 e4 e5 e6).1.1, (h4 e0 e1 e2 e3 e4 e5 e6).1.2.1, (h4 e0 e1 e2 e3 e4 e5 e6).1.2.2.1, (h4 e0 e1 e2 e3 e4 e5 e6).1.2.2.2.1, (h4 e0 e1 e2 e3 e4 e5 e6).1.2.2.2.2.1, (h4 e0 e1 e2 e3 e4 e5 e6).1.2.2.2.2.2.1, (h4 e0 e1 e2 e3 e4 e5 e6).1.2.2.2.2.2.2.1, (h4 e0 e1 e2 e3 e4 e5 e6).1.2.2.2.2.2.2.2.1, (h4 e0 e1 e2 e3 e4 e5 e6).1.2.2.2.2.2.2.2.2.1, (h4 e0 e1 e2 e3 e4 e5 e6).1.2.2.2.2.2.2.2.2.2.1, (h4 e0 e1 e2 e3 e4 e5 e6).1.2.2.2.2.2.2.2.2.2.2.1, (h4 e0 e1 e2 e3 e4 e5 e6).1.2.2.2.2.2.2.2.2.2.2.2.1, e2, e1, e0, trivial⟩ (h4 e0 e1 e2 e3 e4 e5 e6).2
            | false =>
              cases e6 : (cmpI BinOp.eql (bE b r p x y) (bE b r p x z)) with
              | true =>
                cases e7 : (cmpI BinOp.eql (bE b r p y z) 0) with
                | true =>
                  exact of_path hX12 (law7_p5 b r p x y z m) ⟨e7, e6, e5, e4, e3, (h5 e0 e1 e2 e3 e4 e5 e6 e7).1.1, (h5 e0 e1 e2 e3 e4 e5 e6 e7).1.2.1, (h5 e0 e1 e2 e3 e4 e5 e6 e7).1.2.2.1, (h5 e0 e1 e2 e3 e4 e5 e6 e7).1.2.2.2.1, (h5 e0 e1 e2 e3 e4 e5 e6 e7).1.2.2.2.2.1, (h5 e0 e1 e2 e3 e4 e5 e6 e7).1.2.2.2.2.2.1, (h5 e0 e1 e2 e3 e4 e5 e6 e7).1.2.2.2.2.2.2.1, (h5 e0 e1 e2 e3 e4 e5 e6 e7).1.2.2.2.2.2.2.2.1, (h5 e0 e1 e2 e3 e4 e5 e6 e7).1.2.2.2.2.2.2.2.2.1, (h5 e0 e1 e2 e3 e4 e5 e6 e7).1.2.2.2.2.2.2.2.2.2.1, (h5 e0 e1 e2 e3 e4 e5 e6 e7).1.2.2.2.2.2.2.2.2.2.2.1, (h5 e0 e1 e2 e3 e4 e5 e6 e7).1.2.2.2.2.2.2.2.2.2.2.2.1, e2, e1, e0, trivial⟩ (h5 e0 e1 e2 e3 e4 e5 e6 e7).2
                | false =>
                  exact of_path hX12 (law7_p6 b r p x y z m) ⟨e7, e6, e5, e4, e3, (h6 e0 e1 e2 e3 e4 e5 e6 e7).1.1, (h6 e0 e1 e2 e3 e4 e5 e6 e7).1.2.1, (h6 e0 e1 e2 e3 e4 e5 e6 e7).1.2.2.1, (h6 e0 e1 e2 e3 e4 e5 e6 e7).1.2.2.2.1, (h6 e0 e1 e2 e3 e4 e5 e6 e7).1.2.2.2.2.1, (h6 e0 e1 e2 e3 e4 e5 e6 e7).1.2.2.2.2.2.1, (h6 e0 e1 e2 e3 e4 e5 e6 e7).1.2.2.2.2.2.2.1, (h6 e0 e1 e2 e3 e4 e5 e6 e7).1.2.2.2.2.2.2.2.1, (h6 e0 e1 e2 e3 e4 e5 e6 e7).1.2.2.2.2.2.2.2.2.1, (h6 e0 e1 e2 e3 e4 e5 e6 e7).1.2.2.2.2.2.2.2.2.2.1, (h6 e0 e1 e2 e3 e4 e5 e6 e7).1.2.2.2.2.2.2.2.2.2.2.1, (h6 e0 e1 e2 e3 e4 e5 e6 e7).1.2.2.2.2.2.2.2.2.2.2.2.1, e2, e1, e0, trivial⟩ (h6 e0 e1 e2 e3 e4 e5 e6 e7).2
              | false =>
                exact of_path hX12 (law7_p7 b r p x y z m) ⟨e6, e5, e4, e3, (h7 e0 e1 e2 e3 e4 e5 e6).1.1, (h7 e0 e1 e2 e3 e4 e5 e6).1.2.1, (h7 e0 e1 e2 e3 e4 e5 e6).1.2.2.1, (h7 e0 e1 e2 e3 e4 e5 e6).1.2.2.2.1, (h7 e0 e1 e2 e3 e4 e5 e6).1.2.2.2.2.1, (h7 e0 e1 e2 e3 e4 e5 e6).1.2.2.2.2.2.1, (h7 e0 e1 e2 e3 e4 e5 e6).1.2.2.2.2.2.2.1, (h7 e0 e1 e2 e3 e4 e5 e6).1.2.2.2.2.2.2.2.1, (h7 e0 e1 e2 e3 e4 e5 e6).1.2.2.2.2.2.2.2.2.1, (h7 e0 e1 e2 e3 e4 e5 e6).1.2.2.2.2.2.2.2.2.2.1, (h7 e0 e1 e2 e3 e4 e5 e6).1.2.2.2.2.2.2.2.2.2.2.1, (h7 e0 e1 e2 e3 e4 e5 e6).1.2.2.2.2.2.2.2.2.2.2.2.1, e2, e1, e0, trivial⟩ (h7 e0 e1 e2 e3 e4 e5 e6).2
          | false =>
            exact of_path hX12 (law7_p8 b r p x y z m) ⟨e4, e3, (h8 e0 e1 e2 e3 e4).1.1, (h8 e0 e1 e2 e3 e4).1.2.1, (h8 e0 e1 e2 e3 e4).1.2.2.1, (h8 e0 e1 e2 e3 e4).1.2.2.2.1, (h8 e0 e1 e2 e3 e4).1.2.2.2.2.1, (h8 e0 e1 e2 e3 e4).1.2.2.2.2.2.1, (h8 e0 e1 e2 e3 e4).1.2.2.2.2.2.2.1, (h8 e0 e1 e2 e3 e4).1.2.2.2.2.2.2.2.1, (h8 e0 e1 e2 e3 e4).1.2.2.2.2.2.2.2.2.1, (h8 e0 e1 e2 e3 e4).1.2.2.2.2.2.2.2.2.2.1, (h8 e0 e1 e2 e3 e4).1.2.2.2.2.2.2.2.2.2.2.1, (h8 e0 e1 e2 e3 e4).1.2.2.2.2.2.2.2.2.2.2.2.1, e2, e1, e0, trivial⟩ (h8 e0 e1 e2 e3 e4).2
        | false =>
          cases e4 : (cmpI BinOp.neq (bE b r p x y) 0) with
          | true =>
            exact of_path hX12 (law7_p9 b r p x y z m) ⟨e4, e3, (h9 e0 e1 e2 e3 e4).1.1, (h9 e0 e1 e2 e3 e4).1.2.1, (h9 e0 e1 e2 e3 e4).1.2.2.1, (h9 e0 e1 e2 e3 e4).1.2.2.2.1, (h9 e0 e1 e2 e3 e4).1.2.2.2.2.1, (h9 e0 e1 e2 e3 e4).1.2.2.2.2.2.1, (h9 e0 e1 e2 e3 e4).1.2.2.2.2.2.2.1, (h9 e0 e1 e2 e3 e4).1.2.2.2.2.2.2.2.1, (h9 e0 e1 e2 e3 e4).1.2.2.2.2.2.2.2.2.1, (h9 e0 e1 e2 e3 e4).1.2.2.2.2.2.2.2.2.2.1, (h9 e0 e1 e2 e3 e4).1.2.2.2.2.2.2.2.2.2.2.1, (h9 e0 e1 e2 e3 e4).1.2.2.2.2.2.2.2.2.2.2.2.1, e2, e1, e0, trivial⟩ (h9 e0 e1 e2 e3 e4).2
          | false =>
            cases e5 : (cmpI BinOp.neq (bE b r p y z) 0) with
            | true =>
              exact of_path hX12 (law7_p10 b r p x y z m) ⟨e5, e4, e3, (h10 e0 e1 e2 e3 e4 e5).1.1, (h10 e0 e1 e2 e3 e4 e5).1.2.1, (h10 e0 e1 e2 e3 e4 e5).1.2.2.1, (h10 e0 e1 e2 e3 e4 e5).1.2.2.2.1, (h10 e0 e1 e2 e3 e4 e5).1.2.2.2.2.1, (h10 e0 e1 e2 e3 e4 e5).1.2.2.2.2.2.1, (h10 e0 e1 e2 e3 e4 e5).1.2.2.2.2.2.2.1, (h10 e0 e1 e2 e3 e4 e5).1.2.2.2.2.2.2.2.1, (h10 e0 e1 e2 e3 e4 e5).1.2.2.2.2.2.2.2.2.1, (h10 e0 e1 e2 e3 e4 e5).1.2.2.2.2.2.2.2.2.2.1, (h10 e0 e1 e2 e3 e4 e5).1.2.2.2.2.2.2.2.2.2.2.1, (h10 e0 e1 e2 e3 e4 e5).1.2.2.2.2.2.2.2.2.2.2.2.1, e2, e1, e0, trivial⟩ (h10 e0 e1 e2 e3 e4 e5).2
            | false =>
              cases e6 : (cmpI BinOp.gtr (bV b r p x y) (bV b r p x z)) with
              | true =>
                exact of_path hX12 (law7_p11 b r p x y z m) ⟨e6, e5, e4, e3, (h11 e0 e1 e2 e3 e4 e5 e6).1.1, (h11 e0 e1 e2 e3 e4 e5 e6).1.2.1, (h11 e0 e1 e2 e3 e4 e5 e6).1.2.2.1, (h11 e0 e1 e2 e3 e4 e5 e6).1.2.2.2.1, (h11 e0 e1 e2 e3 e4 e5 e6).1.2.2.2.2.1, (h11 e0 e1 e2 e3 e4 e5 e6).1.2.2.2.2.2.1, (h11 e0 e1 e2 e3 e4 e5 e6).1.2.2.2.2.2.2.1, (h11 e0 e1 e2 e3 e4 e5 e6).1.2.2.2.2.2.2.2.1, (h11 e0 e1 e2 e3 e4 e5 e6).1.2.2.2.2.2.2.2.2.1, (h11 e0 e1 e2 e3 e4 e5 e6).1.2.2.2.2.2.2.2.2.2.1, (h11 e0 e1 e2 e3 e4 e5 e6).1.2.2.2.2.2.2.2.2.2.2.1, (h11 e0 e1 e2 e3 e4 e5 e6).1.2.2.2.2.2.2.2.2.2.2.2.1, e2, e1, e0, trivial⟩ (h11 e0 e1 e2 e3 e4 e5 e6).2
              | false =>
                cases e7 : (cmpI BinOp.gtr (bV b r p y z) (bV b r p x z)) with
                | true =>
                  exact of_path hX12 (law7_p12 b r p x y z m) ⟨e7, e6, e5, e4, e3, (h12 e0 e1 e2 e3 e4 e5 e6 e7).1.1, (h12 e0 e1 e2 e3 e4 e5 e6 e7).1.2.1, (h12 e0 e1 e2 e3 e4 e5 e6 e7).1.2.2.1, (h12 e0 e1 e2 e3 e4 e5 e6 e7).1.2.2.2.1, (h12 e0 e1 e2 e3 e4 e5 e6 e7).1.2.2.2.2.1, (h12 e0 e1 e2 e3 e4 e5 e6 e7).1.2.2.2.2.2.1, (h12 e0 e1 e2 e3 e4 e5 e6 e7).1.2.2.2.2.2.2.1, (h12 e0 e1 e2 e3 e4 e5 e6 e7).1.2.2.2.2.2.2.2.1, (h12 e0 e1 e2 e3 e4 e5 e6 e7).1.2.2.2.2.2.2.2.2.1, (h12 e0 e1 e2 e3 e4 e5 e6 e7).1.2.2.2.2.2.2.2.2.2.1, (h12 e0 e1 e2 e3 e4 e5 e6 e7).1.2.2.2.2.2.2.2.2.2.2.1, (h12 e0 e1 e2 e3 e4 e5 e6 e7).1.2.2.2.2.2.2.2.2.2.2.2.1, e2, e1, e0, trivial⟩ (h12 e0 e1 e2 e3 e4 e5 e6 e7).2
                | false =>
                  cases e8 : (cmpI BinOp.lss (bV b r p x y) (IntKind.u64.wrap b)) with
                  | true =>
                    exact of_path hX12 (law7_p13 b r p x y z m) ⟨e8, e7, e6, e5, e4, e3, (h13 e0 e1 e2 e3 e4 e5 e6 e7 e8).1.1, (h13 e0 e1 e2 e3 e4 e5 e6 e7 e8).1.2.1, (h13 e0 e1 e2 e3 e4 e5 e6 e7 e8).1.2.2.1, (h13 e0 e1 e2 e3 e4 e5 e6 e7 e8).1.2.2.2.1, (h13 e0 e1 e2 e3 e4 e5 e6 e7 e8).1.2.2.2.2.1, (h13 e0 e1 e2 e3 e4 e5 e6 e7 e8).1.2.2.2.2.2.1, (h13 e0 e1 e2 e3 e4 e5 e6 e7 e8).1.2.2.2.2.2.2.1, (h13 e0 e1 e2 e3 e4 e5 e6 e7 e8).1.2.2.2.2.2.2.2.1, (h13 e0 e1 e2 e3 e4 e5 e6 e7 e8).1.2.2.2.2.2.2.2.2.1, (h13 e0 e1 e2 e3 e4 e5 e6 e7 e8).1.2.2.2.2.2.2.2.2.2.1, (h13 e0 e1 e2 e3 e4 e5 e6 e7 e8).1.2.2.2.2.2.2.2.2.2.2.1, (h13 e0 e1 e2 e3 e4 e5 e6 e7 e8).1.2.2.2.2.2.2.2.2.2.2.2.1, e2, e1, e0, trivial⟩ (h13 e0 e1 e2 e3 e4 e5 e6 e7 e8).2
                  | false =>
                    cases e9 : (cmpI BinOp.gtr (opI BinOp.sub IntKind.u64 (bV b r p x z) (bV b r p x y)) (bV b r p y z)) with
                    | true =>
                      exact of_path hX12 (law7_p14 b r p x y z m) ⟨e9, e8, e7, e6, e5, e4, e3, (h14 e0 e1 e2 e3 e4 e5 e6 e7 e8 e9).1.1, (h14 e0 e1 e2 e3 e4 e5 e6 e7 e8 e9).1.2.1, (h14 e0 e1 e2 e3 e4 e5 e6 e7 e8 e9).1.2.2.1, (h14 e0 e1 e2 e3 e4 e5 e6 e7 e8 e9).1.2.2.2.1, (h14 e0 e1 e2 e3 e4 e5 e6 e7 e8 e9).1.2.2.2.2.1, (h14 e0 e1 e2 e3 e4 e5 e6 e7 e8 e9).1.2.2.2.2.2.1, (h14 e0 e1 e2 e3 e4 e5 e6 e7 e8 e9).1.2.2.2.2.2.2.1, (h14 e0 e1 e2 e3 e4 e5 e6 e7 e8 e9).1.2.2.2.2.2.2.2.1, (h14 e0 e1 e2 e3 e4 e5 e6 e7 e8 e9).1.2.2.2.2.2.2.2.2.1, (h14 e0 e1 e2 e3 e4 e5 e6 e7 e8 e9).1.2.2.2.2.2.2.2.2.2.1, (h14 e0 e1 e2 e3 e4 e5 e6 e7 e8 e9).1.2.2.2.2.2.2.2.2.2.2.1, (h14 e0 e1 e2 e3 e4 e5 e6 e7 e8 e9).1.2.2.2.2.2.2.2.2.2.2.2.1, e2, e1, e0, trivial⟩ (h14 e0 e1 e2 e3 e4 e5 e6 e7 e8 e9).2
                    | false =>
                      cases e10 : (cmpI BinOp.neq
  ((if
        opI BinOp.sub IntKind.u64 (bV b r p x z) (IntKind.u64.wrap b) * IntKind.u64.wrap p / 18446744073709551616 *
              18446744073709551616 +
            opI BinOp.sub IntKind.u64 (bV b r p x z) (IntKind.u64.wrap b) * IntKind.u64.wrap p % 18446744073709551616 ≤
          opI BinOp.sub IntKind.u64 z x * IntKind.u64.wrap r / 18446744073709551616 * 18446744073709551616 +
            opI BinOp.sub IntKind.u64 z x * IntKind.u64.wrap r % 18446744073709551616 then
      opI BinOp.sub IntKind.u64 z x * IntKind.u64.wrap r / 18446744073709551616 * 18446744073709551616 +
          opI BinOp.sub IntKind.u64 z x * IntKind.u64.wrap r % 18446744073709551616 -
        (opI BinOp.sub IntKind.u64 (bV b r p x z) (IntKind.u64.wrap b) * IntKind.u64.wrap p / 18446744073709551616 *
            18446744073709551616 +
          opI BinOp.sub IntKind.u64 (bV b r p x z) (IntKind.u64.wrap b) * IntKind.u64.wrap p % 18446744073709551616)
    else 0) /
    18446744073709551616)
  0) with
                      | true =>
                        exact of_path hX12 (law7_p15 b r p x y z m) ⟨e10, (h15 e0 e1 e2 e3 e4 e5 e6 e7 e8 e9 e10).1.1, (h15 e0 e1 e2 e3 e4 e5 e6 e7 e8 e9 e10).1.2.1, (h15 e0 e1 e2 e3 e4 e5 e6 e7 e8 e9 e10).1.2.2.1, (h15 e0 e1 e2 e3 e4 e5 e6 e7 e8 e9 e10).1.2.2.2.1, (h15 e0 e1 e2 e3 e4 e5 e6 e7 e8 e9 e10).1.2.2.2.2.1, (h15 e0 e1 e2 e3 e4 e5 e6 e7 e8 e9 e10).1.2.2.2.2.2.1, (h15 e0 e1 e2 e3 e4 e5 e6 e7 e8 e9 e10).1.2.2.2.2.2.2.1, (h15 e0 e1 e2 e3 e4 e5 e6 e7 e8 e9 e10).1.2.2.2.2.2.2.2.1, (h15 e0 e1 e2 e3 e4 e5 e6 e7 e8 e9 e10).1.2.2.2.2.2.2.2.2.1, (h15 e0 e1 e2 e3 e4 e5 e6 e7 e8 e9 e10).1.2.2.2.2.2.2.2.2.2.1, (h15 e0 e1 e2 e3 e4 e5 e6 e7 e8 e9 e10).1.2.2.2.2.2.2.2.2.2.2.1, (h15 e0 e1 e2 e3 e4 e5 e6 e7 e8 e9 e10).1.2.2.2.2.2.2.2.2.2.2.2.1, (h15 e0 e1 e2 e3 e4 e5 e6 e7 e8 e9 e10).1.2.2.2.2.2.2.2.2.2.2.2.2.1, (h15 e0 e1 e2 e3 e4 e5 e6 e7 e8 e9 e10).1.2.2.2.2.2.2.2.2.2.2.2.2.2.1, e9, e8, e7, e6, e5, e4, e3, (h15 e0 e1 e2 e3 e4 e5 e6 e7 e8 e9 e10).1.2.2.2.2.2.2.2.2.2.2.2.2.2.2.1, (h15 e0 e1 e2 e3 e4 e5 e6 e7 e8 e9 e10).1.2.2.2.2.2.2.2.2.2.2.2.2.2.2.2.1, (h15 e0 e1 e2 e3 e4 e5 e6 e7 e8 e9 e10).1.2.2.2.2.2.2.2.2.2.2.2.2.2.2.2.2.1, (h15 e0 e1 e2 e3 e4 e5 e6 e7 e8 e9 e10).1.2.2.2.2.2.2.2.2.2.2.2.2.2.2.2.2.2.1, (h15 e0 e1 e2 e3 e4 e5 e6 e7 e8 e9 e10).1.2.2.2.2.2.2.2.2.2.2.2.2.2.2.2.2.2.2.1, (h15 e0 e1 e2 e3 e4 e5 e6 e7 e8 e9 e10).1.2.2.2.2.2.2.2.2.2.2.2.2.2.2.2.2.2.2.2.1, (h15 e0 e1 e2 e3 e4 e5 e6 e7 e8 e9 e10).1.2.2.2.2.2.2.2.2.2.2.2.2.2.2.2.2.2.2.2.2.1, (h15 e0 e1 e2 e3 e4 e5 e6 e7 e8 e9 e10).1.2.2.2.2.2.2.2.2.2.2.2.2.2.2.2.2.2.2.2.2.2.1, (h15 e0 e1 e2 e3 e4 e5 e6 e7 e8 e9 e10).1.2.2.2.2.2.2.2.2.2.2.2.2.2.2.2.2.2.2.2.2.2.2.1, (h15 e0 e1 e2 e3 e4 e5 e6 e7 e8 e9 e10).1.2.2.2.2.2.2.2.2.2.2.2.2.2.2.2.2.2.2.2.2.2.2.2.1, (h15 e0 e1 e2 e3 e4 e5 e6 e7 e8 e9 e10).1.2.2.2.2.2.2.2.2.2.2.2.2.2.2.2.2.2.2.2.2.2.2.2.2.1, (h15 e0 e1 e2 e3 e4 e5 e6 e7 e8 e9 e10).1.2.2.2.2.2.2.2.2.2.2.2.2.2.2.2.2.2.2.2.2.2.2.2.2.2.1, e2, e1, e0, trivial⟩ (h15 e0 e1 e2 e3 e4 e5 e6 e7 e8 e9 e10).2
                      | false =>
                        cases e11 : (cmpI BinOp.geq
  ((if
        opI BinOp.sub IntKind.u64 (bV b r p x z) (IntKind.u64.wrap b) * IntKind.u64.wrap p / 18446744073709551616 *
              18446744073709551616 +
            opI BinOp.sub IntKind.u64 (bV b r p x z) (IntKind.u64.wrap b) * IntKind.u64.wrap p % 18446744073709551616 ≤
          opI BinOp.sub IntKind.u64 z x * IntKind.u64.wrap r / 18446744073709551616 * 18446744073709551616 +
            opI BinOp.sub IntKind.u64 z x * IntKind.u64.wrap r % 18446744073709551616 then
      opI BinOp.sub IntKind.u64 z x * IntKind.u64.wrap r / 18446744073709551616 * 18446744073709551616 +
          opI BinOp.sub IntKind.u64 z x * IntKind.u64.wrap r % 18446744073709551616 -
        (opI BinOp.sub IntKind.u64 (bV b r p x z) (IntKind.u64.wrap b) * IntKind.u64.wrap p / 18446744073709551616 *
            18446744073709551616 +
          opI BinOp.sub IntKind.u64 (bV b r p x z) (IntKind.u64.wrap b) * IntKind.u64.wrap p % 18446744073709551616)
    else 0) %
    18446744073709551616)
  (IntKind.u64.wrap p)) with
                        | true =>
                          exact of_path hX12 (law7_p16 b r p x y z m) ⟨e11, e10, (h16 e0 e1 e2 e3 e4 e5 e6 e7 e8 e9 e10 e11).1.1, (h16 e0 e1 e2 e3 e4 e5 e6 e7 e8 e9 e10 e11).1.2.1, (h16 e0 e1 e2 e3 e4 e5 e6 e7 e8 e9 e10 e11).1.2.2.1, (h16 e0 e1 e2 e3 e4 e5 e6 e7 e8 e9 e10 e11).1.2.2.2.1, (h16 e0 e1 e2 e3 e4 e5 e6 e7 e8 e9 e10 e11).1.2.2.2.2.1, (h16 e0 e1 e2 e3 e4 e5 e6 e7 e8 e9 e10 e11).1.2.2.2.2.2.1, (h16 e0 e1 e2 e3 e4 e5 e6 e7 e8 e9 e10 e11).1.2.2.2.2.2.2.1, (h16 e0 e1 e2 e3 e4 e5 e6 e7 e8 e9 e10 e11).1.2.2.2.2.2.2.2.1, (h16 e0 e1 e2 e3 e4 e5 e6 e7 e8 e9 e10 e11).1.2.2.2.2.2.2.2.2.1, (h16 e0 e1 e2 e3 e4 e5 e6 e7 e8 e9 e10 e11).1.2.2.2.2.2.2.2.2.2.1, (h16 e0 e1 e2 e3 e4 e5 e6 e7 e8 e9 e10 e11).1.2.2.2.2.2.2.2.2.2.2.1, (h16 e0 e1 e2 e3 e4 e5 e6 e7 e8 e9 e10 e11).1.2.2.2.2.2.2.2.2.2.2.2.1, (h16 e0 e1 e2 e3 e4 e5 e6 e7 e8 e9 e10 e11).1.2.2.2.2.2.2.2.2.2.2.2.2.1, (h16 e0 e1 e2 e3 e4 e5 e6 e7 e8 e9 e10 e11).1.2.2.2.2.2.2.2.2.2.2.2.2.2.1, e9, e8, e7, e6, e5, e4, e3, (h16 e0 e1 e2 e3 e4 e5 e6 e7 e8 e9 e10 e11).1.2.2.2.2.2.2.2.2.2.2.2.2.2.2.1, (h16 e0 e1 e2 e3 e4 e5 e6 e7 e8 e9 e10 e11).1.2.2.2.2.2.2.2.2.2.2.2.2.2.2.2.1, (h16 e0 e1 e2 e3 e4 e5 e6 e7 e8 e9 e10 e11).1.2.2.2.2.2.2.2.2.2.2.2.2.2.2.2.2.1, (h16 e0 e1 e2 e3 e4 e5 e6 e7 e8 e9 e10 e11).1.2.2.2.2.2.2.2.2.2.2.2.2.2.2.2.2.2.1, (h16 e0 e1 e2 e3 e4 e5 e6 e7 e8 e9 e10 e11).1.2.2.2.2.2.2.2.2.2.2.2.2.2.2.2.2.2.2.1, (h16 e0 e1 e2 e3 e4 e5 e6 e7 e8 e9 e10 e11).1.2.2.2.2.2.2.2.2.2.2.2.2.2.2.2.2.2.2.2.1, (h16 e0 e1 e2 e3 e4 e5 e6 e7 e8 e9 e10 e11).1.2.2.2.2.2.2.2.2.2.2.2.2.2.2.2.2.2.2.2.2.1, (h16 e0 e1 e2 e3 e4 e5 e6 e7 e8 e9 e10 e11).1.2.2.2.2.2.2.2.2.2.2.2.2.2.2.2.2.2.2.2.2.2.1, (h16 e0 e1 e2 e3 e4 e5 e6 e7 e8 e9 e10 e11).1.2.2.2.2.2.2.2.2.2.2.2.2.2.2.2.2.2.2.2.2.2.2.1, (h16 e0 e1 e2 e3 e4 e5 e6 e7 e8 e9 e10 e11).1.2.2.2.2.2.2.2.2.2.2.2.2.2.2.2.2.2.2.2.2.2.2.2.1, (h16 e0 e1 e2 e3 e4 e5 e6 e7 e8 e9 e10 e11).1.2.2.2.2.2.2.2.2.2.2.2.2.2.2.2.2.2.2.2.2.2.2.2.2.1, (h16 e0 e1 e2 e3 e4 e5 e6 e7 e8 e9 e10 e11).1.2.2.2.2.2.2.2.2.2.2.2.2.2.2.2.2.2.2.2.2.2.2.2.2.2.1, e2, e1, e0, trivial⟩ (h16 e0 e1 e2 e3 e4 e5 e6 e7 e8 e9 e10 e11).2
                        | false =>
                          cases e12 : (cmpI BinOp.lss
  (cmpZ
    (opI BinOp.sub IntKind.u64 z x * IntKind.u64.wrap r / 18446744073709551616 * 18446744073709551616 +
      opI BinOp.sub IntKind.u64 z x * IntKind.u64.wrap r % 18446744073709551616)
    (opI BinOp.sub IntKind.u64 (bV b r p x z) (IntKind.u64.wrap b) * IntKind.u64.wrap p / 18446744073709551616 *
        18446744073709551616 +
      opI BinOp.sub IntKind.u64 (bV b r p x z) (IntKind.u64.wrap b) * IntKind.u64.wrap p % 18446744073709551616))
  0) with
                          | true =>
                            exact of_path hX12 (law7_p17 b r p x y z m) ⟨e12, (h17 e0 e1 e2 e3 e4 e5 e6 e7 e8 e9 e10 e11 e12).1.1, (h17 e0 e1 e2 e3 e4 e5 e6 e7 e8 e9 e10 e11 e12).1.2.1, (h17 e0 e1 e2 e3 e4 e5 e6 e7 e8 e9 e10 e11 e12).1.2.2.1, (h17 e0 e1 e2 e3 e4 e5 e6 e7 e8 e9 e10 e11 e12).1.2.2.2.1, (h17 e0 e1 e2 e3 e4 e5 e6 e7 e8 e9 e10 e11 e12).1.2.2.2.2.1, (h17 e0 e1 e2 e3 e4 e5 e6 e7 e8 e9 e10 e11 e12).1.2.2.2.2.2.1, (h17 e0 e1 e2 e3 e4 e5 e6 e7 e8 e9 e10 e11 e12).1.2.2.2.2.2.2.1, (h17 e0 e1 e2 e3 e4 e5 e6 e7 e8 e9 e10 e11 e12).1.2.2.2.2.2.2.2.1, (h17 e0 e1 e2 e3 e4 e5 e6 e7 e8 e9 e10 e11 e12).1.2.2.2.2.2.2.2.2.1, (h17 e0 e1 e2 e3 e4 e5 e6 e7 e8 e9 e10 e11 e12).1.2.2.2.2.2.2.2.2.2.1, (h17 e0 e1 e2 e3 e4 e5 e6 e7 e8 e9 e10 e11 e12).1.2.2.2.2.2.2.2.2.2.2.1, (h17 e0 e1 e2 e3 e4 e5 e6 e7 e8 e9 e10 e11 e12).1.2.2.2.2.2.2.2.2.2.2.2.1, e11, e10, (h17 e0 e1 e2 e3 e4 e5 e6 e7 e8 e9 e10 e11 e12).1.2.2.2.2.2.2.2.2.2.2.2.2.1, (h17 e0 e1 e2 e3 e4 e5 e6 e7 e8 e9 e10 e11 e12).1.2.2.2.2.2.2.2.2.2.2.2.2.2.1, (h17 e0 e1 e2 e3 e4 e5 e6 e7 e8 e9 e10 e11 e12).1.2.2.2.2.2.2.2.2.2.2.2.2.2.2.1, (h17 e0 e1 e2 e3 e4 e5 e6 e7 e8 e9 e10 e11 e12).1.2.2.2.2.2.2.2.2.2.2.2.2.2.2.2.1, (h17 e0 e1 e2 e3 e4 e5 e6 e7 e8 e9 e10 e11 e12).1.2.2.2.2.2.2.2.2.2.2.2.2.2.2.2.2.1, (h17 e0 e1 e2 e3 e4 e5 e6 e7 e8 e9 e10 e11 e12).1.2.2.2.2.2.2.2.2.2.2.2.2.2.2.2.2.2.1, (h17 e0 e1 e2 e3 e4 e5 e6 e7 e8 e9 e10 e11 e12).1.2.2.2.2.2.2.2.2.2.2.2.2.2.2.2.2.2.2.1, (h17 e0 e1 e2 e3 e4 e5 e6 e7 e8 e9 e10 e11 e12).1.2.2.2.2.2.2.2.2.2.2.2.2.2.2.2.2.2.2.2.1, (h17 e0 e1 e2 e3 e4 e5 e6 e7 e8 e9 e10 e11 e12).1.2.2.2.2.2.2.2.2.2.2.2.2.2.2.2.2.2.2.2.2.1, (h17 e0 e1 e2 e3 e4 e5 e6 e7 e8 e9 e10 e11 e12).1.2.2.2.2.2.2.2.2.2.2.2.2.2.2.2.2.2.2.2.2.2.1, (h17 e0 e1 e2 e3 e4 e5 e6 e7 e8 e9 e10 e11 e12).1.2.2.2.2.2.2.2.2.2.2.2.2.2.2.2.2.2.2.2.2.2.2.1, (h17 e0 e1 e2 e3 e4 e5 e6 e7 e8 e9 e10 e11 e12).1.2.2.2.2.2.2.2.2.2.2.2.2.2.2.2.2.2.2.2.2.2.2.2.1, (h17 e0 e1 e2 e3 e4 e5 e6 e7 e8 e9 e10 e11 e12).1.2.2.2.2.2.2.2.2.2.2.2.2.2.2.2.2.2.2.2.2.2.2.2.2.1, (h17 e0 e1 e2 e3 e4 e5 e6 e7 e8 e9 e10 e11 e12).1.2.2.2.2.2.2.2.2.2.2.2.2.2.2.2.2.2.2.2.2.2.2.2.2.2.1, e9, e8, e7, e6, e5, e4, e3, (h17 e0 e1 e2 e3 e4 e5 e6 e7 e8 e9 e10 e11 e12).1.2.2.2.2.2.2.2.2.2.2.2.2.2.2.2.2.2.2.2.2.2.2.2.2.2.2.1, (h17 e0 e1 e2 e3 e4 e5 e6 e7 e8 e9 e10 e11 e12).1.2.2.2.2.2.2.2.2.2.2.2.2.2.2.2.2.2.2.2.2.2.2.2.2.2.2.2.1, (h17 e0 e1 e2 e3 e4 e5 e6 e7 e8 e9 e10 e11 e12).1.2.2.2.2.2.2.2.2.2.2.2.2.2.2.2.2.2.2.2.2.2.2.2.2.2.2.2.2.1, (h17 e0 e1 e2 e3 e4 e5 e6 e7 e8 e9 e10 e11 e12).1.2.2.2.2.2.2.2.2.2.2.2.2.2.2.2.2.2.2.2.2.2.2.2.2.2.2.2.2.2.1, (h17 e0 e1 e2 e3 e4 e5 e6 e7 e8 e9 e10 e11 e12).1.2.2.2.2.2.2.2.2.2.2.2.2.2.2.2.2.2.2.2.2.2.2.2.2.2.2.2.2.2.2.1, (h17 e0 e1 e2 e3 e4 e5 e6 e7 e8 e9 e10 e11 e12).1.2.2.2.2.2.2.2.2.2.2.2.2.2.2.2.2.2.2.2.2.2.2.2.2.2.2.2.2.2.2.2.1, (h17 e0 e1 e2 e3 e4 e5 e6 e7 e8 e9 e10 e11 e12).1.2.2.2.2.2.2.2.2.2.2.2.2.2.2.2.2.2.2.2.2.2.2.2.2.2.2.2.2.2.2.2.2.1, (h17 e0 e1 e2 e3 e4 e5 e6 e7 e8 e9 e10 e11 e12).1.2.2.2.2.2.2.2.2.2.2.2.2.2.2.2.2.2.2.2.2.2.2.2.2.2.2.2.2.2.2.2.2.2.1, (h17 e0 e1 e2 e3 e4 e5 e6 e7 e8 e9 e10 e11 e12).1.2.2.2.2.2.2.2.2.2.2.2.2.2.2.2.2.2.2.2.2.2.2.2.2.2.2.2.2.2.2.2.2.2.2.1, (h17 e0 e1 e2 e3 e4 e5 e6 e7 e8 e9 e10 e11 e12).1.2.2.2.2.2.2.2.2.2.2.2.2.2.2.2.2.2.2.2.2.2.2.2.2.2.2.2.2.2.2.2.2.2.2.2.1, (h17 e0 e1 e2 e3 e4 e5 e6 e7 e8 e9 e10 e11 e12).1.2.2.2.2.2.2.2.2.2.2.2.2.2.2.2.2.2.2.2.2.2.2.2.2.2.2.2.2.2.2.2.2.2.2.2.2.1, (h17 e0 e1 e2 e3 e4 e5 e6 e7 e8 e9 e10 e11 e12).1.2.2.2.2.2.2.2.2.2.2.2.2.2.2.2.2.2.2.2.2.2.2.2.2.2.2.2.2.2.2.2.2.2.2.2.2.2.1, e2, e1, e0, trivial⟩ (h17 e0 e1 e2 e3 e4 e5 e6 e7 e8 e9 e10 e11 e12).2
                          | false =>
                            cases e13 : (cmpI BinOp.lss m 1) with
                            | true =>
                              exact of_path hX12 (law7_p18 b r p x y z m) ⟨e13, e12, (h18 e0 e1 e2 e3 e4 e5 e6 e7 e8 e9 e10 e11 e12 e13).1.1, (h18 e0 e1 e2 e3 e4 e5 e6 e7 e8 e9 e10 e11 e12 e13).1.2.1, (h18 e0 e1 e2 e3 e4 e5 e6 e7 e8 e9 e10 e11 e12 e13).1.2.2.1, (h18 e0 e1 e2 e3 e4 e5 e6 e7 e8 e9 e10 e11 e12 e13).1.2.2.2.1, (h18 e0 e1 e2 e3 e4 e5 e6 e7 e8 e9 e10 e11 e12 e13).1.2.2.2.2.1, (h18 e0 e1 e2 e3 e4 e5 e6 e7 e8 e9 e10 e11 e12 e13).1.2.2.2.2.2.1, (h18 e0 e1 e2 e3 e4 e5 e6 e7 e8 e9 e10 e11 e12 e13).1.2.2.2.2.2.2.1, (h18 e0 e1 e2 e3 e4 e5 e6 e7 e8 e9 e10 e11 e12 e13).1.2.2.2.2.2.2.2.1, (h18 e0 e1 e2 e3 e4 e5 e6 e7 e8 e9 e10 e11 e12 e13).1.2.2.2.2.2.2.2.2.1, (h18 e0 e1 e2 e3 e4 e5 e6 e7 e8 e9 e10 e11 e12 e13).1.2.2.2.2.2.2.2.2.2.1, (h18 e0 e1 e2 e3 e4 e5 e6 e7 e8 e9 e10 e11 e12 e13).1.2.2.2.2.2.2.2.2.2.2.1, (h18 e0 e1 e2 e3 e4 e5 e6 e7 e8 e9 e10 e11 e12 e13).1.2.2.2.2.2.2.2.2.2.2.2.1, e11, e10, (h18 e0 e1 e2 e3 e4 e5 e6 e7 e8 e9 e10 e11 e12 e13).1.2.2.2.2.2.2.2.2.2.2.2.2.1, (h18 e0 e1 e2 e3 e4 e5 e6 e7 e8 e9 e10 e11 e12 e13).1.2.2.2.2.2.2.2.2.2.2.2.2.2.1, (h18 e0 e1 e2 e3 e4 e5 e6 e7 e8 e9 e10 e11 e12 e13).1.2.2.2.2.2.2.2.2.2.2.2.2.2.2.1, (h18 e0 e1 e2 e3 e4 e5 e6 e7 e8 e9 e10 e11 e12 e13).1.2.2.2.2.2.2.2.2.2.2.2.2.2.2.2.1, (h18 e0 e1 e2 e3 e4 e5 e6 e7 e8 e9 e10 e11 e12 e13).1.2.2.2.2.2.2.2.2.2.2.2.2.2.2.2.2.1, (h18 e0 e1 e2 e3 e4 e5 e6 e7 e8 e9 e10 e11 e12 e13).1.2.2.2.2.2.2.2.2.2.2.2.2.2.2.2.2.2.1, (h18 e0 e1 e2 e3 e4 e5 e6 e7 e8 e9 e10 e11 e12 e13).1.2.2.2.2.2.2.2.2.2.2.2.2.2.2.2.2.2.2.1, (h18 e0 e1 e2 e3 e4 e5 e6 e7 e8 e9 e10 e11 e12 e13).1.2.2.2.2.2.2.2.2.2.2.2.2.2.2.2.2.2.2.2.1, (h18 e0 e1 e2 e3 e4 e5 e6 e7 e8 e9 e10 e11 e12 e13).1.2.2.2.2.2.2.2.2.2.2.2.2.2.2.2.2.2.2.2.2.1, (h18 e0 e1 e2 e3 e4 e5 e6 e7 e8 e9 e10 e11 e12 e13).1.2.2.2.2.2.2.2.2.2.2.2.2.2.2.2.2.2.2.2.2.2.1, (h18 e0 e1 e2 e3 e4 e5 e6 e7 e8 e9 e10 e11 e12 e13).1.2.2.2.2.2.2.2.2.2.2.2.2.2.2.2.2.2.2.2.2.2.2.1, (h18 e0 e1 e2 e3 e4 e5 e6 e7 e8 e9 e10 e11 e12 e13).1.2.2.2.2.2.2.2.2.2.2.2.2.2.2.2.2.2.2.2.2.2.2.2.1, (h18 e0 e1 e2 e3 e4 e5 e6 e7 e8 e9 e10 e11 e12 e13).1.2.2.2.2.2.2.2.2.2.2.2.2.2.2.2.2.2.2.2.2.2.2.2.2.1, (h18 e0 e1 e2 e3 e4 e5 e6 e7 e8 e9 e10 e11 e12 e13).1.2.2.2.2.2.2.2.2.2.2.2.2.2.2.2.2.2.2.2.2.2.2.2.2.2.1, e9, e8, e7, e6, e5, e4, e3, (h18 e0 e1 e2 e3 e4 e5 e6 e7 e8 e9 e10 e11 e12 e13).1.2.2.2.2.2.2.2.2.2.2.2.2.2.2.2.2.2.2.2.2.2.2.2.2.2.2.1, (h18 e0 e1 e2 e3 e4 e5 e6 e7 e8 e9 e10 e11 e12 e13).1.2.2.2.2.2.2.2.2.2.2.2.2.2.2.2.2.2.2.2.2.2.2.2.2.2.2.2.1, (h18 e0 e1 e2 e3 e4 e5 e6 e7 e8 e9 e10 e11 e12 e13).1.2.2.2.2.2.2.2.2.2.2.2.2.2.2.2.2.2.2.2.2.2.2.2.2.2.2.2.2.1, (h18 e0 e1 e2 e3 e4 e5 e6 e7 e8 e9 e10 e11 e12 e13).1.2.2.2.2.2.2.2.2.2.2.2.2.2.2.2.2.2.2.2.2.2.2.2.2.2.2.2.2.2.1, (h18 e0 e1 e2 e3 e4 e5 e6 e7 e8 e9 e10 e11 e12 e13).1.2.2.2.2.2.2.2.2.2.2.2.2.2.2.2.2.2.2.2.2.2.2.2.2.2.2.2.2.2.2.1, (h18 e0 e1 e2 e3 e4 e5 e6 e7 e8 e9 e10 e11 e12 e13).1.2.2.2.2.2.2.2.2.2.2.2.2.2.2.2.2.2.2.2.2.2.2.2.2.2.2.2.2.2.2.2.1, (h18 e0 e1 e2 e3 e4 e5 e6 e7 e8 e9 e10 e11 e12 e13).1.2.2.2.2.2.2.2.2.2.2.2.2.2.2.2.2.2.2.2.2.2.2.2.2.2.2.2.2.2.2.2.2.1, (h18 e0 e1 e2 e3 e4 e5 e6 e7 e8 e9 e10 e11 e12 e13).1.2.2.2.2.2.2.2.2.2.2.2.2.2.2.2.2.2.2.2.2.2.2.2.2.2.2.2.2.2.2.2.2.2.1, (h18 e0 e1 e2 e3 e4 e5 e6 e7 e8 e9 e10 e11 e12 e13).1.2.2.2.2.2.2.2.2.2.2.2.2.2.2.2.2.2.2.2.2.2.2.2.2.2.2.2.2.2.2.2.2.2.2.1, (h18 e0 e1 e2 e3 e4 e5 e6 e7 e8 e9 e10 e11 e12 e13).1.2.2.2.2.2.2.2.2.2.2.2.2.2.2.2.2.2.2.2.2.2.2.2.2.2.2.2.2.2.2.2.2.2.2.2.1, (h18 e0 e1 e2 e3 e4 e5 e6 e7 e8 e9 e10 e11 e12 e13).1.2.2.2.2.2.2.2.2.2.2.2.2.2.2.2.2.2.2.2.2.2.2.2.2.2.2.2.2.2.2.2.2.2.2.2.2.1, (h18 e0 e1 e2 e3 e4 e5 e6 e7 e8 e9 e10 e11 e12 e13).1.2.2.2.2.2.2.2.2.2.2.2.2.2.2.2.2.2.2.2.2.2.2.2.2.2.2.2.2.2.2.2.2.2.2.2.2.2.1, e2, e1, e0, trivial⟩ (h18 e0 e1 e2 e3 e4 e5 e6 e7 e8 e9 e10 e11 e12 e13).2
                            | false =>
                              cases e14 : (cmpI BinOp.gtr m (opI BinOp.sub IntKind.i64 1000000000 b)) with
                              | true =>
                                exact of_path hX12 (law7_p19 b r p x y z m) ⟨e14, e13, e12, (h19 e0 e1 e2 e3 e4 e5 e6 e7 e8 e9 e10 e11 e12 e13 e14).1.1, (h19 e0 e1 e2 e3 e4 e5 e6 e7 e8 e9 e10 e11 e12 e13 e14).1.2.1, (h19 e0 e1 e2 e3 e4 e5 e6 e7 e8 e9 e10 e11 e12 e13 e14).1.2.2.1, (h19 e0 e1 e2 e3 e4 e5 e6 e7 e8 e9 e10 e11 e12 e13 e14).1.2.2.2.1, (h19 e0 e1 e2 e3 e4 e5 e6 e7 e8 e9 e10 e11 e12 e13 e14).1.2.2.2.2.1, (h19 e0 e1 e2 e3 e4 e5 e6 e7 e8 e9 e10 e11 e12 e13 e14).1.2.2.2.2.2.1, (h19 e0 e1 e2 e3 e4 e5 e6 e7 e8 e9 e10 e11 e12 e13 e14).1.2.2.2.2.2.2.1, (h19 e0 e1 e2 e3 e4 e5 e6 e7 e8 e9 e10 e11 e12 e13 e14).1.2.2.2.2.2.2.2.1, (h19 e0 e1 e2 e3 e4 e5 e6 e7 e8 e9 e10 e11 e12 e13 e14).1.2.2.2.2.2.2.2.2.1, (h19 e0 e1 e2 e3 e4 e5 e6 e7 e8 e9 e10 e11 e12 e13 e14).1.2.2.2.2.2.2.2.2.2.1, (h19 e0 e1 e2 e3 e4 e5 e6 e7 e8 e9 e10 e11 e12 e13 e14).1.2.2.2.2.2.2.2.2.2.2.1, (h19 e0 e1 e2 e3 e4 e5 e6 e7 e8 e9 e10 e11 e12 e13 e14).1.2.2.2.2.2.2.2.2.2.2.2.1, e11, e10, (h19 e0 e1 e2 e3 e4 e5 e6 e7 e8 e9 e10 e11 e12 e13 e14).1.2.2.2.2.2.2.2.2.2.2.2.2.1, (h19 e0 e1 e2 e3 e4 e5 e6 e7 e8 e9 e10 e11 e12 e13 e14).1.2.2.2.2.2.2.2.2.2.2.2.2.2.1, (h19 e0 e1 e2 e3 e4 e5 e6 e7 e8 e9 e10 e11 e12 e13 e14).1.2.2.2.2.2.2.2.2.2.2.2.2.2.2.1, (h19 e0 e1 e2 e3 e4 e5 e6 e7 e8 e9 e10 e11 e12 e13 e14).1.2.2.2.2.2.2.2.2.2.2.2.2.2.2.2.1, (h19 e0 e1 e2 e3 e4 e5 e6 e7 e8 e9 e10 e11 e12 e13 e14).1.2.2.2.2.2.2.2.2.2.2.2.2.2.2.2.2.1, (h19 e0 e1 e2 e3 e4 e5 e6 e7 e8 e9 e10 e11 e12 e13 e14).1.2.2.2.2.2.2.2.2.2.2.2.2.2.2.2.2.2.1, (h19 e0 e1 e2 e3 e4 e5 e6 e7 e8 e9 e10 e11 e12 e13 e14).1.2.2.2.2.2.2.2.2.2.2.2.2.2.2.2.2.2.2.1, (h19 e0 e1 e2 e3 e4 e5 e6 e7 e8 e9 e10 e11 e12 e13 e14).1.2.2.2.2.2.2.2.2.2.2.2.2.2.2.2.2.2.2.2.1, (h19 e0 e1 e2 e3 e4 e5 e6 e7 e8 e9 e10 e11 e12 e13 e14).1.2.2.2.2.2.2.2.2.2.2.2.2.2.2.2.2.2.2.2.2.1, (h19 e0 e1 e2 e3 e4 e5 e6 e7 e8 e9 e10 e11 e12 e13 e14).1.2.2.2.2.2.2.2.2.2.2.2.2.2.2.2.2.2.2.2.2.2.1, (h19 e0 e1 e2 e3 e4 e5 e6 e7 e8 e9 e10 e11 e12 e13 e14).1.2.2.2.2.2.2.2.2.2.2.2.2.2.2.2.2.2.2.2.2.2.2.1, (h19 e0 e1 e2 e3 e4 e5 e6 e7 e8 e9 e10 e11 e12 e13 e14).1.2.2.2.2.2.2.2.2.2.2.2.2.2.2.2.2.2.2.2.2.2.2.2.1, (h19 e0 e1 e2 e3 e4 e5 e6 e7 e8 e9 e10 e11 e12 e13 e14).1.2.2.2.2.2.2.2.2.2.2.2.2.2.2.2.2.2.2.2.2.2.2.2.2.1, (h19 e0 e1 e2 e3 e4 e5 e6 e7 e8 e9 e10 e11 e12 e13 e14).1.2.2.2.2.2.2.2.2.2.2.2.2.2.2.2.2.2.2.2.2.2.2.2.2.2.1, e9, e8, e7, e6, e5, e4, e3, (h19 e0 e1 e2 e3 e4 e5 e6 e7 e8 e9 e10 e11 e12 e13 e14).1.2.2.2.2.2.2.2.2.2.2.2.2.2.2.2.2.2.2.2.2.2.2.2.2.2.2.1, (h19 e0 e1 e2 e3 e4 e5 e6 e7 e8 e9 e10 e11 e12 e13 e14).1.2.2.2.2.2.2.2.2.2.2.2.2.2.2.2.2.2.2.2.2.2.2.2.2.2.2.2.1, (h19 e0 e1 e2 e3 e4 e5 e6 e7 e8 e9 e10 e11 e12 e13 e14).1.2.2.2.2.2.2.2.2.2.2.2.2.2.2.2.2.2.2.2.2.2.2.2.2.2.2.2.2.1, (h19 e0 e1 e2 e3 e4 e5 e6 e7 e8 e9 e10 e11 e12 e13 e14).1.2.2.2.2.2.2.2.2.2.2.2.2.2.2.2.2.2.2.2.2.2.2.2.2.2.2.2.2.2.1, (h19 e0 e1 e2 e3 e4 e5 e6 e7 e8 e9 e10 e11 e12 e13 e14).1.2.2.2.2.2.2.2.2.2.2.2.2.2.2.2.2.2.2.2.2.2.2.2.2.2.2.2.2.2.2.1, (h19 e0 e1 e2 e3 e4 e5 e6 e7 e8 e9 e10 e11 e12 e13 e14).1.2.2.2.2.2.2.2.2.2.2.2.2.2.2.2.2.2.2.2.2.2.2.2.2.2.2.2.2.2.2.2.1, (h19 e0 e1 e2 e3 e4 e5 e6 e7 e8 e9 e10 e11 e12 e13 e14).1.2.2.2.2.2.2.2.2.2.2.2.2.2.2.2.2.2.2.2.2.2.2.2.2.2.2.2.2.2.2.2.2.1, (h19 e0 e1 e2 e3 e4 e5 e6 e7 e8 e9 e10 e11 e12 e13 e14).1.2.2.2.2.2.2.2.2.2.2.2.2.2.2.2.2.2.2.2.2.2.2.2.2.2.2.2.2.2.2.2.2.2.1, (h19 e0 e1 e2 e3 e4 e5 e6 e7 e8 e9 e10 e11 e12 e13 e14).1.2.2.2.2.2.2.2.2.2.2.2.2.2.2.2.2.2.2.2.2.2.2.2.2.2.2.2.2.2.2.2.2.2.2.1, (h19 e0 e1 e2 e3 e4 e5 e6 e7 e8 e9 e10 e11 e12 e13 e14).1.2.2.2.2.2.2.2.2.2.2.2.2.2.2.2.2.2.2.2.2.2.2.2.2.2.2.2.2.2.2.2.2.2.2.2.1, (h19 e0 e1 e2 e3 e4 e5 e6 e7 e8 e9 e10 e11 e12 e13 e14).1.2.2.2.2.2.2.2.2.2.2.2.2.2.2.2.2.2.2.2.2.2.2.2.2.2.2.2.2.2.2.2.2.2.2.2.2.1, (h19 e0 e1 e2 e3 e4 e5 e6 e7 e8 e9 e10 e11 e12 e13 e14).1.2.2.2.2.2.2.2.2.2.2.2.2.2.2.2.2.2.2.2.2.2.2.2.2.2.2.2.2.2.2.2.2.2.2.2.2.2.1, e2, e1, e0, trivial⟩ (h19 e0 e1 e2 e3 e4 e5 e6 e7 e8 e9 e10 e11 e12 e13 e14).2
                              | false =>
                                cases e15 : (cmpI BinOp.eql (bE (opI BinOp.add IntKind.i64 b m) r p x z) 16) with
                                | true =>
                                  exact of_path hX12 (law7_p20 b r p x y z m) ⟨e15, (h20 e0 e1 e2 e3 e4 e5 e6 e7 e8 e9 e10 e11 e12 e13 e14 e15).1.1, (h20 e0 e1 e2 e3 e4 e5 e6 e7 e8 e9 e10 e11 e12 e13 e14 e15).1.2.1, (h20 e0 e1 e2 e3 e4 e5 e6 e7 e8 e9 e10 e11 e12 e13 e14 e15).1.2.2.1, (h20 e0 e1 e2 e3 e4 e5 e6 e7 e8 e9 e10 e11 e12 e13 e14 e15).1.2.2.2.1, e14, e13, e12, (h20 e0 e1 e2 e3 e4 e5 e6 e7 e8 e9 e10 e11 e12 e13 e14 e15).1.2.2.2.2.1, (h20 e0 e1 e2 e3 e4 e5 e6 e7 e8 e9 e10 e11 e12 e13 e14 e15).1.2.2.2.2.2.1, (h20 e0 e1 e2 e3 e4 e5 e6 e7 e8 e9 e10 e11 e12 e13 e14 e15).1.2.2.2.2.2.2.1, (h20 e0 e1 e2 e3 e4 e5 e6 e7 e8 e9 e10 e11 e12 e13 e14 e15).1.2.2.2.2.2.2.2.1, (h20 e0 e1 e2 e3 e4 e5 e6 e7 e8 e9 e10 e11 e12 e13 e14 e15).1.2.2.2.2.2.2.2.2.1, (h20 e0 e1 e2 e3 e4 e5 e6 e7 e8 e9 e10 e11 e12 e13 e14 e15).1.2.2.2.2.2.2.2.2.2.1, (h20 e0 e1 e2 e3 e4 e5 e6 e7 e8 e9 e10 e11 e12 e13 e14 e15).1.2.2.2.2.2.2.2.2.2.2.1, (h20 e0 e1 e2 e3 e4 e5 e6 e7 e8 e9 e10 e11 e12 e13 e14 e15).1.2.2.2.2.2.2.2.2.2.2.2.1, (h20 e0 e1 e2 e3 e4 e5 e6 e7 e8 e9 e10 e11 e12 e13 e14 e15).1.2.2.2.2.2.2.2.2.2.2.2.2.1, (h20 e0 e1 e2 e3 e4 e5 e6 e7 e8 e9 e10 e11 e12 e13 e14 e15).1.2.2.2.2.2.2.2.2.2.2.2.2.2.1, (h20 e0 e1 e2 e3 e4 e5 e6 e7 e8 e9 e10 e11 e12 e13 e14 e15).1.2.2.2.2.2.2.2.2.2.2.2.2.2.2.1, (h20 e0 e1 e2 e3 e4 e5 e6 e7 e8 e9 e10 e11 e12 e13 e14 e15).1.2.2.2.2.2.2.2.2.2.2.2.2.2.2.2.1, e11, e10, (h20 e0 e1 e2 e3 e4 e5 e6 e7 e8 e9 e10 e11 e12 e13 e14 e15).1.2.2.2.2.2.2.2.2.2.2.2.2.2.2.2.2.1, (h20 e0 e1 e2 e3 e4 e5 e6 e7 e8 e9 e10 e11 e12 e13 e14 e15).1.2.2.2.2.2.2.2.2.2.2.2.2.2.2.2.2.2.1, (h20 e0 e1 e2 e3 e4 e5 e6 e7 e8 e9 e10 e11 e12 e13 e14 e15).1.2.2.2.2.2.2.2.2.2.2.2.2.2.2.2.2.2.2.1, (h20 e0 e1 e2 e3 e4 e5 e6 e7 e8 e9 e10 e11 e12 e13 e14 e15).1.2.2.2.2.2.2.2.2.2.2.2.2.2.2.2.2.2.2.2.1, (h20 e0 e1 e2 e3 e4 e5 e6 e7 e8 e9 e10 e11 e12 e13 e14 e15).1.2.2.2.2.2.2.2.2.2.2.2.2.2.2.2.2.2.2.2.2.1, (h20 e0 e1 e2 e3 e4 e5 e6 e7 e8 e9 e10 e11 e12 e13 e14 e15).1.2.2.2.2.2.2.2.2.2.2.2.2.2.2.2.2.2.2.2.2.2.1, (h20 e0 e1 e2 e3 e4 e5 e6 e7 e8 e9 e10 e11 e12 e13 e14 e15).1.2.2.2.2.2.2.2.2.2.2.2.2.2.2.2.2.2.2.2.2.2.2.1, (h20 e0 e1 e2 e3 e4 e5 e6 e7 e8 e9 e10 e11 e12 e13 e14 e15).1.2.2.2.2.2.2.2.2.2.2.2.2.2.2.2.2.2.2.2.2.2.2.2.1, (h20 e0 e1 e2 e3 e4 e5 e6 e7 e8 e9 e10 e11 e12 e13 e14 e15).1.2.2.2.2.2.2.2.2.2.2.2.2.2.2.2.2.2.2.2.2.2.2.2.2.1, (h20 e0 e1 e2 e3 e4 e5 e6 e7 e8 e9 e10 e11 e12 e13 e14 e15).1.2.2.2.2.2.2.2.2.2.2.2.2.2.2.2.2.2.2.2.2.2.2.2.2.2.1, (h20 e0 e1 e2 e3 e4 e5 e6 e7 e8 e9 e10 e11 e12 e13 e14 e15).1.2.2.2.2.2.2.2.2.2.2.2.2.2.2.2.2.2.2.2.2.2.2.2.2.2.2.1, (h20 e0 e1 e2 e3 e4 e5 e6 e7 e8 e9 e10 e11 e12 e13 e14 e15).1.2.2.2.2.2.2.2.2.2.2.2.2.2.2.2.2.2.2.2.2.2.2.2.2.2.2.2.1, (h20 e0 e1 e2 e3 e4 e5 e6 e7 e8 e9 e10 e11 e12 e13 e14 e15).1.2.2.2.2.2.2.2.2.2.2.2.2.2.2.2.2.2.2.2.2.2.2.2.2.2.2.2.2.1, (h20 e0 e1 e2 e3 e4 e5 e6 e7 e8 e9 e10 e11 e12 e13 e14 e15).1.2.2.2.2.2.2.2.2.2.2.2.2.2.2.2.2.2.2.2.2.2.2.2.2.2.2.2.2.2.1, e9, e8, e7, e6, e5, e4, e3, (h20 e0 e1 e2 e3 e4 e5 e6 e7 e8 e9 e10 e11 e12 e13 e14 e15).1.2.2.2.2.2.2.2.2.2.2.2.2.2.2.2.2.2.2.2.2.2.2.2.2.2.2.2.2.2.2.1, (h20 e0 e1 e2 e3 e4 e5 e6 e7 e8 e9 e10 e11 e12 e13 e14 e15).1.2.2.2.2.2.2.2.2.2.2.2.2.2.2.2.2.2.2.2.2.2.2.2.2.2.2.2.2.2.2.2.1, (h20 e0 e1 e2 e3 e4 e5 e6 e7 e8 e9 e10 e11 e12 e13 e14 e15).1.2.2.2.2.2.2.2.2.2.2.2.2.2.2.2.2.2.2.2.2.2.2.2.2.2.2.2.2.2.2.2.2.1, (h20 e0 e1 e2 e3 e4 e5 e6 e7 e8 e9 e10 e11 e12 e13 e14 e15).1.2.2.2.2.2.2.2.2.2.2.2.2.2.2.2.2.2.2.2.2.2.2.2.2.2.2.2.2.2.2.2.2.2.1, (h20 e0 e1 e2 e3 e4 e5 e6 e7 e8 e9 e10 e11 e12 e13 e14 e15).1.2.2.2.2.2.2.2.2.2.2.2.2.2.2.2.2.2.2.2.2.2.2.2.2.2.2.2.2.2.2.2.2.2.2.1, (h20 e0 e1 e2 e3 e4 e5 e6 e7 e8 e9 e10 e11 e12 e13 e14 e15).1.2.2.2.2.2.2.2.2.2.2.2.2.2.2.2.2.2.2.2.2.2.2.2.2.2.2.2.2.2.2.2.2.2.2.2.1, (h20 e0 e1 e2 e3 e4 e5 e6 e7 e8 e9 e10 e11 e12 e13 e14 e15).1.2.2.2.2.2.2.2.2.2.2.2.2.2.2.2.2.2.2.2.2.2.2.2.2.2.2.2.2.2.2.2.2.2.2.2.2.1, (h20 e0 e1 e2 e3 e4 e5 e6 e7 e8 e9 e10 e11 e12 e13 e14 e15).1.2.2.2.2.2.2.2.2.2.2.2.2.2.2.2.2.2.2.2.2.2.2.2.2.2.2.2.2.2.2.2.2.2.2.2.2.2.1, (h20 e0 e1 e2 e3 e4 e5 e6 e7 e8 e9 e10 e11 e12 e13 e14 e15).1.2.2.2.2.2.2.2.2.2.2.2.2.2.2.2.2.2.2.2.2.2.2.2.2.2.2.2.2.2.2.2.2.2.2.2.2.2.2.1, (h20 e0 e1 e2 e3 e4 e5 e6 e7 e8 e9 e10 e11 e12 e13 e14 e15).1.2.2.2.2.2.2.2.2.2.2.2.2.2.2.2.2.2.2.2.2.2.2.2.2.2.2.2.2.2.2.2.2.2.2.2.2.2.2.2.1, (h20 e0 e1 e2 e3 e4 e5 e6 e7 e8 e9 e10 e11 e12 e13 e14 e15).1.2.2.2.2.2.2.2.2.2.2.2.2.2.2.2.2.2.2.2.2.2.2.2.2.2.2.2.2.2.2.2.2.2.2.2.2.2.2.2.2.1, (h20 e0 e1 e2 e3 e4 e5 e6 e7 e8 e9 e10 e11 e12 e13 e14 e15).1.2.2.2.2.2.2.2.2.2.2.2.2.2.2.2.2.2.2.2.2.2.2.2.2.2.2.2.2.2.2.2.2.2.2.2.2.2.2.2.2.2.1, e2, e1, e0, trivial⟩ (h20 e0 e1 e2 e3 e4 e5 e6 e7 e8 e9 e10 e11 e12 e13 e14 e15).2
                                | false =>
                                  cases e16 : (cmpI BinOp.eql (bE (opI BinOp.add IntKind.i64 b m) r p x z) 0) with
                                  | true =>
                                    exact of_path hX12 (law7_p21 b r p x y z m) ⟨e16, e15, (h21 e0 e1 e2 e3 e4 e5 e6 e7 e8 e9 e10 e11 e12 e13 e14 e15 e16).1.1, (h21 e0 e1 e2 e3 e4 e5 e6 e7 e8 e9 e10 e11 e12 e13 e14 e15 e16).1.2.1, (h21 e0 e1 e2 e3 e4 e5 e6 e7 e8 e9 e10 e11 e12 e13 e14 e15 e16).1.2.2.1, (h21 e0 e1 e2 e3 e4 e5 e6 e7 e8 e9 e10 e11 e12 e13 e14 e15 e16).1.2.2.2.1, e14, e13, e12, (h21 e0 e1 e2 e3 e4 e5 e6 e7 e8 e9 e10 e11 e12 e13 e14 e15 e16).1.2.2.2.2.1, (h21 e0 e1 e2 e3 e4 e5 e6 e7 e8 e9 e10 e11 e12 e13 e14 e15 e16).1.2.2.2.2.2.1, (h21 e0 e1 e2 e3 e4 e5 e6 e7 e8 e9 e10 e11 e12 e13 e14 e15 e16).1.2.2.2.2.2.2.1, (h21 e0 e1 e2 e3 e4 e5 e6 e7 e8 e9 e10 e11 e12 e13 e14 e15 e16).1.2.2.2.2.2.2.2.1, (h21 e0 e1 e2 e3 e4 e5 e6 e7 e8 e9 e10 e11 e12 e13 e14 e15 e16).1.2.2.2.2.2.2.2.2.1, (h21 e0 e1 e2 e3 e4 e5 e6 e7 e8 e9 e10 e11 e12 e13 e14 e15 e16).1.2.2.2.2.2.2.2.2.2.1, (h21 e0 e1 e2 e3 e4 e5 e6 e7 e8 e9 e10 e11 e12 e13 e14 e15 e16).1.2.2.2.2.2.2.2.2.2.2.1, (h21 e0 e1 e2 e3 e4 e5 e6 e7 e8 e9 e10 e11 e12 e13 e14 e15 e16).1.2.2.2.2.2.2.2.2.2.2.2.1, (h21 e0 e1 e2 e3 e4 e5 e6 e7 e8 e9 e10 e11 e12 e13 e14 e15 e16).1.2.2.2.2.2.2.2.2.2.2.2.2.1, (h21 e0 e1 e2 e3 e4 e5 e6 e7 e8 e9 e10 e11 e12 e13 e14 e15 e16).1.2.2.2.2.2.2.2.2.2.2.2.2.2.1, (h21 e0 e1 e2 e3 e4 e5 e6 e7 e8 e9 e10 e11 e12 e13 e14 e15 e16).1.2.2.2.2.2.2.2.2.2.2.2.2.2.2.1, (h21 e0 e1 e2 e3 e4 e5 e6 e7 e8 e9 e10 e11 e12 e13 e14 e15 e16).1.2.2.2.2.2.2.2.2.2.2.2.2.2.2.2.1, e11, e10, (h21 e0 e1 e2 e3 e4 e5 e6 e7 e8 e9 e10 e11 e12 e13 e14 e15 e16).1.2.2.2.2.2.2.2.2.2.2.2.2.2.2.2.2.1, (h21 e0 e1 e2 e3 e4 e5 e6 e7 e8 e9 e10 e11 e12 e13 e14 e15 e16).1.2.2.2.2.2.2.2.2.2.2.2.2.2.2.2.2.2.1, (h21 e0 e1 e2 e3 e4 e5 e6 e7 e8 e9 e10 e11 e12 e13 e14 e15 e16).1.2.2.2.2.2.2.2.2.2.2.2.2.2.2.2.2.2.2.1, (h21 e0 e1 e2 e3 e4 e5 e6 e7 e8 e9 e10 e11 e12 e13 e14 e15 e16).1.2.2.2.2.2.2.2.2.2.2.2.2.2.2.2.2.2.2.2.1, (h21 e0 e1 e2 e3 e4 e5 e6 e7 e8 e9 e10 e11 e12 e13 e14 e15 e16).1.2.2.2.2.2.2.2.2.2.2.2.2.2.2.2.2.2.2.2.2.1, (h21 e0 e1 e2 e3 e4 e5 e6 e7 e8 e9 e10 e11 e12 e13 e14 e15 e16).1.2.2.2.2.2.2.2.2.2.2.2.2.2.2.2.2.2.2.2.2.2.1, (h21 e0 e1 e2 e3 e4 e5 e6 e7 e8 e9 e10 e11 e12 e13 e14 e15 e16).1.2.2.2.2.2.2.2.2.2.2.2.2.2.2.2.2.2.2.2.2.2.2.1, (h21 e0 e1 e2 e3 e4 e5 e6 e7 e8 e9 e10 e11 e12 e13 e14 e15 e16).1.2.2.2.2.2.2.2.2.2.2.2.2.2.2.2.2.2.2.2.2.2.2.2.1, (h21 e0 e1 e2 e3 e4 e5 e6 e7 e8 e9 e10 e11 e12 e13 e14 e15 e16).1.2.2.2.2.2.2.2.2.2.2.2.2.2.2.2.2.2.2.2.2.2.2.2.2.1, (h21 e0 e1 e2 e3 e4 e5 e6 e7 e8 e9 e10 e11 e12 e13 e14 e15 e16).1.2.2.2.2.2.2.2.2.2.2.2.2.2.2.2.2.2.2.2.2.2.2.2.2.2.1, (h21 e0 e1 e2 e3 e4 e5 e6 e7 e8 e9 e10 e11 e12 e13 e14 e15 e16).1.2.2.2.2.2.2.2.2.2.2.2.2.2.2.2.2.2.2.2.2.2.2.2.2.2.2.1, (h21 e0 e1 e2 e3 e4 e5 e6 e7 e8 e9 e10 e11 e12 e13 e14 e15 e16).1.2.2.2.2.2.2.2.2.2.2.2.2.2.2.2.2.2.2.2.2.2.2.2.2.2.2.2.1, (h21 e0 e1 e2 e3 e4 e5 e6 e7 e8 e9 e10 e11 e12 e13 e14 e15 e16).1.2.2.2.2.2.2.2.2.2.2.2.2.2.2.2.2.2.2.2.2.2.2.2.2.2.2.2.2.1, (h21 e0 e1 e2 e3 e4 e5 e6 e7 e8 e9 e10 e11 e12 e13 e14 e15 e16).1.2.2.2.2.2.2.2.2.2.2.2.2.2.2.2.2.2.2.2.2.2.2.2.2.2.2.2.2.2.1, e9, e8, e7, e6, e5, e4, e3, (h21 e0 e1 e2 e3 e4 e5 e6 e7 e8 e9 e10 e11 e12 e13 e14 e15 e16).1.2.2.2.2.2.2.2.2.2.2.2.2.2.2.2.2.2.2.2.2.2.2.2.2.2.2.2.2.2.2.1, (h21 e0 e1 e2 e3 e4 e5 e6 e7 e8 e9 e10 e11 e12 e13 e14 e15 e16).1.2.2.2.2.2.2.2.2.2.2.2.2.2.2.2.2.2.2.2.2.2.2.2.2.2.2.2.2.2.2.2.1, (h21 e0 e1 e2 e3 e4 e5 e6 e7 e8 e9 e10 e11 e12 e13 e14 e15 e16).1.2.2.2.2.2.2.2.2.2.2.2.2.2.2.2.2.2.2.2.2.2.2.2.2.2.2.2.2.2.2.2.2.1, (h21 e0 e1 e2 e3 e4 e5 e6 e7 e8 e9 e10 e11 e12 e13 e14 e15 e16).1.2.2.2.2.2.2.2.2.2.2.2.2.2.2.2.2.2.2.2.2.2.2.2.2.2.2.2.2.2.2.2.2.2.1, (h21 e0 e1 e2 e3 e4 e5 e6 e7 e8 e9 e10 e11 e12 e13 e14 e15 e16).1.2.2.2.2.2.2.2.2.2.2.2.2.2.2.2.2.2.2.2.2.2.2.2.2.2.2.2.2.2.2.2.2.2.2.1, (h21 e0 e1 e2 e3 e4 e5 e6 e7 e8 e9 e10 e11 e12 e13 e14 e15 e16).1.2.2.2.2.2.2.2.2.2.2.2.2.2.2.2.2.2.2.2.2.2.2.2.2.2.2.2.2.2.2.2.2.2.2.2.1, (h21 e0 e1 e2 e3 e4 e5 e6 e7 e8 e9 e10 e11 e12 e13 e14 e15 e16).1.2.2.2.2.2.2.2.2.2.2.2.2.2.2.2.2.2.2.2.2.2.2.2.2.2.2.2.2.2.2.2.2.2.2.2.2.1, (h21 e0 e1 e2 e3 e4 e5 e6 e7 e8 e9 e10 e11 e12 e13 e14 e15 e16).1.2.2.2.2.2.2.2.2.2.2.2.2.2.2.2.2.2.2.2.2.2.2.2.2.2.2.2.2.2.2.2.2.2.2.2.2.2.1, (h21 e0 e1 e2 e3 e4 e5 e6 e7 e8 e9 e10 e11 e12 e13 e14 e15 e16).1.2.2.2.2.2.2.2.2.2.2.2.2.2.2.2.2.2.2.2.2.2.2.2.2.2.2.2.2.2.2.2.2.2.2.2.2.2.2.1, (h21 e0 e1 e2 e3 e4 e5 e6 e7 e8 e9 e10 e11 e12 e13 e14 e15 e16).1.2.2.2.2.2.2.2.2.2.2.2.2.2.2.2.2.2.2.2.2.2.2.2.2.2.2.2.2.2.2.2.2.2.2.2.2.2.2.2.1, (h21 e0 e1 e2 e3 e4 e5 e6 e7 e8 e9 e10 e11 e12 e13 e14 e15 e16).1.2.2.2.2.2.2.2.2.2.2.2.2.2.2.2.2.2.2.2.2.2.2.2.2.2.2.2.2.2.2.2.2.2.2.2.2.2.2.2.2.1, (h21 e0 e1 e2 e3 e4 e5 e6 e7 e8 e9 e10 e11 e12 e13 e14 e15 e16).1.2.2.2.2.2.2.2.2.2.2.2.2.2.2.2.2.2.2.2.2.2.2.2.2.2.2.2.2.2.2.2.2.2.2.2.2.2.2.2.2.2.1, e2, e1, e0, trivial⟩ (h21 e0 e1 e2 e3 e4 e5 e6 e7 e8 e9 e10 e11 e12 e13 e14 e15 e16).2
                                  | false =>
                                    exact of_path hX12 (law7_p22 b r p x y z m) ⟨e16, e15, (h22 e0 e1 e2 e3 e4 e5 e6 e7 e8 e9 e10 e11 e12 e13 e14 e15 e16).1.1, (h22 e0 e1 e2 e3 e4 e5 e6 e7 e8 e9 e10 e11 e12 e13 e14 e15 e16).1.2.1, (h22 e0 e1 e2 e3 e4 e5 e6 e7 e8 e9 e10 e11 e12 e13 e14 e15 e16).1.2.2.1, (h22 e0 e1 e2 e3 e4 e5 e6 e7 e8 e9 e10 e11 e12 e13 e14 e15 e16).1.2.2.2.1, e14, e13, e12, (h22 e0 e1 e2 e3 e4 e5 e6 e7 e8 e9 e10 e11 e12 e13 e14 e15 e16).1.2.2.2.2.1, (h22 e0 e1 e2 e3 e4 e5 e6 e7 e8 e9 e10 e11 e12 e13 e14 e15 e16).1.2.2.2.2.2.1, (h22 e0 e1 e2 e3 e4 e5 e6 e7 e8 e9 e10 e11 e12 e13 e14 e15 e16).1.2.2.2.2.2.2.1, (h22 e0 e1 e2 e3 e4 e5 e6 e7 e8 e9 e10 e11 e12 e13 e14 e15 e16).1.2.2.2.2.2.2.2.1, (h22 e0 e1 e2 e3 e4 e5 e6 e7 e8 e9 e10 e11 e12 e13 e14 e15 e16).1.2.2.2.2.2.2.2.2.1, (h22 e0 e1 e2 e3 e4 e5 e6 e7 e8 e9 e10 e11 e12 e13 e14 e15 e16).1.2.2.2.2.2.2.2.2.2.1, (h22 e0 e1 e2 e3 e4 e5 e6 e7 e8 e9 e10 e11 e12 e13 e14 e15 e16).1.2.2.2.2.2.2.2.2.2.2.1, (h22 e0 e1 e2 e3 e4 e5 e6 e7 e8 e9 e10 e11 e12 e13 e14 e15 e16).1.2.2.2.2.2.2.2.2.2.2.2.1, (h22 e0 e1 e2 e3 e4 e5 e6 e7 e8 e9 e10 e11 e12 e13 e14 e15 e16).1.2.2.2.2.2.2.2.2.2.2.2.2.1, (h22 e0 e1 e2 e3 e4 e5 e6 e7 e8 e9 e10 e11 e12 e13 e14 e15 e16).1.2.2.2.2.2.2.2.2.2.2.2.2.2.1, (h22 e0 e1 e2 e3 e4 e5 e6 e7 e8 e9 e10 e11 e12 e13 e14 e15 e16).1.2.2.2.2.2.2.2.2.2.2.2.2.2.2.1, (h22 e0 e1 e2 e3 e4 e5 e6 e7 e8 e9 e10 e11 e12 e13 e14 e15 e16).1.2.2.2.2.2.2.2.2.2.2.2.2.2.2.2.1, e11, e10, (h22 e0 e1 e2 e3 e4 e5 e6 e7 e8 e9 e10 e11 e12 e13 e14 e15 e16).1.2.2.2.2.2.2.2.2.2.2.2.2.2.2.2.2.1, (h22 e0 e1 e2 e3 e4 e5 e6 e7 e8 e9 e10 e11 e12 e13 e14 e15 e16).1.2.2.2.2.2.2.2.2.2.2.2.2.2.2.2.2.2.1, (h22 e0 e1 e2 e3 e4 e5 e6 e7 e8 e9 e10 e11 e12 e13 e14 e15 e16).1.2.2.2.2.2.2.2.2.2.2.2.2.2.2.2.2.2.2.1, (h22 e0 e1 e2 e3 e4 e5 e6 e7 e8 e9 e10 e11 e12 e13 e14 e15 e16).1.2.2.2.2.2.2.2.2.2.2.2.2.2.2.2.2.2.2.2.1, (h22 e0 e1 e2 e3 e4 e5 e6 e7 e8 e9 e10 e11 e12 e13 e14 e15 e16).1.2.2.2.2.2.2.2.2.2.2.2.2.2.2.2.2.2.2.2.2.1, (h22 e0 e1 e2 e3 e4 e5 e6 e7 e8 e9 e10 e11 e12 e13 e14 e15 e16).1.2.2.2.2.2.2.2.2.2.2.2.2.2.2.2.2.2.2.2.2.2.1, (h22 e0 e1 e2 e3 e4 e5 e6 e7 e8 e9 e10 e11 e12 e13 e14 e15 e16).1.2.2.2.2.2.2.2.2.2.2.2.2.2.2.2.2.2.2.2.2.2.2.1, (h22 e0 e1 e2 e3 e4 e5 e6 e7 e8 e9 e10 e11 e12 e13 e14 e15 e16).1.2.2.2.2.2.2.2.2.2.2.2.2.2.2.2.2.2.2.2.2.2.2.2.1, (h22 e0 e1 e2 e3 e4 e5 e6 e7 e8 e9 e10 e11 e12 e13 e14 e15 e16).1.2.2.2.2.2.2.2.2.2.2.2.2.2.2.2.2.2.2.2.2.2.2.2.2.1, (h22 e0 e1 e2 e3 e4 e5 e6 e7 e8 e9 e10 e11 e12 e13 e14 e15 e16).1.2.2.2.2.2.2.2.2.2.2.2.2.2.2.2.2.2.2.2.2.2.2.2.2.2.1, (h22 e0 e1 e2 e3 e4 e5 e6 e7 e8 e9 e10 e11 e12 e13 e14 e15 e16).1.2.2.2.2.2.2.2.2.2.2.2.2.2.2.2.2.2.2.2.2.2.2.2.2.2.2.1, (h22 e0 e1 e2 e3 e4 e5 e6 e7 e8 e9 e10 e11 e12 e13 e14 e15 e16).1.2.2.2.2.2.2.2.2.2.2.2.2.2.2.2.2.2.2.2.2.2.2.2.2.2.2.2.1, (h22 e0 e1 e2 e3 e4 e5 e6 e7 e8 e9 e10 e11 e12 e13 e14 e15 e16).1.2.2.2.2.2.2.2.2.2.2.2.2.2.2.2.2.2.2.2.2.2.2.2.2.2.2.2.2.1, (h22 e0 e1 e2 e3 e4 e5 e6 e7 e8 e9 e10 e11 e12 e13 e14 e15 e16).1.2.2.2.2.2.2.2.2.2.2.2.2.2.2.2.2.2.2.2.2.2.2.2.2.2.2.2.2.2.1, e9, e8, e7, e6, e5, e4, e3, (h22 e0 e1 e2 e3 e4 e5 e6 e7 e8 e9 e10 e11 e12 e13 e14 e15 e16).1.2.2.2.2.2.2.2.2.2.2.2.2.2.2.2.2.2.2.2.2.2.2.2.2.2.2.2.2.2.2.1, (h22 e0 e1 e2 e3 e4 e5 e6 e7 e8 e9 e10 e11 e12 e13 e14 e15 e16).1.2.2.2.2.2.2.2.2.2.2.2.2.2.2.2.2.2.2.2.2.2.2.2.2.2.2.2.2.2.2.2.1, (h22 e0 e1 e2 e3 e4 e5 e6 e7 e8 e9 e10 e11 e12 e13 e14 e15 e16).1.2.2.2.2.2.2.2.2.2.2.2.2.2.2.2.2.2.2.2.2.2.2.2.2.2.2.2.2.2.2.2.2.1, (h22 e0 e1 e2 e3 e4 e5 e6 e7 e8 e9 e10 e11 e12 e13 e14 e15 e16).1.2.2.2.2.2.2.2.2.2.2.2.2.2.2.2.2.2.2.2.2.2.2.2.2.2.2.2.2.2.2.2.2.2.1, (h22 e0 e1 e2 e3 e4 e5 e6 e7 e8 e9 e10 e11 e12 e13 e14 e15 e16).1.2.2.2.2.2.2.2.2.2.2.2.2.2.2.2.2.2.2.2.2.2.2.2.2.2.2.2.2.2.2.2.2.2.2.1, (h22 e0 e1 e2 e3 e4 e5 e6 e7 e8 e9 e10 e11 e12 e13 e14 e15 e16).1.2.2.2.2.2.2.2.2.2.2.2.2.2.2.2.2.2.2.2.2.2.2.2.2.2.2.2.2.2.2.2.2.2.2.2.1, (h22 e0 e1 e2 e3 e4 e5 e6 e7 e8 e9 e10 e11 e12 e13 e14 e15 e16).1.2.2.2.2.2.2.2.2.2.2.2.2.2.2.2.2.2.2.2.2.2.2.2.2.2.2.2.2.2.2.2.2.2.2.2.2.1, (h22 e0 e1 e2 e3 e4 e5 e6 e7 e8 e9 e10 e11 e12 e13 e14 e15 e16).1.2.2.2.2.2.2.2.2.2.2.2.2.2.2.2.2.2.2.2.2.2.2.2.2.2.2.2.2.2.2.2.2.2.2.2.2.2.1, (h22 e0 e1 e2 e3 e4 e5 e6 e7 e8 e9 e10 e11 e12 e13 e14 e15 e16).1.2.2.2.2.2.2.2.2.2.2.2.2.2.2.2.2.2.2.2.2.2.2.2.2.2.2.2.2.2.2.2.2.2.2.2.2.2.2.1, (h22 e0 e1 e2 e3 e4 e5 e6 e7 e8 e9 e10 e11 e12 e13 e14 e15 e16).1.2.2.2.2.2.2.2.2.2.2.2.2.2.2.2.2.2.2.2.2.2.2.2.2.2.2.2.2.2.2.2.2.2.2.2.2.2.2.2.1, (h22 e0 e1 e2 e3 e4 e5 e6 e7 e8 e9 e10 e11 e12 e13 e14 e15 e16).1.2.2.2.2.2.2.2.2.2.2.2.2.2.2.2.2.2.2.2.2.2.2.2.2.2.2.2.2.2.2.2.2.2.2.2.2.2.2.2.2.1, (h22 e0 e1 e2 e3 e4 e5 e6 e7 e8 e9 e10 e11 e12 e13 e14 e15 e16).1.2.2.2.2.2.2.2.2.2.2.2.2.2.2.2.2.2.2.2.2.2.2.2.2.2.2.2.2.2.2.2.2.2.2.2.2.2.2.2.2.2.1, e2, e1, e0, trivial⟩ (h22 e0 e1 e2 e3 e4 e5 e6 e7 e8 e9 e10 e11 e12 e13 e14 e15 e16).2
set_option maxHeartbeats 4000000 in
theorem law7_ok (b r p x y z m : Int) (x0 : 0 ≤ x) (x1 : x < 18446744073709551616) (y0 : 0 ≤ y) (y1 : y < 18446744073709551616) (z0 : 0 ≤ z) (z1 : z < 18446744073709551616) (m0 : -9223372036854775808 ≤ m) (m1 : m < 9223372036854775808) :
    CallsD Try.prog 7 [.agg [i64 b, i64 r, i64 p], u64 x, u64 y, u64 z, i64 m] (.v (.bool true)) := by
  by_cases hl : limE b r p = 0
  case neg =>
    refine law7_calls b r p x y z m _ ?_ ?_ ?_ ?_ ?_ ?_ ?_ ?_ ?_ ?_ ?_ ?_ ?_ ?_ ?_ ?_ ?_ ?_ ?_ ?_ ?_ ?_ ?_
    · intro _; exact ⟨trivial, rfl⟩
    all_goals
      intro a
      rw [neq_f] at a
      exact absurd a hl
  by_cases hxy : x ≤ y
  case neg =>
    refine law7_calls b r p x y z m _ ?_ ?_ ?_ ?_ ?_ ?_ ?_ ?_ ?_ ?_ ?_ ?_ ?_ ?_ ?_ ?_ ?_ ?_ ?_ ?_ ?_ ?_ ?_
    · intro a; rw [neq_t] at a; exact absurd hl a
    · intro _ _; exact ⟨trivial, rfl⟩
    all_goals
      intro _ a
      rw [gtr_f] at a
      exact absurd a hxy
  by_cases hyz : y ≤ z
  case neg =>
    refine law7_calls b r p x y z m _ ?_ ?_ ?_ ?_ ?_ ?_ ?_ ?_ ?_ ?_ ?_ ?_ ?_ ?_ ?_ ?_ ?_ ?_ ?_ ?_ ?_ ?_ ?_
    · intro a; rw [neq_t] at a; exact absurd hl a
    · intro _ a; rw [gtr_t] at a; omega
    · intro _ _ _; exact ⟨trivial, rfl⟩
    all_goals
      intro _ _ a
      rw [gtr_f] at a
      exact absurd a hyz
  have hxz : x ≤ z := by omega
  obtain ⟨b0, b1, r0, r1, p0, p1⟩ := limE_ok hl
  obtain ⟨n0, n1⟩ := mul_bound (t := z - x) (r := r) (by omega) (by omega) r0 r1
  have hN : (z - x) * r = (y - x) * r + (z - y) * r := by rw [← Int.add_mul]; congr 1; omega
  have k1 : 0 ≤ (y - x) * r := Int.mul_nonneg (by omega) r0
  have k2 : 0 ≤ (z - y) * r := Int.mul_nonneg (by omega) r0
  obtain ⟨fl, fu⟩ := floor_two (n1 := (y - x) * r) (n2 := (z - y) * r) (p := p) (by omega)
  rw [← hN] at fl fu
  have q1 : 0 ≤ (y - x) * r / p := Int.ediv_nonneg k1 (by omega)
  have q2 : 0 ≤ (z - y) * r / p := Int.ediv_nonneg k2 (by omega)
  have t0 : 0 ≤ (z - x) * r / p * p := Int.mul_nonneg (Int.ediv_nonneg n0 (by omega)) (by omega)
  have t1 := Int.ediv_mul_add_emod ((z - x) * r) p
  have t2 := Int.emod_nonneg ((z - x) * r) (show p ≠ 0 by omega)
  have t3 := Int.emod_lt_of_pos ((z - x) * r) (show 0 < p by omega)
  have ew : wN b r p (z - x) = (z - x) * r / p + b := rfl
  have ew1 : wN b r p (y - x) = (y - x) * r / p + b := rfl
  have ew2 : wN b r p (z - y) = (z - y) * r / p + b := rfl
  by_cases hw : wN b r p (z - x) < 18446744073709551616
  · obtain ⟨eE, eV⟩ := bE_small hl hxz hw
    obtain ⟨eE1, eV1⟩ := bE_small (f := x) (t := y) hl hxy (by omega)
    obtain ⟨eE2, eV2⟩ := bE_small (f := y) (t := z) hl hyz (by omega)
    have es : opI .sub .u64 z x = z - x := by rw [opI_sub, wrap_u64]; omega
    have wb : IntKind.wrap .u64 b = b := wrap_u64_of (by omega) (by omega)
    have wr : IntKind.wrap .u64 r = r := wrap_u64_of (by omega) (by omega)
    have wp : IntKind.wrap .u64 p = p := wrap_u64_of (by omega) (by omega)
    have es2 : opI .sub .i64 1000000000 b = 1000000000 - b := by rw [opI_sub, wrap_i64_of (by omega) (by omega)]
    have ewm : 1 ≤ m → m ≤ 1000000000 - b → opI .add .i64 b m = b + m ∧ limE (b + m) r p = 0 ∧ wN (b + m) r p (z - x) = (z - x) * r / p + b + m := fun a c =>
      ⟨by rw [opI_add, wrap_i64_of (by omega) (by omega)], by unfold limE; rw [if_neg (by omega)], by unfold wN; omega⟩
    rw [ew] at eV hw
    rw [ew1] at eV1
    rw [ew2] at eV2
    clear ew ew1 ew2
    generalize (y - x) * r / p = d1 at *
    generalize (z - y) * r / p = d2 at *
    generalize hd : (z - x) * r / p = d at *
    generalize hn : (z - x) * r = n at *
    generalize n % p = q at *
    generalize hT : d * p = T at *
    clear hN k1 k2
    have eq1 : opI .sub .u64 (d + b) b = d := by rw [opI_sub, wrap_u64]; omega
    have eq2 : opI .sub .u64 (d + b) (d1 + b) = d - d1 := by rw [opI_sub, wrap_u64]; omega
    have hTn : T ≤ n := by omega
    have hcz : 0 ≤ cmpZ n T := by unfold cmpZ; split <;> (try split) <;> omega
    have hb' : 1 ≤ m → m ≤ 1000000000 - b → bE (opI .add .i64 b m) r p x z = 0 ∨ bE (opI .add .i64 b m) r p x z = 16 := fun a c => by
      obtain ⟨u1, u2, _⟩ := ewm a c
      rw [u1, bE_eq u2 hxz]; split <;> simp
    have hv' : 1 ≤ m → m ≤ 1000000000 - b → bE (opI .add .i64 b m) r p x z = 0 → bV (opI .add .i64 b m) r p x z = opI .add .u64 (d + b) (IntKind.wrap .u64 m) := fun a c e => by
      obtain ⟨u1, u2, u3⟩ := ewm a c
      rw [u1] at e ⊢
      have hw' : wN (b + m) r p (z - x) < 18446744073709551616 := by
        rw [bE_eq u2 hxz] at e
        split at e
        · assumption
        · cases e
      rw [(bE_small u2 hxz hw').2, u3, wrap_u64_of (show 0 ≤ m by omega) (by omega), opI_add, wrap_u64_of (by omega) (by omega)]
    refine law7_calls b r p x y z m _ ?_ ?_ ?_ ?_ ?_ ?_ ?_ ?_ ?_ ?_ ?_ ?_ ?_ ?_ ?_ ?_ ?_ ?_ ?_ ?_ ?_ ?_ ?_
    all_goals simp only [eE, eE1, eE2, eV, eV1, eV2, es, es2, wb, wr, wp, eq1, eq2, hn, hT, fold64, if_pos hTn, hl, neq_t, neq_f, gtr_t, gtr_f, eql_t, eql_f, geq_t, geq_f, lss_t, lss_f, cmpZ_ls_t, cmpZ_ls_f, ne_eq, not_true, false_imp_iff, true_imp_iff]
    all_goals try (intros; first | trivial | (exfalso; omega) | exact ⟨by ((repeat' apply And.intro) <;> first | trivial | omega | (apply decide_eq_true; omega)), trivial⟩)
    all_goals
      intro _ _ _ _ _ _ _ _ _ a c _ e
      refine ⟨by ((repeat' apply And.intro) <;> first | trivial | omega | (apply decide_eq_true; omega)), ?_⟩
      rw [hv' a c e]
      simp [cmpI]
  · have eE := bE_great hl hxz hw
    have eE1 : bE b r p x y = 0 ∨ bE b r p x y = 16 := by rw [bE_eq hl hxy]; split <;> simp
    have eE2 : bE b r p y z = 0 ∨ bE b r p y z = 16 := by rw [bE_eq hl hyz]; split <;> simp
    refine law7_calls b r p x y z m _ ?_ ?_ ?_ ?_ ?_ ?_ ?_ ?_ ?_ ?_ ?_ ?_ ?_ ?_ ?_ ?_ ?_ ?_ ?_ ?_ ?_ ?_ ?_
    all_goals
      simp only [eE, hl, neq_t, neq_f, gtr_t, gtr_f, eql_t, eql_f, ne_eq, not_true, false_imp_iff, true_imp_iff]
    all_goals try (intros; first | trivial | (exfalso; omega) | exact ⟨by ((repeat' apply And.intro) <;> first | trivial | omega | (apply decide_eq_true; omega)), trivial⟩)
    all_goals
      intros
      refine ⟨by ((repeat' apply And.intro) <;> first | trivial | omega | (apply decide_eq_true; omega)), ?_⟩
      rw [show bE b r p y z = 16 by omega]
      rfl
end MeterS
