/- The functions of the folder audit and what they reach: what they compute. No condition. -/
import Derived.Test.YtpbngkempchamaaAuWF
set_option linter.unusedSectionVars false
set_option linter.unusedVariables false
set_option linter.unusedSimpArgs false
namespace MeterS
open Go Go.Dam Go.Proofs
set_option maxRecDepth 1000000
set_option linter.unusedVariables false
set_option linter.unusedSectionVars false
set_option linter.unusedSimpArgs false
abbrev u32 (n : Int) : D := .v (.int .u32 n)
abbrev u16 (n : Int) : D := .v (.int .u16 n)
abbrev u8 (n : Int) : D := .v (.int .u8 n)
abbrev bo (b : Bool) : D := .v (.bool b)
/-- The wait of a bucket for a cost. -/
def waN (b r p v q t c : Int) : Int := if c ≤ v then 0 else if b < c ∨ r = 0 then 18446744073709551615 else if 18446744073709551615 - t < upN ((c - v) * p - q) r then 18446744073709551615 else upN ((c - v) * p - q) r
variable [Glo]
def bwaitA_c0 (b r p v q t c : Int) : Int := if 0 * 18446744073709551616 + IntKind.u64.wrap q ≤ IntKind.u64.wrap (opI BinOp.sub IntKind.i64 c v) * IntKind.u64.wrap p / 18446744073709551616 * 18446744073709551616 + IntKind.u64.wrap (opI BinOp.sub IntKind.i64 c v) * IntKind.u64.wrap p % 18446744073709551616 then IntKind.u64.wrap (opI BinOp.sub IntKind.i64 c v) * IntKind.u64.wrap p / 18446744073709551616 * 18446744073709551616 + IntKind.u64.wrap (opI BinOp.sub IntKind.i64 c v) * IntKind.u64.wrap p % 18446744073709551616 - (0 + IntKind.u64.wrap q) else 0
def bwaitA_c1 (b r p v q t c : Int) := (bwaitA_c0 b r p v q t c) / 18446744073709551616 * 18446744073709551616 + (bwaitA_c0 b r p v q t c) % 18446744073709551616
def bwaitA_c2 (b r p v q t c : Int) : Int := if 0 * 18446744073709551616 + IntKind.u64.wrap q ≤ IntKind.u64.wrap (opI BinOp.sub IntKind.i64 c v) * IntKind.u64.wrap p / 18446744073709551616 * 18446744073709551616 + IntKind.u64.wrap (opI BinOp.sub IntKind.i64 c v) * IntKind.u64.wrap p % 18446744073709551616 then IntKind.u64.wrap (opI BinOp.sub IntKind.i64 c v) * IntKind.u64.wrap p / 18446744073709551616 * 18446744073709551616 + IntKind.u64.wrap (opI BinOp.sub IntKind.i64 c v) * IntKind.u64.wrap p % 18446744073709551616 - (0 * 18446744073709551616 + IntKind.u64.wrap q) else 0
def bwaitA_c3 (b r p v q t c : Int) := (bwaitA_c2 b r p v q t c) / 18446744073709551616 * 18446744073709551616 + (bwaitA_c2 b r p v q t c) % 18446744073709551616
def bwaitA_c4 (b r p v q t c : Int) : Int := if upN (bwaitA_c3 b r p v q t c) (IntKind.u64.wrap r) / 18446744073709551616 = 0 then 0 else 16
def bwaitA_c5 (b r p v q t c : Int) : Int := if upN (bwaitA_c3 b r p v q t c) (IntKind.u64.wrap r) / 18446744073709551616 = 0 then upN (bwaitA_c1 b r p v q t c) (IntKind.u64.wrap r) % 18446744073709551616 else 0
def bwaitA_c6 (b r p v q t c : Int) := cmpI BinOp.gtr (bwaitA_c5 b r p v q t c) (opI BinOp.sub IntKind.u64 18446744073709551615 t)
theorem bwaitA_p0 (b r p v q t c : Int) : fnX Try.prog X21 100000 [.d true] 40 [D.agg [i64 b, i64 r, i64 p, i64 v, i64 q, u64 t], i64 c] = some (D.tup [u64 0, i64 (bkE b r p v q)], [cmpI BinOp.neq (bkE b r p v q) 0 = true, -9223372036854775808 ≤ v, v < 9223372036854775808]) := by kernel_rfl
theorem bwaitA_p1 (b r p v q t c : Int) : fnX Try.prog X21 100000 [.d false, .d true] 40 [D.agg [i64 b, i64 r, i64 p, i64 v, i64 q, u64 t], i64 c] = some (D.tup [u64 0, i64 2], [cmpI BinOp.lss c 0 = true, cmpI BinOp.neq (bkE b r p v q) 0 = false, -9223372036854775808 ≤ v, v < 9223372036854775808]) := by kernel_rfl
theorem bwaitA_p2 (b r p v q t c : Int) : fnX Try.prog X21 100000 [.d false, .d false, .d true] 40 [D.agg [i64 b, i64 r, i64 p, i64 v, i64 q, u64 t], i64 c] = some (D.tup [u64 0, i64 0], [cmpI BinOp.leq c v = true, cmpI BinOp.lss c 0 = false, cmpI BinOp.neq (bkE b r p v q) 0 = false, -9223372036854775808 ≤ v, v < 9223372036854775808]) := by kernel_rfl
theorem bwaitA_p3 (b r p v q t c : Int) : fnX Try.prog X21 100000 [.d false, .d false, .d false, .d true, .c 3] 40 [D.agg [i64 b, i64 r, i64 p, i64 v, i64 q, u64 t], i64 c] = some (D.tup [u64 18446744073709551615, i64 0], [cmpI BinOp.gtr c b = true, cmpI BinOp.leq c v = false, cmpI BinOp.lss c 0 = false, cmpI BinOp.neq (bkE b r p v q) 0 = false, -9223372036854775808 ≤ v, v < 9223372036854775808]) := by kernel_rfl
theorem bwaitA_p4 (b r p v q t c : Int) : fnX Try.prog X21 100000 [.d false, .d false, .d false, .d false, .c 2, .d true] 40 [D.agg [i64 b, i64 r, i64 p, i64 v, i64 q, u64 t], i64 c] = some (D.tup [u64 18446744073709551615, i64 0], [cmpI BinOp.eql r 0 = true, cmpI BinOp.gtr c b = false, cmpI BinOp.leq c v = false, cmpI BinOp.lss c 0 = false, cmpI BinOp.neq (bkE b r p v q) 0 = false, -9223372036854775808 ≤ v, v < 9223372036854775808]) := by kernel_rfl
theorem bwaitA_p5 (b r p v q t c : Int) : fnX Try.prog X21 100000 [.d false, .d false, .d false, .d false, .c 2, .d false, .d true, .c 4] 40 [D.agg [i64 b, i64 r, i64 p, i64 v, i64 q, u64 t], i64 c] = some (D.tup [u64 18446744073709551615, i64 0], [cmpI BinOp.neq (bwaitA_c4 b r p v q t c) 0 = true, 0 < IntKind.u64.wrap r, IntKind.u64.wrap r < 4294967296, 0 ≤ (bwaitA_c2 b r p v q t c) / 18446744073709551616, (bwaitA_c2 b r p v q t c) / 18446744073709551616 < 18446744073709551616, 0 ≤ (bwaitA_c2 b r p v q t c) % 18446744073709551616, (bwaitA_c2 b r p v q t c) % 18446744073709551616 < 18446744073709551616, 0 ≤ IntKind.u64.wrap (opI BinOp.sub IntKind.i64 c v) * IntKind.u64.wrap p / 18446744073709551616, IntKind.u64.wrap (opI BinOp.sub IntKind.i64 c v) * IntKind.u64.wrap p / 18446744073709551616 < 18446744073709551616, 0 ≤ IntKind.u64.wrap (opI BinOp.sub IntKind.i64 c v) * IntKind.u64.wrap p % 18446744073709551616, IntKind.u64.wrap (opI BinOp.sub IntKind.i64 c v) * IntKind.u64.wrap p % 18446744073709551616 < 18446744073709551616, (0 : Int) ≤ (0 : Int), (0 : Int) < (18446744073709551616 : Int), 0 ≤ IntKind.u64.wrap q, IntKind.u64.wrap q < 18446744073709551616, 0 ≤ IntKind.u64.wrap (opI BinOp.sub IntKind.i64 c v), IntKind.u64.wrap (opI BinOp.sub IntKind.i64 c v) < 18446744073709551616, 0 ≤ IntKind.u64.wrap p, IntKind.u64.wrap p < 18446744073709551616, cmpI BinOp.eql r 0 = false, cmpI BinOp.gtr c b = false, cmpI BinOp.leq c v = false, cmpI BinOp.lss c 0 = false, cmpI BinOp.neq (bkE b r p v q) 0 = false, -9223372036854775808 ≤ v, v < 9223372036854775808]) := by kernel_rfl
theorem bwaitA_p6 (b r p v q t c : Int) : fnX Try.prog X21 100000 [.d false, .d false, .d false, .d false, .c 2, .d false, .d false, .c 3, .d true] 40 [D.agg [i64 b, i64 r, i64 p, i64 v, i64 q, u64 t], i64 c] = some (D.tup [u64 18446744073709551615, i64 0], [cmpI BinOp.gtr (bwaitA_c5 b r p v q t c) (opI BinOp.sub IntKind.u64 18446744073709551615 t) = true, cmpI BinOp.neq (bwaitA_c4 b r p v q t c) 0 = false, 0 < IntKind.u64.wrap r, IntKind.u64.wrap r < 4294967296, 0 ≤ (bwaitA_c2 b r p v q t c) / 18446744073709551616, (bwaitA_c2 b r p v q t c) / 18446744073709551616 < 18446744073709551616, 0 ≤ (bwaitA_c2 b r p v q t c) % 18446744073709551616, (bwaitA_c2 b r p v q t c) % 18446744073709551616 < 18446744073709551616, 0 ≤ IntKind.u64.wrap (opI BinOp.sub IntKind.i64 c v) * IntKind.u64.wrap p / 18446744073709551616, IntKind.u64.wrap (opI BinOp.sub IntKind.i64 c v) * IntKind.u64.wrap p / 18446744073709551616 < 18446744073709551616, 0 ≤ IntKind.u64.wrap (opI BinOp.sub IntKind.i64 c v) * IntKind.u64.wrap p % 18446744073709551616, IntKind.u64.wrap (opI BinOp.sub IntKind.i64 c v) * IntKind.u64.wrap p % 18446744073709551616 < 18446744073709551616, (0 : Int) ≤ (0 : Int), (0 : Int) < (18446744073709551616 : Int), 0 ≤ IntKind.u64.wrap q, IntKind.u64.wrap q < 18446744073709551616, 0 ≤ IntKind.u64.wrap (opI BinOp.sub IntKind.i64 c v), IntKind.u64.wrap (opI BinOp.sub IntKind.i64 c v) < 18446744073709551616, 0 ≤ IntKind.u64.wrap p, IntKind.u64.wrap p < 18446744073709551616, cmpI BinOp.eql r 0 = false, cmpI BinOp.gtr c b = false, cmpI BinOp.leq c v = false, cmpI BinOp.lss c 0 = false, cmpI BinOp.neq (bkE b r p v q) 0 = false, -9223372036854775808 ≤ v, v < 9223372036854775808]) := by kernel_rfl
theorem bwaitA_p7 (b r p v q t c : Int) : fnX Try.prog X21 100000 [.d false, .d false, .d false, .d false, .c 2, .d false, .d false, .c 3, .d false] 40 [D.agg [i64 b, i64 r, i64 p, i64 v, i64 q, u64 t], i64 c] = some (D.tup [u64 (bwaitA_c5 b r p v q t c), i64 0], [cmpI BinOp.gtr (bwaitA_c5 b r p v q t c) (opI BinOp.sub IntKind.u64 18446744073709551615 t) = false, cmpI BinOp.neq (bwaitA_c4 b r p v q t c) 0 = false, 0 < IntKind.u64.wrap r, IntKind.u64.wrap r < 4294967296, 0 ≤ (bwaitA_c2 b r p v q t c) / 18446744073709551616, (bwaitA_c2 b r p v q t c) / 18446744073709551616 < 18446744073709551616, 0 ≤ (bwaitA_c2 b r p v q t c) % 18446744073709551616, (bwaitA_c2 b r p v q t c) % 18446744073709551616 < 18446744073709551616, 0 ≤ IntKind.u64.wrap (opI BinOp.sub IntKind.i64 c v) * IntKind.u64.wrap p / 18446744073709551616, IntKind.u64.wrap (opI BinOp.sub IntKind.i64 c v) * IntKind.u64.wrap p / 18446744073709551616 < 18446744073709551616, 0 ≤ IntKind.u64.wrap (opI BinOp.sub IntKind.i64 c v) * IntKind.u64.wrap p % 18446744073709551616, IntKind.u64.wrap (opI BinOp.sub IntKind.i64 c v) * IntKind.u64.wrap p % 18446744073709551616 < 18446744073709551616, (0 : Int) ≤ (0 : Int), (0 : Int) < (18446744073709551616 : Int), 0 ≤ IntKind.u64.wrap q, IntKind.u64.wrap q < 18446744073709551616, 0 ≤ IntKind.u64.wrap (opI BinOp.sub IntKind.i64 c v), IntKind.u64.wrap (opI BinOp.sub IntKind.i64 c v) < 18446744073709551616, 0 ≤ IntKind.u64.wrap p, IntKind.u64.wrap p < 18446744073709551616, cmpI BinOp.eql r 0 = false, cmpI BinOp.gtr c b = false, cmpI BinOp.leq c v = false, cmpI BinOp.lss c 0 = false, cmpI BinOp.neq (bkE b r p v q) 0 = false, -9223372036854775808 ≤ v, v < 9223372036854775808]) := by kernel_rfl
theorem bwaitA_calls (b r p v q t c : Int) (res : D)
  (h0 : ((cmpI BinOp.neq (bkE b r p v q) 0) = true) → ((-9223372036854775808 ≤ v) ∧ (v < 9223372036854775808) ∧ True) ∧ res = D.tup [u64 0, i64 (bkE b r p v q)])
  (h1 : ((cmpI BinOp.neq (bkE b r p v q) 0) = false) → ((cmpI BinOp.lss c 0) = true) → ((-9223372036854775808 ≤ v) ∧ (v < 9223372036854775808) ∧ True) ∧ res = D.tup [u64 0, i64 2])
  (h2 : ((cmpI BinOp.neq (bkE b r p v q) 0) = false) → ((cmpI BinOp.lss c 0) = false) → ((cmpI BinOp.leq c v) = true) → ((-9223372036854775808 ≤ v) ∧ (v < 9223372036854775808) ∧ True) ∧ res = D.tup [u64 0, i64 0])
  (h3 : ((cmpI BinOp.neq (bkE b r p v q) 0) = false) → ((cmpI BinOp.lss c 0) = false) → ((cmpI BinOp.leq c v) = false) → ((cmpI BinOp.gtr c b) = true) → ((-9223372036854775808 ≤ v) ∧ (v < 9223372036854775808) ∧ True) ∧ res = D.tup [u64 18446744073709551615, i64 0])
  (h4 : ((cmpI BinOp.neq (bkE b r p v q) 0) = false) → ((cmpI BinOp.lss c 0) = false) → ((cmpI BinOp.leq c v) = false) → ((cmpI BinOp.gtr c b) = false) → ((cmpI BinOp.eql r 0) = true) → ((-9223372036854775808 ≤ v) ∧ (v < 9223372036854775808) ∧ True) ∧ res = D.tup [u64 18446744073709551615, i64 0])
  (h5 : ((cmpI BinOp.neq (bkE b r p v q) 0) = false) → ((cmpI BinOp.lss c 0) = false) → ((cmpI BinOp.leq c v) = false) → ((cmpI BinOp.gtr c b) = false) → ((cmpI BinOp.eql r 0) = false) → ((cmpI BinOp.neq (bwaitA_c4 b r p v q t c) 0) = true) → ((0 < IntKind.u64.wrap r) ∧ (IntKind.u64.wrap r < 4294967296) ∧ (0 ≤ (bwaitA_c2 b r p v q t c) / 18446744073709551616) ∧ ((bwaitA_c2 b r p v q t c) / 18446744073709551616 < 18446744073709551616) ∧ (0 ≤ (bwaitA_c2 b r p v q t c) % 18446744073709551616) ∧ ((bwaitA_c2 b r p v q t c) % 18446744073709551616 < 18446744073709551616) ∧ (0 ≤ IntKind.u64.wrap (opI BinOp.sub IntKind.i64 c v) * IntKind.u64.wrap p / 18446744073709551616) ∧ (IntKind.u64.wrap (opI BinOp.sub IntKind.i64 c v) * IntKind.u64.wrap p / 18446744073709551616 < 18446744073709551616) ∧ (0 ≤ IntKind.u64.wrap (opI BinOp.sub IntKind.i64 c v) * IntKind.u64.wrap p % 18446744073709551616) ∧ (IntKind.u64.wrap (opI BinOp.sub IntKind.i64 c v) * IntKind.u64.wrap p % 18446744073709551616 < 18446744073709551616) ∧ ((0 : Int) ≤ (0 : Int)) ∧ ((0 : Int) < (18446744073709551616 : Int)) ∧ (0 ≤ IntKind.u64.wrap q) ∧ (IntKind.u64.wrap q < 18446744073709551616) ∧ (0 ≤ IntKind.u64.wrap (opI BinOp.sub IntKind.i64 c v)) ∧ (IntKind.u64.wrap (opI BinOp.sub IntKind.i64 c v) < 18446744073709551616) ∧ (0 ≤ IntKind.u64.wrap p) ∧ (IntKind.u64.wrap p < 18446744073709551616) ∧ (-9223372036854775808 ≤ v) ∧ (v < 9223372036854775808) ∧ True) ∧ res = D.tup [u64 18446744073709551615, i64 0])
  (h6 : ((cmpI BinOp.neq (bkE b r p v q) 0) = false) → ((cmpI BinOp.lss c 0) = false) → ((cmpI BinOp.leq c v) = false) → ((cmpI BinOp.gtr c b) = false) → ((cmpI BinOp.eql r 0) = false) → ((cmpI BinOp.neq (bwaitA_c4 b r p v q t c) 0) = false) → ((bwaitA_c6 b r p v q t c) = true) → ((0 < IntKind.u64.wrap r) ∧ (IntKind.u64.wrap r < 4294967296) ∧ (0 ≤ (bwaitA_c2 b r p v q t c) / 18446744073709551616) ∧ ((bwaitA_c2 b r p v q t c) / 18446744073709551616 < 18446744073709551616) ∧ (0 ≤ (bwaitA_c2 b r p v q t c) % 18446744073709551616) ∧ ((bwaitA_c2 b r p v q t c) % 18446744073709551616 < 18446744073709551616) ∧ (0 ≤ IntKind.u64.wrap (opI BinOp.sub IntKind.i64 c v) * IntKind.u64.wrap p / 18446744073709551616) ∧ (IntKind.u64.wrap (opI BinOp.sub IntKind.i64 c v) * IntKind.u64.wrap p / 18446744073709551616 < 18446744073709551616) ∧ (0 ≤ IntKind.u64.wrap (opI BinOp.sub IntKind.i64 c v) * IntKind.u64.wrap p % 18446744073709551616) ∧ (IntKind.u64.wrap (opI BinOp.sub IntKind.i64 c v) * IntKind.u64.wrap p % 18446744073709551616 < 18446744073709551616) ∧ ((0 : Int) ≤ (0 : Int)) ∧ ((0 : Int) < (18446744073709551616 : Int)) ∧ (0 ≤ IntKind.u64.wrap q) ∧ (IntKind.u64.wrap q < 18446744073709551616) ∧ (0 ≤ IntKind.u64.wrap (opI BinOp.sub IntKind.i64 c v)) ∧ (IntKind.u64.wrap (opI BinOp.sub IntKind.i64 c v) < 18446744073709551616) ∧ (0 ≤ IntKind.u64.wrap p) ∧ (IntKind.u64.wrap p < 18446744073709551616) ∧ (-9223372036854775808 ≤ v) ∧ (v < 9223372036854775808) ∧ True) ∧ res = D.tup [u64 18446744073709551615, i64 0])
  (h7 : ((cmpI BinOp.neq (bkE b r p v q) 0) = false) → ((cmpI BinOp.lss c 0) = false) → ((cmpI BinOp.leq c v) = false) → ((cmpI BinOp.gtr c b) = false) → ((cmpI BinOp.eql r 0) = false) → ((cmpI BinOp.neq (bwaitA_c4 b r p v q t c) 0) = false) → ((bwaitA_c6 b r p v q t c) = false) → ((0 < IntKind.u64.wrap r) ∧ (IntKind.u64.wrap r < 4294967296) ∧ (0 ≤ (bwaitA_c2 b r p v q t c) / 18446744073709551616) ∧ ((bwaitA_c2 b r p v q t c) / 18446744073709551616 < 18446744073709551616) ∧ (0 ≤ (bwaitA_c2 b r p v q t c) % 18446744073709551616) ∧ ((bwaitA_c2 b r p v q t c) % 18446744073709551616 < 18446744073709551616) ∧ (0 ≤ IntKind.u64.wrap (opI BinOp.sub IntKind.i64 c v) * IntKind.u64.wrap p / 18446744073709551616) ∧ (IntKind.u64.wrap (opI BinOp.sub IntKind.i64 c v) * IntKind.u64.wrap p / 18446744073709551616 < 18446744073709551616) ∧ (0 ≤ IntKind.u64.wrap (opI BinOp.sub IntKind.i64 c v) * IntKind.u64.wrap p % 18446744073709551616) ∧ (IntKind.u64.wrap (opI BinOp.sub IntKind.i64 c v) * IntKind.u64.wrap p % 18446744073709551616 < 18446744073709551616) ∧ ((0 : Int) ≤ (0 : Int)) ∧ ((0 : Int) < (18446744073709551616 : Int)) ∧ (0 ≤ IntKind.u64.wrap q) ∧ (IntKind.u64.wrap q < 18446744073709551616) ∧ (0 ≤ IntKind.u64.wrap (opI BinOp.sub IntKind.i64 c v)) ∧ (IntKind.u64.wrap (opI BinOp.sub IntKind.i64 c v) < 18446744073709551616) ∧ (0 ≤ IntKind.u64.wrap p) ∧ (IntKind.u64.wrap p < 18446744073709551616) ∧ (-9223372036854775808 ≤ v) ∧ (v < 9223372036854775808) ∧ True) ∧ res = D.tup [u64 (bwaitA_c5 b r p v q t c), i64 0]) : CallsD Try.prog 40 [D.agg [i64 b, i64 r, i64 p, i64 v, i64 q, u64 t], i64 c] res := by
  cases e0 : (cmpI BinOp.neq (bkE b r p v q) 0) with
  | true =>
    exact of_path hX21 (bwaitA_p0 b r p v q t c) ⟨e0, (h0 e0).1.1, (h0 e0).1.2.1, trivial⟩ (h0 e0).2
  | false =>
    cases e1 : (cmpI BinOp.lss c 0) with
    | true =>
      exact of_path hX21 (bwaitA_p1 b r p v q t c) ⟨e1, e0, (h1 e0 e1).1.1, (h1 e0 e1).1.2.1, trivial⟩ (h1 e0 e1).2
    | false =>
      cases e2 : (cmpI BinOp.leq c v) with
      | true =>
        exact of_path hX21 (bwaitA_p2 b r p v q t c) ⟨e2, e1, e0, (h2 e0 e1 e2).1.1, (h2 e0 e1 e2).1.2.1, trivial⟩ (h2 e0 e1 e2).2
      | false =>
        cases e3 : (cmpI BinOp.gtr c b) with
        | true =>
          exact of_path hX21 (bwaitA_p3 b r p v q t c) ⟨e3, e2, e1, e0, (h3 e0 e1 e2 e3).1.1, (h3 e0 e1 e2 e3).1.2.1, trivial⟩ (h3 e0 e1 e2 e3).2
        | false =>
          cases e4 : (cmpI BinOp.eql r 0) with
          | true =>
            exact of_path hX21 (bwaitA_p4 b r p v q t c) ⟨e4, e3, e2, e1, e0, (h4 e0 e1 e2 e3 e4).1.1, (h4 e0 e1 e2 e3 e4).1.2.1, trivial⟩ (h4 e0 e1 e2 e3 e4).2
          | false =>
            cases e5 : (cmpI BinOp.neq (bwaitA_c4 b r p v q t c) 0) with
            | true =>
              exact of_path hX21 (bwaitA_p5 b r p v q t c) ⟨e5, (h5 e0 e1 e2 e3 e4 e5).1.1, (h5 e0 e1 e2 e3 e4 e5).1.2.1, (h5 e0 e1 e2 e3 e4 e5).1.2.2.1, (h5 e0 e1 e2 e3 e4 e5).1.2.2.2.1, (h5 e0 e1 e2 e3 e4 e5).1.2.2.2.2.1, (h5 e0 e1 e2 e3 e4 e5).1.2.2.2.2.2.1, (h5 e0 e1 e2 e3 e4 e5).1.2.2.2.2.2.2.1, (h5 e0 e1 e2 e3 e4 e5).1.2.2.2.2.2.2.2.1, (h5 e0 e1 e2 e3 e4 e5).1.2.2.2.2.2.2.2.2.1, (h5 e0 e1 e2 e3 e4 e5).1.2.2.2.2.2.2.2.2.2.1, (h5 e0 e1 e2 e3 e4 e5).1.2.2.2.2.2.2.2.2.2.2.1, (h5 e0 e1 e2 e3 e4 e5).1.2.2.2.2.2.2.2.2.2.2.2.1, (h5 e0 e1 e2 e3 e4 e5).1.2.2.2.2.2.2.2.2.2.2.2.2.1, (h5 e0 e1 e2 e3 e4 e5).1.2.2.2.2.2.2.2.2.2.2.2.2.2.1, (h5 e0 e1 e2 e3 e4 e5).1.2.2.2.2.2.2.2.2.2.2.2.2.2.2.1, (h5 e0 e1 e2 e3 e4 e5).1.2.2.2.2.2.2.2.2.2.2.2.2.2.2.2.1, (h5 e0 e1 e2 e3 e4 e5).1.2.2.2.2.2.2.2.2.2.2.2.2.2.2.2.2.1, (h5 e0 e1 e2 e3 e4 e5).1.2.2.2.2.2.2.2.2.2.2.2.2.2.2.2.2.2.1, e4, e3, e2, e1, e0, (h5 e0 e1 e2 e3 e4 e5).1.2.2.2.2.2.2.2.2.2.2.2.2.2.2.2.2.2.2.1, (h5 e0 e1 e2 e3 e4 e5).1.2.2.2.2.2.2.2.2.2.2.2.2.2.2.2.2.2.2.2.1, trivial⟩ (h5 e0 e1 e2 e3 e4 e5).2
            | false =>
              cases e6 : (bwaitA_c6 b r p v q t c) with
              | true =>
                exact of_path hX21 (bwaitA_p6 b r p v q t c) ⟨e6, e5, (h6 e0 e1 e2 e3 e4 e5 e6).1.1, (h6 e0 e1 e2 e3 e4 e5 e6).1.2.1, (h6 e0 e1 e2 e3 e4 e5 e6).1.2.2.1, (h6 e0 e1 e2 e3 e4 e5 e6).1.2.2.2.1, (h6 e0 e1 e2 e3 e4 e5 e6).1.2.2.2.2.1, (h6 e0 e1 e2 e3 e4 e5 e6).1.2.2.2.2.2.1, (h6 e0 e1 e2 e3 e4 e5 e6).1.2.2.2.2.2.2.1, (h6 e0 e1 e2 e3 e4 e5 e6).1.2.2.2.2.2.2.2.1, (h6 e0 e1 e2 e3 e4 e5 e6).1.2.2.2.2.2.2.2.2.1, (h6 e0 e1 e2 e3 e4 e5 e6).1.2.2.2.2.2.2.2.2.2.1, (h6 e0 e1 e2 e3 e4 e5 e6).1.2.2.2.2.2.2.2.2.2.2.1, (h6 e0 e1 e2 e3 e4 e5 e6).1.2.2.2.2.2.2.2.2.2.2.2.1, (h6 e0 e1 e2 e3 e4 e5 e6).1.2.2.2.2.2.2.2.2.2.2.2.2.1, (h6 e0 e1 e2 e3 e4 e5 e6).1.2.2.2.2.2.2.2.2.2.2.2.2.2.1, (h6 e0 e1 e2 e3 e4 e5 e6).1.2.2.2.2.2.2.2.2.2.2.2.2.2.2.1, (h6 e0 e1 e2 e3 e4 e5 e6).1.2.2.2.2.2.2.2.2.2.2.2.2.2.2.2.1, (h6 e0 e1 e2 e3 e4 e5 e6).1.2.2.2.2.2.2.2.2.2.2.2.2.2.2.2.2.1, (h6 e0 e1 e2 e3 e4 e5 e6).1.2.2.2.2.2.2.2.2.2.2.2.2.2.2.2.2.2.1, e4, e3, e2, e1, e0, (h6 e0 e1 e2 e3 e4 e5 e6).1.2.2.2.2.2.2.2.2.2.2.2.2.2.2.2.2.2.2.1, (h6 e0 e1 e2 e3 e4 e5 e6).1.2.2.2.2.2.2.2.2.2.2.2.2.2.2.2.2.2.2.2.1, trivial⟩ (h6 e0 e1 e2 e3 e4 e5 e6).2
              | false =>
                exact of_path hX21 (bwaitA_p7 b r p v q t c) ⟨e6, e5, (h7 e0 e1 e2 e3 e4 e5 e6).1.1, (h7 e0 e1 e2 e3 e4 e5 e6).1.2.1, (h7 e0 e1 e2 e3 e4 e5 e6).1.2.2.1, (h7 e0 e1 e2 e3 e4 e5 e6).1.2.2.2.1, (h7 e0 e1 e2 e3 e4 e5 e6).1.2.2.2.2.1, (h7 e0 e1 e2 e3 e4 e5 e6).1.2.2.2.2.2.1, (h7 e0 e1 e2 e3 e4 e5 e6).1.2.2.2.2.2.2.1, (h7 e0 e1 e2 e3 e4 e5 e6).1.2.2.2.2.2.2.2.1, (h7 e0 e1 e2 e3 e4 e5 e6).1.2.2.2.2.2.2.2.2.1, (h7 e0 e1 e2 e3 e4 e5 e6).1.2.2.2.2.2.2.2.2.2.1, (h7 e0 e1 e2 e3 e4 e5 e6).1.2.2.2.2.2.2.2.2.2.2.1, (h7 e0 e1 e2 e3 e4 e5 e6).1.2.2.2.2.2.2.2.2.2.2.2.1, (h7 e0 e1 e2 e3 e4 e5 e6).1.2.2.2.2.2.2.2.2.2.2.2.2.1, (h7 e0 e1 e2 e3 e4 e5 e6).1.2.2.2.2.2.2.2.2.2.2.2.2.2.1, (h7 e0 e1 e2 e3 e4 e5 e6).1.2.2.2.2.2.2.2.2.2.2.2.2.2.2.1, (h7 e0 e1 e2 e3 e4 e5 e6).1.2.2.2.2.2.2.2.2.2.2.2.2.2.2.2.1, (h7 e0 e1 e2 e3 e4 e5 e6).1.2.2.2.2.2.2.2.2.2.2.2.2.2.2.2.2.1, (h7 e0 e1 e2 e3 e4 e5 e6).1.2.2.2.2.2.2.2.2.2.2.2.2.2.2.2.2.2.1, e4, e3, e2, e1, e0, (h7 e0 e1 e2 e3 e4 e5 e6).1.2.2.2.2.2.2.2.2.2.2.2.2.2.2.2.2.2.2.1, (h7 e0 e1 e2 e3 e4 e5 e6).1.2.2.2.2.2.2.2.2.2.2.2.2.2.2.2.2.2.2.2.1, trivial⟩ (h7 e0 e1 e2 e3 e4 e5 e6).2

theorem brefA_p0 (b r p v q t n : Int) : fnX Try.prog X21 100000 [.d true] 62 [D.agg [i64 b, i64 r, i64 p, i64 v, i64 q, u64 t], u64 n] = some (D.tup [D.agg [i64 0, i64 0, i64 0, i64 0, i64 0, u64 0], i64 (bkE b r p v q)], [cmpI BinOp.neq (bkE b r p v q) 0 = true, -9223372036854775808 ≤ v, v < 9223372036854775808]) := by kernel_rfl
theorem brefA_p1 (b r p v q t n : Int) : fnX Try.prog X21 100000 [.d false] 62 [D.agg [i64 b, i64 r, i64 p, i64 v, i64 q, u64 t], u64 n] = some (D.tup [D.agg [i64 b, i64 r, i64 p, i64 (fiV b r p v q t n), i64 (fiQ b r p v q t n), u64 (fiT t n)], i64 0], [bkE b r p v q = 0, 0 ≤ t, t < 18446744073709551616, 0 ≤ n, n < 18446744073709551616, cmpI BinOp.neq (bkE b r p v q) 0 = false, -9223372036854775808 ≤ v, v < 9223372036854775808]) := by kernel_rfl
theorem brefA_calls (b r p v q t n : Int) (res : D)
  (h0 : ((cmpI BinOp.neq (bkE b r p v q) 0) = true) → ((-9223372036854775808 ≤ v) ∧ (v < 9223372036854775808) ∧ True) ∧ res = D.tup [D.agg [i64 0, i64 0, i64 0, i64 0, i64 0, u64 0], i64 (bkE b r p v q)])
  (h1 : ((cmpI BinOp.neq (bkE b r p v q) 0) = false) → ((bkE b r p v q = 0) ∧ (0 ≤ t) ∧ (t < 18446744073709551616) ∧ (0 ≤ n) ∧ (n < 18446744073709551616) ∧ (-9223372036854775808 ≤ v) ∧ (v < 9223372036854775808) ∧ True) ∧ res = D.tup [D.agg [i64 b, i64 r, i64 p, i64 (fiV b r p v q t n), i64 (fiQ b r p v q t n), u64 (fiT t n)], i64 0]) : CallsD Try.prog 62 [D.agg [i64 b, i64 r, i64 p, i64 v, i64 q, u64 t], u64 n] res := by
  cases e0 : (cmpI BinOp.neq (bkE b r p v q) 0) with
  | true =>
    exact of_path hX21 (brefA_p0 b r p v q t n) ⟨e0, (h0 e0).1.1, (h0 e0).1.2.1, trivial⟩ (h0 e0).2
  | false =>
    exact of_path hX21 (brefA_p1 b r p v q t n) ⟨(h1 e0).1.1, (h1 e0).1.2.1, (h1 e0).1.2.2.1, (h1 e0).1.2.2.2.1, (h1 e0).1.2.2.2.2.1, e0, (h1 e0).1.2.2.2.2.2.1, (h1 e0).1.2.2.2.2.2.2.1, trivial⟩ (h1 e0).2
def bfillB_c0 (b r p v q t n : Int) : Int := if opI BinOp.sub IntKind.u64 n t * IntKind.u64.wrap r / 18446744073709551616 * 18446744073709551616 + opI BinOp.sub IntKind.u64 n t * IntKind.u64.wrap r % 18446744073709551616 + (0 * 18446744073709551616 + IntKind.u64.wrap q) < 340282366920938463463374607431768211456 then opI BinOp.sub IntKind.u64 n t * IntKind.u64.wrap r / 18446744073709551616 * 18446744073709551616 + opI BinOp.sub IntKind.u64 n t * IntKind.u64.wrap r % 18446744073709551616 + (0 + IntKind.u64.wrap q) else 0
def bfillB_c1 (b r p v q t n : Int) := (bfillB_c0 b r p v q t n) / 18446744073709551616 * 18446744073709551616 + (bfillB_c0 b r p v q t n) % 18446744073709551616
def bfillB_c2 (b r p v q t n : Int) := (bfillB_c1 b r p v q t n) / IntKind.u64.wrap p / 18446744073709551616 * 18446744073709551616 + (bfillB_c1 b r p v q t n) / IntKind.u64.wrap p % 18446744073709551616
def bfillB_c3 (b r p v q t n : Int) := cmpZ (bfillB_c2 b r p v q t n) (0 + IntKind.u64.wrap (opI BinOp.sub IntKind.i64 b v))
def bfillB_c4 (b r p v q t n : Int) : Int := if opI BinOp.sub IntKind.u64 n t * IntKind.u64.wrap r / 18446744073709551616 * 18446744073709551616 + opI BinOp.sub IntKind.u64 n t * IntKind.u64.wrap r % 18446744073709551616 + (0 * 18446744073709551616 + IntKind.u64.wrap q) < 340282366920938463463374607431768211456 then opI BinOp.sub IntKind.u64 n t * IntKind.u64.wrap r / 18446744073709551616 * 18446744073709551616 + opI BinOp.sub IntKind.u64 n t * IntKind.u64.wrap r % 18446744073709551616 + (0 * 18446744073709551616 + IntKind.u64.wrap q) else 0
def bfillB_c5 (b r p v q t n : Int) := (bfillB_c4 b r p v q t n) / 18446744073709551616 * 18446744073709551616 + (bfillB_c4 b r p v q t n) % 18446744073709551616
theorem bfillB_p0 (b r p v q t n : Int) : fnX Try.prog X21 100000 [.d true] 58 [D.agg [i64 b, i64 r, i64 p, i64 v, i64 q, u64 t], u64 n] = some (D.agg [i64 b, i64 r, i64 p, i64 v, i64 q, u64 t], [cmpI BinOp.lss n t = true]) := by kernel_rfl
theorem bfillB_p1 (b r p v q t n : Int) : fnX Try.prog X21 100000 [.d false, .d true] 58 [D.agg [i64 b, i64 r, i64 p, i64 v, i64 q, u64 t], u64 n] = some (D.agg [i64 b, i64 r, i64 p, i64 b, i64 0, u64 n], [cmpI BinOp.geq (bfillB_c3 b r p v q t n) 0 = true, 0 ≤ (bfillB_c5 b r p v q t n) / IntKind.u64.wrap p % 18446744073709551616, (bfillB_c5 b r p v q t n) / IntKind.u64.wrap p % 18446744073709551616 < 18446744073709551616, 0 ≤ IntKind.u64.wrap (opI BinOp.sub IntKind.i64 b v), IntKind.u64.wrap (opI BinOp.sub IntKind.i64 b v) < 18446744073709551616, 0 < IntKind.u64.wrap p, IntKind.u64.wrap p < 4294967296, 0 ≤ (bfillB_c4 b r p v q t n) / 18446744073709551616, (bfillB_c4 b r p v q t n) / 18446744073709551616 < 18446744073709551616, 0 ≤ (bfillB_c4 b r p v q t n) % 18446744073709551616, (bfillB_c4 b r p v q t n) % 18446744073709551616 < 18446744073709551616, 0 ≤ opI BinOp.sub IntKind.u64 n t * IntKind.u64.wrap r / 18446744073709551616, opI BinOp.sub IntKind.u64 n t * IntKind.u64.wrap r / 18446744073709551616 < 18446744073709551616, 0 ≤ opI BinOp.sub IntKind.u64 n t * IntKind.u64.wrap r % 18446744073709551616, opI BinOp.sub IntKind.u64 n t * IntKind.u64.wrap r % 18446744073709551616 < 18446744073709551616, (0 : Int) ≤ (0 : Int), (0 : Int) < (18446744073709551616 : Int), 0 ≤ IntKind.u64.wrap q, IntKind.u64.wrap q < 18446744073709551616, 0 ≤ opI BinOp.sub IntKind.u64 n t, opI BinOp.sub IntKind.u64 n t < 18446744073709551616, 0 ≤ IntKind.u64.wrap r, IntKind.u64.wrap r < 18446744073709551616, cmpI BinOp.lss n t = false]) := by kernel_rfl
theorem bfillB_p2 (b r p v q t n : Int) : fnX Try.prog X21 100000 [.d false, .d false] 58 [D.agg [i64 b, i64 r, i64 p, i64 v, i64 q, u64 t], u64 n] = some (D.agg [i64 b, i64 r, i64 p, i64 (opI BinOp.add IntKind.i64 v (IntKind.i64.wrap ((bfillB_c1 b r p v q t n) / IntKind.u64.wrap p % 18446744073709551616))), i64 (IntKind.i64.wrap ((bfillB_c1 b r p v q t n) % IntKind.u64.wrap p)), u64 n], [cmpI BinOp.geq (bfillB_c3 b r p v q t n) 0 = false, 0 ≤ (bfillB_c5 b r p v q t n) / IntKind.u64.wrap p % 18446744073709551616, (bfillB_c5 b r p v q t n) / IntKind.u64.wrap p % 18446744073709551616 < 18446744073709551616, 0 ≤ IntKind.u64.wrap (opI BinOp.sub IntKind.i64 b v), IntKind.u64.wrap (opI BinOp.sub IntKind.i64 b v) < 18446744073709551616, 0 < IntKind.u64.wrap p, IntKind.u64.wrap p < 4294967296, 0 ≤ (bfillB_c4 b r p v q t n) / 18446744073709551616, (bfillB_c4 b r p v q t n) / 18446744073709551616 < 18446744073709551616, 0 ≤ (bfillB_c4 b r p v q t n) % 18446744073709551616, (bfillB_c4 b r p v q t n) % 18446744073709551616 < 18446744073709551616, 0 ≤ opI BinOp.sub IntKind.u64 n t * IntKind.u64.wrap r / 18446744073709551616, opI BinOp.sub IntKind.u64 n t * IntKind.u64.wrap r / 18446744073709551616 < 18446744073709551616, 0 ≤ opI BinOp.sub IntKind.u64 n t * IntKind.u64.wrap r % 18446744073709551616, opI BinOp.sub IntKind.u64 n t * IntKind.u64.wrap r % 18446744073709551616 < 18446744073709551616, (0 : Int) ≤ (0 : Int), (0 : Int) < (18446744073709551616 : Int), 0 ≤ IntKind.u64.wrap q, IntKind.u64.wrap q < 18446744073709551616, 0 ≤ opI BinOp.sub IntKind.u64 n t, opI BinOp.sub IntKind.u64 n t < 18446744073709551616, 0 ≤ IntKind.u64.wrap r, IntKind.u64.wrap r < 18446744073709551616, cmpI BinOp.lss n t = false]) := by kernel_rfl
theorem bfillB_calls (b r p v q t n : Int) (res : D)
  (h0 : ((cmpI BinOp.lss n t) = true) → (True) ∧ res = D.agg [i64 b, i64 r, i64 p, i64 v, i64 q, u64 t])
  (h1 : ((cmpI BinOp.lss n t) = false) → ((cmpI BinOp.geq (bfillB_c3 b r p v q t n) 0) = true) → ((0 ≤ (bfillB_c5 b r p v q t n) / IntKind.u64.wrap p % 18446744073709551616) ∧ ((bfillB_c5 b r p v q t n) / IntKind.u64.wrap p % 18446744073709551616 < 18446744073709551616) ∧ (0 ≤ IntKind.u64.wrap (opI BinOp.sub IntKind.i64 b v)) ∧ (IntKind.u64.wrap (opI BinOp.sub IntKind.i64 b v) < 18446744073709551616) ∧ (0 < IntKind.u64.wrap p) ∧ (IntKind.u64.wrap p < 4294967296) ∧ (0 ≤ (bfillB_c4 b r p v q t n) / 18446744073709551616) ∧ ((bfillB_c4 b r p v q t n) / 18446744073709551616 < 18446744073709551616) ∧ (0 ≤ (bfillB_c4 b r p v q t n) % 18446744073709551616) ∧ ((bfillB_c4 b r p v q t n) % 18446744073709551616 < 18446744073709551616) ∧ (0 ≤ opI BinOp.sub IntKind.u64 n t * IntKind.u64.wrap r / 18446744073709551616) ∧ (opI BinOp.sub IntKind.u64 n t * IntKind.u64.wrap r / 18446744073709551616 < 18446744073709551616) ∧ (0 ≤ opI BinOp.sub IntKind.u64 n t * IntKind.u64.wrap r % 18446744073709551616) ∧ (opI BinOp.sub IntKind.u64 n t * IntKind.u64.wrap r % 18446744073709551616 < 18446744073709551616) ∧ ((0 : Int) ≤ (0 : Int)) ∧ ((0 : Int) < (18446744073709551616 : Int)) ∧ (0 ≤ IntKind.u64.wrap q) ∧ (IntKind.u64.wrap q < 18446744073709551616) ∧ (0 ≤ opI BinOp.sub IntKind.u64 n t) ∧ (opI BinOp.sub IntKind.u64 n t < 18446744073709551616) ∧ (0 ≤ IntKind.u64.wrap r) ∧ (IntKind.u64.wrap r < 18446744073709551616) ∧ True) ∧ res = D.agg [i64 b, i64 r, i64 p, i64 b, i64 0, u64 n])
  (h2 : ((cmpI BinOp.lss n t) = false) → ((cmpI BinOp.geq (bfillB_c3 b r p v q t n) 0) = false) → ((0 ≤ (bfillB_c5 b r p v q t n) / IntKind.u64.wrap p % 18446744073709551616) ∧ ((bfillB_c5 b r p v q t n) / IntKind.u64.wrap p % 18446744073709551616 < 18446744073709551616) ∧ (0 ≤ IntKind.u64.wrap (opI BinOp.sub IntKind.i64 b v)) ∧ (IntKind.u64.wrap (opI BinOp.sub IntKind.i64 b v) < 18446744073709551616) ∧ (0 < IntKind.u64.wrap p) ∧ (IntKind.u64.wrap p < 4294967296) ∧ (0 ≤ (bfillB_c4 b r p v q t n) / 18446744073709551616) ∧ ((bfillB_c4 b r p v q t n) / 18446744073709551616 < 18446744073709551616) ∧ (0 ≤ (bfillB_c4 b r p v q t n) % 18446744073709551616) ∧ ((bfillB_c4 b r p v q t n) % 18446744073709551616 < 18446744073709551616) ∧ (0 ≤ opI BinOp.sub IntKind.u64 n t * IntKind.u64.wrap r / 18446744073709551616) ∧ (opI BinOp.sub IntKind.u64 n t * IntKind.u64.wrap r / 18446744073709551616 < 18446744073709551616) ∧ (0 ≤ opI BinOp.sub IntKind.u64 n t * IntKind.u64.wrap r % 18446744073709551616) ∧ (opI BinOp.sub IntKind.u64 n t * IntKind.u64.wrap r % 18446744073709551616 < 18446744073709551616) ∧ ((0 : Int) ≤ (0 : Int)) ∧ ((0 : Int) < (18446744073709551616 : Int)) ∧ (0 ≤ IntKind.u64.wrap q) ∧ (IntKind.u64.wrap q < 18446744073709551616) ∧ (0 ≤ opI BinOp.sub IntKind.u64 n t) ∧ (opI BinOp.sub IntKind.u64 n t < 18446744073709551616) ∧ (0 ≤ IntKind.u64.wrap r) ∧ (IntKind.u64.wrap r < 18446744073709551616) ∧ True) ∧ res = D.agg [i64 b, i64 r, i64 p, i64 (opI BinOp.add IntKind.i64 v (IntKind.i64.wrap ((bfillB_c1 b r p v q t n) / IntKind.u64.wrap p % 18446744073709551616))), i64 (IntKind.i64.wrap ((bfillB_c1 b r p v q t n) % IntKind.u64.wrap p)), u64 n]) : CallsD Try.prog 58 [D.agg [i64 b, i64 r, i64 p, i64 v, i64 q, u64 t], u64 n] res := by
  cases e0 : (cmpI BinOp.lss n t) with
  | true =>
    exact of_path hX21 (bfillB_p0 b r p v q t n) ⟨e0, trivial⟩ (h0 e0).2
  | false =>
    cases e1 : (cmpI BinOp.geq (bfillB_c3 b r p v q t n) 0) with
    | true =>
      exact of_path hX21 (bfillB_p1 b r p v q t n) ⟨e1, (h1 e0 e1).1.1, (h1 e0 e1).1.2.1, (h1 e0 e1).1.2.2.1, (h1 e0 e1).1.2.2.2.1, (h1 e0 e1).1.2.2.2.2.1, (h1 e0 e1).1.2.2.2.2.2.1, (h1 e0 e1).1.2.2.2.2.2.2.1, (h1 e0 e1).1.2.2.2.2.2.2.2.1, (h1 e0 e1).1.2.2.2.2.2.2.2.2.1, (h1 e0 e1).1.2.2.2.2.2.2.2.2.2.1, (h1 e0 e1).1.2.2.2.2.2.2.2.2.2.2.1, (h1 e0 e1).1.2.2.2.2.2.2.2.2.2.2.2.1, (h1 e0 e1).1.2.2.2.2.2.2.2.2.2.2.2.2.1, (h1 e0 e1).1.2.2.2.2.2.2.2.2.2.2.2.2.2.1, (h1 e0 e1).1.2.2.2.2.2.2.2.2.2.2.2.2.2.2.1, (h1 e0 e1).1.2.2.2.2.2.2.2.2.2.2.2.2.2.2.2.1, (h1 e0 e1).1.2.2.2.2.2.2.2.2.2.2.2.2.2.2.2.2.1, (h1 e0 e1).1.2.2.2.2.2.2.2.2.2.2.2.2.2.2.2.2.2.1, (h1 e0 e1).1.2.2.2.2.2.2.2.2.2.2.2.2.2.2.2.2.2.2.1, (h1 e0 e1).1.2.2.2.2.2.2.2.2.2.2.2.2.2.2.2.2.2.2.2.1, (h1 e0 e1).1.2.2.2.2.2.2.2.2.2.2.2.2.2.2.2.2.2.2.2.2.1, (h1 e0 e1).1.2.2.2.2.2.2.2.2.2.2.2.2.2.2.2.2.2.2.2.2.2.1, e0, trivial⟩ (h1 e0 e1).2
    | false =>
      exact of_path hX21 (bfillB_p2 b r p v q t n) ⟨e1, (h2 e0 e1).1.1, (h2 e0 e1).1.2.1, (h2 e0 e1).1.2.2.1, (h2 e0 e1).1.2.2.2.1, (h2 e0 e1).1.2.2.2.2.1, (h2 e0 e1).1.2.2.2.2.2.1, (h2 e0 e1).1.2.2.2.2.2.2.1, (h2 e0 e1).1.2.2.2.2.2.2.2.1, (h2 e0 e1).1.2.2.2.2.2.2.2.2.1, (h2 e0 e1).1.2.2.2.2.2.2.2.2.2.1, (h2 e0 e1).1.2.2.2.2.2.2.2.2.2.2.1, (h2 e0 e1).1.2.2.2.2.2.2.2.2.2.2.2.1, (h2 e0 e1).1.2.2.2.2.2.2.2.2.2.2.2.2.1, (h2 e0 e1).1.2.2.2.2.2.2.2.2.2.2.2.2.2.1, (h2 e0 e1).1.2.2.2.2.2.2.2.2.2.2.2.2.2.2.1, (h2 e0 e1).1.2.2.2.2.2.2.2.2.2.2.2.2.2.2.2.1, (h2 e0 e1).1.2.2.2.2.2.2.2.2.2.2.2.2.2.2.2.2.1, (h2 e0 e1).1.2.2.2.2.2.2.2.2.2.2.2.2.2.2.2.2.2.1, (h2 e0 e1).1.2.2.2.2.2.2.2.2.2.2.2.2.2.2.2.2.2.2.1, (h2 e0 e1).1.2.2.2.2.2.2.2.2.2.2.2.2.2.2.2.2.2.2.2.1, (h2 e0 e1).1.2.2.2.2.2.2.2.2.2.2.2.2.2.2.2.2.2.2.2.2.1, (h2 e0 e1).1.2.2.2.2.2.2.2.2.2.2.2.2.2.2.2.2.2.2.2.2.2.1, e0, trivial⟩ (h2 e0 e1).2
theorem brefA_ok (b r p v q t n : Int) (h : bkE b r p v q = 0) (t0 : 0 ≤ t) (t1 : t < 18446744073709551616) (n0 : 0 ≤ n) (n1 : n < 18446744073709551616) :
    CallsD Try.prog 62 [.agg [i64 b, i64 r, i64 p, i64 v, i64 q, u64 t], u64 n] (.tup [.agg [i64 b, i64 r, i64 p, i64 (fiV b r p v q t n), i64 (fiQ b r p v q t n), u64 (fiT t n)], i64 0]) := by
  obtain ⟨hl, v0, vb, q0, qp, _⟩ := bkE_is h
  obtain ⟨b0, b1, r0, r1, p0, p1⟩ := limE_is hl
  refine brefA_calls b r p v q t n _ ?_ ?_
  · intro a; rw [neq_t] at a; exact absurd h a
  · intro _; exact ⟨⟨h, t0, t1, n0, n1, by omega, by omega, trivial⟩, rfl⟩
theorem bwaitA_ok (b r p v q t c : Int) (h : bkE b r p v q = 0) (t0 : 0 ≤ t) (t1 : t < 18446744073709551616) (c0 : 0 ≤ c) (c1 : c < 9223372036854775808) :
    CallsD Try.prog 40 [.agg [i64 b, i64 r, i64 p, i64 v, i64 q, u64 t], i64 c] (.tup [u64 (waN b r p v q t c), i64 0]) := by
  obtain ⟨hl, v0, vb, q0, qp, _⟩ := bkE_is h
  obtain ⟨b0, b1, r0, r1, p0, p1⟩ := limE_is hl
  by_cases hv : c ≤ v
  · refine bwaitA_calls b r p v q t c _ ?_ ?_ ?_ ?_ ?_ ?_ ?_ ?_
    · intro a; rw [neq_t] at a; exact absurd h a
    · intro _ a; rw [lss_t] at a; omega
    · intro _ _ _; refine ⟨⟨by omega, by omega, trivial⟩, ?_⟩; unfold waN; rw [if_pos hv]
    all_goals
      intro _ _ a; rw [leq_f] at a; omega
  by_cases hb : b < c ∨ r = 0
  · have hw : waN b r p v q t c = 18446744073709551615 := by unfold waN; rw [if_neg hv, if_pos hb]
    rw [hw]
    refine bwaitA_calls b r p v q t c _ ?_ ?_ ?_ ?_ ?_ ?_ ?_ ?_
    · intro a; rw [neq_t] at a; exact absurd h a
    · intro _ a; rw [lss_t] at a; omega
    · intro _ _ a; rw [leq_t] at a; omega
    · intros; exact ⟨⟨by omega, by omega, trivial⟩, rfl⟩
    · intros; exact ⟨⟨by omega, by omega, trivial⟩, rfl⟩
    all_goals
      intro _ _ _ a a2; rw [gtr_f] at a; rw [eql_f] at a2; omega
  have es : opI .sub .i64 c v = c - v := by rw [opI_sub, wrap_i64_of (by omega) (by omega)]
  have ws : IntKind.wrap .u64 (c - v) = c - v := wrap_u64_of (by omega) (by omega)
  have wr : IntKind.wrap .u64 r = r := wrap_u64_of (by omega) (by omega)
  have wp : IntKind.wrap .u64 p = p := wrap_u64_of (by omega) (by omega)
  have wq : IntKind.wrap .u64 q = q := wrap_u64_of (by omega) (by omega)
  have m0 : p ≤ (c - v) * p := by
    have := Int.mul_le_mul_of_nonneg_right (show 1 ≤ c - v by omega) (show 0 ≤ p by omega); omega
  have m1 : (c - v) * p ≤ 1000000000000000000 := by
    have h1 := Int.mul_le_mul_of_nonneg_right (show c - v ≤ 1000000000 by omega) (show 0 ≤ p by omega)
    omega
  have et : opI .sub .u64 18446744073709551615 t = 18446744073709551615 - t := by rw [opI_sub, wrap_u64_of (by omega) (by omega)]
  generalize hm : (c - v) * p = m at *
  have u0 : 0 ≤ upN (m - q) r := by
    have := Int.ediv_nonneg (show 0 ≤ m - q by omega) (show 0 ≤ r by omega)
    unfold upN; split <;> omega
  have u1 : upN (m - q) r ≤ m - q := by
    have e := Int.mul_ediv_add_emod (m - q) r
    have r0' := Int.emod_nonneg (m - q) (show r ≠ 0 by omega)
    have d0 := Int.ediv_nonneg (show 0 ≤ m - q by omega) (show 0 ≤ r by omega)
    have h1 := Int.mul_le_mul_of_nonneg_right (show 1 ≤ r by omega) d0
    unfold upN; split
    · omega
    · have : r * ((m - q) / r) = r * ((m - q) / r) := rfl
      omega
  have w : m / 18446744073709551616 * 18446744073709551616 + m % 18446744073709551616 = m := fold64' m
  have k2 : bwaitA_c2 b r p v q t c = m - q := by
    unfold bwaitA_c2; rw [wq, es, ws, wp, hm, w]; rw [if_pos (by omega)]; omega
  have k0 : bwaitA_c0 b r p v q t c = m - q := by
    unfold bwaitA_c0; rw [wq, es, ws, wp, hm, w]; rw [if_pos (by omega)]; omega
  have k3 : bwaitA_c3 b r p v q t c = m - q := by unfold bwaitA_c3; rw [k2]; exact fold64' _
  have k1 : bwaitA_c1 b r p v q t c = m - q := by unfold bwaitA_c1; rw [k0]; exact fold64' _
  have k4 : bwaitA_c4 b r p v q t c = 0 := by unfold bwaitA_c4; rw [k3, wr, if_pos (by omega)]
  have k5 : bwaitA_c5 b r p v q t c = upN (m - q) r := by unfold bwaitA_c5; rw [k3, k1, wr, if_pos (by omega)]; omega
  have hw : waN b r p v q t c = if 18446744073709551615 - t < upN (m - q) r then 18446744073709551615 else upN (m - q) r := by unfold waN; rw [if_neg hv, if_neg hb, hm]
  rw [hw]
  refine bwaitA_calls b r p v q t c _ ?_ ?_ ?_ ?_ ?_ ?_ ?_ ?_
  · intro a; rw [neq_t] at a; exact absurd h a
  · intro _ a; rw [lss_t] at a; omega
  · intro _ _ a; rw [leq_t] at a; omega
  · intro _ _ _ a; rw [gtr_t] at a; omega
  · intro _ _ _ _ a; rw [eql_t] at a; omega
  · intro _ _ _ _ _ a; rw [k4, neq_t] at a; exact absurd rfl a
  · intro _ _ _ _ _ _ a; unfold bwaitA_c6 at a; rw [k5, et, gtr_t] at a; rw [if_pos a]
    simp only [k2, k3, es, ws, wp, wq, wr, hm]
    exact ⟨by simp only [and_true]; omega, trivial⟩
  · intro _ _ _ _ _ _ a; unfold bwaitA_c6 at a; rw [k5, et, gtr_f] at a; rw [if_neg (by omega)]
    simp only [k2, k3, k5, es, ws, wp, wq, wr, hm]
    exact ⟨by simp only [and_true]; omega, trivial⟩
end MeterS

namespace MeterS
open Go Go.Dam Go.Proofs
set_option maxRecDepth 1000000
set_option linter.unusedVariables false
set_option linter.unusedSectionVars false
set_option linter.unusedSimpArgs false
variable [Glo]
def reC : List D → Option (D × List Prop)
  | [.agg [.v (.int .i64 b), .v (.int .i64 r), .v (.int .i64 p), .v (.int .i64 v), .v (.int .i64 q), .v (.int .u64 t)], .v (.int .u64 n)] => some (.tup [.agg [i64 b, i64 r, i64 p, i64 (fiV b r p v q t n), i64 (fiQ b r p v q t n), u64 (fiT t n)], i64 0], [bkE b r p v q = 0, 0 ≤ t, t < 18446744073709551616, 0 ≤ n, n < 18446744073709551616])
  | _ => none
theorem reC_ok (args res l) (h : reC args = some (res, l)) (hl : AllP l) : CallsD Try.prog 62 args res := by
  unfold reC at h; split at h
  · simp only [Option.some.injEq, Prod.mk.injEq] at h
    obtain ⟨rfl, rfl⟩ := h; obtain ⟨h0, h1, h2, h3, h4, _⟩ := hl
    exact brefA_ok _ _ _ _ _ _ _ h0 h1 h2 h3 h4
  · cases h
def waC : List D → Option (D × List Prop)
  | [.agg [.v (.int .i64 b), .v (.int .i64 r), .v (.int .i64 p), .v (.int .i64 v), .v (.int .i64 q), .v (.int .u64 t)], .v (.int .i64 c)] => some (.tup [u64 (waN b r p v q t c), i64 0], [bkE b r p v q = 0, 0 ≤ t, t < 18446744073709551616, 0 ≤ c, c < 9223372036854775808])
  | _ => none
theorem waC_ok (args res l) (h : waC args = some (res, l)) (hl : AllP l) : CallsD Try.prog 40 args res := by
  unfold waC at h; split at h
  · simp only [Option.some.injEq, Prod.mk.injEq] at h
    obtain ⟨rfl, rfl⟩ := h; obtain ⟨h0, h1, h2, h3, h4, _⟩ := hl
    exact bwaitA_ok _ _ _ _ _ _ _ h0 h1 h2 h3 h4
  · cases h
def X22 : Contracts := addCon 62 (.call reC) (addCon 40 (.call waC) X21)
theorem hX22 : ConOK Try.prog X22 := addCall_ok reC_ok (addCall_ok waC_ok hX21)
/-- Three buckets. -/
abbrev bk1 (b r p v q t : Int) : List D := [i64 b, i64 r, i64 p, i64 v, i64 q, u64 t]
end MeterS

namespace MeterS
open Go Go.Dam Go.Proofs
set_option maxRecDepth 1000000
set_option linter.unusedVariables false
set_option linter.unusedSectionVars false
set_option linter.unusedSimpArgs false
/-- The error of three buckets, by theirs. -/
def ck3 (e f g : Int) : Int := if e = 0 then (if f = 0 then g else f) else e
/-- Do three levels hold a cost? -/
def tk3 (c x y z : Int) : Bool := decide (c ≤ x) && (decide (c ≤ y) && decide (c ≤ z))
def lv (k : Bool) (x c : Int) : Int := if k = true then x - c else x
def mx3 (x y z : Int) : Int := max (max (max 0 x) y) z
theorem tk3_iff {c x y z : Int} : tk3 c x y z = true ↔ c ≤ x ∧ c ≤ y ∧ c ≤ z := by simp [tk3]
/-- A filled bucket is valid. -/
theorem fi_ok {b r p v q t n : Int} (h : bkE b r p v q = 0) (t0 : 0 ≤ t) (n0 : 0 ≤ n) : bkE b r p (fiV b r p v q t n) (fiQ b r p v q t n) = 0 := by
  obtain ⟨hl, v0, vb, q0, qp, hq⟩ := bkE_is h
  obtain ⟨b0, b1, r0, r1, p0, p1⟩ := limE_is hl
  unfold fiV fiQ
  by_cases hn : n ≤ t
  · rw [if_pos hn, if_pos hn]; exact h
  rw [if_neg hn, if_neg hn]
  have i0 : 0 ≤ inN r q t n := by
    unfold inN
    have := Int.mul_nonneg (show 0 ≤ n - t by omega) r0
    omega
  by_cases hb : b - v ≤ inN r q t n / p
  · rw [if_pos hb, if_pos hb]; unfold bkE; rw [if_pos]; exact ⟨hl, by omega, by omega, by omega, by omega, by omega⟩
  · rw [if_neg hb, if_neg hb]
    have d0 := Int.ediv_nonneg i0 (show 0 ≤ p by omega)
    have e0 := Int.emod_nonneg (inN r q t n) (show p ≠ 0 by omega)
    have e1 := Int.emod_lt_of_pos (inN r q t n) (show 0 < p by omega)
    unfold bkE; rw [if_pos]; exact ⟨hl, by omega, by omega, by omega, by omega, by omega⟩
theorem lv_ok {b r p v q c : Int} {k : Bool} (h : bkE b r p v q = 0) (c0 : 0 ≤ c) (hk : k = true → c ≤ v) : bkE b r p (lv k v c) q = 0 := by
  unfold lv
  split
  next e =>
    have := hk e
    obtain ⟨hl, v0, vb, q0, qp, hq⟩ := bkE_is h
    unfold bkE; rw [if_pos]; exact ⟨hl, by omega, by omega, by omega, by omega, by omega⟩
  next => exact h
theorem fiT_in {t n : Int} (t0 : 0 ≤ t) (t1 : t < 18446744073709551616) (n0 : 0 ≤ n) (n1 : n < 18446744073709551616) : 0 ≤ fiT t n ∧ fiT t n < 18446744073709551616 := by unfold fiT; split <;> omega
theorem fi_in {b r p v q t n : Int} (h : bkE b r p v q = 0) (t0 : 0 ≤ t) (n0 : 0 ≤ n) : 0 ≤ fiV b r p v q t n ∧ fiV b r p v q t n ≤ b ∧ b ≤ 1000000000 := by
  obtain ⟨hl, h1, h2, _⟩ := bkE_is (fi_ok h t0 n0)
  obtain ⟨b0, b1, _⟩ := limE_is hl
  exact ⟨h1, h2, b1⟩
variable [Glo]

theorem lchk_p0 (b r p v q t b1 r1 p1 v1 q1 t1 b2 r2 p2 v2 q2 t2 : Int) : fnX Try.prog X22 100000 [.c 0, PE.u, .c 0, .d true] 29 [D.sh 3 (bk1 b r p v q t ++ bk1 b1 r1 p1 v1 q1 t1 ++ bk1 b2 r2 p2 v2 q2 t2)] = some (i64 (bkE b r p v q), [cmpI BinOp.neq (bkE b r p v q) 0 = true, -9223372036854775808 ≤ v, v < 9223372036854775808]) := by kernel_rfl
theorem lchk_p1 (b r p v q t b1 r1 p1 v1 q1 t1 b2 r2 p2 v2 q2 t2 : Int) : fnX Try.prog X22 100000 [.c 0, PE.u, .c 0, .d false, .c 0, .d true] 29 [D.sh 3 (bk1 b r p v q t ++ bk1 b1 r1 p1 v1 q1 t1 ++ bk1 b2 r2 p2 v2 q2 t2)] = some (i64 (bkE b1 r1 p1 v1 q1), [cmpI BinOp.neq (bkE b1 r1 p1 v1 q1) 0 = true, -9223372036854775808 ≤ v1, v1 < 9223372036854775808, cmpI BinOp.neq (bkE b r p v q) 0 = false, -9223372036854775808 ≤ v, v < 9223372036854775808]) := by kernel_rfl
theorem lchk_p2 (b r p v q t b1 r1 p1 v1 q1 t1 b2 r2 p2 v2 q2 t2 : Int) : fnX Try.prog X22 100000 [.c 0, PE.u, .c 0, .d false, .c 0, .d false, .c 0, .d true] 29 [D.sh 3 (bk1 b r p v q t ++ bk1 b1 r1 p1 v1 q1 t1 ++ bk1 b2 r2 p2 v2 q2 t2)] = some (i64 (bkE b2 r2 p2 v2 q2), [cmpI BinOp.neq (bkE b2 r2 p2 v2 q2) 0 = true, -9223372036854775808 ≤ v2, v2 < 9223372036854775808, cmpI BinOp.neq (bkE b1 r1 p1 v1 q1) 0 = false, -9223372036854775808 ≤ v1, v1 < 9223372036854775808, cmpI BinOp.neq (bkE b r p v q) 0 = false, -9223372036854775808 ≤ v, v < 9223372036854775808]) := by kernel_rfl
theorem lchk_p3 (b r p v q t b1 r1 p1 v1 q1 t1 b2 r2 p2 v2 q2 t2 : Int) : fnX Try.prog X22 100000 [.c 0, PE.u, .c 0, .d false, .c 0, .d false, .c 0, .d false, .c 0, PE.u, .c 1] 29 [D.sh 3 (bk1 b r p v q t ++ bk1 b1 r1 p1 v1 q1 t1 ++ bk1 b2 r2 p2 v2 q2 t2)] = some (i64 0, [cmpI BinOp.neq (bkE b2 r2 p2 v2 q2) 0 = false, -9223372036854775808 ≤ v2, v2 < 9223372036854775808, cmpI BinOp.neq (bkE b1 r1 p1 v1 q1) 0 = false, -9223372036854775808 ≤ v1, v1 < 9223372036854775808, cmpI BinOp.neq (bkE b r p v q) 0 = false, -9223372036854775808 ≤ v, v < 9223372036854775808]) := by kernel_rfl
theorem lchk_calls (b r p v q t b1 r1 p1 v1 q1 t1 b2 r2 p2 v2 q2 t2 : Int) (res : D)
  (h0 : ((cmpI BinOp.neq (bkE b r p v q) 0) = true) → ((-9223372036854775808 ≤ v) ∧ (v < 9223372036854775808) ∧ True) ∧ res = i64 (bkE b r p v q))
  (h1 : ((cmpI BinOp.neq (bkE b r p v q) 0) = false) → ((cmpI BinOp.neq (bkE b1 r1 p1 v1 q1) 0) = true) → ((-9223372036854775808 ≤ v1) ∧ (v1 < 9223372036854775808) ∧ (-9223372036854775808 ≤ v) ∧ (v < 9223372036854775808) ∧ True) ∧ res = i64 (bkE b1 r1 p1 v1 q1))
  (h2 : ((cmpI BinOp.neq (bkE b r p v q) 0) = false) → ((cmpI BinOp.neq (bkE b1 r1 p1 v1 q1) 0) = false) → ((cmpI BinOp.neq (bkE b2 r2 p2 v2 q2) 0) = true) → ((-9223372036854775808 ≤ v2) ∧ (v2 < 9223372036854775808) ∧ (-9223372036854775808 ≤ v1) ∧ (v1 < 9223372036854775808) ∧ (-9223372036854775808 ≤ v) ∧ (v < 9223372036854775808) ∧ True) ∧ res = i64 (bkE b2 r2 p2 v2 q2))
  (h3 : ((cmpI BinOp.neq (bkE b r p v q) 0) = false) → ((cmpI BinOp.neq (bkE b1 r1 p1 v1 q1) 0) = false) → ((cmpI BinOp.neq (bkE b2 r2 p2 v2 q2) 0) = false) → ((-9223372036854775808 ≤ v2) ∧ (v2 < 9223372036854775808) ∧ (-9223372036854775808 ≤ v1) ∧ (v1 < 9223372036854775808) ∧ (-9223372036854775808 ≤ v) ∧ (v < 9223372036854775808) ∧ True) ∧ res = i64 0) : CallsD Try.prog 29 [D.sh 3 (bk1 b r p v q t ++ bk1 b1 r1 p1 v1 q1 t1 ++ bk1 b2 r2 p2 v2 q2 t2)] res := by
  cases e0 : (cmpI BinOp.neq (bkE b r p v q) 0) with
  | true =>
    exact of_path hX22 (lchk_p0 b r p v q t b1 r1 p1 v1 q1 t1 b2 r2 p2 v2 q2 t2) ⟨e0, (h0 e0).1.1, (h0 e0).1.2.1, trivial⟩ (h0 e0).2
  | false =>
    cases e1 : (cmpI BinOp.neq (bkE b1 r1 p1 v1 q1) 0) with
    | true =>
      exact of_path hX22 (lchk_p1 b r p v q t b1 r1 p1 v1 q1 t1 b2 r2 p2 v2 q2 t2) ⟨e1, (h1 e0 e1).1.1, (h1 e0 e1).1.2.1, e0, (h1 e0 e1).1.2.2.1, (h1 e0 e1).1.2.2.2.1, trivial⟩ (h1 e0 e1).2
    | false =>
      cases e2 : (cmpI BinOp.neq (bkE b2 r2 p2 v2 q2) 0) with
      | true =>
        exact of_path hX22 (lchk_p2 b r p v q t b1 r1 p1 v1 q1 t1 b2 r2 p2 v2 q2 t2) ⟨e2, (h2 e0 e1 e2).1.1, (h2 e0 e1 e2).1.2.1, e1, (h2 e0 e1 e2).1.2.2.1, (h2 e0 e1 e2).1.2.2.2.1, e0, (h2 e0 e1 e2).1.2.2.2.2.1, (h2 e0 e1 e2).1.2.2.2.2.2.1, trivial⟩ (h2 e0 e1 e2).2
      | false =>
        exact of_path hX22 (lchk_p3 b r p v q t b1 r1 p1 v1 q1 t1 b2 r2 p2 v2 q2 t2) ⟨e2, (h3 e0 e1 e2).1.1, (h3 e0 e1 e2).1.2.1, e1, (h3 e0 e1 e2).1.2.2.1, (h3 e0 e1 e2).1.2.2.2.1, e0, (h3 e0 e1 e2).1.2.2.2.2.1, (h3 e0 e1 e2).1.2.2.2.2.2.1, trivial⟩ (h3 e0 e1 e2).2

theorem ltake_p0 (b r p v q t b1 r1 p1 v1 q1 t1 b2 r2 p2 v2 q2 t2 n c : Int) : fnX Try.prog X22 100000 [.c 0, PE.u, .c 3, PE.u, .c 0, .d true, .c 0] 39 [D.sh 3 (bk1 b r p v q t ++ bk1 b1 r1 p1 v1 q1 t1 ++ bk1 b2 r2 p2 v2 q2 t2), u64 n, i64 c] = some (D.tup [D.ow 3 6 [i64 b, i64 r, i64 p, i64 (fiV b r p v q t n), i64 (fiQ b r p v q t n), u64 (fiT t n), i64 b1, i64 r1, i64 p1, i64 (fiV b1 r1 p1 v1 q1 t1 n), i64 (fiQ b1 r1 p1 v1 q1 t1 n), u64 (fiT t1 n), i64 b2, i64 r2, i64 p2, i64 (fiV b2 r2 p2 v2 q2 t2 n), i64 (fiQ b2 r2 p2 v2 q2 t2 n), u64 (fiT t2 n)], bo false], [cmpI BinOp.lss (fiV b r p v q t n) c = true, bkE b2 r2 p2 v2 q2 = 0, 0 ≤ t2, t2 < 18446744073709551616, 0 ≤ n, n < 18446744073709551616, bkE b1 r1 p1 v1 q1 = 0, 0 ≤ t1, t1 < 18446744073709551616, 0 ≤ n, n < 18446744073709551616, bkE b r p v q = 0, 0 ≤ t, t < 18446744073709551616, 0 ≤ n, n < 18446744073709551616]) := by kernel_rfl
theorem ltake_p1 (b r p v q t b1 r1 p1 v1 q1 t1 b2 r2 p2 v2 q2 t2 n c : Int) : fnX Try.prog X22 100000 [.c 0, PE.u, .c 3, PE.u, .c 0, .d false, .c 0, .d true, .c 0] 39 [D.sh 3 (bk1 b r p v q t ++ bk1 b1 r1 p1 v1 q1 t1 ++ bk1 b2 r2 p2 v2 q2 t2), u64 n, i64 c] = some (D.tup [D.ow 3 6 [i64 b, i64 r, i64 p, i64 (fiV b r p v q t n), i64 (fiQ b r p v q t n), u64 (fiT t n), i64 b1, i64 r1, i64 p1, i64 (fiV b1 r1 p1 v1 q1 t1 n), i64 (fiQ b1 r1 p1 v1 q1 t1 n), u64 (fiT t1 n), i64 b2, i64 r2, i64 p2, i64 (fiV b2 r2 p2 v2 q2 t2 n), i64 (fiQ b2 r2 p2 v2 q2 t2 n), u64 (fiT t2 n)], bo false], [cmpI BinOp.lss (fiV b1 r1 p1 v1 q1 t1 n) c = true, cmpI BinOp.lss (fiV b r p v q t n) c = false, bkE b2 r2 p2 v2 q2 = 0, 0 ≤ t2, t2 < 18446744073709551616, 0 ≤ n, n < 18446744073709551616, bkE b1 r1 p1 v1 q1 = 0, 0 ≤ t1, t1 < 18446744073709551616, 0 ≤ n, n < 18446744073709551616, bkE b r p v q = 0, 0 ≤ t, t < 18446744073709551616, 0 ≤ n, n < 18446744073709551616]) := by kernel_rfl
theorem ltake_p2 (b r p v q t b1 r1 p1 v1 q1 t1 b2 r2 p2 v2 q2 t2 n c : Int) : fnX Try.prog X22 100000 [.c 0, PE.u, .c 3, PE.u, .c 0, .d false, .c 0, .d false, .c 0, .d true, .c 0] 39 [D.sh 3 (bk1 b r p v q t ++ bk1 b1 r1 p1 v1 q1 t1 ++ bk1 b2 r2 p2 v2 q2 t2), u64 n, i64 c] = some (D.tup [D.ow 3 6 [i64 b, i64 r, i64 p, i64 (fiV b r p v q t n), i64 (fiQ b r p v q t n), u64 (fiT t n), i64 b1, i64 r1, i64 p1, i64 (fiV b1 r1 p1 v1 q1 t1 n), i64 (fiQ b1 r1 p1 v1 q1 t1 n), u64 (fiT t1 n), i64 b2, i64 r2, i64 p2, i64 (fiV b2 r2 p2 v2 q2 t2 n), i64 (fiQ b2 r2 p2 v2 q2 t2 n), u64 (fiT t2 n)], bo false], [cmpI BinOp.lss (fiV b2 r2 p2 v2 q2 t2 n) c = true, cmpI BinOp.lss (fiV b1 r1 p1 v1 q1 t1 n) c = false, cmpI BinOp.lss (fiV b r p v q t n) c = false, bkE b2 r2 p2 v2 q2 = 0, 0 ≤ t2, t2 < 18446744073709551616, 0 ≤ n, n < 18446744073709551616, bkE b1 r1 p1 v1 q1 = 0, 0 ≤ t1, t1 < 18446744073709551616, 0 ≤ n, n < 18446744073709551616, bkE b r p v q = 0, 0 ≤ t, t < 18446744073709551616, 0 ≤ n, n < 18446744073709551616]) := by kernel_rfl
theorem ltake_p3 (b r p v q t b1 r1 p1 v1 q1 t1 b2 r2 p2 v2 q2 t2 n c : Int) : fnX Try.prog X22 100000 [.c 0, PE.u, .c 3, PE.u, .c 0, .d false, .c 0, .d false, .c 0, .d false, .c 1, PE.u, .c 3] 39 [D.sh 3 (bk1 b r p v q t ++ bk1 b1 r1 p1 v1 q1 t1 ++ bk1 b2 r2 p2 v2 q2 t2), u64 n, i64 c] = some (D.tup [D.ow 3 6 [i64 b, i64 r, i64 p, i64 (opI BinOp.sub IntKind.i64 (fiV b r p v q t n) c), i64 (fiQ b r p v q t n), u64 (fiT t n), i64 b1, i64 r1, i64 p1, i64 (opI BinOp.sub IntKind.i64 (fiV b1 r1 p1 v1 q1 t1 n) c), i64 (fiQ b1 r1 p1 v1 q1 t1 n), u64 (fiT t1 n), i64 b2, i64 r2, i64 p2, i64 (opI BinOp.sub IntKind.i64 (fiV b2 r2 p2 v2 q2 t2 n) c), i64 (fiQ b2 r2 p2 v2 q2 t2 n), u64 (fiT t2 n)], bo true], [cmpI BinOp.lss (fiV b2 r2 p2 v2 q2 t2 n) c = false, cmpI BinOp.lss (fiV b1 r1 p1 v1 q1 t1 n) c = false, cmpI BinOp.lss (fiV b r p v q t n) c = false, bkE b2 r2 p2 v2 q2 = 0, 0 ≤ t2, t2 < 18446744073709551616, 0 ≤ n, n < 18446744073709551616, bkE b1 r1 p1 v1 q1 = 0, 0 ≤ t1, t1 < 18446744073709551616, 0 ≤ n, n < 18446744073709551616, bkE b r p v q = 0, 0 ≤ t, t < 18446744073709551616, 0 ≤ n, n < 18446744073709551616]) := by kernel_rfl
theorem ltake_calls (b r p v q t b1 r1 p1 v1 q1 t1 b2 r2 p2 v2 q2 t2 n c : Int) (res : D)
  (h0 : ((cmpI BinOp.lss (fiV b r p v q t n) c) = true) → ((bkE b2 r2 p2 v2 q2 = 0) ∧ (0 ≤ t2) ∧ (t2 < 18446744073709551616) ∧ (0 ≤ n) ∧ (n < 18446744073709551616) ∧ (bkE b1 r1 p1 v1 q1 = 0) ∧ (0 ≤ t1) ∧ (t1 < 18446744073709551616) ∧ (0 ≤ n) ∧ (n < 18446744073709551616) ∧ (bkE b r p v q = 0) ∧ (0 ≤ t) ∧ (t < 18446744073709551616) ∧ (0 ≤ n) ∧ (n < 18446744073709551616) ∧ True) ∧ res = D.tup [D.ow 3 6 [i64 b, i64 r, i64 p, i64 (fiV b r p v q t n), i64 (fiQ b r p v q t n), u64 (fiT t n), i64 b1, i64 r1, i64 p1, i64 (fiV b1 r1 p1 v1 q1 t1 n), i64 (fiQ b1 r1 p1 v1 q1 t1 n), u64 (fiT t1 n), i64 b2, i64 r2, i64 p2, i64 (fiV b2 r2 p2 v2 q2 t2 n), i64 (fiQ b2 r2 p2 v2 q2 t2 n), u64 (fiT t2 n)], bo false])
  (h1 : ((cmpI BinOp.lss (fiV b r p v q t n) c) = false) → ((cmpI BinOp.lss (fiV b1 r1 p1 v1 q1 t1 n) c) = true) → ((bkE b2 r2 p2 v2 q2 = 0) ∧ (0 ≤ t2) ∧ (t2 < 18446744073709551616) ∧ (0 ≤ n) ∧ (n < 18446744073709551616) ∧ (bkE b1 r1 p1 v1 q1 = 0) ∧ (0 ≤ t1) ∧ (t1 < 18446744073709551616) ∧ (0 ≤ n) ∧ (n < 18446744073709551616) ∧ (bkE b r p v q = 0) ∧ (0 ≤ t) ∧ (t < 18446744073709551616) ∧ (0 ≤ n) ∧ (n < 18446744073709551616) ∧ True) ∧ res = D.tup [D.ow 3 6 [i64 b, i64 r, i64 p, i64 (fiV b r p v q t n), i64 (fiQ b r p v q t n), u64 (fiT t n), i64 b1, i64 r1, i64 p1, i64 (fiV b1 r1 p1 v1 q1 t1 n), i64 (fiQ b1 r1 p1 v1 q1 t1 n), u64 (fiT t1 n), i64 b2, i64 r2, i64 p2, i64 (fiV b2 r2 p2 v2 q2 t2 n), i64 (fiQ b2 r2 p2 v2 q2 t2 n), u64 (fiT t2 n)], bo false])
  (h2 : ((cmpI BinOp.lss (fiV b r p v q t n) c) = false) → ((cmpI BinOp.lss (fiV b1 r1 p1 v1 q1 t1 n) c) = false) → ((cmpI BinOp.lss (fiV b2 r2 p2 v2 q2 t2 n) c) = true) → ((bkE b2 r2 p2 v2 q2 = 0) ∧ (0 ≤ t2) ∧ (t2 < 18446744073709551616) ∧ (0 ≤ n) ∧ (n < 18446744073709551616) ∧ (bkE b1 r1 p1 v1 q1 = 0) ∧ (0 ≤ t1) ∧ (t1 < 18446744073709551616) ∧ (0 ≤ n) ∧ (n < 18446744073709551616) ∧ (bkE b r p v q = 0) ∧ (0 ≤ t) ∧ (t < 18446744073709551616) ∧ (0 ≤ n) ∧ (n < 18446744073709551616) ∧ True) ∧ res = D.tup [D.ow 3 6 [i64 b, i64 r, i64 p, i64 (fiV b r p v q t n), i64 (fiQ b r p v q t n), u64 (fiT t n), i64 b1, i64 r1, i64 p1, i64 (fiV b1 r1 p1 v1 q1 t1 n), i64 (fiQ b1 r1 p1 v1 q1 t1 n), u64 (fiT t1 n), i64 b2, i64 r2, i64 p2, i64 (fiV b2 r2 p2 v2 q2 t2 n), i64 (fiQ b2 r2 p2 v2 q2 t2 n), u64 (fiT t2 n)], bo false])
  (h3 : ((cmpI BinOp.lss (fiV b r p v q t n) c) = false) → ((cmpI BinOp.lss (fiV b1 r1 p1 v1 q1 t1 n) c) = false) → ((cmpI BinOp.lss (fiV b2 r2 p2 v2 q2 t2 n) c) = false) → ((bkE b2 r2 p2 v2 q2 = 0) ∧ (0 ≤ t2) ∧ (t2 < 18446744073709551616) ∧ (0 ≤ n) ∧ (n < 18446744073709551616) ∧ (bkE b1 r1 p1 v1 q1 = 0) ∧ (0 ≤ t1) ∧ (t1 < 18446744073709551616) ∧ (0 ≤ n) ∧ (n < 18446744073709551616) ∧ (bkE b r p v q = 0) ∧ (0 ≤ t) ∧ (t < 18446744073709551616) ∧ (0 ≤ n) ∧ (n < 18446744073709551616) ∧ True) ∧ res = D.tup [D.ow 3 6 [i64 b, i64 r, i64 p, i64 (opI BinOp.sub IntKind.i64 (fiV b r p v q t n) c), i64 (fiQ b r p v q t n), u64 (fiT t n), i64 b1, i64 r1, i64 p1, i64 (opI BinOp.sub IntKind.i64 (fiV b1 r1 p1 v1 q1 t1 n) c), i64 (fiQ b1 r1 p1 v1 q1 t1 n), u64 (fiT t1 n), i64 b2, i64 r2, i64 p2, i64 (opI BinOp.sub IntKind.i64 (fiV b2 r2 p2 v2 q2 t2 n) c), i64 (fiQ b2 r2 p2 v2 q2 t2 n), u64 (fiT t2 n)], bo true]) : CallsD Try.prog 39 [D.sh 3 (bk1 b r p v q t ++ bk1 b1 r1 p1 v1 q1 t1 ++ bk1 b2 r2 p2 v2 q2 t2), u64 n, i64 c] res := by
  cases e0 : (cmpI BinOp.lss (fiV b r p v q t n) c) with
  | true =>
    exact of_path hX22 (ltake_p0 b r p v q t b1 r1 p1 v1 q1 t1 b2 r2 p2 v2 q2 t2 n c) ⟨e0, (h0 e0).1.1, (h0 e0).1.2.1, (h0 e0).1.2.2.1, (h0 e0).1.2.2.2.1, (h0 e0).1.2.2.2.2.1, (h0 e0).1.2.2.2.2.2.1, (h0 e0).1.2.2.2.2.2.2.1, (h0 e0).1.2.2.2.2.2.2.2.1, (h0 e0).1.2.2.2.2.2.2.2.2.1, (h0 e0).1.2.2.2.2.2.2.2.2.2.1, (h0 e0).1.2.2.2.2.2.2.2.2.2.2.1, (h0 e0).1.2.2.2.2.2.2.2.2.2.2.2.1, (h0 e0).1.2.2.2.2.2.2.2.2.2.2.2.2.1, (h0 e0).1.2.2.2.2.2.2.2.2.2.2.2.2.2.1, (h0 e0).1.2.2.2.2.2.2.2.2.2.2.2.2.2.2.1, trivial⟩ (h0 e0).2
  | false =>
    cases e1 : (cmpI BinOp.lss (fiV b1 r1 p1 v1 q1 t1 n) c) with
    | true =>
      exact of_path hX22 (ltake_p1 b r p v q t b1 r1 p1 v1 q1 t1 b2 r2 p2 v2 q2 t2 n c) ⟨e1, e0, (h1 e0 e1).1.1, (h1 e0 e1).1.2.1, (h1 e0 e1).1.2.2.1, (h1 e0 e1).1.2.2.2.1, (h1 e0 e1).1.2.2.2.2.1, (h1 e0 e1).1.2.2.2.2.2.1, (h1 e0 e1).1.2.2.2.2.2.2.1, (h1 e0 e1).1.2.2.2.2.2.2.2.1, (h1 e0 e1).1.2.2.2.2.2.2.2.2.1, (h1 e0 e1).1.2.2.2.2.2.2.2.2.2.1, (h1 e0 e1).1.2.2.2.2.2.2.2.2.2.2.1, (h1 e0 e1).1.2.2.2.2.2.2.2.2.2.2.2.1, (h1 e0 e1).1.2.2.2.2.2.2.2.2.2.2.2.2.1, (h1 e0 e1).1.2.2.2.2.2.2.2.2.2.2.2.2.2.1, (h1 e0 e1).1.2.2.2.2.2.2.2.2.2.2.2.2.2.2.1, trivial⟩ (h1 e0 e1).2
    | false =>
      cases e2 : (cmpI BinOp.lss (fiV b2 r2 p2 v2 q2 t2 n) c) with
      | true =>
        exact of_path hX22 (ltake_p2 b r p v q t b1 r1 p1 v1 q1 t1 b2 r2 p2 v2 q2 t2 n c) ⟨e2, e1, e0, (h2 e0 e1 e2).1.1, (h2 e0 e1 e2).1.2.1, (h2 e0 e1 e2).1.2.2.1, (h2 e0 e1 e2).1.2.2.2.1, (h2 e0 e1 e2).1.2.2.2.2.1, (h2 e0 e1 e2).1.2.2.2.2.2.1, (h2 e0 e1 e2).1.2.2.2.2.2.2.1, (h2 e0 e1 e2).1.2.2.2.2.2.2.2.1, (h2 e0 e1 e2).1.2.2.2.2.2.2.2.2.1, (h2 e0 e1 e2).1.2.2.2.2.2.2.2.2.2.1, (h2 e0 e1 e2).1.2.2.2.2.2.2.2.2.2.2.1, (h2 e0 e1 e2).1.2.2.2.2.2.2.2.2.2.2.2.1, (h2 e0 e1 e2).1.2.2.2.2.2.2.2.2.2.2.2.2.1, (h2 e0 e1 e2).1.2.2.2.2.2.2.2.2.2.2.2.2.2.1, (h2 e0 e1 e2).1.2.2.2.2.2.2.2.2.2.2.2.2.2.2.1, trivial⟩ (h2 e0 e1 e2).2
      | false =>
        exact of_path hX22 (ltake_p3 b r p v q t b1 r1 p1 v1 q1 t1 b2 r2 p2 v2 q2 t2 n c) ⟨e2, e1, e0, (h3 e0 e1 e2).1.1, (h3 e0 e1 e2).1.2.1, (h3 e0 e1 e2).1.2.2.1, (h3 e0 e1 e2).1.2.2.2.1, (h3 e0 e1 e2).1.2.2.2.2.1, (h3 e0 e1 e2).1.2.2.2.2.2.1, (h3 e0 e1 e2).1.2.2.2.2.2.2.1, (h3 e0 e1 e2).1.2.2.2.2.2.2.2.1, (h3 e0 e1 e2).1.2.2.2.2.2.2.2.2.1, (h3 e0 e1 e2).1.2.2.2.2.2.2.2.2.2.1, (h3 e0 e1 e2).1.2.2.2.2.2.2.2.2.2.2.1, (h3 e0 e1 e2).1.2.2.2.2.2.2.2.2.2.2.2.1, (h3 e0 e1 e2).1.2.2.2.2.2.2.2.2.2.2.2.2.1, (h3 e0 e1 e2).1.2.2.2.2.2.2.2.2.2.2.2.2.2.1, (h3 e0 e1 e2).1.2.2.2.2.2.2.2.2.2.2.2.2.2.2.1, trivial⟩ (h3 e0 e1 e2).2
theorem lchk_ok (b r p v q t b1 r1 p1 v1 q1 t1 b2 r2 p2 v2 q2 t2 : Int) (h0 : -9223372036854775808 ≤ v) (h1 : v < 9223372036854775808) (h2 : -9223372036854775808 ≤ v1) (h3 : v1 < 9223372036854775808) (h4 : -9223372036854775808 ≤ v2) (h5 : v2 < 9223372036854775808) :
    CallsD Try.prog 29 [.sh 3 [i64 b, i64 r, i64 p, i64 v, i64 q, u64 t, i64 b1, i64 r1, i64 p1, i64 v1, i64 q1, u64 t1, i64 b2, i64 r2, i64 p2, i64 v2, i64 q2, u64 t2]] (i64 (ck3 (bkE b r p v q) (bkE b1 r1 p1 v1 q1) (bkE b2 r2 p2 v2 q2))) := by
  refine lchk_calls b r p v q t b1 r1 p1 v1 q1 t1 b2 r2 p2 v2 q2 t2 _ ?_ ?_ ?_ ?_
  all_goals
    simp only [neq_t, neq_f]
    intros
    refine ⟨by simp only [and_true]; omega, ?_⟩
    unfold ck3
    simp [*]
theorem ltake_ok (b r p v q t b1 r1 p1 v1 q1 t1 b2 r2 p2 v2 q2 t2 n c : Int) (h : bkE b r p v q = 0) (h' : bkE b1 r1 p1 v1 q1 = 0) (h'' : bkE b2 r2 p2 v2 q2 = 0)
    (t0 : 0 ≤ t) (u0 : t < 18446744073709551616) (t01 : 0 ≤ t1) (u01 : t1 < 18446744073709551616) (t02 : 0 ≤ t2) (u02 : t2 < 18446744073709551616) (n0 : 0 ≤ n) (n1 : n < 18446744073709551616) (c0 : 0 ≤ c) (c1 : c < 9223372036854775808) :
    CallsD Try.prog 39 [.sh 3 [i64 b, i64 r, i64 p, i64 v, i64 q, u64 t, i64 b1, i64 r1, i64 p1, i64 v1, i64 q1, u64 t1, i64 b2, i64 r2, i64 p2, i64 v2, i64 q2, u64 t2], u64 n, i64 c]
      (.tup [.ow 3 6 [i64 b, i64 r, i64 p, i64 (lv (tk3 c (fiV b r p v q t n) (fiV b1 r1 p1 v1 q1 t1 n) (fiV b2 r2 p2 v2 q2 t2 n)) (fiV b r p v q t n) c), i64 (fiQ b r p v q t n), u64 (fiT t n),
        i64 b1, i64 r1, i64 p1, i64 (lv (tk3 c (fiV b r p v q t n) (fiV b1 r1 p1 v1 q1 t1 n) (fiV b2 r2 p2 v2 q2 t2 n)) (fiV b1 r1 p1 v1 q1 t1 n) c), i64 (fiQ b1 r1 p1 v1 q1 t1 n), u64 (fiT t1 n),
        i64 b2, i64 r2, i64 p2, i64 (lv (tk3 c (fiV b r p v q t n) (fiV b1 r1 p1 v1 q1 t1 n) (fiV b2 r2 p2 v2 q2 t2 n)) (fiV b2 r2 p2 v2 q2 t2 n) c), i64 (fiQ b2 r2 p2 v2 q2 t2 n), u64 (fiT t2 n)], bo (tk3 c (fiV b r p v q t n) (fiV b1 r1 p1 v1 q1 t1 n) (fiV b2 r2 p2 v2 q2 t2 n))]) := by
  have a0 := fi_in h t0 n0
  have a1 := fi_in h' t01 n0
  have a2 := fi_in h'' t02 n0
  refine ltake_calls b r p v q t b1 r1 p1 v1 q1 t1 b2 r2 p2 v2 q2 t2 n c _ ?_ ?_ ?_ ?_
  all_goals
    generalize fiV b r p v q t n = x at *
    generalize fiV b1 r1 p1 v1 q1 t1 n = y at *
    generalize fiV b2 r2 p2 v2 q2 t2 n = z at *
    simp only [lss_t, lss_f]
    intros
    refine ⟨⟨h'', t02, u02, n0, n1, h', t01, u01, n0, n1, h, t0, u0, n0, n1, trivial⟩, ?_⟩
  · have k : tk3 c x y z = false := by rw [Bool.eq_false_iff]; intro e; rw [tk3_iff] at e; omega
    rw [k]; rfl
  · have k : tk3 c x y z = false := by rw [Bool.eq_false_iff]; intro e; rw [tk3_iff] at e; omega
    rw [k]; rfl
  · have k : tk3 c x y z = false := by rw [Bool.eq_false_iff]; intro e; rw [tk3_iff] at e; omega
    rw [k]; rfl
  · have k : tk3 c x y z = true := tk3_iff.2 (by omega)
    have e0 : opI .sub .i64 x c = x - c := by rw [opI_sub, wrap_i64_of (by omega) (by omega)]
    have e1 : opI .sub .i64 y c = y - c := by rw [opI_sub, wrap_i64_of (by omega) (by omega)]
    have e2 : opI .sub .i64 z c = z - c := by rw [opI_sub, wrap_i64_of (by omega) (by omega)]
    rw [k, e0, e1, e2]; rfl
def lckC : List D → Option (D × List Prop)
  | [.sh 3 [.v (.int .i64 b), .v (.int .i64 r), .v (.int .i64 p), .v (.int .i64 v), .v (.int .i64 q), .v (.int .u64 t), .v (.int .i64 b1), .v (.int .i64 r1), .v (.int .i64 p1), .v (.int .i64 v1), .v (.int .i64 q1), .v (.int .u64 t1), .v (.int .i64 b2), .v (.int .i64 r2), .v (.int .i64 p2), .v (.int .i64 v2), .v (.int .i64 q2), .v (.int .u64 t2)]] => some (i64 (ck3 (bkE b r p v q) (bkE b1 r1 p1 v1 q1) (bkE b2 r2 p2 v2 q2)), [-9223372036854775808 ≤ v, v < 9223372036854775808, -9223372036854775808 ≤ v1, v1 < 9223372036854775808, -9223372036854775808 ≤ v2, v2 < 9223372036854775808])
  | _ => none
theorem lckC_ok (args res l) (h : lckC args = some (res, l)) (hl : AllP l) : CallsD Try.prog 29 args res := by
  unfold lckC at h; split at h
  · simp only [Option.some.injEq, Prod.mk.injEq] at h
    obtain ⟨rfl, rfl⟩ := h; obtain ⟨h0, h1, h2, h3, h4, h5, _⟩ := hl
    exact lchk_ok _ _ _ _ _ _ _ _ _ _ _ _ _ _ _ _ _ _ h0 h1 h2 h3 h4 h5
  · cases h
def ltkC : List D → Option (D × List Prop)
  | [.sh 3 [.v (.int .i64 b), .v (.int .i64 r), .v (.int .i64 p), .v (.int .i64 v), .v (.int .i64 q), .v (.int .u64 t), .v (.int .i64 b1), .v (.int .i64 r1), .v (.int .i64 p1), .v (.int .i64 v1), .v (.int .i64 q1), .v (.int .u64 t1), .v (.int .i64 b2), .v (.int .i64 r2), .v (.int .i64 p2), .v (.int .i64 v2), .v (.int .i64 q2), .v (.int .u64 t2)], .v (.int .u64 n), .v (.int .i64 c)] => some ((.tup [.ow 3 6 [i64 b, i64 r, i64 p, i64 (lv (tk3 c (fiV b r p v q t n) (fiV b1 r1 p1 v1 q1 t1 n) (fiV b2 r2 p2 v2 q2 t2 n)) (fiV b r p v q t n) c), i64 (fiQ b r p v q t n), u64 (fiT t n), i64 b1, i64 r1, i64 p1, i64 (lv (tk3 c (fiV b r p v q t n) (fiV b1 r1 p1 v1 q1 t1 n) (fiV b2 r2 p2 v2 q2 t2 n)) (fiV b1 r1 p1 v1 q1 t1 n) c), i64 (fiQ b1 r1 p1 v1 q1 t1 n), u64 (fiT t1 n), i64 b2, i64 r2, i64 p2, i64 (lv (tk3 c (fiV b r p v q t n) (fiV b1 r1 p1 v1 q1 t1 n) (fiV b2 r2 p2 v2 q2 t2 n)) (fiV b2 r2 p2 v2 q2 t2 n) c), i64 (fiQ b2 r2 p2 v2 q2 t2 n), u64 (fiT t2 n)], bo (tk3 c (fiV b r p v q t n) (fiV b1 r1 p1 v1 q1 t1 n) (fiV b2 r2 p2 v2 q2 t2 n))]), [bkE b r p v q = 0, bkE b1 r1 p1 v1 q1 = 0, bkE b2 r2 p2 v2 q2 = 0, 0 ≤ t, t < 18446744073709551616, 0 ≤ t1, t1 < 18446744073709551616, 0 ≤ t2, t2 < 18446744073709551616, 0 ≤ n, n < 18446744073709551616, 0 ≤ c, c < 9223372036854775808])
  | _ => none
theorem ltkC_ok (args res l) (h : ltkC args = some (res, l)) (hl : AllP l) : CallsD Try.prog 39 args res := by
  unfold ltkC at h; split at h
  · simp only [Option.some.injEq, Prod.mk.injEq] at h
    obtain ⟨rfl, rfl⟩ := h; obtain ⟨h0, h1, h2, h3, h4, h5, h6, h7, h8, h9, h10, h11, h12, _⟩ := hl
    exact ltake_ok _ _ _ _ _ _ _ _ _ _ _ _ _ _ _ _ _ _ _ _ h0 h1 h2 h3 h4 h5 h6 h7 h8 h9 h10 h11 h12
  · cases h
def X23 : Contracts := addCon 29 (.call lckC) (addCon 39 (.call ltkC) X22)
theorem hX23 : ConOK Try.prog X23 := addCall_ok lckC_ok (addCall_ok ltkC_ok hX22)
end MeterS
