/- The functions of the folder audit and what they reach: what they compute. No condition. -/
import Derived.Test.YtpbngkempchamaaAuWD
set_option linter.unusedSectionVars false
set_option linter.unusedVariables false
set_option linter.unusedSimpArgs false
namespace MeterS
open Go Go.Dam Go.Proofs
set_option maxRecDepth 1000000
set_option linter.unusedVariables false
set_option linter.unusedSectionVars false
set_option linter.unusedSimpArgs false
/-- What has come in, in parts. -/
def inN (r q t n : Int) : Int := (n - t) * r + q
/-- The level and the part of a filled bucket. -/
def fiV (b r p v q t n : Int) : Int := if n ≤ t then v else if b - v ≤ inN r q t n / p then b else v + inN r q t n / p
def fiQ (b r p v q t n : Int) : Int := if n ≤ t then q else if b - v ≤ inN r q t n / p then 0 else inN r q t n % p
def fiT (t n : Int) : Int := if n ≤ t then t else n
theorem bkE_is {b r p v q : Int} (h : bkE b r p v q = 0) : limE b r p = 0 ∧ 0 ≤ v ∧ v ≤ b ∧ 0 ≤ q ∧ q < p ∧ ¬ (v = b ∧ 0 < q) := by
  unfold bkE at h; split at h
  · assumption
  · cases h
theorem mul_in {t r : Int} (t0 : 0 ≤ t) (t1 : t < 18446744073709551616) (r0 : 0 ≤ r) (r1 : r ≤ 1000000000) : 0 ≤ t * r ∧ t * r ≤ 18446744073709551615000000000 := by
  refine ⟨Int.mul_nonneg t0 r0, ?_⟩
  have := Int.mul_le_mul (show t ≤ 18446744073709551615 by omega) r1 r0 (by decide)
  exact this
variable [Glo]
theorem bfillA_p0 (b : Int) (r : Int) (p : Int) (v : Int) (q : Int) (t : Int) (n : Int) : fnX Try.prog X20 100000 [.d true] 73 [D.agg
    [D.v (Value.int IntKind.i64 b), D.v (Value.int IntKind.i64 r), D.v (Value.int IntKind.i64 p),
      D.v (Value.int IntKind.i64 v), D.v (Value.int IntKind.i64 q), D.v (Value.int IntKind.u64 t)],
  D.v (Value.int IntKind.u64 n)] = some (D.agg
  [D.v (Value.int IntKind.i64 b), D.v (Value.int IntKind.i64 r), D.v (Value.int IntKind.i64 p),
    D.v (Value.int IntKind.i64 v), D.v (Value.int IntKind.i64 q), D.v (Value.int IntKind.u64 t)], [cmpI BinOp.leq n t = true]) := by kernel_rfl
theorem bfillA_p1 (b : Int) (r : Int) (p : Int) (v : Int) (q : Int) (t : Int) (n : Int) : fnX Try.prog X20 100000 [.d false, .d true, .c 8] 73 [D.agg
    [D.v (Value.int IntKind.i64 b), D.v (Value.int IntKind.i64 r), D.v (Value.int IntKind.i64 p),
      D.v (Value.int IntKind.i64 v), D.v (Value.int IntKind.i64 q), D.v (Value.int IntKind.u64 t)],
  D.v (Value.int IntKind.u64 n)] = some (D.agg
  [D.v (Value.int IntKind.i64 b), D.v (Value.int IntKind.i64 r), D.v (Value.int IntKind.i64 p),
    D.v (Value.int IntKind.i64 b), D.v (Value.int IntKind.i64 0), D.v (Value.int IntKind.u64 n)], [cmpI BinOp.neq
    (if
        ((if
                        opI BinOp.sub IntKind.u64 n t * IntKind.u64.wrap r / 18446744073709551616 *
                                18446744073709551616 +
                              opI BinOp.sub IntKind.u64 n t * IntKind.u64.wrap r % 18446744073709551616 +
                            (0 * 18446744073709551616 + IntKind.u64.wrap q) <
                          340282366920938463463374607431768211456 then
                      opI BinOp.sub IntKind.u64 n t * IntKind.u64.wrap r / 18446744073709551616 * 18446744073709551616 +
                          opI BinOp.sub IntKind.u64 n t * IntKind.u64.wrap r % 18446744073709551616 +
                        (0 * 18446744073709551616 + IntKind.u64.wrap q)
                    else 0) /
                    18446744073709551616 *
                  18446744073709551616 +
                (if
                      opI BinOp.sub IntKind.u64 n t * IntKind.u64.wrap r / 18446744073709551616 * 18446744073709551616 +
                            opI BinOp.sub IntKind.u64 n t * IntKind.u64.wrap r % 18446744073709551616 +
                          (0 * 18446744073709551616 + IntKind.u64.wrap q) <
                        340282366920938463463374607431768211456 then
                    opI BinOp.sub IntKind.u64 n t * IntKind.u64.wrap r / 18446744073709551616 * 18446744073709551616 +
                        opI BinOp.sub IntKind.u64 n t * IntKind.u64.wrap r % 18446744073709551616 +
                      (0 * 18446744073709551616 + IntKind.u64.wrap q)
                  else 0) %
                  18446744073709551616) /
              IntKind.u64.wrap p /
            18446744073709551616 =
          0 then
      0
    else 16)
    0 =
  true,
  0 < IntKind.u64.wrap p,
  IntKind.u64.wrap p < 4294967296,
  0 ≤
  (if
        opI BinOp.sub IntKind.u64 n t * IntKind.u64.wrap r / 18446744073709551616 * 18446744073709551616 +
              opI BinOp.sub IntKind.u64 n t * IntKind.u64.wrap r % 18446744073709551616 +
            (0 * 18446744073709551616 + IntKind.u64.wrap q) <
          340282366920938463463374607431768211456 then
      opI BinOp.sub IntKind.u64 n t * IntKind.u64.wrap r / 18446744073709551616 * 18446744073709551616 +
          opI BinOp.sub IntKind.u64 n t * IntKind.u64.wrap r % 18446744073709551616 +
        (0 * 18446744073709551616 + IntKind.u64.wrap q)
    else 0) /
    18446744073709551616,
  (if
        opI BinOp.sub IntKind.u64 n t * IntKind.u64.wrap r / 18446744073709551616 * 18446744073709551616 +
              opI BinOp.sub IntKind.u64 n t * IntKind.u64.wrap r % 18446744073709551616 +
            (0 * 18446744073709551616 + IntKind.u64.wrap q) <
          340282366920938463463374607431768211456 then
      opI BinOp.sub IntKind.u64 n t * IntKind.u64.wrap r / 18446744073709551616 * 18446744073709551616 +
          opI BinOp.sub IntKind.u64 n t * IntKind.u64.wrap r % 18446744073709551616 +
        (0 * 18446744073709551616 + IntKind.u64.wrap q)
    else 0) /
    18446744073709551616 <
  18446744073709551616,
  0 ≤
  (if
        opI BinOp.sub IntKind.u64 n t * IntKind.u64.wrap r / 18446744073709551616 * 18446744073709551616 +
              opI BinOp.sub IntKind.u64 n t * IntKind.u64.wrap r % 18446744073709551616 +
            (0 * 18446744073709551616 + IntKind.u64.wrap q) <
          340282366920938463463374607431768211456 then
      opI BinOp.sub IntKind.u64 n t * IntKind.u64.wrap r / 18446744073709551616 * 18446744073709551616 +
          opI BinOp.sub IntKind.u64 n t * IntKind.u64.wrap r % 18446744073709551616 +
        (0 * 18446744073709551616 + IntKind.u64.wrap q)
    else 0) %
    18446744073709551616,
  (if
        opI BinOp.sub IntKind.u64 n t * IntKind.u64.wrap r / 18446744073709551616 * 18446744073709551616 +
              opI BinOp.sub IntKind.u64 n t * IntKind.u64.wrap r % 18446744073709551616 +
            (0 * 18446744073709551616 + IntKind.u64.wrap q) <
          340282366920938463463374607431768211456 then
      opI BinOp.sub IntKind.u64 n t * IntKind.u64.wrap r / 18446744073709551616 * 18446744073709551616 +
          opI BinOp.sub IntKind.u64 n t * IntKind.u64.wrap r % 18446744073709551616 +
        (0 * 18446744073709551616 + IntKind.u64.wrap q)
    else 0) %
    18446744073709551616 <
  18446744073709551616,
  0 ≤ opI BinOp.sub IntKind.u64 n t * IntKind.u64.wrap r / 18446744073709551616,
  opI BinOp.sub IntKind.u64 n t * IntKind.u64.wrap r / 18446744073709551616 < 18446744073709551616,
  0 ≤ opI BinOp.sub IntKind.u64 n t * IntKind.u64.wrap r % 18446744073709551616,
  opI BinOp.sub IntKind.u64 n t * IntKind.u64.wrap r % 18446744073709551616 < 18446744073709551616,
  (0 : Int) ≤ (0 : Int),
  (0 : Int) < (18446744073709551616 : Int),
  0 ≤ IntKind.u64.wrap q,
  IntKind.u64.wrap q < 18446744073709551616,
  0 ≤ opI BinOp.sub IntKind.u64 n t,
  opI BinOp.sub IntKind.u64 n t < 18446744073709551616,
  0 ≤ IntKind.u64.wrap r,
  IntKind.u64.wrap r < 18446744073709551616,
  cmpI BinOp.leq n t = false]) := by kernel_rfl
theorem bfillA_p2 (b : Int) (r : Int) (p : Int) (v : Int) (q : Int) (t : Int) (n : Int) : fnX Try.prog X20 100000 [.d false, .d false, .c 7, .d true] 73 [D.agg
    [D.v (Value.int IntKind.i64 b), D.v (Value.int IntKind.i64 r), D.v (Value.int IntKind.i64 p),
      D.v (Value.int IntKind.i64 v), D.v (Value.int IntKind.i64 q), D.v (Value.int IntKind.u64 t)],
  D.v (Value.int IntKind.u64 n)] = some (D.agg
  [D.v (Value.int IntKind.i64 b), D.v (Value.int IntKind.i64 r), D.v (Value.int IntKind.i64 p),
    D.v (Value.int IntKind.i64 b), D.v (Value.int IntKind.i64 0), D.v (Value.int IntKind.u64 n)], [cmpI BinOp.geq
    (if
        ((if
                        opI BinOp.sub IntKind.u64 n t * IntKind.u64.wrap r / 18446744073709551616 *
                                18446744073709551616 +
                              opI BinOp.sub IntKind.u64 n t * IntKind.u64.wrap r % 18446744073709551616 +
                            (0 * 18446744073709551616 + IntKind.u64.wrap q) <
                          340282366920938463463374607431768211456 then
                      opI BinOp.sub IntKind.u64 n t * IntKind.u64.wrap r / 18446744073709551616 * 18446744073709551616 +
                          opI BinOp.sub IntKind.u64 n t * IntKind.u64.wrap r % 18446744073709551616 +
                        (0 * 18446744073709551616 + IntKind.u64.wrap q)
                    else 0) /
                    18446744073709551616 *
                  18446744073709551616 +
                (if
                      opI BinOp.sub IntKind.u64 n t * IntKind.u64.wrap r / 18446744073709551616 * 18446744073709551616 +
                            opI BinOp.sub IntKind.u64 n t * IntKind.u64.wrap r % 18446744073709551616 +
                          (0 * 18446744073709551616 + IntKind.u64.wrap q) <
                        340282366920938463463374607431768211456 then
                    opI BinOp.sub IntKind.u64 n t * IntKind.u64.wrap r / 18446744073709551616 * 18446744073709551616 +
                        opI BinOp.sub IntKind.u64 n t * IntKind.u64.wrap r % 18446744073709551616 +
                      (0 * 18446744073709551616 + IntKind.u64.wrap q)
                  else 0) %
                  18446744073709551616) /
              IntKind.u64.wrap p /
            18446744073709551616 =
          0 then
      ((if
                    opI BinOp.sub IntKind.u64 n t * IntKind.u64.wrap r / 18446744073709551616 * 18446744073709551616 +
                          opI BinOp.sub IntKind.u64 n t * IntKind.u64.wrap r % 18446744073709551616 +
                        (0 * 18446744073709551616 + IntKind.u64.wrap q) <
                      340282366920938463463374607431768211456 then
                  opI BinOp.sub IntKind.u64 n t * IntKind.u64.wrap r / 18446744073709551616 * 18446744073709551616 +
                      opI BinOp.sub IntKind.u64 n t * IntKind.u64.wrap r % 18446744073709551616 +
                    (0 + IntKind.u64.wrap q)
                else 0) /
                18446744073709551616 *
              18446744073709551616 +
            (if
                  opI BinOp.sub IntKind.u64 n t * IntKind.u64.wrap r / 18446744073709551616 * 18446744073709551616 +
                        opI BinOp.sub IntKind.u64 n t * IntKind.u64.wrap r % 18446744073709551616 +
                      (0 * 18446744073709551616 + IntKind.u64.wrap q) <
                    340282366920938463463374607431768211456 then
                opI BinOp.sub IntKind.u64 n t * IntKind.u64.wrap r / 18446744073709551616 * 18446744073709551616 +
                    opI BinOp.sub IntKind.u64 n t * IntKind.u64.wrap r % 18446744073709551616 +
                  (0 + IntKind.u64.wrap q)
              else 0) %
              18446744073709551616) /
          IntKind.u64.wrap p %
        18446744073709551616
    else 0)
    (IntKind.u64.wrap (opI BinOp.sub IntKind.i64 b v)) =
  true,
  cmpI BinOp.neq
    (if
        ((if
                        opI BinOp.sub IntKind.u64 n t * IntKind.u64.wrap r / 18446744073709551616 *
                                18446744073709551616 +
                              opI BinOp.sub IntKind.u64 n t * IntKind.u64.wrap r % 18446744073709551616 +
                            (0 * 18446744073709551616 + IntKind.u64.wrap q) <
                          340282366920938463463374607431768211456 then
                      opI BinOp.sub IntKind.u64 n t * IntKind.u64.wrap r / 18446744073709551616 * 18446744073709551616 +
                          opI BinOp.sub IntKind.u64 n t * IntKind.u64.wrap r % 18446744073709551616 +
                        (0 * 18446744073709551616 + IntKind.u64.wrap q)
                    else 0) /
                    18446744073709551616 *
                  18446744073709551616 +
                (if
                      opI BinOp.sub IntKind.u64 n t * IntKind.u64.wrap r / 18446744073709551616 * 18446744073709551616 +
                            opI BinOp.sub IntKind.u64 n t * IntKind.u64.wrap r % 18446744073709551616 +
                          (0 * 18446744073709551616 + IntKind.u64.wrap q) <
                        340282366920938463463374607431768211456 then
                    opI BinOp.sub IntKind.u64 n t * IntKind.u64.wrap r / 18446744073709551616 * 18446744073709551616 +
                        opI BinOp.sub IntKind.u64 n t * IntKind.u64.wrap r % 18446744073709551616 +
                      (0 * 18446744073709551616 + IntKind.u64.wrap q)
                  else 0) %
                  18446744073709551616) /
              IntKind.u64.wrap p /
            18446744073709551616 =
          0 then
      0
    else 16)
    0 =
  false,
  0 < IntKind.u64.wrap p,
  IntKind.u64.wrap p < 4294967296,
  0 ≤
  (if
        opI BinOp.sub IntKind.u64 n t * IntKind.u64.wrap r / 18446744073709551616 * 18446744073709551616 +
              opI BinOp.sub IntKind.u64 n t * IntKind.u64.wrap r % 18446744073709551616 +
            (0 * 18446744073709551616 + IntKind.u64.wrap q) <
          340282366920938463463374607431768211456 then
      opI BinOp.sub IntKind.u64 n t * IntKind.u64.wrap r / 18446744073709551616 * 18446744073709551616 +
          opI BinOp.sub IntKind.u64 n t * IntKind.u64.wrap r % 18446744073709551616 +
        (0 * 18446744073709551616 + IntKind.u64.wrap q)
    else 0) /
    18446744073709551616,
  (if
        opI BinOp.sub IntKind.u64 n t * IntKind.u64.wrap r / 18446744073709551616 * 18446744073709551616 +
              opI BinOp.sub IntKind.u64 n t * IntKind.u64.wrap r % 18446744073709551616 +
            (0 * 18446744073709551616 + IntKind.u64.wrap q) <
          340282366920938463463374607431768211456 then
      opI BinOp.sub IntKind.u64 n t * IntKind.u64.wrap r / 18446744073709551616 * 18446744073709551616 +
          opI BinOp.sub IntKind.u64 n t * IntKind.u64.wrap r % 18446744073709551616 +
        (0 * 18446744073709551616 + IntKind.u64.wrap q)
    else 0) /
    18446744073709551616 <
  18446744073709551616,
  0 ≤
  (if
        opI BinOp.sub IntKind.u64 n t * IntKind.u64.wrap r / 18446744073709551616 * 18446744073709551616 +
              opI BinOp.sub IntKind.u64 n t * IntKind.u64.wrap r % 18446744073709551616 +
            (0 * 18446744073709551616 + IntKind.u64.wrap q) <
          340282366920938463463374607431768211456 then
      opI BinOp.sub IntKind.u64 n t * IntKind.u64.wrap r / 18446744073709551616 * 18446744073709551616 +
          opI BinOp.sub IntKind.u64 n t * IntKind.u64.wrap r % 18446744073709551616 +
        (0 * 18446744073709551616 + IntKind.u64.wrap q)
    else 0) %
    18446744073709551616,
  (if
        opI BinOp.sub IntKind.u64 n t * IntKind.u64.wrap r / 18446744073709551616 * 18446744073709551616 +
              opI BinOp.sub IntKind.u64 n t * IntKind.u64.wrap r % 18446744073709551616 +
            (0 * 18446744073709551616 + IntKind.u64.wrap q) <
          340282366920938463463374607431768211456 then
      opI BinOp.sub IntKind.u64 n t * IntKind.u64.wrap r / 18446744073709551616 * 18446744073709551616 +
          opI BinOp.sub IntKind.u64 n t * IntKind.u64.wrap r % 18446744073709551616 +
        (0 * 18446744073709551616 + IntKind.u64.wrap q)
    else 0) %
    18446744073709551616 <
  18446744073709551616,
  0 ≤ opI BinOp.sub IntKind.u64 n t * IntKind.u64.wrap r / 18446744073709551616,
  opI BinOp.sub IntKind.u64 n t * IntKind.u64.wrap r / 18446744073709551616 < 18446744073709551616,
  0 ≤ opI BinOp.sub IntKind.u64 n t * IntKind.u64.wrap r % 18446744073709551616,
  opI BinOp.sub IntKind.u64 n t * IntKind.u64.wrap r % 18446744073709551616 < 18446744073709551616,
  (0 : Int) ≤ (0 : Int),
  (0 : Int) < (18446744073709551616 : Int),
  0 ≤ IntKind.u64.wrap q,
  IntKind.u64.wrap q < 18446744073709551616,
  0 ≤ opI BinOp.sub IntKind.u64 n t,
  opI BinOp.sub IntKind.u64 n t < 18446744073709551616,
  0 ≤ IntKind.u64.wrap r,
  IntKind.u64.wrap r < 18446744073709551616,
  cmpI BinOp.leq n t = false]) := by kernel_rfl
theorem bfillA_p3 (b : Int) (r : Int) (p : Int) (v : Int) (q : Int) (t : Int) (n : Int) : fnX Try.prog X20 100000 [.d false, .d false, .c 7, .d false] 73 [D.agg
    [D.v (Value.int IntKind.i64 b), D.v (Value.int IntKind.i64 r), D.v (Value.int IntKind.i64 p),
      D.v (Value.int IntKind.i64 v), D.v (Value.int IntKind.i64 q), D.v (Value.int IntKind.u64 t)],
  D.v (Value.int IntKind.u64 n)] = some (D.agg
  [D.v (Value.int IntKind.i64 b), D.v (Value.int IntKind.i64 r), D.v (Value.int IntKind.i64 p),
    D.v
      (Value.int IntKind.i64
        (opI BinOp.add IntKind.i64 v
          (IntKind.i64.wrap
            (if
                ((if
                                opI BinOp.sub IntKind.u64 n t * IntKind.u64.wrap r / 18446744073709551616 *
                                        18446744073709551616 +
                                      opI BinOp.sub IntKind.u64 n t * IntKind.u64.wrap r % 18446744073709551616 +
                                    (0 * 18446744073709551616 + IntKind.u64.wrap q) <
                                  340282366920938463463374607431768211456 then
                              opI BinOp.sub IntKind.u64 n t * IntKind.u64.wrap r / 18446744073709551616 *
                                    18446744073709551616 +
                                  opI BinOp.sub IntKind.u64 n t * IntKind.u64.wrap r % 18446744073709551616 +
                                (0 * 18446744073709551616 + IntKind.u64.wrap q)
                            else 0) /
                            18446744073709551616 *
                          18446744073709551616 +
                        (if
                              opI BinOp.sub IntKind.u64 n t * IntKind.u64.wrap r / 18446744073709551616 *
                                      18446744073709551616 +
                                    opI BinOp.sub IntKind.u64 n t * IntKind.u64.wrap r % 18446744073709551616 +
                                  (0 * 18446744073709551616 + IntKind.u64.wrap q) <
                                340282366920938463463374607431768211456 then
                            opI BinOp.sub IntKind.u64 n t * IntKind.u64.wrap r / 18446744073709551616 *
                                  18446744073709551616 +
                                opI BinOp.sub IntKind.u64 n t * IntKind.u64.wrap r % 18446744073709551616 +
                              (0 * 18446744073709551616 + IntKind.u64.wrap q)
                          else 0) %
                          18446744073709551616) /
                      IntKind.u64.wrap p /
                    18446744073709551616 =
                  0 then
              ((if
                            opI BinOp.sub IntKind.u64 n t * IntKind.u64.wrap r / 18446744073709551616 *
                                    18446744073709551616 +
                                  opI BinOp.sub IntKind.u64 n t * IntKind.u64.wrap r % 18446744073709551616 +
                                (0 * 18446744073709551616 + IntKind.u64.wrap q) <
                              340282366920938463463374607431768211456 then
                          opI BinOp.sub IntKind.u64 n t * IntKind.u64.wrap r / 18446744073709551616 *
                                18446744073709551616 +
                              opI BinOp.sub IntKind.u64 n t * IntKind.u64.wrap r % 18446744073709551616 +
                            (0 + IntKind.u64.wrap q)
                        else 0) /
                        18446744073709551616 *
                      18446744073709551616 +
                    (if
                          opI BinOp.sub IntKind.u64 n t * IntKind.u64.wrap r / 18446744073709551616 *
                                  18446744073709551616 +
                                opI BinOp.sub IntKind.u64 n t * IntKind.u64.wrap r % 18446744073709551616 +
                              (0 * 18446744073709551616 + IntKind.u64.wrap q) <
                            340282366920938463463374607431768211456 then
                        opI BinOp.sub IntKind.u64 n t * IntKind.u64.wrap r / 18446744073709551616 *
                              18446744073709551616 +
                            opI BinOp.sub IntKind.u64 n t * IntKind.u64.wrap r % 18446744073709551616 +
                          (0 + IntKind.u64.wrap q)
                      else 0) %
                      18446744073709551616) /
                  IntKind.u64.wrap p %
                18446744073709551616
            else 0)))),
    D.v
      (Value.int IntKind.i64
        (IntKind.i64.wrap
          (((if
                      opI BinOp.sub IntKind.u64 n t * IntKind.u64.wrap r / 18446744073709551616 * 18446744073709551616 +
                            opI BinOp.sub IntKind.u64 n t * IntKind.u64.wrap r % 18446744073709551616 +
                          (0 * 18446744073709551616 + IntKind.u64.wrap q) <
                        340282366920938463463374607431768211456 then
                    opI BinOp.sub IntKind.u64 n t * IntKind.u64.wrap r / 18446744073709551616 * 18446744073709551616 +
                        opI BinOp.sub IntKind.u64 n t * IntKind.u64.wrap r % 18446744073709551616 +
                      (0 + IntKind.u64.wrap q)
                  else 0) /
                  18446744073709551616 *
                18446744073709551616 +
              (if
                    opI BinOp.sub IntKind.u64 n t * IntKind.u64.wrap r / 18446744073709551616 * 18446744073709551616 +
                          opI BinOp.sub IntKind.u64 n t * IntKind.u64.wrap r % 18446744073709551616 +
                        (0 * 18446744073709551616 + IntKind.u64.wrap q) <
                      340282366920938463463374607431768211456 then
                  opI BinOp.sub IntKind.u64 n t * IntKind.u64.wrap r / 18446744073709551616 * 18446744073709551616 +
                      opI BinOp.sub IntKind.u64 n t * IntKind.u64.wrap r % 18446744073709551616 +
                    (0 + IntKind.u64.wrap q)
                else 0) %
                18446744073709551616) %
            IntKind.u64.wrap p))),
    D.v (Value.int IntKind.u64 n)], [cmpI BinOp.geq
    (if
        ((if
                        opI BinOp.sub IntKind.u64 n t * IntKind.u64.wrap r / 18446744073709551616 *
                                18446744073709551616 +
                              opI BinOp.sub IntKind.u64 n t * IntKind.u64.wrap r % 18446744073709551616 +
                            (0 * 18446744073709551616 + IntKind.u64.wrap q) <
                          340282366920938463463374607431768211456 then
                      opI BinOp.sub IntKind.u64 n t * IntKind.u64.wrap r / 18446744073709551616 * 18446744073709551616 +
                          opI BinOp.sub IntKind.u64 n t * IntKind.u64.wrap r % 18446744073709551616 +
                        (0 * 18446744073709551616 + IntKind.u64.wrap q)
                    else 0) /
                    18446744073709551616 *
                  18446744073709551616 +
                (if
                      opI BinOp.sub IntKind.u64 n t * IntKind.u64.wrap r / 18446744073709551616 * 18446744073709551616 +
                            opI BinOp.sub IntKind.u64 n t * IntKind.u64.wrap r % 18446744073709551616 +
                          (0 * 18446744073709551616 + IntKind.u64.wrap q) <
                        340282366920938463463374607431768211456 then
                    opI BinOp.sub IntKind.u64 n t * IntKind.u64.wrap r / 18446744073709551616 * 18446744073709551616 +
                        opI BinOp.sub IntKind.u64 n t * IntKind.u64.wrap r % 18446744073709551616 +
                      (0 * 18446744073709551616 + IntKind.u64.wrap q)
                  else 0) %
                  18446744073709551616) /
              IntKind.u64.wrap p /
            18446744073709551616 =
          0 then
      ((if
                    opI BinOp.sub IntKind.u64 n t * IntKind.u64.wrap r / 18446744073709551616 * 18446744073709551616 +
                          opI BinOp.sub IntKind.u64 n t * IntKind.u64.wrap r % 18446744073709551616 +
                        (0 * 18446744073709551616 + IntKind.u64.wrap q) <
                      340282366920938463463374607431768211456 then
                  opI BinOp.sub IntKind.u64 n t * IntKind.u64.wrap r / 18446744073709551616 * 18446744073709551616 +
                      opI BinOp.sub IntKind.u64 n t * IntKind.u64.wrap r % 18446744073709551616 +
                    (0 + IntKind.u64.wrap q)
                else 0) /
                18446744073709551616 *
              18446744073709551616 +
            (if
                  opI BinOp.sub IntKind.u64 n t * IntKind.u64.wrap r / 18446744073709551616 * 18446744073709551616 +
                        opI BinOp.sub IntKind.u64 n t * IntKind.u64.wrap r % 18446744073709551616 +
                      (0 * 18446744073709551616 + IntKind.u64.wrap q) <
                    340282366920938463463374607431768211456 then
                opI BinOp.sub IntKind.u64 n t * IntKind.u64.wrap r / 18446744073709551616 * 18446744073709551616 +
                    opI BinOp.sub IntKind.u64 n t * IntKind.u64.wrap r % 18446744073709551616 +
                  (0 + IntKind.u64.wrap q)
              else 0) %
              18446744073709551616) /
          IntKind.u64.wrap p %
        18446744073709551616
    else 0)
    (IntKind.u64.wrap (opI BinOp.sub IntKind.i64 b v)) =
  false,
  cmpI BinOp.neq
    (if
        ((if
                        opI BinOp.sub IntKind.u64 n t * IntKind.u64.wrap r / 18446744073709551616 *
                                18446744073709551616 +
                              opI BinOp.sub IntKind.u64 n t * IntKind.u64.wrap r % 18446744073709551616 +
                            (0 * 18446744073709551616 + IntKind.u64.wrap q) <
                          340282366920938463463374607431768211456 then
                      opI BinOp.sub IntKind.u64 n t * IntKind.u64.wrap r / 18446744073709551616 * 18446744073709551616 +
                          opI BinOp.sub IntKind.u64 n t * IntKind.u64.wrap r % 18446744073709551616 +
                        (0 * 18446744073709551616 + IntKind.u64.wrap q)
                    else 0) /
                    18446744073709551616 *
                  18446744073709551616 +
                (if
                      opI BinOp.sub IntKind.u64 n t * IntKind.u64.wrap r / 18446744073709551616 * 18446744073709551616 +
                            opI BinOp.sub IntKind.u64 n t * IntKind.u64.wrap r % 18446744073709551616 +
                          (0 * 18446744073709551616 + IntKind.u64.wrap q) <
                        340282366920938463463374607431768211456 then
                    opI BinOp.sub IntKind.u64 n t * IntKind.u64.wrap r / 18446744073709551616 * 18446744073709551616 +
                        opI BinOp.sub IntKind.u64 n t * IntKind.u64.wrap r % 18446744073709551616 +
                      (0 * 18446744073709551616 + IntKind.u64.wrap q)
                  else 0) %
                  18446744073709551616) /
              IntKind.u64.wrap p /
            18446744073709551616 =
          0 then
      0
    else 16)
    0 =
  false,
  0 < IntKind.u64.wrap p,
  IntKind.u64.wrap p < 4294967296,
  0 ≤
  (if
        opI BinOp.sub IntKind.u64 n t * IntKind.u64.wrap r / 18446744073709551616 * 18446744073709551616 +
              opI BinOp.sub IntKind.u64 n t * IntKind.u64.wrap r % 18446744073709551616 +
            (0 * 18446744073709551616 + IntKind.u64.wrap q) <
          340282366920938463463374607431768211456 then
      opI BinOp.sub IntKind.u64 n t * IntKind.u64.wrap r / 18446744073709551616 * 18446744073709551616 +
          opI BinOp.sub IntKind.u64 n t * IntKind.u64.wrap r % 18446744073709551616 +
        (0 * 18446744073709551616 + IntKind.u64.wrap q)
    else 0) /
    18446744073709551616,
  (if
        opI BinOp.sub IntKind.u64 n t * IntKind.u64.wrap r / 18446744073709551616 * 18446744073709551616 +
              opI BinOp.sub IntKind.u64 n t * IntKind.u64.wrap r % 18446744073709551616 +
            (0 * 18446744073709551616 + IntKind.u64.wrap q) <
          340282366920938463463374607431768211456 then
      opI BinOp.sub IntKind.u64 n t * IntKind.u64.wrap r / 18446744073709551616 * 18446744073709551616 +
          opI BinOp.sub IntKind.u64 n t * IntKind.u64.wrap r % 18446744073709551616 +
        (0 * 18446744073709551616 + IntKind.u64.wrap q)
    else 0) /
    18446744073709551616 <
  18446744073709551616,
  0 ≤
  (if
        opI BinOp.sub IntKind.u64 n t * IntKind.u64.wrap r / 18446744073709551616 * 18446744073709551616 +
              opI BinOp.sub IntKind.u64 n t * IntKind.u64.wrap r % 18446744073709551616 +
            (0 * 18446744073709551616 + IntKind.u64.wrap q) <
          340282366920938463463374607431768211456 then
      opI BinOp.sub IntKind.u64 n t * IntKind.u64.wrap r / 18446744073709551616 * 18446744073709551616 +
          opI BinOp.sub IntKind.u64 n t * IntKind.u64.wrap r % 18446744073709551616 +
        (0 * 18446744073709551616 + IntKind.u64.wrap q)
    else 0) %
    18446744073709551616,
  (if
        opI BinOp.sub IntKind.u64 n t * IntKind.u64.wrap r / 18446744073709551616 * 18446744073709551616 +
              opI BinOp.sub IntKind.u64 n t * IntKind.u64.wrap r % 18446744073709551616 +
            (0 * 18446744073709551616 + IntKind.u64.wrap q) <
          340282366920938463463374607431768211456 then
      opI BinOp.sub IntKind.u64 n t * IntKind.u64.wrap r / 18446744073709551616 * 18446744073709551616 +
          opI BinOp.sub IntKind.u64 n t * IntKind.u64.wrap r % 18446744073709551616 +
        (0 * 18446744073709551616 + IntKind.u64.wrap q)
    else 0) %
    18446744073709551616 <
  18446744073709551616,
  0 ≤ opI BinOp.sub IntKind.u64 n t * IntKind.u64.wrap r / 18446744073709551616,
  opI BinOp.sub IntKind.u64 n t * IntKind.u64.wrap r / 18446744073709551616 < 18446744073709551616,
  0 ≤ opI BinOp.sub IntKind.u64 n t * IntKind.u64.wrap r % 18446744073709551616,
  opI BinOp.sub IntKind.u64 n t * IntKind.u64.wrap r % 18446744073709551616 < 18446744073709551616,
  (0 : Int) ≤ (0 : Int),
  (0 : Int) < (18446744073709551616 : Int),
  0 ≤ IntKind.u64.wrap q,
  IntKind.u64.wrap q < 18446744073709551616,
  0 ≤ opI BinOp.sub IntKind.u64 n t,
  opI BinOp.sub IntKind.u64 n t < 18446744073709551616,
  0 ≤ IntKind.u64.wrap r,
  IntKind.u64.wrap r < 18446744073709551616,
  cmpI BinOp.leq n t = false]) := by kernel_rfl
theorem bfillA_calls (b : Int) (r : Int) (p : Int) (v : Int) (q : Int) (t : Int) (n : Int) (res : D)
  (h0 : ((cmpI BinOp.leq n t) = true) → (True) ∧ res = D.agg
  [D.v (Value.int IntKind.i64 b), D.v (Value.int IntKind.i64 r), D.v (Value.int IntKind.i64 p),
    D.v (Value.int IntKind.i64 v), D.v (Value.int IntKind.i64 q), D.v (Value.int IntKind.u64 t)])
  (h1 : ((cmpI BinOp.leq n t) = false) → ((cmpI BinOp.neq
  (if
      ((if
                      opI BinOp.sub IntKind.u64 n t * IntKind.u64.wrap r / 18446744073709551616 * 18446744073709551616 +
                            opI BinOp.sub IntKind.u64 n t * IntKind.u64.wrap r % 18446744073709551616 +
                          (0 * 18446744073709551616 + IntKind.u64.wrap q) <
                        340282366920938463463374607431768211456 then
                    opI BinOp.sub IntKind.u64 n t * IntKind.u64.wrap r / 18446744073709551616 * 18446744073709551616 +
                        opI BinOp.sub IntKind.u64 n t * IntKind.u64.wrap r % 18446744073709551616 +
                      (0 * 18446744073709551616 + IntKind.u64.wrap q)
                  else 0) /
                  18446744073709551616 *
                18446744073709551616 +
              (if
                    opI BinOp.sub IntKind.u64 n t * IntKind.u64.wrap r / 18446744073709551616 * 18446744073709551616 +
                          opI BinOp.sub IntKind.u64 n t * IntKind.u64.wrap r % 18446744073709551616 +
                        (0 * 18446744073709551616 + IntKind.u64.wrap q) <
                      340282366920938463463374607431768211456 then
                  opI BinOp.sub IntKind.u64 n t * IntKind.u64.wrap r / 18446744073709551616 * 18446744073709551616 +
                      opI BinOp.sub IntKind.u64 n t * IntKind.u64.wrap r % 18446744073709551616 +
                    (0 * 18446744073709551616 + IntKind.u64.wrap q)
                else 0) %
                18446744073709551616) /
            IntKind.u64.wrap p /
          18446744073709551616 =
        0 then
    0
  else 16)
  0) = true) → ((0 < IntKind.u64.wrap p) ∧ (IntKind.u64.wrap p < 4294967296) ∧ (0 ≤
  (if
        opI BinOp.sub IntKind.u64 n t * IntKind.u64.wrap r / 18446744073709551616 * 18446744073709551616 +
              opI BinOp.sub IntKind.u64 n t * IntKind.u64.wrap r % 18446744073709551616 +
            (0 * 18446744073709551616 + IntKind.u64.wrap q) <
          340282366920938463463374607431768211456 then
      opI BinOp.sub IntKind.u64 n t * IntKind.u64.wrap r / 18446744073709551616 * 18446744073709551616 +
          opI BinOp.sub IntKind.u64 n t * IntKind.u64.wrap r % 18446744073709551616 +
        (0 * 18446744073709551616 + IntKind.u64.wrap q)
    else 0) /
    18446744073709551616) ∧ ((if
        opI BinOp.sub IntKind.u64 n t * IntKind.u64.wrap r / 18446744073709551616 * 18446744073709551616 +
              opI BinOp.sub IntKind.u64 n t * IntKind.u64.wrap r % 18446744073709551616 +
            (0 * 18446744073709551616 + IntKind.u64.wrap q) <
          340282366920938463463374607431768211456 then
      opI BinOp.sub IntKind.u64 n t * IntKind.u64.wrap r / 18446744073709551616 * 18446744073709551616 +
          opI BinOp.sub IntKind.u64 n t * IntKind.u64.wrap r % 18446744073709551616 +
        (0 * 18446744073709551616 + IntKind.u64.wrap q)
    else 0) /
    18446744073709551616 <
  18446744073709551616) ∧ (0 ≤
  (if
        opI BinOp.sub IntKind.u64 n t * IntKind.u64.wrap r / 18446744073709551616 * 18446744073709551616 +
              opI BinOp.sub IntKind.u64 n t * IntKind.u64.wrap r % 18446744073709551616 +
            (0 * 18446744073709551616 + IntKind.u64.wrap q) <
          340282366920938463463374607431768211456 then
      opI BinOp.sub IntKind.u64 n t * IntKind.u64.wrap r / 18446744073709551616 * 18446744073709551616 +
          opI BinOp.sub IntKind.u64 n t * IntKind.u64.wrap r % 18446744073709551616 +
        (0 * 18446744073709551616 + IntKind.u64.wrap q)
    else 0) %
    18446744073709551616) ∧ ((if
        opI BinOp.sub IntKind.u64 n t * IntKind.u64.wrap r / 18446744073709551616 * 18446744073709551616 +
              opI BinOp.sub IntKind.u64 n t * IntKind.u64.wrap r % 18446744073709551616 +
            (0 * 18446744073709551616 + IntKind.u64.wrap q) <
          340282366920938463463374607431768211456 then
      opI BinOp.sub IntKind.u64 n t * IntKind.u64.wrap r / 18446744073709551616 * 18446744073709551616 +
          opI BinOp.sub IntKind.u64 n t * IntKind.u64.wrap r % 18446744073709551616 +
        (0 * 18446744073709551616 + IntKind.u64.wrap q)
    else 0) %
    18446744073709551616 <
  18446744073709551616) ∧ (0 ≤ opI BinOp.sub IntKind.u64 n t * IntKind.u64.wrap r / 18446744073709551616) ∧ (opI BinOp.sub IntKind.u64 n t * IntKind.u64.wrap r / 18446744073709551616 < 18446744073709551616) ∧ (0 ≤ opI BinOp.sub IntKind.u64 n t * IntKind.u64.wrap r % 18446744073709551616) ∧ (opI BinOp.sub IntKind.u64 n t * IntKind.u64.wrap r % 18446744073709551616 < 18446744073709551616) ∧ ((0 : Int) ≤ (0 : Int)) ∧ ((0 : Int) < (18446744073709551616 : Int)) ∧ (0 ≤ IntKind.u64.wrap q) ∧ (IntKind.u64.wrap q < 18446744073709551616) ∧ (0 ≤ opI BinOp.sub IntKind.u64 n t) ∧ (opI BinOp.sub IntKind.u64 n t < 18446744073709551616) ∧ (0 ≤ IntKind.u64.wrap r) ∧ (IntKind.u64.wrap r < 18446744073709551616) ∧ True) ∧ res = D.agg
  [D.v (Value.int IntKind.i64 b), D.v (Value.int IntKind.i64 r), D.v (Value.int IntKind.i64 p),
    D.v (Value.int IntKind.i64 b), D.v (Value.int IntKind.i64 0), D.v (Value.int IntKind.u64 n)])
  (h2 : ((cmpI BinOp.leq n t) = false) → ((cmpI BinOp.neq
  (if
      ((if
                      opI BinOp.sub IntKind.u64 n t * IntKind.u64.wrap r / 18446744073709551616 * 18446744073709551616 +
                            opI BinOp.sub IntKind.u64 n t * IntKind.u64.wrap r % 18446744073709551616 +
                          (0 * 18446744073709551616 + IntKind.u64.wrap q) <
                        340282366920938463463374607431768211456 then
                    opI BinOp.sub IntKind.u64 n t * IntKind.u64.wrap r / 18446744073709551616 * 18446744073709551616 +
                        opI BinOp.sub IntKind.u64 n t * IntKind.u64.wrap r % 18446744073709551616 +
                      (0 * 18446744073709551616 + IntKind.u64.wrap q)
                  else 0) /
                  18446744073709551616 *
                18446744073709551616 +
              (if
                    opI BinOp.sub IntKind.u64 n t * IntKind.u64.wrap r / 18446744073709551616 * 18446744073709551616 +
                          opI BinOp.sub IntKind.u64 n t * IntKind.u64.wrap r % 18446744073709551616 +
                        (0 * 18446744073709551616 + IntKind.u64.wrap q) <
                      340282366920938463463374607431768211456 then
                  opI BinOp.sub IntKind.u64 n t * IntKind.u64.wrap r / 18446744073709551616 * 18446744073709551616 +
                      opI BinOp.sub IntKind.u64 n t * IntKind.u64.wrap r % 18446744073709551616 +
                    (0 * 18446744073709551616 + IntKind.u64.wrap q)
                else 0) %
                18446744073709551616) /
            IntKind.u64.wrap p /
          18446744073709551616 =
        0 then
    0
  else 16)
  0) = false) → ((cmpI BinOp.geq
  (if
      ((if
                      opI BinOp.sub IntKind.u64 n t * IntKind.u64.wrap r / 18446744073709551616 * 18446744073709551616 +
                            opI BinOp.sub IntKind.u64 n t * IntKind.u64.wrap r % 18446744073709551616 +
                          (0 * 18446744073709551616 + IntKind.u64.wrap q) <
                        340282366920938463463374607431768211456 then
                    opI BinOp.sub IntKind.u64 n t * IntKind.u64.wrap r / 18446744073709551616 * 18446744073709551616 +
                        opI BinOp.sub IntKind.u64 n t * IntKind.u64.wrap r % 18446744073709551616 +
                      (0 * 18446744073709551616 + IntKind.u64.wrap q)
                  else 0) /
                  18446744073709551616 *
                18446744073709551616 +
              (if
                    opI BinOp.sub IntKind.u64 n t * IntKind.u64.wrap r / 18446744073709551616 * 18446744073709551616 +
                          opI BinOp.sub IntKind.u64 n t * IntKind.u64.wrap r % 18446744073709551616 +
                        (0 * 18446744073709551616 + IntKind.u64.wrap q) <
                      340282366920938463463374607431768211456 then
                  opI BinOp.sub IntKind.u64 n t * IntKind.u64.wrap r / 18446744073709551616 * 18446744073709551616 +
                      opI BinOp.sub IntKind.u64 n t * IntKind.u64.wrap r % 18446744073709551616 +
                    (0 * 18446744073709551616 + IntKind.u64.wrap q)
                else 0) %
                18446744073709551616) /
            IntKind.u64.wrap p /
          18446744073709551616 =
        0 then
    ((if
                  opI BinOp.sub IntKind.u64 n t * IntKind.u64.wrap r / 18446744073709551616 * 18446744073709551616 +
                        opI BinOp.sub IntKind.u64 n t * IntKind.u64.wrap r % 18446744073709551616 +
                      (0 * 18446744073709551616 + IntKind.u64.wrap q) <
                    340282366920938463463374607431768211456 then
                opI BinOp.sub IntKind.u64 n t * IntKind.u64.wrap r / 18446744073709551616 * 18446744073709551616 +
                    opI BinOp.sub IntKind.u64 n t * IntKind.u64.wrap r % 18446744073709551616 +
                  (0 + IntKind.u64.wrap q)
              else 0) /
              18446744073709551616 *
            18446744073709551616 +
          (if
                opI BinOp.sub IntKind.u64 n t * IntKind.u64.wrap r / 18446744073709551616 * 18446744073709551616 +
                      opI BinOp.sub IntKind.u64 n t * IntKind.u64.wrap r % 18446744073709551616 +
                    (0 * 18446744073709551616 + IntKind.u64.wrap q) <
                  340282366920938463463374607431768211456 then
              opI BinOp.sub IntKind.u64 n t * IntKind.u64.wrap r / 18446744073709551616 * 18446744073709551616 +
                  opI BinOp.sub IntKind.u64 n t * IntKind.u64.wrap r % 18446744073709551616 +
                (0 + IntKind.u64.wrap q)
            else 0) %
            18446744073709551616) /
        IntKind.u64.wrap p %
      18446744073709551616
  else 0)
  (IntKind.u64.wrap (opI BinOp.sub IntKind.i64 b v))) = true) → ((0 < IntKind.u64.wrap p) ∧ (IntKind.u64.wrap p < 4294967296) ∧ (0 ≤
  (if
        opI BinOp.sub IntKind.u64 n t * IntKind.u64.wrap r / 18446744073709551616 * 18446744073709551616 +
              opI BinOp.sub IntKind.u64 n t * IntKind.u64.wrap r % 18446744073709551616 +
            (0 * 18446744073709551616 + IntKind.u64.wrap q) <
          340282366920938463463374607431768211456 then
      opI BinOp.sub IntKind.u64 n t * IntKind.u64.wrap r / 18446744073709551616 * 18446744073709551616 +
          opI BinOp.sub IntKind.u64 n t * IntKind.u64.wrap r % 18446744073709551616 +
        (0 * 18446744073709551616 + IntKind.u64.wrap q)
    else 0) /
    18446744073709551616) ∧ ((if
        opI BinOp.sub IntKind.u64 n t * IntKind.u64.wrap r / 18446744073709551616 * 18446744073709551616 +
              opI BinOp.sub IntKind.u64 n t * IntKind.u64.wrap r % 18446744073709551616 +
            (0 * 18446744073709551616 + IntKind.u64.wrap q) <
          340282366920938463463374607431768211456 then
      opI BinOp.sub IntKind.u64 n t * IntKind.u64.wrap r / 18446744073709551616 * 18446744073709551616 +
          opI BinOp.sub IntKind.u64 n t * IntKind.u64.wrap r % 18446744073709551616 +
        (0 * 18446744073709551616 + IntKind.u64.wrap q)
    else 0) /
    18446744073709551616 <
  18446744073709551616) ∧ (0 ≤
  (if
        opI BinOp.sub IntKind.u64 n t * IntKind.u64.wrap r / 18446744073709551616 * 18446744073709551616 +
              opI BinOp.sub IntKind.u64 n t * IntKind.u64.wrap r % 18446744073709551616 +
            (0 * 18446744073709551616 + IntKind.u64.wrap q) <
          340282366920938463463374607431768211456 then
      opI BinOp.sub IntKind.u64 n t * IntKind.u64.wrap r / 18446744073709551616 * 18446744073709551616 +
          opI BinOp.sub IntKind.u64 n t * IntKind.u64.wrap r % 18446744073709551616 +
        (0 * 18446744073709551616 + IntKind.u64.wrap q)
    else 0) %
    18446744073709551616) ∧ ((if
        opI BinOp.sub IntKind.u64 n t * IntKind.u64.wrap r / 18446744073709551616 * 18446744073709551616 +
              opI BinOp.sub IntKind.u64 n t * IntKind.u64.wrap r % 18446744073709551616 +
            (0 * 18446744073709551616 + IntKind.u64.wrap q) <
          340282366920938463463374607431768211456 then
      opI BinOp.sub IntKind.u64 n t * IntKind.u64.wrap r / 18446744073709551616 * 18446744073709551616 +
          opI BinOp.sub IntKind.u64 n t * IntKind.u64.wrap r % 18446744073709551616 +
        (0 * 18446744073709551616 + IntKind.u64.wrap q)
    else 0) %
    18446744073709551616 <
  18446744073709551616) ∧ (0 ≤ opI BinOp.sub IntKind.u64 n t * IntKind.u64.wrap r / 18446744073709551616) ∧ (opI BinOp.sub IntKind.u64 n t * IntKind.u64.wrap r / 18446744073709551616 < 18446744073709551616) ∧ (0 ≤ opI BinOp.sub IntKind.u64 n t * IntKind.u64.wrap r % 18446744073709551616) ∧ (opI BinOp.sub IntKind.u64 n t * IntKind.u64.wrap r % 18446744073709551616 < 18446744073709551616) ∧ ((0 : Int) ≤ (0 : Int)) ∧ ((0 : Int) < (18446744073709551616 : Int)) ∧ (0 ≤ IntKind.u64.wrap q) ∧ (IntKind.u64.wrap q < 18446744073709551616) ∧ (0 ≤ opI BinOp.sub IntKind.u64 n t) ∧ (opI BinOp.sub IntKind.u64 n t < 18446744073709551616) ∧ (0 ≤ IntKind.u64.wrap r) ∧ (IntKind.u64.wrap r < 18446744073709551616) ∧ True) ∧ res = D.agg
  [D.v (Value.int IntKind.i64 b), D.v (Value.int IntKind.i64 r), D.v (Value.int IntKind.i64 p),
    D.v (Value.int IntKind.i64 b), D.v (Value.int IntKind.i64 0), D.v (Value.int IntKind.u64 n)])
  (h3 : ((cmpI BinOp.leq n t) = false) → ((cmpI BinOp.neq
  (if
      ((if
                      opI BinOp.sub IntKind.u64 n t * IntKind.u64.wrap r / 18446744073709551616 * 18446744073709551616 +
                            opI BinOp.sub IntKind.u64 n t * IntKind.u64.wrap r % 18446744073709551616 +
                          (0 * 18446744073709551616 + IntKind.u64.wrap q) <
                        340282366920938463463374607431768211456 then
                    opI BinOp.sub IntKind.u64 n t * IntKind.u64.wrap r / 18446744073709551616 * 18446744073709551616 +
                        opI BinOp.sub IntKind.u64 n t * IntKind.u64.wrap r % 18446744073709551616 +
                      (0 * 18446744073709551616 + IntKind.u64.wrap q)
                  else 0) /
                  18446744073709551616 *
                18446744073709551616 +
              (if
                    opI BinOp.sub IntKind.u64 n t * IntKind.u64.wrap r / 18446744073709551616 * 18446744073709551616 +
                          opI BinOp.sub IntKind.u64 n t * IntKind.u64.wrap r % 18446744073709551616 +
                        (0 * 18446744073709551616 + IntKind.u64.wrap q) <
                      340282366920938463463374607431768211456 then
                  opI BinOp.sub IntKind.u64 n t * IntKind.u64.wrap r / 18446744073709551616 * 18446744073709551616 +
                      opI BinOp.sub IntKind.u64 n t * IntKind.u64.wrap r % 18446744073709551616 +
                    (0 * 18446744073709551616 + IntKind.u64.wrap q)
                else 0) %
                18446744073709551616) /
            IntKind.u64.wrap p /
          18446744073709551616 =
        0 then
    0
  else 16)
  0) = false) → ((cmpI BinOp.geq
  (if
      ((if
                      opI BinOp.sub IntKind.u64 n t * IntKind.u64.wrap r / 18446744073709551616 * 18446744073709551616 +
                            opI BinOp.sub IntKind.u64 n t * IntKind.u64.wrap r % 18446744073709551616 +
                          (0 * 18446744073709551616 + IntKind.u64.wrap q) <
                        340282366920938463463374607431768211456 then
                    opI BinOp.sub IntKind.u64 n t * IntKind.u64.wrap r / 18446744073709551616 * 18446744073709551616 +
                        opI BinOp.sub IntKind.u64 n t * IntKind.u64.wrap r % 18446744073709551616 +
                      (0 * 18446744073709551616 + IntKind.u64.wrap q)
                  else 0) /
                  18446744073709551616 *
                18446744073709551616 +
              (if
                    opI BinOp.sub IntKind.u64 n t * IntKind.u64.wrap r / 18446744073709551616 * 18446744073709551616 +
                          opI BinOp.sub IntKind.u64 n t * IntKind.u64.wrap r % 18446744073709551616 +
                        (0 * 18446744073709551616 + IntKind.u64.wrap q) <
                      340282366920938463463374607431768211456 then
                  opI BinOp.sub IntKind.u64 n t * IntKind.u64.wrap r / 18446744073709551616 * 18446744073709551616 +
                      opI BinOp.sub IntKind.u64 n t * IntKind.u64.wrap r % 18446744073709551616 +
                    (0 * 18446744073709551616 + IntKind.u64.wrap q)
                else 0) %
                18446744073709551616) /
            IntKind.u64.wrap p /
          18446744073709551616 =
        0 then
    ((if
                  opI BinOp.sub IntKind.u64 n t * IntKind.u64.wrap r / 18446744073709551616 * 18446744073709551616 +
                        opI BinOp.sub IntKind.u64 n t * IntKind.u64.wrap r % 18446744073709551616 +
                      (0 * 18446744073709551616 + IntKind.u64.wrap q) <
                    340282366920938463463374607431768211456 then
                opI BinOp.sub IntKind.u64 n t * IntKind.u64.wrap r / 18446744073709551616 * 18446744073709551616 +
                    opI BinOp.sub IntKind.u64 n t * IntKind.u64.wrap r % 18446744073709551616 +
                  (0 + IntKind.u64.wrap q)
              else 0) /
              18446744073709551616 *
            18446744073709551616 +
          (if
                opI BinOp.sub IntKind.u64 n t * IntKind.u64.wrap r / 18446744073709551616 * 18446744073709551616 +
                      opI BinOp.sub IntKind.u64 n t * IntKind.u64.wrap r % 18446744073709551616 +
                    (0 * 18446744073709551616 + IntKind.u64.wrap q) <
                  340282366920938463463374607431768211456 then
              opI BinOp.sub IntKind.u64 n t * IntKind.u64.wrap r / 18446744073709551616 * 18446744073709551616 +
                  opI BinOp.sub IntKind.u64 n t * IntKind.u64.wrap r % 18446744073709551616 +
                (0 + IntKind.u64.wrap q)
            else 0) %
            18446744073709551616) /
        IntKind.u64.wrap p %
      18446744073709551616
  else 0)
  (IntKind.u64.wrap (opI BinOp.sub IntKind.i64 b v))) = false) → ((0 < IntKind.u64.wrap p) ∧ (IntKind.u64.wrap p < 4294967296) ∧ (0 ≤
  (if
        opI BinOp.sub IntKind.u64 n t * IntKind.u64.wrap r / 18446744073709551616 * 18446744073709551616 +
              opI BinOp.sub IntKind.u64 n t * IntKind.u64.wrap r % 18446744073709551616 +
            (0 * 18446744073709551616 + IntKind.u64.wrap q) <
          340282366920938463463374607431768211456 then
      opI BinOp.sub IntKind.u64 n t * IntKind.u64.wrap r / 18446744073709551616 * 18446744073709551616 +
          opI BinOp.sub IntKind.u64 n t * IntKind.u64.wrap r % 18446744073709551616 +
        (0 * 18446744073709551616 + IntKind.u64.wrap q)
    else 0) /
    18446744073709551616) ∧ ((if
        opI BinOp.sub IntKind.u64 n t * IntKind.u64.wrap r / 18446744073709551616 * 18446744073709551616 +
              opI BinOp.sub IntKind.u64 n t * IntKind.u64.wrap r % 18446744073709551616 +
            (0 * 18446744073709551616 + IntKind.u64.wrap q) <
          340282366920938463463374607431768211456 then
      opI BinOp.sub IntKind.u64 n t * IntKind.u64.wrap r / 18446744073709551616 * 18446744073709551616 +
          opI BinOp.sub IntKind.u64 n t * IntKind.u64.wrap r % 18446744073709551616 +
        (0 * 18446744073709551616 + IntKind.u64.wrap q)
    else 0) /
    18446744073709551616 <
  18446744073709551616) ∧ (0 ≤
  (if
        opI BinOp.sub IntKind.u64 n t * IntKind.u64.wrap r / 18446744073709551616 * 18446744073709551616 +
              opI BinOp.sub IntKind.u64 n t * IntKind.u64.wrap r % 18446744073709551616 +
            (0 * 18446744073709551616 + IntKind.u64.wrap q) <
          340282366920938463463374607431768211456 then
      opI BinOp.sub IntKind.u64 n t * IntKind.u64.wrap r / 18446744073709551616 * 18446744073709551616 +
          opI BinOp.sub IntKind.u64 n t * IntKind.u64.wrap r % 18446744073709551616 +
        (0 * 18446744073709551616 + IntKind.u64.wrap q)
    else 0) %
    18446744073709551616) ∧ ((if
        opI BinOp.sub IntKind.u64 n t * IntKind.u64.wrap r / 18446744073709551616 * 18446744073709551616 +
              opI BinOp.sub IntKind.u64 n t * IntKind.u64.wrap r % 18446744073709551616 +
            (0 * 18446744073709551616 + IntKind.u64.wrap q) <
          340282366920938463463374607431768211456 then
      opI BinOp.sub IntKind.u64 n t * IntKind.u64.wrap r / 18446744073709551616 * 18446744073709551616 +
          opI BinOp.sub IntKind.u64 n t * IntKind.u64.wrap r % 18446744073709551616 +
        (0 * 18446744073709551616 + IntKind.u64.wrap q)
    else 0) %
    18446744073709551616 <
  18446744073709551616) ∧ (0 ≤ opI BinOp.sub IntKind.u64 n t * IntKind.u64.wrap r / 18446744073709551616) ∧ (opI BinOp.sub IntKind.u64 n t * IntKind.u64.wrap r / 18446744073709551616 < 18446744073709551616) ∧ (0 ≤ opI BinOp.sub IntKind.u64 n t * IntKind.u64.wrap r % 18446744073709551616) ∧ (opI BinOp.sub IntKind.u64 n t * IntKind.u64.wrap r % 18446744073709551616 < 18446744073709551616) ∧ ((0 : Int) ≤ (0 : Int)) ∧ ((0 : Int) < (18446744073709551616 : Int)) ∧ (0 ≤ IntKind.u64.wrap q) ∧ (IntKind.u64.wrap q < 18446744073709551616) ∧ (0 ≤ opI BinOp.sub IntKind.u64 n t) ∧ (opI BinOp.sub IntKind.u64 n t < 18446744073709551616) ∧ (0 ≤ IntKind.u64.wrap r) ∧ (IntKind.u64.wrap r < 18446744073709551616) ∧ True) ∧ res = D.agg
  [D.v (Value.int IntKind.i64 b), D.v (Value.int IntKind.i64 r), D.v (Value.int IntKind.i64 p),
    D.v
      (Value.int IntKind.i64
        (opI BinOp.add IntKind.i64 v
          (IntKind.i64.wrap
            (if
                ((if
                                opI BinOp.sub IntKind.u64 n t * IntKind.u64.wrap r / 18446744073709551616 *
                                        18446744073709551616 +
                                      opI BinOp.sub IntKind.u64 n t * IntKind.u64.wrap r % 18446744073709551616 +
                                    (0 * 18446744073709551616 + IntKind.u64.wrap q) <
                                  340282366920938463463374607431768211456 then
                              opI BinOp.sub IntKind.u64 n t * IntKind.u64.wrap r / 18446744073709551616 *
                                    18446744073709551616 +
                                  opI BinOp.sub IntKind.u64 n t * IntKind.u64.wrap r % 18446744073709551616 +
                                (0 * 18446744073709551616 + IntKind.u64.wrap q)
                            else 0) /
                            18446744073709551616 *
                          18446744073709551616 +
                        (if
                              opI BinOp.sub IntKind.u64 n t * IntKind.u64.wrap r / 18446744073709551616 *
                                      18446744073709551616 +
                                    opI BinOp.sub IntKind.u64 n t * IntKind.u64.wrap r % 18446744073709551616 +
                                  (0 * 18446744073709551616 + IntKind.u64.wrap q) <
                                340282366920938463463374607431768211456 then
                            opI BinOp.sub IntKind.u64 n t * IntKind.u64.wrap r / 18446744073709551616 *
                                  18446744073709551616 +
                                opI BinOp.sub IntKind.u64 n t * IntKind.u64.wrap r % 18446744073709551616 +
                              (0 * 18446744073709551616 + IntKind.u64.wrap q)
                          else 0) %
                          18446744073709551616) /
                      IntKind.u64.wrap p /
                    18446744073709551616 =
                  0 then
              ((if
                            opI BinOp.sub IntKind.u64 n t * IntKind.u64.wrap r / 18446744073709551616 *
                                    18446744073709551616 +
                                  opI BinOp.sub IntKind.u64 n t * IntKind.u64.wrap r % 18446744073709551616 +
                                (0 * 18446744073709551616 + IntKind.u64.wrap q) <
                              340282366920938463463374607431768211456 then
                          opI BinOp.sub IntKind.u64 n t * IntKind.u64.wrap r / 18446744073709551616 *
                                18446744073709551616 +
                              opI BinOp.sub IntKind.u64 n t * IntKind.u64.wrap r % 18446744073709551616 +
                            (0 + IntKind.u64.wrap q)
                        else 0) /
                        18446744073709551616 *
                      18446744073709551616 +
                    (if
                          opI BinOp.sub IntKind.u64 n t * IntKind.u64.wrap r / 18446744073709551616 *
                                  18446744073709551616 +
                                opI BinOp.sub IntKind.u64 n t * IntKind.u64.wrap r % 18446744073709551616 +
                              (0 * 18446744073709551616 + IntKind.u64.wrap q) <
                            340282366920938463463374607431768211456 then
                        opI BinOp.sub IntKind.u64 n t * IntKind.u64.wrap r / 18446744073709551616 *
                              18446744073709551616 +
                            opI BinOp.sub IntKind.u64 n t * IntKind.u64.wrap r % 18446744073709551616 +
                          (0 + IntKind.u64.wrap q)
                      else 0) %
                      18446744073709551616) /
                  IntKind.u64.wrap p %
                18446744073709551616
            else 0)))),
    D.v
      (Value.int IntKind.i64
        (IntKind.i64.wrap
          (((if
                      opI BinOp.sub IntKind.u64 n t * IntKind.u64.wrap r / 18446744073709551616 * 18446744073709551616 +
                            opI BinOp.sub IntKind.u64 n t * IntKind.u64.wrap r % 18446744073709551616 +
                          (0 * 18446744073709551616 + IntKind.u64.wrap q) <
                        340282366920938463463374607431768211456 then
                    opI BinOp.sub IntKind.u64 n t * IntKind.u64.wrap r / 18446744073709551616 * 18446744073709551616 +
                        opI BinOp.sub IntKind.u64 n t * IntKind.u64.wrap r % 18446744073709551616 +
                      (0 + IntKind.u64.wrap q)
                  else 0) /
                  18446744073709551616 *
                18446744073709551616 +
              (if
                    opI BinOp.sub IntKind.u64 n t * IntKind.u64.wrap r / 18446744073709551616 * 18446744073709551616 +
                          opI BinOp.sub IntKind.u64 n t * IntKind.u64.wrap r % 18446744073709551616 +
                        (0 * 18446744073709551616 + IntKind.u64.wrap q) <
                      340282366920938463463374607431768211456 then
                  opI BinOp.sub IntKind.u64 n t * IntKind.u64.wrap r / 18446744073709551616 * 18446744073709551616 +
                      opI BinOp.sub IntKind.u64 n t * IntKind.u64.wrap r % 18446744073709551616 +
                    (0 + IntKind.u64.wrap q)
                else 0) %
                18446744073709551616) %
            IntKind.u64.wrap p))),
    D.v (Value.int IntKind.u64 n)]) :
  CallsD Try.prog 73 [D.agg
    [D.v (Value.int IntKind.i64 b), D.v (Value.int IntKind.i64 r), D.v (Value.int IntKind.i64 p),
      D.v (Value.int IntKind.i64 v), D.v (Value.int IntKind.i64 q), D.v (Value.int IntKind.u64 t)],
  D.v (Value.int IntKind.u64 n)] res := by
  cases e0 : (cmpI BinOp.leq n t) with
  | true =>
    exact of_path hX20 (bfillA_p0 b r p v q t n) ⟨e0, trivial⟩ (h0 e0).2
  | false =>
    cases e1 : (cmpI BinOp.neq
  (if
      ((if
                      opI BinOp.sub IntKind.u64 n t * IntKind.u64.wrap r / 18446744073709551616 * 18446744073709551616 +
                            opI BinOp.sub IntKind.u64 n t * IntKind.u64.wrap r % 18446744073709551616 +
                          (0 * 18446744073709551616 + IntKind.u64.wrap q) <
                        340282366920938463463374607431768211456 then
                    opI BinOp.sub IntKind.u64 n t * IntKind.u64.wrap r / 18446744073709551616 * 18446744073709551616 +
                        opI BinOp.sub IntKind.u64 n t * IntKind.u64.wrap r % 18446744073709551616 +
                      (0 * 18446744073709551616 + IntKind.u64.wrap q)
                  else 0) /
                  18446744073709551616 *
                18446744073709551616 +
              (if
                    opI BinOp.sub IntKind.u64 n t * IntKind.u64.wrap r / 18446744073709551616 * 18446744073709551616 +
                          opI BinOp.sub IntKind.u64 n t * IntKind.u64.wrap r % 18446744073709551616 +
                        (0 * 18446744073709551616 + IntKind.u64.wrap q) <
                      340282366920938463463374607431768211456 then
                  opI BinOp.sub IntKind.u64 n t * IntKind.u64.wrap r / 18446744073709551616 * 18446744073709551616 +
                      opI BinOp.sub IntKind.u64 n t * IntKind.u64.wrap r % 18446744073709551616 +
                    (0 * 18446744073709551616 + IntKind.u64.wrap q)
                else 0) %
                18446744073709551616) /
            IntKind.u64.wrap p /
          18446744073709551616 =
        0 then
    0
  else 16)
  0) with
    | true =>
      exact of_path hX20 (bfillA_p1 b r p v q t n) ⟨e1, (h1 e0 e1).1.1, (h1 e0 e1).1.2.1, (h1 e0 e1).1.2.2.1, (h1 e0 e1).1.2.2.2.1, (h1 e0 e1).1.2.2.2.2.1, (h1 e0 e1).1.2.2.2.2.2.1, (h1 e0 e1).1.2.2.2.2.2.2.1, (h1 e0 e1).1.2.2.2.2.2.2.2.1, (h1 e0 e1).1.2.2.2.2.2.2.2.2.1, (h1 e0 e1).1.2.2.2.2.2.2.2.2.2.1, (h1 e0 e1).1.2.2.2.2.2.2.2.2.2.2.1, (h1 e0 e1).1.2.2.2.2.2.2.2.2.2.2.2.1, (h1 e0 e1).1.2.2.2.2.2.2.2.2.2.2.2.2.1, (h1 e0 e1).1.2.2.2.2.2.2.2.2.2.2.2.2.2.1, (h1 e0 e1).1.2.2.2.2.2.2.2.2.2.2.2.2.2.2.1, (h1 e0 e1).1.2.2.2.2.2.2.2.2.2.2.2.2.2.2.2.1, (h1 e0 e1).1.2.2.2.2.2.2.2.2.2.2.2.2.2.2.2.2.1, (h1 e0 e1).1.2.2.2.2.2.2.2.2.2.2.2.2.2.2.2.2.2.1, e0, trivial⟩ (h1 e0 e1).2
    | false =>
      cases e2 : (cmpI BinOp.geq
  (if
      ((if
                      opI BinOp.sub IntKind.u64 n t * IntKind.u64.wrap r / 18446744073709551616 * 18446744073709551616 +
                            opI BinOp.sub IntKind.u64 n t * IntKind.u64.wrap r % 18446744073709551616 +
                          (0 * 18446744073709551616 + IntKind.u64.wrap q) <
                        340282366920938463463374607431768211456 then
                    opI BinOp.sub IntKind.u64 n t * IntKind.u64.wrap r / 18446744073709551616 * 18446744073709551616 +
                        opI BinOp.sub IntKind.u64 n t * IntKind.u64.wrap r % 18446744073709551616 +
                      (0 * 18446744073709551616 + IntKind.u64.wrap q)
                  else 0) /
                  18446744073709551616 *
                18446744073709551616 +
              (if
                    opI BinOp.sub IntKind.u64 n t * IntKind.u64.wrap r / 18446744073709551616 * 18446744073709551616 +
                          opI BinOp.sub IntKind.u64 n t * IntKind.u64.wrap r % 18446744073709551616 +
                        (0 * 18446744073709551616 + IntKind.u64.wrap q) <
                      340282366920938463463374607431768211456 then
                  opI BinOp.sub IntKind.u64 n t * IntKind.u64.wrap r / 18446744073709551616 * 18446744073709551616 +
                      opI BinOp.sub IntKind.u64 n t * IntKind.u64.wrap r % 18446744073709551616 +
                    (0 * 18446744073709551616 + IntKind.u64.wrap q)
                else 0) %
                18446744073709551616) /
            IntKind.u64.wrap p /
          18446744073709551616 =
        0 then
    ((if
                  opI BinOp.sub IntKind.u64 n t * IntKind.u64.wrap r / 18446744073709551616 * 18446744073709551616 +
                        opI BinOp.sub IntKind.u64 n t * IntKind.u64.wrap r % 18446744073709551616 +
                      (0 * 18446744073709551616 + IntKind.u64.wrap q) <
                    340282366920938463463374607431768211456 then
                opI BinOp.sub IntKind.u64 n t * IntKind.u64.wrap r / 18446744073709551616 * 18446744073709551616 +
                    opI BinOp.sub IntKind.u64 n t * IntKind.u64.wrap r % 18446744073709551616 +
                  (0 + IntKind.u64.wrap q)
              else 0) /
              18446744073709551616 *
            18446744073709551616 +
          (if
                opI BinOp.sub IntKind.u64 n t * IntKind.u64.wrap r / 18446744073709551616 * 18446744073709551616 +
                      opI BinOp.sub IntKind.u64 n t * IntKind.u64.wrap r % 18446744073709551616 +
                    (0 * 18446744073709551616 + IntKind.u64.wrap q) <
                  340282366920938463463374607431768211456 then
              opI BinOp.sub IntKind.u64 n t * IntKind.u64.wrap r / 18446744073709551616 * 18446744073709551616 +
                  opI BinOp.sub IntKind.u64 n t * IntKind.u64.wrap r % 18446744073709551616 +
                (0 + IntKind.u64.wrap q)
            else 0) %
            18446744073709551616) /
        IntKind.u64.wrap p %
      18446744073709551616
  else 0)
  (IntKind.u64.wrap (opI BinOp.sub IntKind.i64 b v))) with
      | true =>
        exact of_path hX20 (bfillA_p2 b r p v q t n) ⟨e2, e1, (h2 e0 e1 e2).1.1, (h2 e0 e1 e2).1.2.1, (h2 e0 e1 e2).1.2.2.1, (h2 e0 e1 e2).1.2.2.2.1, (h2 e0 e1 e2).1.2.2.2.2.1, (h2 e0 e1 e2).1.2.2.2.2.2.1, (h2 e0 e1 e2).1.2.2.2.2.2.2.1, (h2 e0 e1 e2).1.2.2.2.2.2.2.2.1, (h2 e0 e1 e2).1.2.2.2.2.2.2.2.2.1, (h2 e0 e1 e2).1.2.2.2.2.2.2.2.2.2.1, (h2 e0 e1 e2).1.2.2.2.2.2.2.2.2.2.2.1, (h2 e0 e1 e2).1.2.2.2.2.2.2.2.2.2.2.2.1, (h2 e0 e1 e2).1.2.2.2.2.2.2.2.2.2.2.2.2.1, (h2 e0 e1 e2).1.2.2.2.2.2.2.2.2.2.2.2.2.2.1, (h2 e0 e1 e2).1.2.2.2.2.2.2.2.2.2.2.2.2.2.2.1, (h2 e0 e1 e2).1.2.2.2.2.2.2.2.2.2.2.2.2.2.2.2.1, (h2 e0 e1 e2).1.2.2.2.2.2.2.2.2.2.2.2.2.2.2.2.2.1, (h2 e0 e1 e2).1.2.2.2.2.2.2.2.2.2.2.2.2.2.2.2.2.2.1, e0, trivial⟩ (h2 e0 e1 e2).2
      | false =>
        exact of_path hX20 (bfillA_p3 b r p v q t n) ⟨e2, e1, (h3 e0 e1 e2).1.1, (h3 e0 e1 e2).1.2.1, (h3 e0 e1 e2).1.2.2.1, (h3 e0 e1 e2).1.2.2.2.1, (h3 e0 e1 e2).1.2.2.2.2.1, (h3 e0 e1 e2).1.2.2.2.2.2.1, (h3 e0 e1 e2).1.2.2.2.2.2.2.1, (h3 e0 e1 e2).1.2.2.2.2.2.2.2.1, (h3 e0 e1 e2).1.2.2.2.2.2.2.2.2.1, (h3 e0 e1 e2).1.2.2.2.2.2.2.2.2.2.1, (h3 e0 e1 e2).1.2.2.2.2.2.2.2.2.2.2.1, (h3 e0 e1 e2).1.2.2.2.2.2.2.2.2.2.2.2.1, (h3 e0 e1 e2).1.2.2.2.2.2.2.2.2.2.2.2.2.1, (h3 e0 e1 e2).1.2.2.2.2.2.2.2.2.2.2.2.2.2.1, (h3 e0 e1 e2).1.2.2.2.2.2.2.2.2.2.2.2.2.2.2.1, (h3 e0 e1 e2).1.2.2.2.2.2.2.2.2.2.2.2.2.2.2.2.1, (h3 e0 e1 e2).1.2.2.2.2.2.2.2.2.2.2.2.2.2.2.2.2.1, (h3 e0 e1 e2).1.2.2.2.2.2.2.2.2.2.2.2.2.2.2.2.2.2.1, e0, trivial⟩ (h3 e0 e1 e2).2
theorem bfillA_ok (b r p v q t n : Int) (h : bkE b r p v q = 0) (t0 : 0 ≤ t) (t1 : t < 18446744073709551616) (n0 : 0 ≤ n) (n1 : n < 18446744073709551616) :
    CallsD Try.prog 73 [.agg [i64 b, i64 r, i64 p, i64 v, i64 q, u64 t], u64 n] (.agg [i64 b, i64 r, i64 p, i64 (fiV b r p v q t n), i64 (fiQ b r p v q t n), u64 (fiT t n)]) := by
  obtain ⟨hl, v0, vb, q0, qp, _⟩ := bkE_is h
  obtain ⟨b0, b1, r0, r1, p0, p1⟩ := limE_is hl
  by_cases hn : n ≤ t
  · refine bfillA_calls b r p v q t n _ ?_ ?_ ?_ ?_
    · intro _; refine ⟨trivial, ?_⟩; unfold fiV fiQ fiT; rw [if_pos hn, if_pos hn, if_pos hn]
    all_goals
      intro a; rw [leq_f] at a; omega
  · have wr : IntKind.wrap .u64 r = r := wrap_u64_of (by omega) (by omega)
    have wp : IntKind.wrap .u64 p = p := wrap_u64_of (by omega) (by omega)
    have wq : IntKind.wrap .u64 q = q := wrap_u64_of (by omega) (by omega)
    have es : opI .sub .u64 n t = n - t := by rw [opI_sub, wrap_u64]; omega
    have eb : opI .sub .i64 b v = b - v := by rw [opI_sub, wrap_i64_of (by omega) (by omega)]
    have wb : IntKind.wrap .u64 (b - v) = b - v := wrap_u64_of (by omega) (by omega)
    obtain ⟨m0, m1⟩ := mul_in (t := n - t) (r := r) (by omega) (by omega) r0 r1
    have hS : (n - t) * r + q < 340282366920938463463374607431768211456 := by omega
    have d0 : 0 ≤ ((n - t) * r + q) / p := Int.ediv_nonneg (by omega) (by omega)
    have d1 : ((n - t) * r + q) / p ≤ ((n - t) * r + q) := Int.ediv_le_self _ (by omega)
    have e0 := Int.emod_nonneg (((n - t) * r + q)) (show p ≠ 0 by omega)
    have e1 := Int.emod_lt_of_pos (((n - t) * r + q)) (show 0 < p by omega)
    have hT : fiT t n = n := by unfold fiT; rw [if_neg hn]
    have hA : b - v ≤ ((n - t) * r + q) / p → fiV b r p v q t n = b ∧ fiQ b r p v q t n = 0 := fun g => by
      have g : b - v ≤ inN r q t n / p := g
      unfold fiV fiQ; rw [if_neg hn, if_neg hn, if_pos g, if_pos g]; exact ⟨rfl, rfl⟩
    have hB : ¬ b - v ≤ ((n - t) * r + q) / p → fiV b r p v q t n = v + ((n - t) * r + q) / p ∧ fiQ b r p v q t n = ((n - t) * r + q) % p := fun g => by
      have g : ¬ b - v ≤ inN r q t n / p := g
      unfold fiV fiQ; rw [if_neg hn, if_neg hn, if_neg g, if_neg g]; exact ⟨rfl, rfl⟩
    refine bfillA_calls b r p v q t n _ ?_ ?_ ?_ ?_
    all_goals simp only [wr, wp, wq, es, eb, wb, fold64', Int.zero_mul, Int.zero_add, if_pos hS, leq_t, leq_f]
    · intro a; omega
    · intro _ a
      have g : ¬ ((n - t) * r + q) / p / 18446744073709551616 = 0 := fun g => by simp only [if_pos g] at a; cases a
      refine ⟨by simp only [and_true]; omega, ?_⟩
      obtain ⟨z1, z2⟩ := hA (by omega)
      rw [z1, z2, hT]
    · intro _ a a2
      have g : ((n - t) * r + q) / p / 18446744073709551616 = 0 := by
        by_cases g : ((n - t) * r + q) / p / 18446744073709551616 = 0
        · exact g
        · simp only [if_neg g] at a; cases a
      simp only [if_pos g, geq_t] at a2
      refine ⟨by simp only [and_true]; omega, ?_⟩
      obtain ⟨z1, z2⟩ := hA (by omega)
      rw [z1, z2, hT]
    · intro _ a a2
      have g : ((n - t) * r + q) / p / 18446744073709551616 = 0 := by
        by_cases g : ((n - t) * r + q) / p / 18446744073709551616 = 0
        · exact g
        · simp only [if_neg g] at a; cases a
      simp only [if_pos g, geq_f] at a2 ⊢
      refine ⟨by simp only [and_true]; omega, ?_⟩
      obtain ⟨z1, z2⟩ := hB (by omega)
      rw [z1, z2, hT]
      have g1 : ((n - t) * r + q) / p % 18446744073709551616 = ((n - t) * r + q) / p := by omega
      have g2 : ((n - t) * r + q) / p < b - v := by omega
      rw [g1, wrap_i64_of (n := ((n - t) * r + q) / p) (by omega) (by omega), wrap_i64_of (n := ((n - t) * r + q) % p) (by omega) (by omega), opI_add, wrap_i64_of (by omega) (by omega)]
end MeterS

namespace MeterS
open Go Go.Dam Go.Proofs
set_option maxRecDepth 1000000
set_option linter.unusedVariables false
set_option linter.unusedSectionVars false
set_option linter.unusedSimpArgs false
variable [Glo]
def bkC : List D → Option (D × List Prop)
  | [.agg [.v (.int .i64 b), .v (.int .i64 r), .v (.int .i64 p), .v (.int .i64 v), .v (.int .i64 q), .v (.int .u64 t)]] => some (i64 (bkE b r p v q), [-9223372036854775808 ≤ v, v < 9223372036854775808])
  | _ => none
theorem bkC_okA (args res l) (h : bkC args = some (res, l)) (hl : AllP l) : CallsD Try.prog 45 args res := by
  unfold bkC at h; split at h
  · simp only [Option.some.injEq, Prod.mk.injEq] at h
    obtain ⟨rfl, rfl⟩ := h; obtain ⟨h0, h1, _⟩ := hl
    exact bchkA_ok _ _ _ _ _ _ h0 h1
  · cases h
theorem bchkB_ok' (b r p v q t : Int) (v0 : -9223372036854775808 ≤ v) (v1 : v < 9223372036854775808) : CallsD Try.prog 11 [.agg [i64 b, i64 r, i64 p, i64 v, i64 q, u64 t]] (i64 (bkE b r p v q)) := bchkB_ok b r p v q t
theorem bkC_okB (args res l) (h : bkC args = some (res, l)) (hl : AllP l) : CallsD Try.prog 11 args res := by
  unfold bkC at h; split at h
  · simp only [Option.some.injEq, Prod.mk.injEq] at h
    obtain ⟨rfl, rfl⟩ := h; obtain ⟨h0, h1, _⟩ := hl
    exact bchkB_ok' _ _ _ _ _ _ h0 h1
  · cases h
def fiC : List D → Option (D × List Prop)
  | [.agg [.v (.int .i64 b), .v (.int .i64 r), .v (.int .i64 p), .v (.int .i64 v), .v (.int .i64 q), .v (.int .u64 t)], .v (.int .u64 n)] => some (.agg [i64 b, i64 r, i64 p, i64 (fiV b r p v q t n), i64 (fiQ b r p v q t n), u64 (fiT t n)], [bkE b r p v q = 0, 0 ≤ t, t < 18446744073709551616, 0 ≤ n, n < 18446744073709551616])
  | _ => none
theorem fiC_okA (args res l) (h : fiC args = some (res, l)) (hl : AllP l) : CallsD Try.prog 73 args res := by
  unfold fiC at h; split at h
  · simp only [Option.some.injEq, Prod.mk.injEq] at h
    obtain ⟨rfl, rfl⟩ := h; obtain ⟨h0, h1, h2, h3, h4, _⟩ := hl
    exact bfillA_ok _ _ _ _ _ _ _ h0 h1 h2 h3 h4
  · cases h
def X21 : Contracts := addCon 45 (.call bkC) (addCon 11 (.call bkC) (addCon 73 (.call fiC) X20))
theorem hX21 : ConOK Try.prog X21 := addCall_ok bkC_okA (addCall_ok bkC_okB (addCall_ok fiC_okA hX20))
end MeterS
