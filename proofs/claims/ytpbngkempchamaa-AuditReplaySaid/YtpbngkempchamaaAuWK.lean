/- The functions of the folder audit and what they reach: what they compute. No condition. -/
import Derived.Test.YtpbngkempchamaaAuWI
set_option linter.unusedSectionVars false
set_option linter.unusedVariables false
set_option linter.unusedSimpArgs false
namespace MeterS
open Go Go.Dam Go.Proofs
set_option maxRecDepth 1000000
set_option linter.unusedVariables false
set_option linter.unusedSectionVars false
set_option linter.unusedSimpArgs false
theorem most_max (p q : Int) : mostI .gtr p q = max p q := by
  unfold mostI
  cases h : cmpI .gtr q p with
  | true => rw [gtr_t] at h; show q = max p q; omega
  | false => rw [gtr_f] at h; show p = max p q; omega
variable [Glo]

theorem lTake_p0 (b r p v q t b1 r1 p1 v1 q1 t1 b2 r2 p2 v2 q2 t2 n c : Int) : fnX Try.prog X23 100000 [.c 0, PE.u, .c 0, .d true, .d true] 30 [D.sh 3 (bk1 b r p v q t ++ bk1 b1 r1 p1 v1 q1 t1 ++ bk1 b2 r2 p2 v2 q2 t2), u64 n, i64 c] = some (D.tup [D.v (Value.slice none 0 0), bo false, i64 (bkE b r p v q)], [cmpI BinOp.neq (bkE b r p v q) 0 = true, cmpI BinOp.neq (bkE b r p v q) 0 = true, -9223372036854775808 ≤ v, v < 9223372036854775808]) := by kernel_rfl
theorem lTake_p1 (b r p v q t b1 r1 p1 v1 q1 t1 b2 r2 p2 v2 q2 t2 n c : Int) : fnX Try.prog X23 100000 [.c 0, PE.u, .c 0, .d false, .c 0, .d true, .d true] 30 [D.sh 3 (bk1 b r p v q t ++ bk1 b1 r1 p1 v1 q1 t1 ++ bk1 b2 r2 p2 v2 q2 t2), u64 n, i64 c] = some (D.tup [D.v (Value.slice none 0 0), bo false, i64 (bkE b1 r1 p1 v1 q1)], [cmpI BinOp.neq (bkE b1 r1 p1 v1 q1) 0 = true, cmpI BinOp.neq (bkE b1 r1 p1 v1 q1) 0 = true, -9223372036854775808 ≤ v1, v1 < 9223372036854775808, cmpI BinOp.neq (bkE b r p v q) 0 = false, -9223372036854775808 ≤ v, v < 9223372036854775808]) := by kernel_rfl
theorem lTake_p2 (b r p v q t b1 r1 p1 v1 q1 t1 b2 r2 p2 v2 q2 t2 n c : Int) : fnX Try.prog X23 100000 [.c 0, PE.u, .c 0, .d false, .c 0, .d false, .c 0, .d true, .d true] 30 [D.sh 3 (bk1 b r p v q t ++ bk1 b1 r1 p1 v1 q1 t1 ++ bk1 b2 r2 p2 v2 q2 t2), u64 n, i64 c] = some (D.tup [D.v (Value.slice none 0 0), bo false, i64 (bkE b2 r2 p2 v2 q2)], [cmpI BinOp.neq (bkE b2 r2 p2 v2 q2) 0 = true, cmpI BinOp.neq (bkE b2 r2 p2 v2 q2) 0 = true, -9223372036854775808 ≤ v2, v2 < 9223372036854775808, cmpI BinOp.neq (bkE b1 r1 p1 v1 q1) 0 = false, -9223372036854775808 ≤ v1, v1 < 9223372036854775808, cmpI BinOp.neq (bkE b r p v q) 0 = false, -9223372036854775808 ≤ v, v < 9223372036854775808]) := by kernel_rfl
theorem lTake_p3 (b r p v q t b1 r1 p1 v1 q1 t1 b2 r2 p2 v2 q2 t2 n c : Int) : fnX Try.prog X23 100000 [.c 0, PE.u, .c 0, .d false, .c 0, .d false, .c 0, .d false, .c 0, PE.u, .c 0, .d true, .c 1] 30 [D.sh 3 (bk1 b r p v q t ++ bk1 b1 r1 p1 v1 q1 t1 ++ bk1 b2 r2 p2 v2 q2 t2), u64 n, i64 c] = some (D.tup [D.v (Value.slice none 0 0), bo false, i64 2], [cmpI BinOp.lss c 0 = true, cmpI BinOp.neq (bkE b2 r2 p2 v2 q2) 0 = false, -9223372036854775808 ≤ v2, v2 < 9223372036854775808, cmpI BinOp.neq (bkE b1 r1 p1 v1 q1) 0 = false, -9223372036854775808 ≤ v1, v1 < 9223372036854775808, cmpI BinOp.neq (bkE b r p v q) 0 = false, -9223372036854775808 ≤ v, v < 9223372036854775808]) := by kernel_rfl
theorem lTake_p4 (b r p v q t b1 r1 p1 v1 q1 t1 b2 r2 p2 v2 q2 t2 n c : Int) : fnX Try.prog X23 100000 [.c 0, PE.u, .c 0, .d false, .c 0, .d false, .c 0, .d false, .c 0, PE.u, .c 0, .d false, .c 2] 30 [D.sh 3 (bk1 b r p v q t ++ bk1 b1 r1 p1 v1 q1 t1 ++ bk1 b2 r2 p2 v2 q2 t2), u64 n, i64 c] = some (D.tup [D.ow 3 6 [i64 b, i64 r, i64 p, i64 (lv (tk3 c (fiV b r p v q t n) (fiV b1 r1 p1 v1 q1 t1 n) (fiV b2 r2 p2 v2 q2 t2 n)) (fiV b r p v q t n) c), i64 (fiQ b r p v q t n), u64 (fiT t n), i64 b1, i64 r1, i64 p1, i64 (lv (tk3 c (fiV b r p v q t n) (fiV b1 r1 p1 v1 q1 t1 n) (fiV b2 r2 p2 v2 q2 t2 n)) (fiV b1 r1 p1 v1 q1 t1 n) c), i64 (fiQ b1 r1 p1 v1 q1 t1 n), u64 (fiT t1 n), i64 b2, i64 r2, i64 p2, i64 (lv (tk3 c (fiV b r p v q t n) (fiV b1 r1 p1 v1 q1 t1 n) (fiV b2 r2 p2 v2 q2 t2 n)) (fiV b2 r2 p2 v2 q2 t2 n) c), i64 (fiQ b2 r2 p2 v2 q2 t2 n), u64 (fiT t2 n)], D.v (Value.bool (tk3 c (fiV b r p v q t n) (fiV b1 r1 p1 v1 q1 t1 n) (fiV b2 r2 p2 v2 q2 t2 n))), i64 0], [bkE b r p v q = 0, bkE b1 r1 p1 v1 q1 = 0, bkE b2 r2 p2 v2 q2 = 0, 0 ≤ t, t < 18446744073709551616, 0 ≤ t1, t1 < 18446744073709551616, 0 ≤ t2, t2 < 18446744073709551616, 0 ≤ n, n < 18446744073709551616, 0 ≤ c, c < 9223372036854775808, cmpI BinOp.lss c 0 = false, cmpI BinOp.neq (bkE b2 r2 p2 v2 q2) 0 = false, -9223372036854775808 ≤ v2, v2 < 9223372036854775808, cmpI BinOp.neq (bkE b1 r1 p1 v1 q1) 0 = false, -9223372036854775808 ≤ v1, v1 < 9223372036854775808, cmpI BinOp.neq (bkE b r p v q) 0 = false, -9223372036854775808 ≤ v, v < 9223372036854775808]) := by kernel_rfl
theorem lTake_calls (b r p v q t b1 r1 p1 v1 q1 t1 b2 r2 p2 v2 q2 t2 n c : Int) (res : D)
  (h0 : ((cmpI BinOp.neq (bkE b r p v q) 0) = true) → ((-9223372036854775808 ≤ v) ∧ (v < 9223372036854775808) ∧ True) ∧ res = D.tup [D.v (Value.slice none 0 0), bo false, i64 (bkE b r p v q)])
  (h1 : ((cmpI BinOp.neq (bkE b r p v q) 0) = false) → ((cmpI BinOp.neq (bkE b1 r1 p1 v1 q1) 0) = true) → ((-9223372036854775808 ≤ v1) ∧ (v1 < 9223372036854775808) ∧ (-9223372036854775808 ≤ v) ∧ (v < 9223372036854775808) ∧ True) ∧ res = D.tup [D.v (Value.slice none 0 0), bo false, i64 (bkE b1 r1 p1 v1 q1)])
  (h2 : ((cmpI BinOp.neq (bkE b r p v q) 0) = false) → ((cmpI BinOp.neq (bkE b1 r1 p1 v1 q1) 0) = false) → ((cmpI BinOp.neq (bkE b2 r2 p2 v2 q2) 0) = true) → ((-9223372036854775808 ≤ v2) ∧ (v2 < 9223372036854775808) ∧ (-9223372036854775808 ≤ v1) ∧ (v1 < 9223372036854775808) ∧ (-9223372036854775808 ≤ v) ∧ (v < 9223372036854775808) ∧ True) ∧ res = D.tup [D.v (Value.slice none 0 0), bo false, i64 (bkE b2 r2 p2 v2 q2)])
  (h3 : ((cmpI BinOp.neq (bkE b r p v q) 0) = false) → ((cmpI BinOp.neq (bkE b1 r1 p1 v1 q1) 0) = false) → ((cmpI BinOp.neq (bkE b2 r2 p2 v2 q2) 0) = false) → ((cmpI BinOp.lss c 0) = true) → ((-9223372036854775808 ≤ v2) ∧ (v2 < 9223372036854775808) ∧ (-9223372036854775808 ≤ v1) ∧ (v1 < 9223372036854775808) ∧ (-9223372036854775808 ≤ v) ∧ (v < 9223372036854775808) ∧ True) ∧ res = D.tup [D.v (Value.slice none 0 0), bo false, i64 2])
  (h4 : ((cmpI BinOp.neq (bkE b r p v q) 0) = false) → ((cmpI BinOp.neq (bkE b1 r1 p1 v1 q1) 0) = false) → ((cmpI BinOp.neq (bkE b2 r2 p2 v2 q2) 0) = false) → ((cmpI BinOp.lss c 0) = false) → ((bkE b r p v q = 0) ∧ (bkE b1 r1 p1 v1 q1 = 0) ∧ (bkE b2 r2 p2 v2 q2 = 0) ∧ (0 ≤ t) ∧ (t < 18446744073709551616) ∧ (0 ≤ t1) ∧ (t1 < 18446744073709551616) ∧ (0 ≤ t2) ∧ (t2 < 18446744073709551616) ∧ (0 ≤ n) ∧ (n < 18446744073709551616) ∧ (0 ≤ c) ∧ (c < 9223372036854775808) ∧ (-9223372036854775808 ≤ v2) ∧ (v2 < 9223372036854775808) ∧ (-9223372036854775808 ≤ v1) ∧ (v1 < 9223372036854775808) ∧ (-9223372036854775808 ≤ v) ∧ (v < 9223372036854775808) ∧ True) ∧ res = D.tup [D.ow 3 6 [i64 b, i64 r, i64 p, i64 (lv (tk3 c (fiV b r p v q t n) (fiV b1 r1 p1 v1 q1 t1 n) (fiV b2 r2 p2 v2 q2 t2 n)) (fiV b r p v q t n) c), i64 (fiQ b r p v q t n), u64 (fiT t n), i64 b1, i64 r1, i64 p1, i64 (lv (tk3 c (fiV b r p v q t n) (fiV b1 r1 p1 v1 q1 t1 n) (fiV b2 r2 p2 v2 q2 t2 n)) (fiV b1 r1 p1 v1 q1 t1 n) c), i64 (fiQ b1 r1 p1 v1 q1 t1 n), u64 (fiT t1 n), i64 b2, i64 r2, i64 p2, i64 (lv (tk3 c (fiV b r p v q t n) (fiV b1 r1 p1 v1 q1 t1 n) (fiV b2 r2 p2 v2 q2 t2 n)) (fiV b2 r2 p2 v2 q2 t2 n) c), i64 (fiQ b2 r2 p2 v2 q2 t2 n), u64 (fiT t2 n)], D.v (Value.bool (tk3 c (fiV b r p v q t n) (fiV b1 r1 p1 v1 q1 t1 n) (fiV b2 r2 p2 v2 q2 t2 n))), i64 0]) : CallsD Try.prog 30 [D.sh 3 (bk1 b r p v q t ++ bk1 b1 r1 p1 v1 q1 t1 ++ bk1 b2 r2 p2 v2 q2 t2), u64 n, i64 c] res := by
  cases e0 : (cmpI BinOp.neq (bkE b r p v q) 0) with
  | true =>
    exact of_path hX23 (lTake_p0 b r p v q t b1 r1 p1 v1 q1 t1 b2 r2 p2 v2 q2 t2 n c) ⟨e0, e0, (h0 e0).1.1, (h0 e0).1.2.1, trivial⟩ (h0 e0).2
  | false =>
    cases e1 : (cmpI BinOp.neq (bkE b1 r1 p1 v1 q1) 0) with
    | true =>
      exact of_path hX23 (lTake_p1 b r p v q t b1 r1 p1 v1 q1 t1 b2 r2 p2 v2 q2 t2 n c) ⟨e1, e1, (h1 e0 e1).1.1, (h1 e0 e1).1.2.1, e0, (h1 e0 e1).1.2.2.1, (h1 e0 e1).1.2.2.2.1, trivial⟩ (h1 e0 e1).2
    | false =>
      cases e2 : (cmpI BinOp.neq (bkE b2 r2 p2 v2 q2) 0) with
      | true =>
        exact of_path hX23 (lTake_p2 b r p v q t b1 r1 p1 v1 q1 t1 b2 r2 p2 v2 q2 t2 n c) ⟨e2, e2, (h2 e0 e1 e2).1.1, (h2 e0 e1 e2).1.2.1, e1, (h2 e0 e1 e2).1.2.2.1, (h2 e0 e1 e2).1.2.2.2.1, e0, (h2 e0 e1 e2).1.2.2.2.2.1, (h2 e0 e1 e2).1.2.2.2.2.2.1, trivial⟩ (h2 e0 e1 e2).2
      | false =>
        cases e3 : (cmpI BinOp.lss c 0) with
        | true =>
          exact of_path hX23 (lTake_p3 b r p v q t b1 r1 p1 v1 q1 t1 b2 r2 p2 v2 q2 t2 n c) ⟨e3, e2, (h3 e0 e1 e2 e3).1.1, (h3 e0 e1 e2 e3).1.2.1, e1, (h3 e0 e1 e2 e3).1.2.2.1, (h3 e0 e1 e2 e3).1.2.2.2.1, e0, (h3 e0 e1 e2 e3).1.2.2.2.2.1, (h3 e0 e1 e2 e3).1.2.2.2.2.2.1, trivial⟩ (h3 e0 e1 e2 e3).2
        | false =>
          exact of_path hX23 (lTake_p4 b r p v q t b1 r1 p1 v1 q1 t1 b2 r2 p2 v2 q2 t2 n c) ⟨(h4 e0 e1 e2 e3).1.1, (h4 e0 e1 e2 e3).1.2.1, (h4 e0 e1 e2 e3).1.2.2.1, (h4 e0 e1 e2 e3).1.2.2.2.1, (h4 e0 e1 e2 e3).1.2.2.2.2.1, (h4 e0 e1 e2 e3).1.2.2.2.2.2.1, (h4 e0 e1 e2 e3).1.2.2.2.2.2.2.1, (h4 e0 e1 e2 e3).1.2.2.2.2.2.2.2.1, (h4 e0 e1 e2 e3).1.2.2.2.2.2.2.2.2.1, (h4 e0 e1 e2 e3).1.2.2.2.2.2.2.2.2.2.1, (h4 e0 e1 e2 e3).1.2.2.2.2.2.2.2.2.2.2.1, (h4 e0 e1 e2 e3).1.2.2.2.2.2.2.2.2.2.2.2.1, (h4 e0 e1 e2 e3).1.2.2.2.2.2.2.2.2.2.2.2.2.1, e3, e2, (h4 e0 e1 e2 e3).1.2.2.2.2.2.2.2.2.2.2.2.2.2.1, (h4 e0 e1 e2 e3).1.2.2.2.2.2.2.2.2.2.2.2.2.2.2.1, e1, (h4 e0 e1 e2 e3).1.2.2.2.2.2.2.2.2.2.2.2.2.2.2.2.1, (h4 e0 e1 e2 e3).1.2.2.2.2.2.2.2.2.2.2.2.2.2.2.2.2.1, e0, (h4 e0 e1 e2 e3).1.2.2.2.2.2.2.2.2.2.2.2.2.2.2.2.2.2.1, (h4 e0 e1 e2 e3).1.2.2.2.2.2.2.2.2.2.2.2.2.2.2.2.2.2.2.1, trivial⟩ (h4 e0 e1 e2 e3).2

theorem lWait_p0 (b r p v q t b1 r1 p1 v1 q1 t1 b2 r2 p2 v2 q2 t2 c : Int) : fnX Try.prog X23 100000 [.c 0, PE.u, .c 0, .d true, .d true] 31 [D.sh 3 (bk1 b r p v q t ++ bk1 b1 r1 p1 v1 q1 t1 ++ bk1 b2 r2 p2 v2 q2 t2), i64 c] = some (D.tup [u64 0, i64 (bkE b r p v q)], [cmpI BinOp.neq (bkE b r p v q) 0 = true, cmpI BinOp.neq (bkE b r p v q) 0 = true, -9223372036854775808 ≤ v, v < 9223372036854775808]) := by kernel_rfl
theorem lWait_p1 (b r p v q t b1 r1 p1 v1 q1 t1 b2 r2 p2 v2 q2 t2 c : Int) : fnX Try.prog X23 100000 [.c 0, PE.u, .c 0, .d false, .c 0, .d true, .d true] 31 [D.sh 3 (bk1 b r p v q t ++ bk1 b1 r1 p1 v1 q1 t1 ++ bk1 b2 r2 p2 v2 q2 t2), i64 c] = some (D.tup [u64 0, i64 (bkE b1 r1 p1 v1 q1)], [cmpI BinOp.neq (bkE b1 r1 p1 v1 q1) 0 = true, cmpI BinOp.neq (bkE b1 r1 p1 v1 q1) 0 = true, -9223372036854775808 ≤ v1, v1 < 9223372036854775808, cmpI BinOp.neq (bkE b r p v q) 0 = false, -9223372036854775808 ≤ v, v < 9223372036854775808]) := by kernel_rfl
theorem lWait_p2 (b r p v q t b1 r1 p1 v1 q1 t1 b2 r2 p2 v2 q2 t2 c : Int) : fnX Try.prog X23 100000 [.c 0, PE.u, .c 0, .d false, .c 0, .d false, .c 0, .d true, .d true] 31 [D.sh 3 (bk1 b r p v q t ++ bk1 b1 r1 p1 v1 q1 t1 ++ bk1 b2 r2 p2 v2 q2 t2), i64 c] = some (D.tup [u64 0, i64 (bkE b2 r2 p2 v2 q2)], [cmpI BinOp.neq (bkE b2 r2 p2 v2 q2) 0 = true, cmpI BinOp.neq (bkE b2 r2 p2 v2 q2) 0 = true, -9223372036854775808 ≤ v2, v2 < 9223372036854775808, cmpI BinOp.neq (bkE b1 r1 p1 v1 q1) 0 = false, -9223372036854775808 ≤ v1, v1 < 9223372036854775808, cmpI BinOp.neq (bkE b r p v q) 0 = false, -9223372036854775808 ≤ v, v < 9223372036854775808]) := by kernel_rfl
theorem lWait_p3 (b r p v q t b1 r1 p1 v1 q1 t1 b2 r2 p2 v2 q2 t2 c : Int) : fnX Try.prog X23 100000 [.c 0, PE.u, .c 0, .d false, .c 0, .d false, .c 0, .d false, .c 0, PE.u, .c 0, .d true, .c 1] 31 [D.sh 3 (bk1 b r p v q t ++ bk1 b1 r1 p1 v1 q1 t1 ++ bk1 b2 r2 p2 v2 q2 t2), i64 c] = some (D.tup [u64 0, i64 2], [cmpI BinOp.lss c 0 = true, cmpI BinOp.neq (bkE b2 r2 p2 v2 q2) 0 = false, -9223372036854775808 ≤ v2, v2 < 9223372036854775808, cmpI BinOp.neq (bkE b1 r1 p1 v1 q1) 0 = false, -9223372036854775808 ≤ v1, v1 < 9223372036854775808, cmpI BinOp.neq (bkE b r p v q) 0 = false, -9223372036854775808 ≤ v, v < 9223372036854775808]) := by kernel_rfl
theorem lWait_p4 (b r p v q t b1 r1 p1 v1 q1 t1 b2 r2 p2 v2 q2 t2 c : Int) : fnX Try.prog X23 100000 [.c 0, PE.u, .c 0, .d false, .c 0, .d false, .c 0, .d false, .c 0, PE.u, .c 0, .d false, .c 2, PE.u, .c 3] 31 [D.sh 3 (bk1 b r p v q t ++ bk1 b1 r1 p1 v1 q1 t1 ++ bk1 b2 r2 p2 v2 q2 t2), i64 c] = some (D.tup [u64 (mostI BinOp.gtr (mostI BinOp.gtr (mostI BinOp.gtr 0 (waN b r p v q t c)) (waN b1 r1 p1 v1 q1 t1 c)) (waN b2 r2 p2 v2 q2 t2 c)), i64 0], [bkE b2 r2 p2 v2 q2 = 0, 0 ≤ t2, t2 < 18446744073709551616, 0 ≤ c, c < 9223372036854775808, bkE b1 r1 p1 v1 q1 = 0, 0 ≤ t1, t1 < 18446744073709551616, 0 ≤ c, c < 9223372036854775808, bkE b r p v q = 0, 0 ≤ t, t < 18446744073709551616, 0 ≤ c, c < 9223372036854775808, cmpI BinOp.lss c 0 = false, cmpI BinOp.neq (bkE b2 r2 p2 v2 q2) 0 = false, -9223372036854775808 ≤ v2, v2 < 9223372036854775808, cmpI BinOp.neq (bkE b1 r1 p1 v1 q1) 0 = false, -9223372036854775808 ≤ v1, v1 < 9223372036854775808, cmpI BinOp.neq (bkE b r p v q) 0 = false, -9223372036854775808 ≤ v, v < 9223372036854775808]) := by kernel_rfl
theorem lWait_calls (b r p v q t b1 r1 p1 v1 q1 t1 b2 r2 p2 v2 q2 t2 c : Int) (res : D)
  (h0 : ((cmpI BinOp.neq (bkE b r p v q) 0) = true) → ((-9223372036854775808 ≤ v) ∧ (v < 9223372036854775808) ∧ True) ∧ res = D.tup [u64 0, i64 (bkE b r p v q)])
  (h1 : ((cmpI BinOp.neq (bkE b r p v q) 0) = false) → ((cmpI BinOp.neq (bkE b1 r1 p1 v1 q1) 0) = true) → ((-9223372036854775808 ≤ v1) ∧ (v1 < 9223372036854775808) ∧ (-9223372036854775808 ≤ v) ∧ (v < 9223372036854775808) ∧ True) ∧ res = D.tup [u64 0, i64 (bkE b1 r1 p1 v1 q1)])
  (h2 : ((cmpI BinOp.neq (bkE b r p v q) 0) = false) → ((cmpI BinOp.neq (bkE b1 r1 p1 v1 q1) 0) = false) → ((cmpI BinOp.neq (bkE b2 r2 p2 v2 q2) 0) = true) → ((-9223372036854775808 ≤ v2) ∧ (v2 < 9223372036854775808) ∧ (-9223372036854775808 ≤ v1) ∧ (v1 < 9223372036854775808) ∧ (-9223372036854775808 ≤ v) ∧ (v < 9223372036854775808) ∧ True) ∧ res = D.tup [u64 0, i64 (bkE b2 r2 p2 v2 q2)])
  (h3 : ((cmpI BinOp.neq (bkE b r p v q) 0) = false) → ((cmpI BinOp.neq (bkE b1 r1 p1 v1 q1) 0) = false) → ((cmpI BinOp.neq (bkE b2 r2 p2 v2 q2) 0) = false) → ((cmpI BinOp.lss c 0) = true) → ((-9223372036854775808 ≤ v2) ∧ (v2 < 9223372036854775808) ∧ (-9223372036854775808 ≤ v1) ∧ (v1 < 9223372036854775808) ∧ (-9223372036854775808 ≤ v) ∧ (v < 9223372036854775808) ∧ True) ∧ res = D.tup [u64 0, i64 2])
  (h4 : ((cmpI BinOp.neq (bkE b r p v q) 0) = false) → ((cmpI BinOp.neq (bkE b1 r1 p1 v1 q1) 0) = false) → ((cmpI BinOp.neq (bkE b2 r2 p2 v2 q2) 0) = false) → ((cmpI BinOp.lss c 0) = false) → ((bkE b2 r2 p2 v2 q2 = 0) ∧ (0 ≤ t2) ∧ (t2 < 18446744073709551616) ∧ (0 ≤ c) ∧ (c < 9223372036854775808) ∧ (bkE b1 r1 p1 v1 q1 = 0) ∧ (0 ≤ t1) ∧ (t1 < 18446744073709551616) ∧ (0 ≤ c) ∧ (c < 9223372036854775808) ∧ (bkE b r p v q = 0) ∧ (0 ≤ t) ∧ (t < 18446744073709551616) ∧ (0 ≤ c) ∧ (c < 9223372036854775808) ∧ (-9223372036854775808 ≤ v2) ∧ (v2 < 9223372036854775808) ∧ (-9223372036854775808 ≤ v1) ∧ (v1 < 9223372036854775808) ∧ (-9223372036854775808 ≤ v) ∧ (v < 9223372036854775808) ∧ True) ∧ res = D.tup [u64 (mostI BinOp.gtr (mostI BinOp.gtr (mostI BinOp.gtr 0 (waN b r p v q t c)) (waN b1 r1 p1 v1 q1 t1 c)) (waN b2 r2 p2 v2 q2 t2 c)), i64 0]) : CallsD Try.prog 31 [D.sh 3 (bk1 b r p v q t ++ bk1 b1 r1 p1 v1 q1 t1 ++ bk1 b2 r2 p2 v2 q2 t2), i64 c] res := by
  cases e0 : (cmpI BinOp.neq (bkE b r p v q) 0) with
  | true =>
    exact of_path hX23 (lWait_p0 b r p v q t b1 r1 p1 v1 q1 t1 b2 r2 p2 v2 q2 t2 c) ⟨e0, e0, (h0 e0).1.1, (h0 e0).1.2.1, trivial⟩ (h0 e0).2
  | false =>
    cases e1 : (cmpI BinOp.neq (bkE b1 r1 p1 v1 q1) 0) with
    | true =>
      exact of_path hX23 (lWait_p1 b r p v q t b1 r1 p1 v1 q1 t1 b2 r2 p2 v2 q2 t2 c) ⟨e1, e1, (h1 e0 e1).1.1, (h1 e0 e1).1.2.1, e0, (h1 e0 e1).1.2.2.1, (h1 e0 e1).1.2.2.2.1, trivial⟩ (h1 e0 e1).2
    | false =>
      cases e2 : (cmpI BinOp.neq (bkE b2 r2 p2 v2 q2) 0) with
      | true =>
        exact of_path hX23 (lWait_p2 b r p v q t b1 r1 p1 v1 q1 t1 b2 r2 p2 v2 q2 t2 c) ⟨e2, e2, (h2 e0 e1 e2).1.1, (h2 e0 e1 e2).1.2.1, e1, (h2 e0 e1 e2).1.2.2.1, (h2 e0 e1 e2).1.2.2.2.1, e0, (h2 e0 e1 e2).1.2.2.2.2.1, (h2 e0 e1 e2).1.2.2.2.2.2.1, trivial⟩ (h2 e0 e1 e2).2
      | false =>
        cases e3 : (cmpI BinOp.lss c 0) with
        | true =>
          exact of_path hX23 (lWait_p3 b r p v q t b1 r1 p1 v1 q1 t1 b2 r2 p2 v2 q2 t2 c) ⟨e3, e2, (h3 e0 e1 e2 e3).1.1, (h3 e0 e1 e2 e3).1.2.1, e1, (h3 e0 e1 e2 e3).1.2.2.1, (h3 e0 e1 e2 e3).1.2.2.2.1, e0, (h3 e0 e1 e2 e3).1.2.2.2.2.1, (h3 e0 e1 e2 e3).1.2.2.2.2.2.1, trivial⟩ (h3 e0 e1 e2 e3).2
        | false =>
          exact of_path hX23 (lWait_p4 b r p v q t b1 r1 p1 v1 q1 t1 b2 r2 p2 v2 q2 t2 c) ⟨(h4 e0 e1 e2 e3).1.1, (h4 e0 e1 e2 e3).1.2.1, (h4 e0 e1 e2 e3).1.2.2.1, (h4 e0 e1 e2 e3).1.2.2.2.1, (h4 e0 e1 e2 e3).1.2.2.2.2.1, (h4 e0 e1 e2 e3).1.2.2.2.2.2.1, (h4 e0 e1 e2 e3).1.2.2.2.2.2.2.1, (h4 e0 e1 e2 e3).1.2.2.2.2.2.2.2.1, (h4 e0 e1 e2 e3).1.2.2.2.2.2.2.2.2.1, (h4 e0 e1 e2 e3).1.2.2.2.2.2.2.2.2.2.1, (h4 e0 e1 e2 e3).1.2.2.2.2.2.2.2.2.2.2.1, (h4 e0 e1 e2 e3).1.2.2.2.2.2.2.2.2.2.2.2.1, (h4 e0 e1 e2 e3).1.2.2.2.2.2.2.2.2.2.2.2.2.1, (h4 e0 e1 e2 e3).1.2.2.2.2.2.2.2.2.2.2.2.2.2.1, (h4 e0 e1 e2 e3).1.2.2.2.2.2.2.2.2.2.2.2.2.2.2.1, e3, e2, (h4 e0 e1 e2 e3).1.2.2.2.2.2.2.2.2.2.2.2.2.2.2.2.1, (h4 e0 e1 e2 e3).1.2.2.2.2.2.2.2.2.2.2.2.2.2.2.2.2.1, e1, (h4 e0 e1 e2 e3).1.2.2.2.2.2.2.2.2.2.2.2.2.2.2.2.2.2.1, (h4 e0 e1 e2 e3).1.2.2.2.2.2.2.2.2.2.2.2.2.2.2.2.2.2.2.1, e0, (h4 e0 e1 e2 e3).1.2.2.2.2.2.2.2.2.2.2.2.2.2.2.2.2.2.2.2.1, (h4 e0 e1 e2 e3).1.2.2.2.2.2.2.2.2.2.2.2.2.2.2.2.2.2.2.2.2.1, trivial⟩ (h4 e0 e1 e2 e3).2
theorem lTake_ok (b r p v q t b1 r1 p1 v1 q1 t1 b2 r2 p2 v2 q2 t2 n c : Int) (h : bkE b r p v q = 0) (h' : bkE b1 r1 p1 v1 q1 = 0) (h'' : bkE b2 r2 p2 v2 q2 = 0)
    (t0 : 0 ≤ t) (u0 : t < 18446744073709551616) (t01 : 0 ≤ t1) (u01 : t1 < 18446744073709551616) (t02 : 0 ≤ t2) (u02 : t2 < 18446744073709551616) (n0 : 0 ≤ n) (n1 : n < 18446744073709551616) (c0 : 0 ≤ c) (c1 : c < 9223372036854775808) :
    CallsD Try.prog 30 [.sh 3 [i64 b, i64 r, i64 p, i64 v, i64 q, u64 t, i64 b1, i64 r1, i64 p1, i64 v1, i64 q1, u64 t1, i64 b2, i64 r2, i64 p2, i64 v2, i64 q2, u64 t2], u64 n, i64 c]
      (.tup [.ow 3 6 [i64 b, i64 r, i64 p, i64 (lv (tk3 c (fiV b r p v q t n) (fiV b1 r1 p1 v1 q1 t1 n) (fiV b2 r2 p2 v2 q2 t2 n)) (fiV b r p v q t n) c), i64 (fiQ b r p v q t n), u64 (fiT t n),
        i64 b1, i64 r1, i64 p1, i64 (lv (tk3 c (fiV b r p v q t n) (fiV b1 r1 p1 v1 q1 t1 n) (fiV b2 r2 p2 v2 q2 t2 n)) (fiV b1 r1 p1 v1 q1 t1 n) c), i64 (fiQ b1 r1 p1 v1 q1 t1 n), u64 (fiT t1 n),
        i64 b2, i64 r2, i64 p2, i64 (lv (tk3 c (fiV b r p v q t n) (fiV b1 r1 p1 v1 q1 t1 n) (fiV b2 r2 p2 v2 q2 t2 n)) (fiV b2 r2 p2 v2 q2 t2 n) c), i64 (fiQ b2 r2 p2 v2 q2 t2 n), u64 (fiT t2 n)], bo (tk3 c (fiV b r p v q t n) (fiV b1 r1 p1 v1 q1 t1 n) (fiV b2 r2 p2 v2 q2 t2 n)), i64 0]) := by
  obtain ⟨hl, v0, vb, _⟩ := bkE_is h
  obtain ⟨b0, b1', _⟩ := limE_is hl
  obtain ⟨hl', v0', vb', _⟩ := bkE_is h'
  obtain ⟨b0', b1'', _⟩ := limE_is hl'
  obtain ⟨hl'', v0'', vb'', _⟩ := bkE_is h''
  obtain ⟨b0'', b1''', _⟩ := limE_is hl''
  refine lTake_calls b r p v q t b1 r1 p1 v1 q1 t1 b2 r2 p2 v2 q2 t2 n c _ ?_ ?_ ?_ ?_ ?_
  all_goals
    simp only [neq_t, neq_f, lss_t, lss_f]
    intros
  · exact absurd h ‹_›
  · exact absurd h' ‹_›
  · exact absurd h'' ‹_›
  · omega
  · exact ⟨⟨h, h', h'', t0, u0, t01, u01, t02, u02, n0, n1, c0, c1, by omega, by omega, by omega, by omega, by omega, by omega, trivial⟩, trivial⟩
theorem lWait_ok (b r p v q t b1 r1 p1 v1 q1 t1 b2 r2 p2 v2 q2 t2 c : Int) (h : bkE b r p v q = 0) (h' : bkE b1 r1 p1 v1 q1 = 0) (h'' : bkE b2 r2 p2 v2 q2 = 0)
    (t0 : 0 ≤ t) (u0 : t < 18446744073709551616) (t01 : 0 ≤ t1) (u01 : t1 < 18446744073709551616) (t02 : 0 ≤ t2) (u02 : t2 < 18446744073709551616) (c0 : 0 ≤ c) (c1 : c < 9223372036854775808) :
    CallsD Try.prog 31 [.sh 3 [i64 b, i64 r, i64 p, i64 v, i64 q, u64 t, i64 b1, i64 r1, i64 p1, i64 v1, i64 q1, u64 t1, i64 b2, i64 r2, i64 p2, i64 v2, i64 q2, u64 t2], i64 c]
      (.tup [u64 (mx3 (waN b r p v q t c) (waN b1 r1 p1 v1 q1 t1 c) (waN b2 r2 p2 v2 q2 t2 c)), i64 0]) := by
  obtain ⟨hl, v0, vb, _⟩ := bkE_is h
  obtain ⟨b0, b1', _⟩ := limE_is hl
  obtain ⟨hl', v0', vb', _⟩ := bkE_is h'
  obtain ⟨b0', b1'', _⟩ := limE_is hl'
  obtain ⟨hl'', v0'', vb'', _⟩ := bkE_is h''
  obtain ⟨b0'', b1''', _⟩ := limE_is hl''
  refine lWait_calls b r p v q t b1 r1 p1 v1 q1 t1 b2 r2 p2 v2 q2 t2 c _ ?_ ?_ ?_ ?_ ?_
  all_goals
    simp only [neq_t, neq_f, lss_t, lss_f]
    intros
  · exact absurd h ‹_›
  · exact absurd h' ‹_›
  · exact absurd h'' ‹_›
  · omega
  · refine ⟨⟨h'', t02, u02, c0, c1, h', t01, u01, c0, c1, h, t0, u0, c0, c1, by omega, by omega, by omega, by omega, by omega, by omega, trivial⟩, ?_⟩
    simp only [most_max]; rfl
def ltKC : List D → Option (D × List Prop)
  | [.sh 3 [.v (.int .i64 b), .v (.int .i64 r), .v (.int .i64 p), .v (.int .i64 v), .v (.int .i64 q), .v (.int .u64 t), .v (.int .i64 b1), .v (.int .i64 r1), .v (.int .i64 p1), .v (.int .i64 v1), .v (.int .i64 q1), .v (.int .u64 t1), .v (.int .i64 b2), .v (.int .i64 r2), .v (.int .i64 p2), .v (.int .i64 v2), .v (.int .i64 q2), .v (.int .u64 t2)], .v (.int .u64 n), .v (.int .i64 c)] => some ((.tup [.ow 3 6 [i64 b, i64 r, i64 p, i64 (lv (tk3 c (fiV b r p v q t n) (fiV b1 r1 p1 v1 q1 t1 n) (fiV b2 r2 p2 v2 q2 t2 n)) (fiV b r p v q t n) c), i64 (fiQ b r p v q t n), u64 (fiT t n), i64 b1, i64 r1, i64 p1, i64 (lv (tk3 c (fiV b r p v q t n) (fiV b1 r1 p1 v1 q1 t1 n) (fiV b2 r2 p2 v2 q2 t2 n)) (fiV b1 r1 p1 v1 q1 t1 n) c), i64 (fiQ b1 r1 p1 v1 q1 t1 n), u64 (fiT t1 n), i64 b2, i64 r2, i64 p2, i64 (lv (tk3 c (fiV b r p v q t n) (fiV b1 r1 p1 v1 q1 t1 n) (fiV b2 r2 p2 v2 q2 t2 n)) (fiV b2 r2 p2 v2 q2 t2 n) c), i64 (fiQ b2 r2 p2 v2 q2 t2 n), u64 (fiT t2 n)], bo (tk3 c (fiV b r p v q t n) (fiV b1 r1 p1 v1 q1 t1 n) (fiV b2 r2 p2 v2 q2 t2 n)), i64 0]), [bkE b r p v q = 0, bkE b1 r1 p1 v1 q1 = 0, bkE b2 r2 p2 v2 q2 = 0, 0 ≤ t, t < 18446744073709551616, 0 ≤ t1, t1 < 18446744073709551616, 0 ≤ t2, t2 < 18446744073709551616, 0 ≤ n, n < 18446744073709551616, 0 ≤ c, c < 9223372036854775808])
  | _ => none
theorem ltKC_ok (args res l) (h : ltKC args = some (res, l)) (hl : AllP l) : CallsD Try.prog 30 args res := by
  unfold ltKC at h; split at h
  · simp only [Option.some.injEq, Prod.mk.injEq] at h
    obtain ⟨rfl, rfl⟩ := h; obtain ⟨h0, h1, h2, h3, h4, h5, h6, h7, h8, h9, h10, h11, h12, _⟩ := hl
    exact lTake_ok _ _ _ _ _ _ _ _ _ _ _ _ _ _ _ _ _ _ _ _ h0 h1 h2 h3 h4 h5 h6 h7 h8 h9 h10 h11 h12
  · cases h
def lwC : List D → Option (D × List Prop)
  | [.sh 3 [.v (.int .i64 b), .v (.int .i64 r), .v (.int .i64 p), .v (.int .i64 v), .v (.int .i64 q), .v (.int .u64 t), .v (.int .i64 b1), .v (.int .i64 r1), .v (.int .i64 p1), .v (.int .i64 v1), .v (.int .i64 q1), .v (.int .u64 t1), .v (.int .i64 b2), .v (.int .i64 r2), .v (.int .i64 p2), .v (.int .i64 v2), .v (.int .i64 q2), .v (.int .u64 t2)], .v (.int .i64 c)] => some ((.tup [u64 (mx3 (waN b r p v q t c) (waN b1 r1 p1 v1 q1 t1 c) (waN b2 r2 p2 v2 q2 t2 c)), i64 0]), [bkE b r p v q = 0, bkE b1 r1 p1 v1 q1 = 0, bkE b2 r2 p2 v2 q2 = 0, 0 ≤ t, t < 18446744073709551616, 0 ≤ t1, t1 < 18446744073709551616, 0 ≤ t2, t2 < 18446744073709551616, 0 ≤ c, c < 9223372036854775808])
  | _ => none
theorem lwC_ok (args res l) (h : lwC args = some (res, l)) (hl : AllP l) : CallsD Try.prog 31 args res := by
  unfold lwC at h; split at h
  · simp only [Option.some.injEq, Prod.mk.injEq] at h
    obtain ⟨rfl, rfl⟩ := h; obtain ⟨h0, h1, h2, h3, h4, h5, h6, h7, h8, h9, h10, _⟩ := hl
    exact lWait_ok _ _ _ _ _ _ _ _ _ _ _ _ _ _ _ _ _ _ _ h0 h1 h2 h3 h4 h5 h6 h7 h8 h9 h10
  · cases h
def X24 : Contracts := addCon 30 (.call ltKC) (addCon 31 (.call lwC) X23)
theorem hX24 : ConOK Try.prog X24 := addCall_ok ltKC_ok (addCall_ok lwC_ok hX23)
end MeterS

namespace MeterS
open Go Go.Dam Go.Proofs
set_option maxRecDepth 1000000
set_option linter.unusedVariables false
set_option linter.unusedSectionVars false
set_option linter.unusedSimpArgs false
/-- The error of a reply. -/
def rpE (c t x y z w : Int) : Int := if c = 2 ∨ c = 3 then (if t < 16 ∧ x ≤ 1000000000 ∧ y ≤ 1000000000 ∧ z ≤ 1000000000 ∧ (0 < w ↔ c = 3) then 0 else 8) else if 1 ≤ c ∧ c ≤ 8 ∧ t = 0 ∧ x = 0 ∧ y = 0 ∧ z = 0 ∧ w = 0 then 0 else 8
def mdC (k : Bool) : Int := if k = true then 2 else 3
def mdW (k : Bool) (w : Int) : Int := if k = true then 0 else w
def rwB (e f g : Int) : Bool := decide (ck3 e f g = 0)
theorem leq_t' {x y : Int} : cmpI .leq x y = true ↔ x ≤ y := leq_t
theorem ck3_is {e f g : Int} : ck3 e f g = 0 ↔ e = 0 ∧ f = 0 ∧ g = 0 := by
  unfold ck3; split
  · split <;> simp [*]
  · simp [*]
theorem rwB_iff {e f g : Int} : rwB e f g = true ↔ e = 0 ∧ f = 0 ∧ g = 0 := by simp [rwB, ck3_is]
theorem eqb_t {x y : Bool} : (x == y) = true ↔ (x = true ↔ y = true) := by cases x <;> cases y <;> decide
theorem eqb_f {x y : Bool} : (x == y) = false ↔ ¬ (x = true ↔ y = true) := by cases x <;> cases y <;> decide
theorem eqi_t {x y : Int} : (x == y) = true ↔ x = y := by simp
theorem eqi_f {x y : Int} : (x == y) = false ↔ ¬ x = y := by simp
theorem not_t {x : Bool} : (!x) = true ↔ ¬ x = true := by cases x <;> decide
theorem not_f {x : Bool} : (!x) = false ↔ x = true := by cases x <;> decide
theorem and_t {x y : Bool} : (x && y) = true ↔ x = true ∧ y = true := by cases x <;> cases y <;> decide
theorem and_f {x y : Bool} : (x && y) = false ↔ ¬ (x = true ∧ y = true) := by cases x <;> cases y <;> decide
variable [Glo]
noncomputable def rpA_c0 (c t x y z w : Int) := cmpI BinOp.leq (mostI BinOp.gtr (mostI BinOp.gtr x y) z) 1000000000
theorem rpA_p0 (c t x y z w : Int) : fnX Try.prog X24 100000 [.d true, .c 1, .d true, .c 1, .d true, .c 9, .d true, .c 5, .d true] 25 [D.agg [u8 c, u32 t, u32 x, u32 y, u32 z, u64 w]] = some (i64 8, [(!cmpI BinOp.gtr w 0 == cmpI BinOp.eql c 3) = true, cmpI BinOp.leq (mostI BinOp.gtr (mostI BinOp.gtr x y) z) 1000000000 = true, cmpI BinOp.lss t 16 = true, cmpI BinOp.eql c 2 = true, cmpI BinOp.geq c 1 = true]) := by kernel_rfl
theorem rpA_p1 (c t x y z w : Int) : fnX Try.prog X24 100000 [.d true, .c 1, .d true, .c 1, .d true, .c 9, .d true, .c 5, .d false] 25 [D.agg [u8 c, u32 t, u32 x, u32 y, u32 z, u64 w]] = some (i64 0, [(!cmpI BinOp.gtr w 0 == cmpI BinOp.eql c 3) = false, cmpI BinOp.leq (mostI BinOp.gtr (mostI BinOp.gtr x y) z) 1000000000 = true, cmpI BinOp.lss t 16 = true, cmpI BinOp.eql c 2 = true, cmpI BinOp.geq c 1 = true]) := by kernel_rfl
theorem rpA_p2 (c t x y z w : Int) : fnX Try.prog X24 100000 [.d true, .c 1, .d true, .c 1, .d true, .c 9, .d false, .c 6] 25 [D.agg [u8 c, u32 t, u32 x, u32 y, u32 z, u64 w]] = some (i64 8, [cmpI BinOp.leq (mostI BinOp.gtr (mostI BinOp.gtr x y) z) 1000000000 = false, cmpI BinOp.lss t 16 = true, cmpI BinOp.eql c 2 = true, cmpI BinOp.geq c 1 = true]) := by kernel_rfl
theorem rpA_p3 (c t x y z w : Int) : fnX Try.prog X24 100000 [.d true, .c 1, .d true, .c 1, .d false, .c 17] 25 [D.agg [u8 c, u32 t, u32 x, u32 y, u32 z, u64 w]] = some (i64 8, [cmpI BinOp.lss t 16 = false, cmpI BinOp.eql c 2 = true, cmpI BinOp.geq c 1 = true]) := by kernel_rfl
theorem rpA_p4 (c t x y z w : Int) : fnX Try.prog X24 100000 [.d true, .c 1, .d false, .c 0, .d true, .d true, .c 1, .d true, .c 2, .d true, .c 1, .d true] 25 [D.agg [u8 c, u32 t, u32 x, u32 y, u32 z, u64 w]] = some (i64 8, [(!cmpI BinOp.eql w 0) = true, (x == 0 && (y == 0 && (z == 0 && true))) = true, cmpI BinOp.eql t 0 = true, cmpI BinOp.leq c 8 = true, (!cmpI BinOp.eql c 3) = true, cmpI BinOp.eql c 2 = false, cmpI BinOp.geq c 1 = true]) := by kernel_rfl
theorem rpA_p5 (c t x y z w : Int) : fnX Try.prog X24 100000 [.d true, .c 1, .d false, .c 0, .d true, .d true, .c 1, .d true, .c 2, .d true, .c 1, .d false] 25 [D.agg [u8 c, u32 t, u32 x, u32 y, u32 z, u64 w]] = some (i64 0, [(!cmpI BinOp.eql w 0) = false, (x == 0 && (y == 0 && (z == 0 && true))) = true, cmpI BinOp.eql t 0 = true, cmpI BinOp.leq c 8 = true, (!cmpI BinOp.eql c 3) = true, cmpI BinOp.eql c 2 = false, cmpI BinOp.geq c 1 = true]) := by kernel_rfl
theorem rpA_p6 (c t x y z w : Int) : fnX Try.prog X24 100000 [.d true, .c 1, .d false, .c 0, .d true, .d true, .c 1, .d true, .c 2, .d false, .c 2] 25 [D.agg [u8 c, u32 t, u32 x, u32 y, u32 z, u64 w]] = some (i64 8, [(x == 0 && (y == 0 && (z == 0 && true))) = false, cmpI BinOp.eql t 0 = true, cmpI BinOp.leq c 8 = true, (!cmpI BinOp.eql c 3) = true, cmpI BinOp.eql c 2 = false, cmpI BinOp.geq c 1 = true]) := by kernel_rfl
theorem rpA_p7 (c t x y z w : Int) : fnX Try.prog X24 100000 [.d true, .c 1, .d false, .c 0, .d true, .d true, .c 1, .d false, .c 6] 25 [D.agg [u8 c, u32 t, u32 x, u32 y, u32 z, u64 w]] = some (i64 8, [cmpI BinOp.eql t 0 = false, cmpI BinOp.leq c 8 = true, (!cmpI BinOp.eql c 3) = true, cmpI BinOp.eql c 2 = false, cmpI BinOp.geq c 1 = true]) := by kernel_rfl
theorem rpA_p8 (c t x y z w : Int) : fnX Try.prog X24 100000 [.d true, .c 1, .d false, .c 0, .d true, .d false, .c 9] 25 [D.agg [u8 c, u32 t, u32 x, u32 y, u32 z, u64 w]] = some (i64 8, [cmpI BinOp.leq c 8 = false, (!cmpI BinOp.eql c 3) = true, cmpI BinOp.eql c 2 = false, cmpI BinOp.geq c 1 = true]) := by kernel_rfl
theorem rpA_p9 (c t x y z w : Int) : fnX Try.prog X24 100000 [.d true, .c 1, .d false, .c 0, .d false, .d true, .c 9, .d true, .c 5, .d true] 25 [D.agg [u8 c, u32 t, u32 x, u32 y, u32 z, u64 w]] = some (i64 8, [(!cmpI BinOp.gtr w 0 == cmpI BinOp.eql c 3) = true, cmpI BinOp.leq (mostI BinOp.gtr (mostI BinOp.gtr x y) z) 1000000000 = true, cmpI BinOp.lss t 16 = true, (!cmpI BinOp.eql c 3) = false, cmpI BinOp.eql c 2 = false, cmpI BinOp.geq c 1 = true]) := by kernel_rfl
theorem rpA_p10 (c t x y z w : Int) : fnX Try.prog X24 100000 [.d true, .c 1, .d false, .c 0, .d false, .d true, .c 9, .d true, .c 5, .d false] 25 [D.agg [u8 c, u32 t, u32 x, u32 y, u32 z, u64 w]] = some (i64 0, [(!cmpI BinOp.gtr w 0 == cmpI BinOp.eql c 3) = false, cmpI BinOp.leq (mostI BinOp.gtr (mostI BinOp.gtr x y) z) 1000000000 = true, cmpI BinOp.lss t 16 = true, (!cmpI BinOp.eql c 3) = false, cmpI BinOp.eql c 2 = false, cmpI BinOp.geq c 1 = true]) := by kernel_rfl
theorem rpA_p11 (c t x y z w : Int) : fnX Try.prog X24 100000 [.d true, .c 1, .d false, .c 0, .d false, .d true, .c 9, .d false, .c 6] 25 [D.agg [u8 c, u32 t, u32 x, u32 y, u32 z, u64 w]] = some (i64 8, [cmpI BinOp.leq (mostI BinOp.gtr (mostI BinOp.gtr x y) z) 1000000000 = false, cmpI BinOp.lss t 16 = true, (!cmpI BinOp.eql c 3) = false, cmpI BinOp.eql c 2 = false, cmpI BinOp.geq c 1 = true]) := by kernel_rfl
theorem rpA_p12 (c t x y z w : Int) : fnX Try.prog X24 100000 [.d true, .c 1, .d false, .c 0, .d false, .d false, .c 17] 25 [D.agg [u8 c, u32 t, u32 x, u32 y, u32 z, u64 w]] = some (i64 8, [cmpI BinOp.lss t 16 = false, (!cmpI BinOp.eql c 3) = false, cmpI BinOp.eql c 2 = false, cmpI BinOp.geq c 1 = true]) := by kernel_rfl
theorem rpA_p13 (c t x y z w : Int) : fnX Try.prog X24 100000 [.d false, .c 1, .d true, .c 1, .d true, .c 9, .d true, .c 5, .d true] 25 [D.agg [u8 c, u32 t, u32 x, u32 y, u32 z, u64 w]] = some (i64 8, [(!cmpI BinOp.gtr w 0 == cmpI BinOp.eql c 3) = true, cmpI BinOp.leq (mostI BinOp.gtr (mostI BinOp.gtr x y) z) 1000000000 = true, cmpI BinOp.lss t 16 = true, cmpI BinOp.eql c 2 = true, cmpI BinOp.geq c 1 = false]) := by kernel_rfl
theorem rpA_p14 (c t x y z w : Int) : fnX Try.prog X24 100000 [.d false, .c 1, .d true, .c 1, .d true, .c 9, .d true, .c 5, .d false] 25 [D.agg [u8 c, u32 t, u32 x, u32 y, u32 z, u64 w]] = some (i64 0, [(!cmpI BinOp.gtr w 0 == cmpI BinOp.eql c 3) = false, cmpI BinOp.leq (mostI BinOp.gtr (mostI BinOp.gtr x y) z) 1000000000 = true, cmpI BinOp.lss t 16 = true, cmpI BinOp.eql c 2 = true, cmpI BinOp.geq c 1 = false]) := by kernel_rfl
theorem rpA_p15 (c t x y z w : Int) : fnX Try.prog X24 100000 [.d false, .c 1, .d true, .c 1, .d true, .c 9, .d false, .c 6] 25 [D.agg [u8 c, u32 t, u32 x, u32 y, u32 z, u64 w]] = some (i64 8, [cmpI BinOp.leq (mostI BinOp.gtr (mostI BinOp.gtr x y) z) 1000000000 = false, cmpI BinOp.lss t 16 = true, cmpI BinOp.eql c 2 = true, cmpI BinOp.geq c 1 = false]) := by kernel_rfl
theorem rpA_p16 (c t x y z w : Int) : fnX Try.prog X24 100000 [.d false, .c 1, .d true, .c 1, .d false, .c 17] 25 [D.agg [u8 c, u32 t, u32 x, u32 y, u32 z, u64 w]] = some (i64 8, [cmpI BinOp.lss t 16 = false, cmpI BinOp.eql c 2 = true, cmpI BinOp.geq c 1 = false]) := by kernel_rfl
theorem rpA_p17 (c t x y z w : Int) : fnX Try.prog X24 100000 [.d false, .c 1, .d false, .c 0, .d true, .c 10] 25 [D.agg [u8 c, u32 t, u32 x, u32 y, u32 z, u64 w]] = some (i64 8, [(!cmpI BinOp.eql c 3) = true, cmpI BinOp.eql c 2 = false, cmpI BinOp.geq c 1 = false]) := by kernel_rfl
theorem rpA_p18 (c t x y z w : Int) : fnX Try.prog X24 100000 [.d false, .c 1, .d false, .c 0, .d false, .d true, .c 9, .d true, .c 5, .d true] 25 [D.agg [u8 c, u32 t, u32 x, u32 y, u32 z, u64 w]] = some (i64 8, [(!cmpI BinOp.gtr w 0 == cmpI BinOp.eql c 3) = true, cmpI BinOp.leq (mostI BinOp.gtr (mostI BinOp.gtr x y) z) 1000000000 = true, cmpI BinOp.lss t 16 = true, (!cmpI BinOp.eql c 3) = false, cmpI BinOp.eql c 2 = false, cmpI BinOp.geq c 1 = false]) := by kernel_rfl
theorem rpA_p19 (c t x y z w : Int) : fnX Try.prog X24 100000 [.d false, .c 1, .d false, .c 0, .d false, .d true, .c 9, .d true, .c 5, .d false] 25 [D.agg [u8 c, u32 t, u32 x, u32 y, u32 z, u64 w]] = some (i64 0, [(!cmpI BinOp.gtr w 0 == cmpI BinOp.eql c 3) = false, cmpI BinOp.leq (mostI BinOp.gtr (mostI BinOp.gtr x y) z) 1000000000 = true, cmpI BinOp.lss t 16 = true, (!cmpI BinOp.eql c 3) = false, cmpI BinOp.eql c 2 = false, cmpI BinOp.geq c 1 = false]) := by kernel_rfl
theorem rpA_p20 (c t x y z w : Int) : fnX Try.prog X24 100000 [.d false, .c 1, .d false, .c 0, .d false, .d true, .c 9, .d false, .c 6] 25 [D.agg [u8 c, u32 t, u32 x, u32 y, u32 z, u64 w]] = some (i64 8, [cmpI BinOp.leq (mostI BinOp.gtr (mostI BinOp.gtr x y) z) 1000000000 = false, cmpI BinOp.lss t 16 = true, (!cmpI BinOp.eql c 3) = false, cmpI BinOp.eql c 2 = false, cmpI BinOp.geq c 1 = false]) := by kernel_rfl
theorem rpA_p21 (c t x y z w : Int) : fnX Try.prog X24 100000 [.d false, .c 1, .d false, .c 0, .d false, .d false, .c 17] 25 [D.agg [u8 c, u32 t, u32 x, u32 y, u32 z, u64 w]] = some (i64 8, [cmpI BinOp.lss t 16 = false, (!cmpI BinOp.eql c 3) = false, cmpI BinOp.eql c 2 = false, cmpI BinOp.geq c 1 = false]) := by kernel_rfl
theorem rpA_calls (c t x y z w : Int) (res : D)
  (h0 : ((cmpI BinOp.geq c 1) = true) → ((cmpI BinOp.eql c 2) = true) → ((cmpI BinOp.lss t 16) = true) → ((rpA_c0 c t x y z w) = true) → ((!cmpI BinOp.gtr w 0 == cmpI BinOp.eql c 3) = true) → (True) ∧ res = i64 8)
  (h1 : ((cmpI BinOp.geq c 1) = true) → ((cmpI BinOp.eql c 2) = true) → ((cmpI BinOp.lss t 16) = true) → ((rpA_c0 c t x y z w) = true) → ((!cmpI BinOp.gtr w 0 == cmpI BinOp.eql c 3) = false) → (True) ∧ res = i64 0)
  (h2 : ((cmpI BinOp.geq c 1) = true) → ((cmpI BinOp.eql c 2) = true) → ((cmpI BinOp.lss t 16) = true) → ((rpA_c0 c t x y z w) = false) → (True) ∧ res = i64 8)
  (h3 : ((cmpI BinOp.geq c 1) = true) → ((cmpI BinOp.eql c 2) = true) → ((cmpI BinOp.lss t 16) = false) → (True) ∧ res = i64 8)
  (h4 : ((cmpI BinOp.geq c 1) = true) → ((cmpI BinOp.eql c 2) = false) → ((!cmpI BinOp.eql c 3) = true) → ((cmpI BinOp.leq c 8) = true) → ((cmpI BinOp.eql t 0) = true) → ((x == 0 && (y == 0 && (z == 0 && true))) = true) → ((!cmpI BinOp.eql w 0) = true) → (True) ∧ res = i64 8)
  (h5 : ((cmpI BinOp.geq c 1) = true) → ((cmpI BinOp.eql c 2) = false) → ((!cmpI BinOp.eql c 3) = true) → ((cmpI BinOp.leq c 8) = true) → ((cmpI BinOp.eql t 0) = true) → ((x == 0 && (y == 0 && (z == 0 && true))) = true) → ((!cmpI BinOp.eql w 0) = false) → (True) ∧ res = i64 0)
  (h6 : ((cmpI BinOp.geq c 1) = true) → ((cmpI BinOp.eql c 2) = false) → ((!cmpI BinOp.eql c 3) = true) → ((cmpI BinOp.leq c 8) = true) → ((cmpI BinOp.eql t 0) = true) → ((x == 0 && (y == 0 && (z == 0 && true))) = false) → (True) ∧ res = i64 8)
  (h7 : ((cmpI BinOp.geq c 1) = true) → ((cmpI BinOp.eql c 2) = false) → ((!cmpI BinOp.eql c 3) = true) → ((cmpI BinOp.leq c 8) = true) → ((cmpI BinOp.eql t 0) = false) → (True) ∧ res = i64 8)
  (h8 : ((cmpI BinOp.geq c 1) = true) → ((cmpI BinOp.eql c 2) = false) → ((!cmpI BinOp.eql c 3) = true) → ((cmpI BinOp.leq c 8) = false) → (True) ∧ res = i64 8)
  (h9 : ((cmpI BinOp.geq c 1) = true) → ((cmpI BinOp.eql c 2) = false) → ((!cmpI BinOp.eql c 3) = false) → ((cmpI BinOp.lss t 16) = true) → ((rpA_c0 c t x y z w) = true) → ((!cmpI BinOp.gtr w 0 == cmpI BinOp.eql c 3) = true) → (True) ∧ res = i64 8)
  (h10 : ((cmpI BinOp.geq c 1) = true) → ((cmpI BinOp.eql c 2) = false) → ((!cmpI BinOp.eql c 3) = false) → ((cmpI BinOp.lss t 16) = true) → ((rpA_c0 c t x y z w) = true) → ((!cmpI BinOp.gtr w 0 == cmpI BinOp.eql c 3) = false) → (True) ∧ res = i64 0)
  (h11 : ((cmpI BinOp.geq c 1) = true) → ((cmpI BinOp.eql c 2) = false) → ((!cmpI BinOp.eql c 3) = false) → ((cmpI BinOp.lss t 16) = true) → ((rpA_c0 c t x y z w) = false) → (True) ∧ res = i64 8)
  (h12 : ((cmpI BinOp.geq c 1) = true) → ((cmpI BinOp.eql c 2) = false) → ((!cmpI BinOp.eql c 3) = false) → ((cmpI BinOp.lss t 16) = false) → (True) ∧ res = i64 8)
  (h13 : ((cmpI BinOp.geq c 1) = false) → ((cmpI BinOp.eql c 2) = true) → ((cmpI BinOp.lss t 16) = true) → ((rpA_c0 c t x y z w) = true) → ((!cmpI BinOp.gtr w 0 == cmpI BinOp.eql c 3) = true) → (True) ∧ res = i64 8)
  (h14 : ((cmpI BinOp.geq c 1) = false) → ((cmpI BinOp.eql c 2) = true) → ((cmpI BinOp.lss t 16) = true) → ((rpA_c0 c t x y z w) = true) → ((!cmpI BinOp.gtr w 0 == cmpI BinOp.eql c 3) = false) → (True) ∧ res = i64 0)
  (h15 : ((cmpI BinOp.geq c 1) = false) → ((cmpI BinOp.eql c 2) = true) → ((cmpI BinOp.lss t 16) = true) → ((rpA_c0 c t x y z w) = false) → (True) ∧ res = i64 8)
  (h16 : ((cmpI BinOp.geq c 1) = false) → ((cmpI BinOp.eql c 2) = true) → ((cmpI BinOp.lss t 16) = false) → (True) ∧ res = i64 8)
  (h17 : ((cmpI BinOp.geq c 1) = false) → ((cmpI BinOp.eql c 2) = false) → ((!cmpI BinOp.eql c 3) = true) → (True) ∧ res = i64 8)
  (h18 : ((cmpI BinOp.geq c 1) = false) → ((cmpI BinOp.eql c 2) = false) → ((!cmpI BinOp.eql c 3) = false) → ((cmpI BinOp.lss t 16) = true) → ((rpA_c0 c t x y z w) = true) → ((!cmpI BinOp.gtr w 0 == cmpI BinOp.eql c 3) = true) → (True) ∧ res = i64 8)
  (h19 : ((cmpI BinOp.geq c 1) = false) → ((cmpI BinOp.eql c 2) = false) → ((!cmpI BinOp.eql c 3) = false) → ((cmpI BinOp.lss t 16) = true) → ((rpA_c0 c t x y z w) = true) → ((!cmpI BinOp.gtr w 0 == cmpI BinOp.eql c 3) = false) → (True) ∧ res = i64 0)
  (h20 : ((cmpI BinOp.geq c 1) = false) → ((cmpI BinOp.eql c 2) = false) → ((!cmpI BinOp.eql c 3) = false) → ((cmpI BinOp.lss t 16) = true) → ((rpA_c0 c t x y z w) = false) → (True) ∧ res = i64 8)
  (h21 : ((cmpI BinOp.geq c 1) = false) → ((cmpI BinOp.eql c 2) = false) → ((!cmpI BinOp.eql c 3) = false) → ((cmpI BinOp.lss t 16) = false) → (True) ∧ res = i64 8) : CallsD Try.prog 25 [D.agg [u8 c, u32 t, u32 x, u32 y, u32 z, u64 w]] res := by
  cases e0 : (cmpI BinOp.geq c 1) with
  | true =>
    cases e1 : (cmpI BinOp.eql c 2) with
    | true =>
      cases e2 : (cmpI BinOp.lss t 16) with
      | true =>
        cases e3 : (rpA_c0 c t x y z w) with
        | true =>
          cases e4 : (!cmpI BinOp.gtr w 0 == cmpI BinOp.eql c 3) with
          | true =>
            exact of_path hX24 (rpA_p0 c t x y z w) ⟨e4, e3, e2, e1, e0, trivial⟩ (h0 e0 e1 e2 e3 e4).2
          | false =>
            exact of_path hX24 (rpA_p1 c t x y z w) ⟨e4, e3, e2, e1, e0, trivial⟩ (h1 e0 e1 e2 e3 e4).2
        | false =>
          exact of_path hX24 (rpA_p2 c t x y z w) ⟨e3, e2, e1, e0, trivial⟩ (h2 e0 e1 e2 e3).2
      | false =>
        exact of_path hX24 (rpA_p3 c t x y z w) ⟨e2, e1, e0, trivial⟩ (h3 e0 e1 e2).2
    | false =>
      cases e2 : (!cmpI BinOp.eql c 3) with
      | true =>
        cases e3 : (cmpI BinOp.leq c 8) with
        | true =>
          cases e4 : (cmpI BinOp.eql t 0) with
          | true =>
            cases e5 : (x == 0 && (y == 0 && (z == 0 && true))) with
            | true =>
              cases e6 : (!cmpI BinOp.eql w 0) with
              | true =>
                exact of_path hX24 (rpA_p4 c t x y z w) ⟨e6, e5, e4, e3, e2, e1, e0, trivial⟩ (h4 e0 e1 e2 e3 e4 e5 e6).2
              | false =>
                exact of_path hX24 (rpA_p5 c t x y z w) ⟨e6, e5, e4, e3, e2, e1, e0, trivial⟩ (h5 e0 e1 e2 e3 e4 e5 e6).2
            | false =>
              exact of_path hX24 (rpA_p6 c t x y z w) ⟨e5, e4, e3, e2, e1, e0, trivial⟩ (h6 e0 e1 e2 e3 e4 e5).2
          | false =>
            exact of_path hX24 (rpA_p7 c t x y z w) ⟨e4, e3, e2, e1, e0, trivial⟩ (h7 e0 e1 e2 e3 e4).2
        | false =>
          exact of_path hX24 (rpA_p8 c t x y z w) ⟨e3, e2, e1, e0, trivial⟩ (h8 e0 e1 e2 e3).2
      | false =>
        cases e3 : (cmpI BinOp.lss t 16) with
        | true =>
          cases e4 : (rpA_c0 c t x y z w) with
          | true =>
            cases e5 : (!cmpI BinOp.gtr w 0 == cmpI BinOp.eql c 3) with
            | true =>
              exact of_path hX24 (rpA_p9 c t x y z w) ⟨e5, e4, e3, e2, e1, e0, trivial⟩ (h9 e0 e1 e2 e3 e4 e5).2
            | false =>
              exact of_path hX24 (rpA_p10 c t x y z w) ⟨e5, e4, e3, e2, e1, e0, trivial⟩ (h10 e0 e1 e2 e3 e4 e5).2
          | false =>
            exact of_path hX24 (rpA_p11 c t x y z w) ⟨e4, e3, e2, e1, e0, trivial⟩ (h11 e0 e1 e2 e3 e4).2
        | false =>
          exact of_path hX24 (rpA_p12 c t x y z w) ⟨e3, e2, e1, e0, trivial⟩ (h12 e0 e1 e2 e3).2
  | false =>
    cases e1 : (cmpI BinOp.eql c 2) with
    | true =>
      cases e2 : (cmpI BinOp.lss t 16) with
      | true =>
        cases e3 : (rpA_c0 c t x y z w) with
        | true =>
          cases e4 : (!cmpI BinOp.gtr w 0 == cmpI BinOp.eql c 3) with
          | true =>
            exact of_path hX24 (rpA_p13 c t x y z w) ⟨e4, e3, e2, e1, e0, trivial⟩ (h13 e0 e1 e2 e3 e4).2
          | false =>
            exact of_path hX24 (rpA_p14 c t x y z w) ⟨e4, e3, e2, e1, e0, trivial⟩ (h14 e0 e1 e2 e3 e4).2
        | false =>
          exact of_path hX24 (rpA_p15 c t x y z w) ⟨e3, e2, e1, e0, trivial⟩ (h15 e0 e1 e2 e3).2
      | false =>
        exact of_path hX24 (rpA_p16 c t x y z w) ⟨e2, e1, e0, trivial⟩ (h16 e0 e1 e2).2
    | false =>
      cases e2 : (!cmpI BinOp.eql c 3) with
      | true =>
        exact of_path hX24 (rpA_p17 c t x y z w) ⟨e2, e1, e0, trivial⟩ (h17 e0 e1 e2).2
      | false =>
        cases e3 : (cmpI BinOp.lss t 16) with
        | true =>
          cases e4 : (rpA_c0 c t x y z w) with
          | true =>
            cases e5 : (!cmpI BinOp.gtr w 0 == cmpI BinOp.eql c 3) with
            | true =>
              exact of_path hX24 (rpA_p18 c t x y z w) ⟨e5, e4, e3, e2, e1, e0, trivial⟩ (h18 e0 e1 e2 e3 e4 e5).2
            | false =>
              exact of_path hX24 (rpA_p19 c t x y z w) ⟨e5, e4, e3, e2, e1, e0, trivial⟩ (h19 e0 e1 e2 e3 e4 e5).2
          | false =>
            exact of_path hX24 (rpA_p20 c t x y z w) ⟨e4, e3, e2, e1, e0, trivial⟩ (h20 e0 e1 e2 e3 e4).2
        | false =>
          exact of_path hX24 (rpA_p21 c t x y z w) ⟨e3, e2, e1, e0, trivial⟩ (h21 e0 e1 e2 e3).2
noncomputable def rpB_c0 (c t x y z w : Int) := !(c == c && (t == 0 && (x == 0 && (y == 0 && (z == 0 && true)) && (w == 0 && true))))
theorem rpB_p0 (c t x y z w : Int) : fnX Try.prog X24 100000 [.d true, .c 2] 9 [D.agg [u8 c, u32 t, u32 x, u32 y, u32 z, u64 w]] = some (i64 8, [cmpI BinOp.lss c 1 = true]) := by kernel_rfl
theorem rpB_p1 (c t x y z w : Int) : fnX Try.prog X24 100000 [.d false, .c 1, .d true] 9 [D.agg [u8 c, u32 t, u32 x, u32 y, u32 z, u64 w]] = some (i64 8, [cmpI BinOp.gtr c 8 = true, cmpI BinOp.lss c 1 = false]) := by kernel_rfl
theorem rpB_p2 (c t x y z w : Int) : fnX Try.prog X24 100000 [.d false, .c 1, .d false, .d true, .c 1, .d true, .c 6] 9 [D.agg [u8 c, u32 t, u32 x, u32 y, u32 z, u64 w]] = some (i64 8, [cmpI BinOp.geq t 16 = true, cmpI BinOp.eql c 2 = true, cmpI BinOp.gtr c 8 = false, cmpI BinOp.lss c 1 = false]) := by kernel_rfl
theorem rpB_p3 (c t x y z w : Int) : fnX Try.prog X24 100000 [.d false, .c 1, .d false, .d true, .c 1, .d false, .c 5, .d true] 9 [D.agg [u8 c, u32 t, u32 x, u32 y, u32 z, u64 w]] = some (i64 8, [(!cmpI BinOp.eql w 0 == cmpI BinOp.eql c 2) = true, cmpI BinOp.geq t 16 = false, cmpI BinOp.eql c 2 = true, cmpI BinOp.gtr c 8 = false, cmpI BinOp.lss c 1 = false]) := by kernel_rfl
theorem rpB_p4 (c t x y z w : Int) : fnX Try.prog X24 100000 [.d false, .c 1, .d false, .d true, .c 1, .d false, .c 5, .d false, PE.u, .c 0, .d true] 9 [D.agg [u8 c, u32 t, u32 x, u32 y, u32 z, u64 w]] = some (i64 8, [cmpI BinOp.gtr x 1000000000 = true, (!cmpI BinOp.eql w 0 == cmpI BinOp.eql c 2) = false, cmpI BinOp.geq t 16 = false, cmpI BinOp.eql c 2 = true, cmpI BinOp.gtr c 8 = false, cmpI BinOp.lss c 1 = false]) := by kernel_rfl
theorem rpB_p5 (c t x y z w : Int) : fnX Try.prog X24 100000 [.d false, .c 1, .d false, .d true, .c 1, .d false, .c 5, .d false, PE.u, .c 0, .d false, .c 0, .d true] 9 [D.agg [u8 c, u32 t, u32 x, u32 y, u32 z, u64 w]] = some (i64 8, [cmpI BinOp.gtr y 1000000000 = true, cmpI BinOp.gtr x 1000000000 = false, (!cmpI BinOp.eql w 0 == cmpI BinOp.eql c 2) = false, cmpI BinOp.geq t 16 = false, cmpI BinOp.eql c 2 = true, cmpI BinOp.gtr c 8 = false, cmpI BinOp.lss c 1 = false]) := by kernel_rfl
theorem rpB_p6 (c t x y z w : Int) : fnX Try.prog X24 100000 [.d false, .c 1, .d false, .d true, .c 1, .d false, .c 5, .d false, PE.u, .c 0, .d false, .c 0, .d false, .c 0, .d true] 9 [D.agg [u8 c, u32 t, u32 x, u32 y, u32 z, u64 w]] = some (i64 8, [cmpI BinOp.gtr z 1000000000 = true, cmpI BinOp.gtr y 1000000000 = false, cmpI BinOp.gtr x 1000000000 = false, (!cmpI BinOp.eql w 0 == cmpI BinOp.eql c 2) = false, cmpI BinOp.geq t 16 = false, cmpI BinOp.eql c 2 = true, cmpI BinOp.gtr c 8 = false, cmpI BinOp.lss c 1 = false]) := by kernel_rfl
theorem rpB_p7 (c t x y z w : Int) : fnX Try.prog X24 100000 [.d false, .c 1, .d false, .d true, .c 1, .d false, .c 5, .d false, PE.u, .c 0, .d false, .c 0, .d false, .c 0, .d false, .c 0] 9 [D.agg [u8 c, u32 t, u32 x, u32 y, u32 z, u64 w]] = some (i64 0, [cmpI BinOp.gtr z 1000000000 = false, cmpI BinOp.gtr y 1000000000 = false, cmpI BinOp.gtr x 1000000000 = false, (!cmpI BinOp.eql w 0 == cmpI BinOp.eql c 2) = false, cmpI BinOp.geq t 16 = false, cmpI BinOp.eql c 2 = true, cmpI BinOp.gtr c 8 = false, cmpI BinOp.lss c 1 = false]) := by kernel_rfl
theorem rpB_p8 (c t x y z w : Int) : fnX Try.prog X24 100000 [.d false, .c 1, .d false, .d false, .c 0, .d true, .d true] 9 [D.agg [u8 c, u32 t, u32 x, u32 y, u32 z, u64 w]] = some (i64 8, [(rpB_c0 c t x y z w) = true, (!cmpI BinOp.eql c 3) = true, cmpI BinOp.eql c 2 = false, cmpI BinOp.gtr c 8 = false, cmpI BinOp.lss c 1 = false]) := by kernel_rfl
theorem rpB_p9 (c t x y z w : Int) : fnX Try.prog X24 100000 [.d false, .c 1, .d false, .d false, .c 0, .d true, .d false] 9 [D.agg [u8 c, u32 t, u32 x, u32 y, u32 z, u64 w]] = some (i64 0, [(rpB_c0 c t x y z w) = false, (!cmpI BinOp.eql c 3) = true, cmpI BinOp.eql c 2 = false, cmpI BinOp.gtr c 8 = false, cmpI BinOp.lss c 1 = false]) := by kernel_rfl
theorem rpB_p10 (c t x y z w : Int) : fnX Try.prog X24 100000 [.d false, .c 1, .d false, .d false, .c 0, .d false, .d true, .c 6] 9 [D.agg [u8 c, u32 t, u32 x, u32 y, u32 z, u64 w]] = some (i64 8, [cmpI BinOp.geq t 16 = true, (!cmpI BinOp.eql c 3) = false, cmpI BinOp.eql c 2 = false, cmpI BinOp.gtr c 8 = false, cmpI BinOp.lss c 1 = false]) := by kernel_rfl
theorem rpB_p11 (c t x y z w : Int) : fnX Try.prog X24 100000 [.d false, .c 1, .d false, .d false, .c 0, .d false, .d false, .c 5, .d true] 9 [D.agg [u8 c, u32 t, u32 x, u32 y, u32 z, u64 w]] = some (i64 8, [(!cmpI BinOp.eql w 0 == cmpI BinOp.eql c 2) = true, cmpI BinOp.geq t 16 = false, (!cmpI BinOp.eql c 3) = false, cmpI BinOp.eql c 2 = false, cmpI BinOp.gtr c 8 = false, cmpI BinOp.lss c 1 = false]) := by kernel_rfl
theorem rpB_p12 (c t x y z w : Int) : fnX Try.prog X24 100000 [.d false, .c 1, .d false, .d false, .c 0, .d false, .d false, .c 5, .d false, PE.u, .c 0, .d true] 9 [D.agg [u8 c, u32 t, u32 x, u32 y, u32 z, u64 w]] = some (i64 8, [cmpI BinOp.gtr x 1000000000 = true, (!cmpI BinOp.eql w 0 == cmpI BinOp.eql c 2) = false, cmpI BinOp.geq t 16 = false, (!cmpI BinOp.eql c 3) = false, cmpI BinOp.eql c 2 = false, cmpI BinOp.gtr c 8 = false, cmpI BinOp.lss c 1 = false]) := by kernel_rfl
theorem rpB_p13 (c t x y z w : Int) : fnX Try.prog X24 100000 [.d false, .c 1, .d false, .d false, .c 0, .d false, .d false, .c 5, .d false, PE.u, .c 0, .d false, .c 0, .d true] 9 [D.agg [u8 c, u32 t, u32 x, u32 y, u32 z, u64 w]] = some (i64 8, [cmpI BinOp.gtr y 1000000000 = true, cmpI BinOp.gtr x 1000000000 = false, (!cmpI BinOp.eql w 0 == cmpI BinOp.eql c 2) = false, cmpI BinOp.geq t 16 = false, (!cmpI BinOp.eql c 3) = false, cmpI BinOp.eql c 2 = false, cmpI BinOp.gtr c 8 = false, cmpI BinOp.lss c 1 = false]) := by kernel_rfl
theorem rpB_p14 (c t x y z w : Int) : fnX Try.prog X24 100000 [.d false, .c 1, .d false, .d false, .c 0, .d false, .d false, .c 5, .d false, PE.u, .c 0, .d false, .c 0, .d false, .c 0, .d true] 9 [D.agg [u8 c, u32 t, u32 x, u32 y, u32 z, u64 w]] = some (i64 8, [cmpI BinOp.gtr z 1000000000 = true, cmpI BinOp.gtr y 1000000000 = false, cmpI BinOp.gtr x 1000000000 = false, (!cmpI BinOp.eql w 0 == cmpI BinOp.eql c 2) = false, cmpI BinOp.geq t 16 = false, (!cmpI BinOp.eql c 3) = false, cmpI BinOp.eql c 2 = false, cmpI BinOp.gtr c 8 = false, cmpI BinOp.lss c 1 = false]) := by kernel_rfl
theorem rpB_p15 (c t x y z w : Int) : fnX Try.prog X24 100000 [.d false, .c 1, .d false, .d false, .c 0, .d false, .d false, .c 5, .d false, PE.u, .c 0, .d false, .c 0, .d false, .c 0, .d false, .c 0] 9 [D.agg [u8 c, u32 t, u32 x, u32 y, u32 z, u64 w]] = some (i64 0, [cmpI BinOp.gtr z 1000000000 = false, cmpI BinOp.gtr y 1000000000 = false, cmpI BinOp.gtr x 1000000000 = false, (!cmpI BinOp.eql w 0 == cmpI BinOp.eql c 2) = false, cmpI BinOp.geq t 16 = false, (!cmpI BinOp.eql c 3) = false, cmpI BinOp.eql c 2 = false, cmpI BinOp.gtr c 8 = false, cmpI BinOp.lss c 1 = false]) := by kernel_rfl
theorem rpB_calls (c t x y z w : Int) (res : D)
  (h0 : ((cmpI BinOp.lss c 1) = true) → (True) ∧ res = i64 8)
  (h1 : ((cmpI BinOp.lss c 1) = false) → ((cmpI BinOp.gtr c 8) = true) → (True) ∧ res = i64 8)
  (h2 : ((cmpI BinOp.lss c 1) = false) → ((cmpI BinOp.gtr c 8) = false) → ((cmpI BinOp.eql c 2) = true) → ((cmpI BinOp.geq t 16) = true) → (True) ∧ res = i64 8)
  (h3 : ((cmpI BinOp.lss c 1) = false) → ((cmpI BinOp.gtr c 8) = false) → ((cmpI BinOp.eql c 2) = true) → ((cmpI BinOp.geq t 16) = false) → ((!cmpI BinOp.eql w 0 == cmpI BinOp.eql c 2) = true) → (True) ∧ res = i64 8)
  (h4 : ((cmpI BinOp.lss c 1) = false) → ((cmpI BinOp.gtr c 8) = false) → ((cmpI BinOp.eql c 2) = true) → ((cmpI BinOp.geq t 16) = false) → ((!cmpI BinOp.eql w 0 == cmpI BinOp.eql c 2) = false) → ((cmpI BinOp.gtr x 1000000000) = true) → (True) ∧ res = i64 8)
  (h5 : ((cmpI BinOp.lss c 1) = false) → ((cmpI BinOp.gtr c 8) = false) → ((cmpI BinOp.eql c 2) = true) → ((cmpI BinOp.geq t 16) = false) → ((!cmpI BinOp.eql w 0 == cmpI BinOp.eql c 2) = false) → ((cmpI BinOp.gtr x 1000000000) = false) → ((cmpI BinOp.gtr y 1000000000) = true) → (True) ∧ res = i64 8)
  (h6 : ((cmpI BinOp.lss c 1) = false) → ((cmpI BinOp.gtr c 8) = false) → ((cmpI BinOp.eql c 2) = true) → ((cmpI BinOp.geq t 16) = false) → ((!cmpI BinOp.eql w 0 == cmpI BinOp.eql c 2) = false) → ((cmpI BinOp.gtr x 1000000000) = false) → ((cmpI BinOp.gtr y 1000000000) = false) → ((cmpI BinOp.gtr z 1000000000) = true) → (True) ∧ res = i64 8)
  (h7 : ((cmpI BinOp.lss c 1) = false) → ((cmpI BinOp.gtr c 8) = false) → ((cmpI BinOp.eql c 2) = true) → ((cmpI BinOp.geq t 16) = false) → ((!cmpI BinOp.eql w 0 == cmpI BinOp.eql c 2) = false) → ((cmpI BinOp.gtr x 1000000000) = false) → ((cmpI BinOp.gtr y 1000000000) = false) → ((cmpI BinOp.gtr z 1000000000) = false) → (True) ∧ res = i64 0)
  (h8 : ((cmpI BinOp.lss c 1) = false) → ((cmpI BinOp.gtr c 8) = false) → ((cmpI BinOp.eql c 2) = false) → ((!cmpI BinOp.eql c 3) = true) → ((rpB_c0 c t x y z w) = true) → (True) ∧ res = i64 8)
  (h9 : ((cmpI BinOp.lss c 1) = false) → ((cmpI BinOp.gtr c 8) = false) → ((cmpI BinOp.eql c 2) = false) → ((!cmpI BinOp.eql c 3) = true) → ((rpB_c0 c t x y z w) = false) → (True) ∧ res = i64 0)
  (h10 : ((cmpI BinOp.lss c 1) = false) → ((cmpI BinOp.gtr c 8) = false) → ((cmpI BinOp.eql c 2) = false) → ((!cmpI BinOp.eql c 3) = false) → ((cmpI BinOp.geq t 16) = true) → (True) ∧ res = i64 8)
  (h11 : ((cmpI BinOp.lss c 1) = false) → ((cmpI BinOp.gtr c 8) = false) → ((cmpI BinOp.eql c 2) = false) → ((!cmpI BinOp.eql c 3) = false) → ((cmpI BinOp.geq t 16) = false) → ((!cmpI BinOp.eql w 0 == cmpI BinOp.eql c 2) = true) → (True) ∧ res = i64 8)
  (h12 : ((cmpI BinOp.lss c 1) = false) → ((cmpI BinOp.gtr c 8) = false) → ((cmpI BinOp.eql c 2) = false) → ((!cmpI BinOp.eql c 3) = false) → ((cmpI BinOp.geq t 16) = false) → ((!cmpI BinOp.eql w 0 == cmpI BinOp.eql c 2) = false) → ((cmpI BinOp.gtr x 1000000000) = true) → (True) ∧ res = i64 8)
  (h13 : ((cmpI BinOp.lss c 1) = false) → ((cmpI BinOp.gtr c 8) = false) → ((cmpI BinOp.eql c 2) = false) → ((!cmpI BinOp.eql c 3) = false) → ((cmpI BinOp.geq t 16) = false) → ((!cmpI BinOp.eql w 0 == cmpI BinOp.eql c 2) = false) → ((cmpI BinOp.gtr x 1000000000) = false) → ((cmpI BinOp.gtr y 1000000000) = true) → (True) ∧ res = i64 8)
  (h14 : ((cmpI BinOp.lss c 1) = false) → ((cmpI BinOp.gtr c 8) = false) → ((cmpI BinOp.eql c 2) = false) → ((!cmpI BinOp.eql c 3) = false) → ((cmpI BinOp.geq t 16) = false) → ((!cmpI BinOp.eql w 0 == cmpI BinOp.eql c 2) = false) → ((cmpI BinOp.gtr x 1000000000) = false) → ((cmpI BinOp.gtr y 1000000000) = false) → ((cmpI BinOp.gtr z 1000000000) = true) → (True) ∧ res = i64 8)
  (h15 : ((cmpI BinOp.lss c 1) = false) → ((cmpI BinOp.gtr c 8) = false) → ((cmpI BinOp.eql c 2) = false) → ((!cmpI BinOp.eql c 3) = false) → ((cmpI BinOp.geq t 16) = false) → ((!cmpI BinOp.eql w 0 == cmpI BinOp.eql c 2) = false) → ((cmpI BinOp.gtr x 1000000000) = false) → ((cmpI BinOp.gtr y 1000000000) = false) → ((cmpI BinOp.gtr z 1000000000) = false) → (True) ∧ res = i64 0) : CallsD Try.prog 9 [D.agg [u8 c, u32 t, u32 x, u32 y, u32 z, u64 w]] res := by
  cases e0 : (cmpI BinOp.lss c 1) with
  | true =>
    exact of_path hX24 (rpB_p0 c t x y z w) ⟨e0, trivial⟩ (h0 e0).2
  | false =>
    cases e1 : (cmpI BinOp.gtr c 8) with
    | true =>
      exact of_path hX24 (rpB_p1 c t x y z w) ⟨e1, e0, trivial⟩ (h1 e0 e1).2
    | false =>
      cases e2 : (cmpI BinOp.eql c 2) with
      | true =>
        cases e3 : (cmpI BinOp.geq t 16) with
        | true =>
          exact of_path hX24 (rpB_p2 c t x y z w) ⟨e3, e2, e1, e0, trivial⟩ (h2 e0 e1 e2 e3).2
        | false =>
          cases e4 : (!cmpI BinOp.eql w 0 == cmpI BinOp.eql c 2) with
          | true =>
            exact of_path hX24 (rpB_p3 c t x y z w) ⟨e4, e3, e2, e1, e0, trivial⟩ (h3 e0 e1 e2 e3 e4).2
          | false =>
            cases e5 : (cmpI BinOp.gtr x 1000000000) with
            | true =>
              exact of_path hX24 (rpB_p4 c t x y z w) ⟨e5, e4, e3, e2, e1, e0, trivial⟩ (h4 e0 e1 e2 e3 e4 e5).2
            | false =>
              cases e6 : (cmpI BinOp.gtr y 1000000000) with
              | true =>
                exact of_path hX24 (rpB_p5 c t x y z w) ⟨e6, e5, e4, e3, e2, e1, e0, trivial⟩ (h5 e0 e1 e2 e3 e4 e5 e6).2
              | false =>
                cases e7 : (cmpI BinOp.gtr z 1000000000) with
                | true =>
                  exact of_path hX24 (rpB_p6 c t x y z w) ⟨e7, e6, e5, e4, e3, e2, e1, e0, trivial⟩ (h6 e0 e1 e2 e3 e4 e5 e6 e7).2
                | false =>
                  exact of_path hX24 (rpB_p7 c t x y z w) ⟨e7, e6, e5, e4, e3, e2, e1, e0, trivial⟩ (h7 e0 e1 e2 e3 e4 e5 e6 e7).2
      | false =>
        cases e3 : (!cmpI BinOp.eql c 3) with
        | true =>
          cases e4 : (rpB_c0 c t x y z w) with
          | true =>
            exact of_path hX24 (rpB_p8 c t x y z w) ⟨e4, e3, e2, e1, e0, trivial⟩ (h8 e0 e1 e2 e3 e4).2
          | false =>
            exact of_path hX24 (rpB_p9 c t x y z w) ⟨e4, e3, e2, e1, e0, trivial⟩ (h9 e0 e1 e2 e3 e4).2
        | false =>
          cases e4 : (cmpI BinOp.geq t 16) with
          | true =>
            exact of_path hX24 (rpB_p10 c t x y z w) ⟨e4, e3, e2, e1, e0, trivial⟩ (h10 e0 e1 e2 e3 e4).2
          | false =>
            cases e5 : (!cmpI BinOp.eql w 0 == cmpI BinOp.eql c 2) with
            | true =>
              exact of_path hX24 (rpB_p11 c t x y z w) ⟨e5, e4, e3, e2, e1, e0, trivial⟩ (h11 e0 e1 e2 e3 e4 e5).2
            | false =>
              cases e6 : (cmpI BinOp.gtr x 1000000000) with
              | true =>
                exact of_path hX24 (rpB_p12 c t x y z w) ⟨e6, e5, e4, e3, e2, e1, e0, trivial⟩ (h12 e0 e1 e2 e3 e4 e5 e6).2
              | false =>
                cases e7 : (cmpI BinOp.gtr y 1000000000) with
                | true =>
                  exact of_path hX24 (rpB_p13 c t x y z w) ⟨e7, e6, e5, e4, e3, e2, e1, e0, trivial⟩ (h13 e0 e1 e2 e3 e4 e5 e6 e7).2
                | false =>
                  cases e8 : (cmpI BinOp.gtr z 1000000000) with
                  | true =>
                    exact of_path hX24 (rpB_p14 c t x y z w) ⟨e8, e7, e6, e5, e4, e3, e2, e1, e0, trivial⟩ (h14 e0 e1 e2 e3 e4 e5 e6 e7 e8).2
                  | false =>
                    exact of_path hX24 (rpB_p15 c t x y z w) ⟨e8, e7, e6, e5, e4, e3, e2, e1, e0, trivial⟩ (h15 e0 e1 e2 e3 e4 e5 e6 e7 e8).2

theorem rowA_p0 (b r p v q t b1 r1 p1 v1 q1 t1 b2 r2 p2 v2 q2 t2 : Int) : fnX Try.prog X24 100000 [] 21 [D.agg (bk1 b r p v q t ++ bk1 b1 r1 p1 v1 q1 t1 ++ bk1 b2 r2 p2 v2 q2 t2)] = some (D.v (Value.bool (cmpI BinOp.eql (ck3 (bkE b r p v q) (bkE b1 r1 p1 v1 q1) (bkE b2 r2 p2 v2 q2)) 0)), [-9223372036854775808 ≤ v, v < 9223372036854775808, -9223372036854775808 ≤ v1, v1 < 9223372036854775808, -9223372036854775808 ≤ v2, v2 < 9223372036854775808]) := by kernel_rfl
theorem rowA_calls (b r p v q t b1 r1 p1 v1 q1 t1 b2 r2 p2 v2 q2 t2 : Int) (res : D)
  (h0 : ((-9223372036854775808 ≤ v) ∧ (v < 9223372036854775808) ∧ (-9223372036854775808 ≤ v1) ∧ (v1 < 9223372036854775808) ∧ (-9223372036854775808 ≤ v2) ∧ (v2 < 9223372036854775808) ∧ True) ∧ res = D.v (Value.bool (cmpI BinOp.eql (ck3 (bkE b r p v q) (bkE b1 r1 p1 v1 q1) (bkE b2 r2 p2 v2 q2)) 0))) : CallsD Try.prog 21 [D.agg (bk1 b r p v q t ++ bk1 b1 r1 p1 v1 q1 t1 ++ bk1 b2 r2 p2 v2 q2 t2)] res := by
  exact of_path hX24 (rowA_p0 b r p v q t b1 r1 p1 v1 q1 t1 b2 r2 p2 v2 q2 t2) ⟨(h0).1.1, (h0).1.2.1, (h0).1.2.2.1, (h0).1.2.2.2.1, (h0).1.2.2.2.2.1, (h0).1.2.2.2.2.2.1, trivial⟩ (h0).2

theorem rowB_p0 (b r p v q t b1 r1 p1 v1 q1 t1 b2 r2 p2 v2 q2 t2 : Int) : fnX Try.prog X24 100000 [.d true, .c 2, .d true, .c 2] 20 [D.agg (bk1 b r p v q t ++ bk1 b1 r1 p1 v1 q1 t1 ++ bk1 b2 r2 p2 v2 q2 t2)] = some (D.v (Value.bool (cmpI BinOp.eql (bkE b2 r2 p2 v2 q2) 0)), [-9223372036854775808 ≤ v2, v2 < 9223372036854775808, cmpI BinOp.eql (bkE b1 r1 p1 v1 q1) 0 = true, -9223372036854775808 ≤ v1, v1 < 9223372036854775808, cmpI BinOp.eql (bkE b r p v q) 0 = true, -9223372036854775808 ≤ v, v < 9223372036854775808]) := by kernel_rfl
theorem rowB_p1 (b r p v q t b1 r1 p1 v1 q1 t1 b2 r2 p2 v2 q2 t2 : Int) : fnX Try.prog X24 100000 [.d true, .c 2, .d false, .c 2] 20 [D.agg (bk1 b r p v q t ++ bk1 b1 r1 p1 v1 q1 t1 ++ bk1 b2 r2 p2 v2 q2 t2)] = some (bo false, [cmpI BinOp.eql (bkE b1 r1 p1 v1 q1) 0 = false, -9223372036854775808 ≤ v1, v1 < 9223372036854775808, cmpI BinOp.eql (bkE b r p v q) 0 = true, -9223372036854775808 ≤ v, v < 9223372036854775808]) := by kernel_rfl
theorem rowB_p2 (b r p v q t b1 r1 p1 v1 q1 t1 b2 r2 p2 v2 q2 t2 : Int) : fnX Try.prog X24 100000 [.d false, .c 6] 20 [D.agg (bk1 b r p v q t ++ bk1 b1 r1 p1 v1 q1 t1 ++ bk1 b2 r2 p2 v2 q2 t2)] = some (bo false, [cmpI BinOp.eql (bkE b r p v q) 0 = false, -9223372036854775808 ≤ v, v < 9223372036854775808]) := by kernel_rfl
theorem rowB_calls (b r p v q t b1 r1 p1 v1 q1 t1 b2 r2 p2 v2 q2 t2 : Int) (res : D)
  (h0 : ((cmpI BinOp.eql (bkE b r p v q) 0) = true) → ((cmpI BinOp.eql (bkE b1 r1 p1 v1 q1) 0) = true) → ((-9223372036854775808 ≤ v2) ∧ (v2 < 9223372036854775808) ∧ (-9223372036854775808 ≤ v1) ∧ (v1 < 9223372036854775808) ∧ (-9223372036854775808 ≤ v) ∧ (v < 9223372036854775808) ∧ True) ∧ res = D.v (Value.bool (cmpI BinOp.eql (bkE b2 r2 p2 v2 q2) 0)))
  (h1 : ((cmpI BinOp.eql (bkE b r p v q) 0) = true) → ((cmpI BinOp.eql (bkE b1 r1 p1 v1 q1) 0) = false) → ((-9223372036854775808 ≤ v1) ∧ (v1 < 9223372036854775808) ∧ (-9223372036854775808 ≤ v) ∧ (v < 9223372036854775808) ∧ True) ∧ res = bo false)
  (h2 : ((cmpI BinOp.eql (bkE b r p v q) 0) = false) → ((-9223372036854775808 ≤ v) ∧ (v < 9223372036854775808) ∧ True) ∧ res = bo false) : CallsD Try.prog 20 [D.agg (bk1 b r p v q t ++ bk1 b1 r1 p1 v1 q1 t1 ++ bk1 b2 r2 p2 v2 q2 t2)] res := by
  cases e0 : (cmpI BinOp.eql (bkE b r p v q) 0) with
  | true =>
    cases e1 : (cmpI BinOp.eql (bkE b1 r1 p1 v1 q1) 0) with
    | true =>
      exact of_path hX24 (rowB_p0 b r p v q t b1 r1 p1 v1 q1 t1 b2 r2 p2 v2 q2 t2) ⟨(h0 e0 e1).1.1, (h0 e0 e1).1.2.1, e1, (h0 e0 e1).1.2.2.1, (h0 e0 e1).1.2.2.2.1, e0, (h0 e0 e1).1.2.2.2.2.1, (h0 e0 e1).1.2.2.2.2.2.1, trivial⟩ (h0 e0 e1).2
    | false =>
      exact of_path hX24 (rowB_p1 b r p v q t b1 r1 p1 v1 q1 t1 b2 r2 p2 v2 q2 t2) ⟨e1, (h1 e0 e1).1.1, (h1 e0 e1).1.2.1, e0, (h1 e0 e1).1.2.2.1, (h1 e0 e1).1.2.2.2.1, trivial⟩ (h1 e0 e1).2
  | false =>
    exact of_path hX24 (rowB_p2 b r p v q t b1 r1 p1 v1 q1 t1 b2 r2 p2 v2 q2 t2) ⟨e0, (h2 e0).1.1, (h2 e0).1.2.1, trivial⟩ (h2 e0).2
noncomputable def made_c0 (tn at' co b r p v q t b1 r1 p1 v1 q1 t1 b2 r2 p2 v2 q2 t2 : Int) := tk3 (IntKind.i64.wrap co) (fiV b r p v q t at') (fiV b1 r1 p1 v1 q1 t1 at') (fiV b2 r2 p2 v2 q2 t2 at')
noncomputable def made_c1 (tn at' co b r p v q t b1 r1 p1 v1 q1 t1 b2 r2 p2 v2 q2 t2 : Int) := !tk3 (IntKind.i64.wrap co) (fiV b r p v q t at') (fiV b1 r1 p1 v1 q1 t1 at') (fiV b2 r2 p2 v2 q2 t2 at')
noncomputable def made_c2 (tn at' co b r p v q t b1 r1 p1 v1 q1 t1 b2 r2 p2 v2 q2 t2 : Int) := lv (made_c0 tn at' co b r p v q t b1 r1 p1 v1 q1 t1 b2 r2 p2 v2 q2 t2) (fiV b r p v q t at') (IntKind.i64.wrap co)
noncomputable def made_c3 (tn at' co b r p v q t b1 r1 p1 v1 q1 t1 b2 r2 p2 v2 q2 t2 : Int) := lv (made_c0 tn at' co b r p v q t b1 r1 p1 v1 q1 t1 b2 r2 p2 v2 q2 t2) (fiV b1 r1 p1 v1 q1 t1 at') (IntKind.i64.wrap co)
noncomputable def made_c4 (tn at' co b r p v q t b1 r1 p1 v1 q1 t1 b2 r2 p2 v2 q2 t2 : Int) := lv (made_c0 tn at' co b r p v q t b1 r1 p1 v1 q1 t1 b2 r2 p2 v2 q2 t2) (fiV b2 r2 p2 v2 q2 t2 at') (IntKind.i64.wrap co)
theorem made_p0 (tn at' co b r p v q t b1 r1 p1 v1 q1 t1 b2 r2 p2 v2 q2 t2 : Int) : fnX Try.prog X24 100000 [PE.u, .c 3, .d true] 22 [u32 tn, D.agg (bk1 b r p v q t ++ bk1 b1 r1 p1 v1 q1 t1 ++ bk1 b2 r2 p2 v2 q2 t2), u64 at', u32 co] = some (D.agg [u32 tn, u64 at', u32 co, i64 b, i64 r, i64 p, i64 v, i64 q, u64 t, i64 b1, i64 r1, i64 p1, i64 v1, i64 q1, u64 t1, i64 b2, i64 r2, i64 p2, i64 v2, i64 q2, u64 t2, u8 3, u32 tn, u32 (IntKind.u32.wrap (made_c2 tn at' co b r p v q t b1 r1 p1 v1 q1 t1 b2 r2 p2 v2 q2 t2)), u32 (IntKind.u32.wrap (made_c3 tn at' co b r p v q t b1 r1 p1 v1 q1 t1 b2 r2 p2 v2 q2 t2)), u32 (IntKind.u32.wrap (made_c4 tn at' co b r p v q t b1 r1 p1 v1 q1 t1 b2 r2 p2 v2 q2 t2)), u64 (mx3 (waN b r p (made_c2 tn at' co b r p v q t b1 r1 p1 v1 q1 t1 b2 r2 p2 v2 q2 t2) (fiQ b r p v q t at') (fiT t at') (IntKind.i64.wrap co)) (waN b1 r1 p1 (made_c3 tn at' co b r p v q t b1 r1 p1 v1 q1 t1 b2 r2 p2 v2 q2 t2) (fiQ b1 r1 p1 v1 q1 t1 at') (fiT t1 at') (IntKind.i64.wrap co)) (waN b2 r2 p2 (made_c4 tn at' co b r p v q t b1 r1 p1 v1 q1 t1 b2 r2 p2 v2 q2 t2) (fiQ b2 r2 p2 v2 q2 t2 at') (fiT t2 at') (IntKind.i64.wrap co))), i64 b, i64 r, i64 p, i64 (made_c2 tn at' co b r p v q t b1 r1 p1 v1 q1 t1 b2 r2 p2 v2 q2 t2), i64 (fiQ b r p v q t at'), u64 (fiT t at'), i64 b1, i64 r1, i64 p1, i64 (made_c3 tn at' co b r p v q t b1 r1 p1 v1 q1 t1 b2 r2 p2 v2 q2 t2), i64 (fiQ b1 r1 p1 v1 q1 t1 at'), u64 (fiT t1 at'), i64 b2, i64 r2, i64 p2, i64 (made_c4 tn at' co b r p v q t b1 r1 p1 v1 q1 t1 b2 r2 p2 v2 q2 t2), i64 (fiQ b2 r2 p2 v2 q2 t2 at'), u64 (fiT t2 at')], [bkE b r p (made_c2 tn at' co b r p v q t b1 r1 p1 v1 q1 t1 b2 r2 p2 v2 q2 t2) (fiQ b r p v q t at') = 0, bkE b1 r1 p1 (made_c3 tn at' co b r p v q t b1 r1 p1 v1 q1 t1 b2 r2 p2 v2 q2 t2) (fiQ b1 r1 p1 v1 q1 t1 at') = 0, bkE b2 r2 p2 (made_c4 tn at' co b r p v q t b1 r1 p1 v1 q1 t1 b2 r2 p2 v2 q2 t2) (fiQ b2 r2 p2 v2 q2 t2 at') = 0, 0 ≤ fiT t at', fiT t at' < 18446744073709551616, 0 ≤ fiT t1 at', fiT t1 at' < 18446744073709551616, 0 ≤ fiT t2 at', fiT t2 at' < 18446744073709551616, 0 ≤ IntKind.i64.wrap co, IntKind.i64.wrap co < 9223372036854775808, (made_c1 tn at' co b r p v q t b1 r1 p1 v1 q1 t1 b2 r2 p2 v2 q2 t2) = true, bkE b r p v q = 0, bkE b1 r1 p1 v1 q1 = 0, bkE b2 r2 p2 v2 q2 = 0, 0 ≤ t, t < 18446744073709551616, 0 ≤ t1, t1 < 18446744073709551616, 0 ≤ t2, t2 < 18446744073709551616, 0 ≤ at', at' < 18446744073709551616, 0 ≤ IntKind.i64.wrap co, IntKind.i64.wrap co < 9223372036854775808]) := by kernel_rfl
theorem made_p1 (tn at' co b r p v q t b1 r1 p1 v1 q1 t1 b2 r2 p2 v2 q2 t2 : Int) : fnX Try.prog X24 100000 [PE.u, .c 3, .d false] 22 [u32 tn, D.agg (bk1 b r p v q t ++ bk1 b1 r1 p1 v1 q1 t1 ++ bk1 b2 r2 p2 v2 q2 t2), u64 at', u32 co] = some (D.agg [u32 tn, u64 at', u32 co, i64 b, i64 r, i64 p, i64 v, i64 q, u64 t, i64 b1, i64 r1, i64 p1, i64 v1, i64 q1, u64 t1, i64 b2, i64 r2, i64 p2, i64 v2, i64 q2, u64 t2, u8 2, u32 tn, u32 (IntKind.u32.wrap (made_c2 tn at' co b r p v q t b1 r1 p1 v1 q1 t1 b2 r2 p2 v2 q2 t2)), u32 (IntKind.u32.wrap (made_c3 tn at' co b r p v q t b1 r1 p1 v1 q1 t1 b2 r2 p2 v2 q2 t2)), u32 (IntKind.u32.wrap (made_c4 tn at' co b r p v q t b1 r1 p1 v1 q1 t1 b2 r2 p2 v2 q2 t2)), u64 0, i64 b, i64 r, i64 p, i64 (made_c2 tn at' co b r p v q t b1 r1 p1 v1 q1 t1 b2 r2 p2 v2 q2 t2), i64 (fiQ b r p v q t at'), u64 (fiT t at'), i64 b1, i64 r1, i64 p1, i64 (made_c3 tn at' co b r p v q t b1 r1 p1 v1 q1 t1 b2 r2 p2 v2 q2 t2), i64 (fiQ b1 r1 p1 v1 q1 t1 at'), u64 (fiT t1 at'), i64 b2, i64 r2, i64 p2, i64 (made_c4 tn at' co b r p v q t b1 r1 p1 v1 q1 t1 b2 r2 p2 v2 q2 t2), i64 (fiQ b2 r2 p2 v2 q2 t2 at'), u64 (fiT t2 at')], [(made_c1 tn at' co b r p v q t b1 r1 p1 v1 q1 t1 b2 r2 p2 v2 q2 t2) = false, bkE b r p v q = 0, bkE b1 r1 p1 v1 q1 = 0, bkE b2 r2 p2 v2 q2 = 0, 0 ≤ t, t < 18446744073709551616, 0 ≤ t1, t1 < 18446744073709551616, 0 ≤ t2, t2 < 18446744073709551616, 0 ≤ at', at' < 18446744073709551616, 0 ≤ IntKind.i64.wrap co, IntKind.i64.wrap co < 9223372036854775808]) := by kernel_rfl
theorem made_calls (tn at' co b r p v q t b1 r1 p1 v1 q1 t1 b2 r2 p2 v2 q2 t2 : Int) (res : D)
  (h0 : ((made_c1 tn at' co b r p v q t b1 r1 p1 v1 q1 t1 b2 r2 p2 v2 q2 t2) = true) → ((bkE b r p (made_c2 tn at' co b r p v q t b1 r1 p1 v1 q1 t1 b2 r2 p2 v2 q2 t2) (fiQ b r p v q t at') = 0) ∧ (bkE b1 r1 p1 (made_c3 tn at' co b r p v q t b1 r1 p1 v1 q1 t1 b2 r2 p2 v2 q2 t2) (fiQ b1 r1 p1 v1 q1 t1 at') = 0) ∧ (bkE b2 r2 p2 (made_c4 tn at' co b r p v q t b1 r1 p1 v1 q1 t1 b2 r2 p2 v2 q2 t2) (fiQ b2 r2 p2 v2 q2 t2 at') = 0) ∧ (0 ≤ fiT t at') ∧ (fiT t at' < 18446744073709551616) ∧ (0 ≤ fiT t1 at') ∧ (fiT t1 at' < 18446744073709551616) ∧ (0 ≤ fiT t2 at') ∧ (fiT t2 at' < 18446744073709551616) ∧ (0 ≤ IntKind.i64.wrap co) ∧ (IntKind.i64.wrap co < 9223372036854775808) ∧ (bkE b r p v q = 0) ∧ (bkE b1 r1 p1 v1 q1 = 0) ∧ (bkE b2 r2 p2 v2 q2 = 0) ∧ (0 ≤ t) ∧ (t < 18446744073709551616) ∧ (0 ≤ t1) ∧ (t1 < 18446744073709551616) ∧ (0 ≤ t2) ∧ (t2 < 18446744073709551616) ∧ (0 ≤ at') ∧ (at' < 18446744073709551616) ∧ (0 ≤ IntKind.i64.wrap co) ∧ (IntKind.i64.wrap co < 9223372036854775808) ∧ True) ∧ res = D.agg [u32 tn, u64 at', u32 co, i64 b, i64 r, i64 p, i64 v, i64 q, u64 t, i64 b1, i64 r1, i64 p1, i64 v1, i64 q1, u64 t1, i64 b2, i64 r2, i64 p2, i64 v2, i64 q2, u64 t2, u8 3, u32 tn, u32 (IntKind.u32.wrap (made_c2 tn at' co b r p v q t b1 r1 p1 v1 q1 t1 b2 r2 p2 v2 q2 t2)), u32 (IntKind.u32.wrap (made_c3 tn at' co b r p v q t b1 r1 p1 v1 q1 t1 b2 r2 p2 v2 q2 t2)), u32 (IntKind.u32.wrap (made_c4 tn at' co b r p v q t b1 r1 p1 v1 q1 t1 b2 r2 p2 v2 q2 t2)), u64 (mx3 (waN b r p (made_c2 tn at' co b r p v q t b1 r1 p1 v1 q1 t1 b2 r2 p2 v2 q2 t2) (fiQ b r p v q t at') (fiT t at') (IntKind.i64.wrap co)) (waN b1 r1 p1 (made_c3 tn at' co b r p v q t b1 r1 p1 v1 q1 t1 b2 r2 p2 v2 q2 t2) (fiQ b1 r1 p1 v1 q1 t1 at') (fiT t1 at') (IntKind.i64.wrap co)) (waN b2 r2 p2 (made_c4 tn at' co b r p v q t b1 r1 p1 v1 q1 t1 b2 r2 p2 v2 q2 t2) (fiQ b2 r2 p2 v2 q2 t2 at') (fiT t2 at') (IntKind.i64.wrap co))), i64 b, i64 r, i64 p, i64 (made_c2 tn at' co b r p v q t b1 r1 p1 v1 q1 t1 b2 r2 p2 v2 q2 t2), i64 (fiQ b r p v q t at'), u64 (fiT t at'), i64 b1, i64 r1, i64 p1, i64 (made_c3 tn at' co b r p v q t b1 r1 p1 v1 q1 t1 b2 r2 p2 v2 q2 t2), i64 (fiQ b1 r1 p1 v1 q1 t1 at'), u64 (fiT t1 at'), i64 b2, i64 r2, i64 p2, i64 (made_c4 tn at' co b r p v q t b1 r1 p1 v1 q1 t1 b2 r2 p2 v2 q2 t2), i64 (fiQ b2 r2 p2 v2 q2 t2 at'), u64 (fiT t2 at')])
  (h1 : ((made_c1 tn at' co b r p v q t b1 r1 p1 v1 q1 t1 b2 r2 p2 v2 q2 t2) = false) → ((bkE b r p v q = 0) ∧ (bkE b1 r1 p1 v1 q1 = 0) ∧ (bkE b2 r2 p2 v2 q2 = 0) ∧ (0 ≤ t) ∧ (t < 18446744073709551616) ∧ (0 ≤ t1) ∧ (t1 < 18446744073709551616) ∧ (0 ≤ t2) ∧ (t2 < 18446744073709551616) ∧ (0 ≤ at') ∧ (at' < 18446744073709551616) ∧ (0 ≤ IntKind.i64.wrap co) ∧ (IntKind.i64.wrap co < 9223372036854775808) ∧ True) ∧ res = D.agg [u32 tn, u64 at', u32 co, i64 b, i64 r, i64 p, i64 v, i64 q, u64 t, i64 b1, i64 r1, i64 p1, i64 v1, i64 q1, u64 t1, i64 b2, i64 r2, i64 p2, i64 v2, i64 q2, u64 t2, u8 2, u32 tn, u32 (IntKind.u32.wrap (made_c2 tn at' co b r p v q t b1 r1 p1 v1 q1 t1 b2 r2 p2 v2 q2 t2)), u32 (IntKind.u32.wrap (made_c3 tn at' co b r p v q t b1 r1 p1 v1 q1 t1 b2 r2 p2 v2 q2 t2)), u32 (IntKind.u32.wrap (made_c4 tn at' co b r p v q t b1 r1 p1 v1 q1 t1 b2 r2 p2 v2 q2 t2)), u64 0, i64 b, i64 r, i64 p, i64 (made_c2 tn at' co b r p v q t b1 r1 p1 v1 q1 t1 b2 r2 p2 v2 q2 t2), i64 (fiQ b r p v q t at'), u64 (fiT t at'), i64 b1, i64 r1, i64 p1, i64 (made_c3 tn at' co b r p v q t b1 r1 p1 v1 q1 t1 b2 r2 p2 v2 q2 t2), i64 (fiQ b1 r1 p1 v1 q1 t1 at'), u64 (fiT t1 at'), i64 b2, i64 r2, i64 p2, i64 (made_c4 tn at' co b r p v q t b1 r1 p1 v1 q1 t1 b2 r2 p2 v2 q2 t2), i64 (fiQ b2 r2 p2 v2 q2 t2 at'), u64 (fiT t2 at')]) : CallsD Try.prog 22 [u32 tn, D.agg (bk1 b r p v q t ++ bk1 b1 r1 p1 v1 q1 t1 ++ bk1 b2 r2 p2 v2 q2 t2), u64 at', u32 co] res := by
  cases e0 : (made_c1 tn at' co b r p v q t b1 r1 p1 v1 q1 t1 b2 r2 p2 v2 q2 t2) with
  | true =>
    exact of_path hX24 (made_p0 tn at' co b r p v q t b1 r1 p1 v1 q1 t1 b2 r2 p2 v2 q2 t2) ⟨(h0 e0).1.1, (h0 e0).1.2.1, (h0 e0).1.2.2.1, (h0 e0).1.2.2.2.1, (h0 e0).1.2.2.2.2.1, (h0 e0).1.2.2.2.2.2.1, (h0 e0).1.2.2.2.2.2.2.1, (h0 e0).1.2.2.2.2.2.2.2.1, (h0 e0).1.2.2.2.2.2.2.2.2.1, (h0 e0).1.2.2.2.2.2.2.2.2.2.1, (h0 e0).1.2.2.2.2.2.2.2.2.2.2.1, e0, (h0 e0).1.2.2.2.2.2.2.2.2.2.2.2.1, (h0 e0).1.2.2.2.2.2.2.2.2.2.2.2.2.1, (h0 e0).1.2.2.2.2.2.2.2.2.2.2.2.2.2.1, (h0 e0).1.2.2.2.2.2.2.2.2.2.2.2.2.2.2.1, (h0 e0).1.2.2.2.2.2.2.2.2.2.2.2.2.2.2.2.1, (h0 e0).1.2.2.2.2.2.2.2.2.2.2.2.2.2.2.2.2.1, (h0 e0).1.2.2.2.2.2.2.2.2.2.2.2.2.2.2.2.2.2.1, (h0 e0).1.2.2.2.2.2.2.2.2.2.2.2.2.2.2.2.2.2.2.1, (h0 e0).1.2.2.2.2.2.2.2.2.2.2.2.2.2.2.2.2.2.2.2.1, (h0 e0).1.2.2.2.2.2.2.2.2.2.2.2.2.2.2.2.2.2.2.2.2.1, (h0 e0).1.2.2.2.2.2.2.2.2.2.2.2.2.2.2.2.2.2.2.2.2.2.1, (h0 e0).1.2.2.2.2.2.2.2.2.2.2.2.2.2.2.2.2.2.2.2.2.2.2.1, (h0 e0).1.2.2.2.2.2.2.2.2.2.2.2.2.2.2.2.2.2.2.2.2.2.2.2.1, trivial⟩ (h0 e0).2
  | false =>
    exact of_path hX24 (made_p1 tn at' co b r p v q t b1 r1 p1 v1 q1 t1 b2 r2 p2 v2 q2 t2) ⟨e0, (h1 e0).1.1, (h1 e0).1.2.1, (h1 e0).1.2.2.1, (h1 e0).1.2.2.2.1, (h1 e0).1.2.2.2.2.1, (h1 e0).1.2.2.2.2.2.1, (h1 e0).1.2.2.2.2.2.2.1, (h1 e0).1.2.2.2.2.2.2.2.1, (h1 e0).1.2.2.2.2.2.2.2.2.1, (h1 e0).1.2.2.2.2.2.2.2.2.2.1, (h1 e0).1.2.2.2.2.2.2.2.2.2.2.1, (h1 e0).1.2.2.2.2.2.2.2.2.2.2.2.1, (h1 e0).1.2.2.2.2.2.2.2.2.2.2.2.2.1, trivial⟩ (h1 e0).2
theorem rpA_ok (c t x y z w : Int) (c0 : 0 ≤ c) (w0 : 0 ≤ w) : CallsD Try.prog 25 [.agg [u8 c, u32 t, u32 x, u32 y, u32 z, u64 w]] (i64 (rpE c t x y z w)) := by
  refine rpA_calls c t x y z w _ ?_ ?_ ?_ ?_ ?_ ?_ ?_ ?_ ?_ ?_ ?_ ?_ ?_ ?_ ?_ ?_ ?_ ?_ ?_ ?_ ?_ ?_
  all_goals
    simp only [rpA_c0, most_max, eqb_t, eqb_f, not_t, not_f, and_t, and_f, eqi_t, eqi_f, lss_t, lss_f, gtr_t, gtr_f, geq_t, geq_f, eql_t, eql_f, neq_t, neq_f, leq_t, leq_f, and_true]
    intros
    refine ⟨trivial, ?_⟩
    unfold rpE
    simp only [D.v.injEq, Value.int.injEq, true_and]
    (repeat' split) <;> omega
theorem rpB_ok (c t x y z w : Int) (c0 : 0 ≤ c) (w0 : 0 ≤ w) : CallsD Try.prog 9 [.agg [u8 c, u32 t, u32 x, u32 y, u32 z, u64 w]] (i64 (rpE c t x y z w)) := by
  refine rpB_calls c t x y z w _ ?_ ?_ ?_ ?_ ?_ ?_ ?_ ?_ ?_ ?_ ?_ ?_ ?_ ?_ ?_ ?_
  all_goals
    simp only [rpB_c0, true_and, most_max, eqb_t, eqb_f, not_t, not_f, and_t, and_f, eqi_t, eqi_f, lss_t, lss_f, gtr_t, gtr_f, geq_t, geq_f, eql_t, eql_f, neq_t, neq_f, leq_t, leq_f, and_true]
    intros
    unfold rpE
    simp only [D.v.injEq, Value.int.injEq, true_and]
    (repeat' split) <;> omega
theorem rowA_ok (b r p v q t b1 r1 p1 v1 q1 t1 b2 r2 p2 v2 q2 t2 : Int) (h0 : -9223372036854775808 ≤ v) (h1 : v < 9223372036854775808) (h2 : -9223372036854775808 ≤ v1) (h3 : v1 < 9223372036854775808) (h4 : -9223372036854775808 ≤ v2) (h5 : v2 < 9223372036854775808) :
    CallsD Try.prog 21 [.agg [i64 b, i64 r, i64 p, i64 v, i64 q, u64 t, i64 b1, i64 r1, i64 p1, i64 v1, i64 q1, u64 t1, i64 b2, i64 r2, i64 p2, i64 v2, i64 q2, u64 t2]] (bo (rwB (bkE b r p v q) (bkE b1 r1 p1 v1 q1) (bkE b2 r2 p2 v2 q2))) := by
  refine rowA_calls b r p v q t b1 r1 p1 v1 q1 t1 b2 r2 p2 v2 q2 t2 _ ?_
  refine ⟨⟨h0, h1, h2, h3, h4, h5, trivial⟩, ?_⟩
  rfl
theorem rowB_ok (b r p v q t b1 r1 p1 v1 q1 t1 b2 r2 p2 v2 q2 t2 : Int) (h0 : -9223372036854775808 ≤ v) (h1 : v < 9223372036854775808) (h2 : -9223372036854775808 ≤ v1) (h3 : v1 < 9223372036854775808) (h4 : -9223372036854775808 ≤ v2) (h5 : v2 < 9223372036854775808) :
    CallsD Try.prog 20 [.agg [i64 b, i64 r, i64 p, i64 v, i64 q, u64 t, i64 b1, i64 r1, i64 p1, i64 v1, i64 q1, u64 t1, i64 b2, i64 r2, i64 p2, i64 v2, i64 q2, u64 t2]] (bo (rwB (bkE b r p v q) (bkE b1 r1 p1 v1 q1) (bkE b2 r2 p2 v2 q2))) := by
  refine rowB_calls b r p v q t b1 r1 p1 v1 q1 t1 b2 r2 p2 v2 q2 t2 _ ?_ ?_ ?_
  · intro a a1
    rw [eql_t] at a a1
    refine ⟨⟨h4, h5, h2, h3, h0, h1, trivial⟩, ?_⟩
    unfold rwB ck3; rw [if_pos a, if_pos a1]; rfl
  · intro a a1
    rw [eql_t] at a; rw [eql_f] at a1
    refine ⟨⟨h2, h3, h0, h1, trivial⟩, ?_⟩
    unfold rwB ck3; rw [if_pos a, if_neg a1, decide_eq_false a1]
  · intro a
    rw [eql_f] at a
    refine ⟨⟨h0, h1, trivial⟩, ?_⟩
    unfold rwB ck3; rw [if_neg a, decide_eq_false a]
theorem u32_of {n : Int} (h0 : 0 ≤ n) (h1 : n < 4294967296) : IntKind.wrap .u32 n = n := by
  simp [IntKind.wrap, IntKind.signed, IntKind.bits]; omega
theorem made_ok (tn b r p v q t b1 r1 p1 v1 q1 t1 b2 r2 p2 v2 q2 t2 n co : Int) (h : bkE b r p v q = 0) (h' : bkE b1 r1 p1 v1 q1 = 0) (h'' : bkE b2 r2 p2 v2 q2 = 0)
    (t0 : 0 ≤ t) (u0 : t < 18446744073709551616) (t01 : 0 ≤ t1) (u01 : t1 < 18446744073709551616) (t02 : 0 ≤ t2) (u02 : t2 < 18446744073709551616) (n0 : 0 ≤ n) (n1 : n < 18446744073709551616) (c0 : 0 ≤ co) (c1 : co < 4294967296) :
    CallsD Try.prog 22 [u32 tn, .agg [i64 b, i64 r, i64 p, i64 v, i64 q, u64 t, i64 b1, i64 r1, i64 p1, i64 v1, i64 q1, u64 t1, i64 b2, i64 r2, i64 p2, i64 v2, i64 q2, u64 t2], u64 n, u32 co] (.agg [u32 tn, u64 n, u32 co, i64 b, i64 r, i64 p, i64 v, i64 q, u64 t, i64 b1, i64 r1, i64 p1, i64 v1, i64 q1, u64 t1, i64 b2, i64 r2, i64 p2, i64 v2, i64 q2, u64 t2, u8 (mdC (tk3 co (fiV b r p v q t n) (fiV b1 r1 p1 v1 q1 t1 n) (fiV b2 r2 p2 v2 q2 t2 n))), u32 tn, u32 (lv (tk3 co (fiV b r p v q t n) (fiV b1 r1 p1 v1 q1 t1 n) (fiV b2 r2 p2 v2 q2 t2 n)) (fiV b r p v q t n) co), u32 (lv (tk3 co (fiV b r p v q t n) (fiV b1 r1 p1 v1 q1 t1 n) (fiV b2 r2 p2 v2 q2 t2 n)) (fiV b1 r1 p1 v1 q1 t1 n) co), u32 (lv (tk3 co (fiV b r p v q t n) (fiV b1 r1 p1 v1 q1 t1 n) (fiV b2 r2 p2 v2 q2 t2 n)) (fiV b2 r2 p2 v2 q2 t2 n) co), u64 (mdW (tk3 co (fiV b r p v q t n) (fiV b1 r1 p1 v1 q1 t1 n) (fiV b2 r2 p2 v2 q2 t2 n)) (mx3 (waN b r p (lv (tk3 co (fiV b r p v q t n) (fiV b1 r1 p1 v1 q1 t1 n) (fiV b2 r2 p2 v2 q2 t2 n)) (fiV b r p v q t n) co) (fiQ b r p v q t n) (fiT t n) co) (waN b1 r1 p1 (lv (tk3 co (fiV b r p v q t n) (fiV b1 r1 p1 v1 q1 t1 n) (fiV b2 r2 p2 v2 q2 t2 n)) (fiV b1 r1 p1 v1 q1 t1 n) co) (fiQ b1 r1 p1 v1 q1 t1 n) (fiT t1 n) co) (waN b2 r2 p2 (lv (tk3 co (fiV b r p v q t n) (fiV b1 r1 p1 v1 q1 t1 n) (fiV b2 r2 p2 v2 q2 t2 n)) (fiV b2 r2 p2 v2 q2 t2 n) co) (fiQ b2 r2 p2 v2 q2 t2 n) (fiT t2 n) co))), i64 b, i64 r, i64 p, i64 (lv (tk3 co (fiV b r p v q t n) (fiV b1 r1 p1 v1 q1 t1 n) (fiV b2 r2 p2 v2 q2 t2 n)) (fiV b r p v q t n) co), i64 (fiQ b r p v q t n), u64 (fiT t n), i64 b1, i64 r1, i64 p1, i64 (lv (tk3 co (fiV b r p v q t n) (fiV b1 r1 p1 v1 q1 t1 n) (fiV b2 r2 p2 v2 q2 t2 n)) (fiV b1 r1 p1 v1 q1 t1 n) co), i64 (fiQ b1 r1 p1 v1 q1 t1 n), u64 (fiT t1 n), i64 b2, i64 r2, i64 p2, i64 (lv (tk3 co (fiV b r p v q t n) (fiV b1 r1 p1 v1 q1 t1 n) (fiV b2 r2 p2 v2 q2 t2 n)) (fiV b2 r2 p2 v2 q2 t2 n) co), i64 (fiQ b2 r2 p2 v2 q2 t2 n), u64 (fiT t2 n)]) := by
  have wc : IntKind.i64.wrap co = co := wrap_i64_of (by omega) (by omega)
  have a0 := fi_in h t0 n0
  have a1 := fi_in h' t01 n0
  have a2 := fi_in h'' t02 n0
  have f0 := fi_ok h t0 n0
  have f1 := fi_ok h' t01 n0
  have f2 := fi_ok h'' t02 n0
  have i0 := fiT_in t0 u0 n0 n1
  have i1 := fiT_in t01 u01 n0 n1
  have i2 := fiT_in t02 u02 n0 n1
  refine made_calls tn n co b r p v q t b1 r1 p1 v1 q1 t1 b2 r2 p2 v2 q2 t2 _ ?_ ?_
  all_goals
    simp only [made_c0, made_c1, made_c2, made_c3, made_c4, wc]
    generalize fiV b r p v q t n = x at *
    generalize fiV b1 r1 p1 v1 q1 t1 n = y at *
    generalize fiV b2 r2 p2 v2 q2 t2 n = z at *
    intro hk
  · have k : tk3 co x y z = false := by cases e : tk3 co x y z <;> simp [e] at hk ⊢
    rw [k]
    have l0 : lv false x co = x := rfl
    have l1 : lv false y co = y := rfl
    have l2 : lv false z co = z := rfl
    rw [l0, l1, l2, u32_of (n := x) (by omega) (by omega), u32_of (n := y) (by omega) (by omega), u32_of (n := z) (by omega) (by omega)]
    exact ⟨⟨f0, f1, f2, i0.1, i0.2, i1.1, i1.2, i2.1, i2.2, c0, by omega, h, h', h'', t0, u0, t01, u01, t02, u02, n0, n1, c0, by omega, trivial⟩, rfl⟩
  · have k : tk3 co x y z = true := by cases e : tk3 co x y z <;> simp [e] at hk ⊢
    have k' := tk3_iff.1 k
    rw [k]
    have l0 : lv true x co = x - co := rfl
    have l1 : lv true y co = y - co := rfl
    have l2 : lv true z co = z - co := rfl
    rw [l0, l1, l2, u32_of (n := x - co) (by omega) (by omega), u32_of (n := y - co) (by omega) (by omega), u32_of (n := z - co) (by omega) (by omega)]
    exact ⟨⟨h, h', h'', t0, u0, t01, u01, t02, u02, n0, n1, c0, by omega, trivial⟩, rfl⟩
def rpC : List D → Option (D × List Prop)
  | [.agg [.v (.int .u8 c), .v (.int .u32 t), .v (.int .u32 x), .v (.int .u32 y), .v (.int .u32 z), .v (.int .u64 w)]] => some (i64 (rpE c t x y z w), [0 ≤ c, 0 ≤ w])
  | _ => none
theorem rpC_okA (args res l) (h : rpC args = some (res, l)) (hl : AllP l) : CallsD Try.prog 25 args res := by
  unfold rpC at h; split at h
  · simp only [Option.some.injEq, Prod.mk.injEq] at h
    obtain ⟨rfl, rfl⟩ := h; obtain ⟨h0, h1, _⟩ := hl
    exact rpA_ok _ _ _ _ _ _ h0 h1
  · cases h
theorem rpC_okB (args res l) (h : rpC args = some (res, l)) (hl : AllP l) : CallsD Try.prog 9 args res := by
  unfold rpC at h; split at h
  · simp only [Option.some.injEq, Prod.mk.injEq] at h
    obtain ⟨rfl, rfl⟩ := h; obtain ⟨h0, h1, _⟩ := hl
    exact rpB_ok _ _ _ _ _ _ h0 h1
  · cases h
/-- Three valid buckets; a tick and a cost. -/
def val3 (b r p v q t b1 r1 p1 v1 q1 t1 b2 r2 p2 v2 q2 t2 : Int) : Prop := (bkE b r p v q = 0 ∧ bkE b1 r1 p1 v1 q1 = 0 ∧ bkE b2 r2 p2 v2 q2 = 0) ∧ 0 ≤ t ∧ t < 18446744073709551616 ∧ 0 ≤ t1 ∧ t1 < 18446744073709551616 ∧ 0 ≤ t2 ∧ t2 < 18446744073709551616
def inNC (n co : Int) : Prop := 0 ≤ n ∧ n < 18446744073709551616 ∧ 0 ≤ co ∧ co < 4294967296
def inV (v v1 v2 : Int) : Prop := -9223372036854775808 ≤ v ∧ v < 9223372036854775808 ∧ -9223372036854775808 ≤ v1 ∧ v1 < 9223372036854775808 ∧ -9223372036854775808 ≤ v2 ∧ v2 < 9223372036854775808
theorem made_ok' (tn b r p v q t b1 r1 p1 v1 q1 t1 b2 r2 p2 v2 q2 t2 n co : Int) (h : val3 b r p v q t b1 r1 p1 v1 q1 t1 b2 r2 p2 v2 q2 t2) (hn : inNC n co) : CallsD Try.prog 22 [u32 tn, .agg [i64 b, i64 r, i64 p, i64 v, i64 q, u64 t, i64 b1, i64 r1, i64 p1, i64 v1, i64 q1, u64 t1, i64 b2, i64 r2, i64 p2, i64 v2, i64 q2, u64 t2], u64 n, u32 co] (.agg [u32 tn, u64 n, u32 co, i64 b, i64 r, i64 p, i64 v, i64 q, u64 t, i64 b1, i64 r1, i64 p1, i64 v1, i64 q1, u64 t1, i64 b2, i64 r2, i64 p2, i64 v2, i64 q2, u64 t2, u8 (mdC (tk3 co (fiV b r p v q t n) (fiV b1 r1 p1 v1 q1 t1 n) (fiV b2 r2 p2 v2 q2 t2 n))), u32 tn, u32 (lv (tk3 co (fiV b r p v q t n) (fiV b1 r1 p1 v1 q1 t1 n) (fiV b2 r2 p2 v2 q2 t2 n)) (fiV b r p v q t n) co), u32 (lv (tk3 co (fiV b r p v q t n) (fiV b1 r1 p1 v1 q1 t1 n) (fiV b2 r2 p2 v2 q2 t2 n)) (fiV b1 r1 p1 v1 q1 t1 n) co), u32 (lv (tk3 co (fiV b r p v q t n) (fiV b1 r1 p1 v1 q1 t1 n) (fiV b2 r2 p2 v2 q2 t2 n)) (fiV b2 r2 p2 v2 q2 t2 n) co), u64 (mdW (tk3 co (fiV b r p v q t n) (fiV b1 r1 p1 v1 q1 t1 n) (fiV b2 r2 p2 v2 q2 t2 n)) (mx3 (waN b r p (lv (tk3 co (fiV b r p v q t n) (fiV b1 r1 p1 v1 q1 t1 n) (fiV b2 r2 p2 v2 q2 t2 n)) (fiV b r p v q t n) co) (fiQ b r p v q t n) (fiT t n) co) (waN b1 r1 p1 (lv (tk3 co (fiV b r p v q t n) (fiV b1 r1 p1 v1 q1 t1 n) (fiV b2 r2 p2 v2 q2 t2 n)) (fiV b1 r1 p1 v1 q1 t1 n) co) (fiQ b1 r1 p1 v1 q1 t1 n) (fiT t1 n) co) (waN b2 r2 p2 (lv (tk3 co (fiV b r p v q t n) (fiV b1 r1 p1 v1 q1 t1 n) (fiV b2 r2 p2 v2 q2 t2 n)) (fiV b2 r2 p2 v2 q2 t2 n) co) (fiQ b2 r2 p2 v2 q2 t2 n) (fiT t2 n) co))), i64 b, i64 r, i64 p, i64 (lv (tk3 co (fiV b r p v q t n) (fiV b1 r1 p1 v1 q1 t1 n) (fiV b2 r2 p2 v2 q2 t2 n)) (fiV b r p v q t n) co), i64 (fiQ b r p v q t n), u64 (fiT t n), i64 b1, i64 r1, i64 p1, i64 (lv (tk3 co (fiV b r p v q t n) (fiV b1 r1 p1 v1 q1 t1 n) (fiV b2 r2 p2 v2 q2 t2 n)) (fiV b1 r1 p1 v1 q1 t1 n) co), i64 (fiQ b1 r1 p1 v1 q1 t1 n), u64 (fiT t1 n), i64 b2, i64 r2, i64 p2, i64 (lv (tk3 co (fiV b r p v q t n) (fiV b1 r1 p1 v1 q1 t1 n) (fiV b2 r2 p2 v2 q2 t2 n)) (fiV b2 r2 p2 v2 q2 t2 n) co), i64 (fiQ b2 r2 p2 v2 q2 t2 n), u64 (fiT t2 n)]) := by
  obtain ⟨⟨h0, h1, h2⟩, h3, h4, h5, h6, h7, h8⟩ := h
  obtain ⟨h9, h10, h11, h12⟩ := hn
  exact made_ok tn b r p v q t b1 r1 p1 v1 q1 t1 b2 r2 p2 v2 q2 t2 n co h0 h1 h2 h3 h4 h5 h6 h7 h8 h9 h10 h11 h12
theorem rowA_ok' (b r p v q t b1 r1 p1 v1 q1 t1 b2 r2 p2 v2 q2 t2 : Int) (h : inV v v1 v2) : CallsD Try.prog 21 [.agg [i64 b, i64 r, i64 p, i64 v, i64 q, u64 t, i64 b1, i64 r1, i64 p1, i64 v1, i64 q1, u64 t1, i64 b2, i64 r2, i64 p2, i64 v2, i64 q2, u64 t2]] (bo (rwB (bkE b r p v q) (bkE b1 r1 p1 v1 q1) (bkE b2 r2 p2 v2 q2))) := by
  obtain ⟨h0, h1, h2, h3, h4, h5⟩ := h
  exact rowA_ok b r p v q t b1 r1 p1 v1 q1 t1 b2 r2 p2 v2 q2 t2 h0 h1 h2 h3 h4 h5
theorem rowB_ok' (b r p v q t b1 r1 p1 v1 q1 t1 b2 r2 p2 v2 q2 t2 : Int) (h : inV v v1 v2) : CallsD Try.prog 20 [.agg [i64 b, i64 r, i64 p, i64 v, i64 q, u64 t, i64 b1, i64 r1, i64 p1, i64 v1, i64 q1, u64 t1, i64 b2, i64 r2, i64 p2, i64 v2, i64 q2, u64 t2]] (bo (rwB (bkE b r p v q) (bkE b1 r1 p1 v1 q1) (bkE b2 r2 p2 v2 q2))) := by
  obtain ⟨h0, h1, h2, h3, h4, h5⟩ := h
  exact rowB_ok b r p v q t b1 r1 p1 v1 q1 t1 b2 r2 p2 v2 q2 t2 h0 h1 h2 h3 h4 h5
def rowC : List D → Option (D × List Prop)
  | [.agg [.v (.int .i64 b), .v (.int .i64 r), .v (.int .i64 p), .v (.int .i64 v), .v (.int .i64 q), .v (.int .u64 t), .v (.int .i64 b1), .v (.int .i64 r1), .v (.int .i64 p1), .v (.int .i64 v1), .v (.int .i64 q1), .v (.int .u64 t1), .v (.int .i64 b2), .v (.int .i64 r2), .v (.int .i64 p2), .v (.int .i64 v2), .v (.int .i64 q2), .v (.int .u64 t2)]] => some (bo (rwB (bkE b r p v q) (bkE b1 r1 p1 v1 q1) (bkE b2 r2 p2 v2 q2)), [inV v v1 v2])
  | _ => none
theorem rowC_okA (args res l) (h : rowC args = some (res, l)) (hl : AllP l) : CallsD Try.prog 21 args res := by
  unfold rowC at h; split at h
  · simp only [Option.some.injEq, Prod.mk.injEq] at h
    obtain ⟨rfl, rfl⟩ := h; obtain ⟨h0, _⟩ := hl
    exact rowA_ok' _ _ _ _ _ _ _ _ _ _ _ _ _ _ _ _ _ _ h0
  · cases h
theorem rowC_okB (args res l) (h : rowC args = some (res, l)) (hl : AllP l) : CallsD Try.prog 20 args res := by
  unfold rowC at h; split at h
  · simp only [Option.some.injEq, Prod.mk.injEq] at h
    obtain ⟨rfl, rfl⟩ := h; obtain ⟨h0, _⟩ := hl
    exact rowB_ok' _ _ _ _ _ _ _ _ _ _ _ _ _ _ _ _ _ _ h0
  · cases h
def mdCo : List D → Option (D × List Prop)
  | [.v (.int .u32 tn), .agg [.v (.int .i64 b), .v (.int .i64 r), .v (.int .i64 p), .v (.int .i64 v), .v (.int .i64 q), .v (.int .u64 t), .v (.int .i64 b1), .v (.int .i64 r1), .v (.int .i64 p1), .v (.int .i64 v1), .v (.int .i64 q1), .v (.int .u64 t1), .v (.int .i64 b2), .v (.int .i64 r2), .v (.int .i64 p2), .v (.int .i64 v2), .v (.int .i64 q2), .v (.int .u64 t2)], .v (.int .u64 n), .v (.int .u32 co)] => some ((.agg [u32 tn, u64 n, u32 co, i64 b, i64 r, i64 p, i64 v, i64 q, u64 t, i64 b1, i64 r1, i64 p1, i64 v1, i64 q1, u64 t1, i64 b2, i64 r2, i64 p2, i64 v2, i64 q2, u64 t2, u8 (mdC (tk3 co (fiV b r p v q t n) (fiV b1 r1 p1 v1 q1 t1 n) (fiV b2 r2 p2 v2 q2 t2 n))), u32 tn, u32 (lv (tk3 co (fiV b r p v q t n) (fiV b1 r1 p1 v1 q1 t1 n) (fiV b2 r2 p2 v2 q2 t2 n)) (fiV b r p v q t n) co), u32 (lv (tk3 co (fiV b r p v q t n) (fiV b1 r1 p1 v1 q1 t1 n) (fiV b2 r2 p2 v2 q2 t2 n)) (fiV b1 r1 p1 v1 q1 t1 n) co), u32 (lv (tk3 co (fiV b r p v q t n) (fiV b1 r1 p1 v1 q1 t1 n) (fiV b2 r2 p2 v2 q2 t2 n)) (fiV b2 r2 p2 v2 q2 t2 n) co), u64 (mdW (tk3 co (fiV b r p v q t n) (fiV b1 r1 p1 v1 q1 t1 n) (fiV b2 r2 p2 v2 q2 t2 n)) (mx3 (waN b r p (lv (tk3 co (fiV b r p v q t n) (fiV b1 r1 p1 v1 q1 t1 n) (fiV b2 r2 p2 v2 q2 t2 n)) (fiV b r p v q t n) co) (fiQ b r p v q t n) (fiT t n) co) (waN b1 r1 p1 (lv (tk3 co (fiV b r p v q t n) (fiV b1 r1 p1 v1 q1 t1 n) (fiV b2 r2 p2 v2 q2 t2 n)) (fiV b1 r1 p1 v1 q1 t1 n) co) (fiQ b1 r1 p1 v1 q1 t1 n) (fiT t1 n) co) (waN b2 r2 p2 (lv (tk3 co (fiV b r p v q t n) (fiV b1 r1 p1 v1 q1 t1 n) (fiV b2 r2 p2 v2 q2 t2 n)) (fiV b2 r2 p2 v2 q2 t2 n) co) (fiQ b2 r2 p2 v2 q2 t2 n) (fiT t2 n) co))), i64 b, i64 r, i64 p, i64 (lv (tk3 co (fiV b r p v q t n) (fiV b1 r1 p1 v1 q1 t1 n) (fiV b2 r2 p2 v2 q2 t2 n)) (fiV b r p v q t n) co), i64 (fiQ b r p v q t n), u64 (fiT t n), i64 b1, i64 r1, i64 p1, i64 (lv (tk3 co (fiV b r p v q t n) (fiV b1 r1 p1 v1 q1 t1 n) (fiV b2 r2 p2 v2 q2 t2 n)) (fiV b1 r1 p1 v1 q1 t1 n) co), i64 (fiQ b1 r1 p1 v1 q1 t1 n), u64 (fiT t1 n), i64 b2, i64 r2, i64 p2, i64 (lv (tk3 co (fiV b r p v q t n) (fiV b1 r1 p1 v1 q1 t1 n) (fiV b2 r2 p2 v2 q2 t2 n)) (fiV b2 r2 p2 v2 q2 t2 n) co), i64 (fiQ b2 r2 p2 v2 q2 t2 n), u64 (fiT t2 n)]), [val3 b r p v q t b1 r1 p1 v1 q1 t1 b2 r2 p2 v2 q2 t2, inNC n co])
  | _ => none
theorem mdCo_ok (args res l) (h : mdCo args = some (res, l)) (hl : AllP l) : CallsD Try.prog 22 args res := by
  unfold mdCo at h; split at h
  · simp only [Option.some.injEq, Prod.mk.injEq] at h
    obtain ⟨rfl, rfl⟩ := h; obtain ⟨h0, h1, _⟩ := hl
    exact made_ok' _ _ _ _ _ _ _ _ _ _ _ _ _ _ _ _ _ _ _ _ _ h0 h1
  · cases h
def X25 : Contracts := addCon 25 (.call rpC) (addCon 9 (.call rpC) (addCon 21 (.call rowC) (addCon 20 (.call rowC) (addCon 22 (.call mdCo) X24))))
theorem hX25 : ConOK Try.prog X25 := addCall_ok rpC_okA (addCall_ok rpC_okB (addCall_ok rowC_okA (addCall_ok rowC_okB (addCall_ok mdCo_ok hX24))))
end MeterS
