/- The functions of the folder audit and what they reach: what they compute. No condition. -/
import Derived.Test.YtpbngkempchamaaAuWK
import Derived.Test.YtpbngkempchamaaDamXO
set_option linter.unusedSectionVars false
set_option linter.unusedVariables false
set_option linter.unusedSimpArgs false
namespace MeterS
open Go Go.Dam Go.Proofs
set_option maxRecDepth 1000000
set_option linter.unusedVariables false
set_option linter.unusedSectionVars false
set_option linter.unusedSimpArgs false
/-- The error of a proof. -/
def chE (tn : Int) (k m : Bool) (e cd : Int) : Int := if tn < 16 ∧ k = true ∧ m = true ∧ e = 0 ∧ (cd = 2 ∨ cd = 3) then 0 else 8
theorem rpE_two (c t x y z w : Int) : rpE c t x y z w = 0 ∨ rpE c t x y z w = 8 := by unfold rpE; (repeat' split) <;> simp
theorem chE_is {tn e cd : Int} {k m : Bool} (h : chE tn k m e cd = 0) : tn < 16 ∧ k = true ∧ m = true ∧ e = 0 ∧ (cd = 2 ∨ cd = 3) := by
  unfold chE at h; split at h
  · assumption
  · cases h
theorem chE_two (tn e cd : Int) (k m : Bool) : chE tn k m e cd = 0 ∨ chE tn k m e cd = 8 := by unfold chE; split <;> simp
variable [Glo]
def chA_c0 (tn n co b r p v q t b1 r1 p1 v1 q1 t1 b2 r2 p2 v2 q2 t2 cd rt x y z w b3 r3 p3 v3 q3 t3 b4 r4 p4 v4 q4 t4 b5 r5 p5 v5 q5 t5 : Int) := [u32 tn, u64 n, u32 co] ++ bk1 b r p v q t ++ bk1 b1 r1 p1 v1 q1 t1 ++ bk1 b2 r2 p2 v2 q2 t2 ++ [u8 cd, u32 rt, u32 x, u32 y, u32 z, u64 w] ++ bk1 b3 r3 p3 v3 q3 t3 ++ bk1 b4 r4 p4 v4 q4 t4 ++ bk1 b5 r5 p5 v5 q5 t5
theorem chA_p0 (tn n co b r p v q t b1 r1 p1 v1 q1 t1 b2 r2 p2 v2 q2 t2 cd rt x y z w b3 r3 p3 v3 q3 t3 b4 r4 p4 v4 q4 t4 b5 r5 p5 v5 q5 t5 : Int) : fnX Try.prog X25 100000 [.d true, .c 15] 13 [D.agg (chA_c0 tn n co b r p v q t b1 r1 p1 v1 q1 t1 b2 r2 p2 v2 q2 t2 cd rt x y z w b3 r3 p3 v3 q3 t3 b4 r4 p4 v4 q4 t4 b5 r5 p5 v5 q5 t5)] = some (i64 8, [cmpI BinOp.geq tn 16 = true]) := by kernel_rfl
theorem chA_p1 (tn n co b r p v q t b1 r1 p1 v1 q1 t1 b2 r2 p2 v2 q2 t2 cd rt x y z w b3 r3 p3 v3 q3 t3 b4 r4 p4 v4 q4 t4 b5 r5 p5 v5 q5 t5 : Int) : fnX Try.prog X25 100000 [.d false, .c 2, .d true, .c 11] 13 [D.agg (chA_c0 tn n co b r p v q t b1 r1 p1 v1 q1 t1 b2 r2 p2 v2 q2 t2 cd rt x y z w b3 r3 p3 v3 q3 t3 b4 r4 p4 v4 q4 t4 b5 r5 p5 v5 q5 t5)] = some (i64 8, [(!rwB (bkE b r p v q) (bkE b1 r1 p1 v1 q1) (bkE b2 r2 p2 v2 q2)) = true, inV v v1 v2, cmpI BinOp.geq tn 16 = false]) := by kernel_rfl
theorem chA_p2 (tn n co b r p v q t b1 r1 p1 v1 q1 t1 b2 r2 p2 v2 q2 t2 cd rt x y z w b3 r3 p3 v3 q3 t3 b4 r4 p4 v4 q4 t4 b5 r5 p5 v5 q5 t5 : Int) : fnX Try.prog X25 100000 [.d false, .c 2, .d false, .c 2, .d true, .c 7] 13 [D.agg (chA_c0 tn n co b r p v q t b1 r1 p1 v1 q1 t1 b2 r2 p2 v2 q2 t2 cd rt x y z w b3 r3 p3 v3 q3 t3 b4 r4 p4 v4 q4 t4 b5 r5 p5 v5 q5 t5)] = some (i64 8, [(!rwB (bkE b3 r3 p3 v3 q3) (bkE b4 r4 p4 v4 q4) (bkE b5 r5 p5 v5 q5)) = true, inV v3 v4 v5, (!rwB (bkE b r p v q) (bkE b1 r1 p1 v1 q1) (bkE b2 r2 p2 v2 q2)) = false, inV v v1 v2, cmpI BinOp.geq tn 16 = false]) := by kernel_rfl
theorem chA_p3 (tn n co b r p v q t b1 r1 p1 v1 q1 t1 b2 r2 p2 v2 q2 t2 cd rt x y z w b3 r3 p3 v3 q3 t3 b4 r4 p4 v4 q4 t4 b5 r5 p5 v5 q5 t5 : Int) : fnX Try.prog X25 100000 [.d false, .c 2, .d false, .c 2, .d false, .c 2, .d true, .c 3] 13 [D.agg (chA_c0 tn n co b r p v q t b1 r1 p1 v1 q1 t1 b2 r2 p2 v2 q2 t2 cd rt x y z w b3 r3 p3 v3 q3 t3 b4 r4 p4 v4 q4 t4 b5 r5 p5 v5 q5 t5)] = some (i64 8, [cmpI BinOp.neq (rpE cd rt x y z w) 0 = true, 0 ≤ cd, 0 ≤ w, (!rwB (bkE b3 r3 p3 v3 q3) (bkE b4 r4 p4 v4 q4) (bkE b5 r5 p5 v5 q5)) = false, inV v3 v4 v5, (!rwB (bkE b r p v q) (bkE b1 r1 p1 v1 q1) (bkE b2 r2 p2 v2 q2)) = false, inV v v1 v2, cmpI BinOp.geq tn 16 = false]) := by kernel_rfl
theorem chA_p4 (tn n co b r p v q t b1 r1 p1 v1 q1 t1 b2 r2 p2 v2 q2 t2 cd rt x y z w b3 r3 p3 v3 q3 t3 b4 r4 p4 v4 q4 t4 b5 r5 p5 v5 q5 t5 : Int) : fnX Try.prog X25 100000 [.d false, .c 2, .d false, .c 2, .d false, .c 2, .d false, .c 1, .d true, .c 3] 13 [D.agg (chA_c0 tn n co b r p v q t b1 r1 p1 v1 q1 t1 b2 r2 p2 v2 q2 t2 cd rt x y z w b3 r3 p3 v3 q3 t3 b4 r4 p4 v4 q4 t4 b5 r5 p5 v5 q5 t5)] = some (i64 0, [cmpI BinOp.eql cd 2 = true, cmpI BinOp.neq (rpE cd rt x y z w) 0 = false, 0 ≤ cd, 0 ≤ w, (!rwB (bkE b3 r3 p3 v3 q3) (bkE b4 r4 p4 v4 q4) (bkE b5 r5 p5 v5 q5)) = false, inV v3 v4 v5, (!rwB (bkE b r p v q) (bkE b1 r1 p1 v1 q1) (bkE b2 r2 p2 v2 q2)) = false, inV v v1 v2, cmpI BinOp.geq tn 16 = false]) := by kernel_rfl
theorem chA_p5 (tn n co b r p v q t b1 r1 p1 v1 q1 t1 b2 r2 p2 v2 q2 t2 cd rt x y z w b3 r3 p3 v3 q3 t3 b4 r4 p4 v4 q4 t4 b5 r5 p5 v5 q5 t5 : Int) : fnX Try.prog X25 100000 [.d false, .c 2, .d false, .c 2, .d false, .c 2, .d false, .c 1, .d false, .c 2, .d true] 13 [D.agg (chA_c0 tn n co b r p v q t b1 r1 p1 v1 q1 t1 b2 r2 p2 v2 q2 t2 cd rt x y z w b3 r3 p3 v3 q3 t3 b4 r4 p4 v4 q4 t4 b5 r5 p5 v5 q5 t5)] = some (i64 8, [(!cmpI BinOp.eql cd 3) = true, cmpI BinOp.eql cd 2 = false, cmpI BinOp.neq (rpE cd rt x y z w) 0 = false, 0 ≤ cd, 0 ≤ w, (!rwB (bkE b3 r3 p3 v3 q3) (bkE b4 r4 p4 v4 q4) (bkE b5 r5 p5 v5 q5)) = false, inV v3 v4 v5, (!rwB (bkE b r p v q) (bkE b1 r1 p1 v1 q1) (bkE b2 r2 p2 v2 q2)) = false, inV v v1 v2, cmpI BinOp.geq tn 16 = false]) := by kernel_rfl
theorem chA_p6 (tn n co b r p v q t b1 r1 p1 v1 q1 t1 b2 r2 p2 v2 q2 t2 cd rt x y z w b3 r3 p3 v3 q3 t3 b4 r4 p4 v4 q4 t4 b5 r5 p5 v5 q5 t5 : Int) : fnX Try.prog X25 100000 [.d false, .c 2, .d false, .c 2, .d false, .c 2, .d false, .c 1, .d false, .c 2, .d false] 13 [D.agg (chA_c0 tn n co b r p v q t b1 r1 p1 v1 q1 t1 b2 r2 p2 v2 q2 t2 cd rt x y z w b3 r3 p3 v3 q3 t3 b4 r4 p4 v4 q4 t4 b5 r5 p5 v5 q5 t5)] = some (i64 0, [(!cmpI BinOp.eql cd 3) = false, cmpI BinOp.eql cd 2 = false, cmpI BinOp.neq (rpE cd rt x y z w) 0 = false, 0 ≤ cd, 0 ≤ w, (!rwB (bkE b3 r3 p3 v3 q3) (bkE b4 r4 p4 v4 q4) (bkE b5 r5 p5 v5 q5)) = false, inV v3 v4 v5, (!rwB (bkE b r p v q) (bkE b1 r1 p1 v1 q1) (bkE b2 r2 p2 v2 q2)) = false, inV v v1 v2, cmpI BinOp.geq tn 16 = false]) := by kernel_rfl
theorem chA_calls (tn n co b r p v q t b1 r1 p1 v1 q1 t1 b2 r2 p2 v2 q2 t2 cd rt x y z w b3 r3 p3 v3 q3 t3 b4 r4 p4 v4 q4 t4 b5 r5 p5 v5 q5 t5 : Int) (res : D)
  (h0 : ((cmpI BinOp.geq tn 16) = true) → (True) ∧ res = i64 8)
  (h1 : ((cmpI BinOp.geq tn 16) = false) → ((!rwB (bkE b r p v q) (bkE b1 r1 p1 v1 q1) (bkE b2 r2 p2 v2 q2)) = true) → ((inV v v1 v2) ∧ True) ∧ res = i64 8)
  (h2 : ((cmpI BinOp.geq tn 16) = false) → ((!rwB (bkE b r p v q) (bkE b1 r1 p1 v1 q1) (bkE b2 r2 p2 v2 q2)) = false) → ((!rwB (bkE b3 r3 p3 v3 q3) (bkE b4 r4 p4 v4 q4) (bkE b5 r5 p5 v5 q5)) = true) → ((inV v3 v4 v5) ∧ (inV v v1 v2) ∧ True) ∧ res = i64 8)
  (h3 : ((cmpI BinOp.geq tn 16) = false) → ((!rwB (bkE b r p v q) (bkE b1 r1 p1 v1 q1) (bkE b2 r2 p2 v2 q2)) = false) → ((!rwB (bkE b3 r3 p3 v3 q3) (bkE b4 r4 p4 v4 q4) (bkE b5 r5 p5 v5 q5)) = false) → ((cmpI BinOp.neq (rpE cd rt x y z w) 0) = true) → ((0 ≤ cd) ∧ (0 ≤ w) ∧ (inV v3 v4 v5) ∧ (inV v v1 v2) ∧ True) ∧ res = i64 8)
  (h4 : ((cmpI BinOp.geq tn 16) = false) → ((!rwB (bkE b r p v q) (bkE b1 r1 p1 v1 q1) (bkE b2 r2 p2 v2 q2)) = false) → ((!rwB (bkE b3 r3 p3 v3 q3) (bkE b4 r4 p4 v4 q4) (bkE b5 r5 p5 v5 q5)) = false) → ((cmpI BinOp.neq (rpE cd rt x y z w) 0) = false) → ((cmpI BinOp.eql cd 2) = true) → ((0 ≤ cd) ∧ (0 ≤ w) ∧ (inV v3 v4 v5) ∧ (inV v v1 v2) ∧ True) ∧ res = i64 0)
  (h5 : ((cmpI BinOp.geq tn 16) = false) → ((!rwB (bkE b r p v q) (bkE b1 r1 p1 v1 q1) (bkE b2 r2 p2 v2 q2)) = false) → ((!rwB (bkE b3 r3 p3 v3 q3) (bkE b4 r4 p4 v4 q4) (bkE b5 r5 p5 v5 q5)) = false) → ((cmpI BinOp.neq (rpE cd rt x y z w) 0) = false) → ((cmpI BinOp.eql cd 2) = false) → ((!cmpI BinOp.eql cd 3) = true) → ((0 ≤ cd) ∧ (0 ≤ w) ∧ (inV v3 v4 v5) ∧ (inV v v1 v2) ∧ True) ∧ res = i64 8)
  (h6 : ((cmpI BinOp.geq tn 16) = false) → ((!rwB (bkE b r p v q) (bkE b1 r1 p1 v1 q1) (bkE b2 r2 p2 v2 q2)) = false) → ((!rwB (bkE b3 r3 p3 v3 q3) (bkE b4 r4 p4 v4 q4) (bkE b5 r5 p5 v5 q5)) = false) → ((cmpI BinOp.neq (rpE cd rt x y z w) 0) = false) → ((cmpI BinOp.eql cd 2) = false) → ((!cmpI BinOp.eql cd 3) = false) → ((0 ≤ cd) ∧ (0 ≤ w) ∧ (inV v3 v4 v5) ∧ (inV v v1 v2) ∧ True) ∧ res = i64 0) : CallsD Try.prog 13 [D.agg (chA_c0 tn n co b r p v q t b1 r1 p1 v1 q1 t1 b2 r2 p2 v2 q2 t2 cd rt x y z w b3 r3 p3 v3 q3 t3 b4 r4 p4 v4 q4 t4 b5 r5 p5 v5 q5 t5)] res := by
  cases e0 : (cmpI BinOp.geq tn 16) with
  | true =>
    exact of_path hX25 (chA_p0 tn n co b r p v q t b1 r1 p1 v1 q1 t1 b2 r2 p2 v2 q2 t2 cd rt x y z w b3 r3 p3 v3 q3 t3 b4 r4 p4 v4 q4 t4 b5 r5 p5 v5 q5 t5) ⟨e0, trivial⟩ (h0 e0).2
  | false =>
    cases e1 : (!rwB (bkE b r p v q) (bkE b1 r1 p1 v1 q1) (bkE b2 r2 p2 v2 q2)) with
    | true =>
      exact of_path hX25 (chA_p1 tn n co b r p v q t b1 r1 p1 v1 q1 t1 b2 r2 p2 v2 q2 t2 cd rt x y z w b3 r3 p3 v3 q3 t3 b4 r4 p4 v4 q4 t4 b5 r5 p5 v5 q5 t5) ⟨e1, (h1 e0 e1).1.1, e0, trivial⟩ (h1 e0 e1).2
    | false =>
      cases e2 : (!rwB (bkE b3 r3 p3 v3 q3) (bkE b4 r4 p4 v4 q4) (bkE b5 r5 p5 v5 q5)) with
      | true =>
        exact of_path hX25 (chA_p2 tn n co b r p v q t b1 r1 p1 v1 q1 t1 b2 r2 p2 v2 q2 t2 cd rt x y z w b3 r3 p3 v3 q3 t3 b4 r4 p4 v4 q4 t4 b5 r5 p5 v5 q5 t5) ⟨e2, (h2 e0 e1 e2).1.1, e1, (h2 e0 e1 e2).1.2.1, e0, trivial⟩ (h2 e0 e1 e2).2
      | false =>
        cases e3 : (cmpI BinOp.neq (rpE cd rt x y z w) 0) with
        | true =>
          exact of_path hX25 (chA_p3 tn n co b r p v q t b1 r1 p1 v1 q1 t1 b2 r2 p2 v2 q2 t2 cd rt x y z w b3 r3 p3 v3 q3 t3 b4 r4 p4 v4 q4 t4 b5 r5 p5 v5 q5 t5) ⟨e3, (h3 e0 e1 e2 e3).1.1, (h3 e0 e1 e2 e3).1.2.1, e2, (h3 e0 e1 e2 e3).1.2.2.1, e1, (h3 e0 e1 e2 e3).1.2.2.2.1, e0, trivial⟩ (h3 e0 e1 e2 e3).2
        | false =>
          cases e4 : (cmpI BinOp.eql cd 2) with
          | true =>
            exact of_path hX25 (chA_p4 tn n co b r p v q t b1 r1 p1 v1 q1 t1 b2 r2 p2 v2 q2 t2 cd rt x y z w b3 r3 p3 v3 q3 t3 b4 r4 p4 v4 q4 t4 b5 r5 p5 v5 q5 t5) ⟨e4, e3, (h4 e0 e1 e2 e3 e4).1.1, (h4 e0 e1 e2 e3 e4).1.2.1, e2, (h4 e0 e1 e2 e3 e4).1.2.2.1, e1, (h4 e0 e1 e2 e3 e4).1.2.2.2.1, e0, trivial⟩ (h4 e0 e1 e2 e3 e4).2
          | false =>
            cases e5 : (!cmpI BinOp.eql cd 3) with
            | true =>
              exact of_path hX25 (chA_p5 tn n co b r p v q t b1 r1 p1 v1 q1 t1 b2 r2 p2 v2 q2 t2 cd rt x y z w b3 r3 p3 v3 q3 t3 b4 r4 p4 v4 q4 t4 b5 r5 p5 v5 q5 t5) ⟨e5, e4, e3, (h5 e0 e1 e2 e3 e4 e5).1.1, (h5 e0 e1 e2 e3 e4 e5).1.2.1, e2, (h5 e0 e1 e2 e3 e4 e5).1.2.2.1, e1, (h5 e0 e1 e2 e3 e4 e5).1.2.2.2.1, e0, trivial⟩ (h5 e0 e1 e2 e3 e4 e5).2
            | false =>
              exact of_path hX25 (chA_p6 tn n co b r p v q t b1 r1 p1 v1 q1 t1 b2 r2 p2 v2 q2 t2 cd rt x y z w b3 r3 p3 v3 q3 t3 b4 r4 p4 v4 q4 t4 b5 r5 p5 v5 q5 t5) ⟨e5, e4, e3, (h6 e0 e1 e2 e3 e4 e5).1.1, (h6 e0 e1 e2 e3 e4 e5).1.2.1, e2, (h6 e0 e1 e2 e3 e4 e5).1.2.2.1, e1, (h6 e0 e1 e2 e3 e4 e5).1.2.2.2.1, e0, trivial⟩ (h6 e0 e1 e2 e3 e4 e5).2
def chB_c0 (tn n co b r p v q t b1 r1 p1 v1 q1 t1 b2 r2 p2 v2 q2 t2 cd rt x y z w b3 r3 p3 v3 q3 t3 b4 r4 p4 v4 q4 t4 b5 r5 p5 v5 q5 t5 : Int) := [u32 tn, u64 n, u32 co] ++ bk1 b r p v q t ++ bk1 b1 r1 p1 v1 q1 t1 ++ bk1 b2 r2 p2 v2 q2 t2 ++ [u8 cd, u32 rt, u32 x, u32 y, u32 z, u64 w] ++ bk1 b3 r3 p3 v3 q3 t3 ++ bk1 b4 r4 p4 v4 q4 t4 ++ bk1 b5 r5 p5 v5 q5 t5
theorem chB_p0 (tn n co b r p v q t b1 r1 p1 v1 q1 t1 b2 r2 p2 v2 q2 t2 cd rt x y z w b3 r3 p3 v3 q3 t3 b4 r4 p4 v4 q4 t4 b5 r5 p5 v5 q5 t5 : Int) : fnX Try.prog X25 100000 [.d true, .c 16] 6 [D.agg (chB_c0 tn n co b r p v q t b1 r1 p1 v1 q1 t1 b2 r2 p2 v2 q2 t2 cd rt x y z w b3 r3 p3 v3 q3 t3 b4 r4 p4 v4 q4 t4 b5 r5 p5 v5 q5 t5)] = some (i64 8, [cmpI BinOp.geq tn 16 = true]) := by kernel_rfl
theorem chB_p1 (tn n co b r p v q t b1 r1 p1 v1 q1 t1 b2 r2 p2 v2 q2 t2 cd rt x y z w b3 r3 p3 v3 q3 t3 b4 r4 p4 v4 q4 t4 b5 r5 p5 v5 q5 t5 : Int) : fnX Try.prog X25 100000 [.d false, .c 2, .d true, .c 12] 6 [D.agg (chB_c0 tn n co b r p v q t b1 r1 p1 v1 q1 t1 b2 r2 p2 v2 q2 t2 cd rt x y z w b3 r3 p3 v3 q3 t3 b4 r4 p4 v4 q4 t4 b5 r5 p5 v5 q5 t5)] = some (i64 8, [(!rwB (bkE b r p v q) (bkE b1 r1 p1 v1 q1) (bkE b2 r2 p2 v2 q2)) = true, inV v v1 v2, cmpI BinOp.geq tn 16 = false]) := by kernel_rfl
theorem chB_p2 (tn n co b r p v q t b1 r1 p1 v1 q1 t1 b2 r2 p2 v2 q2 t2 cd rt x y z w b3 r3 p3 v3 q3 t3 b4 r4 p4 v4 q4 t4 b5 r5 p5 v5 q5 t5 : Int) : fnX Try.prog X25 100000 [.d false, .c 2, .d false, .c 2, .d true, .c 8] 6 [D.agg (chB_c0 tn n co b r p v q t b1 r1 p1 v1 q1 t1 b2 r2 p2 v2 q2 t2 cd rt x y z w b3 r3 p3 v3 q3 t3 b4 r4 p4 v4 q4 t4 b5 r5 p5 v5 q5 t5)] = some (i64 8, [(!rwB (bkE b3 r3 p3 v3 q3) (bkE b4 r4 p4 v4 q4) (bkE b5 r5 p5 v5 q5)) = true, inV v3 v4 v5, (!rwB (bkE b r p v q) (bkE b1 r1 p1 v1 q1) (bkE b2 r2 p2 v2 q2)) = false, inV v v1 v2, cmpI BinOp.geq tn 16 = false]) := by kernel_rfl
theorem chB_p3 (tn n co b r p v q t b1 r1 p1 v1 q1 t1 b2 r2 p2 v2 q2 t2 cd rt x y z w b3 r3 p3 v3 q3 t3 b4 r4 p4 v4 q4 t4 b5 r5 p5 v5 q5 t5 : Int) : fnX Try.prog X25 100000 [.d false, .c 2, .d false, .c 2, .d false, .c 2, .d true, .c 4] 6 [D.agg (chB_c0 tn n co b r p v q t b1 r1 p1 v1 q1 t1 b2 r2 p2 v2 q2 t2 cd rt x y z w b3 r3 p3 v3 q3 t3 b4 r4 p4 v4 q4 t4 b5 r5 p5 v5 q5 t5)] = some (i64 8, [cmpI BinOp.neq (rpE cd rt x y z w) 0 = true, 0 ≤ cd, 0 ≤ w, (!rwB (bkE b3 r3 p3 v3 q3) (bkE b4 r4 p4 v4 q4) (bkE b5 r5 p5 v5 q5)) = false, inV v3 v4 v5, (!rwB (bkE b r p v q) (bkE b1 r1 p1 v1 q1) (bkE b2 r2 p2 v2 q2)) = false, inV v v1 v2, cmpI BinOp.geq tn 16 = false]) := by kernel_rfl
theorem chB_p4 (tn n co b r p v q t b1 r1 p1 v1 q1 t1 b2 r2 p2 v2 q2 t2 cd rt x y z w b3 r3 p3 v3 q3 t3 b4 r4 p4 v4 q4 t4 b5 r5 p5 v5 q5 t5 : Int) : fnX Try.prog X25 100000 [.d false, .c 2, .d false, .c 2, .d false, .c 2, .d false, .c 2, .d true, .c 2] 6 [D.agg (chB_c0 tn n co b r p v q t b1 r1 p1 v1 q1 t1 b2 r2 p2 v2 q2 t2 cd rt x y z w b3 r3 p3 v3 q3 t3 b4 r4 p4 v4 q4 t4 b5 r5 p5 v5 q5 t5)] = some (i64 0, [cmpI BinOp.eql cd 2 = true, cmpI BinOp.neq (rpE cd rt x y z w) 0 = false, 0 ≤ cd, 0 ≤ w, (!rwB (bkE b3 r3 p3 v3 q3) (bkE b4 r4 p4 v4 q4) (bkE b5 r5 p5 v5 q5)) = false, inV v3 v4 v5, (!rwB (bkE b r p v q) (bkE b1 r1 p1 v1 q1) (bkE b2 r2 p2 v2 q2)) = false, inV v v1 v2, cmpI BinOp.geq tn 16 = false]) := by kernel_rfl
theorem chB_p5 (tn n co b r p v q t b1 r1 p1 v1 q1 t1 b2 r2 p2 v2 q2 t2 cd rt x y z w b3 r3 p3 v3 q3 t3 b4 r4 p4 v4 q4 t4 b5 r5 p5 v5 q5 t5 : Int) : fnX Try.prog X25 100000 [.d false, .c 2, .d false, .c 2, .d false, .c 2, .d false, .c 2, .d false, .c 1, .d true] 6 [D.agg (chB_c0 tn n co b r p v q t b1 r1 p1 v1 q1 t1 b2 r2 p2 v2 q2 t2 cd rt x y z w b3 r3 p3 v3 q3 t3 b4 r4 p4 v4 q4 t4 b5 r5 p5 v5 q5 t5)] = some (i64 8, [(!cmpI BinOp.eql cd 3) = true, cmpI BinOp.eql cd 2 = false, cmpI BinOp.neq (rpE cd rt x y z w) 0 = false, 0 ≤ cd, 0 ≤ w, (!rwB (bkE b3 r3 p3 v3 q3) (bkE b4 r4 p4 v4 q4) (bkE b5 r5 p5 v5 q5)) = false, inV v3 v4 v5, (!rwB (bkE b r p v q) (bkE b1 r1 p1 v1 q1) (bkE b2 r2 p2 v2 q2)) = false, inV v v1 v2, cmpI BinOp.geq tn 16 = false]) := by kernel_rfl
theorem chB_p6 (tn n co b r p v q t b1 r1 p1 v1 q1 t1 b2 r2 p2 v2 q2 t2 cd rt x y z w b3 r3 p3 v3 q3 t3 b4 r4 p4 v4 q4 t4 b5 r5 p5 v5 q5 t5 : Int) : fnX Try.prog X25 100000 [.d false, .c 2, .d false, .c 2, .d false, .c 2, .d false, .c 2, .d false, .c 1, .d false] 6 [D.agg (chB_c0 tn n co b r p v q t b1 r1 p1 v1 q1 t1 b2 r2 p2 v2 q2 t2 cd rt x y z w b3 r3 p3 v3 q3 t3 b4 r4 p4 v4 q4 t4 b5 r5 p5 v5 q5 t5)] = some (i64 0, [(!cmpI BinOp.eql cd 3) = false, cmpI BinOp.eql cd 2 = false, cmpI BinOp.neq (rpE cd rt x y z w) 0 = false, 0 ≤ cd, 0 ≤ w, (!rwB (bkE b3 r3 p3 v3 q3) (bkE b4 r4 p4 v4 q4) (bkE b5 r5 p5 v5 q5)) = false, inV v3 v4 v5, (!rwB (bkE b r p v q) (bkE b1 r1 p1 v1 q1) (bkE b2 r2 p2 v2 q2)) = false, inV v v1 v2, cmpI BinOp.geq tn 16 = false]) := by kernel_rfl
theorem chB_calls (tn n co b r p v q t b1 r1 p1 v1 q1 t1 b2 r2 p2 v2 q2 t2 cd rt x y z w b3 r3 p3 v3 q3 t3 b4 r4 p4 v4 q4 t4 b5 r5 p5 v5 q5 t5 : Int) (res : D)
  (h0 : ((cmpI BinOp.geq tn 16) = true) → (True) ∧ res = i64 8)
  (h1 : ((cmpI BinOp.geq tn 16) = false) → ((!rwB (bkE b r p v q) (bkE b1 r1 p1 v1 q1) (bkE b2 r2 p2 v2 q2)) = true) → ((inV v v1 v2) ∧ True) ∧ res = i64 8)
  (h2 : ((cmpI BinOp.geq tn 16) = false) → ((!rwB (bkE b r p v q) (bkE b1 r1 p1 v1 q1) (bkE b2 r2 p2 v2 q2)) = false) → ((!rwB (bkE b3 r3 p3 v3 q3) (bkE b4 r4 p4 v4 q4) (bkE b5 r5 p5 v5 q5)) = true) → ((inV v3 v4 v5) ∧ (inV v v1 v2) ∧ True) ∧ res = i64 8)
  (h3 : ((cmpI BinOp.geq tn 16) = false) → ((!rwB (bkE b r p v q) (bkE b1 r1 p1 v1 q1) (bkE b2 r2 p2 v2 q2)) = false) → ((!rwB (bkE b3 r3 p3 v3 q3) (bkE b4 r4 p4 v4 q4) (bkE b5 r5 p5 v5 q5)) = false) → ((cmpI BinOp.neq (rpE cd rt x y z w) 0) = true) → ((0 ≤ cd) ∧ (0 ≤ w) ∧ (inV v3 v4 v5) ∧ (inV v v1 v2) ∧ True) ∧ res = i64 8)
  (h4 : ((cmpI BinOp.geq tn 16) = false) → ((!rwB (bkE b r p v q) (bkE b1 r1 p1 v1 q1) (bkE b2 r2 p2 v2 q2)) = false) → ((!rwB (bkE b3 r3 p3 v3 q3) (bkE b4 r4 p4 v4 q4) (bkE b5 r5 p5 v5 q5)) = false) → ((cmpI BinOp.neq (rpE cd rt x y z w) 0) = false) → ((cmpI BinOp.eql cd 2) = true) → ((0 ≤ cd) ∧ (0 ≤ w) ∧ (inV v3 v4 v5) ∧ (inV v v1 v2) ∧ True) ∧ res = i64 0)
  (h5 : ((cmpI BinOp.geq tn 16) = false) → ((!rwB (bkE b r p v q) (bkE b1 r1 p1 v1 q1) (bkE b2 r2 p2 v2 q2)) = false) → ((!rwB (bkE b3 r3 p3 v3 q3) (bkE b4 r4 p4 v4 q4) (bkE b5 r5 p5 v5 q5)) = false) → ((cmpI BinOp.neq (rpE cd rt x y z w) 0) = false) → ((cmpI BinOp.eql cd 2) = false) → ((!cmpI BinOp.eql cd 3) = true) → ((0 ≤ cd) ∧ (0 ≤ w) ∧ (inV v3 v4 v5) ∧ (inV v v1 v2) ∧ True) ∧ res = i64 8)
  (h6 : ((cmpI BinOp.geq tn 16) = false) → ((!rwB (bkE b r p v q) (bkE b1 r1 p1 v1 q1) (bkE b2 r2 p2 v2 q2)) = false) → ((!rwB (bkE b3 r3 p3 v3 q3) (bkE b4 r4 p4 v4 q4) (bkE b5 r5 p5 v5 q5)) = false) → ((cmpI BinOp.neq (rpE cd rt x y z w) 0) = false) → ((cmpI BinOp.eql cd 2) = false) → ((!cmpI BinOp.eql cd 3) = false) → ((0 ≤ cd) ∧ (0 ≤ w) ∧ (inV v3 v4 v5) ∧ (inV v v1 v2) ∧ True) ∧ res = i64 0) : CallsD Try.prog 6 [D.agg (chB_c0 tn n co b r p v q t b1 r1 p1 v1 q1 t1 b2 r2 p2 v2 q2 t2 cd rt x y z w b3 r3 p3 v3 q3 t3 b4 r4 p4 v4 q4 t4 b5 r5 p5 v5 q5 t5)] res := by
  cases e0 : (cmpI BinOp.geq tn 16) with
  | true =>
    exact of_path hX25 (chB_p0 tn n co b r p v q t b1 r1 p1 v1 q1 t1 b2 r2 p2 v2 q2 t2 cd rt x y z w b3 r3 p3 v3 q3 t3 b4 r4 p4 v4 q4 t4 b5 r5 p5 v5 q5 t5) ⟨e0, trivial⟩ (h0 e0).2
  | false =>
    cases e1 : (!rwB (bkE b r p v q) (bkE b1 r1 p1 v1 q1) (bkE b2 r2 p2 v2 q2)) with
    | true =>
      exact of_path hX25 (chB_p1 tn n co b r p v q t b1 r1 p1 v1 q1 t1 b2 r2 p2 v2 q2 t2 cd rt x y z w b3 r3 p3 v3 q3 t3 b4 r4 p4 v4 q4 t4 b5 r5 p5 v5 q5 t5) ⟨e1, (h1 e0 e1).1.1, e0, trivial⟩ (h1 e0 e1).2
    | false =>
      cases e2 : (!rwB (bkE b3 r3 p3 v3 q3) (bkE b4 r4 p4 v4 q4) (bkE b5 r5 p5 v5 q5)) with
      | true =>
        exact of_path hX25 (chB_p2 tn n co b r p v q t b1 r1 p1 v1 q1 t1 b2 r2 p2 v2 q2 t2 cd rt x y z w b3 r3 p3 v3 q3 t3 b4 r4 p4 v4 q4 t4 b5 r5 p5 v5 q5 t5) ⟨e2, (h2 e0 e1 e2).1.1, e1, (h2 e0 e1 e2).1.2.1, e0, trivial⟩ (h2 e0 e1 e2).2
      | false =>
        cases e3 : (cmpI BinOp.neq (rpE cd rt x y z w) 0) with
        | true =>
          exact of_path hX25 (chB_p3 tn n co b r p v q t b1 r1 p1 v1 q1 t1 b2 r2 p2 v2 q2 t2 cd rt x y z w b3 r3 p3 v3 q3 t3 b4 r4 p4 v4 q4 t4 b5 r5 p5 v5 q5 t5) ⟨e3, (h3 e0 e1 e2 e3).1.1, (h3 e0 e1 e2 e3).1.2.1, e2, (h3 e0 e1 e2 e3).1.2.2.1, e1, (h3 e0 e1 e2 e3).1.2.2.2.1, e0, trivial⟩ (h3 e0 e1 e2 e3).2
        | false =>
          cases e4 : (cmpI BinOp.eql cd 2) with
          | true =>
            exact of_path hX25 (chB_p4 tn n co b r p v q t b1 r1 p1 v1 q1 t1 b2 r2 p2 v2 q2 t2 cd rt x y z w b3 r3 p3 v3 q3 t3 b4 r4 p4 v4 q4 t4 b5 r5 p5 v5 q5 t5) ⟨e4, e3, (h4 e0 e1 e2 e3 e4).1.1, (h4 e0 e1 e2 e3 e4).1.2.1, e2, (h4 e0 e1 e2 e3 e4).1.2.2.1, e1, (h4 e0 e1 e2 e3 e4).1.2.2.2.1, e0, trivial⟩ (h4 e0 e1 e2 e3 e4).2
          | false =>
            cases e5 : (!cmpI BinOp.eql cd 3) with
            | true =>
              exact of_path hX25 (chB_p5 tn n co b r p v q t b1 r1 p1 v1 q1 t1 b2 r2 p2 v2 q2 t2 cd rt x y z w b3 r3 p3 v3 q3 t3 b4 r4 p4 v4 q4 t4 b5 r5 p5 v5 q5 t5) ⟨e5, e4, e3, (h5 e0 e1 e2 e3 e4 e5).1.1, (h5 e0 e1 e2 e3 e4 e5).1.2.1, e2, (h5 e0 e1 e2 e3 e4 e5).1.2.2.1, e1, (h5 e0 e1 e2 e3 e4 e5).1.2.2.2.1, e0, trivial⟩ (h5 e0 e1 e2 e3 e4 e5).2
            | false =>
              exact of_path hX25 (chB_p6 tn n co b r p v q t b1 r1 p1 v1 q1 t1 b2 r2 p2 v2 q2 t2 cd rt x y z w b3 r3 p3 v3 q3 t3 b4 r4 p4 v4 q4 t4 b5 r5 p5 v5 q5 t5) ⟨e5, e4, e3, (h6 e0 e1 e2 e3 e4 e5).1.1, (h6 e0 e1 e2 e3 e4 e5).1.2.1, e2, (h6 e0 e1 e2 e3 e4 e5).1.2.2.1, e1, (h6 e0 e1 e2 e3 e4 e5).1.2.2.2.1, e0, trivial⟩ (h6 e0 e1 e2 e3 e4 e5).2
theorem chA_ok (tn n co b r p v q t b1 r1 p1 v1 q1 t1 b2 r2 p2 v2 q2 t2 cd rt x y z w b3 r3 p3 v3 q3 t3 b4 r4 p4 v4 q4 t4 b5 r5 p5 v5 q5 t5 : Int) (hi : inV v v1 v2) (hj : inV v3 v4 v5) (h12 : 0 ≤ cd) (h13 : 0 ≤ w) :
    CallsD Try.prog 13 [.agg [u32 tn, u64 n, u32 co, i64 b, i64 r, i64 p, i64 v, i64 q, u64 t, i64 b1, i64 r1, i64 p1, i64 v1, i64 q1, u64 t1, i64 b2, i64 r2, i64 p2, i64 v2, i64 q2, u64 t2, u8 cd, u32 rt, u32 x, u32 y, u32 z, u64 w, i64 b3, i64 r3, i64 p3, i64 v3, i64 q3, u64 t3, i64 b4, i64 r4, i64 p4, i64 v4, i64 q4, u64 t4, i64 b5, i64 r5, i64 p5, i64 v5, i64 q5, u64 t5]] (i64 (chE tn (rwB (bkE b r p v q) (bkE b1 r1 p1 v1 q1) (bkE b2 r2 p2 v2 q2)) (rwB (bkE b3 r3 p3 v3 q3) (bkE b4 r4 p4 v4 q4) (bkE b5 r5 p5 v5 q5)) (rpE cd rt x y z w) cd)) := by
  refine chA_calls tn n co b r p v q t b1 r1 p1 v1 q1 t1 b2 r2 p2 v2 q2 t2 cd rt x y z w b3 r3 p3 v3 q3 t3 b4 r4 p4 v4 q4 t4 b5 r5 p5 v5 q5 t5 _ ?_ ?_ ?_ ?_ ?_ ?_ ?_
  all_goals
    generalize (rwB (bkE b r p v q) (bkE b1 r1 p1 v1 q1) (bkE b2 r2 p2 v2 q2)) = k
    generalize (rwB (bkE b3 r3 p3 v3 q3) (bkE b4 r4 p4 v4 q4) (bkE b5 r5 p5 v5 q5)) = m
    generalize rpE cd rt x y z w = e
    simp only [not_t, not_f, geq_t, geq_f, eql_t, eql_f, neq_t, neq_f]
    intros
    refine ⟨by first | trivial | (simp only [and_true]; first | assumption | omega | simp [*]), ?_⟩
    unfold chE
    simp only [D.v.injEq, Value.int.injEq, true_and]
    clear hi hj
    split
    all_goals first | rfl | omega | (exfalso; simp_all; try omega)
theorem chB_ok (tn n co b r p v q t b1 r1 p1 v1 q1 t1 b2 r2 p2 v2 q2 t2 cd rt x y z w b3 r3 p3 v3 q3 t3 b4 r4 p4 v4 q4 t4 b5 r5 p5 v5 q5 t5 : Int) (hi : inV v v1 v2) (hj : inV v3 v4 v5) (h12 : 0 ≤ cd) (h13 : 0 ≤ w) :
    CallsD Try.prog 6 [.agg [u32 tn, u64 n, u32 co, i64 b, i64 r, i64 p, i64 v, i64 q, u64 t, i64 b1, i64 r1, i64 p1, i64 v1, i64 q1, u64 t1, i64 b2, i64 r2, i64 p2, i64 v2, i64 q2, u64 t2, u8 cd, u32 rt, u32 x, u32 y, u32 z, u64 w, i64 b3, i64 r3, i64 p3, i64 v3, i64 q3, u64 t3, i64 b4, i64 r4, i64 p4, i64 v4, i64 q4, u64 t4, i64 b5, i64 r5, i64 p5, i64 v5, i64 q5, u64 t5]] (i64 (chE tn (rwB (bkE b r p v q) (bkE b1 r1 p1 v1 q1) (bkE b2 r2 p2 v2 q2)) (rwB (bkE b3 r3 p3 v3 q3) (bkE b4 r4 p4 v4 q4) (bkE b5 r5 p5 v5 q5)) (rpE cd rt x y z w) cd)) := by
  refine chB_calls tn n co b r p v q t b1 r1 p1 v1 q1 t1 b2 r2 p2 v2 q2 t2 cd rt x y z w b3 r3 p3 v3 q3 t3 b4 r4 p4 v4 q4 t4 b5 r5 p5 v5 q5 t5 _ ?_ ?_ ?_ ?_ ?_ ?_ ?_
  all_goals
    generalize (rwB (bkE b r p v q) (bkE b1 r1 p1 v1 q1) (bkE b2 r2 p2 v2 q2)) = k
    generalize (rwB (bkE b3 r3 p3 v3 q3) (bkE b4 r4 p4 v4 q4) (bkE b5 r5 p5 v5 q5)) = m
    generalize rpE cd rt x y z w = e
    simp only [not_t, not_f, geq_t, geq_f, eql_t, eql_f, neq_t, neq_f]
    intros
    refine ⟨by first | trivial | (simp only [and_true]; first | assumption | omega | simp [*]), ?_⟩
    unfold chE
    simp only [D.v.injEq, Value.int.injEq, true_and]
    clear hi hj
    split
    all_goals first | rfl | omega | (exfalso; simp_all; try omega)
def chC_k : List IntKind := [.u32, .u64, .u32, .i64, .i64, .i64, .i64, .i64, .u64, .i64, .i64, .i64, .i64, .i64, .u64, .i64, .i64, .i64, .i64, .i64, .u64, .u8, .u32, .u32, .u32, .u32, .u64, .i64, .i64, .i64, .i64, .i64, .u64, .i64, .i64, .i64, .i64, .i64, .u64, .i64, .i64, .i64, .i64, .i64, .u64]
def chC_r (f : Nat → Int) : D := i64 (chE (f 0) (rwB (bkE (f 3) (f 4) (f 5) (f 6) (f 7)) (bkE (f 9) (f 10) (f 11) (f 12) (f 13)) (bkE (f 15) (f 16) (f 17) (f 18) (f 19))) (rwB (bkE (f 27) (f 28) (f 29) (f 30) (f 31)) (bkE (f 33) (f 34) (f 35) (f 36) (f 37)) (bkE (f 39) (f 40) (f 41) (f 42) (f 43))) (rpE (f 21) (f 22) (f 23) (f 24) (f 25) (f 26)) (f 21))
def chC_l (f : Nat → Int) : List Prop := [inV (f 6) (f 12) (f 18), inV (f 30) (f 36) (f 42), 0 ≤ (f 21), 0 ≤ (f 26)]
def chC : List D → Option (D × List Prop)
  | [.agg ds] => bif hasKinds chC_k ds then some (chC_r (nth ds), chC_l (nth ds)) else none
  | _ => none
theorem chC_okA (args res l) (h : chC args = some (res, l)) (hl : AllP l) : CallsD Try.prog 13 args res := by
  unfold chC at h; split at h
  next ds =>
    cases hk : hasKinds chC_k ds with
    | false => rw [hk] at h; cases h
    | true =>
      rw [hk] at h
      simp only [cond_true, Option.some.injEq, Prod.mk.injEq] at h
      obtain ⟨rfl, rfl⟩ := h
      have e := of_hasKinds hk
      generalize nth ds = f at *
      subst e
      obtain ⟨h0, h1, h2, h3, _⟩ := hl
      exact chA_ok (f 0) (f 1) (f 2) (f 3) (f 4) (f 5) (f 6) (f 7) (f 8) (f 9) (f 10) (f 11) (f 12) (f 13) (f 14) (f 15) (f 16) (f 17) (f 18) (f 19) (f 20) (f 21) (f 22) (f 23) (f 24) (f 25) (f 26) (f 27) (f 28) (f 29) (f 30) (f 31) (f 32) (f 33) (f 34) (f 35) (f 36) (f 37) (f 38) (f 39) (f 40) (f 41) (f 42) (f 43) (f 44) h0 h1 h2 h3
  · cases h
theorem chC_okB (args res l) (h : chC args = some (res, l)) (hl : AllP l) : CallsD Try.prog 6 args res := by
  unfold chC at h; split at h
  next ds =>
    cases hk : hasKinds chC_k ds with
    | false => rw [hk] at h; cases h
    | true =>
      rw [hk] at h
      simp only [cond_true, Option.some.injEq, Prod.mk.injEq] at h
      obtain ⟨rfl, rfl⟩ := h
      have e := of_hasKinds hk
      generalize nth ds = f at *
      subst e
      obtain ⟨h0, h1, h2, h3, _⟩ := hl
      exact chB_ok (f 0) (f 1) (f 2) (f 3) (f 4) (f 5) (f 6) (f 7) (f 8) (f 9) (f 10) (f 11) (f 12) (f 13) (f 14) (f 15) (f 16) (f 17) (f 18) (f 19) (f 20) (f 21) (f 22) (f 23) (f 24) (f 25) (f 26) (f 27) (f 28) (f 29) (f 30) (f 31) (f 32) (f 33) (f 34) (f 35) (f 36) (f 37) (f 38) (f 39) (f 40) (f 41) (f 42) (f 43) (f 44) h0 h1 h2 h3
  · cases h
def X26 : Contracts := addCon 13 (.call chC) (addCon 6 (.call chC) X25)
theorem hX26 : ConOK Try.prog X26 := addCall_ok chC_okA (addCall_ok chC_okB hX25)
end MeterS

namespace MeterS
open Go Go.Dam Go.Proofs
set_option maxRecDepth 1000000
set_option linter.unusedVariables false
set_option linter.unusedSectionVars false
set_option linter.unusedSimpArgs false
/-- The reply and the row that a right proof has. -/
def mdF (tn n co b r p v q t b1 r1 p1 v1 q1 t1 b2 r2 p2 v2 q2 t2 : Int) : List Int := [mdC (tk3 co (fiV b r p v q t n) (fiV b1 r1 p1 v1 q1 t1 n) (fiV b2 r2 p2 v2 q2 t2 n)), tn, (lv (tk3 co (fiV b r p v q t n) (fiV b1 r1 p1 v1 q1 t1 n) (fiV b2 r2 p2 v2 q2 t2 n)) (fiV b r p v q t n) co), (lv (tk3 co (fiV b r p v q t n) (fiV b1 r1 p1 v1 q1 t1 n) (fiV b2 r2 p2 v2 q2 t2 n)) (fiV b1 r1 p1 v1 q1 t1 n) co), (lv (tk3 co (fiV b r p v q t n) (fiV b1 r1 p1 v1 q1 t1 n) (fiV b2 r2 p2 v2 q2 t2 n)) (fiV b2 r2 p2 v2 q2 t2 n) co), (mdW (tk3 co (fiV b r p v q t n) (fiV b1 r1 p1 v1 q1 t1 n) (fiV b2 r2 p2 v2 q2 t2 n)) (mx3 (waN b r p (lv (tk3 co (fiV b r p v q t n) (fiV b1 r1 p1 v1 q1 t1 n) (fiV b2 r2 p2 v2 q2 t2 n)) (fiV b r p v q t n) co) (fiQ b r p v q t n) (fiT t n) co) (waN b1 r1 p1 (lv (tk3 co (fiV b r p v q t n) (fiV b1 r1 p1 v1 q1 t1 n) (fiV b2 r2 p2 v2 q2 t2 n)) (fiV b1 r1 p1 v1 q1 t1 n) co) (fiQ b1 r1 p1 v1 q1 t1 n) (fiT t1 n) co) (waN b2 r2 p2 (lv (tk3 co (fiV b r p v q t n) (fiV b1 r1 p1 v1 q1 t1 n) (fiV b2 r2 p2 v2 q2 t2 n)) (fiV b2 r2 p2 v2 q2 t2 n) co) (fiQ b2 r2 p2 v2 q2 t2 n) (fiT t2 n) co))), b, r, p, (lv (tk3 co (fiV b r p v q t n) (fiV b1 r1 p1 v1 q1 t1 n) (fiV b2 r2 p2 v2 q2 t2 n)) (fiV b r p v q t n) co), fiQ b r p v q t n, fiT t n, b1, r1, p1, (lv (tk3 co (fiV b r p v q t n) (fiV b1 r1 p1 v1 q1 t1 n) (fiV b2 r2 p2 v2 q2 t2 n)) (fiV b1 r1 p1 v1 q1 t1 n) co), fiQ b1 r1 p1 v1 q1 t1 n, fiT t1 n, b2, r2, p2, (lv (tk3 co (fiV b r p v q t n) (fiV b1 r1 p1 v1 q1 t1 n) (fiV b2 r2 p2 v2 q2 t2 n)) (fiV b2 r2 p2 v2 q2 t2 n) co), fiQ b2 r2 p2 v2 q2 t2 n, fiT t2 n]
def inT (t t1 t2 : Int) : Prop := 0 ≤ t ∧ t < 18446744073709551616 ∧ 0 ≤ t1 ∧ t1 < 18446744073709551616 ∧ 0 ≤ t2 ∧ t2 < 18446744073709551616
theorem val3_of {b r p v q t b1 r1 p1 v1 q1 t1 b2 r2 p2 v2 q2 t2 : Int} (h : (rwB (bkE b r p v q) (bkE b1 r1 p1 v1 q1) (bkE b2 r2 p2 v2 q2)) = true) (ht : inT t t1 t2) : val3 b r p v q t b1 r1 p1 v1 q1 t1 b2 r2 p2 v2 q2 t2 := ⟨rwB_iff.1 h, ht⟩
variable [Glo]
def make_c0 (tn b r p v q t b1 r1 p1 v1 q1 t1 b2 r2 p2 v2 q2 t2 n co : Int) := lv (tk3 co (fiV b r p v q t n) (fiV b1 r1 p1 v1 q1 t1 n) (fiV b2 r2 p2 v2 q2 t2 n)) (fiV b r p v q t n) co
def make_c1 (tn b r p v q t b1 r1 p1 v1 q1 t1 b2 r2 p2 v2 q2 t2 n co : Int) := lv (tk3 co (fiV b r p v q t n) (fiV b1 r1 p1 v1 q1 t1 n) (fiV b2 r2 p2 v2 q2 t2 n)) (fiV b1 r1 p1 v1 q1 t1 n) co
def make_c2 (tn b r p v q t b1 r1 p1 v1 q1 t1 b2 r2 p2 v2 q2 t2 n co : Int) := lv (tk3 co (fiV b r p v q t n) (fiV b1 r1 p1 v1 q1 t1 n) (fiV b2 r2 p2 v2 q2 t2 n)) (fiV b2 r2 p2 v2 q2 t2 n) co
theorem make_p0 (tn b r p v q t b1 r1 p1 v1 q1 t1 b2 r2 p2 v2 q2 t2 n co : Int) : fnX Try.prog X26 100000 [.d true] 7 [u32 tn, D.agg (bk1 b r p v q t ++ bk1 b1 r1 p1 v1 q1 t1 ++ bk1 b2 r2 p2 v2 q2 t2), u64 n, u32 co] = some (D.tup [D.agg [u32 0, u64 0, u32 0, i64 0, i64 0, i64 0, i64 0, i64 0, u64 0, i64 0, i64 0, i64 0, i64 0, i64 0, u64 0, i64 0, i64 0, i64 0, i64 0, i64 0, u64 0, u8 0, u32 0, u32 0, u32 0, u32 0, u64 0, i64 0, i64 0, i64 0, i64 0, i64 0, u64 0, i64 0, i64 0, i64 0, i64 0, i64 0, u64 0, i64 0, i64 0, i64 0, i64 0, i64 0, u64 0], i64 2], [cmpI BinOp.geq tn 16 = true]) := by kernel_rfl
theorem make_p1 (tn b r p v q t b1 r1 p1 v1 q1 t1 b2 r2 p2 v2 q2 t2 n co : Int) : fnX Try.prog X26 100000 [.d false, .d true] 7 [u32 tn, D.agg (bk1 b r p v q t ++ bk1 b1 r1 p1 v1 q1 t1 ++ bk1 b2 r2 p2 v2 q2 t2), u64 n, u32 co] = some (D.tup [D.agg [u32 0, u64 0, u32 0, i64 0, i64 0, i64 0, i64 0, i64 0, u64 0, i64 0, i64 0, i64 0, i64 0, i64 0, u64 0, i64 0, i64 0, i64 0, i64 0, i64 0, u64 0, u8 0, u32 0, u32 0, u32 0, u32 0, u64 0, i64 0, i64 0, i64 0, i64 0, i64 0, u64 0, i64 0, i64 0, i64 0, i64 0, i64 0, u64 0, i64 0, i64 0, i64 0, i64 0, i64 0, u64 0], i64 8], [(!rwB (bkE b r p v q) (bkE b1 r1 p1 v1 q1) (bkE b2 r2 p2 v2 q2)) = true, inV v v1 v2, cmpI BinOp.geq tn 16 = false]) := by kernel_rfl
theorem make_p2 (tn b r p v q t b1 r1 p1 v1 q1 t1 b2 r2 p2 v2 q2 t2 n co : Int) : fnX Try.prog X26 100000 [.d false, .d false] 7 [u32 tn, D.agg (bk1 b r p v q t ++ bk1 b1 r1 p1 v1 q1 t1 ++ bk1 b2 r2 p2 v2 q2 t2), u64 n, u32 co] = some (D.tup [D.agg [u32 tn, u64 n, u32 co, i64 b, i64 r, i64 p, i64 v, i64 q, u64 t, i64 b1, i64 r1, i64 p1, i64 v1, i64 q1, u64 t1, i64 b2, i64 r2, i64 p2, i64 v2, i64 q2, u64 t2, u8 (mdC (tk3 co (fiV b r p v q t n) (fiV b1 r1 p1 v1 q1 t1 n) (fiV b2 r2 p2 v2 q2 t2 n))), u32 tn, u32 (make_c0 tn b r p v q t b1 r1 p1 v1 q1 t1 b2 r2 p2 v2 q2 t2 n co), u32 (make_c1 tn b r p v q t b1 r1 p1 v1 q1 t1 b2 r2 p2 v2 q2 t2 n co), u32 (make_c2 tn b r p v q t b1 r1 p1 v1 q1 t1 b2 r2 p2 v2 q2 t2 n co), u64 (mdW (tk3 co (fiV b r p v q t n) (fiV b1 r1 p1 v1 q1 t1 n) (fiV b2 r2 p2 v2 q2 t2 n)) (mx3 (waN b r p (make_c0 tn b r p v q t b1 r1 p1 v1 q1 t1 b2 r2 p2 v2 q2 t2 n co) (fiQ b r p v q t n) (fiT t n) co) (waN b1 r1 p1 (make_c1 tn b r p v q t b1 r1 p1 v1 q1 t1 b2 r2 p2 v2 q2 t2 n co) (fiQ b1 r1 p1 v1 q1 t1 n) (fiT t1 n) co) (waN b2 r2 p2 (make_c2 tn b r p v q t b1 r1 p1 v1 q1 t1 b2 r2 p2 v2 q2 t2 n co) (fiQ b2 r2 p2 v2 q2 t2 n) (fiT t2 n) co))), i64 b, i64 r, i64 p, i64 (make_c0 tn b r p v q t b1 r1 p1 v1 q1 t1 b2 r2 p2 v2 q2 t2 n co), i64 (fiQ b r p v q t n), u64 (fiT t n), i64 b1, i64 r1, i64 p1, i64 (make_c1 tn b r p v q t b1 r1 p1 v1 q1 t1 b2 r2 p2 v2 q2 t2 n co), i64 (fiQ b1 r1 p1 v1 q1 t1 n), u64 (fiT t1 n), i64 b2, i64 r2, i64 p2, i64 (make_c2 tn b r p v q t b1 r1 p1 v1 q1 t1 b2 r2 p2 v2 q2 t2 n co), i64 (fiQ b2 r2 p2 v2 q2 t2 n), u64 (fiT t2 n)], i64 0], [val3 b r p v q t b1 r1 p1 v1 q1 t1 b2 r2 p2 v2 q2 t2, inNC n co, (!rwB (bkE b r p v q) (bkE b1 r1 p1 v1 q1) (bkE b2 r2 p2 v2 q2)) = false, inV v v1 v2, cmpI BinOp.geq tn 16 = false]) := by kernel_rfl
theorem make_calls (tn b r p v q t b1 r1 p1 v1 q1 t1 b2 r2 p2 v2 q2 t2 n co : Int) (res : D)
  (h0 : ((cmpI BinOp.geq tn 16) = true) → (True) ∧ res = D.tup [D.agg [u32 0, u64 0, u32 0, i64 0, i64 0, i64 0, i64 0, i64 0, u64 0, i64 0, i64 0, i64 0, i64 0, i64 0, u64 0, i64 0, i64 0, i64 0, i64 0, i64 0, u64 0, u8 0, u32 0, u32 0, u32 0, u32 0, u64 0, i64 0, i64 0, i64 0, i64 0, i64 0, u64 0, i64 0, i64 0, i64 0, i64 0, i64 0, u64 0, i64 0, i64 0, i64 0, i64 0, i64 0, u64 0], i64 2])
  (h1 : ((cmpI BinOp.geq tn 16) = false) → ((!rwB (bkE b r p v q) (bkE b1 r1 p1 v1 q1) (bkE b2 r2 p2 v2 q2)) = true) → ((inV v v1 v2) ∧ True) ∧ res = D.tup [D.agg [u32 0, u64 0, u32 0, i64 0, i64 0, i64 0, i64 0, i64 0, u64 0, i64 0, i64 0, i64 0, i64 0, i64 0, u64 0, i64 0, i64 0, i64 0, i64 0, i64 0, u64 0, u8 0, u32 0, u32 0, u32 0, u32 0, u64 0, i64 0, i64 0, i64 0, i64 0, i64 0, u64 0, i64 0, i64 0, i64 0, i64 0, i64 0, u64 0, i64 0, i64 0, i64 0, i64 0, i64 0, u64 0], i64 8])
  (h2 : ((cmpI BinOp.geq tn 16) = false) → ((!rwB (bkE b r p v q) (bkE b1 r1 p1 v1 q1) (bkE b2 r2 p2 v2 q2)) = false) → ((val3 b r p v q t b1 r1 p1 v1 q1 t1 b2 r2 p2 v2 q2 t2) ∧ (inNC n co) ∧ (inV v v1 v2) ∧ True) ∧ res = D.tup [D.agg [u32 tn, u64 n, u32 co, i64 b, i64 r, i64 p, i64 v, i64 q, u64 t, i64 b1, i64 r1, i64 p1, i64 v1, i64 q1, u64 t1, i64 b2, i64 r2, i64 p2, i64 v2, i64 q2, u64 t2, u8 (mdC (tk3 co (fiV b r p v q t n) (fiV b1 r1 p1 v1 q1 t1 n) (fiV b2 r2 p2 v2 q2 t2 n))), u32 tn, u32 (make_c0 tn b r p v q t b1 r1 p1 v1 q1 t1 b2 r2 p2 v2 q2 t2 n co), u32 (make_c1 tn b r p v q t b1 r1 p1 v1 q1 t1 b2 r2 p2 v2 q2 t2 n co), u32 (make_c2 tn b r p v q t b1 r1 p1 v1 q1 t1 b2 r2 p2 v2 q2 t2 n co), u64 (mdW (tk3 co (fiV b r p v q t n) (fiV b1 r1 p1 v1 q1 t1 n) (fiV b2 r2 p2 v2 q2 t2 n)) (mx3 (waN b r p (make_c0 tn b r p v q t b1 r1 p1 v1 q1 t1 b2 r2 p2 v2 q2 t2 n co) (fiQ b r p v q t n) (fiT t n) co) (waN b1 r1 p1 (make_c1 tn b r p v q t b1 r1 p1 v1 q1 t1 b2 r2 p2 v2 q2 t2 n co) (fiQ b1 r1 p1 v1 q1 t1 n) (fiT t1 n) co) (waN b2 r2 p2 (make_c2 tn b r p v q t b1 r1 p1 v1 q1 t1 b2 r2 p2 v2 q2 t2 n co) (fiQ b2 r2 p2 v2 q2 t2 n) (fiT t2 n) co))), i64 b, i64 r, i64 p, i64 (make_c0 tn b r p v q t b1 r1 p1 v1 q1 t1 b2 r2 p2 v2 q2 t2 n co), i64 (fiQ b r p v q t n), u64 (fiT t n), i64 b1, i64 r1, i64 p1, i64 (make_c1 tn b r p v q t b1 r1 p1 v1 q1 t1 b2 r2 p2 v2 q2 t2 n co), i64 (fiQ b1 r1 p1 v1 q1 t1 n), u64 (fiT t1 n), i64 b2, i64 r2, i64 p2, i64 (make_c2 tn b r p v q t b1 r1 p1 v1 q1 t1 b2 r2 p2 v2 q2 t2 n co), i64 (fiQ b2 r2 p2 v2 q2 t2 n), u64 (fiT t2 n)], i64 0]) : CallsD Try.prog 7 [u32 tn, D.agg (bk1 b r p v q t ++ bk1 b1 r1 p1 v1 q1 t1 ++ bk1 b2 r2 p2 v2 q2 t2), u64 n, u32 co] res := by
  cases e0 : (cmpI BinOp.geq tn 16) with
  | true =>
    exact of_path hX26 (make_p0 tn b r p v q t b1 r1 p1 v1 q1 t1 b2 r2 p2 v2 q2 t2 n co) ⟨e0, trivial⟩ (h0 e0).2
  | false =>
    cases e1 : (!rwB (bkE b r p v q) (bkE b1 r1 p1 v1 q1) (bkE b2 r2 p2 v2 q2)) with
    | true =>
      exact of_path hX26 (make_p1 tn b r p v q t b1 r1 p1 v1 q1 t1 b2 r2 p2 v2 q2 t2 n co) ⟨e1, (h1 e0 e1).1.1, e0, trivial⟩ (h1 e0 e1).2
    | false =>
      exact of_path hX26 (make_p2 tn b r p v q t b1 r1 p1 v1 q1 t1 b2 r2 p2 v2 q2 t2 n co) ⟨(h2 e0 e1).1.1, (h2 e0 e1).1.2.1, e1, (h2 e0 e1).1.2.2.1, e0, trivial⟩ (h2 e0 e1).2
def acc_c0 (tn n co b r p v q t b1 r1 p1 v1 q1 t1 b2 r2 p2 v2 q2 t2 cd rt x y z w b3 r3 p3 v3 q3 t3 b4 r4 p4 v4 q4 t4 b5 r5 p5 v5 q5 t5 : Int) := chE tn (rwB (bkE b r p v q) (bkE b1 r1 p1 v1 q1) (bkE b2 r2 p2 v2 q2)) (rwB (bkE b3 r3 p3 v3 q3) (bkE b4 r4 p4 v4 q4) (bkE b5 r5 p5 v5 q5)) (rpE cd rt x y z w) cd
def acc_c1 (tn n co b r p v q t b1 r1 p1 v1 q1 t1 b2 r2 p2 v2 q2 t2 cd rt x y z w b3 r3 p3 v3 q3 t3 b4 r4 p4 v4 q4 t4 b5 r5 p5 v5 q5 t5 : Int) := [u32 tn, u64 n, u32 co] ++ bk1 b r p v q t ++ bk1 b1 r1 p1 v1 q1 t1 ++ bk1 b2 r2 p2 v2 q2 t2 ++ [u8 cd, u32 rt, u32 x, u32 y, u32 z, u64 w] ++ bk1 b3 r3 p3 v3 q3 t3 ++ bk1 b4 r4 p4 v4 q4 t4 ++ bk1 b5 r5 p5 v5 q5 t5
theorem acc_p0 (tn n co b r p v q t b1 r1 p1 v1 q1 t1 b2 r2 p2 v2 q2 t2 cd rt x y z w b3 r3 p3 v3 q3 t3 b4 r4 p4 v4 q4 t4 b5 r5 p5 v5 q5 t5 : Int) : fnX Try.prog X26 100000 [.d false, .d true, .c 3] 8 [D.agg (acc_c1 tn n co b r p v q t b1 r1 p1 v1 q1 t1 b2 r2 p2 v2 q2 t2 cd rt x y z w b3 r3 p3 v3 q3 t3 b4 r4 p4 v4 q4 t4 b5 r5 p5 v5 q5 t5)] = some (D.tup [D.v (Value.bool (cd == mdC (tk3 co (fiV b r p v q t n) (fiV b1 r1 p1 v1 q1 t1 n) (fiV b2 r2 p2 v2 q2 t2 n)) && (rt == tn && (x == lv (tk3 co (fiV b r p v q t n) (fiV b1 r1 p1 v1 q1 t1 n) (fiV b2 r2 p2 v2 q2 t2 n)) (fiV b r p v q t n) co && (y == lv (tk3 co (fiV b r p v q t n) (fiV b1 r1 p1 v1 q1 t1 n) (fiV b2 r2 p2 v2 q2 t2 n)) (fiV b1 r1 p1 v1 q1 t1 n) co && (z == lv (tk3 co (fiV b r p v q t n) (fiV b1 r1 p1 v1 q1 t1 n) (fiV b2 r2 p2 v2 q2 t2 n)) (fiV b2 r2 p2 v2 q2 t2 n) co && true)) && (w == mdW (tk3 co (fiV b r p v q t n) (fiV b1 r1 p1 v1 q1 t1 n) (fiV b2 r2 p2 v2 q2 t2 n)) (mx3 (waN b r p (lv (tk3 co (fiV b r p v q t n) (fiV b1 r1 p1 v1 q1 t1 n) (fiV b2 r2 p2 v2 q2 t2 n)) (fiV b r p v q t n) co) (fiQ b r p v q t n) (fiT t n) co) (waN b1 r1 p1 (lv (tk3 co (fiV b r p v q t n) (fiV b1 r1 p1 v1 q1 t1 n) (fiV b2 r2 p2 v2 q2 t2 n)) (fiV b1 r1 p1 v1 q1 t1 n) co) (fiQ b1 r1 p1 v1 q1 t1 n) (fiT t1 n) co) (waN b2 r2 p2 (lv (tk3 co (fiV b r p v q t n) (fiV b1 r1 p1 v1 q1 t1 n) (fiV b2 r2 p2 v2 q2 t2 n)) (fiV b2 r2 p2 v2 q2 t2 n) co) (fiQ b2 r2 p2 v2 q2 t2 n) (fiT t2 n) co)) && true))))), i64 0], [(b3 == b && (r3 == r && (p3 == p && true)) && (v3 == lv (tk3 co (fiV b r p v q t n) (fiV b1 r1 p1 v1 q1 t1 n) (fiV b2 r2 p2 v2 q2 t2 n)) (fiV b r p v q t n) co && (q3 == fiQ b r p v q t n && (t3 == fiT t n && true))) && (b4 == b1 && (r4 == r1 && (p4 == p1 && true)) && (v4 == lv (tk3 co (fiV b r p v q t n) (fiV b1 r1 p1 v1 q1 t1 n) (fiV b2 r2 p2 v2 q2 t2 n)) (fiV b1 r1 p1 v1 q1 t1 n) co && (q4 == fiQ b1 r1 p1 v1 q1 t1 n && (t4 == fiT t1 n && true))) && (b5 == b2 && (r5 == r2 && (p5 == p2 && true)) && (v5 == lv (tk3 co (fiV b r p v q t n) (fiV b1 r1 p1 v1 q1 t1 n) (fiV b2 r2 p2 v2 q2 t2 n)) (fiV b2 r2 p2 v2 q2 t2 n) co && (q5 == fiQ b2 r2 p2 v2 q2 t2 n && (t5 == fiT t2 n && true))) && true))) = true, val3 b r p v q t b1 r1 p1 v1 q1 t1 b2 r2 p2 v2 q2 t2, inNC n co, cmpI BinOp.neq (acc_c0 tn n co b r p v q t b1 r1 p1 v1 q1 t1 b2 r2 p2 v2 q2 t2 cd rt x y z w b3 r3 p3 v3 q3 t3 b4 r4 p4 v4 q4 t4 b5 r5 p5 v5 q5 t5) 0 = false, inV v v1 v2, inV v3 v4 v5, 0 ≤ cd, 0 ≤ w]) := by kernel_rfl
theorem acc_p1 (tn n co b r p v q t b1 r1 p1 v1 q1 t1 b2 r2 p2 v2 q2 t2 cd rt x y z w b3 r3 p3 v3 q3 t3 b4 r4 p4 v4 q4 t4 b5 r5 p5 v5 q5 t5 : Int) : fnX Try.prog X26 100000 [.d false, .d false, .c 3] 8 [D.agg (acc_c1 tn n co b r p v q t b1 r1 p1 v1 q1 t1 b2 r2 p2 v2 q2 t2 cd rt x y z w b3 r3 p3 v3 q3 t3 b4 r4 p4 v4 q4 t4 b5 r5 p5 v5 q5 t5)] = some (D.tup [bo false, i64 0], [(b3 == b && (r3 == r && (p3 == p && true)) && (v3 == lv (tk3 co (fiV b r p v q t n) (fiV b1 r1 p1 v1 q1 t1 n) (fiV b2 r2 p2 v2 q2 t2 n)) (fiV b r p v q t n) co && (q3 == fiQ b r p v q t n && (t3 == fiT t n && true))) && (b4 == b1 && (r4 == r1 && (p4 == p1 && true)) && (v4 == lv (tk3 co (fiV b r p v q t n) (fiV b1 r1 p1 v1 q1 t1 n) (fiV b2 r2 p2 v2 q2 t2 n)) (fiV b1 r1 p1 v1 q1 t1 n) co && (q4 == fiQ b1 r1 p1 v1 q1 t1 n && (t4 == fiT t1 n && true))) && (b5 == b2 && (r5 == r2 && (p5 == p2 && true)) && (v5 == lv (tk3 co (fiV b r p v q t n) (fiV b1 r1 p1 v1 q1 t1 n) (fiV b2 r2 p2 v2 q2 t2 n)) (fiV b2 r2 p2 v2 q2 t2 n) co && (q5 == fiQ b2 r2 p2 v2 q2 t2 n && (t5 == fiT t2 n && true))) && true))) = false, val3 b r p v q t b1 r1 p1 v1 q1 t1 b2 r2 p2 v2 q2 t2, inNC n co, cmpI BinOp.neq (acc_c0 tn n co b r p v q t b1 r1 p1 v1 q1 t1 b2 r2 p2 v2 q2 t2 cd rt x y z w b3 r3 p3 v3 q3 t3 b4 r4 p4 v4 q4 t4 b5 r5 p5 v5 q5 t5) 0 = false, inV v v1 v2, inV v3 v4 v5, 0 ≤ cd, 0 ≤ w]) := by kernel_rfl
theorem acc_calls (tn n co b r p v q t b1 r1 p1 v1 q1 t1 b2 r2 p2 v2 q2 t2 cd rt x y z w b3 r3 p3 v3 q3 t3 b4 r4 p4 v4 q4 t4 b5 r5 p5 v5 q5 t5 : Int) (res : D)
  (e0 : (cmpI BinOp.neq (acc_c0 tn n co b r p v q t b1 r1 p1 v1 q1 t1 b2 r2 p2 v2 q2 t2 cd rt x y z w b3 r3 p3 v3 q3 t3 b4 r4 p4 v4 q4 t4 b5 r5 p5 v5 q5 t5) 0) = false)
  (h0 : ((b3 == b && (r3 == r && (p3 == p && true)) && (v3 == lv (tk3 co (fiV b r p v q t n) (fiV b1 r1 p1 v1 q1 t1 n) (fiV b2 r2 p2 v2 q2 t2 n)) (fiV b r p v q t n) co && (q3 == fiQ b r p v q t n && (t3 == fiT t n && true))) && (b4 == b1 && (r4 == r1 && (p4 == p1 && true)) && (v4 == lv (tk3 co (fiV b r p v q t n) (fiV b1 r1 p1 v1 q1 t1 n) (fiV b2 r2 p2 v2 q2 t2 n)) (fiV b1 r1 p1 v1 q1 t1 n) co && (q4 == fiQ b1 r1 p1 v1 q1 t1 n && (t4 == fiT t1 n && true))) && (b5 == b2 && (r5 == r2 && (p5 == p2 && true)) && (v5 == lv (tk3 co (fiV b r p v q t n) (fiV b1 r1 p1 v1 q1 t1 n) (fiV b2 r2 p2 v2 q2 t2 n)) (fiV b2 r2 p2 v2 q2 t2 n) co && (q5 == fiQ b2 r2 p2 v2 q2 t2 n && (t5 == fiT t2 n && true))) && true))) = true) → ((val3 b r p v q t b1 r1 p1 v1 q1 t1 b2 r2 p2 v2 q2 t2) ∧ (inNC n co) ∧ (inV v v1 v2) ∧ (inV v3 v4 v5) ∧ (0 ≤ cd) ∧ (0 ≤ w) ∧ True) ∧ res = D.tup [D.v (Value.bool (cd == mdC (tk3 co (fiV b r p v q t n) (fiV b1 r1 p1 v1 q1 t1 n) (fiV b2 r2 p2 v2 q2 t2 n)) && (rt == tn && (x == lv (tk3 co (fiV b r p v q t n) (fiV b1 r1 p1 v1 q1 t1 n) (fiV b2 r2 p2 v2 q2 t2 n)) (fiV b r p v q t n) co && (y == lv (tk3 co (fiV b r p v q t n) (fiV b1 r1 p1 v1 q1 t1 n) (fiV b2 r2 p2 v2 q2 t2 n)) (fiV b1 r1 p1 v1 q1 t1 n) co && (z == lv (tk3 co (fiV b r p v q t n) (fiV b1 r1 p1 v1 q1 t1 n) (fiV b2 r2 p2 v2 q2 t2 n)) (fiV b2 r2 p2 v2 q2 t2 n) co && true)) && (w == mdW (tk3 co (fiV b r p v q t n) (fiV b1 r1 p1 v1 q1 t1 n) (fiV b2 r2 p2 v2 q2 t2 n)) (mx3 (waN b r p (lv (tk3 co (fiV b r p v q t n) (fiV b1 r1 p1 v1 q1 t1 n) (fiV b2 r2 p2 v2 q2 t2 n)) (fiV b r p v q t n) co) (fiQ b r p v q t n) (fiT t n) co) (waN b1 r1 p1 (lv (tk3 co (fiV b r p v q t n) (fiV b1 r1 p1 v1 q1 t1 n) (fiV b2 r2 p2 v2 q2 t2 n)) (fiV b1 r1 p1 v1 q1 t1 n) co) (fiQ b1 r1 p1 v1 q1 t1 n) (fiT t1 n) co) (waN b2 r2 p2 (lv (tk3 co (fiV b r p v q t n) (fiV b1 r1 p1 v1 q1 t1 n) (fiV b2 r2 p2 v2 q2 t2 n)) (fiV b2 r2 p2 v2 q2 t2 n) co) (fiQ b2 r2 p2 v2 q2 t2 n) (fiT t2 n) co)) && true))))), i64 0])
  (h1 : ((b3 == b && (r3 == r && (p3 == p && true)) && (v3 == lv (tk3 co (fiV b r p v q t n) (fiV b1 r1 p1 v1 q1 t1 n) (fiV b2 r2 p2 v2 q2 t2 n)) (fiV b r p v q t n) co && (q3 == fiQ b r p v q t n && (t3 == fiT t n && true))) && (b4 == b1 && (r4 == r1 && (p4 == p1 && true)) && (v4 == lv (tk3 co (fiV b r p v q t n) (fiV b1 r1 p1 v1 q1 t1 n) (fiV b2 r2 p2 v2 q2 t2 n)) (fiV b1 r1 p1 v1 q1 t1 n) co && (q4 == fiQ b1 r1 p1 v1 q1 t1 n && (t4 == fiT t1 n && true))) && (b5 == b2 && (r5 == r2 && (p5 == p2 && true)) && (v5 == lv (tk3 co (fiV b r p v q t n) (fiV b1 r1 p1 v1 q1 t1 n) (fiV b2 r2 p2 v2 q2 t2 n)) (fiV b2 r2 p2 v2 q2 t2 n) co && (q5 == fiQ b2 r2 p2 v2 q2 t2 n && (t5 == fiT t2 n && true))) && true))) = false) → ((val3 b r p v q t b1 r1 p1 v1 q1 t1 b2 r2 p2 v2 q2 t2) ∧ (inNC n co) ∧ (inV v v1 v2) ∧ (inV v3 v4 v5) ∧ (0 ≤ cd) ∧ (0 ≤ w) ∧ True) ∧ res = D.tup [bo false, i64 0]) : CallsD Try.prog 8 [D.agg (acc_c1 tn n co b r p v q t b1 r1 p1 v1 q1 t1 b2 r2 p2 v2 q2 t2 cd rt x y z w b3 r3 p3 v3 q3 t3 b4 r4 p4 v4 q4 t4 b5 r5 p5 v5 q5 t5)] res := by
  cases e1 : (b3 == b && (r3 == r && (p3 == p && true)) && (v3 == lv (tk3 co (fiV b r p v q t n) (fiV b1 r1 p1 v1 q1 t1 n) (fiV b2 r2 p2 v2 q2 t2 n)) (fiV b r p v q t n) co && (q3 == fiQ b r p v q t n && (t3 == fiT t n && true))) && (b4 == b1 && (r4 == r1 && (p4 == p1 && true)) && (v4 == lv (tk3 co (fiV b r p v q t n) (fiV b1 r1 p1 v1 q1 t1 n) (fiV b2 r2 p2 v2 q2 t2 n)) (fiV b1 r1 p1 v1 q1 t1 n) co && (q4 == fiQ b1 r1 p1 v1 q1 t1 n && (t4 == fiT t1 n && true))) && (b5 == b2 && (r5 == r2 && (p5 == p2 && true)) && (v5 == lv (tk3 co (fiV b r p v q t n) (fiV b1 r1 p1 v1 q1 t1 n) (fiV b2 r2 p2 v2 q2 t2 n)) (fiV b2 r2 p2 v2 q2 t2 n) co && (q5 == fiQ b2 r2 p2 v2 q2 t2 n && (t5 == fiT t2 n && true))) && true))) with
  | true =>
    exact of_path hX26 (acc_p0 tn n co b r p v q t b1 r1 p1 v1 q1 t1 b2 r2 p2 v2 q2 t2 cd rt x y z w b3 r3 p3 v3 q3 t3 b4 r4 p4 v4 q4 t4 b5 r5 p5 v5 q5 t5) ⟨e1, (h0 e1).1.1, (h0 e1).1.2.1, e0, (h0 e1).1.2.2.1, (h0 e1).1.2.2.2.1, (h0 e1).1.2.2.2.2.1, (h0 e1).1.2.2.2.2.2.1, trivial⟩ (h0 e1).2
  | false =>
    exact of_path hX26 (acc_p1 tn n co b r p v q t b1 r1 p1 v1 q1 t1 b2 r2 p2 v2 q2 t2 cd rt x y z w b3 r3 p3 v3 q3 t3 b4 r4 p4 v4 q4 t4 b5 r5 p5 v5 q5 t5) ⟨e1, (h1 e1).1.1, (h1 e1).1.2.1, e0, (h1 e1).1.2.2.1, (h1 e1).1.2.2.2.1, (h1 e1).1.2.2.2.2.1, (h1 e1).1.2.2.2.2.2.1, trivial⟩ (h1 e1).2
theorem make_ok (tn b r p v q t b1 r1 p1 v1 q1 t1 b2 r2 p2 v2 q2 t2 n co : Int) (h : val3 b r p v q t b1 r1 p1 v1 q1 t1 b2 r2 p2 v2 q2 t2) (hn : inNC n co) (hv : inV v v1 v2) (htn : tn < 16) :
    CallsD Try.prog 7 [u32 tn, .agg [i64 b, i64 r, i64 p, i64 v, i64 q, u64 t, i64 b1, i64 r1, i64 p1, i64 v1, i64 q1, u64 t1, i64 b2, i64 r2, i64 p2, i64 v2, i64 q2, u64 t2], u64 n, u32 co] (.tup [(.agg [u32 tn, u64 n, u32 co, i64 b, i64 r, i64 p, i64 v, i64 q, u64 t, i64 b1, i64 r1, i64 p1, i64 v1, i64 q1, u64 t1, i64 b2, i64 r2, i64 p2, i64 v2, i64 q2, u64 t2, u8 (mdC (tk3 co (fiV b r p v q t n) (fiV b1 r1 p1 v1 q1 t1 n) (fiV b2 r2 p2 v2 q2 t2 n))), u32 tn, u32 (lv (tk3 co (fiV b r p v q t n) (fiV b1 r1 p1 v1 q1 t1 n) (fiV b2 r2 p2 v2 q2 t2 n)) (fiV b r p v q t n) co), u32 (lv (tk3 co (fiV b r p v q t n) (fiV b1 r1 p1 v1 q1 t1 n) (fiV b2 r2 p2 v2 q2 t2 n)) (fiV b1 r1 p1 v1 q1 t1 n) co), u32 (lv (tk3 co (fiV b r p v q t n) (fiV b1 r1 p1 v1 q1 t1 n) (fiV b2 r2 p2 v2 q2 t2 n)) (fiV b2 r2 p2 v2 q2 t2 n) co), u64 (mdW (tk3 co (fiV b r p v q t n) (fiV b1 r1 p1 v1 q1 t1 n) (fiV b2 r2 p2 v2 q2 t2 n)) (mx3 (waN b r p (lv (tk3 co (fiV b r p v q t n) (fiV b1 r1 p1 v1 q1 t1 n) (fiV b2 r2 p2 v2 q2 t2 n)) (fiV b r p v q t n) co) (fiQ b r p v q t n) (fiT t n) co) (waN b1 r1 p1 (lv (tk3 co (fiV b r p v q t n) (fiV b1 r1 p1 v1 q1 t1 n) (fiV b2 r2 p2 v2 q2 t2 n)) (fiV b1 r1 p1 v1 q1 t1 n) co) (fiQ b1 r1 p1 v1 q1 t1 n) (fiT t1 n) co) (waN b2 r2 p2 (lv (tk3 co (fiV b r p v q t n) (fiV b1 r1 p1 v1 q1 t1 n) (fiV b2 r2 p2 v2 q2 t2 n)) (fiV b2 r2 p2 v2 q2 t2 n) co) (fiQ b2 r2 p2 v2 q2 t2 n) (fiT t2 n) co))), i64 b, i64 r, i64 p, i64 (lv (tk3 co (fiV b r p v q t n) (fiV b1 r1 p1 v1 q1 t1 n) (fiV b2 r2 p2 v2 q2 t2 n)) (fiV b r p v q t n) co), i64 (fiQ b r p v q t n), u64 (fiT t n), i64 b1, i64 r1, i64 p1, i64 (lv (tk3 co (fiV b r p v q t n) (fiV b1 r1 p1 v1 q1 t1 n) (fiV b2 r2 p2 v2 q2 t2 n)) (fiV b1 r1 p1 v1 q1 t1 n) co), i64 (fiQ b1 r1 p1 v1 q1 t1 n), u64 (fiT t1 n), i64 b2, i64 r2, i64 p2, i64 (lv (tk3 co (fiV b r p v q t n) (fiV b1 r1 p1 v1 q1 t1 n) (fiV b2 r2 p2 v2 q2 t2 n)) (fiV b2 r2 p2 v2 q2 t2 n) co), i64 (fiQ b2 r2 p2 v2 q2 t2 n), u64 (fiT t2 n)]), i64 0]) := by
  have k := rwB_iff.2 h.1
  refine make_calls tn b r p v q t b1 r1 p1 v1 q1 t1 b2 r2 p2 v2 q2 t2 n co _ ?_ ?_ ?_
  · intro a; rw [geq_t] at a; omega
  · intro _ a; rw [k] at a; cases a
  · intro _ _; exact ⟨⟨h, hn, hv, trivial⟩, rfl⟩
theorem acc_ok (tn n co b r p v q t b1 r1 p1 v1 q1 t1 b2 r2 p2 v2 q2 t2 cd rt x y z w b3 r3 p3 v3 q3 t3 b4 r4 p4 v4 q4 t4 b5 r5 p5 v5 q5 t5 : Int) (h : chE tn (rwB (bkE b r p v q) (bkE b1 r1 p1 v1 q1) (bkE b2 r2 p2 v2 q2)) (rwB (bkE b3 r3 p3 v3 q3) (bkE b4 r4 p4 v4 q4) (bkE b5 r5 p5 v5 q5)) (rpE cd rt x y z w) cd = 0) (hi : inV v v1 v2) (hj : inV v3 v4 v5) (hn : inNC n co) (ht : inT t t1 t2) (h12 : 0 ≤ cd) (h13 : 0 ≤ w) :
    CallsD Try.prog 8 [.agg [u32 tn, u64 n, u32 co, i64 b, i64 r, i64 p, i64 v, i64 q, u64 t, i64 b1, i64 r1, i64 p1, i64 v1, i64 q1, u64 t1, i64 b2, i64 r2, i64 p2, i64 v2, i64 q2, u64 t2, u8 cd, u32 rt, u32 x, u32 y, u32 z, u64 w, i64 b3, i64 r3, i64 p3, i64 v3, i64 q3, u64 t3, i64 b4, i64 r4, i64 p4, i64 v4, i64 q4, u64 t4, i64 b5, i64 r5, i64 p5, i64 v5, i64 q5, u64 t5]] (.tup [bo (decide ([cd, rt, x, y, z, w, b3, r3, p3, v3, q3, t3, b4, r4, p4, v4, q4, t4, b5, r5, p5, v5, q5, t5] = mdF tn n co b r p v q t b1 r1 p1 v1 q1 t1 b2 r2 p2 v2 q2 t2)), i64 0]) := by
  have hv : val3 b r p v q t b1 r1 p1 v1 q1 t1 b2 r2 p2 v2 q2 t2 := val3_of (chE_is h).2.1 ht
  refine acc_calls tn n co b r p v q t b1 r1 p1 v1 q1 t1 b2 r2 p2 v2 q2 t2 cd rt x y z w b3 r3 p3 v3 q3 t3 b4 r4 p4 v4 q4 t4 b5 r5 p5 v5 q5 t5 _ ?_ ?_ ?_
  · first | (unfold acc_c0; rw [h]; rfl) | (rw [h]; rfl)
  all_goals
    generalize hK : (tk3 co (fiV b r p v q t n) (fiV b1 r1 p1 v1 q1 t1 n) (fiV b2 r2 p2 v2 q2 t2 n)) = K
    intro a
    refine ⟨⟨hv, hn, hi, hj, h12, h13, trivial⟩, ?_⟩
    congr 4
    unfold mdF
    rw [hK]
    apply Bool.eq_iff_iff.2
    simp only [and_t, and_f, eqi_t, decide_eq_true_eq, List.cons.injEq, and_true, Bool.and_true] at a ⊢
  · simp [a, and_assoc]
  · constructor
    · intro hh; exact absurd (by simp [hh]) a
    · intro hh; cases hh
def mkC : List D → Option (D × List Prop)
  | [.v (.int .u32 tn), .agg [.v (.int .i64 b), .v (.int .i64 r), .v (.int .i64 p), .v (.int .i64 v), .v (.int .i64 q), .v (.int .u64 t), .v (.int .i64 b1), .v (.int .i64 r1), .v (.int .i64 p1), .v (.int .i64 v1), .v (.int .i64 q1), .v (.int .u64 t1), .v (.int .i64 b2), .v (.int .i64 r2), .v (.int .i64 p2), .v (.int .i64 v2), .v (.int .i64 q2), .v (.int .u64 t2)], .v (.int .u64 n), .v (.int .u32 co)] => some ((.tup [(.agg [u32 tn, u64 n, u32 co, i64 b, i64 r, i64 p, i64 v, i64 q, u64 t, i64 b1, i64 r1, i64 p1, i64 v1, i64 q1, u64 t1, i64 b2, i64 r2, i64 p2, i64 v2, i64 q2, u64 t2, u8 (mdC (tk3 co (fiV b r p v q t n) (fiV b1 r1 p1 v1 q1 t1 n) (fiV b2 r2 p2 v2 q2 t2 n))), u32 tn, u32 (lv (tk3 co (fiV b r p v q t n) (fiV b1 r1 p1 v1 q1 t1 n) (fiV b2 r2 p2 v2 q2 t2 n)) (fiV b r p v q t n) co), u32 (lv (tk3 co (fiV b r p v q t n) (fiV b1 r1 p1 v1 q1 t1 n) (fiV b2 r2 p2 v2 q2 t2 n)) (fiV b1 r1 p1 v1 q1 t1 n) co), u32 (lv (tk3 co (fiV b r p v q t n) (fiV b1 r1 p1 v1 q1 t1 n) (fiV b2 r2 p2 v2 q2 t2 n)) (fiV b2 r2 p2 v2 q2 t2 n) co), u64 (mdW (tk3 co (fiV b r p v q t n) (fiV b1 r1 p1 v1 q1 t1 n) (fiV b2 r2 p2 v2 q2 t2 n)) (mx3 (waN b r p (lv (tk3 co (fiV b r p v q t n) (fiV b1 r1 p1 v1 q1 t1 n) (fiV b2 r2 p2 v2 q2 t2 n)) (fiV b r p v q t n) co) (fiQ b r p v q t n) (fiT t n) co) (waN b1 r1 p1 (lv (tk3 co (fiV b r p v q t n) (fiV b1 r1 p1 v1 q1 t1 n) (fiV b2 r2 p2 v2 q2 t2 n)) (fiV b1 r1 p1 v1 q1 t1 n) co) (fiQ b1 r1 p1 v1 q1 t1 n) (fiT t1 n) co) (waN b2 r2 p2 (lv (tk3 co (fiV b r p v q t n) (fiV b1 r1 p1 v1 q1 t1 n) (fiV b2 r2 p2 v2 q2 t2 n)) (fiV b2 r2 p2 v2 q2 t2 n) co) (fiQ b2 r2 p2 v2 q2 t2 n) (fiT t2 n) co))), i64 b, i64 r, i64 p, i64 (lv (tk3 co (fiV b r p v q t n) (fiV b1 r1 p1 v1 q1 t1 n) (fiV b2 r2 p2 v2 q2 t2 n)) (fiV b r p v q t n) co), i64 (fiQ b r p v q t n), u64 (fiT t n), i64 b1, i64 r1, i64 p1, i64 (lv (tk3 co (fiV b r p v q t n) (fiV b1 r1 p1 v1 q1 t1 n) (fiV b2 r2 p2 v2 q2 t2 n)) (fiV b1 r1 p1 v1 q1 t1 n) co), i64 (fiQ b1 r1 p1 v1 q1 t1 n), u64 (fiT t1 n), i64 b2, i64 r2, i64 p2, i64 (lv (tk3 co (fiV b r p v q t n) (fiV b1 r1 p1 v1 q1 t1 n) (fiV b2 r2 p2 v2 q2 t2 n)) (fiV b2 r2 p2 v2 q2 t2 n) co), i64 (fiQ b2 r2 p2 v2 q2 t2 n), u64 (fiT t2 n)]), i64 0]), [val3 b r p v q t b1 r1 p1 v1 q1 t1 b2 r2 p2 v2 q2 t2, inNC n co, inV v v1 v2, tn < 16])
  | _ => none
theorem mkC_ok (args res l) (h : mkC args = some (res, l)) (hl : AllP l) : CallsD Try.prog 7 args res := by
  unfold mkC at h; split at h
  · simp only [Option.some.injEq, Prod.mk.injEq] at h
    obtain ⟨rfl, rfl⟩ := h; obtain ⟨h0, h1, h2, h3, _⟩ := hl
    exact make_ok _ _ _ _ _ _ _ _ _ _ _ _ _ _ _ _ _ _ _ _ _ h0 h1 h2 h3
  · cases h
def acC_k : List IntKind := [.u32, .u64, .u32, .i64, .i64, .i64, .i64, .i64, .u64, .i64, .i64, .i64, .i64, .i64, .u64, .i64, .i64, .i64, .i64, .i64, .u64, .u8, .u32, .u32, .u32, .u32, .u64, .i64, .i64, .i64, .i64, .i64, .u64, .i64, .i64, .i64, .i64, .i64, .u64, .i64, .i64, .i64, .i64, .i64, .u64]
def acC_r (f : Nat → Int) : D := (.tup [bo (decide ([(f 21), (f 22), (f 23), (f 24), (f 25), (f 26), (f 27), (f 28), (f 29), (f 30), (f 31), (f 32), (f 33), (f 34), (f 35), (f 36), (f 37), (f 38), (f 39), (f 40), (f 41), (f 42), (f 43), (f 44)] = mdF (f 0) (f 1) (f 2) (f 3) (f 4) (f 5) (f 6) (f 7) (f 8) (f 9) (f 10) (f 11) (f 12) (f 13) (f 14) (f 15) (f 16) (f 17) (f 18) (f 19) (f 20))), i64 0])
def acC_l (f : Nat → Int) : List Prop := [chE (f 0) (rwB (bkE (f 3) (f 4) (f 5) (f 6) (f 7)) (bkE (f 9) (f 10) (f 11) (f 12) (f 13)) (bkE (f 15) (f 16) (f 17) (f 18) (f 19))) (rwB (bkE (f 27) (f 28) (f 29) (f 30) (f 31)) (bkE (f 33) (f 34) (f 35) (f 36) (f 37)) (bkE (f 39) (f 40) (f 41) (f 42) (f 43))) (rpE (f 21) (f 22) (f 23) (f 24) (f 25) (f 26)) (f 21) = 0, inV (f 6) (f 12) (f 18), inV (f 30) (f 36) (f 42), inNC (f 1) (f 2), inT (f 8) (f 14) (f 20), 0 ≤ (f 21), 0 ≤ (f 26)]
def acC : List D → Option (D × List Prop)
  | [.agg ds] => bif hasKinds acC_k ds then some (acC_r (nth ds), acC_l (nth ds)) else none
  | _ => none
theorem acC_ok (args res l) (h : acC args = some (res, l)) (hl : AllP l) : CallsD Try.prog 8 args res := by
  unfold acC at h; split at h
  next ds =>
    cases hk : hasKinds acC_k ds with
    | false => rw [hk] at h; cases h
    | true =>
      rw [hk] at h
      simp only [cond_true, Option.some.injEq, Prod.mk.injEq] at h
      obtain ⟨rfl, rfl⟩ := h
      have e := of_hasKinds hk
      generalize nth ds = f at *
      subst e
      obtain ⟨h0, h1, h2, h3, h4, h5, h6, _⟩ := hl
      exact acc_ok (f 0) (f 1) (f 2) (f 3) (f 4) (f 5) (f 6) (f 7) (f 8) (f 9) (f 10) (f 11) (f 12) (f 13) (f 14) (f 15) (f 16) (f 17) (f 18) (f 19) (f 20) (f 21) (f 22) (f 23) (f 24) (f 25) (f 26) (f 27) (f 28) (f 29) (f 30) (f 31) (f 32) (f 33) (f 34) (f 35) (f 36) (f 37) (f 38) (f 39) (f 40) (f 41) (f 42) (f 43) (f 44) h0 h1 h2 h3 h4 h5 h6
  · cases h
def X27 : Contracts := addCon 7 (.call mkC) (addCon 8 (.call acC) X26)
theorem hX27 : ConOK Try.prog X27 := addCall_ok mkC_ok (addCall_ok acC_ok hX26)
end MeterS

namespace MeterS
open Go Go.Dam Go.Proofs
set_option maxRecDepth 1000000
set_option linter.unusedVariables false
set_option linter.unusedSectionVars false
set_option linter.unusedSimpArgs false
variable [Glo]
theorem alive_p0  : fnX Try.prog X27 100000 [.c 21] 5 [] = some (bo true, [(0 : Int) = (0 : Int), inV (4 : Int) (4 : Int) (4 : Int), inV (1 : Int) (1 : Int) (1 : Int), inNC (5 : Int) (3 : Int), inT (0 : Int) (0 : Int) (0 : Int), (0 : Int) ≤ (3 : Int), (0 : Int) ≤ (18446744073709551615 : Int), (0 : Int) = (0 : Int), inV (4 : Int) (4 : Int) (4 : Int), inV (1 : Int) (1 : Int) (1 : Int), inNC (5 : Int) (3 : Int), inT (0 : Int) (0 : Int) (0 : Int), (0 : Int) ≤ (2 : Int), (0 : Int) ≤ (0 : Int), val3 (4 : Int) (0 : Int) (1 : Int) (4 : Int) (0 : Int) (0 : Int) (4 : Int) (0 : Int) (1 : Int) (4 : Int) (0 : Int) (0 : Int) (4 : Int) (0 : Int) (1 : Int) (4 : Int) (0 : Int) (0 : Int), inNC (5 : Int) (3 : Int), inV (4 : Int) (4 : Int) (4 : Int), (1 : Int) < (16 : Int)]) := by kernel_rfl
theorem alive_calls  (res : D)
  (h0 : ((inV (4 : Int) (4 : Int) (4 : Int)) ∧ (inV (1 : Int) (1 : Int) (1 : Int)) ∧ (inNC (5 : Int) (3 : Int)) ∧ (inT (0 : Int) (0 : Int) (0 : Int)) ∧ ((0 : Int) ≤ (3 : Int)) ∧ ((0 : Int) ≤ (18446744073709551615 : Int)) ∧ (inV (4 : Int) (4 : Int) (4 : Int)) ∧ (inV (1 : Int) (1 : Int) (1 : Int)) ∧ (inNC (5 : Int) (3 : Int)) ∧ (inT (0 : Int) (0 : Int) (0 : Int)) ∧ ((0 : Int) ≤ (2 : Int)) ∧ ((0 : Int) ≤ (0 : Int)) ∧ (val3 (4 : Int) (0 : Int) (1 : Int) (4 : Int) (0 : Int) (0 : Int) (4 : Int) (0 : Int) (1 : Int) (4 : Int) (0 : Int) (0 : Int) (4 : Int) (0 : Int) (1 : Int) (4 : Int) (0 : Int) (0 : Int)) ∧ (inNC (5 : Int) (3 : Int)) ∧ (inV (4 : Int) (4 : Int) (4 : Int)) ∧ ((1 : Int) < (16 : Int)) ∧ True) ∧ res = bo true) : CallsD Try.prog 5 [] res := by
  exact of_path hX27 (alive_p0 ) ⟨rfl, (h0).1.1, (h0).1.2.1, (h0).1.2.2.1, (h0).1.2.2.2.1, (h0).1.2.2.2.2.1, (h0).1.2.2.2.2.2.1, rfl, (h0).1.2.2.2.2.2.2.1, (h0).1.2.2.2.2.2.2.2.1, (h0).1.2.2.2.2.2.2.2.2.1, (h0).1.2.2.2.2.2.2.2.2.2.1, (h0).1.2.2.2.2.2.2.2.2.2.2.1, (h0).1.2.2.2.2.2.2.2.2.2.2.2.1, (h0).1.2.2.2.2.2.2.2.2.2.2.2.2.1, (h0).1.2.2.2.2.2.2.2.2.2.2.2.2.2.1, (h0).1.2.2.2.2.2.2.2.2.2.2.2.2.2.2.1, (h0).1.2.2.2.2.2.2.2.2.2.2.2.2.2.2.2.1, trivial⟩ (h0).2
theorem alive_ok : CallsD Try.prog 5 [] (.v (.bool true)) := by
  refine alive_calls _ ⟨?_, rfl⟩
  unfold inV inNC inT val3
  (repeat' apply And.intro) <;> first | trivial | decide
def aliveC : List D → Option (D × List Prop)
  | [] => some (.v (.bool true), [])
  | _ => none
theorem aliveC_ok (args res l) (h : aliveC args = some (res, l)) (hl : AllP l) : CallsD Try.prog 5 args res := by
  unfold aliveC at h; split at h
  · simp only [Option.some.injEq, Prod.mk.injEq] at h
    obtain ⟨rfl, rfl⟩ := h
    exact alive_ok
  · cases h
def X28 : Contracts := addCon 5 (.call aliveC) X27
theorem hX28 : ConOK Try.prog X28 := addCall_ok aliveC_ok hX27
end MeterS
