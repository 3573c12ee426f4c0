/- The functions of the folder audit and what they reach: what they compute. No condition. -/
import Derived.Test.YtpbngkempchamaaAuWQ
import Derived.Test.YtpbngkempchamaaDamXO
set_option linter.unusedSectionVars false
set_option linter.unusedVariables false
set_option linter.unusedSimpArgs false
namespace MeterS
open Go Go.Dam Go.Proofs
set_option maxRecDepth 1000000
set_option linter.unusedVariables false
set_option linter.unusedSectionVars false
set_option linter.unusedSimpArgs false
variable [Glo]
noncomputable def rMade_c0 (tn n co b r p v q t b1 r1 p1 v1 q1 t1 b2 r2 p2 v2 q2 t2 : Int) := tk3 (IntKind.i64.wrap co) (fiV b r p v q t n) (fiV b1 r1 p1 v1 q1 t1 n) (fiV b2 r2 p2 v2 q2 t2 n)
noncomputable def rMade_c1 (tn n co b r p v q t b1 r1 p1 v1 q1 t1 b2 r2 p2 v2 q2 t2 : Int) := !tk3 (IntKind.i64.wrap co) (fiV b r p v q t n) (fiV b1 r1 p1 v1 q1 t1 n) (fiV b2 r2 p2 v2 q2 t2 n)
noncomputable def rMade_c2 (tn n co b r p v q t b1 r1 p1 v1 q1 t1 b2 r2 p2 v2 q2 t2 : Int) := lv (rMade_c0 tn n co b r p v q t b1 r1 p1 v1 q1 t1 b2 r2 p2 v2 q2 t2) (fiV b r p v q t n) (IntKind.i64.wrap co)
noncomputable def rMade_c3 (tn n co b r p v q t b1 r1 p1 v1 q1 t1 b2 r2 p2 v2 q2 t2 : Int) := lv (rMade_c0 tn n co b r p v q t b1 r1 p1 v1 q1 t1 b2 r2 p2 v2 q2 t2) (fiV b1 r1 p1 v1 q1 t1 n) (IntKind.i64.wrap co)
noncomputable def rMade_c4 (tn n co b r p v q t b1 r1 p1 v1 q1 t1 b2 r2 p2 v2 q2 t2 : Int) := lv (rMade_c0 tn n co b r p v q t b1 r1 p1 v1 q1 t1 b2 r2 p2 v2 q2 t2) (fiV b2 r2 p2 v2 q2 t2 n) (IntKind.i64.wrap co)
theorem rMade_p0 (tn n co b r p v q t b1 r1 p1 v1 q1 t1 b2 r2 p2 v2 q2 t2 : Int) : fnX Try.prog X31 100000 [.c 0, .d true, .c 0, PE.u, .c 3] 24 [u32 tn, D.agg (bk1 b r p v q t ++ bk1 b1 r1 p1 v1 q1 t1 ++ bk1 b2 r2 p2 v2 q2 t2), u64 n, u32 co] = some (D.agg [u32 tn, u64 n, u32 co, i64 b, i64 r, i64 p, i64 v, i64 q, u64 t, i64 b1, i64 r1, i64 p1, i64 v1, i64 q1, u64 t1, i64 b2, i64 r2, i64 p2, i64 v2, i64 q2, u64 t2, u8 3, u32 tn, u32 (IntKind.u32.wrap (rMade_c2 tn n co b r p v q t b1 r1 p1 v1 q1 t1 b2 r2 p2 v2 q2 t2)), u32 (IntKind.u32.wrap (rMade_c3 tn n co b r p v q t b1 r1 p1 v1 q1 t1 b2 r2 p2 v2 q2 t2)), u32 (IntKind.u32.wrap (rMade_c4 tn n co b r p v q t b1 r1 p1 v1 q1 t1 b2 r2 p2 v2 q2 t2)), u64 (mostI BinOp.gtr (mostI BinOp.gtr (mostI BinOp.gtr 0 (waN b r p (rMade_c2 tn n co b r p v q t b1 r1 p1 v1 q1 t1 b2 r2 p2 v2 q2 t2) (fiQ b r p v q t n) (fiT t n) (IntKind.i64.wrap co))) (waN b1 r1 p1 (rMade_c3 tn n co b r p v q t b1 r1 p1 v1 q1 t1 b2 r2 p2 v2 q2 t2) (fiQ b1 r1 p1 v1 q1 t1 n) (fiT t1 n) (IntKind.i64.wrap co))) (waN b2 r2 p2 (rMade_c4 tn n co b r p v q t b1 r1 p1 v1 q1 t1 b2 r2 p2 v2 q2 t2) (fiQ b2 r2 p2 v2 q2 t2 n) (fiT t2 n) (IntKind.i64.wrap co))), i64 b, i64 r, i64 p, i64 (rMade_c2 tn n co b r p v q t b1 r1 p1 v1 q1 t1 b2 r2 p2 v2 q2 t2), i64 (fiQ b r p v q t n), u64 (fiT t n), i64 b1, i64 r1, i64 p1, i64 (rMade_c3 tn n co b r p v q t b1 r1 p1 v1 q1 t1 b2 r2 p2 v2 q2 t2), i64 (fiQ b1 r1 p1 v1 q1 t1 n), u64 (fiT t1 n), i64 b2, i64 r2, i64 p2, i64 (rMade_c4 tn n co b r p v q t b1 r1 p1 v1 q1 t1 b2 r2 p2 v2 q2 t2), i64 (fiQ b2 r2 p2 v2 q2 t2 n), u64 (fiT t2 n)], [bkE b2 r2 p2 (rMade_c4 tn n co b r p v q t b1 r1 p1 v1 q1 t1 b2 r2 p2 v2 q2 t2) (fiQ b2 r2 p2 v2 q2 t2 n) = 0, 0 ≤ fiT t2 n, fiT t2 n < 18446744073709551616, bkE b1 r1 p1 (rMade_c3 tn n co b r p v q t b1 r1 p1 v1 q1 t1 b2 r2 p2 v2 q2 t2) (fiQ b1 r1 p1 v1 q1 t1 n) = 0, 0 ≤ fiT t1 n, fiT t1 n < 18446744073709551616, bkE b r p (rMade_c2 tn n co b r p v q t b1 r1 p1 v1 q1 t1 b2 r2 p2 v2 q2 t2) (fiQ b r p v q t n) = 0, 0 ≤ fiT t n, fiT t n < 18446744073709551616, val3 b r p (rMade_c2 tn n co b r p v q t b1 r1 p1 v1 q1 t1 b2 r2 p2 v2 q2 t2) (fiQ b r p v q t n) (fiT t n) b1 r1 p1 (rMade_c3 tn n co b r p v q t b1 r1 p1 v1 q1 t1 b2 r2 p2 v2 q2 t2) (fiQ b1 r1 p1 v1 q1 t1 n) (fiT t1 n) b2 r2 p2 (rMade_c4 tn n co b r p v q t b1 r1 p1 v1 q1 t1 b2 r2 p2 v2 q2 t2) (fiQ b2 r2 p2 v2 q2 t2 n) (fiT t2 n), inC (IntKind.i64.wrap co), (rMade_c1 tn n co b r p v q t b1 r1 p1 v1 q1 t1 b2 r2 p2 v2 q2 t2) = true, val3 b r p v q t b1 r1 p1 v1 q1 t1 b2 r2 p2 v2 q2 t2, inNc n (IntKind.i64.wrap co), val3 b r p v q t b1 r1 p1 v1 q1 t1 b2 r2 p2 v2 q2 t2, inC (IntKind.i64.wrap co)]) := by kernel_rfl
theorem rMade_p1 (tn n co b r p v q t b1 r1 p1 v1 q1 t1 b2 r2 p2 v2 q2 t2 : Int) : fnX Try.prog X31 100000 [.c 0, .d false] 24 [u32 tn, D.agg (bk1 b r p v q t ++ bk1 b1 r1 p1 v1 q1 t1 ++ bk1 b2 r2 p2 v2 q2 t2), u64 n, u32 co] = some (D.agg [u32 tn, u64 n, u32 co, i64 b, i64 r, i64 p, i64 v, i64 q, u64 t, i64 b1, i64 r1, i64 p1, i64 v1, i64 q1, u64 t1, i64 b2, i64 r2, i64 p2, i64 v2, i64 q2, u64 t2, u8 2, u32 tn, u32 (IntKind.u32.wrap (rMade_c2 tn n co b r p v q t b1 r1 p1 v1 q1 t1 b2 r2 p2 v2 q2 t2)), u32 (IntKind.u32.wrap (rMade_c3 tn n co b r p v q t b1 r1 p1 v1 q1 t1 b2 r2 p2 v2 q2 t2)), u32 (IntKind.u32.wrap (rMade_c4 tn n co b r p v q t b1 r1 p1 v1 q1 t1 b2 r2 p2 v2 q2 t2)), u64 0, i64 b, i64 r, i64 p, i64 (rMade_c2 tn n co b r p v q t b1 r1 p1 v1 q1 t1 b2 r2 p2 v2 q2 t2), i64 (fiQ b r p v q t n), u64 (fiT t n), i64 b1, i64 r1, i64 p1, i64 (rMade_c3 tn n co b r p v q t b1 r1 p1 v1 q1 t1 b2 r2 p2 v2 q2 t2), i64 (fiQ b1 r1 p1 v1 q1 t1 n), u64 (fiT t1 n), i64 b2, i64 r2, i64 p2, i64 (rMade_c4 tn n co b r p v q t b1 r1 p1 v1 q1 t1 b2 r2 p2 v2 q2 t2), i64 (fiQ b2 r2 p2 v2 q2 t2 n), u64 (fiT t2 n)], [(rMade_c1 tn n co b r p v q t b1 r1 p1 v1 q1 t1 b2 r2 p2 v2 q2 t2) = false, val3 b r p v q t b1 r1 p1 v1 q1 t1 b2 r2 p2 v2 q2 t2, inNc n (IntKind.i64.wrap co), val3 b r p v q t b1 r1 p1 v1 q1 t1 b2 r2 p2 v2 q2 t2, inC (IntKind.i64.wrap co)]) := by kernel_rfl
theorem rMade_calls (tn n co b r p v q t b1 r1 p1 v1 q1 t1 b2 r2 p2 v2 q2 t2 : Int) (res : D)
  (h0 : ((rMade_c1 tn n co b r p v q t b1 r1 p1 v1 q1 t1 b2 r2 p2 v2 q2 t2) = true) → ((bkE b2 r2 p2 (rMade_c4 tn n co b r p v q t b1 r1 p1 v1 q1 t1 b2 r2 p2 v2 q2 t2) (fiQ b2 r2 p2 v2 q2 t2 n) = 0) ∧ (0 ≤ fiT t2 n) ∧ (fiT t2 n < 18446744073709551616) ∧ (bkE b1 r1 p1 (rMade_c3 tn n co b r p v q t b1 r1 p1 v1 q1 t1 b2 r2 p2 v2 q2 t2) (fiQ b1 r1 p1 v1 q1 t1 n) = 0) ∧ (0 ≤ fiT t1 n) ∧ (fiT t1 n < 18446744073709551616) ∧ (bkE b r p (rMade_c2 tn n co b r p v q t b1 r1 p1 v1 q1 t1 b2 r2 p2 v2 q2 t2) (fiQ b r p v q t n) = 0) ∧ (0 ≤ fiT t n) ∧ (fiT t n < 18446744073709551616) ∧ (val3 b r p (rMade_c2 tn n co b r p v q t b1 r1 p1 v1 q1 t1 b2 r2 p2 v2 q2 t2) (fiQ b r p v q t n) (fiT t n) b1 r1 p1 (rMade_c3 tn n co b r p v q t b1 r1 p1 v1 q1 t1 b2 r2 p2 v2 q2 t2) (fiQ b1 r1 p1 v1 q1 t1 n) (fiT t1 n) b2 r2 p2 (rMade_c4 tn n co b r p v q t b1 r1 p1 v1 q1 t1 b2 r2 p2 v2 q2 t2) (fiQ b2 r2 p2 v2 q2 t2 n) (fiT t2 n)) ∧ (inC (IntKind.i64.wrap co)) ∧ (val3 b r p v q t b1 r1 p1 v1 q1 t1 b2 r2 p2 v2 q2 t2) ∧ (inNc n (IntKind.i64.wrap co)) ∧ (val3 b r p v q t b1 r1 p1 v1 q1 t1 b2 r2 p2 v2 q2 t2) ∧ (inC (IntKind.i64.wrap co)) ∧ True) ∧ res = D.agg [u32 tn, u64 n, u32 co, i64 b, i64 r, i64 p, i64 v, i64 q, u64 t, i64 b1, i64 r1, i64 p1, i64 v1, i64 q1, u64 t1, i64 b2, i64 r2, i64 p2, i64 v2, i64 q2, u64 t2, u8 3, u32 tn, u32 (IntKind.u32.wrap (rMade_c2 tn n co b r p v q t b1 r1 p1 v1 q1 t1 b2 r2 p2 v2 q2 t2)), u32 (IntKind.u32.wrap (rMade_c3 tn n co b r p v q t b1 r1 p1 v1 q1 t1 b2 r2 p2 v2 q2 t2)), u32 (IntKind.u32.wrap (rMade_c4 tn n co b r p v q t b1 r1 p1 v1 q1 t1 b2 r2 p2 v2 q2 t2)), u64 (mostI BinOp.gtr (mostI BinOp.gtr (mostI BinOp.gtr 0 (waN b r p (rMade_c2 tn n co b r p v q t b1 r1 p1 v1 q1 t1 b2 r2 p2 v2 q2 t2) (fiQ b r p v q t n) (fiT t n) (IntKind.i64.wrap co))) (waN b1 r1 p1 (rMade_c3 tn n co b r p v q t b1 r1 p1 v1 q1 t1 b2 r2 p2 v2 q2 t2) (fiQ b1 r1 p1 v1 q1 t1 n) (fiT t1 n) (IntKind.i64.wrap co))) (waN b2 r2 p2 (rMade_c4 tn n co b r p v q t b1 r1 p1 v1 q1 t1 b2 r2 p2 v2 q2 t2) (fiQ b2 r2 p2 v2 q2 t2 n) (fiT t2 n) (IntKind.i64.wrap co))), i64 b, i64 r, i64 p, i64 (rMade_c2 tn n co b r p v q t b1 r1 p1 v1 q1 t1 b2 r2 p2 v2 q2 t2), i64 (fiQ b r p v q t n), u64 (fiT t n), i64 b1, i64 r1, i64 p1, i64 (rMade_c3 tn n co b r p v q t b1 r1 p1 v1 q1 t1 b2 r2 p2 v2 q2 t2), i64 (fiQ b1 r1 p1 v1 q1 t1 n), u64 (fiT t1 n), i64 b2, i64 r2, i64 p2, i64 (rMade_c4 tn n co b r p v q t b1 r1 p1 v1 q1 t1 b2 r2 p2 v2 q2 t2), i64 (fiQ b2 r2 p2 v2 q2 t2 n), u64 (fiT t2 n)])
  (h1 : ((rMade_c1 tn n co b r p v q t b1 r1 p1 v1 q1 t1 b2 r2 p2 v2 q2 t2) = false) → ((val3 b r p v q t b1 r1 p1 v1 q1 t1 b2 r2 p2 v2 q2 t2) ∧ (inNc n (IntKind.i64.wrap co)) ∧ (val3 b r p v q t b1 r1 p1 v1 q1 t1 b2 r2 p2 v2 q2 t2) ∧ (inC (IntKind.i64.wrap co)) ∧ True) ∧ res = D.agg [u32 tn, u64 n, u32 co, i64 b, i64 r, i64 p, i64 v, i64 q, u64 t, i64 b1, i64 r1, i64 p1, i64 v1, i64 q1, u64 t1, i64 b2, i64 r2, i64 p2, i64 v2, i64 q2, u64 t2, u8 2, u32 tn, u32 (IntKind.u32.wrap (rMade_c2 tn n co b r p v q t b1 r1 p1 v1 q1 t1 b2 r2 p2 v2 q2 t2)), u32 (IntKind.u32.wrap (rMade_c3 tn n co b r p v q t b1 r1 p1 v1 q1 t1 b2 r2 p2 v2 q2 t2)), u32 (IntKind.u32.wrap (rMade_c4 tn n co b r p v q t b1 r1 p1 v1 q1 t1 b2 r2 p2 v2 q2 t2)), u64 0, i64 b, i64 r, i64 p, i64 (rMade_c2 tn n co b r p v q t b1 r1 p1 v1 q1 t1 b2 r2 p2 v2 q2 t2), i64 (fiQ b r p v q t n), u64 (fiT t n), i64 b1, i64 r1, i64 p1, i64 (rMade_c3 tn n co b r p v q t b1 r1 p1 v1 q1 t1 b2 r2 p2 v2 q2 t2), i64 (fiQ b1 r1 p1 v1 q1 t1 n), u64 (fiT t1 n), i64 b2, i64 r2, i64 p2, i64 (rMade_c4 tn n co b r p v q t b1 r1 p1 v1 q1 t1 b2 r2 p2 v2 q2 t2), i64 (fiQ b2 r2 p2 v2 q2 t2 n), u64 (fiT t2 n)]) : CallsD Try.prog 24 [u32 tn, D.agg (bk1 b r p v q t ++ bk1 b1 r1 p1 v1 q1 t1 ++ bk1 b2 r2 p2 v2 q2 t2), u64 n, u32 co] res := by
  cases e0 : (rMade_c1 tn n co b r p v q t b1 r1 p1 v1 q1 t1 b2 r2 p2 v2 q2 t2) with
  | true =>
    exact of_path hX31 (rMade_p0 tn n co b r p v q t b1 r1 p1 v1 q1 t1 b2 r2 p2 v2 q2 t2) ⟨(h0 e0).1.1, (h0 e0).1.2.1, (h0 e0).1.2.2.1, (h0 e0).1.2.2.2.1, (h0 e0).1.2.2.2.2.1, (h0 e0).1.2.2.2.2.2.1, (h0 e0).1.2.2.2.2.2.2.1, (h0 e0).1.2.2.2.2.2.2.2.1, (h0 e0).1.2.2.2.2.2.2.2.2.1, (h0 e0).1.2.2.2.2.2.2.2.2.2.1, (h0 e0).1.2.2.2.2.2.2.2.2.2.2.1, e0, (h0 e0).1.2.2.2.2.2.2.2.2.2.2.2.1, (h0 e0).1.2.2.2.2.2.2.2.2.2.2.2.2.1, (h0 e0).1.2.2.2.2.2.2.2.2.2.2.2.2.2.1, (h0 e0).1.2.2.2.2.2.2.2.2.2.2.2.2.2.2.1, trivial⟩ (h0 e0).2
  | false =>
    exact of_path hX31 (rMade_p1 tn n co b r p v q t b1 r1 p1 v1 q1 t1 b2 r2 p2 v2 q2 t2) ⟨e0, (h1 e0).1.1, (h1 e0).1.2.1, (h1 e0).1.2.2.1, (h1 e0).1.2.2.2.1, trivial⟩ (h1 e0).2
theorem rMade_ok (tn b r p v q t b1 r1 p1 v1 q1 t1 b2 r2 p2 v2 q2 t2 n co : Int) (hv : val3 b r p v q t b1 r1 p1 v1 q1 t1 b2 r2 p2 v2 q2 t2) (hn : inNC n co) : CallsD Try.prog 24 [u32 tn, .agg [i64 b, i64 r, i64 p, i64 v, i64 q, u64 t, i64 b1, i64 r1, i64 p1, i64 v1, i64 q1, u64 t1, i64 b2, i64 r2, i64 p2, i64 v2, i64 q2, u64 t2], u64 n, u32 co] (.agg [u32 tn, u64 n, u32 co, i64 b, i64 r, i64 p, i64 v, i64 q, u64 t, i64 b1, i64 r1, i64 p1, i64 v1, i64 q1, u64 t1, i64 b2, i64 r2, i64 p2, i64 v2, i64 q2, u64 t2, u8 (mdC (tk3 co (fiV b r p v q t n) (fiV b1 r1 p1 v1 q1 t1 n) (fiV b2 r2 p2 v2 q2 t2 n))), u32 tn, u32 (lv (tk3 co (fiV b r p v q t n) (fiV b1 r1 p1 v1 q1 t1 n) (fiV b2 r2 p2 v2 q2 t2 n)) (fiV b r p v q t n) co), u32 (lv (tk3 co (fiV b r p v q t n) (fiV b1 r1 p1 v1 q1 t1 n) (fiV b2 r2 p2 v2 q2 t2 n)) (fiV b1 r1 p1 v1 q1 t1 n) co), u32 (lv (tk3 co (fiV b r p v q t n) (fiV b1 r1 p1 v1 q1 t1 n) (fiV b2 r2 p2 v2 q2 t2 n)) (fiV b2 r2 p2 v2 q2 t2 n) co), u64 (mdW (tk3 co (fiV b r p v q t n) (fiV b1 r1 p1 v1 q1 t1 n) (fiV b2 r2 p2 v2 q2 t2 n)) (mx3 (waN b r p (lv (tk3 co (fiV b r p v q t n) (fiV b1 r1 p1 v1 q1 t1 n) (fiV b2 r2 p2 v2 q2 t2 n)) (fiV b r p v q t n) co) (fiQ b r p v q t n) (fiT t n) co) (waN b1 r1 p1 (lv (tk3 co (fiV b r p v q t n) (fiV b1 r1 p1 v1 q1 t1 n) (fiV b2 r2 p2 v2 q2 t2 n)) (fiV b1 r1 p1 v1 q1 t1 n) co) (fiQ b1 r1 p1 v1 q1 t1 n) (fiT t1 n) co) (waN b2 r2 p2 (lv (tk3 co (fiV b r p v q t n) (fiV b1 r1 p1 v1 q1 t1 n) (fiV b2 r2 p2 v2 q2 t2 n)) (fiV b2 r2 p2 v2 q2 t2 n) co) (fiQ b2 r2 p2 v2 q2 t2 n) (fiT t2 n) co))), i64 b, i64 r, i64 p, i64 (lv (tk3 co (fiV b r p v q t n) (fiV b1 r1 p1 v1 q1 t1 n) (fiV b2 r2 p2 v2 q2 t2 n)) (fiV b r p v q t n) co), i64 (fiQ b r p v q t n), u64 (fiT t n), i64 b1, i64 r1, i64 p1, i64 (lv (tk3 co (fiV b r p v q t n) (fiV b1 r1 p1 v1 q1 t1 n) (fiV b2 r2 p2 v2 q2 t2 n)) (fiV b1 r1 p1 v1 q1 t1 n) co), i64 (fiQ b1 r1 p1 v1 q1 t1 n), u64 (fiT t1 n), i64 b2, i64 r2, i64 p2, i64 (lv (tk3 co (fiV b r p v q t n) (fiV b1 r1 p1 v1 q1 t1 n) (fiV b2 r2 p2 v2 q2 t2 n)) (fiV b2 r2 p2 v2 q2 t2 n) co), i64 (fiQ b2 r2 p2 v2 q2 t2 n), u64 (fiT t2 n)]) := by
  obtain ⟨⟨h, h', h''⟩, t0, u0, t01, u01, t02, u02⟩ := id hv
  obtain ⟨n0, n1, c0, c1⟩ := hn
  have wc : IntKind.i64.wrap co = co := wrap_i64_of (by omega) (by omega)
  have a0 := fi_in h t0 n0
  have a1 := fi_in h' t01 n0
  have a2 := fi_in h'' t02 n0
  have f0 := fi_ok h t0 n0
  have f1 := fi_ok h' t01 n0
  have f2 := fi_ok h'' t02 n0
  have i0 := fiT_in t0 u0 n0 n1
  have i1 := fiT_in t01 u01 n0 n1
  have i2 := fiT_in t02 u02 n0 n1
  have hc : inC co := ⟨c0, by omega⟩
  have hN : inNc n co := ⟨n0, n1, c0, by omega⟩
  refine rMade_calls tn n co b r p v q t b1 r1 p1 v1 q1 t1 b2 r2 p2 v2 q2 t2 _ ?_ ?_
  all_goals
    simp only [rMade_c0, rMade_c1, rMade_c2, rMade_c3, rMade_c4, wc, most_max]
    generalize fiV b r p v q t n = x at *
    generalize fiV b1 r1 p1 v1 q1 t1 n = y at *
    generalize fiV b2 r2 p2 v2 q2 t2 n = z at *
    intro hk
  · have k : tk3 co x y z = false := by cases e : tk3 co x y z <;> simp [e] at hk ⊢
    rw [k]
    have l0 : lv false x co = x := rfl
    have l1 : lv false y co = y := rfl
    have l2 : lv false z co = z := rfl
    rw [l0, l1, l2, u32_of (n := x) (by omega) (by omega), u32_of (n := y) (by omega) (by omega), u32_of (n := z) (by omega) (by omega)]
    exact ⟨⟨f2, i2.1, i2.2, f1, i1.1, i1.2, f0, i0.1, i0.2, ⟨⟨f0, f1, f2⟩, i0.1, i0.2, i1.1, i1.2, i2.1, i2.2⟩, hc, hv, hN, hv, hc, trivial⟩, rfl⟩
  · have k : tk3 co x y z = true := by cases e : tk3 co x y z <;> simp [e] at hk ⊢
    have k' := tk3_iff.1 k
    rw [k]
    have l0 : lv true x co = x - co := rfl
    have l1 : lv true y co = y - co := rfl
    have l2 : lv true z co = z - co := rfl
    rw [l0, l1, l2, u32_of (n := x - co) (by omega) (by omega), u32_of (n := y - co) (by omega) (by omega), u32_of (n := z - co) (by omega) (by omega)]
    exact ⟨⟨hv, hN, hv, hc, trivial⟩, rfl⟩
theorem mdCo_okB (args res l) (h : mdCo args = some (res, l)) (hl : AllP l) : CallsD Try.prog 24 args res := by
  unfold mdCo at h; split at h
  · simp only [Option.some.injEq, Prod.mk.injEq] at h
    obtain ⟨rfl, rfl⟩ := h; obtain ⟨h0, h1, _⟩ := hl
    exact rMade_ok _ _ _ _ _ _ _ _ _ _ _ _ _ _ _ _ _ _ _ _ _ h0 h1
  · cases h
def X32 : Contracts := addCon 24 (.call mdCo) X31
theorem hX32 : ConOK Try.prog X32 := addCall_ok mdCo_okB hX31
end MeterS

namespace MeterS
open Go Go.Dam Go.Proofs
set_option maxRecDepth 1000000
set_option linter.unusedVariables false
set_option linter.unusedSectionVars false
set_option linter.unusedSimpArgs false
/-- The error of a proof; and whether it is right. -/
def prE (tn n co b r p v q t b1 r1 p1 v1 q1 t1 b2 r2 p2 v2 q2 t2 cd rt x y z w b3 r3 p3 v3 q3 t3 b4 r4 p4 v4 q4 t4 b5 r5 p5 v5 q5 t5 : Int) : Int := chE tn (rwB (bkE b r p v q) (bkE b1 r1 p1 v1 q1) (bkE b2 r2 p2 v2 q2)) (rwB (bkE b3 r3 p3 v3 q3) (bkE b4 r4 p4 v4 q4) (bkE b5 r5 p5 v5 q5)) (rpE cd rt x y z w) cd
def prA (tn n co b r p v q t b1 r1 p1 v1 q1 t1 b2 r2 p2 v2 q2 t2 cd rt x y z w b3 r3 p3 v3 q3 t3 b4 r4 p4 v4 q4 t4 b5 r5 p5 v5 q5 t5 : Int) : Bool := if prE tn n co b r p v q t b1 r1 p1 v1 q1 t1 b2 r2 p2 v2 q2 t2 cd rt x y z w b3 r3 p3 v3 q3 t3 b4 r4 p4 v4 q4 t4 b5 r5 p5 v5 q5 t5 = 0 then decide ([cd, rt, x, y, z, w, b3, r3, p3, v3, q3, t3, b4, r4, p4, v4, q4, t4, b5, r5, p5, v5, q5, t5] = mdF tn n co b r p v q t b1 r1 p1 v1 q1 t1 b2 r2 p2 v2 q2 t2) else false
def inP (n co v v1 v2 t t1 t2 cd w v3 v4 v5 : Int) : Prop := inV v v1 v2 ∧ inV v3 v4 v5 ∧ inNC n co ∧ inT t t1 t2 ∧ 0 ≤ cd ∧ 0 ≤ w
variable [Glo]
noncomputable def accN_c0 (tn n co b r p v q t b1 r1 p1 v1 q1 t1 b2 r2 p2 v2 q2 t2 cd rt x y z w b3 r3 p3 v3 q3 t3 b4 r4 p4 v4 q4 t4 b5 r5 p5 v5 q5 t5 : Int) := chE tn (rwB (bkE b r p v q) (bkE b1 r1 p1 v1 q1) (bkE b2 r2 p2 v2 q2)) (rwB (bkE b3 r3 p3 v3 q3) (bkE b4 r4 p4 v4 q4) (bkE b5 r5 p5 v5 q5)) (rpE cd rt x y z w) cd
theorem accN_p0 (tn n co b r p v q t b1 r1 p1 v1 q1 t1 b2 r2 p2 v2 q2 t2 cd rt x y z w b3 r3 p3 v3 q3 t3 b4 r4 p4 v4 q4 t4 b5 r5 p5 v5 q5 t5 : Int) : fnX Try.prog X26 100000 [.d true] 8 [D.agg ([u32 tn, u64 n, u32 co] ++ bk1 b r p v q t ++ bk1 b1 r1 p1 v1 q1 t1 ++ bk1 b2 r2 p2 v2 q2 t2 ++ [u8 cd, u32 rt, u32 x, u32 y, u32 z, u64 w] ++ bk1 b3 r3 p3 v3 q3 t3 ++ bk1 b4 r4 p4 v4 q4 t4 ++ bk1 b5 r5 p5 v5 q5 t5)] = some (D.tup [bo false, i64 (accN_c0 tn n co b r p v q t b1 r1 p1 v1 q1 t1 b2 r2 p2 v2 q2 t2 cd rt x y z w b3 r3 p3 v3 q3 t3 b4 r4 p4 v4 q4 t4 b5 r5 p5 v5 q5 t5)], [cmpI BinOp.neq (accN_c0 tn n co b r p v q t b1 r1 p1 v1 q1 t1 b2 r2 p2 v2 q2 t2 cd rt x y z w b3 r3 p3 v3 q3 t3 b4 r4 p4 v4 q4 t4 b5 r5 p5 v5 q5 t5) 0 = true, inV v v1 v2, inV v3 v4 v5, 0 ≤ cd, 0 ≤ w]) := by kernel_rfl
theorem accN_calls (tn n co b r p v q t b1 r1 p1 v1 q1 t1 b2 r2 p2 v2 q2 t2 cd rt x y z w b3 r3 p3 v3 q3 t3 b4 r4 p4 v4 q4 t4 b5 r5 p5 v5 q5 t5 : Int) (res : D)
  (e0 : (cmpI BinOp.neq (accN_c0 tn n co b r p v q t b1 r1 p1 v1 q1 t1 b2 r2 p2 v2 q2 t2 cd rt x y z w b3 r3 p3 v3 q3 t3 b4 r4 p4 v4 q4 t4 b5 r5 p5 v5 q5 t5) 0) = true)
  (h0 : ((inV v v1 v2) ∧ (inV v3 v4 v5) ∧ (0 ≤ cd) ∧ (0 ≤ w) ∧ True) ∧ res = D.tup [bo false, i64 (accN_c0 tn n co b r p v q t b1 r1 p1 v1 q1 t1 b2 r2 p2 v2 q2 t2 cd rt x y z w b3 r3 p3 v3 q3 t3 b4 r4 p4 v4 q4 t4 b5 r5 p5 v5 q5 t5)]) : CallsD Try.prog 8 [D.agg ([u32 tn, u64 n, u32 co] ++ bk1 b r p v q t ++ bk1 b1 r1 p1 v1 q1 t1 ++ bk1 b2 r2 p2 v2 q2 t2 ++ [u8 cd, u32 rt, u32 x, u32 y, u32 z, u64 w] ++ bk1 b3 r3 p3 v3 q3 t3 ++ bk1 b4 r4 p4 v4 q4 t4 ++ bk1 b5 r5 p5 v5 q5 t5)] res := by
  exact of_path hX26 (accN_p0 tn n co b r p v q t b1 r1 p1 v1 q1 t1 b2 r2 p2 v2 q2 t2 cd rt x y z w b3 r3 p3 v3 q3 t3 b4 r4 p4 v4 q4 t4 b5 r5 p5 v5 q5 t5) ⟨e0, (h0).1.1, (h0).1.2.1, (h0).1.2.2.1, (h0).1.2.2.2.1, trivial⟩ (h0).2
noncomputable def racc_c0 (tn n co b r p v q t b1 r1 p1 v1 q1 t1 b2 r2 p2 v2 q2 t2 cd rt x y z w b3 r3 p3 v3 q3 t3 b4 r4 p4 v4 q4 t4 b5 r5 p5 v5 q5 t5 : Int) := chE tn (rwB (bkE b r p v q) (bkE b1 r1 p1 v1 q1) (bkE b2 r2 p2 v2 q2)) (rwB (bkE b3 r3 p3 v3 q3) (bkE b4 r4 p4 v4 q4) (bkE b5 r5 p5 v5 q5)) (rpE cd rt x y z w) cd
noncomputable def racc_c1 (tn n co b r p v q t b1 r1 p1 v1 q1 t1 b2 r2 p2 v2 q2 t2 cd rt x y z w b3 r3 p3 v3 q3 t3 b4 r4 p4 v4 q4 t4 b5 r5 p5 v5 q5 t5 : Int) := [u32 tn, u64 n, u32 co] ++ bk1 b r p v q t ++ bk1 b1 r1 p1 v1 q1 t1 ++ bk1 b2 r2 p2 v2 q2 t2 ++ [u8 cd, u32 rt, u32 x, u32 y, u32 z, u64 w] ++ bk1 b3 r3 p3 v3 q3 t3 ++ bk1 b4 r4 p4 v4 q4 t4 ++ bk1 b5 r5 p5 v5 q5 t5
theorem racc_p0 (tn n co b r p v q t b1 r1 p1 v1 q1 t1 b2 r2 p2 v2 q2 t2 cd rt x y z w b3 r3 p3 v3 q3 t3 b4 r4 p4 v4 q4 t4 b5 r5 p5 v5 q5 t5 : Int) : fnX Try.prog X32 100000 [.d true] 12 [D.agg (racc_c1 tn n co b r p v q t b1 r1 p1 v1 q1 t1 b2 r2 p2 v2 q2 t2 cd rt x y z w b3 r3 p3 v3 q3 t3 b4 r4 p4 v4 q4 t4 b5 r5 p5 v5 q5 t5)] = some (D.tup [bo false, i64 (racc_c0 tn n co b r p v q t b1 r1 p1 v1 q1 t1 b2 r2 p2 v2 q2 t2 cd rt x y z w b3 r3 p3 v3 q3 t3 b4 r4 p4 v4 q4 t4 b5 r5 p5 v5 q5 t5)], [inV v v1 v2, inV v3 v4 v5, 0 ≤ cd, 0 ≤ w, cmpI BinOp.neq (racc_c0 tn n co b r p v q t b1 r1 p1 v1 q1 t1 b2 r2 p2 v2 q2 t2 cd rt x y z w b3 r3 p3 v3 q3 t3 b4 r4 p4 v4 q4 t4 b5 r5 p5 v5 q5 t5) 0 = true, inV v v1 v2, inV v3 v4 v5, 0 ≤ cd, 0 ≤ w]) := by kernel_rfl
theorem racc_p1 (tn n co b r p v q t b1 r1 p1 v1 q1 t1 b2 r2 p2 v2 q2 t2 cd rt x y z w b3 r3 p3 v3 q3 t3 b4 r4 p4 v4 q4 t4 b5 r5 p5 v5 q5 t5 : Int) : fnX Try.prog X32 100000 [.d false] 12 [D.agg (racc_c1 tn n co b r p v q t b1 r1 p1 v1 q1 t1 b2 r2 p2 v2 q2 t2 cd rt x y z w b3 r3 p3 v3 q3 t3 b4 r4 p4 v4 q4 t4 b5 r5 p5 v5 q5 t5)] = some (D.tup [D.v (Value.bool (tn == tn && (n == n && (co == co && (b == b && (r == r && (p == p && true)) && (v == v && (q == q && (t == t && true))) && (b1 == b1 && (r1 == r1 && (p1 == p1 && true)) && (v1 == v1 && (q1 == q1 && (t1 == t1 && true))) && (b2 == b2 && (r2 == r2 && (p2 == p2 && true)) && (v2 == v2 && (q2 == q2 && (t2 == t2 && true))) && true)) && (cd == mdC (tk3 co (fiV b r p v q t n) (fiV b1 r1 p1 v1 q1 t1 n) (fiV b2 r2 p2 v2 q2 t2 n)) && (rt == tn && (x == lv (tk3 co (fiV b r p v q t n) (fiV b1 r1 p1 v1 q1 t1 n) (fiV b2 r2 p2 v2 q2 t2 n)) (fiV b r p v q t n) co && (y == lv (tk3 co (fiV b r p v q t n) (fiV b1 r1 p1 v1 q1 t1 n) (fiV b2 r2 p2 v2 q2 t2 n)) (fiV b1 r1 p1 v1 q1 t1 n) co && (z == lv (tk3 co (fiV b r p v q t n) (fiV b1 r1 p1 v1 q1 t1 n) (fiV b2 r2 p2 v2 q2 t2 n)) (fiV b2 r2 p2 v2 q2 t2 n) co && true)) && (w == mdW (tk3 co (fiV b r p v q t n) (fiV b1 r1 p1 v1 q1 t1 n) (fiV b2 r2 p2 v2 q2 t2 n)) (mx3 (waN b r p (lv (tk3 co (fiV b r p v q t n) (fiV b1 r1 p1 v1 q1 t1 n) (fiV b2 r2 p2 v2 q2 t2 n)) (fiV b r p v q t n) co) (fiQ b r p v q t n) (fiT t n) co) (waN b1 r1 p1 (lv (tk3 co (fiV b r p v q t n) (fiV b1 r1 p1 v1 q1 t1 n) (fiV b2 r2 p2 v2 q2 t2 n)) (fiV b1 r1 p1 v1 q1 t1 n) co) (fiQ b1 r1 p1 v1 q1 t1 n) (fiT t1 n) co) (waN b2 r2 p2 (lv (tk3 co (fiV b r p v q t n) (fiV b1 r1 p1 v1 q1 t1 n) (fiV b2 r2 p2 v2 q2 t2 n)) (fiV b2 r2 p2 v2 q2 t2 n) co) (fiQ b2 r2 p2 v2 q2 t2 n) (fiT t2 n) co)) && true))) && (b3 == b && (r3 == r && (p3 == p && true)) && (v3 == lv (tk3 co (fiV b r p v q t n) (fiV b1 r1 p1 v1 q1 t1 n) (fiV b2 r2 p2 v2 q2 t2 n)) (fiV b r p v q t n) co && (q3 == fiQ b r p v q t n && (t3 == fiT t n && true))) && (b4 == b1 && (r4 == r1 && (p4 == p1 && true)) && (v4 == lv (tk3 co (fiV b r p v q t n) (fiV b1 r1 p1 v1 q1 t1 n) (fiV b2 r2 p2 v2 q2 t2 n)) (fiV b1 r1 p1 v1 q1 t1 n) co && (q4 == fiQ b1 r1 p1 v1 q1 t1 n && (t4 == fiT t1 n && true))) && (b5 == b2 && (r5 == r2 && (p5 == p2 && true)) && (v5 == lv (tk3 co (fiV b r p v q t n) (fiV b1 r1 p1 v1 q1 t1 n) (fiV b2 r2 p2 v2 q2 t2 n)) (fiV b2 r2 p2 v2 q2 t2 n) co && (q5 == fiQ b2 r2 p2 v2 q2 t2 n && (t5 == fiT t2 n && true))) && true)) && true))))))), i64 0], [val3 b r p v q t b1 r1 p1 v1 q1 t1 b2 r2 p2 v2 q2 t2, inNC n co, cmpI BinOp.neq (racc_c0 tn n co b r p v q t b1 r1 p1 v1 q1 t1 b2 r2 p2 v2 q2 t2 cd rt x y z w b3 r3 p3 v3 q3 t3 b4 r4 p4 v4 q4 t4 b5 r5 p5 v5 q5 t5) 0 = false, inV v v1 v2, inV v3 v4 v5, 0 ≤ cd, 0 ≤ w]) := by kernel_rfl
theorem racc_calls (tn n co b r p v q t b1 r1 p1 v1 q1 t1 b2 r2 p2 v2 q2 t2 cd rt x y z w b3 r3 p3 v3 q3 t3 b4 r4 p4 v4 q4 t4 b5 r5 p5 v5 q5 t5 : Int) (res : D)
  (h0 : ((cmpI BinOp.neq (racc_c0 tn n co b r p v q t b1 r1 p1 v1 q1 t1 b2 r2 p2 v2 q2 t2 cd rt x y z w b3 r3 p3 v3 q3 t3 b4 r4 p4 v4 q4 t4 b5 r5 p5 v5 q5 t5) 0) = true) → ((inV v v1 v2) ∧ (inV v3 v4 v5) ∧ (0 ≤ cd) ∧ (0 ≤ w) ∧ (inV v v1 v2) ∧ (inV v3 v4 v5) ∧ (0 ≤ cd) ∧ (0 ≤ w) ∧ True) ∧ res = D.tup [bo false, i64 (racc_c0 tn n co b r p v q t b1 r1 p1 v1 q1 t1 b2 r2 p2 v2 q2 t2 cd rt x y z w b3 r3 p3 v3 q3 t3 b4 r4 p4 v4 q4 t4 b5 r5 p5 v5 q5 t5)])
  (h1 : ((cmpI BinOp.neq (racc_c0 tn n co b r p v q t b1 r1 p1 v1 q1 t1 b2 r2 p2 v2 q2 t2 cd rt x y z w b3 r3 p3 v3 q3 t3 b4 r4 p4 v4 q4 t4 b5 r5 p5 v5 q5 t5) 0) = false) → ((val3 b r p v q t b1 r1 p1 v1 q1 t1 b2 r2 p2 v2 q2 t2) ∧ (inNC n co) ∧ (inV v v1 v2) ∧ (inV v3 v4 v5) ∧ (0 ≤ cd) ∧ (0 ≤ w) ∧ True) ∧ res = D.tup [D.v (Value.bool (tn == tn && (n == n && (co == co && (b == b && (r == r && (p == p && true)) && (v == v && (q == q && (t == t && true))) && (b1 == b1 && (r1 == r1 && (p1 == p1 && true)) && (v1 == v1 && (q1 == q1 && (t1 == t1 && true))) && (b2 == b2 && (r2 == r2 && (p2 == p2 && true)) && (v2 == v2 && (q2 == q2 && (t2 == t2 && true))) && true)) && (cd == mdC (tk3 co (fiV b r p v q t n) (fiV b1 r1 p1 v1 q1 t1 n) (fiV b2 r2 p2 v2 q2 t2 n)) && (rt == tn && (x == lv (tk3 co (fiV b r p v q t n) (fiV b1 r1 p1 v1 q1 t1 n) (fiV b2 r2 p2 v2 q2 t2 n)) (fiV b r p v q t n) co && (y == lv (tk3 co (fiV b r p v q t n) (fiV b1 r1 p1 v1 q1 t1 n) (fiV b2 r2 p2 v2 q2 t2 n)) (fiV b1 r1 p1 v1 q1 t1 n) co && (z == lv (tk3 co (fiV b r p v q t n) (fiV b1 r1 p1 v1 q1 t1 n) (fiV b2 r2 p2 v2 q2 t2 n)) (fiV b2 r2 p2 v2 q2 t2 n) co && true)) && (w == mdW (tk3 co (fiV b r p v q t n) (fiV b1 r1 p1 v1 q1 t1 n) (fiV b2 r2 p2 v2 q2 t2 n)) (mx3 (waN b r p (lv (tk3 co (fiV b r p v q t n) (fiV b1 r1 p1 v1 q1 t1 n) (fiV b2 r2 p2 v2 q2 t2 n)) (fiV b r p v q t n) co) (fiQ b r p v q t n) (fiT t n) co) (waN b1 r1 p1 (lv (tk3 co (fiV b r p v q t n) (fiV b1 r1 p1 v1 q1 t1 n) (fiV b2 r2 p2 v2 q2 t2 n)) (fiV b1 r1 p1 v1 q1 t1 n) co) (fiQ b1 r1 p1 v1 q1 t1 n) (fiT t1 n) co) (waN b2 r2 p2 (lv (tk3 co (fiV b r p v q t n) (fiV b1 r1 p1 v1 q1 t1 n) (fiV b2 r2 p2 v2 q2 t2 n)) (fiV b2 r2 p2 v2 q2 t2 n) co) (fiQ b2 r2 p2 v2 q2 t2 n) (fiT t2 n) co)) && true))) && (b3 == b && (r3 == r && (p3 == p && true)) && (v3 == lv (tk3 co (fiV b r p v q t n) (fiV b1 r1 p1 v1 q1 t1 n) (fiV b2 r2 p2 v2 q2 t2 n)) (fiV b r p v q t n) co && (q3 == fiQ b r p v q t n && (t3 == fiT t n && true))) && (b4 == b1 && (r4 == r1 && (p4 == p1 && true)) && (v4 == lv (tk3 co (fiV b r p v q t n) (fiV b1 r1 p1 v1 q1 t1 n) (fiV b2 r2 p2 v2 q2 t2 n)) (fiV b1 r1 p1 v1 q1 t1 n) co && (q4 == fiQ b1 r1 p1 v1 q1 t1 n && (t4 == fiT t1 n && true))) && (b5 == b2 && (r5 == r2 && (p5 == p2 && true)) && (v5 == lv (tk3 co (fiV b r p v q t n) (fiV b1 r1 p1 v1 q1 t1 n) (fiV b2 r2 p2 v2 q2 t2 n)) (fiV b2 r2 p2 v2 q2 t2 n) co && (q5 == fiQ b2 r2 p2 v2 q2 t2 n && (t5 == fiT t2 n && true))) && true)) && true))))))), i64 0]) : CallsD Try.prog 12 [D.agg (racc_c1 tn n co b r p v q t b1 r1 p1 v1 q1 t1 b2 r2 p2 v2 q2 t2 cd rt x y z w b3 r3 p3 v3 q3 t3 b4 r4 p4 v4 q4 t4 b5 r5 p5 v5 q5 t5)] res := by
  cases e0 : (cmpI BinOp.neq (racc_c0 tn n co b r p v q t b1 r1 p1 v1 q1 t1 b2 r2 p2 v2 q2 t2 cd rt x y z w b3 r3 p3 v3 q3 t3 b4 r4 p4 v4 q4 t4 b5 r5 p5 v5 q5 t5) 0) with
  | true =>
    exact of_path hX32 (racc_p0 tn n co b r p v q t b1 r1 p1 v1 q1 t1 b2 r2 p2 v2 q2 t2 cd rt x y z w b3 r3 p3 v3 q3 t3 b4 r4 p4 v4 q4 t4 b5 r5 p5 v5 q5 t5) ⟨(h0 e0).1.1, (h0 e0).1.2.1, (h0 e0).1.2.2.1, (h0 e0).1.2.2.2.1, e0, (h0 e0).1.2.2.2.2.1, (h0 e0).1.2.2.2.2.2.1, (h0 e0).1.2.2.2.2.2.2.1, (h0 e0).1.2.2.2.2.2.2.2.1, trivial⟩ (h0 e0).2
  | false =>
    exact of_path hX32 (racc_p1 tn n co b r p v q t b1 r1 p1 v1 q1 t1 b2 r2 p2 v2 q2 t2 cd rt x y z w b3 r3 p3 v3 q3 t3 b4 r4 p4 v4 q4 t4 b5 r5 p5 v5 q5 t5) ⟨(h1 e0).1.1, (h1 e0).1.2.1, e0, (h1 e0).1.2.2.1, (h1 e0).1.2.2.2.1, (h1 e0).1.2.2.2.2.1, (h1 e0).1.2.2.2.2.2.1, trivial⟩ (h1 e0).2
theorem prEA_ok (tn n co b r p v q t b1 r1 p1 v1 q1 t1 b2 r2 p2 v2 q2 t2 cd rt x y z w b3 r3 p3 v3 q3 t3 b4 r4 p4 v4 q4 t4 b5 r5 p5 v5 q5 t5 : Int) (h : inP n co v v1 v2 t t1 t2 cd w v3 v4 v5) : CallsD Try.prog 13 [.agg [u32 tn, u64 n, u32 co, i64 b, i64 r, i64 p, i64 v, i64 q, u64 t, i64 b1, i64 r1, i64 p1, i64 v1, i64 q1, u64 t1, i64 b2, i64 r2, i64 p2, i64 v2, i64 q2, u64 t2, u8 cd, u32 rt, u32 x, u32 y, u32 z, u64 w, i64 b3, i64 r3, i64 p3, i64 v3, i64 q3, u64 t3, i64 b4, i64 r4, i64 p4, i64 v4, i64 q4, u64 t4, i64 b5, i64 r5, i64 p5, i64 v5, i64 q5, u64 t5]] (i64 (prE tn n co b r p v q t b1 r1 p1 v1 q1 t1 b2 r2 p2 v2 q2 t2 cd rt x y z w b3 r3 p3 v3 q3 t3 b4 r4 p4 v4 q4 t4 b5 r5 p5 v5 q5 t5)) := by
  obtain ⟨h1, h2, h3, h4, h5, h6⟩ := h
  exact chA_ok tn n co b r p v q t b1 r1 p1 v1 q1 t1 b2 r2 p2 v2 q2 t2 cd rt x y z w b3 r3 p3 v3 q3 t3 b4 r4 p4 v4 q4 t4 b5 r5 p5 v5 q5 t5 h1 h2 h5 h6
theorem prEB_ok (tn n co b r p v q t b1 r1 p1 v1 q1 t1 b2 r2 p2 v2 q2 t2 cd rt x y z w b3 r3 p3 v3 q3 t3 b4 r4 p4 v4 q4 t4 b5 r5 p5 v5 q5 t5 : Int) (h : inP n co v v1 v2 t t1 t2 cd w v3 v4 v5) : CallsD Try.prog 6 [.agg [u32 tn, u64 n, u32 co, i64 b, i64 r, i64 p, i64 v, i64 q, u64 t, i64 b1, i64 r1, i64 p1, i64 v1, i64 q1, u64 t1, i64 b2, i64 r2, i64 p2, i64 v2, i64 q2, u64 t2, u8 cd, u32 rt, u32 x, u32 y, u32 z, u64 w, i64 b3, i64 r3, i64 p3, i64 v3, i64 q3, u64 t3, i64 b4, i64 r4, i64 p4, i64 v4, i64 q4, u64 t4, i64 b5, i64 r5, i64 p5, i64 v5, i64 q5, u64 t5]] (i64 (prE tn n co b r p v q t b1 r1 p1 v1 q1 t1 b2 r2 p2 v2 q2 t2 cd rt x y z w b3 r3 p3 v3 q3 t3 b4 r4 p4 v4 q4 t4 b5 r5 p5 v5 q5 t5)) := by
  obtain ⟨h1, h2, h3, h4, h5, h6⟩ := h
  exact chB_ok tn n co b r p v q t b1 r1 p1 v1 q1 t1 b2 r2 p2 v2 q2 t2 cd rt x y z w b3 r3 p3 v3 q3 t3 b4 r4 p4 v4 q4 t4 b5 r5 p5 v5 q5 t5 h1 h2 h5 h6
theorem prAA_ok (tn n co b r p v q t b1 r1 p1 v1 q1 t1 b2 r2 p2 v2 q2 t2 cd rt x y z w b3 r3 p3 v3 q3 t3 b4 r4 p4 v4 q4 t4 b5 r5 p5 v5 q5 t5 : Int) (h : inP n co v v1 v2 t t1 t2 cd w v3 v4 v5) : CallsD Try.prog 8 [.agg [u32 tn, u64 n, u32 co, i64 b, i64 r, i64 p, i64 v, i64 q, u64 t, i64 b1, i64 r1, i64 p1, i64 v1, i64 q1, u64 t1, i64 b2, i64 r2, i64 p2, i64 v2, i64 q2, u64 t2, u8 cd, u32 rt, u32 x, u32 y, u32 z, u64 w, i64 b3, i64 r3, i64 p3, i64 v3, i64 q3, u64 t3, i64 b4, i64 r4, i64 p4, i64 v4, i64 q4, u64 t4, i64 b5, i64 r5, i64 p5, i64 v5, i64 q5, u64 t5]] (.tup [bo (prA tn n co b r p v q t b1 r1 p1 v1 q1 t1 b2 r2 p2 v2 q2 t2 cd rt x y z w b3 r3 p3 v3 q3 t3 b4 r4 p4 v4 q4 t4 b5 r5 p5 v5 q5 t5), i64 (prE tn n co b r p v q t b1 r1 p1 v1 q1 t1 b2 r2 p2 v2 q2 t2 cd rt x y z w b3 r3 p3 v3 q3 t3 b4 r4 p4 v4 q4 t4 b5 r5 p5 v5 q5 t5)]) := by
  obtain ⟨h1, h2, h3, h4, h5, h6⟩ := h
  by_cases e : prE tn n co b r p v q t b1 r1 p1 v1 q1 t1 b2 r2 p2 v2 q2 t2 cd rt x y z w b3 r3 p3 v3 q3 t3 b4 r4 p4 v4 q4 t4 b5 r5 p5 v5 q5 t5 = 0
  · have := acc_ok tn n co b r p v q t b1 r1 p1 v1 q1 t1 b2 r2 p2 v2 q2 t2 cd rt x y z w b3 r3 p3 v3 q3 t3 b4 r4 p4 v4 q4 t4 b5 r5 p5 v5 q5 t5 e h1 h2 h3 h4 h5 h6
    unfold prA
    rw [if_pos e, e]; exact this
  · unfold prA
    rw [if_neg e]
    refine accN_calls tn n co b r p v q t b1 r1 p1 v1 q1 t1 b2 r2 p2 v2 q2 t2 cd rt x y z w b3 r3 p3 v3 q3 t3 b4 r4 p4 v4 q4 t4 b5 r5 p5 v5 q5 t5 _ (neq_t.2 e) ?_
    exact ⟨⟨h1, h2, h5, h6, trivial⟩, rfl⟩
theorem prAB_ok (tn n co b r p v q t b1 r1 p1 v1 q1 t1 b2 r2 p2 v2 q2 t2 cd rt x y z w b3 r3 p3 v3 q3 t3 b4 r4 p4 v4 q4 t4 b5 r5 p5 v5 q5 t5 : Int) (h : inP n co v v1 v2 t t1 t2 cd w v3 v4 v5) : CallsD Try.prog 12 [.agg [u32 tn, u64 n, u32 co, i64 b, i64 r, i64 p, i64 v, i64 q, u64 t, i64 b1, i64 r1, i64 p1, i64 v1, i64 q1, u64 t1, i64 b2, i64 r2, i64 p2, i64 v2, i64 q2, u64 t2, u8 cd, u32 rt, u32 x, u32 y, u32 z, u64 w, i64 b3, i64 r3, i64 p3, i64 v3, i64 q3, u64 t3, i64 b4, i64 r4, i64 p4, i64 v4, i64 q4, u64 t4, i64 b5, i64 r5, i64 p5, i64 v5, i64 q5, u64 t5]] (.tup [bo (prA tn n co b r p v q t b1 r1 p1 v1 q1 t1 b2 r2 p2 v2 q2 t2 cd rt x y z w b3 r3 p3 v3 q3 t3 b4 r4 p4 v4 q4 t4 b5 r5 p5 v5 q5 t5), i64 (prE tn n co b r p v q t b1 r1 p1 v1 q1 t1 b2 r2 p2 v2 q2 t2 cd rt x y z w b3 r3 p3 v3 q3 t3 b4 r4 p4 v4 q4 t4 b5 r5 p5 v5 q5 t5)]) := by
  obtain ⟨h1, h2, h3, h4, h5, h6⟩ := h
  refine racc_calls tn n co b r p v q t b1 r1 p1 v1 q1 t1 b2 r2 p2 v2 q2 t2 cd rt x y z w b3 r3 p3 v3 q3 t3 b4 r4 p4 v4 q4 t4 b5 r5 p5 v5 q5 t5 _ ?_ ?_
  · intro a
    have e : ¬ prE tn n co b r p v q t b1 r1 p1 v1 q1 t1 b2 r2 p2 v2 q2 t2 cd rt x y z w b3 r3 p3 v3 q3 t3 b4 r4 p4 v4 q4 t4 b5 r5 p5 v5 q5 t5 = 0 := neq_t.1 a
    refine ⟨⟨h1, h2, h5, h6, h1, h2, h5, h6, trivial⟩, ?_⟩
    unfold prA; rw [if_neg e]; rfl
  · intro a
    have e : prE tn n co b r p v q t b1 r1 p1 v1 q1 t1 b2 r2 p2 v2 q2 t2 cd rt x y z w b3 r3 p3 v3 q3 t3 b4 r4 p4 v4 q4 t4 b5 r5 p5 v5 q5 t5 = 0 := neq_f.1 a
    have hv : val3 b r p v q t b1 r1 p1 v1 q1 t1 b2 r2 p2 v2 q2 t2 := val3_of (chE_is e).2.1 h4
    refine ⟨⟨hv, h3, h1, h2, h5, h6, trivial⟩, ?_⟩
    unfold prA; rw [if_pos e, e]
    generalize hK : (tk3 co (fiV b r p v q t n) (fiV b1 r1 p1 v1 q1 t1 n) (fiV b2 r2 p2 v2 q2 t2 n)) = K
    congr 4
    unfold mdF
    rw [hK]
    apply Bool.eq_iff_iff.2
    simp only [and_t, and_f, eqi_t, decide_eq_true_eq, List.cons.injEq, and_true, true_and, Bool.and_true, and_assoc]
def prC_k : List IntKind := [.u32, .u64, .u32, .i64, .i64, .i64, .i64, .i64, .u64, .i64, .i64, .i64, .i64, .i64, .u64, .i64, .i64, .i64, .i64, .i64, .u64, .u8, .u32, .u32, .u32, .u32, .u64, .i64, .i64, .i64, .i64, .i64, .u64, .i64, .i64, .i64, .i64, .i64, .u64, .i64, .i64, .i64, .i64, .i64, .u64]
def prC_r (f : Nat → Int) : D := i64 (prE (f 0) (f 1) (f 2) (f 3) (f 4) (f 5) (f 6) (f 7) (f 8) (f 9) (f 10) (f 11) (f 12) (f 13) (f 14) (f 15) (f 16) (f 17) (f 18) (f 19) (f 20) (f 21) (f 22) (f 23) (f 24) (f 25) (f 26) (f 27) (f 28) (f 29) (f 30) (f 31) (f 32) (f 33) (f 34) (f 35) (f 36) (f 37) (f 38) (f 39) (f 40) (f 41) (f 42) (f 43) (f 44))
def prC_l (f : Nat → Int) : List Prop := [inP (f 1) (f 2) (f 6) (f 12) (f 18) (f 8) (f 14) (f 20) (f 21) (f 26) (f 30) (f 36) (f 42)]
def prC : List D → Option (D × List Prop)
  | [.agg ds] => bif hasKinds prC_k ds then some (prC_r (nth ds), prC_l (nth ds)) else none
  | _ => none
theorem prC_okA (args res l) (h : prC args = some (res, l)) (hl : AllP l) : CallsD Try.prog 13 args res := by
  unfold prC at h; split at h
  next ds =>
    cases hk : hasKinds prC_k ds with
    | false => rw [hk] at h; cases h
    | true =>
      rw [hk] at h
      simp only [cond_true, Option.some.injEq, Prod.mk.injEq] at h
      obtain ⟨rfl, rfl⟩ := h
      have e := of_hasKinds hk
      generalize nth ds = f at *
      subst e
      obtain ⟨h0, _⟩ := hl
      exact prEA_ok (f 0) (f 1) (f 2) (f 3) (f 4) (f 5) (f 6) (f 7) (f 8) (f 9) (f 10) (f 11) (f 12) (f 13) (f 14) (f 15) (f 16) (f 17) (f 18) (f 19) (f 20) (f 21) (f 22) (f 23) (f 24) (f 25) (f 26) (f 27) (f 28) (f 29) (f 30) (f 31) (f 32) (f 33) (f 34) (f 35) (f 36) (f 37) (f 38) (f 39) (f 40) (f 41) (f 42) (f 43) (f 44) h0
  · cases h
theorem prC_okB (args res l) (h : prC args = some (res, l)) (hl : AllP l) : CallsD Try.prog 6 args res := by
  unfold prC at h; split at h
  next ds =>
    cases hk : hasKinds prC_k ds with
    | false => rw [hk] at h; cases h
    | true =>
      rw [hk] at h
      simp only [cond_true, Option.some.injEq, Prod.mk.injEq] at h
      obtain ⟨rfl, rfl⟩ := h
      have e := of_hasKinds hk
      generalize nth ds = f at *
      subst e
      obtain ⟨h0, _⟩ := hl
      exact prEB_ok (f 0) (f 1) (f 2) (f 3) (f 4) (f 5) (f 6) (f 7) (f 8) (f 9) (f 10) (f 11) (f 12) (f 13) (f 14) (f 15) (f 16) (f 17) (f 18) (f 19) (f 20) (f 21) (f 22) (f 23) (f 24) (f 25) (f 26) (f 27) (f 28) (f 29) (f 30) (f 31) (f 32) (f 33) (f 34) (f 35) (f 36) (f 37) (f 38) (f 39) (f 40) (f 41) (f 42) (f 43) (f 44) h0
  · cases h
def paC_k : List IntKind := [.u32, .u64, .u32, .i64, .i64, .i64, .i64, .i64, .u64, .i64, .i64, .i64, .i64, .i64, .u64, .i64, .i64, .i64, .i64, .i64, .u64, .u8, .u32, .u32, .u32, .u32, .u64, .i64, .i64, .i64, .i64, .i64, .u64, .i64, .i64, .i64, .i64, .i64, .u64, .i64, .i64, .i64, .i64, .i64, .u64]
def paC_r (f : Nat → Int) : D := (.tup [bo (prA (f 0) (f 1) (f 2) (f 3) (f 4) (f 5) (f 6) (f 7) (f 8) (f 9) (f 10) (f 11) (f 12) (f 13) (f 14) (f 15) (f 16) (f 17) (f 18) (f 19) (f 20) (f 21) (f 22) (f 23) (f 24) (f 25) (f 26) (f 27) (f 28) (f 29) (f 30) (f 31) (f 32) (f 33) (f 34) (f 35) (f 36) (f 37) (f 38) (f 39) (f 40) (f 41) (f 42) (f 43) (f 44)), i64 (prE (f 0) (f 1) (f 2) (f 3) (f 4) (f 5) (f 6) (f 7) (f 8) (f 9) (f 10) (f 11) (f 12) (f 13) (f 14) (f 15) (f 16) (f 17) (f 18) (f 19) (f 20) (f 21) (f 22) (f 23) (f 24) (f 25) (f 26) (f 27) (f 28) (f 29) (f 30) (f 31) (f 32) (f 33) (f 34) (f 35) (f 36) (f 37) (f 38) (f 39) (f 40) (f 41) (f 42) (f 43) (f 44))])
def paC_l (f : Nat → Int) : List Prop := [inP (f 1) (f 2) (f 6) (f 12) (f 18) (f 8) (f 14) (f 20) (f 21) (f 26) (f 30) (f 36) (f 42)]
def paC : List D → Option (D × List Prop)
  | [.agg ds] => bif hasKinds paC_k ds then some (paC_r (nth ds), paC_l (nth ds)) else none
  | _ => none
theorem paC_okA (args res l) (h : paC args = some (res, l)) (hl : AllP l) : CallsD Try.prog 8 args res := by
  unfold paC at h; split at h
  next ds =>
    cases hk : hasKinds paC_k ds with
    | false => rw [hk] at h; cases h
    | true =>
      rw [hk] at h
      simp only [cond_true, Option.some.injEq, Prod.mk.injEq] at h
      obtain ⟨rfl, rfl⟩ := h
      have e := of_hasKinds hk
      generalize nth ds = f at *
      subst e
      obtain ⟨h0, _⟩ := hl
      exact prAA_ok (f 0) (f 1) (f 2) (f 3) (f 4) (f 5) (f 6) (f 7) (f 8) (f 9) (f 10) (f 11) (f 12) (f 13) (f 14) (f 15) (f 16) (f 17) (f 18) (f 19) (f 20) (f 21) (f 22) (f 23) (f 24) (f 25) (f 26) (f 27) (f 28) (f 29) (f 30) (f 31) (f 32) (f 33) (f 34) (f 35) (f 36) (f 37) (f 38) (f 39) (f 40) (f 41) (f 42) (f 43) (f 44) h0
  · cases h
theorem paC_okB (args res l) (h : paC args = some (res, l)) (hl : AllP l) : CallsD Try.prog 12 args res := by
  unfold paC at h; split at h
  next ds =>
    cases hk : hasKinds paC_k ds with
    | false => rw [hk] at h; cases h
    | true =>
      rw [hk] at h
      simp only [cond_true, Option.some.injEq, Prod.mk.injEq] at h
      obtain ⟨rfl, rfl⟩ := h
      have e := of_hasKinds hk
      generalize nth ds = f at *
      subst e
      obtain ⟨h0, _⟩ := hl
      exact prAB_ok (f 0) (f 1) (f 2) (f 3) (f 4) (f 5) (f 6) (f 7) (f 8) (f 9) (f 10) (f 11) (f 12) (f 13) (f 14) (f 15) (f 16) (f 17) (f 18) (f 19) (f 20) (f 21) (f 22) (f 23) (f 24) (f 25) (f 26) (f 27) (f 28) (f 29) (f 30) (f 31) (f 32) (f 33) (f 34) (f 35) (f 36) (f 37) (f 38) (f 39) (f 40) (f 41) (f 42) (f 43) (f 44) h0
  · cases h
def X33 : Contracts := addCon 13 (.call prC) (addCon 6 (.call prC) (addCon 8 (.call paC) (addCon 12 (.call paC) (addCon 24 (.call mdCo) X25))))
theorem hX33 : ConOK Try.prog X33 := addCall_ok prC_okA (addCall_ok prC_okB (addCall_ok paC_okA (addCall_ok paC_okB (addCall_ok mdCo_okB hX25))))
end MeterS
