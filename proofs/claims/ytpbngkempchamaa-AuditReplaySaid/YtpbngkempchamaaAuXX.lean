/- The functions of the folder audit and what they reach: what they compute. No condition. -/
import Derived.Test.YtpbngkempchamaaAuWN
import Derived.Test.YtpbngkempchamaaDamXO
set_option linter.unusedSectionVars false
set_option linter.unusedVariables false
set_option linter.unusedSimpArgs false
namespace MeterS
open Go Go.Dam Go.Proofs
set_option maxRecDepth 1000000
set_option linter.unusedVariables false
set_option linter.unusedSectionVars false
set_option linter.unusedSimpArgs false
/-- The error of a proof; and whether it is right. -/
def prE (tn n co b r p v q t b1 r1 p1 v1 q1 t1 b2 r2 p2 v2 q2 t2 cd rt x y z w b3 r3 p3 v3 q3 t3 b4 r4 p4 v4 q4 t4 b5 r5 p5 v5 q5 t5 : Int) : Int := chE tn (rwB (bkE b r p v q) (bkE b1 r1 p1 v1 q1) (bkE b2 r2 p2 v2 q2)) (rwB (bkE b3 r3 p3 v3 q3) (bkE b4 r4 p4 v4 q4) (bkE b5 r5 p5 v5 q5)) (rpE cd rt x y z w) cd
def prA (tn n co b r p v q t b1 r1 p1 v1 q1 t1 b2 r2 p2 v2 q2 t2 cd rt x y z w b3 r3 p3 v3 q3 t3 b4 r4 p4 v4 q4 t4 b5 r5 p5 v5 q5 t5 : Int) : Bool := if prE tn n co b r p v q t b1 r1 p1 v1 q1 t1 b2 r2 p2 v2 q2 t2 cd rt x y z w b3 r3 p3 v3 q3 t3 b4 r4 p4 v4 q4 t4 b5 r5 p5 v5 q5 t5 = 0 then decide ([cd, rt, x, y, z, w, b3, r3, p3, v3, q3, t3, b4, r4, p4, v4, q4, t4, b5, r5, p5, v5, q5, t5] = mdF tn n co b r p v q t b1 r1 p1 v1 q1 t1 b2 r2 p2 v2 q2 t2) else false
def inP (n co v v1 v2 t t1 t2 cd w v3 v4 v5 : Int) : Prop := inV v v1 v2 ∧ inV v3 v4 v5 ∧ inNC n co ∧ inT t t1 t2 ∧ 0 ≤ cd ∧ 0 ≤ w
variable [Glo]
noncomputable def accN_c0 (tn b r p v q b1 r1 p1 v1 q1 b2 r2 p2 v2 q2 cd rt x y z w b3 r3 p3 v3 q3 b4 r4 p4 v4 q4 b5 r5 p5 v5 q5 : Int) := chE tn (rwB (bkE b r p v q) (bkE b1 r1 p1 v1 q1) (bkE b2 r2 p2 v2 q2)) (rwB (bkE b3 r3 p3 v3 q3) (bkE b4 r4 p4 v4 q4) (bkE b5 r5 p5 v5 q5)) (rpE cd rt x y z w) cd
theorem accN_p0 (tn n co b r p v q t b1 r1 p1 v1 q1 t1 b2 r2 p2 v2 q2 t2 cd rt x y z w b3 r3 p3 v3 q3 t3 b4 r4 p4 v4 q4 t4 b5 r5 p5 v5 q5 t5 : Int) : fnX Try.prog X26 100000 [.d true] 8 [D.agg ([u32 tn, u64 n, u32 co] ++ bk1 b r p v q t ++ bk1 b1 r1 p1 v1 q1 t1 ++ bk1 b2 r2 p2 v2 q2 t2 ++ [u8 cd, u32 rt, u32 x, u32 y, u32 z, u64 w] ++ bk1 b3 r3 p3 v3 q3 t3 ++ bk1 b4 r4 p4 v4 q4 t4 ++ bk1 b5 r5 p5 v5 q5 t5)] = some (D.tup [bo false, i64 (accN_c0 tn b r p v q b1 r1 p1 v1 q1 b2 r2 p2 v2 q2 cd rt x y z w b3 r3 p3 v3 q3 b4 r4 p4 v4 q4 b5 r5 p5 v5 q5)], [cmpI BinOp.neq (accN_c0 tn b r p v q b1 r1 p1 v1 q1 b2 r2 p2 v2 q2 cd rt x y z w b3 r3 p3 v3 q3 b4 r4 p4 v4 q4 b5 r5 p5 v5 q5) 0 = true, inV v v1 v2, inV v3 v4 v5, 0 ≤ cd, 0 ≤ w]) := by kernel_rfl
theorem accN_calls (tn n co b r p v q t b1 r1 p1 v1 q1 t1 b2 r2 p2 v2 q2 t2 cd rt x y z w b3 r3 p3 v3 q3 t3 b4 r4 p4 v4 q4 t4 b5 r5 p5 v5 q5 t5 : Int) (res : D)
  (e0 : (cmpI BinOp.neq (accN_c0 tn b r p v q b1 r1 p1 v1 q1 b2 r2 p2 v2 q2 cd rt x y z w b3 r3 p3 v3 q3 b4 r4 p4 v4 q4 b5 r5 p5 v5 q5) 0) = true)
  (h0 : ((inV v v1 v2) ∧ (inV v3 v4 v5) ∧ (0 ≤ cd) ∧ (0 ≤ w) ∧ True) ∧ res = D.tup [bo false, i64 (accN_c0 tn b r p v q b1 r1 p1 v1 q1 b2 r2 p2 v2 q2 cd rt x y z w b3 r3 p3 v3 q3 b4 r4 p4 v4 q4 b5 r5 p5 v5 q5)]) : CallsD Try.prog 8 [D.agg ([u32 tn, u64 n, u32 co] ++ bk1 b r p v q t ++ bk1 b1 r1 p1 v1 q1 t1 ++ bk1 b2 r2 p2 v2 q2 t2 ++ [u8 cd, u32 rt, u32 x, u32 y, u32 z, u64 w] ++ bk1 b3 r3 p3 v3 q3 t3 ++ bk1 b4 r4 p4 v4 q4 t4 ++ bk1 b5 r5 p5 v5 q5 t5)] res := by
  obtain ⟨⟨k0, k1, k2, k3, _⟩, kr⟩ := h0
  exact of_path hX26 (accN_p0 tn n co b r p v q t b1 r1 p1 v1 q1 t1 b2 r2 p2 v2 q2 t2 cd rt x y z w b3 r3 p3 v3 q3 t3 b4 r4 p4 v4 q4 t4 b5 r5 p5 v5 q5 t5) ⟨e0, k0, k1, k2, k3, trivial⟩ kr
theorem prEA_ok (tn n co b r p v q t b1 r1 p1 v1 q1 t1 b2 r2 p2 v2 q2 t2 cd rt x y z w b3 r3 p3 v3 q3 t3 b4 r4 p4 v4 q4 t4 b5 r5 p5 v5 q5 t5 : Int) (h : inP n co v v1 v2 t t1 t2 cd w v3 v4 v5) : CallsD Try.prog 13 [.agg [u32 tn, u64 n, u32 co, i64 b, i64 r, i64 p, i64 v, i64 q, u64 t, i64 b1, i64 r1, i64 p1, i64 v1, i64 q1, u64 t1, i64 b2, i64 r2, i64 p2, i64 v2, i64 q2, u64 t2, u8 cd, u32 rt, u32 x, u32 y, u32 z, u64 w, i64 b3, i64 r3, i64 p3, i64 v3, i64 q3, u64 t3, i64 b4, i64 r4, i64 p4, i64 v4, i64 q4, u64 t4, i64 b5, i64 r5, i64 p5, i64 v5, i64 q5, u64 t5]] (i64 (prE tn n co b r p v q t b1 r1 p1 v1 q1 t1 b2 r2 p2 v2 q2 t2 cd rt x y z w b3 r3 p3 v3 q3 t3 b4 r4 p4 v4 q4 t4 b5 r5 p5 v5 q5 t5)) := by
  obtain ⟨h1, h2, h3, h4, h5, h6⟩ := h
  exact chA_ok tn n co b r p v q t b1 r1 p1 v1 q1 t1 b2 r2 p2 v2 q2 t2 cd rt x y z w b3 r3 p3 v3 q3 t3 b4 r4 p4 v4 q4 t4 b5 r5 p5 v5 q5 t5 h1 h2 h5 h6
theorem prEB_ok (tn n co b r p v q t b1 r1 p1 v1 q1 t1 b2 r2 p2 v2 q2 t2 cd rt x y z w b3 r3 p3 v3 q3 t3 b4 r4 p4 v4 q4 t4 b5 r5 p5 v5 q5 t5 : Int) (h : inP n co v v1 v2 t t1 t2 cd w v3 v4 v5) : CallsD Try.prog 6 [.agg [u32 tn, u64 n, u32 co, i64 b, i64 r, i64 p, i64 v, i64 q, u64 t, i64 b1, i64 r1, i64 p1, i64 v1, i64 q1, u64 t1, i64 b2, i64 r2, i64 p2, i64 v2, i64 q2, u64 t2, u8 cd, u32 rt, u32 x, u32 y, u32 z, u64 w, i64 b3, i64 r3, i64 p3, i64 v3, i64 q3, u64 t3, i64 b4, i64 r4, i64 p4, i64 v4, i64 q4, u64 t4, i64 b5, i64 r5, i64 p5, i64 v5, i64 q5, u64 t5]] (i64 (prE tn n co b r p v q t b1 r1 p1 v1 q1 t1 b2 r2 p2 v2 q2 t2 cd rt x y z w b3 r3 p3 v3 q3 t3 b4 r4 p4 v4 q4 t4 b5 r5 p5 v5 q5 t5)) := by
  obtain ⟨h1, h2, h3, h4, h5, h6⟩ := h
  exact chB_ok tn n co b r p v q t b1 r1 p1 v1 q1 t1 b2 r2 p2 v2 q2 t2 cd rt x y z w b3 r3 p3 v3 q3 t3 b4 r4 p4 v4 q4 t4 b5 r5 p5 v5 q5 t5 h1 h2 h5 h6
theorem prAA_ok (tn n co b r p v q t b1 r1 p1 v1 q1 t1 b2 r2 p2 v2 q2 t2 cd rt x y z w b3 r3 p3 v3 q3 t3 b4 r4 p4 v4 q4 t4 b5 r5 p5 v5 q5 t5 : Int) (h : inP n co v v1 v2 t t1 t2 cd w v3 v4 v5) : CallsD Try.prog 8 [.agg [u32 tn, u64 n, u32 co, i64 b, i64 r, i64 p, i64 v, i64 q, u64 t, i64 b1, i64 r1, i64 p1, i64 v1, i64 q1, u64 t1, i64 b2, i64 r2, i64 p2, i64 v2, i64 q2, u64 t2, u8 cd, u32 rt, u32 x, u32 y, u32 z, u64 w, i64 b3, i64 r3, i64 p3, i64 v3, i64 q3, u64 t3, i64 b4, i64 r4, i64 p4, i64 v4, i64 q4, u64 t4, i64 b5, i64 r5, i64 p5, i64 v5, i64 q5, u64 t5]] (.tup [bo (prA tn n co b r p v q t b1 r1 p1 v1 q1 t1 b2 r2 p2 v2 q2 t2 cd rt x y z w b3 r3 p3 v3 q3 t3 b4 r4 p4 v4 q4 t4 b5 r5 p5 v5 q5 t5), i64 (prE tn n co b r p v q t b1 r1 p1 v1 q1 t1 b2 r2 p2 v2 q2 t2 cd rt x y z w b3 r3 p3 v3 q3 t3 b4 r4 p4 v4 q4 t4 b5 r5 p5 v5 q5 t5)]) := by
  obtain ⟨h1, h2, h3, h4, h5, h6⟩ := h
  by_cases e : prE tn n co b r p v q t b1 r1 p1 v1 q1 t1 b2 r2 p2 v2 q2 t2 cd rt x y z w b3 r3 p3 v3 q3 t3 b4 r4 p4 v4 q4 t4 b5 r5 p5 v5 q5 t5 = 0
  · have := acc_ok tn n co b r p v q t b1 r1 p1 v1 q1 t1 b2 r2 p2 v2 q2 t2 cd rt x y z w b3 r3 p3 v3 q3 t3 b4 r4 p4 v4 q4 t4 b5 r5 p5 v5 q5 t5 e h1 h2 h3 h4 h5 h6
    unfold prA
    rw [if_pos e, e]; exact this
  · unfold prA
    rw [if_neg e]
    refine accN_calls tn n co b r p v q t b1 r1 p1 v1 q1 t1 b2 r2 p2 v2 q2 t2 cd rt x y z w b3 r3 p3 v3 q3 t3 b4 r4 p4 v4 q4 t4 b5 r5 p5 v5 q5 t5 _ (neq_t.2 e) ?_
    exact ⟨⟨h1, h2, h5, h6, trivial⟩, rfl⟩
def prC_k : List IntKind := [.u32, .u64, .u32, .i64, .i64, .i64, .i64, .i64, .u64, .i64, .i64, .i64, .i64, .i64, .u64, .i64, .i64, .i64, .i64, .i64, .u64, .u8, .u32, .u32, .u32, .u32, .u64, .i64, .i64, .i64, .i64, .i64, .u64, .i64, .i64, .i64, .i64, .i64, .u64, .i64, .i64, .i64, .i64, .i64, .u64]
def prC_r (f : Nat → Int) : D := i64 (prE (f 0) (f 1) (f 2) (f 3) (f 4) (f 5) (f 6) (f 7) (f 8) (f 9) (f 10) (f 11) (f 12) (f 13) (f 14) (f 15) (f 16) (f 17) (f 18) (f 19) (f 20) (f 21) (f 22) (f 23) (f 24) (f 25) (f 26) (f 27) (f 28) (f 29) (f 30) (f 31) (f 32) (f 33) (f 34) (f 35) (f 36) (f 37) (f 38) (f 39) (f 40) (f 41) (f 42) (f 43) (f 44))
def prC_l (f : Nat → Int) : List Prop := [inP (f 1) (f 2) (f 6) (f 12) (f 18) (f 8) (f 14) (f 20) (f 21) (f 26) (f 30) (f 36) (f 42)]
def prC : List D → Option (D × List Prop)
  | [.agg ds] => bif hasKinds prC_k ds then some (prC_r (nth ds), prC_l (nth ds)) else none
  | _ => none
theorem prC_okA (args res l) (h : prC args = some (res, l)) (hl : AllP l) : CallsD Try.prog 13 args res := by
  unfold prC at h; split at h
  next ds =>
    cases hk : hasKinds prC_k ds with
    | false => rw [hk] at h; cases h
    | true =>
      rw [hk] at h
      simp only [cond_true, Option.some.injEq, Prod.mk.injEq] at h
      obtain ⟨rfl, rfl⟩ := h
      have e := of_hasKinds hk
      generalize nth ds = f at *
      subst e
      obtain ⟨h0, _⟩ := hl
      exact prEA_ok (f 0) (f 1) (f 2) (f 3) (f 4) (f 5) (f 6) (f 7) (f 8) (f 9) (f 10) (f 11) (f 12) (f 13) (f 14) (f 15) (f 16) (f 17) (f 18) (f 19) (f 20) (f 21) (f 22) (f 23) (f 24) (f 25) (f 26) (f 27) (f 28) (f 29) (f 30) (f 31) (f 32) (f 33) (f 34) (f 35) (f 36) (f 37) (f 38) (f 39) (f 40) (f 41) (f 42) (f 43) (f 44) h0
  · cases h
theorem prC_okB (args res l) (h : prC args = some (res, l)) (hl : AllP l) : CallsD Try.prog 6 args res := by
  unfold prC at h; split at h
  next ds =>
    cases hk : hasKinds prC_k ds with
    | false => rw [hk] at h; cases h
    | true =>
      rw [hk] at h
      simp only [cond_true, Option.some.injEq, Prod.mk.injEq] at h
      obtain ⟨rfl, rfl⟩ := h
      have e := of_hasKinds hk
      generalize nth ds = f at *
      subst e
      obtain ⟨h0, _⟩ := hl
      exact prEB_ok (f 0) (f 1) (f 2) (f 3) (f 4) (f 5) (f 6) (f 7) (f 8) (f 9) (f 10) (f 11) (f 12) (f 13) (f 14) (f 15) (f 16) (f 17) (f 18) (f 19) (f 20) (f 21) (f 22) (f 23) (f 24) (f 25) (f 26) (f 27) (f 28) (f 29) (f 30) (f 31) (f 32) (f 33) (f 34) (f 35) (f 36) (f 37) (f 38) (f 39) (f 40) (f 41) (f 42) (f 43) (f 44) h0
  · cases h
def paC_k : List IntKind := [.u32, .u64, .u32, .i64, .i64, .i64, .i64, .i64, .u64, .i64, .i64, .i64, .i64, .i64, .u64, .i64, .i64, .i64, .i64, .i64, .u64, .u8, .u32, .u32, .u32, .u32, .u64, .i64, .i64, .i64, .i64, .i64, .u64, .i64, .i64, .i64, .i64, .i64, .u64, .i64, .i64, .i64, .i64, .i64, .u64]
def paC_r (f : Nat → Int) : D := (.tup [bo (prA (f 0) (f 1) (f 2) (f 3) (f 4) (f 5) (f 6) (f 7) (f 8) (f 9) (f 10) (f 11) (f 12) (f 13) (f 14) (f 15) (f 16) (f 17) (f 18) (f 19) (f 20) (f 21) (f 22) (f 23) (f 24) (f 25) (f 26) (f 27) (f 28) (f 29) (f 30) (f 31) (f 32) (f 33) (f 34) (f 35) (f 36) (f 37) (f 38) (f 39) (f 40) (f 41) (f 42) (f 43) (f 44)), i64 (prE (f 0) (f 1) (f 2) (f 3) (f 4) (f 5) (f 6) (f 7) (f 8) (f 9) (f 10) (f 11) (f 12) (f 13) (f 14) (f 15) (f 16) (f 17) (f 18) (f 19) (f 20) (f 21) (f 22) (f 23) (f 24) (f 25) (f 26) (f 27) (f 28) (f 29) (f 30) (f 31) (f 32) (f 33) (f 34) (f 35) (f 36) (f 37) (f 38) (f 39) (f 40) (f 41) (f 42) (f 43) (f 44))])
def paC_l (f : Nat → Int) : List Prop := [inP (f 1) (f 2) (f 6) (f 12) (f 18) (f 8) (f 14) (f 20) (f 21) (f 26) (f 30) (f 36) (f 42)]
def paC : List D → Option (D × List Prop)
  | [.agg ds] => bif hasKinds paC_k ds then some (paC_r (nth ds), paC_l (nth ds)) else none
  | _ => none
theorem paC_okA (args res l) (h : paC args = some (res, l)) (hl : AllP l) : CallsD Try.prog 8 args res := by
  unfold paC at h; split at h
  next ds =>
    cases hk : hasKinds paC_k ds with
    | false => rw [hk] at h; cases h
    | true =>
      rw [hk] at h
      simp only [cond_true, Option.some.injEq, Prod.mk.injEq] at h
      obtain ⟨rfl, rfl⟩ := h
      have e := of_hasKinds hk
      generalize nth ds = f at *
      subst e
      obtain ⟨h0, _⟩ := hl
      exact prAA_ok (f 0) (f 1) (f 2) (f 3) (f 4) (f 5) (f 6) (f 7) (f 8) (f 9) (f 10) (f 11) (f 12) (f 13) (f 14) (f 15) (f 16) (f 17) (f 18) (f 19) (f 20) (f 21) (f 22) (f 23) (f 24) (f 25) (f 26) (f 27) (f 28) (f 29) (f 30) (f 31) (f 32) (f 33) (f 34) (f 35) (f 36) (f 37) (f 38) (f 39) (f 40) (f 41) (f 42) (f 43) (f 44) h0
  · cases h
def X33 : Contracts := addCon 13 (.call prC) (addCon 6 (.call prC) (addCon 8 (.call paC) X25))
theorem hX33 : ConOK Try.prog X33 := addCall_ok prC_okA (addCall_ok prC_okB (addCall_ok paC_okA hX25))
end MeterS

namespace MeterS
open Go Go.Dam Go.Proofs
set_option maxRecDepth 1000000
set_option linter.unusedVariables false
set_option linter.unusedSectionVars false
set_option linter.unusedSimpArgs false
/-- The parts of a right proof. -/
def mdK (n co b r p v q t b1 r1 p1 v1 q1 t1 b2 r2 p2 v2 q2 t2 : Int) : Bool := (tk3 co (fiV b r p v q t n) (fiV b1 r1 p1 v1 q1 t1 n) (fiV b2 r2 p2 v2 q2 t2 n))
def mdCd (n co b r p v q t b1 r1 p1 v1 q1 t1 b2 r2 p2 v2 q2 t2 : Int) : Int := mdC (tk3 co (fiV b r p v q t n) (fiV b1 r1 p1 v1 q1 t1 n) (fiV b2 r2 p2 v2 q2 t2 n))
def mdL0 (n co b r p v q t b1 r1 p1 v1 q1 t1 b2 r2 p2 v2 q2 t2 : Int) : Int := (lv (tk3 co (fiV b r p v q t n) (fiV b1 r1 p1 v1 q1 t1 n) (fiV b2 r2 p2 v2 q2 t2 n)) (fiV b r p v q t n) co)
def mdL1 (n co b r p v q t b1 r1 p1 v1 q1 t1 b2 r2 p2 v2 q2 t2 : Int) : Int := (lv (tk3 co (fiV b r p v q t n) (fiV b1 r1 p1 v1 q1 t1 n) (fiV b2 r2 p2 v2 q2 t2 n)) (fiV b1 r1 p1 v1 q1 t1 n) co)
def mdL2 (n co b r p v q t b1 r1 p1 v1 q1 t1 b2 r2 p2 v2 q2 t2 : Int) : Int := (lv (tk3 co (fiV b r p v q t n) (fiV b1 r1 p1 v1 q1 t1 n) (fiV b2 r2 p2 v2 q2 t2 n)) (fiV b2 r2 p2 v2 q2 t2 n) co)
def mdWt (n co b r p v q t b1 r1 p1 v1 q1 t1 b2 r2 p2 v2 q2 t2 : Int) : Int := (mdW (tk3 co (fiV b r p v q t n) (fiV b1 r1 p1 v1 q1 t1 n) (fiV b2 r2 p2 v2 q2 t2 n)) (mx3 (waN b r p (lv (tk3 co (fiV b r p v q t n) (fiV b1 r1 p1 v1 q1 t1 n) (fiV b2 r2 p2 v2 q2 t2 n)) (fiV b r p v q t n) co) (fiQ b r p v q t n) (fiT t n) co) (waN b1 r1 p1 (lv (tk3 co (fiV b r p v q t n) (fiV b1 r1 p1 v1 q1 t1 n) (fiV b2 r2 p2 v2 q2 t2 n)) (fiV b1 r1 p1 v1 q1 t1 n) co) (fiQ b1 r1 p1 v1 q1 t1 n) (fiT t1 n) co) (waN b2 r2 p2 (lv (tk3 co (fiV b r p v q t n) (fiV b1 r1 p1 v1 q1 t1 n) (fiV b2 r2 p2 v2 q2 t2 n)) (fiV b2 r2 p2 v2 q2 t2 n) co) (fiQ b2 r2 p2 v2 q2 t2 n) (fiT t2 n) co)))
theorem val3_of' {b r p v q t b1 r1 p1 v1 q1 t1 b2 r2 p2 v2 q2 t2 : Int} (h : (rwB (bkE b r p v q) (bkE b1 r1 p1 v1 q1) (bkE b2 r2 p2 v2 q2)) = true) (ht : inT t t1 t2) : val3 b r p v q t b1 r1 p1 v1 q1 t1 b2 r2 p2 v2 q2 t2 := ⟨rwB_iff.1 h, ht⟩
variable [Glo]
theorem make2_ok (tn b r p v q t b1 r1 p1 v1 q1 t1 b2 r2 p2 v2 q2 t2 n co : Int) (h : (rwB (bkE b r p v q) (bkE b1 r1 p1 v1 q1) (bkE b2 r2 p2 v2 q2)) = true) (ht : inT t t1 t2) (hn : inNC n co) (hv : inV v v1 v2) (htn : tn < 16) :
    CallsD Try.prog 7 [u32 tn, .agg [i64 b, i64 r, i64 p, i64 v, i64 q, u64 t, i64 b1, i64 r1, i64 p1, i64 v1, i64 q1, u64 t1, i64 b2, i64 r2, i64 p2, i64 v2, i64 q2, u64 t2], u64 n, u32 co] (.tup [(.agg [u32 tn, u64 n, u32 co, i64 b, i64 r, i64 p, i64 v, i64 q, u64 t, i64 b1, i64 r1, i64 p1, i64 v1, i64 q1, u64 t1, i64 b2, i64 r2, i64 p2, i64 v2, i64 q2, u64 t2, u8 (mdCd n co b r p v q t b1 r1 p1 v1 q1 t1 b2 r2 p2 v2 q2 t2), u32 tn, u32 (mdL0 n co b r p v q t b1 r1 p1 v1 q1 t1 b2 r2 p2 v2 q2 t2), u32 (mdL1 n co b r p v q t b1 r1 p1 v1 q1 t1 b2 r2 p2 v2 q2 t2), u32 (mdL2 n co b r p v q t b1 r1 p1 v1 q1 t1 b2 r2 p2 v2 q2 t2), u64 (mdWt n co b r p v q t b1 r1 p1 v1 q1 t1 b2 r2 p2 v2 q2 t2), i64 b, i64 r, i64 p, i64 (mdL0 n co b r p v q t b1 r1 p1 v1 q1 t1 b2 r2 p2 v2 q2 t2), i64 (fiQ b r p v q t n), u64 (fiT t n), i64 b1, i64 r1, i64 p1, i64 (mdL1 n co b r p v q t b1 r1 p1 v1 q1 t1 b2 r2 p2 v2 q2 t2), i64 (fiQ b1 r1 p1 v1 q1 t1 n), u64 (fiT t1 n), i64 b2, i64 r2, i64 p2, i64 (mdL2 n co b r p v q t b1 r1 p1 v1 q1 t1 b2 r2 p2 v2 q2 t2), i64 (fiQ b2 r2 p2 v2 q2 t2 n), u64 (fiT t2 n)]), i64 0]) := make_ok tn b r p v q t b1 r1 p1 v1 q1 t1 b2 r2 p2 v2 q2 t2 n co (val3_of h ht) hn hv htn
def mk2C : List D → Option (D × List Prop)
  | [.v (.int .u32 tn), .agg [.v (.int .i64 b), .v (.int .i64 r), .v (.int .i64 p), .v (.int .i64 v), .v (.int .i64 q), .v (.int .u64 t), .v (.int .i64 b1), .v (.int .i64 r1), .v (.int .i64 p1), .v (.int .i64 v1), .v (.int .i64 q1), .v (.int .u64 t1), .v (.int .i64 b2), .v (.int .i64 r2), .v (.int .i64 p2), .v (.int .i64 v2), .v (.int .i64 q2), .v (.int .u64 t2)], .v (.int .u64 n), .v (.int .u32 co)] => some ((.tup [(.agg [u32 tn, u64 n, u32 co, i64 b, i64 r, i64 p, i64 v, i64 q, u64 t, i64 b1, i64 r1, i64 p1, i64 v1, i64 q1, u64 t1, i64 b2, i64 r2, i64 p2, i64 v2, i64 q2, u64 t2, u8 (mdCd n co b r p v q t b1 r1 p1 v1 q1 t1 b2 r2 p2 v2 q2 t2), u32 tn, u32 (mdL0 n co b r p v q t b1 r1 p1 v1 q1 t1 b2 r2 p2 v2 q2 t2), u32 (mdL1 n co b r p v q t b1 r1 p1 v1 q1 t1 b2 r2 p2 v2 q2 t2), u32 (mdL2 n co b r p v q t b1 r1 p1 v1 q1 t1 b2 r2 p2 v2 q2 t2), u64 (mdWt n co b r p v q t b1 r1 p1 v1 q1 t1 b2 r2 p2 v2 q2 t2), i64 b, i64 r, i64 p, i64 (mdL0 n co b r p v q t b1 r1 p1 v1 q1 t1 b2 r2 p2 v2 q2 t2), i64 (fiQ b r p v q t n), u64 (fiT t n), i64 b1, i64 r1, i64 p1, i64 (mdL1 n co b r p v q t b1 r1 p1 v1 q1 t1 b2 r2 p2 v2 q2 t2), i64 (fiQ b1 r1 p1 v1 q1 t1 n), u64 (fiT t1 n), i64 b2, i64 r2, i64 p2, i64 (mdL2 n co b r p v q t b1 r1 p1 v1 q1 t1 b2 r2 p2 v2 q2 t2), i64 (fiQ b2 r2 p2 v2 q2 t2 n), u64 (fiT t2 n)]), i64 0]), [(rwB (bkE b r p v q) (bkE b1 r1 p1 v1 q1) (bkE b2 r2 p2 v2 q2)) = true, inT t t1 t2, inNC n co, inV v v1 v2, tn < 16])
  | _ => none
theorem mk2C_ok (args res l) (h : mk2C args = some (res, l)) (hl : AllP l) : CallsD Try.prog 7 args res := by
  unfold mk2C at h; split at h
  · simp only [Option.some.injEq, Prod.mk.injEq] at h
    obtain ⟨rfl, rfl⟩ := h; obtain ⟨h0, h1, h2, h3, h4, _⟩ := hl
    exact make2_ok _ _ _ _ _ _ _ _ _ _ _ _ _ _ _ _ _ _ _ _ _ h0 h1 h2 h3 h4
  · cases h
def X34 : Contracts := addCon 7 (.call mk2C) (addCon 5 (.call aliveC) X33)
theorem hX34 : ConOK Try.prog X34 := addCall_ok mk2C_ok (addCall_ok aliveC_ok hX33)
end MeterS

namespace MeterS
open Go Go.Dam Go.Proofs
set_option maxRecDepth 1000000
set_option linter.unusedVariables false
set_option linter.unusedSectionVars false
set_option linter.unusedSimpArgs false
theorem upN_pos {a d : Int} (ha : 0 < a) (hd : 0 < d) : 0 < upN a d := by
  have e := Int.mul_ediv_add_emod a d
  have r1 := Int.emod_lt_of_pos a hd
  have q0 : 0 ≤ a / d := Int.ediv_nonneg (by omega) (by omega)
  unfold upN
  split
  · rcases Int.lt_or_eq_of_le q0 with g | g
    · exact g
    · rw [← g, Int.mul_zero] at e; omega
  · omega
theorem wa_pos {b r p v q t c : Int} (h : bkE b r p v q = 0) (hc : v < c) : 0 < waN b r p v q t c := by
  obtain ⟨hl, v0, vb, q0, qp, hqq⟩ := bkE_is h
  obtain ⟨b0, b1, r0, r1, p0, p1⟩ := limE_is hl
  have m0 : p ≤ (c - v) * p := by
    have := Int.mul_le_mul_of_nonneg_right (show 1 ≤ c - v by omega) (show 0 ≤ p by omega); omega
  unfold waN
  rw [if_neg (by omega)]
  split
  · decide
  · split
    · decide
    · exact upN_pos (by omega) (by omega)
theorem mx3_pos {x y z : Int} (h : 0 < x ∨ 0 < y ∨ 0 < z) : 0 < mx3 x y z := by unfold mx3; omega
/-- A right proof is valid. -/
theorem md_rows {b r p v q t b1 r1 p1 v1 q1 t1 b2 r2 p2 v2 q2 t2 n co : Int} (hv : val3 b r p v q t b1 r1 p1 v1 q1 t1 b2 r2 p2 v2 q2 t2) (hn : inNC n co) :
    bkE b r p (mdL0 n co b r p v q t b1 r1 p1 v1 q1 t1 b2 r2 p2 v2 q2 t2) (fiQ b r p v q t n) = 0 ∧ bkE b1 r1 p1 (mdL1 n co b r p v q t b1 r1 p1 v1 q1 t1 b2 r2 p2 v2 q2 t2) (fiQ b1 r1 p1 v1 q1 t1 n) = 0 ∧ bkE b2 r2 p2 (mdL2 n co b r p v q t b1 r1 p1 v1 q1 t1 b2 r2 p2 v2 q2 t2) (fiQ b2 r2 p2 v2 q2 t2 n) = 0 := by
  obtain ⟨⟨h, h', h''⟩, t0, u0, t01, u01, t02, u02⟩ := hv
  obtain ⟨n0, n1, c0, c1⟩ := hn
  exact ⟨lv_ok (fi_ok h t0 n0) c0 fun k => (tk3_iff.1 k).1, lv_ok (fi_ok h' t01 n0) c0 fun k => (tk3_iff.1 k).2.1, lv_ok (fi_ok h'' t02 n0) c0 fun k => (tk3_iff.1 k).2.2⟩
theorem md_rp {tn b r p v q t b1 r1 p1 v1 q1 t1 b2 r2 p2 v2 q2 t2 n co : Int} (hv : val3 b r p v q t b1 r1 p1 v1 q1 t1 b2 r2 p2 v2 q2 t2) (hn : inNC n co) (htn : tn < 16) : rpE (mdCd n co b r p v q t b1 r1 p1 v1 q1 t1 b2 r2 p2 v2 q2 t2) tn (mdL0 n co b r p v q t b1 r1 p1 v1 q1 t1 b2 r2 p2 v2 q2 t2) (mdL1 n co b r p v q t b1 r1 p1 v1 q1 t1 b2 r2 p2 v2 q2 t2) (mdL2 n co b r p v q t b1 r1 p1 v1 q1 t1 b2 r2 p2 v2 q2 t2) (mdWt n co b r p v q t b1 r1 p1 v1 q1 t1 b2 r2 p2 v2 q2 t2) = 0 ∧ (mdCd n co b r p v q t b1 r1 p1 v1 q1 t1 b2 r2 p2 v2 q2 t2 = 2 ∨ mdCd n co b r p v q t b1 r1 p1 v1 q1 t1 b2 r2 p2 v2 q2 t2 = 3) := by
  obtain ⟨s0, s1, s2⟩ := md_rows hv hn
  obtain ⟨l0, e0, e1, _⟩ := bkE_is s0
  obtain ⟨l1, e2, e3, _⟩ := bkE_is s1
  obtain ⟨l2, e4, e5, _⟩ := bkE_is s2
  have k0 := (limE_is l0).2.1
  have k1 := (limE_is l1).2.1
  have k2 := (limE_is l2).2.1
  have hw : (0 < mdWt n co b r p v q t b1 r1 p1 v1 q1 t1 b2 r2 p2 v2 q2 t2 ↔ mdCd n co b r p v q t b1 r1 p1 v1 q1 t1 b2 r2 p2 v2 q2 t2 = 3) ∧ (mdCd n co b r p v q t b1 r1 p1 v1 q1 t1 b2 r2 p2 v2 q2 t2 = 2 ∨ mdCd n co b r p v q t b1 r1 p1 v1 q1 t1 b2 r2 p2 v2 q2 t2 = 3) := by
    obtain ⟨⟨h, h', h''⟩, m0, _, m01, _, m02, _⟩ := hv
    obtain ⟨n0, _, _, _⟩ := hn
    have g0 := fi_ok h m0 n0
    have g1 := fi_ok h' m01 n0
    have g2 := fi_ok h'' m02 n0
    unfold mdWt mdCd
    by_cases hk : (tk3 co (fiV b r p v q t n) (fiV b1 r1 p1 v1 q1 t1 n) (fiV b2 r2 p2 v2 q2 t2 n)) = true
    · rw [hk]; simp [mdW, mdC]
    · have hk' : (tk3 co (fiV b r p v q t n) (fiV b1 r1 p1 v1 q1 t1 n) (fiV b2 r2 p2 v2 q2 t2 n)) = false := by simpa using hk
      have hk2 : ¬ (co ≤ (fiV b r p v q t n) ∧ co ≤ (fiV b1 r1 p1 v1 q1 t1 n) ∧ co ≤ (fiV b2 r2 p2 v2 q2 t2 n)) := fun e => hk (tk3_iff.2 e)
      rw [hk']
      simp only [mdW, mdC, lv, Bool.false_eq_true, if_false]
      refine ⟨⟨fun _ => by first | trivial | rfl, fun _ => mx3_pos ?_⟩, by simp⟩
      by_cases d0 : co ≤ (fiV b r p v q t n)
      · by_cases d1 : co ≤ (fiV b1 r1 p1 v1 q1 t1 n)
        · exact .inr (.inr (wa_pos g2 (by omega)))
        · exact .inr (.inl (wa_pos g1 (by omega)))
      · exact .inl (wa_pos g0 (by omega))
  refine ⟨?_, hw.2⟩
  unfold rpE
  rw [if_pos hw.2, if_pos ⟨htn, by omega, by omega, by omega, hw.1⟩]
theorem md_prE {tn b r p v q t b1 r1 p1 v1 q1 t1 b2 r2 p2 v2 q2 t2 n co : Int} (hv : val3 b r p v q t b1 r1 p1 v1 q1 t1 b2 r2 p2 v2 q2 t2) (hn : inNC n co) (htn : tn < 16) : prE tn n co b r p v q t b1 r1 p1 v1 q1 t1 b2 r2 p2 v2 q2 t2 (mdCd n co b r p v q t b1 r1 p1 v1 q1 t1 b2 r2 p2 v2 q2 t2) tn (mdL0 n co b r p v q t b1 r1 p1 v1 q1 t1 b2 r2 p2 v2 q2 t2) (mdL1 n co b r p v q t b1 r1 p1 v1 q1 t1 b2 r2 p2 v2 q2 t2) (mdL2 n co b r p v q t b1 r1 p1 v1 q1 t1 b2 r2 p2 v2 q2 t2) (mdWt n co b r p v q t b1 r1 p1 v1 q1 t1 b2 r2 p2 v2 q2 t2) b r p (mdL0 n co b r p v q t b1 r1 p1 v1 q1 t1 b2 r2 p2 v2 q2 t2) (fiQ b r p v q t n) (fiT t n) b1 r1 p1 (mdL1 n co b r p v q t b1 r1 p1 v1 q1 t1 b2 r2 p2 v2 q2 t2) (fiQ b1 r1 p1 v1 q1 t1 n) (fiT t1 n) b2 r2 p2 (mdL2 n co b r p v q t b1 r1 p1 v1 q1 t1 b2 r2 p2 v2 q2 t2) (fiQ b2 r2 p2 v2 q2 t2 n) (fiT t2 n) = 0 := by
  unfold prE chE
  rw [if_pos ⟨htn, rwB_iff.2 hv.1, rwB_iff.2 (md_rows hv hn), (md_rp hv hn htn).1, (md_rp hv hn htn).2⟩]
theorem md_prA {tn b r p v q t b1 r1 p1 v1 q1 t1 b2 r2 p2 v2 q2 t2 n co : Int} (hv : val3 b r p v q t b1 r1 p1 v1 q1 t1 b2 r2 p2 v2 q2 t2) (hn : inNC n co) (htn : tn < 16) : prA tn n co b r p v q t b1 r1 p1 v1 q1 t1 b2 r2 p2 v2 q2 t2 (mdCd n co b r p v q t b1 r1 p1 v1 q1 t1 b2 r2 p2 v2 q2 t2) tn (mdL0 n co b r p v q t b1 r1 p1 v1 q1 t1 b2 r2 p2 v2 q2 t2) (mdL1 n co b r p v q t b1 r1 p1 v1 q1 t1 b2 r2 p2 v2 q2 t2) (mdL2 n co b r p v q t b1 r1 p1 v1 q1 t1 b2 r2 p2 v2 q2 t2) (mdWt n co b r p v q t b1 r1 p1 v1 q1 t1 b2 r2 p2 v2 q2 t2) b r p (mdL0 n co b r p v q t b1 r1 p1 v1 q1 t1 b2 r2 p2 v2 q2 t2) (fiQ b r p v q t n) (fiT t n) b1 r1 p1 (mdL1 n co b r p v q t b1 r1 p1 v1 q1 t1 b2 r2 p2 v2 q2 t2) (fiQ b1 r1 p1 v1 q1 t1 n) (fiT t1 n) b2 r2 p2 (mdL2 n co b r p v q t b1 r1 p1 v1 q1 t1 b2 r2 p2 v2 q2 t2) (fiQ b2 r2 p2 v2 q2 t2 n) (fiT t2 n) = true := by
  unfold prA
  rw [if_pos (md_prE hv hn htn)]
  exact decide_eq_true rfl
theorem md_prEx {tn b r p v q t b1 r1 p1 v1 q1 t1 b2 r2 p2 v2 q2 t2 n co cd rt x y z w : Int} (hv : val3 b r p v q t b1 r1 p1 v1 q1 t1 b2 r2 p2 v2 q2 t2) (hn : inNC n co) (htn : tn < 16) (hr : rpE cd rt x y z w = 0) (hc : cd = 2 ∨ cd = 3) : prE tn n co b r p v q t b1 r1 p1 v1 q1 t1 b2 r2 p2 v2 q2 t2 cd rt x y z w b r p (mdL0 n co b r p v q t b1 r1 p1 v1 q1 t1 b2 r2 p2 v2 q2 t2) (fiQ b r p v q t n) (fiT t n) b1 r1 p1 (mdL1 n co b r p v q t b1 r1 p1 v1 q1 t1 b2 r2 p2 v2 q2 t2) (fiQ b1 r1 p1 v1 q1 t1 n) (fiT t1 n) b2 r2 p2 (mdL2 n co b r p v q t b1 r1 p1 v1 q1 t1 b2 r2 p2 v2 q2 t2) (fiQ b2 r2 p2 v2 q2 t2 n) (fiT t2 n) = 0 := by
  unfold prE chE
  rw [if_pos ⟨htn, rwB_iff.2 hv.1, rwB_iff.2 (md_rows hv hn), hr, hc⟩]
theorem md_prEy {tn b r p v q t b1 r1 p1 v1 q1 t1 b2 r2 p2 v2 q2 t2 n co b3 r3 p3 v3 q3 t3 b4 r4 p4 v4 q4 t4 b5 r5 p5 v5 q5 t5 : Int} (hv : val3 b r p v q t b1 r1 p1 v1 q1 t1 b2 r2 p2 v2 q2 t2) (hn : inNC n co) (htn : tn < 16) (h3 : bkE b3 r3 p3 v3 q3 = 0) (h4 : bkE b4 r4 p4 v4 q4 = 0) (h5 : bkE b5 r5 p5 v5 q5 = 0) :
    prE tn n co b r p v q t b1 r1 p1 v1 q1 t1 b2 r2 p2 v2 q2 t2 (mdCd n co b r p v q t b1 r1 p1 v1 q1 t1 b2 r2 p2 v2 q2 t2) tn (mdL0 n co b r p v q t b1 r1 p1 v1 q1 t1 b2 r2 p2 v2 q2 t2) (mdL1 n co b r p v q t b1 r1 p1 v1 q1 t1 b2 r2 p2 v2 q2 t2) (mdL2 n co b r p v q t b1 r1 p1 v1 q1 t1 b2 r2 p2 v2 q2 t2) (mdWt n co b r p v q t b1 r1 p1 v1 q1 t1 b2 r2 p2 v2 q2 t2) b3 r3 p3 v3 q3 t3 b4 r4 p4 v4 q4 t4 b5 r5 p5 v5 q5 t5 = 0 := by
  unfold prE chE
  rw [if_pos ⟨htn, rwB_iff.2 hv.1, rwB_iff.2 ⟨h3, h4, h5⟩, (md_rp hv hn htn).1, (md_rp hv hn htn).2⟩]
theorem prA_list {tn n co b r p v q t b1 r1 p1 v1 q1 t1 b2 r2 p2 v2 q2 t2 cd rt x y z w b3 r3 p3 v3 q3 t3 b4 r4 p4 v4 q4 t4 b5 r5 p5 v5 q5 t5 : Int} (h : prA tn n co b r p v q t b1 r1 p1 v1 q1 t1 b2 r2 p2 v2 q2 t2 cd rt x y z w b3 r3 p3 v3 q3 t3 b4 r4 p4 v4 q4 t4 b5 r5 p5 v5 q5 t5 = true) : [cd, rt, x, y, z, w, b3, r3, p3, v3, q3, t3, b4, r4, p4, v4, q4, t4, b5, r5, p5, v5, q5, t5] = [mdCd n co b r p v q t b1 r1 p1 v1 q1 t1 b2 r2 p2 v2 q2 t2, tn, mdL0 n co b r p v q t b1 r1 p1 v1 q1 t1 b2 r2 p2 v2 q2 t2, mdL1 n co b r p v q t b1 r1 p1 v1 q1 t1 b2 r2 p2 v2 q2 t2, mdL2 n co b r p v q t b1 r1 p1 v1 q1 t1 b2 r2 p2 v2 q2 t2, mdWt n co b r p v q t b1 r1 p1 v1 q1 t1 b2 r2 p2 v2 q2 t2, b, r, p, mdL0 n co b r p v q t b1 r1 p1 v1 q1 t1 b2 r2 p2 v2 q2 t2, fiQ b r p v q t n, fiT t n, b1, r1, p1, mdL1 n co b r p v q t b1 r1 p1 v1 q1 t1 b2 r2 p2 v2 q2 t2, fiQ b1 r1 p1 v1 q1 t1 n, fiT t1 n, b2, r2, p2, mdL2 n co b r p v q t b1 r1 p1 v1 q1 t1 b2 r2 p2 v2 q2 t2, fiQ b2 r2 p2 v2 q2 t2 n, fiT t2 n] := by
  unfold prA at h
  split at h
  · exact of_decide_eq_true h
  · cases h
theorem prA_of {tn n co b r p v q t b1 r1 p1 v1 q1 t1 b2 r2 p2 v2 q2 t2 cd rt x y z w b3 r3 p3 v3 q3 t3 b4 r4 p4 v4 q4 t4 b5 r5 p5 v5 q5 t5 : Int} (he : prE tn n co b r p v q t b1 r1 p1 v1 q1 t1 b2 r2 p2 v2 q2 t2 cd rt x y z w b3 r3 p3 v3 q3 t3 b4 r4 p4 v4 q4 t4 b5 r5 p5 v5 q5 t5 = 0) (h : [cd, rt, x, y, z, w, b3, r3, p3, v3, q3, t3, b4, r4, p4, v4, q4, t4, b5, r5, p5, v5, q5, t5] = [mdCd n co b r p v q t b1 r1 p1 v1 q1 t1 b2 r2 p2 v2 q2 t2, tn, mdL0 n co b r p v q t b1 r1 p1 v1 q1 t1 b2 r2 p2 v2 q2 t2, mdL1 n co b r p v q t b1 r1 p1 v1 q1 t1 b2 r2 p2 v2 q2 t2, mdL2 n co b r p v q t b1 r1 p1 v1 q1 t1 b2 r2 p2 v2 q2 t2, mdWt n co b r p v q t b1 r1 p1 v1 q1 t1 b2 r2 p2 v2 q2 t2, b, r, p, mdL0 n co b r p v q t b1 r1 p1 v1 q1 t1 b2 r2 p2 v2 q2 t2, fiQ b r p v q t n, fiT t n, b1, r1, p1, mdL1 n co b r p v q t b1 r1 p1 v1 q1 t1 b2 r2 p2 v2 q2 t2, fiQ b1 r1 p1 v1 q1 t1 n, fiT t1 n, b2, r2, p2, mdL2 n co b r p v q t b1 r1 p1 v1 q1 t1 b2 r2 p2 v2 q2 t2, fiQ b2 r2 p2 v2 q2 t2 n, fiT t2 n]) : prA tn n co b r p v q t b1 r1 p1 v1 q1 t1 b2 r2 p2 v2 q2 t2 cd rt x y z w b3 r3 p3 v3 q3 t3 b4 r4 p4 v4 q4 t4 b5 r5 p5 v5 q5 t5 = true := by
  unfold prA
  rw [if_pos he]
  exact decide_eq_true h
end MeterS
