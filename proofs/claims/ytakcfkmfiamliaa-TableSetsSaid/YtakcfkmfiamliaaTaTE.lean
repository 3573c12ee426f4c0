/- What the functions compute, and the law. No condition. -/
import Derived.Test.YtakcfkmfiamliaaTwMK
import Derived.Test.YtakcfkmfiamliaaDamXM
import Derived.Test.YtakcfkmfiamliaaDamYA
import Derived.Test.YtakcfkmfiamliaaProg
import Derived.KernelRfl
set_option linter.unusedSectionVars false
set_option linter.unusedVariables false
set_option linter.unusedSimpArgs false
section
namespace MeterS
open Go Go.Dam Go.Proofs
set_option maxRecDepth 1000000
/-- The error of a bucket. -/
def bkE (b r p v q : Int) : Int := if limE b r p = 0 ∧ 0 ≤ v ∧ v ≤ b ∧ 0 ≤ q ∧ q < p ∧ ¬ (v = b ∧ 0 < q) then 0 else 8
theorem limE_is {b r p : Int} (h : limE b r p = 0) : 1 ≤ b ∧ b ≤ 1000000000 ∧ 0 ≤ r ∧ r ≤ 1000000000 ∧ 1 ≤ p ∧ p ≤ 1000000000 := by
 unfold limE at h; split at h
 ·cases h
 ·omega
/-- What has come in, in parts. -/
def inN (r q t n : Int) : Int := (n - t) * r + q
/-- The level and the part of a filled bucket. -/
def fiV (b r p v q t n : Int) : Int := if n ≤ t then v else if b - v ≤ inN r q t n / p then b else v + inN r q t n / p
def fiQ (b r p v q t n : Int) : Int := if n ≤ t then q else if b - v ≤ inN r q t n / p then 0 else inN r q t n % p
def fiT (t n : Int) : Int := if n ≤ t then t else n
theorem fold64' (a : Int) : a / 18446744073709551616 * 18446744073709551616 + a % 18446744073709551616 = a := Int.ediv_mul_add_emod a _
theorem bkE_is {b r p v q : Int} (h : bkE b r p v q = 0) : limE b r p = 0 ∧ 0 ≤ v ∧ v ≤ b ∧ 0 ≤ q ∧ q < p ∧ ¬ (v = b ∧ 0 < q) := by
 unfold bkE at h; split at h
 ·assumption
 ·cases h
theorem mul_in {t r : Int} (t0 : 0 ≤ t) (t1 : t < 18446744073709551616) (r0 : 0 ≤ r) (r1 : r ≤ 1000000000) : 0 ≤ t * r ∧ t * r ≤ 18446744073709551615000000000 := by
 refine ⟨Int.mul_nonneg t0 r0, ?_⟩
 have := Int.mul_le_mul (show t ≤ 18446744073709551615 by omega) r1 r0 (by decide)
 exact this
variable [Glo]
noncomputable def bfillA_c0 (r q t n : Int) : Int := if opI .sub .u64 n t * IntKind.u64.wrap r / 18446744073709551616 * 18446744073709551616 + opI .sub .u64 n t * IntKind.u64.wrap r % 18446744073709551616 + (0 * 18446744073709551616 + IntKind.u64.wrap q) < 340282366920938463463374607431768211456 then opI .sub .u64 n t * IntKind.u64.wrap r / 18446744073709551616 * 18446744073709551616 + opI .sub .u64 n t * IntKind.u64.wrap r % 18446744073709551616 + (0 + IntKind.u64.wrap q) else 0
noncomputable def bfillA_c1 (r q t n : Int) := (bfillA_c0 r q t n) / 18446744073709551616 * 18446744073709551616 + (bfillA_c0 r q t n) % 18446744073709551616
noncomputable def bfillA_c2 (r q t n : Int) : Int := if opI .sub .u64 n t * IntKind.u64.wrap r / 18446744073709551616 * 18446744073709551616 + opI .sub .u64 n t * IntKind.u64.wrap r % 18446744073709551616 + (0 * 18446744073709551616 + IntKind.u64.wrap q) < 340282366920938463463374607431768211456 then opI .sub .u64 n t * IntKind.u64.wrap r / 18446744073709551616 * 18446744073709551616 + opI .sub .u64 n t * IntKind.u64.wrap r % 18446744073709551616 + (0 * 18446744073709551616 + IntKind.u64.wrap q) else 0
noncomputable def bfillA_c3 (r q t n : Int) := (bfillA_c2 r q t n) / 18446744073709551616 * 18446744073709551616 + (bfillA_c2 r q t n) % 18446744073709551616
noncomputable def bfillA_c4 (r p q t n : Int) : Int := if (bfillA_c3 r q t n) / IntKind.u64.wrap p / 18446744073709551616 = 0 then 0 else 16
noncomputable def bfillA_c5 (r p q t n : Int) : Int := if (bfillA_c3 r q t n) / IntKind.u64.wrap p / 18446744073709551616 = 0 then (bfillA_c1 r q t n) / IntKind.u64.wrap p % 18446744073709551616 else 0
noncomputable def bfillA_c6 (b r p v q t n : Int) := cmpI .geq (bfillA_c5 r p q t n) (IntKind.u64.wrap (opI .sub .i64 b v))
noncomputable def bfillA_T (b : Int) (r : Int) (p : Int) (v : Int) (q : Int) (t : Int) (n : Int) : Tr D := .d (cmpI .leq n t) (fun e0 => .lf (D.agg [i64 b, i64 r, i64 p, i64 v, i64 q, u64 t])) (fun e0 => .s (IntKind.u64.wrap r < 18446744073709551616) (.s (0 ≤ IntKind.u64.wrap r) (.s (opI .sub .u64 n t < 18446744073709551616) (.s (0 ≤ opI .sub .u64 n t) (.s (IntKind.u64.wrap q < 18446744073709551616) (.s (0 ≤ IntKind.u64.wrap q) (.s ((0 : Int) < (18446744073709551616 : Int)) (.s ((0 : Int) ≤ (0 : Int)) (.s (opI .sub .u64 n t * IntKind.u64.wrap r % 18446744073709551616 < 18446744073709551616) (.s (0 ≤ opI .sub .u64 n t * IntKind.u64.wrap r % 18446744073709551616) (.s (opI .sub .u64 n t * IntKind.u64.wrap r / 18446744073709551616 < 18446744073709551616) (.s (0 ≤ opI .sub .u64 n t * IntKind.u64.wrap r / 18446744073709551616) (.s ((bfillA_c0 r q t n) % 18446744073709551616 < 18446744073709551616) (.s (0 ≤ (bfillA_c0 r q t n) % 18446744073709551616) (.s ((bfillA_c0 r q t n) / 18446744073709551616 < 18446744073709551616) (.s (0 ≤ (bfillA_c0 r q t n) / 18446744073709551616) (.s (IntKind.u64.wrap p < 4294967296) (.s (0 < IntKind.u64.wrap p) (.d (cmpI .neq (bfillA_c4 r p q t n) 0) (fun e1 => .p (.c 8) (.lf (D.agg [i64 b, i64 r, i64 p, i64 b, i64 0, u64 n]))) (fun e1 => .p (.c 7) (.d (bfillA_c6 b r p v q t n) (fun e2 => .lf (D.agg [i64 b, i64 r, i64 p, i64 b, i64 0, u64 n])) (fun e2 => .lf (D.agg [i64 b, i64 r, i64 p, i64 (opI .add .i64 v (IntKind.i64.wrap (bfillA_c5 r p q t n))), i64 (IntKind.i64.wrap ((bfillA_c1 r q t n) % IntKind.u64.wrap p)), u64 n])))))))))))))))))))))))
theorem bfillA_L (b r p v q t n : Int) : Leaves (fun l => fnX Try.prog (X6) 100000 l 103 [D.agg [i64 b, i64 r, i64 p, i64 v, i64 q, u64 t], u64 n]) (bfillA_T b r p v q t n) [] [] := by refine ⟨fun _ => ?_, fun _ => ⟨fun _ => ?_, fun _ => ⟨fun _ => ?_, fun _ => ?_⟩⟩⟩ <;> (show _ = _; kernel_rfl)
theorem bfillA_calls (b r p v q t n : Int) (res : D) (h0 : At (fun r => res = r) (bfillA_T b r p v q t n) [true] True) (h1 : At (fun r => res = r) (bfillA_T b r p v q t n) [false, true] True) (h2 : At (fun r => res = r) (bfillA_T b r p v q t n) [false, false, true] True) (h3 : At (fun r => res = r) (bfillA_T b r p v q t n) [false, false, false] True) : CallsD Try.prog 103 [D.agg [i64 b, i64 r, i64 p, i64 v, i64 q, u64 t], u64 n] res := tree_calls (hX6) (bfillA_L b r p v q t n) ⟨fun e0 => h0 e0, fun e0 => ⟨fun e1 => h1 e0 e1, fun e1 => ⟨fun e2 => h2 e0 e1 e2, fun e2 => h3 e0 e1 e2⟩⟩⟩
theorem bfillA_ok (b r p v q t n : Int) (h : bkE b r p v q = 0) (t0 : 0 ≤ t) (t1 : t < 18446744073709551616) (n0 : 0 ≤ n) (n1 : n < 18446744073709551616) :
  CallsD Try.prog 103 [.agg [i64 b, i64 r, i64 p, i64 v, i64 q, u64 t], u64 n] (.agg [i64 b, i64 r, i64 p, i64 (fiV b r p v q t n), i64 (fiQ b r p v q t n), u64 (fiT t n)]) := by
 obtain ⟨hl, v0, vb, q0, qp, _⟩ := bkE_is h
 obtain ⟨b0, b1, r0, r1, p0, p1⟩ := limE_is hl
 by_cases hn : n ≤ t
 ·refine bfillA_calls b r p v q t n _ ?_ ?_ ?_ ?_ <;> dsimp only [At, Tr.q, bfillA_T]
  ·intro _; refine ⟨trivial, ?_⟩; unfold fiV fiQ fiT; rw [if_pos hn, if_pos hn, if_pos hn]
  all_goals
   intro a; rw [leq_f] at a; omega
 ·have wr : IntKind.wrap .u64 r = r := wrap_u64_of (by omega) (by omega)
  have wp : IntKind.wrap .u64 p = p := wrap_u64_of (by omega) (by omega)
  have wq : IntKind.wrap .u64 q = q := wrap_u64_of (by omega) (by omega)
  have es : opI .sub .u64 n t = n - t := by rw [opI_sub, wrap_u64]; omega
  have eb : opI .sub .i64 b v = b - v := by rw [opI_sub, wrap_i64_of (by omega) (by omega)]
  have wb : IntKind.wrap .u64 (b - v) = b - v := wrap_u64_of (by omega) (by omega)
  obtain ⟨m0, m1⟩ := mul_in (t := n - t) (r := r) (by omega) (by omega) r0 r1
  have hS : (n - t) * r + q < 340282366920938463463374607431768211456 := by omega
  have d0 : 0 ≤ ((n - t) * r + q) / p := Int.ediv_nonneg (by omega) (by omega)
  have d1 : ((n - t) * r + q) / p ≤ ((n - t) * r + q) := Int.ediv_le_self _ (by omega)
  have e0 := Int.emod_nonneg (((n - t) * r + q)) (show p ≠ 0 by omega)
  have e1 := Int.emod_lt_of_pos (((n - t) * r + q)) (show 0 < p by omega)
  have hT : fiT t n = n := by unfold fiT; rw [if_neg hn]
  have hA : b - v ≤ ((n - t) * r + q) / p → fiV b r p v q t n = b ∧ fiQ b r p v q t n = 0 := fun g => by
   have g : b - v ≤ inN r q t n / p := g
   unfold fiV fiQ; rw [if_neg hn, if_neg hn, if_pos g, if_pos g]; exact ⟨rfl, rfl⟩
  have hB : ¬ b - v ≤ ((n - t) * r + q) / p → fiV b r p v q t n = v + ((n - t) * r + q) / p ∧ fiQ b r p v q t n = ((n - t) * r + q) % p := fun g => by
   have g : ¬ b - v ≤ inN r q t n / p := g
   unfold fiV fiQ; rw [if_neg hn, if_neg hn, if_neg g, if_neg g]; exact ⟨rfl, rfl⟩
  refine bfillA_calls b r p v q t n _ ?_ ?_ ?_ ?_ <;> dsimp only [At, Tr.q, bfillA_T]
  all_goals simp only [bfillA_c6, bfillA_c5, bfillA_c4, bfillA_c3, bfillA_c2, bfillA_c1, bfillA_c0, wr, wp, wq, es, eb, wb, fold64', Int.zero_mul, Int.zero_add, if_pos hS, leq_t, leq_f]
  ·intro a; omega
  ·intro _ a
   have g : ¬ ((n - t) * r + q) / p / 18446744073709551616 = 0 := fun g => by simp only [if_pos g] at a; cases a
   refine ⟨by simp only [and_true]; omega, ?_⟩
   obtain ⟨z1, z2⟩ := hA (by omega)
   rw [z1, z2, hT]
  ·intro _ a a2
   have g : ((n - t) * r + q) / p / 18446744073709551616 = 0 := by
    by_cases g : ((n - t) * r + q) / p / 18446744073709551616 = 0
    ·exact g
    ·simp only [if_neg g] at a; cases a
   simp only [if_pos g, geq_t] at a2
   refine ⟨by simp only [and_true]; omega, ?_⟩
   obtain ⟨z1, z2⟩ := hA (by omega)
   rw [z1, z2, hT]
  ·intro _ a a2
   have g : ((n - t) * r + q) / p / 18446744073709551616 = 0 := by
    by_cases g : ((n - t) * r + q) / p / 18446744073709551616 = 0
    ·exact g
    ·simp only [if_neg g] at a; cases a
   simp only [if_pos g, geq_f] at a2 ⊢
   refine ⟨by simp only [and_true]; omega, ?_⟩
   obtain ⟨z1, z2⟩ := hB (by omega)
   rw [z1, z2, hT]
   have g1 : ((n - t) * r + q) / p % 18446744073709551616 = ((n - t) * r + q) / p := by omega
   have g2 : ((n - t) * r + q) / p < b - v := by omega
   rw [g1, wrap_i64_of (n := ((n - t) * r + q) / p) (by omega) (by omega), wrap_i64_of (n := ((n - t) * r + q) % p) (by omega) (by omega), opI_add, wrap_i64_of (by omega) (by omega)]
noncomputable def bfillB_c0 (r q t n : Int) : Int := if opI .sub .u64 n t * IntKind.u64.wrap r / 18446744073709551616 * 18446744073709551616 + opI .sub .u64 n t * IntKind.u64.wrap r % 18446744073709551616 + (0 * 18446744073709551616 + IntKind.u64.wrap q) < 340282366920938463463374607431768211456 then opI .sub .u64 n t * IntKind.u64.wrap r / 18446744073709551616 * 18446744073709551616 + opI .sub .u64 n t * IntKind.u64.wrap r % 18446744073709551616 + (0 + IntKind.u64.wrap q) else 0
noncomputable def bfillB_c1 (r q t n : Int) := (bfillB_c0 r q t n) / 18446744073709551616 * 18446744073709551616 + (bfillB_c0 r q t n) % 18446744073709551616
noncomputable def bfillB_c2 (r p q t n : Int) := (bfillB_c1 r q t n) / IntKind.u64.wrap p / 18446744073709551616 * 18446744073709551616 + (bfillB_c1 r q t n) / IntKind.u64.wrap p % 18446744073709551616
noncomputable def bfillB_c3 (b r p v q t n : Int) := cmpZ (bfillB_c2 r p q t n) (0 + IntKind.u64.wrap (opI .sub .i64 b v))
noncomputable def bfillB_T (b : Int) (r : Int) (p : Int) (v : Int) (q : Int) (t : Int) (n : Int) : Tr D := .d (cmpI .lss n t) (fun e0 => .lf (D.agg [i64 b, i64 r, i64 p, i64 v, i64 q, u64 t])) (fun e0 => .s (IntKind.u64.wrap r < 18446744073709551616) (.s (0 ≤ IntKind.u64.wrap r) (.s (opI .sub .u64 n t < 18446744073709551616) (.s (0 ≤ opI .sub .u64 n t) (.s (IntKind.u64.wrap q < 18446744073709551616) (.s (0 ≤ IntKind.u64.wrap q) (.s ((0 : Int) < (18446744073709551616 : Int)) (.s ((0 : Int) ≤ (0 : Int)) (.s (opI .sub .u64 n t * IntKind.u64.wrap r % 18446744073709551616 < 18446744073709551616) (.s (0 ≤ opI .sub .u64 n t * IntKind.u64.wrap r % 18446744073709551616) (.s (opI .sub .u64 n t * IntKind.u64.wrap r / 18446744073709551616 < 18446744073709551616) (.s (0 ≤ opI .sub .u64 n t * IntKind.u64.wrap r / 18446744073709551616) (.s ((bfillB_c0 r q t n) % 18446744073709551616 < 18446744073709551616) (.s (0 ≤ (bfillB_c0 r q t n) % 18446744073709551616) (.s ((bfillB_c0 r q t n) / 18446744073709551616 < 18446744073709551616) (.s (0 ≤ (bfillB_c0 r q t n) / 18446744073709551616) (.s (IntKind.u64.wrap p < 4294967296) (.s (0 < IntKind.u64.wrap p) (.s (IntKind.u64.wrap (opI .sub .i64 b v) < 18446744073709551616) (.s (0 ≤ IntKind.u64.wrap (opI .sub .i64 b v)) (.s ((bfillB_c1 r q t n) / IntKind.u64.wrap p % 18446744073709551616 < 18446744073709551616) (.s (0 ≤ (bfillB_c1 r q t n) / IntKind.u64.wrap p % 18446744073709551616) (.d (cmpI .geq (bfillB_c3 b r p v q t n) 0) (fun e1 => .lf (D.agg [i64 b, i64 r, i64 p, i64 b, i64 0, u64 n])) (fun e1 => .lf (D.agg [i64 b, i64 r, i64 p, i64 (opI .add .i64 v (IntKind.i64.wrap ((bfillB_c1 r q t n) / IntKind.u64.wrap p % 18446744073709551616))), i64 (IntKind.i64.wrap ((bfillB_c1 r q t n) % IntKind.u64.wrap p)), u64 n])))))))))))))))))))))))))
theorem bfillB_L (b r p v q t n : Int) : Leaves (fun l => fnX Try.prog (X6) 100000 l 104 [D.agg [i64 b, i64 r, i64 p, i64 v, i64 q, u64 t], u64 n]) (bfillB_T b r p v q t n) [] [] := by refine ⟨fun _ => ?_, fun _ => ⟨fun _ => ?_, fun _ => ?_⟩⟩ <;> (show _ = _; kernel_rfl)
theorem bfillB_calls (b r p v q t n : Int) (res : D) (h0 : At (fun r => res = r) (bfillB_T b r p v q t n) [true] True) (h1 : At (fun r => res = r) (bfillB_T b r p v q t n) [false, true] True) (h2 : At (fun r => res = r) (bfillB_T b r p v q t n) [false, false] True) : CallsD Try.prog 104 [D.agg [i64 b, i64 r, i64 p, i64 v, i64 q, u64 t], u64 n] res := tree_calls (hX6) (bfillB_L b r p v q t n) ⟨fun e0 => h0 e0, fun e0 => ⟨fun e1 => h1 e0 e1, fun e1 => h2 e0 e1⟩⟩
theorem fi_same {b r p v q t : Int} (h : bkE b r p v q = 0) : (if b - v ≤ inN r q t t / p then b else v + inN r q t t / p) = v ∧ (if b - v ≤ inN r q t t / p then 0 else inN r q t t % p) = q := by
 obtain ⟨hl, v0, vb, q0, qp, hq⟩ := bkE_is h
 have e : inN r q t t = q := by unfold inN; rw [Int.sub_self, Int.zero_mul]; omega
 have d : q / p = 0 := Int.ediv_eq_zero_of_lt q0 qp
 have m : q % p = q := Int.emod_eq_of_lt q0 qp
 rw [e, d, m]
 constructor <;> split <;> omega
theorem bfillB_ok (b r p v q t n : Int) (h : bkE b r p v q = 0) (t0 : 0 ≤ t) (t1 : t < 18446744073709551616) (n0 : 0 ≤ n) (n1 : n < 18446744073709551616) :
  CallsD Try.prog 104 [.agg [i64 b, i64 r, i64 p, i64 v, i64 q, u64 t], u64 n] (.agg [i64 b, i64 r, i64 p, i64 (fiV b r p v q t n), i64 (fiQ b r p v q t n), u64 (fiT t n)]) := by
 obtain ⟨hl, v0, vb, q0, qp, hqq⟩ := bkE_is h
 obtain ⟨b0, b1, r0, r1, p0, p1⟩ := limE_is hl
 by_cases hn : n < t
 ·refine bfillB_calls b r p v q t n _ ?_ ?_ ?_ <;> dsimp only [At, Tr.q, bfillB_T]
  ·intro _; refine ⟨trivial, ?_⟩; unfold fiV fiQ fiT; rw [if_pos (by omega), if_pos (by omega), if_pos (by omega)]
  all_goals
   intro a; rw [lss_f] at a; omega
 ·have wr : IntKind.wrap .u64 r = r := wrap_u64_of (by omega) (by omega)
  have wp : IntKind.wrap .u64 p = p := wrap_u64_of (by omega) (by omega)
  have wq : IntKind.wrap .u64 q = q := wrap_u64_of (by omega) (by omega)
  have es : opI .sub .u64 n t = n - t := by rw [opI_sub, wrap_u64]; omega
  have eb : opI .sub .i64 b v = b - v := by rw [opI_sub, wrap_i64_of (by omega) (by omega)]
  have wb : IntKind.wrap .u64 (b - v) = b - v := wrap_u64_of (by omega) (by omega)
  obtain ⟨m0, m1⟩ := mul_in (t := n - t) (r := r) (by omega) (by omega) r0 r1
  have hS : (n - t) * r + q < 340282366920938463463374607431768211456 := by omega
  have d0 : 0 ≤ ((n - t) * r + q) / p := Int.ediv_nonneg (by omega) (by omega)
  have d1 : ((n - t) * r + q) / p ≤ ((n - t) * r + q) := Int.ediv_le_self _ (by omega)
  have e0 := Int.emod_nonneg (((n - t) * r + q)) (show p ≠ 0 by omega)
  have e1 := Int.emod_lt_of_pos (((n - t) * r + q)) (show 0 < p by omega)
  have hT : fiT t n = n := by unfold fiT; split <;> omega
  have hN : inN r q t n = (n - t) * r + q := rfl
  have hV : fiV b r p v q t n = if b - v ≤ inN r q t n / p then b else v + inN r q t n / p := by
   unfold fiV
   by_cases e : n ≤ t
   ·obtain rfl : n = t := by omega
    rw [if_pos e]; exact (fi_same h).1.symm
   ·rw [if_neg e]
  have hQ : fiQ b r p v q t n = if b - v ≤ inN r q t n / p then 0 else inN r q t n % p := by
   unfold fiQ
   by_cases e : n ≤ t
   ·obtain rfl : n = t := by omega
    rw [if_pos e]; exact (fi_same h).2.symm
   ·rw [if_neg e]
  generalize hM : (n - t) * r = m at *
  have w : m / 18446744073709551616 * 18446744073709551616 + m % 18446744073709551616 = m := fold64' m
  have k0 : bfillB_c0 r q t n = m + q := by unfold bfillB_c0; rw [es, wr, wq, hM, w, if_pos (by omega)]; omega
  have k1 : bfillB_c1 r q t n = m + q := by unfold bfillB_c1; rw [k0]; exact fold64' _
  have k2 : bfillB_c2 r p q t n = (m + q) / p := by unfold bfillB_c2; rw [k1, wp]; exact fold64' _
  have k3 : bfillB_c3 b r p v q t n = cmpZ ((m + q) / p) (b - v) := by unfold bfillB_c3; rw [k2, eb, wb, Int.zero_add]
  refine bfillB_calls b r p v q t n _ ?_ ?_ ?_ <;> dsimp only [At, Tr.q, bfillB_T]
  all_goals simp only [k0, k1, k2, k3, es, eb, wr, wp, wq, wb, hM, geq_t, geq_f, lss_t, lss_f]
  ·intro a; omega
  ·intro _ a
   have g : b - v ≤ inN r q t n / p := by rw [hN]; unfold cmpZ at a; (repeat' split at a) <;> omega
   refine ⟨by simp only [and_true]; omega, ?_⟩
   rw [hV, hQ, hT, if_pos g, if_pos g]
  ·intro _ a
   have g : ¬ b - v ≤ inN r q t n / p := by rw [hN]; unfold cmpZ at a; (repeat' split at a) <;> omega
   refine ⟨by simp only [and_true]; omega, ?_⟩
   rw [hV, hQ, hT, if_neg g, if_neg g, hN]
   rw [hN] at g
   have g1 : (m + q) / p % 18446744073709551616 = (m + q) / p := by omega
   rw [g1, wrap_i64_of (n := (m + q) / p) (by omega) (by omega), wrap_i64_of (n := (m + q) % p) (by omega) (by omega), opI_add, wrap_i64_of (by omega) (by omega)]
end MeterS
end

section
namespace TableS
open Go Go.Dam Go.Proofs
set_option maxRecDepth 1000000
abbrev i64 (n : Int) : D := .v (.int .i64 n)
abbrev u64 (n : Int) : D := .v (.int .u64 n)
abbrev u32 (n : Int) : D := .v (.int .u32 n)
abbrev bo (b : Bool) : D := .v (.bool b)
abbrev ri (xs : List Int) : D := .rc [.ints .i64 xs]
abbrev ru (xs : List Int) : D := .rc [.ints .u32 xs]
abbrev rb (xs : List Bool) : D := .rc [.bools xs]
@[reducible] def G0 : Glo := ⟨fun _ => [], fun _ => false⟩
variable [Glo]
def X0 : Contracts := noCon
theorem hX0 : ConOK Try.prog X0 := noCon_ok
end TableS
end

section
namespace TableS
open Go Go.Dam Go.Proofs
set_option maxRecDepth 1000000
variable [Glo]
end TableS
end

section
namespace TableS
open Go Go.Dam Go.Proofs
set_option maxRecDepth 1000000
section
variable [Glo]
noncomputable def clnN_T (cp : Nat) : Tr D := .p (.c 0) (.lf (D.v (Value.slice none 0 0)))
theorem clnN_L (cp : Nat) : Leaves (fun l => fnX Try.prog (X0) 100000 l 82 [D.v (Value.slice none 0 cp)]) (clnN_T cp) [] [] := by show _ = _; kernel_rfl
theorem clnN_calls (cp : Nat) (res : D) (h0 : At (fun r => res = r) (clnN_T cp) [] True) : CallsD Try.prog 82 [D.v (Value.slice none 0 cp)] res := tree_calls (hX0) (clnN_L cp) h0
noncomputable def clnNi_T (cp : Nat) : Tr D := .p (.c 0) (.lf (D.v (Value.slice none 0 0)))
theorem clnNi_L (cp : Nat) : Leaves (fun l => fnX Try.prog (X0) 100000 l 77 [D.v (Value.slice none 0 cp)]) (clnNi_T cp) [] [] := by show _ = _; kernel_rfl
theorem clnNi_calls (cp : Nat) (res : D) (h0 : At (fun r => res = r) (clnNi_T cp) [] True) : CallsD Try.prog 77 [D.v (Value.slice none 0 cp)] res := tree_calls (hX0) (clnNi_L cp) h0
noncomputable def clnNu_T (cp : Nat) : Tr D := .p (.c 0) (.lf (D.v (Value.slice none 0 0)))
theorem clnNu_L (cp : Nat) : Leaves (fun l => fnX Try.prog (X0) 100000 l 80 [D.v (Value.slice none 0 cp)]) (clnNu_T cp) [] [] := by show _ = _; kernel_rfl
theorem clnNu_calls (cp : Nat) (res : D) (h0 : At (fun r => res = r) (clnNu_T cp) [] True) : CallsD Try.prog 80 [D.v (Value.slice none 0 cp)] res := tree_calls (hX0) (clnNu_L cp) h0
noncomputable def clnNk_T (cp : Nat) : Tr D := .p (.c 0) (.lf (D.v (Value.slice none 0 0)))
theorem clnNk_L (cp : Nat) : Leaves (fun l => fnX Try.prog (X0) 100000 l 81 [D.v (Value.slice none 0 cp)]) (clnNk_T cp) [] [] := by show _ = _; kernel_rfl
theorem clnNk_calls (cp : Nat) (res : D) (h0 : At (fun r => res = r) (clnNk_T cp) [] True) : CallsD Try.prog 81 [D.v (Value.slice none 0 cp)] res := tree_calls (hX0) (clnNk_L cp) h0
noncomputable def clnNc_T (cp : Nat) : Tr D := .p (.c 0) (.lf (D.v (Value.slice none 0 0)))
theorem clnNc_L (cp : Nat) : Leaves (fun l => fnX Try.prog (X0) 100000 l 83 [D.v (Value.slice none 0 cp)]) (clnNc_T cp) [] [] := by show _ = _; kernel_rfl
theorem clnNc_calls (cp : Nat) (res : D) (h0 : At (fun r => res = r) (clnNc_T cp) [] True) : CallsD Try.prog 83 [D.v (Value.slice none 0 cp)] res := tree_calls (hX0) (clnNc_L cp) h0
end
section
attribute [local instance] GL
noncomputable def clnB_T (ys : List Bool) : Tr D := .p (.c 0) (.s ((Col0.bools ys).len = rowLen0 [.bools ys]) (.s (rowLen0 [.bools ys] * 1 ≤ 17592186044416) (.q (rowLen0 [.bools ys]) (.lf (D.oc [.bools ys])))))
theorem clnB_L (ys : List Bool) : Leaves (fun l => fnX Try.prog (X0) 100000 l 82 [rb ys]) (clnB_T ys) [] [] := by show _ = _; kernel_rfl
theorem clnB_calls (ys : List Bool) (res : D) (h0 : At (fun r => res = r) (clnB_T ys) [] True) : CallsD Try.prog 82 [rb ys] res := tree_calls (hX0) (clnB_L ys) h0
noncomputable def clnI_T (xs : List Int) : Tr D := .p (.c 0) (.s ((Col0.ints .i64 xs).len = rowLen0 [.ints .i64 xs]) (.s (rowLen0 [.ints .i64 xs] * 8 ≤ 17592186044416) (.q (rowLen0 [.ints .i64 xs]) (.lf (D.oc [.ints .i64 xs])))))
theorem clnI_L (xs : List Int) : Leaves (fun l => fnX Try.prog (X0) 100000 l 77 [ri xs]) (clnI_T xs) [] [] := by show _ = _; kernel_rfl
theorem clnI_calls (xs : List Int) (res : D) (h0 : At (fun r => res = r) (clnI_T xs) [] True) : CallsD Try.prog 77 [ri xs] res := tree_calls (hX0) (clnI_L xs) h0
noncomputable def clnU_T (xs : List Int) : Tr D := .p (.c 0) (.s ((Col0.ints .u32 xs).len = rowLen0 [.ints .u32 xs]) (.s (rowLen0 [.ints .u32 xs] * 4 ≤ 17592186044416) (.q (rowLen0 [.ints .u32 xs]) (.lf (D.oc [.ints .u32 xs])))))
theorem clnU_L (xs : List Int) : Leaves (fun l => fnX Try.prog (X0) 100000 l 80 [ru xs]) (clnU_T xs) [] [] := by show _ = _; kernel_rfl
theorem clnU_calls (xs : List Int) (res : D) (h0 : At (fun r => res = r) (clnU_T xs) [] True) : CallsD Try.prog 80 [ru xs] res := tree_calls (hX0) (clnU_L xs) h0
noncomputable def clnK_T (x1 : List Int) (x2 : List Int) (x3 : List Int) (x4 : List Int) (x5 : List Int) (x6 : List Int) : Tr D := .p (.c 0) (.s ((Col0.ints .u64 x6).len = rowLen0 [.ints .i64 x1, .ints .i64 x2, .ints .i64 x3, .ints .i64 x4, .ints .i64 x5, .ints .u64 x6]) (.s ((Col0.ints .i64 x5).len = rowLen0 [.ints .i64 x1, .ints .i64 x2, .ints .i64 x3, .ints .i64 x4, .ints .i64 x5, .ints .u64 x6]) (.s ((Col0.ints .i64 x4).len = rowLen0 [.ints .i64 x1, .ints .i64 x2, .ints .i64 x3, .ints .i64 x4, .ints .i64 x5, .ints .u64 x6]) (.s ((Col0.ints .i64 x3).len = rowLen0 [.ints .i64 x1, .ints .i64 x2, .ints .i64 x3, .ints .i64 x4, .ints .i64 x5, .ints .u64 x6]) (.s ((Col0.ints .i64 x2).len = rowLen0 [.ints .i64 x1, .ints .i64 x2, .ints .i64 x3, .ints .i64 x4, .ints .i64 x5, .ints .u64 x6]) (.s ((Col0.ints .i64 x1).len = rowLen0 [.ints .i64 x1, .ints .i64 x2, .ints .i64 x3, .ints .i64 x4, .ints .i64 x5, .ints .u64 x6]) (.s (rowLen0 [.ints .i64 x1, .ints .i64 x2, .ints .i64 x3, .ints .i64 x4, .ints .i64 x5, .ints .u64 x6] * 48 ≤ 17592186044416) (.q (rowLen0 [.ints .i64 x1, .ints .i64 x2, .ints .i64 x3, .ints .i64 x4, .ints .i64 x5, .ints .u64 x6]) (.lf (D.oc [.ints .i64 x1, .ints .i64 x2, .ints .i64 x3, .ints .i64 x4, .ints .i64 x5, .ints .u64 x6]))))))))))
theorem clnK_L (x1 x2 x3 x4 x5 x6 : List Int) : Leaves (fun l => fnX Try.prog (X0) 100000 l 81 [D.rc [Col.ints .i64 x1, Col.ints .i64 x2, Col.ints .i64 x3, Col.ints .i64 x4, Col.ints .i64 x5, Col.ints .u64 x6]]) (clnK_T x1 x2 x3 x4 x5 x6) [] [] := by show _ = _; kernel_rfl
theorem clnK_calls (x1 x2 x3 x4 x5 x6 : List Int) (res : D) (h0 : At (fun r => res = r) (clnK_T x1 x2 x3 x4 x5 x6) [] True) : CallsD Try.prog 81 [D.rc [Col.ints .i64 x1, Col.ints .i64 x2, Col.ints .i64 x3, Col.ints .i64 x4, Col.ints .i64 x5, Col.ints .u64 x6]] res := tree_calls (hX0) (clnK_L x1 x2 x3 x4 x5 x6) h0
noncomputable def clnC_T (xs : List Int) (ys : List Int) (zs : List Bool) : Tr D := .p (.c 0) (.s ((Col0.bools zs).len = rowLen0 [.ints .u32 xs, .ints .i64 ys, .bools zs]) (.s ((Col0.ints .i64 ys).len = rowLen0 [.ints .u32 xs, .ints .i64 ys, .bools zs]) (.s ((Col0.ints .u32 xs).len = rowLen0 [.ints .u32 xs, .ints .i64 ys, .bools zs]) (.s (rowLen0 [.ints .u32 xs, .ints .i64 ys, .bools zs] * 24 ≤ 17592186044416) (.q (rowLen0 [.ints .u32 xs, .ints .i64 ys, .bools zs]) (.lf (D.oc [.ints .u32 xs, .ints .i64 ys, .bools zs])))))))
theorem clnC_L (xs ys : List Int) (zs : List Bool) : Leaves (fun l => fnX Try.prog (X0) 100000 l 83 [D.rc [Col.ints .u32 xs, Col.ints .i64 ys, Col.bools zs]]) (clnC_T xs ys zs) [] [] := by show _ = _; kernel_rfl
theorem clnC_calls (xs ys : List Int) (zs : List Bool) (res : D) (h0 : At (fun r => res = r) (clnC_T xs ys zs) [] True) : CallsD Try.prog 83 [D.rc [Col.ints .u32 xs, Col.ints .i64 ys, Col.bools zs]] res := tree_calls (hX0) (clnC_L xs ys zs) h0
end
attribute [instance] G0
abbrev kc (x1 x2 x3 x4 x5 x6 : List Int) : D := .rc [.ints .i64 x1, .ints .i64 x2, .ints .i64 x3, .ints .i64 x4, .ints .i64 x5, .ints .u64 x6]
abbrev cc (xs ys : List Int) (zs : List Bool) : D := .rc [.ints .u32 xs, .ints .i64 ys, .bools zs]
abbrev oi (xs : List Int) : D := .oc [.ints .i64 xs]
abbrev ou (xs : List Int) : D := .oc [.ints .u32 xs]
abbrev ob (xs : List Bool) : D := .oc [.bools xs]
abbrev kco (x1 x2 x3 x4 x5 x6 : List Int) : D := .oc [.ints .i64 x1, .ints .i64 x2, .ints .i64 x3, .ints .i64 x4, .ints .i64 x5, .ints .u64 x6]
abbrev cco (xs ys : List Int) (zs : List Bool) : D := .oc [.ints .u32 xs, .ints .i64 ys, .bools zs]
theorem clb_ok (ys : List Bool) (h : ys.length ≤ 200) : CallsD Try.prog 82 [rb ys] (ob ys) :=
 calls_live (cols := [.bools ys]) (fun cp => clnN_calls cp _ ⟨trivial, rfl⟩) (@clnB_calls ys _ ⟨⟨by simp only [rowLen0, Col0.len]; omega, rfl, trivial⟩, rfl⟩)
theorem cli_ok (ys : List Int) (h : ys.length ≤ 200) : CallsD Try.prog 77 [ri ys] (oi ys) :=
 calls_live (cols := [.ints .i64 ys]) (fun cp => clnNi_calls cp _ ⟨trivial, rfl⟩) (@clnI_calls ys _ ⟨⟨by simp only [rowLen0, Col0.len]; omega, rfl, trivial⟩, rfl⟩)
theorem clu_ok (ys : List Int) (h : ys.length ≤ 200) : CallsD Try.prog 80 [ru ys] (ou ys) :=
 calls_live (cols := [.ints .u32 ys]) (fun cp => clnNu_calls cp _ ⟨trivial, rfl⟩) (@clnU_calls ys _ ⟨⟨by simp only [rowLen0, Col0.len]; omega, rfl, trivial⟩, rfl⟩)
def kcS (x1 x2 x3 x4 x5 x6 : List Int) : Prop := x1.length ≤ 200 ∧ x2.length = x1.length ∧ x3.length = x1.length ∧ x4.length = x1.length ∧ x5.length = x1.length ∧ x6.length = x1.length
def ccS (xs ys : List Int) (zs : List Bool) : Prop := xs.length ≤ 200 ∧ ys.length = xs.length ∧ zs.length = xs.length
theorem clk_ok (x1 x2 x3 x4 x5 x6 : List Int) (h : kcS x1 x2 x3 x4 x5 x6) : CallsD Try.prog 81 [kc x1 x2 x3 x4 x5 x6] (kco x1 x2 x3 x4 x5 x6) := by
 obtain ⟨h1, h2, h3, h4, h5, h6⟩ := h
 exact calls_live (cols := [.ints .i64 x1, .ints .i64 x2, .ints .i64 x3, .ints .i64 x4, .ints .i64 x5, .ints .u64 x6]) (fun cp => clnNk_calls cp _ ⟨trivial, rfl⟩) (@clnK_calls x1 x2 x3 x4 x5 x6 _ ⟨⟨by simp only [rowLen0, Col0.len]; omega, rfl, h2, h3, h4, h5, h6, trivial⟩, rfl⟩)
theorem clc_ok (xs ys : List Int) (zs : List Bool) (h : ccS xs ys zs) : CallsD Try.prog 83 [cc xs ys zs] (cco xs ys zs) := by
 obtain ⟨h1, h2, h3⟩ := h
 exact calls_live (cols := [.ints .u32 xs, .ints .i64 ys, .bools zs]) (fun cp => clnNc_calls cp _ ⟨trivial, rfl⟩) (@clnC_calls xs ys zs _ ⟨⟨by simp only [rowLen0, Col0.len]; omega, rfl, h2, h3, trivial⟩, rfl⟩)
def clbC : List D → Option (D × List Prop)
 | [.rc [.bools ys]] => some (ob ys, [ys.length ≤ 200])
 | _ => none
theorem clbC_ok (args res l) (h : clbC args = some (res, l)) (hl : AllP l) : CallsD Try.prog 82 args res := by
 unfold clbC at h; split at h
 ·simp only [Option.some.injEq, Prod.mk.injEq] at h
  obtain ⟨rfl, rfl⟩ := h; obtain ⟨h0, _⟩ := hl
  exact clb_ok _ h0
 ·cases h
def cliC : List D → Option (D × List Prop)
 | [.rc [.ints .i64 ys]] => some (oi ys, [ys.length ≤ 200])
 | _ => none
theorem cliC_ok (args res l) (h : cliC args = some (res, l)) (hl : AllP l) : CallsD Try.prog 77 args res := by
 unfold cliC at h; split at h
 ·simp only [Option.some.injEq, Prod.mk.injEq] at h
  obtain ⟨rfl, rfl⟩ := h; obtain ⟨h0, _⟩ := hl
  exact cli_ok _ h0
 ·cases h
def cluC : List D → Option (D × List Prop)
 | [.rc [.ints .u32 ys]] => some (ou ys, [ys.length ≤ 200])
 | _ => none
theorem cluC_ok (args res l) (h : cluC args = some (res, l)) (hl : AllP l) : CallsD Try.prog 80 args res := by
 unfold cluC at h; split at h
 ·simp only [Option.some.injEq, Prod.mk.injEq] at h
  obtain ⟨rfl, rfl⟩ := h; obtain ⟨h0, _⟩ := hl
  exact clu_ok _ h0
 ·cases h
def clkC : List D → Option (D × List Prop)
 | [.rc [.ints .i64 x1, .ints .i64 x2, .ints .i64 x3, .ints .i64 x4, .ints .i64 x5, .ints .u64 x6]] => some (kco x1 x2 x3 x4 x5 x6, [kcS x1 x2 x3 x4 x5 x6])
 | _ => none
theorem clkC_ok (args res l) (h : clkC args = some (res, l)) (hl : AllP l) : CallsD Try.prog 81 args res := by
 unfold clkC at h; split at h
 ·simp only [Option.some.injEq, Prod.mk.injEq] at h
  obtain ⟨rfl, rfl⟩ := h; obtain ⟨h0, _⟩ := hl
  exact clk_ok _ _ _ _ _ _ h0
 ·cases h
def clcC : List D → Option (D × List Prop)
 | [.rc [.ints .u32 xs, .ints .i64 ys, .bools zs]] => some (cco xs ys zs, [ccS xs ys zs])
 | _ => none
theorem clcC_ok (args res l) (h : clcC args = some (res, l)) (hl : AllP l) : CallsD Try.prog 83 args res := by
 unfold clcC at h; split at h
 ·simp only [Option.some.injEq, Prod.mk.injEq] at h
  obtain ⟨rfl, rfl⟩ := h; obtain ⟨h0, _⟩ := hl
  exact clc_ok _ _ _ h0
 ·cases h
def X1 : Contracts := addCon 82 (.call clbC) (addCon 77 (.call cliC) (addCon 80 (.call cluC) (addCon 81 (.call clkC) (addCon 83 (.call clcC) X0))))
theorem hX1 : ConOK Try.prog X1 := addCall_ok clbC_ok (addCall_ok cliC_ok (addCall_ok cluC_ok (addCall_ok clkC_ok (addCall_ok clcC_ok hX0))))
end TableS
end

section
namespace TableS
open Go Go.Dam Go.Proofs
set_option maxRecDepth 1000000
noncomputable def inT (xs : List Int) (n : Int) (o : Bool) (i : Int) : Cs := ⟨TT.of [(0, ri xs), (1, i64 n), (4, bo o), (5, i64 i)], 18, [], [], none, 0⟩
noncomputable def ctT (xs ys : List Int) (zs : List Bool) (o n i : Int) : Cs := ⟨TT.of [(0, cc xs ys zs), (2, i64 o), (3, i64 n), (4, i64 i)], 19, [], [], none, 0⟩
noncomputable def atT (xs ys : List Int) (zs : List Bool) (k o i : Int) : Cs := ⟨TT.of [(0, cc xs ys zs), (1, u32 k), (4, i64 o), (5, i64 i)], 27, [], [], none, 0⟩
noncomputable def ceT (xs ys : List Int) (zs : List Bool) (p k o : Int) (b : Bool) (n : Int) (s : Bool) (i : Int) : Cs := ⟨TT.of [(0, cc xs ys zs), (1, i64 p), (2, u32 k), (6, i64 o), (7, bo b), (8, i64 n), (9, bo s), (10, i64 i)], 45, [], [], none, 0⟩
noncomputable def siT (xs ys : List Int) (o : Bool) (i : Int) : Cs := ⟨TT.of [(0, ri xs), (1, ri ys), (4, bo o), (5, i64 i)], 26, [], [], none, 0⟩
noncomputable def skT (xs ys : List Int) (o : Bool) (i : Int) : Cs := ⟨TT.of [(0, ru xs), (1, ru ys), (4, bo o), (5, i64 i)], 26, [], [], none, 0⟩
noncomputable def ixT (xs : List Int) (n o m i : Int) : Cs := ⟨TT.of [(0, ri xs), (1, i64 n), (4, i64 o), (7, i64 m), (8, i64 i)], 19, [], [], none, 0⟩
noncomputable def lkT (xs ys : List Int) (zs : List Bool) (k i n : Int) : Cs := ⟨TT.of [(0, cc xs ys zs), (1, u32 k), (4, i64 i), (5, i64 n)], 30, [], [], none, 0⟩
noncomputable def akT (r n i : Int) (k : Nat) (xs : List Int) (us : List Bool) (f : Int) (ys : List Bool) : Cs := ⟨TT.of [(1, (D.ptr 32 0)), (2, i64 r), (3, i64 n), (4, (D.sl 832 0 k ⟨1, 0⟩)), (5, i64 i)], 77, [], [(32, BX.cells [ri xs, rb us, i64 f] false), (832, BX.row [.bools ys] false)], none, 0⟩
end TableS
end

section
namespace TableS
open Go Go.Dam Go.Proofs
set_option maxRecDepth 1000000
theorem succL {i n : Nat} (h : i < n) (hn : n ≤ 200) : opI .add .i64 (i : Int) 1 = ((i + 1 : Nat) : Int) := by
 rw [opI_add, wrap_i64_of (by omega) (by omega)]; omega
theorem natLt {i n : Nat} (h : i < n) : decide (0 ≤ (i : Int)) = true ∧ decide ((i : Int) < (n : Int)) = true := by simp; exact h
/-- The first number that is right, or -1. -/
def findI (p : Nat → Bool) : Nat → Nat → Int
 | 0, _ => -1
 | d + 1, i => if p i then (i : Int) else findI p d (i + 1)
theorem findI_none {p : Nat → Bool} : ∀ (d i : Nat), (∀ j, i ≤ j → j < i + d → p j = false) → findI p d i = -1
 | 0, _, _ => rfl
 | d + 1, i, h => by
  simp only [findI, h i (Nat.le_refl _) (by omega)]
  exact findI_none d (i + 1) fun j a b => h j (by omega) (by omega)
theorem findI_some {p : Nat → Bool} : ∀ (d i j : Nat), i ≤ j → j < i + d → p j = true → (∀ k, i ≤ k → k < j → p k = false) → findI p d i = (j : Int)
 | 0, i, j, _, h, _, _ => by omega
 | d + 1, i, j, h0, h1, h2, h3 => by
  by_cases e : p i = true
  ·have : i = j := by
    rcases Nat.eq_or_lt_of_le h0 with q | q
    ·exact q
    ·rw [h3 i (Nat.le_refl _) q] at e; cases e
   subst this; simp only [findI, e, if_true]
  ·simp only [findI, e]
   have : i ≠ j := fun q => by rw [q] at e; exact e h2
   exact findI_some d (i + 1) j (by omega) (by omega) h2 fun k a b => h3 k (by omega) b
theorem findI_lt {p : Nat → Bool} : ∀ (d i : Nat), findI p d i < 0 ↔ ∀ j, i ≤ j → j < i + d → p j = false
 | 0, i => ⟨fun _ j a b => by omega, fun _ => by simp [findI]⟩
 | d + 1, i => by
  by_cases e : p i = true
  ·simp only [findI, e, if_true]
   exact ⟨fun h => by omega, fun h => by rw [h i (Nat.le_refl _) (by omega)] at e; cases e⟩
  ·simp only [findI, e]
   refine (findI_lt d (i + 1)).trans ⟨fun h j a b => ?_, fun h j a b => h j (by omega) (by omega)⟩
   rcases Nat.eq_or_lt_of_le a with q | q
   ·rw [← q]; simpa using e
   ·exact h j q (by omega)
theorem mem_findI (xs : List Int) (n : Int) : decide (n ∈ xs) = !decide (findI (fun i => xs.getD i 0 == n) xs.length 0 < 0) := by
 rw [Bool.eq_iff_iff]
 simp only [decide_eq_true_eq, Bool.not_eq_true', decide_eq_false_iff_not, findI_lt]
 constructor
 ·intro h q
  obtain ⟨i, hi, e⟩ := List.getElem_of_mem h
  have := q i (by omega) (by omega)
  simp [List.getD_eq_getElem?_getD, List.getElem?_eq_getElem hi, e] at this
 ·intro h
  apply Classical.byContradiction
  intro c
  apply h
  intro j _ hj
  simp only [Nat.zero_add] at hj
  simp only [List.getD_eq_getElem?_getD, List.getElem?_eq_getElem hj, Option.getD_some, beq_eq_false_iff_ne]
  rintro rfl
  exact c (List.getElem_mem hj)
def inB (xs : List Int) (n : Int) : Bool := decide (n ∈ xs)
def eqB (xs ys : List Int) : Bool := decide (xs = ys)
/-- A loop that looks for the first number that is right. -/
theorem look_for {b : Code} (T : Nat → Cs) (n : Nat) (p : Nat → Bool) (C : Int → Prop)
  (hgo : ∀ i, i < n → p i = false → ∀ (σ : St) (e : Ex), Runs Try.prog (CallsD Try.prog) (.rounds b) (T (i + 1)).abs e σ → Runs Try.prog (CallsD Try.prog) (.rounds b) (T i).abs e σ)
  (hno : (∀ (σ : St) (e : Ex), Runs Try.prog (CallsD Try.prog) (.rounds b) (T n).abs e σ → Runs Try.prog (CallsD Try.prog) (.rounds b) (T 0).abs e σ) → C (-1))
  (hye : ∀ j, j < n → p j = true → (∀ (σ : St) (e : Ex), Runs Try.prog (CallsD Try.prog) (.rounds b) (T j).abs e σ → Runs Try.prog (CallsD Try.prog) (.rounds b) (T 0).abs e σ) → C j) : C (findI p n 0) := by
 by_cases h : ∃ j, 0 ≤ j ∧ j < n ∧ ¬ p j = false
 ·obtain ⟨j, _, h1, h2, h3, h4⟩ := scan_first T n (fun i => p i = false) (fun i a c σ e r => hgo i a c σ e r) n 0 (by omega) h
  rw [findI_some n 0 j (by omega) (by omega) (by simpa using h2) (fun k a c => h3 k a c)]
  exact hye j h1 (by simpa using h2) fun σ e r => h4 σ e r
 ·have hf : ∀ j, j < n → p j = false := fun j a => by
   cases e : p j with
   | false => rfl
   | true => exact absurd ⟨j, by omega, a, by simp [e]⟩ h
  rw [findI_none n 0 fun j _ a => hf j (by omega)]
  exact hno fun σ e r => scan_all T n (fun i => p i = false) (fun i a c σ e r => hgo i a c σ e r) r n 0 (by omega) fun j _ a => hf j a
noncomputable def inL_T (xs : List Int) (n : Int) (o : Bool) (i : Int) : Tr (Ex × Cs) := .d (cmpI .lss i ↑(xs.length)) (fun e0 => .s (decide (i < ↑(xs.length)) = true) (.s (decide (0 ≤ i) = true) (.d (cmpI .eql (xs.getD i.toNat 0) n) (fun e1 => .lf (Ex.ret, (inT (xs) (n) (true) (i)))) (fun e1 => .lf (Ex.normal, (inT (xs) (n) (o) (opI .add .i64 i 1))))))) (fun e0 => .lf (Ex.exit 0, (inT (xs) (n) (o) (i))))
theorem inL_L (xs : List Int) (n : Int) (o : Bool) (i : Int) : Leaves (roundT Try.prog (X1) 100000 (loopAt Try.prog 72 0) [[0, 1, 4, 5]] [] (inT xs n o i)) (inL_T xs n o i) [] [] := by refine ⟨fun _ => ⟨fun _ => ?_, fun _ => ?_⟩, fun _ => ?_⟩ <;> (show _ = _; kernel_rfl)
theorem inL_step (xs : List Int) (n : Int) (o : Bool) (i : Int) (σ : St) (e : Ex) (h0 : At (RG Try.prog (loopAt Try.prog 72 0) e σ) (inL_T xs n o i) [true, true] True) (h1 : At (RG Try.prog (loopAt Try.prog 72 0) e σ) (inL_T xs n o i) [true, false] True) (h2 : At (RG Try.prog (loopAt Try.prog 72 0) e σ) (inL_T xs n o i) [false] True) : Runs Try.prog (CallsD Try.prog) (.rounds (loopAt Try.prog 72 0)) (inT xs n o i).abs e σ := tree_rounds (hX1) (inL_L xs n o i) ⟨fun e0 => ⟨fun e1 => h0 e0 e1, fun e1 => h1 e0 e1⟩, fun e0 => h2 e0⟩
noncomputable def inF_T (xs : List Int) (n : Int) (o : Bool) (i : Int) : Tr D := .p (.l [[0, 1, 4, 5]] [] (inT xs n false 0) (Ex.exit 0) (inT xs n o i)) (.s (Runs Try.prog (CallsD Try.prog) (.code (.loop (loopAt Try.prog 72 0))) (inT xs n false 0).abs (Ex.exit 0) (inT xs n o i).abs) (.k ((inT xs n false 0 = inT xs n false 0)) rfl (.lf (bo false))))
theorem inF_L (xs : List Int) (n : Int) (o : Bool) (i : Int) : Leaves (fun l => fnX Try.prog (X1) 100000 l 72 [ri xs, i64 n]) (inF_T xs n o i) [] [] := by show _ = _; kernel_rfl
theorem inF_calls (xs : List Int) (n : Int) (o : Bool) (i : Int) (res : D) (h0 : At (fun r => res = r) (inF_T xs n o i) [] True) : CallsD Try.prog 72 [ri xs, i64 n] res := tree_calls (hX1) (inF_L xs n o i) h0
noncomputable def inR_T (xs : List Int) (n : Int) (o : Bool) (i : Int) : Tr D := .p (.l [[0, 1, 4, 5]] [] (inT xs n false 0) Ex.ret (inT xs n o i)) (.s (Runs Try.prog (CallsD Try.prog) (.code (.loop (loopAt Try.prog 72 0))) (inT xs n false 0).abs (Ex.ret) (inT xs n o i).abs) (.k ((inT xs n false 0 = inT xs n false 0)) rfl (.lf (bo o))))
theorem inR_L (xs : List Int) (n : Int) (o : Bool) (i : Int) : Leaves (fun l => fnX Try.prog (X1) 100000 l 72 [ri xs, i64 n]) (inR_T xs n o i) [] [] := by show _ = _; kernel_rfl
theorem inR_calls (xs : List Int) (n : Int) (o : Bool) (i : Int) (res : D) (h0 : At (fun r => res = r) (inR_T xs n o i) [] True) : CallsD Try.prog 72 [ri xs, i64 n] res := tree_calls (hX1) (inR_L xs n o i) h0
noncomputable def ixL_T (xs : List Int) (n : Int) (o : Int) (m : Int) (i : Int) : Tr (Ex × Cs) := .d (cmpI .lss i m) (fun e0 => .s (decide (i < ↑(xs.length)) = true) (.s (decide (0 ≤ i) = true) (.d (cmpI .eql n (xs.getD i.toNat 0)) (fun e1 => .lf (Ex.ret, (ixT (xs) (n) (i) (m) (i)))) (fun e1 => .lf (Ex.normal, (ixT (xs) (n) (o) (m) (opI .add .i64 i 1))))))) (fun e0 => .lf (Ex.exit 0, (ixT (xs) (n) (o) (m) (i))))
theorem ixL_L (xs : List Int) (n o m i : Int) : Leaves (roundT Try.prog (X1) 100000 (loopAt Try.prog 102 0) [[0, 1, 4, 7, 8]] [] (ixT xs n o m i)) (ixL_T xs n o m i) [] [] := by refine ⟨fun _ => ⟨fun _ => ?_, fun _ => ?_⟩, fun _ => ?_⟩ <;> (show _ = _; kernel_rfl)
theorem ixL_step (xs : List Int) (n : Int) (o : Int) (m : Int) (i : Int) (σ : St) (e : Ex) (h0 : At (RG Try.prog (loopAt Try.prog 102 0) e σ) (ixL_T xs n o m i) [true, true] True) (h1 : At (RG Try.prog (loopAt Try.prog 102 0) e σ) (ixL_T xs n o m i) [true, false] True) (h2 : At (RG Try.prog (loopAt Try.prog 102 0) e σ) (ixL_T xs n o m i) [false] True) : Runs Try.prog (CallsD Try.prog) (.rounds (loopAt Try.prog 102 0)) (ixT xs n o m i).abs e σ := tree_rounds (hX1) (ixL_L xs n o m i) ⟨fun e0 => ⟨fun e1 => h0 e0 e1, fun e1 => h1 e0 e1⟩, fun e0 => h2 e0⟩
noncomputable def ixF_T (xs : List Int) (n : Int) (o : Int) (m : Int) (i : Int) : Tr D := .p (.l [[0, 1, 4, 7, 8]] [] (ixT xs n 0 (↑(xs.length)) 0) (Ex.exit 0) (ixT xs n o m i)) (.s (Runs Try.prog (CallsD Try.prog) (.code (.loop (loopAt Try.prog 102 0))) (ixT xs n 0 (↑(xs.length)) 0).abs (Ex.exit 0) (ixT xs n o m i).abs) (.k ((ixT xs n 0 (↑(xs.length)) 0 = ixT xs n 0 (↑(xs.length)) 0)) rfl (.lf (i64 (-1)))))
theorem ixF_L (xs : List Int) (n o m i : Int) : Leaves (fun l => fnX Try.prog (X1) 100000 l 102 [ri xs, i64 n]) (ixF_T xs n o m i) [] [] := by show _ = _; kernel_rfl
theorem ixF_calls (xs : List Int) (n o m i : Int) (res : D) (h0 : At (fun r => res = r) (ixF_T xs n o m i) [] True) : CallsD Try.prog 102 [ri xs, i64 n] res := tree_calls (hX1) (ixF_L xs n o m i) h0
noncomputable def ixR_T (xs : List Int) (n : Int) (o : Int) (m : Int) (i : Int) : Tr D := .p (.l [[0, 1, 4, 7, 8]] [] (ixT xs n 0 (↑(xs.length)) 0) Ex.ret (ixT xs n o m i)) (.s (Runs Try.prog (CallsD Try.prog) (.code (.loop (loopAt Try.prog 102 0))) (ixT xs n 0 (↑(xs.length)) 0).abs (Ex.ret) (ixT xs n o m i).abs) (.k ((ixT xs n 0 (↑(xs.length)) 0 = ixT xs n 0 (↑(xs.length)) 0)) rfl (.lf (i64 o))))
theorem ixR_L (xs : List Int) (n o m i : Int) : Leaves (fun l => fnX Try.prog (X1) 100000 l 102 [ri xs, i64 n]) (ixR_T xs n o m i) [] [] := by show _ = _; kernel_rfl
theorem ixR_calls (xs : List Int) (n o m i : Int) (res : D) (h0 : At (fun r => res = r) (ixR_T xs n o m i) [] True) : CallsD Try.prog 102 [ri xs, i64 n] res := tree_calls (hX1) (ixR_L xs n o m i) h0
theorem in_ok (xs : List Int) (n : Int) (h : xs.length ≤ 200) : CallsD Try.prog 72 [ri xs, i64 n] (bo (inB xs n)) := by
 unfold inB; rw [mem_findI]
 refine look_for (b := loopAt Try.prog 72 0) (fun i => inT xs n false (i : Int)) xs.length (fun i => xs.getD i 0 == n) (fun v => CallsD Try.prog 72 [ri xs, i64 n] (bo (!decide (v < 0)))) ?_ ?_ ?_
 ·intro i hi hp σ e hr
  refine inL_step xs n false i σ e ?_ ?_ ?_ <;> dsimp only [At, Tr.q, RG, inL_T]
  ·intro _ g; rw [Int.toNat_natCast, eql_t] at g; rw [g] at hp; simp at hp
  ·intro _ _; rw [succL hi h]; exact ⟨⟨(natLt hi).1, (natLt hi).2, trivial⟩, hr⟩
  ·intro g; rw [lss_f] at g; omega
 ·intro hr
  refine inF_calls xs n false xs.length _ ⟨⟨loop_of_rounds (hr _ _ (inL_step xs n false xs.length _ _ ?_ ?_ ?_)), trivial⟩, rfl⟩
  ·intro g; rw [lss_t] at g; omega
  ·intro g; rw [lss_t] at g; omega
  ·intro _; exact ⟨trivial, rfl, rfl⟩
 ·intro j hj hp hr
  refine inR_calls xs n true j _ ⟨⟨loop_of_rounds (hr _ _ (inL_step xs n false j _ _ ?_ ?_ ?_)), trivial⟩, by simp⟩
  ·intro _ _; exact ⟨⟨(natLt hj).1, (natLt hj).2, trivial⟩, rfl, rfl⟩
  ·intro _ g; rw [Int.toNat_natCast, eql_f] at g; simp at hp; exact absurd hp g
  ·intro g; rw [lss_f] at g; omega
def ixN (xs : List Int) (n : Int) : Int := findI (fun i => n == xs.getD i 0) xs.length 0
theorem ix_ok (xs : List Int) (n : Int) (h : xs.length ≤ 200) : CallsD Try.prog 102 [ri xs, i64 n] (i64 (ixN xs n)) := by
 refine look_for (b := loopAt Try.prog 102 0) (fun i => ixT xs n 0 xs.length (i : Int)) xs.length (fun i => n == xs.getD i 0) (fun v => CallsD Try.prog 102 [ri xs, i64 n] (i64 v)) ?_ ?_ ?_
 ·intro i hi hp σ e hr
  refine ixL_step xs n 0 xs.length i σ e ?_ ?_ ?_ <;> dsimp only [At, Tr.q, RG, ixL_T]
  ·intro _ g; rw [Int.toNat_natCast, eql_t] at g; rw [g] at hp; simp at hp
  ·intro _ _; rw [succL hi h]; exact ⟨⟨(natLt hi).1, (natLt hi).2, trivial⟩, hr⟩
  ·intro g; rw [lss_f] at g; omega
 ·intro hr
  refine ixF_calls xs n 0 xs.length xs.length _ ⟨⟨loop_of_rounds (hr _ _ (ixL_step xs n 0 xs.length xs.length _ _ ?_ ?_ ?_)), trivial⟩, rfl⟩
  ·intro g; rw [lss_t] at g; omega
  ·intro g; rw [lss_t] at g; omega
  ·intro _; exact ⟨trivial, rfl, rfl⟩
 ·intro j hj hp hr
  refine ixR_calls xs n j xs.length j _ ⟨⟨loop_of_rounds (hr _ _ (ixL_step xs n 0 xs.length j _ _ ?_ ?_ ?_)), trivial⟩, rfl⟩
  ·intro _ _; exact ⟨⟨(natLt hj).1, (natLt hj).2, trivial⟩, rfl, rfl⟩
  ·intro _ g; rw [Int.toNat_natCast, eql_f] at g; simp at hp; exact absurd hp g
  ·intro g; rw [lss_f] at g; omega
end TableS
end
