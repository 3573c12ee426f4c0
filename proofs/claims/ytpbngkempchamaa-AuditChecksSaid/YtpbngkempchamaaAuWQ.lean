/- The functions of the folder audit and what they reach: what they compute. No condition. -/
import Derived.Test.YtpbngkempchamaaAuWN
set_option linter.unusedSectionVars false
set_option linter.unusedVariables false
set_option linter.unusedSimpArgs false
namespace MeterS
open Go Go.Dam Go.Proofs
set_option maxRecDepth 1000000
set_option linter.unusedVariables false
set_option linter.unusedSectionVars false
set_option linter.unusedSimpArgs false
variable [Glo]
theorem fi_same {b r p v q t : Int} (h : bkE b r p v q = 0) : (if b - v ≤ inN r q t t / p then b else v + inN r q t t / p) = v ∧ (if b - v ≤ inN r q t t / p then 0 else inN r q t t % p) = q := by
  obtain ⟨hl, v0, vb, q0, qp, hq⟩ := bkE_is h
  have e : inN r q t t = q := by unfold inN; rw [Int.sub_self, Int.zero_mul]; omega
  have d : q / p = 0 := Int.ediv_eq_zero_of_lt q0 qp
  have m : q % p = q := Int.emod_eq_of_lt q0 qp
  rw [e, d, m]
  constructor <;> split <;> omega
theorem bfillB_ok (b r p v q t n : Int) (h : bkE b r p v q = 0) (t0 : 0 ≤ t) (t1 : t < 18446744073709551616) (n0 : 0 ≤ n) (n1 : n < 18446744073709551616) :
    CallsD Try.prog 58 [.agg [i64 b, i64 r, i64 p, i64 v, i64 q, u64 t], u64 n] (.agg [i64 b, i64 r, i64 p, i64 (fiV b r p v q t n), i64 (fiQ b r p v q t n), u64 (fiT t n)]) := by
  obtain ⟨hl, v0, vb, q0, qp, hqq⟩ := bkE_is h
  obtain ⟨b0, b1, r0, r1, p0, p1⟩ := limE_is hl
  by_cases hn : n < t
  · refine bfillB_calls b r p v q t n _ ?_ ?_ ?_
    · intro _; refine ⟨trivial, ?_⟩; unfold fiV fiQ fiT; rw [if_pos (by omega), if_pos (by omega), if_pos (by omega)]
    all_goals
      intro a; rw [lss_f] at a; omega
  · have wr : IntKind.wrap .u64 r = r := wrap_u64_of (by omega) (by omega)
    have wp : IntKind.wrap .u64 p = p := wrap_u64_of (by omega) (by omega)
    have wq : IntKind.wrap .u64 q = q := wrap_u64_of (by omega) (by omega)
    have es : opI .sub .u64 n t = n - t := by rw [opI_sub, wrap_u64]; omega
    have eb : opI .sub .i64 b v = b - v := by rw [opI_sub, wrap_i64_of (by omega) (by omega)]
    have wb : IntKind.wrap .u64 (b - v) = b - v := wrap_u64_of (by omega) (by omega)
    obtain ⟨m0, m1⟩ := mul_in (t := n - t) (r := r) (by omega) (by omega) r0 r1
    have hS : (n - t) * r + q < 340282366920938463463374607431768211456 := by omega
    have d0 : 0 ≤ ((n - t) * r + q) / p := Int.ediv_nonneg (by omega) (by omega)
    have d1 : ((n - t) * r + q) / p ≤ ((n - t) * r + q) := Int.ediv_le_self _ (by omega)
    have e0 := Int.emod_nonneg (((n - t) * r + q)) (show p ≠ 0 by omega)
    have e1 := Int.emod_lt_of_pos (((n - t) * r + q)) (show 0 < p by omega)
    have hT : fiT t n = n := by unfold fiT; split <;> omega
    have hN : inN r q t n = (n - t) * r + q := rfl
    have hV : fiV b r p v q t n = if b - v ≤ inN r q t n / p then b else v + inN r q t n / p := by
      unfold fiV
      by_cases e : n ≤ t
      · obtain rfl : n = t := by omega
        rw [if_pos e]; exact (fi_same h).1.symm
      · rw [if_neg e]
    have hQ : fiQ b r p v q t n = if b - v ≤ inN r q t n / p then 0 else inN r q t n % p := by
      unfold fiQ
      by_cases e : n ≤ t
      · obtain rfl : n = t := by omega
        rw [if_pos e]; exact (fi_same h).2.symm
      · rw [if_neg e]
    generalize hM : (n - t) * r = m at *
    have w : m / 18446744073709551616 * 18446744073709551616 + m % 18446744073709551616 = m := fold64' m
    have k0 : bfillB_c0 b r p v q t n = m + q := by unfold bfillB_c0; rw [es, wr, wq, hM, w, if_pos (by omega)]; omega
    have k4 : bfillB_c4 b r p v q t n = m + q := by unfold bfillB_c4; rw [es, wr, wq, hM, w, if_pos (by omega)]; omega
    have k1 : bfillB_c1 b r p v q t n = m + q := by unfold bfillB_c1; rw [k0]; exact fold64' _
    have k5 : bfillB_c5 b r p v q t n = m + q := by unfold bfillB_c5; rw [k4]; exact fold64' _
    have k2 : bfillB_c2 b r p v q t n = (m + q) / p := by unfold bfillB_c2; rw [k1, wp]; exact fold64' _
    have k3 : bfillB_c3 b r p v q t n = cmpZ ((m + q) / p) (b - v) := by unfold bfillB_c3; rw [k2, eb, wb, Int.zero_add]
    refine bfillB_calls b r p v q t n _ ?_ ?_ ?_
    all_goals simp only [k1, k3, k4, k5, es, eb, wr, wp, wq, wb, hM, geq_t, geq_f, lss_t, lss_f]
    · intro a; omega
    · intro _ a
      have g : b - v ≤ inN r q t n / p := by rw [hN]; unfold cmpZ at a; (repeat' split at a) <;> omega
      refine ⟨by simp only [and_true]; omega, ?_⟩
      rw [hV, hQ, hT, if_pos g, if_pos g]
    · intro _ a
      have g : ¬ b - v ≤ inN r q t n / p := by rw [hN]; unfold cmpZ at a; (repeat' split at a) <;> omega
      refine ⟨by simp only [and_true]; omega, ?_⟩
      rw [hV, hQ, hT, if_neg g, if_neg g, hN]
      rw [hN] at g
      have g1 : (m + q) / p % 18446744073709551616 = (m + q) / p := by omega
      rw [g1, wrap_i64_of (n := (m + q) / p) (by omega) (by omega), wrap_i64_of (n := (m + q) % p) (by omega) (by omega), opI_add, wrap_i64_of (by omega) (by omega)]
theorem fiC_okB (args res l) (h : fiC args = some (res, l)) (hl : AllP l) : CallsD Try.prog 58 args res := by
  unfold fiC at h; split at h
  · simp only [Option.some.injEq, Prod.mk.injEq] at h
    obtain ⟨rfl, rfl⟩ := h; obtain ⟨h0, h1, h2, h3, h4, _⟩ := hl
    exact bfillB_ok _ _ _ _ _ _ _ h0 h1 h2 h3 h4
  · cases h
def X29 : Contracts := addCon 58 (.call fiC) X28
theorem hX29 : ConOK Try.prog X29 := addCall_ok fiC_okB hX28
end MeterS

namespace MeterS
open Go Go.Dam Go.Proofs
set_option maxRecDepth 1000000
set_option linter.unusedVariables false
set_option linter.unusedSectionVars false
set_option linter.unusedSimpArgs false
/-- From how many ticks on a bucket holds a cost. -/
def waK (p r v q c : Int) : Int := if c ≤ v then 0 else upN ((c - v) * p - q) r
theorem upN_le {a d m : Int} (hd : 0 < d) (ha : 0 < a) : upN a d ≤ m ↔ a ≤ m * d := by
  have e := Int.mul_ediv_add_emod a d
  have r0 := Int.emod_nonneg a (show d ≠ 0 by omega)
  have r1 := Int.emod_lt_of_pos a hd
  unfold upN
  split
  next h =>
    have key : a / d ≤ m ↔ a / d * d ≤ m * d := ⟨fun h => Int.mul_le_mul_of_nonneg_right h (by omega), fun h => Int.le_of_mul_le_mul_right h hd⟩
    have e' : a / d * d = a := by rw [Int.mul_comm]; omega
    rw [key, e']
  next h =>
    have e' : a / d * d = a - a % d := by rw [Int.mul_comm]; omega
    constructor
    · intro hm
      have := Int.mul_le_mul_of_nonneg_right hm (show 0 ≤ d by omega)
      rw [Int.add_mul, Int.one_mul] at this
      omega
    · intro hm
      have : a / d * d < m * d := by omega
      have := Int.lt_of_mul_lt_mul_right this (by omega)
      omega
theorem hold_iff {b r p v q t c m : Int} (h : bkE b r p v q = 0) (hc : c ≤ v ∨ (c ≤ b ∧ 0 < r)) (m0 : 0 ≤ m) : c ≤ fiV b r p v q t (t + m) ↔ waK p r v q c ≤ m := by
  obtain ⟨hl, v0, vb, q0, qp, hqq⟩ := bkE_is h
  obtain ⟨b0, b1, r0, r1, p0, p1⟩ := limE_is hl
  have hN : inN r q t (t + m) = m * r + q := by unfold inN; rw [show t + m - t = m by omega]
  have n0 : 0 ≤ m * r := Int.mul_nonneg m0 r0
  have d0 : 0 ≤ (m * r + q) / p := Int.ediv_nonneg (by omega) (by omega)
  have hV : v ≤ fiV b r p v q t (t + m) := by
    unfold fiV; rw [hN]; (repeat' split) <;> omega
  unfold waK
  by_cases hv : c ≤ v
  · rw [if_pos hv]; constructor <;> intro <;> omega
  rw [if_neg hv]
  have hb : c ≤ b ∧ 0 < r := by omega
  have m0' : p ≤ (c - v) * p := by
    have := Int.mul_le_mul_of_nonneg_right (show 1 ≤ c - v by omega) (show 0 ≤ p by omega); omega
  rw [upN_le hb.2 (by omega)]
  have hd : c - v ≤ (m * r + q) / p ↔ (c - v) * p ≤ m * r + q := Int.le_ediv_iff_mul_le (by omega)
  unfold fiV
  rw [hN]
  by_cases hm : t + m ≤ t
  · obtain rfl : m = 0 := by omega
    rw [if_pos hm]; constructor <;> intro <;> omega
  rw [if_neg hm]
  split <;> constructor <;> intro <;> omega
/-- The wait, by where it is. -/
theorem waN_never {b r p v q t c : Int} (h : bkE b r p v q = 0) (t0 : 0 ≤ t) (t1 : t < 18446744073709551616) (hf : fiV b r p v q t 18446744073709551615 < c) : waN b r p v q t c = 18446744073709551615 := by
  obtain ⟨hl, v0, vb, q0, qp, hqq⟩ := bkE_is h
  obtain ⟨b0, b1, r0, r1, p0, p1⟩ := limE_is hl
  have hN : inN r q t 18446744073709551615 = (18446744073709551615 - t) * r + q := rfl
  have n0 : 0 ≤ (18446744073709551615 - t) * r := Int.mul_nonneg (by omega) r0
  have d0 : 0 ≤ ((18446744073709551615 - t) * r + q) / p := Int.ediv_nonneg (by omega) (by omega)
  have hv : ¬ c ≤ v := by
    unfold fiV at hf; rw [hN] at hf; (repeat' split at hf) <;> omega
  unfold waN
  rw [if_neg hv]
  by_cases hb : b < c ∨ r = 0
  · rw [if_pos hb]
  rw [if_neg hb]
  have key := (hold_iff (t := t) (c := c) (m := 18446744073709551615 - t) h (by omega) (by omega)).2
  rw [show t + (18446744073709551615 - t) = 18446744073709551615 by omega] at key
  have this : ¬ waK p r v q c ≤ 18446744073709551615 - t := fun g => by have := key g; omega
  unfold waK at this
  rw [if_neg hv] at this
  rw [if_pos (by omega)]
theorem waN_holds {b r p v q t c : Int} (h : bkE b r p v q = 0) (t0 : 0 ≤ t) (t1 : t < 18446744073709551616) (hf : ¬ fiV b r p v q t 18446744073709551615 < c) :
    (c ≤ v ∨ (c ≤ b ∧ 0 < r)) ∧ waN b r p v q t c = waK p r v q c ∧ 0 ≤ waK p r v q c ∧ waK p r v q c ≤ 18446744073709551615 - t := by
  obtain ⟨hl, v0, vb, q0, qp, hqq⟩ := bkE_is h
  obtain ⟨b0, b1, r0, r1, p0, p1⟩ := limE_is hl
  by_cases hv : c ≤ v
  · refine ⟨.inl hv, ?_, ?_, ?_⟩
    · unfold waN waK; rw [if_pos hv, if_pos hv]
    · unfold waK; rw [if_pos hv]; omega
    · unfold waK; rw [if_pos hv]; omega
  have hb : c ≤ b := by
    have := (fi_in h t0 (show (0 : Int) ≤ 18446744073709551615 by omega)).2.1
    omega
  have hr : 0 < r := by
    rcases Int.lt_or_eq_of_le r0 with g | g
    · exact g
    · subst g
      exfalso
      have hN : inN 0 q t 18446744073709551615 = q := by unfold inN; rw [Int.mul_zero]; omega
      have d : q / p = 0 := Int.ediv_eq_zero_of_lt q0 qp
      unfold fiV at hf; rw [hN, d] at hf; (repeat' split at hf) <;> omega
  have m0' : p ≤ (c - v) * p := by
    have := Int.mul_le_mul_of_nonneg_right (show 1 ≤ c - v by omega) (show 0 ≤ p by omega); omega
  have key := (hold_iff (t := t) (c := c) (m := 18446744073709551615 - t) h (by omega) (by omega)).1
  rw [show t + (18446744073709551615 - t) = 18446744073709551615 by omega] at key
  have k := key (by omega)
  have k0 : 0 ≤ waK p r v q c := by
    unfold waK; rw [if_neg hv]
    have := Int.ediv_nonneg (show 0 ≤ (c - v) * p - q by omega) r0
    unfold upN; split <;> omega
  refine ⟨.inr ⟨hb, hr⟩, ?_, k0, k⟩
  unfold waK at k ⊢
  rw [if_neg hv] at k ⊢
  unfold waN
  rw [if_neg hv, if_neg (by omega), if_neg (by omega)]
variable [Glo]
noncomputable def waitT (c o lo hi b r p v q t : Int) : Cs := ⟨TT.of [(1, (D.v (Value.int IntKind.i64 c))), (2, (D.ptr 64 0)), (4, (D.v (Value.int IntKind.u64 o))), (5, (D.v (Value.int IntKind.u64 lo))), (6, (D.v (Value.int IntKind.u64 hi)))], 38, [], [(64, (BX.cells [(D.v (Value.int IntKind.i64 b)), (D.v (Value.int IntKind.i64 r)), (D.v (Value.int IntKind.i64 p)), (D.v (Value.int IntKind.i64 v)), (D.v (Value.int IntKind.i64 q)), (D.v (Value.int IntKind.u64 t))] false))], none, 0⟩
noncomputable def waitL_c0 (c o lo hi b r p v q t : Int) := opI BinOp.quo IntKind.u64 (opI BinOp.sub IntKind.u64 hi lo) 2
noncomputable def waitL_c1 (c o lo hi b r p v q t : Int) := opI BinOp.add IntKind.u64 lo (waitL_c0 c o lo hi b r p v q t)
noncomputable def waitL_c2 (c o lo hi b r p v q t : Int) := opI BinOp.add IntKind.u64 t (waitL_c1 c o lo hi b r p v q t)
noncomputable def waitL_c3 (c o lo hi b r p v q t : Int) := cmpI BinOp.geq (fiV b r p v q t (waitL_c2 c o lo hi b r p v q t)) c
theorem waitL_r0 (c o lo hi b r p v q t : Int) : roundX Try.prog X29 100000 (loopAt Try.prog 43 0) [.d true, .d true] [[1, 2, 4, 5, 6]] [(64, 64)] (waitT c o lo hi b r p v q t) = some (Ex.normal, (waitT (c) (o) (lo) (waitL_c1 c o lo hi b r p v q t) (b) (r) (p) (v) (q) (t)), [cmpI BinOp.geq (fiV b r p v q t (waitL_c2 c o lo hi b r p v q t)) c = true, bkE b r p v q = 0, 0 ≤ t, t < 18446744073709551616, 0 ≤ opI BinOp.add IntKind.u64 t (waitL_c1 c o lo hi b r p v q t), opI BinOp.add IntKind.u64 t (waitL_c1 c o lo hi b r p v q t) < 18446744073709551616, false = false, cmpI BinOp.lss lo hi = true]) := by kernel_rfl
theorem waitL_r1 (c o lo hi b r p v q t : Int) : roundX Try.prog X29 100000 (loopAt Try.prog 43 0) [.d true, .d false] [[1, 2, 4, 5, 6]] [(64, 64)] (waitT c o lo hi b r p v q t) = some (Ex.normal, (waitT (c) (o) (opI BinOp.add IntKind.u64 (waitL_c1 c o lo hi b r p v q t) 1) (hi) (b) (r) (p) (v) (q) (t)), [cmpI BinOp.geq (fiV b r p v q t (waitL_c2 c o lo hi b r p v q t)) c = false, bkE b r p v q = 0, 0 ≤ t, t < 18446744073709551616, 0 ≤ opI BinOp.add IntKind.u64 t (waitL_c1 c o lo hi b r p v q t), opI BinOp.add IntKind.u64 t (waitL_c1 c o lo hi b r p v q t) < 18446744073709551616, false = false, cmpI BinOp.lss lo hi = true]) := by kernel_rfl
theorem waitL_r2 (c o lo hi b r p v q t : Int) : roundX Try.prog X29 100000 (loopAt Try.prog 43 0) [.d false] [[1, 2, 4, 5, 6]] [(64, 64)] (waitT c o lo hi b r p v q t) = some (Ex.exit 0, (waitT (c) (o) (lo) (hi) (b) (r) (p) (v) (q) (t)), [cmpI BinOp.lss lo hi = false]) := by kernel_rfl
theorem waitL_step (c : Int) (o : Int) (lo : Int) (hi : Int) (b : Int) (r : Int) (p : Int) (v : Int) (q : Int) (t : Int) (σ : St) (e : Ex)
  (h0 : ((cmpI BinOp.lss lo hi) = true) → ((waitL_c3 c o lo hi b r p v q t) = true) → ((bkE b r p v q = 0) ∧ (0 ≤ t) ∧ (t < 18446744073709551616) ∧ (0 ≤ opI BinOp.add IntKind.u64 t (waitL_c1 c o lo hi b r p v q t)) ∧ (opI BinOp.add IntKind.u64 t (waitL_c1 c o lo hi b r p v q t) < 18446744073709551616) ∧ True) ∧ Runs Try.prog (CallsD Try.prog) (.rounds (loopAt Try.prog 43 0)) (waitT (c) (o) (lo) (waitL_c1 c o lo hi b r p v q t) (b) (r) (p) (v) (q) (t)).abs e σ)
  (h1 : ((cmpI BinOp.lss lo hi) = true) → ((waitL_c3 c o lo hi b r p v q t) = false) → ((bkE b r p v q = 0) ∧ (0 ≤ t) ∧ (t < 18446744073709551616) ∧ (0 ≤ opI BinOp.add IntKind.u64 t (waitL_c1 c o lo hi b r p v q t)) ∧ (opI BinOp.add IntKind.u64 t (waitL_c1 c o lo hi b r p v q t) < 18446744073709551616) ∧ True) ∧ Runs Try.prog (CallsD Try.prog) (.rounds (loopAt Try.prog 43 0)) (waitT (c) (o) (opI BinOp.add IntKind.u64 (waitL_c1 c o lo hi b r p v q t) 1) (hi) (b) (r) (p) (v) (q) (t)).abs e σ)
  (h2 : ((cmpI BinOp.lss lo hi) = false) → (True) ∧ (e = Ex.exit 0 ∧ σ = (waitT (c) (o) (lo) (hi) (b) (r) (p) (v) (q) (t)).abs)) : Runs Try.prog (CallsD Try.prog) (.rounds (loopAt Try.prog 43 0)) (waitT c o lo hi b r p v q t).abs e σ := by
  cases e0 : (cmpI BinOp.lss lo hi) with
  | true =>
    cases e1 : (waitL_c3 c o lo hi b r p v q t) with
    | true =>
      exact rounds_on hX29 (waitL_r0 c o lo hi b r p v q t) ⟨e1, (h0 e0 e1).1.1, (h0 e0 e1).1.2.1, (h0 e0 e1).1.2.2.1, (h0 e0 e1).1.2.2.2.1, (h0 e0 e1).1.2.2.2.2.1, rfl, e0, trivial⟩ (h0 e0 e1).2
    | false =>
      exact rounds_on hX29 (waitL_r1 c o lo hi b r p v q t) ⟨e1, (h1 e0 e1).1.1, (h1 e0 e1).1.2.1, (h1 e0 e1).1.2.2.1, (h1 e0 e1).1.2.2.2.1, (h1 e0 e1).1.2.2.2.2.1, rfl, e0, trivial⟩ (h1 e0 e1).2
  | false =>
    exact rounds_end hX29 (waitL_r2 c o lo hi b r p v q t) ⟨e0, trivial⟩ (by simp) (h2 e0).2
noncomputable def waitF_c0 (b r p v q t c w : Int) := waitT c 0 0 (opI BinOp.sub IntKind.u64 18446744073709551615 t) b r p v q t
theorem waitF_p0 (b r p v q t c w : Int) : fnX Try.prog X29 100000 [.d true] 43 [D.agg [i64 b, i64 r, i64 p, i64 v, i64 q, u64 t], i64 c] = some (u64 18446744073709551615, [cmpI BinOp.lss (fiV b r p v q t 18446744073709551615) c = true, bkE b r p v q = 0, 0 ≤ t, t < 18446744073709551616, (0 : Int) ≤ (18446744073709551615 : Int), (18446744073709551615 : Int) < (18446744073709551616 : Int)]) := by kernel_rfl
theorem waitF_p1 (b r p v q t c w : Int) : fnX Try.prog X29 100000 [.d false, PE.l [[1, 2, 4, 5, 6]] [(64, 64)] (waitF_c0 b r p v q t c w) (Ex.exit 0) (waitT c 0 w w b r p v q t)] 43 [D.agg [i64 b, i64 r, i64 p, i64 v, i64 q, u64 t], i64 c] = some (u64 w, [(waitT c 0 0 (opI BinOp.sub IntKind.u64 18446744073709551615 t) b r p v q t = waitT c 0 0 (opI BinOp.sub IntKind.u64 18446744073709551615 t) b r p v q t), Runs Try.prog (CallsD Try.prog) (.code (.loop (loopAt Try.prog 43 0))) (waitF_c0 b r p v q t c w).abs (Ex.exit 0) (waitT c 0 w w b r p v q t).abs, cmpI BinOp.lss (fiV b r p v q t 18446744073709551615) c = false, bkE b r p v q = 0, 0 ≤ t, t < 18446744073709551616, (0 : Int) ≤ (18446744073709551615 : Int), (18446744073709551615 : Int) < (18446744073709551616 : Int)]) := by kernel_rfl
theorem waitF_calls (b r p v q t c w : Int) (res : D)
  (h0 : ((cmpI BinOp.lss (fiV b r p v q t 18446744073709551615) c) = true) → ((bkE b r p v q = 0) ∧ (0 ≤ t) ∧ (t < 18446744073709551616) ∧ ((0 : Int) ≤ (18446744073709551615 : Int)) ∧ ((18446744073709551615 : Int) < (18446744073709551616 : Int)) ∧ True) ∧ res = u64 18446744073709551615)
  (h1 : ((cmpI BinOp.lss (fiV b r p v q t 18446744073709551615) c) = false) → ((Runs Try.prog (CallsD Try.prog) (.code (.loop (loopAt Try.prog 43 0))) (waitF_c0 b r p v q t c w).abs (Ex.exit 0) (waitT c 0 w w b r p v q t).abs) ∧ (bkE b r p v q = 0) ∧ (0 ≤ t) ∧ (t < 18446744073709551616) ∧ ((0 : Int) ≤ (18446744073709551615 : Int)) ∧ ((18446744073709551615 : Int) < (18446744073709551616 : Int)) ∧ True) ∧ res = u64 w) : CallsD Try.prog 43 [D.agg [i64 b, i64 r, i64 p, i64 v, i64 q, u64 t], i64 c] res := by
  cases e0 : (cmpI BinOp.lss (fiV b r p v q t 18446744073709551615) c) with
  | true =>
    exact of_path hX29 (waitF_p0 b r p v q t c w) ⟨e0, (h0 e0).1.1, (h0 e0).1.2.1, (h0 e0).1.2.2.1, (h0 e0).1.2.2.2.1, (h0 e0).1.2.2.2.2.1, trivial⟩ (h0 e0).2
  | false =>
    exact of_path hX29 (waitF_p1 b r p v q t c w) ⟨rfl, (h1 e0).1.1, e0, (h1 e0).1.2.1, (h1 e0).1.2.2.1, (h1 e0).1.2.2.2.1, (h1 e0).1.2.2.2.2.1, (h1 e0).1.2.2.2.2.2.1, trivial⟩ (h1 e0).2
theorem wait_loop (c o b r p v q t : Int) (h : bkE b r p v q = 0) (t0 : 0 ≤ t) (t1 : t < 18446744073709551616) (hc : c ≤ v ∨ (c ≤ b ∧ 0 < r)) : ∀ (d : Nat) (lo hi : Int), (hi - lo).toNat ≤ d → 0 ≤ lo → lo ≤ waK p r v q c → waK p r v q c ≤ hi → hi ≤ 18446744073709551615 - t →
    Runs Try.prog (CallsD Try.prog) (.rounds (loopAt Try.prog 43 0)) (waitT c o lo hi b r p v q t).abs (.exit 0) (waitT c o (waK p r v q c) (waK p r v q c) b r p v q t).abs := by
  intro d
  induction d with
  | zero =>
    intro lo hi hd l0 l1 l2 l3
    obtain rfl : lo = waK p r v q c := by omega
    obtain rfl : hi = waK p r v q c := by omega
    refine waitL_step c o _ _ b r p v q t _ _ ?_ ?_ ?_
    · intro a; rw [lss_t] at a; omega
    · intro a; rw [lss_t] at a; omega
    · intro _; exact ⟨trivial, rfl, rfl⟩
  | succ d ih =>
    intro lo hi hd l0 l1 l2 l3
    by_cases hlt : lo < hi
    · have es : opI .sub .u64 hi lo = hi - lo := by rw [opI_sub, wrap_u64_of (by omega) (by omega)]
      have eq : opI .quo .u64 (hi - lo) 2 = (hi - lo) / 2 := by
        show IntKind.u64.wrap ((hi - lo).tdiv 2) = _
        rw [Int.tdiv_eq_ediv_of_nonneg (by omega), wrap_u64_of (by omega) (by omega)]
      have ea : opI .add .u64 lo ((hi - lo) / 2) = lo + (hi - lo) / 2 := by rw [opI_add, wrap_u64_of (by omega) (by omega)]
      have et : opI .add .u64 t (lo + (hi - lo) / 2) = t + (lo + (hi - lo) / 2) := by rw [opI_add, wrap_u64_of (by omega) (by omega)]
      have e1 : opI .add .u64 (lo + (hi - lo) / 2) 1 = lo + (hi - lo) / 2 + 1 := by rw [opI_add, wrap_u64_of (by omega) (by omega)]
      have k1 : waitL_c1 c o lo hi b r p v q t = lo + (hi - lo) / 2 := by unfold waitL_c1 waitL_c0; rw [es, eq, ea]
      have k2 : waitL_c2 c o lo hi b r p v q t = t + (lo + (hi - lo) / 2) := by unfold waitL_c2; rw [k1, et]
      have hh := hold_iff (t := t) (c := c) (m := lo + (hi - lo) / 2) h hc (by omega)
      refine waitL_step c o lo hi b r p v q t _ _ ?_ ?_ ?_
      all_goals simp only [waitL_c3, k1, k2, et, e1, geq_t, geq_f, lss_t, lss_f]
      · intro _ a
        exact ⟨⟨h, t0, t1, by omega, by omega, trivial⟩, ih lo _ (by omega) l0 l1 (hh.1 a) (by omega)⟩
      · intro _ a
        have : ¬ waK p r v q c ≤ lo + (hi - lo) / 2 := fun g => by have := hh.2 g; omega
        exact ⟨⟨h, t0, t1, by omega, by omega, trivial⟩, ih _ hi (by omega) (by omega) (by omega) l2 l3⟩
      · intro a; omega
    · obtain rfl : lo = waK p r v q c := by omega
      obtain rfl : hi = waK p r v q c := by omega
      refine waitL_step c o _ _ b r p v q t _ _ ?_ ?_ ?_
      · intro a; rw [lss_t] at a; omega
      · intro a; rw [lss_t] at a; omega
      · intro _; exact ⟨trivial, rfl, rfl⟩
theorem waited_ok (b r p v q t c : Int) (h : bkE b r p v q = 0) (t0 : 0 ≤ t) (t1 : t < 18446744073709551616) : CallsD Try.prog 43 [.agg [i64 b, i64 r, i64 p, i64 v, i64 q, u64 t], i64 c] (u64 (waN b r p v q t c)) := by
  have et : opI .sub .u64 18446744073709551615 t = 18446744073709551615 - t := by rw [opI_sub, wrap_u64_of (by omega) (by omega)]
  refine waitF_calls b r p v q t c (waN b r p v q t c) _ ?_ ?_
  · intro a; rw [lss_t] at a
    refine ⟨⟨h, t0, t1, by omega, by omega, trivial⟩, ?_⟩
    rw [waN_never h t0 t1 a]
  · intro a; rw [lss_f] at a
    obtain ⟨hc, e, k0, k1⟩ := waN_holds (c := c) h t0 t1 (by omega)
    refine ⟨⟨?_, h, t0, t1, by omega, by omega, trivial⟩, rfl⟩
    unfold waitF_c0
    rw [et, e]
    exact loop_of_rounds (wait_loop c 0 b r p v q t h t0 t1 hc _ 0 _ (Nat.le_refl _) (by omega) k0 k1 (by omega))
def wtC : List D → Option (D × List Prop)
  | [.agg [.v (.int .i64 b), .v (.int .i64 r), .v (.int .i64 p), .v (.int .i64 v), .v (.int .i64 q), .v (.int .u64 t)], .v (.int .i64 c)] => some (u64 (waN b r p v q t c), [bkE b r p v q = 0, 0 ≤ t, t < 18446744073709551616])
  | _ => none
theorem wtC_ok (args res l) (h : wtC args = some (res, l)) (hl : AllP l) : CallsD Try.prog 43 args res := by
  unfold wtC at h; split at h
  · simp only [Option.some.injEq, Prod.mk.injEq] at h
    obtain ⟨rfl, rfl⟩ := h; obtain ⟨h0, h1, h2, _⟩ := hl
    exact waited_ok _ _ _ _ _ _ _ h0 h1 h2
  · cases h
def X30 : Contracts := addCon 43 (.call wtC) X29
theorem hX30 : ConOK Try.prog X30 := addCall_ok wtC_ok hX29
end MeterS

namespace MeterS
open Go Go.Dam Go.Proofs
set_option maxRecDepth 1000000
set_option linter.unusedVariables false
set_option linter.unusedSectionVars false
set_option linter.unusedSimpArgs false
theorem most_min (p q : Int) : mostI .lss p q = min p q := by
  unfold mostI
  cases h : cmpI .lss q p with
  | true => rw [lss_t] at h; show q = min p q; omega
  | false => rw [lss_f] at h; show p = min p q; omega
/-- Ticks and costs as they come in. -/
def inNc (n c : Int) : Prop := 0 ≤ n ∧ n < 18446744073709551616 ∧ 0 ≤ c ∧ c < 9223372036854775808
def inC (c : Int) : Prop := 0 ≤ c ∧ c < 9223372036854775808
variable [Glo]

theorem rask_p0 (b r p v q t b1 r1 p1 v1 q1 t1 b2 r2 p2 v2 q2 t2 c : Int) : fnX Try.prog X30 100000 [.c 0, PE.u, .c 0, .d true, .c 1, PE.u, .c 0, .d true] 41 [D.sh 3 (bk1 b r p v q t ++ bk1 b1 r1 p1 v1 q1 t1 ++ bk1 b2 r2 p2 v2 q2 t2), i64 c] = some (i64 8, [cmpI BinOp.neq (bkE b r p v q) 0 = true, -9223372036854775808 ≤ v, v < 9223372036854775808, cmpI BinOp.neq (bkE b r p v q) 0 = true, -9223372036854775808 ≤ v, v < 9223372036854775808]) := by kernel_rfl
theorem rask_p1 (b r p v q t b1 r1 p1 v1 q1 t1 b2 r2 p2 v2 q2 t2 c : Int) : fnX Try.prog X30 100000 [.c 0, PE.u, .c 0, .d false, .c 0, .d true, .c 1, PE.u, .c 0, .d false, .c 0, .d true] 41 [D.sh 3 (bk1 b r p v q t ++ bk1 b1 r1 p1 v1 q1 t1 ++ bk1 b2 r2 p2 v2 q2 t2), i64 c] = some (i64 8, [cmpI BinOp.neq (bkE b1 r1 p1 v1 q1) 0 = true, -9223372036854775808 ≤ v1, v1 < 9223372036854775808, cmpI BinOp.neq (bkE b r p v q) 0 = false, -9223372036854775808 ≤ v, v < 9223372036854775808, cmpI BinOp.neq (bkE b1 r1 p1 v1 q1) 0 = true, -9223372036854775808 ≤ v1, v1 < 9223372036854775808, cmpI BinOp.neq (bkE b r p v q) 0 = false, -9223372036854775808 ≤ v, v < 9223372036854775808]) := by kernel_rfl
theorem rask_p2 (b r p v q t b1 r1 p1 v1 q1 t1 b2 r2 p2 v2 q2 t2 c : Int) : fnX Try.prog X30 100000 [.c 0, PE.u, .c 0, .d false, .c 0, .d false, .c 0, .d true, .c 1, PE.u, .c 0, .d false, .c 0, .d false, .c 0, .d true] 41 [D.sh 3 (bk1 b r p v q t ++ bk1 b1 r1 p1 v1 q1 t1 ++ bk1 b2 r2 p2 v2 q2 t2), i64 c] = some (i64 8, [cmpI BinOp.neq (bkE b2 r2 p2 v2 q2) 0 = true, -9223372036854775808 ≤ v2, v2 < 9223372036854775808, cmpI BinOp.neq (bkE b1 r1 p1 v1 q1) 0 = false, -9223372036854775808 ≤ v1, v1 < 9223372036854775808, cmpI BinOp.neq (bkE b r p v q) 0 = false, -9223372036854775808 ≤ v, v < 9223372036854775808, cmpI BinOp.neq (bkE b2 r2 p2 v2 q2) 0 = true, -9223372036854775808 ≤ v2, v2 < 9223372036854775808, cmpI BinOp.neq (bkE b1 r1 p1 v1 q1) 0 = false, -9223372036854775808 ≤ v1, v1 < 9223372036854775808, cmpI BinOp.neq (bkE b r p v q) 0 = false, -9223372036854775808 ≤ v, v < 9223372036854775808]) := by kernel_rfl
theorem rask_p3 (b r p v q t b1 r1 p1 v1 q1 t1 b2 r2 p2 v2 q2 t2 c : Int) : fnX Try.prog X30 100000 [.c 0, PE.u, .c 0, .d false, .c 0, .d false, .c 0, .d false, .c 1, .d true] 41 [D.sh 3 (bk1 b r p v q t ++ bk1 b1 r1 p1 v1 q1 t1 ++ bk1 b2 r2 p2 v2 q2 t2), i64 c] = some (i64 2, [cmpI BinOp.lss c 0 = true, cmpI BinOp.neq (bkE b2 r2 p2 v2 q2) 0 = false, -9223372036854775808 ≤ v2, v2 < 9223372036854775808, cmpI BinOp.neq (bkE b1 r1 p1 v1 q1) 0 = false, -9223372036854775808 ≤ v1, v1 < 9223372036854775808, cmpI BinOp.neq (bkE b r p v q) 0 = false, -9223372036854775808 ≤ v, v < 9223372036854775808]) := by kernel_rfl
theorem rask_p4 (b r p v q t b1 r1 p1 v1 q1 t1 b2 r2 p2 v2 q2 t2 c : Int) : fnX Try.prog X30 100000 [.c 0, PE.u, .c 0, .d false, .c 0, .d false, .c 0, .d false, .c 1, .d false] 41 [D.sh 3 (bk1 b r p v q t ++ bk1 b1 r1 p1 v1 q1 t1 ++ bk1 b2 r2 p2 v2 q2 t2), i64 c] = some (i64 0, [cmpI BinOp.lss c 0 = false, cmpI BinOp.neq (bkE b2 r2 p2 v2 q2) 0 = false, -9223372036854775808 ≤ v2, v2 < 9223372036854775808, cmpI BinOp.neq (bkE b1 r1 p1 v1 q1) 0 = false, -9223372036854775808 ≤ v1, v1 < 9223372036854775808, cmpI BinOp.neq (bkE b r p v q) 0 = false, -9223372036854775808 ≤ v, v < 9223372036854775808]) := by kernel_rfl
theorem rask_calls (b r p v q t b1 r1 p1 v1 q1 t1 b2 r2 p2 v2 q2 t2 c : Int) (res : D)
  (h0 : ((cmpI BinOp.neq (bkE b r p v q) 0) = true) → ((-9223372036854775808 ≤ v) ∧ (v < 9223372036854775808) ∧ (-9223372036854775808 ≤ v) ∧ (v < 9223372036854775808) ∧ True) ∧ res = i64 8)
  (h1 : ((cmpI BinOp.neq (bkE b r p v q) 0) = false) → ((cmpI BinOp.neq (bkE b1 r1 p1 v1 q1) 0) = true) → ((-9223372036854775808 ≤ v1) ∧ (v1 < 9223372036854775808) ∧ (-9223372036854775808 ≤ v) ∧ (v < 9223372036854775808) ∧ (-9223372036854775808 ≤ v1) ∧ (v1 < 9223372036854775808) ∧ (-9223372036854775808 ≤ v) ∧ (v < 9223372036854775808) ∧ True) ∧ res = i64 8)
  (h2 : ((cmpI BinOp.neq (bkE b r p v q) 0) = false) → ((cmpI BinOp.neq (bkE b1 r1 p1 v1 q1) 0) = false) → ((cmpI BinOp.neq (bkE b2 r2 p2 v2 q2) 0) = true) → ((-9223372036854775808 ≤ v2) ∧ (v2 < 9223372036854775808) ∧ (-9223372036854775808 ≤ v1) ∧ (v1 < 9223372036854775808) ∧ (-9223372036854775808 ≤ v) ∧ (v < 9223372036854775808) ∧ (-9223372036854775808 ≤ v2) ∧ (v2 < 9223372036854775808) ∧ (-9223372036854775808 ≤ v1) ∧ (v1 < 9223372036854775808) ∧ (-9223372036854775808 ≤ v) ∧ (v < 9223372036854775808) ∧ True) ∧ res = i64 8)
  (h3 : ((cmpI BinOp.neq (bkE b r p v q) 0) = false) → ((cmpI BinOp.neq (bkE b1 r1 p1 v1 q1) 0) = false) → ((cmpI BinOp.neq (bkE b2 r2 p2 v2 q2) 0) = false) → ((cmpI BinOp.lss c 0) = true) → ((-9223372036854775808 ≤ v2) ∧ (v2 < 9223372036854775808) ∧ (-9223372036854775808 ≤ v1) ∧ (v1 < 9223372036854775808) ∧ (-9223372036854775808 ≤ v) ∧ (v < 9223372036854775808) ∧ True) ∧ res = i64 2)
  (h4 : ((cmpI BinOp.neq (bkE b r p v q) 0) = false) → ((cmpI BinOp.neq (bkE b1 r1 p1 v1 q1) 0) = false) → ((cmpI BinOp.neq (bkE b2 r2 p2 v2 q2) 0) = false) → ((cmpI BinOp.lss c 0) = false) → ((-9223372036854775808 ≤ v2) ∧ (v2 < 9223372036854775808) ∧ (-9223372036854775808 ≤ v1) ∧ (v1 < 9223372036854775808) ∧ (-9223372036854775808 ≤ v) ∧ (v < 9223372036854775808) ∧ True) ∧ res = i64 0) : CallsD Try.prog 41 [D.sh 3 (bk1 b r p v q t ++ bk1 b1 r1 p1 v1 q1 t1 ++ bk1 b2 r2 p2 v2 q2 t2), i64 c] res := by
  cases e0 : (cmpI BinOp.neq (bkE b r p v q) 0) with
  | true =>
    exact of_path hX30 (rask_p0 b r p v q t b1 r1 p1 v1 q1 t1 b2 r2 p2 v2 q2 t2 c) ⟨e0, (h0 e0).1.1, (h0 e0).1.2.1, e0, (h0 e0).1.2.2.1, (h0 e0).1.2.2.2.1, trivial⟩ (h0 e0).2
  | false =>
    cases e1 : (cmpI BinOp.neq (bkE b1 r1 p1 v1 q1) 0) with
    | true =>
      exact of_path hX30 (rask_p1 b r p v q t b1 r1 p1 v1 q1 t1 b2 r2 p2 v2 q2 t2 c) ⟨e1, (h1 e0 e1).1.1, (h1 e0 e1).1.2.1, e0, (h1 e0 e1).1.2.2.1, (h1 e0 e1).1.2.2.2.1, e1, (h1 e0 e1).1.2.2.2.2.1, (h1 e0 e1).1.2.2.2.2.2.1, e0, (h1 e0 e1).1.2.2.2.2.2.2.1, (h1 e0 e1).1.2.2.2.2.2.2.2.1, trivial⟩ (h1 e0 e1).2
    | false =>
      cases e2 : (cmpI BinOp.neq (bkE b2 r2 p2 v2 q2) 0) with
      | true =>
        exact of_path hX30 (rask_p2 b r p v q t b1 r1 p1 v1 q1 t1 b2 r2 p2 v2 q2 t2 c) ⟨e2, (h2 e0 e1 e2).1.1, (h2 e0 e1 e2).1.2.1, e1, (h2 e0 e1 e2).1.2.2.1, (h2 e0 e1 e2).1.2.2.2.1, e0, (h2 e0 e1 e2).1.2.2.2.2.1, (h2 e0 e1 e2).1.2.2.2.2.2.1, e2, (h2 e0 e1 e2).1.2.2.2.2.2.2.1, (h2 e0 e1 e2).1.2.2.2.2.2.2.2.1, e1, (h2 e0 e1 e2).1.2.2.2.2.2.2.2.2.1, (h2 e0 e1 e2).1.2.2.2.2.2.2.2.2.2.1, e0, (h2 e0 e1 e2).1.2.2.2.2.2.2.2.2.2.2.1, (h2 e0 e1 e2).1.2.2.2.2.2.2.2.2.2.2.2.1, trivial⟩ (h2 e0 e1 e2).2
      | false =>
        cases e3 : (cmpI BinOp.lss c 0) with
        | true =>
          exact of_path hX30 (rask_p3 b r p v q t b1 r1 p1 v1 q1 t1 b2 r2 p2 v2 q2 t2 c) ⟨e3, e2, (h3 e0 e1 e2 e3).1.1, (h3 e0 e1 e2 e3).1.2.1, e1, (h3 e0 e1 e2 e3).1.2.2.1, (h3 e0 e1 e2 e3).1.2.2.2.1, e0, (h3 e0 e1 e2 e3).1.2.2.2.2.1, (h3 e0 e1 e2 e3).1.2.2.2.2.2.1, trivial⟩ (h3 e0 e1 e2 e3).2
        | false =>
          exact of_path hX30 (rask_p4 b r p v q t b1 r1 p1 v1 q1 t1 b2 r2 p2 v2 q2 t2 c) ⟨e3, e2, (h4 e0 e1 e2 e3).1.1, (h4 e0 e1 e2 e3).1.2.1, e1, (h4 e0 e1 e2 e3).1.2.2.1, (h4 e0 e1 e2 e3).1.2.2.2.1, e0, (h4 e0 e1 e2 e3).1.2.2.2.2.1, (h4 e0 e1 e2 e3).1.2.2.2.2.2.1, trivial⟩ (h4 e0 e1 e2 e3).2
noncomputable def rtak_c0 (b r p v q t b1 r1 p1 v1 q1 t1 b2 r2 p2 v2 q2 t2 n c : Int) := mostI BinOp.lss (mostI BinOp.lss 9223372036854775807 (fiV b r p v q t n)) (fiV b1 r1 p1 v1 q1 t1 n)
noncomputable def rtak_c1 (b r p v q t b1 r1 p1 v1 q1 t1 b2 r2 p2 v2 q2 t2 n c : Int) := mostI BinOp.lss (rtak_c0 b r p v q t b1 r1 p1 v1 q1 t1 b2 r2 p2 v2 q2 t2 n c) (fiV b2 r2 p2 v2 q2 t2 n)
theorem rtak_p0 (b r p v q t b1 r1 p1 v1 q1 t1 b2 r2 p2 v2 q2 t2 n c : Int) : fnX Try.prog X30 100000 [PE.u, .c 3, PE.u, .c 3, .d true] 42 [D.sh 3 (bk1 b r p v q t ++ bk1 b1 r1 p1 v1 q1 t1 ++ bk1 b2 r2 p2 v2 q2 t2), u64 n, i64 c] = some (D.tup [D.ow 3 6 [i64 b, i64 r, i64 p, i64 (fiV b r p v q t n), i64 (fiQ b r p v q t n), u64 (fiT t n), i64 b1, i64 r1, i64 p1, i64 (fiV b1 r1 p1 v1 q1 t1 n), i64 (fiQ b1 r1 p1 v1 q1 t1 n), u64 (fiT t1 n), i64 b2, i64 r2, i64 p2, i64 (fiV b2 r2 p2 v2 q2 t2 n), i64 (fiQ b2 r2 p2 v2 q2 t2 n), u64 (fiT t2 n)], bo false], [cmpI BinOp.lss (rtak_c1 b r p v q t b1 r1 p1 v1 q1 t1 b2 r2 p2 v2 q2 t2 n c) c = true, bkE b2 r2 p2 v2 q2 = 0, 0 ≤ t2, t2 < 18446744073709551616, 0 ≤ n, n < 18446744073709551616, bkE b1 r1 p1 v1 q1 = 0, 0 ≤ t1, t1 < 18446744073709551616, 0 ≤ n, n < 18446744073709551616, bkE b r p v q = 0, 0 ≤ t, t < 18446744073709551616, 0 ≤ n, n < 18446744073709551616]) := by kernel_rfl
theorem rtak_p1 (b r p v q t b1 r1 p1 v1 q1 t1 b2 r2 p2 v2 q2 t2 n c : Int) : fnX Try.prog X30 100000 [PE.u, .c 3, PE.u, .c 3, .d false, PE.u, .c 3] 42 [D.sh 3 (bk1 b r p v q t ++ bk1 b1 r1 p1 v1 q1 t1 ++ bk1 b2 r2 p2 v2 q2 t2), u64 n, i64 c] = some (D.tup [D.ow 3 6 [i64 b, i64 r, i64 p, i64 (opI BinOp.sub IntKind.i64 (fiV b r p v q t n) c), i64 (fiQ b r p v q t n), u64 (fiT t n), i64 b1, i64 r1, i64 p1, i64 (opI BinOp.sub IntKind.i64 (fiV b1 r1 p1 v1 q1 t1 n) c), i64 (fiQ b1 r1 p1 v1 q1 t1 n), u64 (fiT t1 n), i64 b2, i64 r2, i64 p2, i64 (opI BinOp.sub IntKind.i64 (fiV b2 r2 p2 v2 q2 t2 n) c), i64 (fiQ b2 r2 p2 v2 q2 t2 n), u64 (fiT t2 n)], bo true], [cmpI BinOp.lss (rtak_c1 b r p v q t b1 r1 p1 v1 q1 t1 b2 r2 p2 v2 q2 t2 n c) c = false, bkE b2 r2 p2 v2 q2 = 0, 0 ≤ t2, t2 < 18446744073709551616, 0 ≤ n, n < 18446744073709551616, bkE b1 r1 p1 v1 q1 = 0, 0 ≤ t1, t1 < 18446744073709551616, 0 ≤ n, n < 18446744073709551616, bkE b r p v q = 0, 0 ≤ t, t < 18446744073709551616, 0 ≤ n, n < 18446744073709551616]) := by kernel_rfl
theorem rtak_calls (b r p v q t b1 r1 p1 v1 q1 t1 b2 r2 p2 v2 q2 t2 n c : Int) (res : D)
  (h0 : ((cmpI BinOp.lss (rtak_c1 b r p v q t b1 r1 p1 v1 q1 t1 b2 r2 p2 v2 q2 t2 n c) c) = true) → ((bkE b2 r2 p2 v2 q2 = 0) ∧ (0 ≤ t2) ∧ (t2 < 18446744073709551616) ∧ (0 ≤ n) ∧ (n < 18446744073709551616) ∧ (bkE b1 r1 p1 v1 q1 = 0) ∧ (0 ≤ t1) ∧ (t1 < 18446744073709551616) ∧ (0 ≤ n) ∧ (n < 18446744073709551616) ∧ (bkE b r p v q = 0) ∧ (0 ≤ t) ∧ (t < 18446744073709551616) ∧ (0 ≤ n) ∧ (n < 18446744073709551616) ∧ True) ∧ res = D.tup [D.ow 3 6 [i64 b, i64 r, i64 p, i64 (fiV b r p v q t n), i64 (fiQ b r p v q t n), u64 (fiT t n), i64 b1, i64 r1, i64 p1, i64 (fiV b1 r1 p1 v1 q1 t1 n), i64 (fiQ b1 r1 p1 v1 q1 t1 n), u64 (fiT t1 n), i64 b2, i64 r2, i64 p2, i64 (fiV b2 r2 p2 v2 q2 t2 n), i64 (fiQ b2 r2 p2 v2 q2 t2 n), u64 (fiT t2 n)], bo false])
  (h1 : ((cmpI BinOp.lss (rtak_c1 b r p v q t b1 r1 p1 v1 q1 t1 b2 r2 p2 v2 q2 t2 n c) c) = false) → ((bkE b2 r2 p2 v2 q2 = 0) ∧ (0 ≤ t2) ∧ (t2 < 18446744073709551616) ∧ (0 ≤ n) ∧ (n < 18446744073709551616) ∧ (bkE b1 r1 p1 v1 q1 = 0) ∧ (0 ≤ t1) ∧ (t1 < 18446744073709551616) ∧ (0 ≤ n) ∧ (n < 18446744073709551616) ∧ (bkE b r p v q = 0) ∧ (0 ≤ t) ∧ (t < 18446744073709551616) ∧ (0 ≤ n) ∧ (n < 18446744073709551616) ∧ True) ∧ res = D.tup [D.ow 3 6 [i64 b, i64 r, i64 p, i64 (opI BinOp.sub IntKind.i64 (fiV b r p v q t n) c), i64 (fiQ b r p v q t n), u64 (fiT t n), i64 b1, i64 r1, i64 p1, i64 (opI BinOp.sub IntKind.i64 (fiV b1 r1 p1 v1 q1 t1 n) c), i64 (fiQ b1 r1 p1 v1 q1 t1 n), u64 (fiT t1 n), i64 b2, i64 r2, i64 p2, i64 (opI BinOp.sub IntKind.i64 (fiV b2 r2 p2 v2 q2 t2 n) c), i64 (fiQ b2 r2 p2 v2 q2 t2 n), u64 (fiT t2 n)], bo true]) : CallsD Try.prog 42 [D.sh 3 (bk1 b r p v q t ++ bk1 b1 r1 p1 v1 q1 t1 ++ bk1 b2 r2 p2 v2 q2 t2), u64 n, i64 c] res := by
  cases e0 : (cmpI BinOp.lss (rtak_c1 b r p v q t b1 r1 p1 v1 q1 t1 b2 r2 p2 v2 q2 t2 n c) c) with
  | true =>
    exact of_path hX30 (rtak_p0 b r p v q t b1 r1 p1 v1 q1 t1 b2 r2 p2 v2 q2 t2 n c) ⟨e0, (h0 e0).1.1, (h0 e0).1.2.1, (h0 e0).1.2.2.1, (h0 e0).1.2.2.2.1, (h0 e0).1.2.2.2.2.1, (h0 e0).1.2.2.2.2.2.1, (h0 e0).1.2.2.2.2.2.2.1, (h0 e0).1.2.2.2.2.2.2.2.1, (h0 e0).1.2.2.2.2.2.2.2.2.1, (h0 e0).1.2.2.2.2.2.2.2.2.2.1, (h0 e0).1.2.2.2.2.2.2.2.2.2.2.1, (h0 e0).1.2.2.2.2.2.2.2.2.2.2.2.1, (h0 e0).1.2.2.2.2.2.2.2.2.2.2.2.2.1, (h0 e0).1.2.2.2.2.2.2.2.2.2.2.2.2.2.1, (h0 e0).1.2.2.2.2.2.2.2.2.2.2.2.2.2.2.1, trivial⟩ (h0 e0).2
  | false =>
    exact of_path hX30 (rtak_p1 b r p v q t b1 r1 p1 v1 q1 t1 b2 r2 p2 v2 q2 t2 n c) ⟨e0, (h1 e0).1.1, (h1 e0).1.2.1, (h1 e0).1.2.2.1, (h1 e0).1.2.2.2.1, (h1 e0).1.2.2.2.2.1, (h1 e0).1.2.2.2.2.2.1, (h1 e0).1.2.2.2.2.2.2.1, (h1 e0).1.2.2.2.2.2.2.2.1, (h1 e0).1.2.2.2.2.2.2.2.2.1, (h1 e0).1.2.2.2.2.2.2.2.2.2.1, (h1 e0).1.2.2.2.2.2.2.2.2.2.2.1, (h1 e0).1.2.2.2.2.2.2.2.2.2.2.2.1, (h1 e0).1.2.2.2.2.2.2.2.2.2.2.2.2.1, (h1 e0).1.2.2.2.2.2.2.2.2.2.2.2.2.2.1, (h1 e0).1.2.2.2.2.2.2.2.2.2.2.2.2.2.2.1, trivial⟩ (h1 e0).2
theorem rask_ok (b r p v q t b1 r1 p1 v1 q1 t1 b2 r2 p2 v2 q2 t2 c : Int) (h : val3 b r p v q t b1 r1 p1 v1 q1 t1 b2 r2 p2 v2 q2 t2) (hc : inC c) : CallsD Try.prog 41 [.sh 3 [i64 b, i64 r, i64 p, i64 v, i64 q, u64 t, i64 b1, i64 r1, i64 p1, i64 v1, i64 q1, u64 t1, i64 b2, i64 r2, i64 p2, i64 v2, i64 q2, u64 t2], i64 c] (i64 0) := by
  obtain ⟨⟨h, h', h''⟩, _⟩ := h
  obtain ⟨hl, v0, vb, _⟩ := bkE_is h
  obtain ⟨b0, b1', _⟩ := limE_is hl
  obtain ⟨hl', v0', vb', _⟩ := bkE_is h'
  obtain ⟨b0', b1'', _⟩ := limE_is hl'
  obtain ⟨hl'', v0'', vb'', _⟩ := bkE_is h''
  obtain ⟨b0'', b1''', _⟩ := limE_is hl''
  obtain ⟨c0, c1⟩ := hc
  refine rask_calls b r p v q t b1 r1 p1 v1 q1 t1 b2 r2 p2 v2 q2 t2 c _ ?_ ?_ ?_ ?_ ?_
  all_goals
    simp only [neq_t, neq_f, lss_t, lss_f]
    intros
  · exact absurd h ‹_›
  · exact absurd h' ‹_›
  · exact absurd h'' ‹_›
  · omega
  · exact ⟨by simp only [and_true]; omega, trivial⟩
theorem rtak_ok (b r p v q t b1 r1 p1 v1 q1 t1 b2 r2 p2 v2 q2 t2 n c : Int) (h : val3 b r p v q t b1 r1 p1 v1 q1 t1 b2 r2 p2 v2 q2 t2) (hc : inNc n c) : CallsD Try.prog 42 [.sh 3 [i64 b, i64 r, i64 p, i64 v, i64 q, u64 t, i64 b1, i64 r1, i64 p1, i64 v1, i64 q1, u64 t1, i64 b2, i64 r2, i64 p2, i64 v2, i64 q2, u64 t2], u64 n, i64 c] (.tup [.ow 3 6 [i64 b, i64 r, i64 p, i64 (lv (tk3 c (fiV b r p v q t n) (fiV b1 r1 p1 v1 q1 t1 n) (fiV b2 r2 p2 v2 q2 t2 n)) (fiV b r p v q t n) c), i64 (fiQ b r p v q t n), u64 (fiT t n), i64 b1, i64 r1, i64 p1, i64 (lv (tk3 c (fiV b r p v q t n) (fiV b1 r1 p1 v1 q1 t1 n) (fiV b2 r2 p2 v2 q2 t2 n)) (fiV b1 r1 p1 v1 q1 t1 n) c), i64 (fiQ b1 r1 p1 v1 q1 t1 n), u64 (fiT t1 n), i64 b2, i64 r2, i64 p2, i64 (lv (tk3 c (fiV b r p v q t n) (fiV b1 r1 p1 v1 q1 t1 n) (fiV b2 r2 p2 v2 q2 t2 n)) (fiV b2 r2 p2 v2 q2 t2 n) c), i64 (fiQ b2 r2 p2 v2 q2 t2 n), u64 (fiT t2 n)], bo (tk3 c (fiV b r p v q t n) (fiV b1 r1 p1 v1 q1 t1 n) (fiV b2 r2 p2 v2 q2 t2 n))]) := by
  obtain ⟨⟨h, h', h''⟩, t0, u0, t01, u01, t02, u02⟩ := h
  obtain ⟨n0, n1, c0, c1⟩ := hc
  have a0 := fi_in h t0 n0
  have a1 := fi_in h' t01 n0
  have a2 := fi_in h'' t02 n0
  refine rtak_calls b r p v q t b1 r1 p1 v1 q1 t1 b2 r2 p2 v2 q2 t2 n c _ ?_ ?_
  all_goals
    simp only [rtak_c0, rtak_c1, most_min]
    generalize fiV b r p v q t n = x at *
    generalize fiV b1 r1 p1 v1 q1 t1 n = y at *
    generalize fiV b2 r2 p2 v2 q2 t2 n = z at *
    simp only [lss_t, lss_f]
    intros
    refine ⟨⟨h'', t02, u02, n0, n1, h', t01, u01, n0, n1, h, t0, u0, n0, n1, trivial⟩, ?_⟩
  · have k : tk3 c x y z = false := by rw [Bool.eq_false_iff]; intro e; rw [tk3_iff] at e; omega
    rw [k]; rfl
  · have k : tk3 c x y z = true := tk3_iff.2 (by omega)
    have e0 : opI .sub .i64 x c = x - c := by rw [opI_sub, wrap_i64_of (by omega) (by omega)]
    have e1 : opI .sub .i64 y c = y - c := by rw [opI_sub, wrap_i64_of (by omega) (by omega)]
    have e2 : opI .sub .i64 z c = z - c := by rw [opI_sub, wrap_i64_of (by omega) (by omega)]
    rw [k, e0, e1, e2]; rfl
def rskC : List D → Option (D × List Prop)
  | [.sh 3 [.v (.int .i64 b), .v (.int .i64 r), .v (.int .i64 p), .v (.int .i64 v), .v (.int .i64 q), .v (.int .u64 t), .v (.int .i64 b1), .v (.int .i64 r1), .v (.int .i64 p1), .v (.int .i64 v1), .v (.int .i64 q1), .v (.int .u64 t1), .v (.int .i64 b2), .v (.int .i64 r2), .v (.int .i64 p2), .v (.int .i64 v2), .v (.int .i64 q2), .v (.int .u64 t2)], .v (.int .i64 c)] => some (i64 0, [val3 b r p v q t b1 r1 p1 v1 q1 t1 b2 r2 p2 v2 q2 t2, inC c])
  | _ => none
theorem rskC_ok (args res l) (h : rskC args = some (res, l)) (hl : AllP l) : CallsD Try.prog 41 args res := by
  unfold rskC at h; split at h
  · simp only [Option.some.injEq, Prod.mk.injEq] at h
    obtain ⟨rfl, rfl⟩ := h; obtain ⟨h0, h1, _⟩ := hl
    exact rask_ok _ _ _ _ _ _ _ _ _ _ _ _ _ _ _ _ _ _ _ h0 h1
  · cases h
def rtkC : List D → Option (D × List Prop)
  | [.sh 3 [.v (.int .i64 b), .v (.int .i64 r), .v (.int .i64 p), .v (.int .i64 v), .v (.int .i64 q), .v (.int .u64 t), .v (.int .i64 b1), .v (.int .i64 r1), .v (.int .i64 p1), .v (.int .i64 v1), .v (.int .i64 q1), .v (.int .u64 t1), .v (.int .i64 b2), .v (.int .i64 r2), .v (.int .i64 p2), .v (.int .i64 v2), .v (.int .i64 q2), .v (.int .u64 t2)], .v (.int .u64 n), .v (.int .i64 c)] => some ((.tup [.ow 3 6 [i64 b, i64 r, i64 p, i64 (lv (tk3 c (fiV b r p v q t n) (fiV b1 r1 p1 v1 q1 t1 n) (fiV b2 r2 p2 v2 q2 t2 n)) (fiV b r p v q t n) c), i64 (fiQ b r p v q t n), u64 (fiT t n), i64 b1, i64 r1, i64 p1, i64 (lv (tk3 c (fiV b r p v q t n) (fiV b1 r1 p1 v1 q1 t1 n) (fiV b2 r2 p2 v2 q2 t2 n)) (fiV b1 r1 p1 v1 q1 t1 n) c), i64 (fiQ b1 r1 p1 v1 q1 t1 n), u64 (fiT t1 n), i64 b2, i64 r2, i64 p2, i64 (lv (tk3 c (fiV b r p v q t n) (fiV b1 r1 p1 v1 q1 t1 n) (fiV b2 r2 p2 v2 q2 t2 n)) (fiV b2 r2 p2 v2 q2 t2 n) c), i64 (fiQ b2 r2 p2 v2 q2 t2 n), u64 (fiT t2 n)], bo (tk3 c (fiV b r p v q t n) (fiV b1 r1 p1 v1 q1 t1 n) (fiV b2 r2 p2 v2 q2 t2 n))]), [val3 b r p v q t b1 r1 p1 v1 q1 t1 b2 r2 p2 v2 q2 t2, inNc n c])
  | _ => none
theorem rtkC_ok (args res l) (h : rtkC args = some (res, l)) (hl : AllP l) : CallsD Try.prog 42 args res := by
  unfold rtkC at h; split at h
  · simp only [Option.some.injEq, Prod.mk.injEq] at h
    obtain ⟨rfl, rfl⟩ := h; obtain ⟨h0, h1, _⟩ := hl
    exact rtak_ok _ _ _ _ _ _ _ _ _ _ _ _ _ _ _ _ _ _ _ _ h0 h1
  · cases h
def X31 : Contracts := addCon 41 (.call rskC) (addCon 42 (.call rtkC) X30)
theorem hX31 : ConOK Try.prog X31 := addCall_ok rskC_ok (addCall_ok rtkC_ok hX30)
end MeterS
