/- The functions of the folder meter and what they reach: what they compute. No condition. -/
import Derived.Test.YtkbdboclckpmgaaMetI
set_option linter.unusedSectionVars false
set_option linter.unusedVariables false
set_option linter.unusedSimpArgs false
namespace MeterS
open Go Go.Dam Go.Proofs
set_option maxRecDepth 1000000
set_option linter.unusedVariables false
set_option linter.unusedSectionVars false
set_option linter.unusedSimpArgs false
variable [Glo]
theorem refDiv_p0 (h : Int) (l : Int) (d : Int) (qh : Int) (ql : Int) (rl : Int) : fnX Try.prog X4 100000 [.d true] 58 [D.agg [D.v (Value.int IntKind.u64 h), D.v (Value.int IntKind.u64 l)], D.v (Value.int IntKind.u64 d)] = some (D.tup
  [D.agg [D.v (Value.int IntKind.u64 0), D.v (Value.int IntKind.u64 0)], D.v (Value.int IntKind.u64 0),
    D.v (Value.int IntKind.i64 26)], [cmpI BinOp.eql d 0 = true]) := by kernel_rfl
theorem refDiv_p1 (h : Int) (l : Int) (d : Int) (qh : Int) (ql : Int) (rl : Int) : fnX Try.prog X4 100000 [.d false, PE.l [[1, 2, 4, 5, 6, 7, 8, 9]] [(64, 64), (128, 128), (224, 224), (256, 256)] (refDivT d 127 h l 0 0 0 0)
  (Ex.exit 0) (refDivT d (-1) h l qh ql 0 rl)] 58 [D.agg [D.v (Value.int IntKind.u64 h), D.v (Value.int IntKind.u64 l)], D.v (Value.int IntKind.u64 d)] = some (D.tup
  [D.agg [D.v (Value.int IntKind.u64 qh), D.v (Value.int IntKind.u64 ql)], D.v (Value.int IntKind.u64 rl),
    D.v (Value.int IntKind.i64 0)], [(refDivT d 127 h l 0 0 0 0 = refDivT d 127 h l 0 0 0 0),
  Runs Try.prog (CallsD Try.prog) (.code (.loop (loopAt Try.prog 58 0))) (refDivT d 127 h l 0 0 0 0).abs (Ex.exit 0) (refDivT d (-1) h l qh ql 0 rl).abs,
  cmpI BinOp.eql d 0 = false]) := by kernel_rfl
theorem refDiv_calls (h : Int) (l : Int) (d : Int) (qh : Int) (ql : Int) (rl : Int) (res : D)
  (h0 : ((cmpI BinOp.eql d 0) = true) → (True) ∧ res = D.tup
  [D.agg [D.v (Value.int IntKind.u64 0), D.v (Value.int IntKind.u64 0)], D.v (Value.int IntKind.u64 0),
    D.v (Value.int IntKind.i64 26)])
  (h1 : ((cmpI BinOp.eql d 0) = false) → ((Runs Try.prog (CallsD Try.prog) (.code (.loop (loopAt Try.prog 58 0))) (refDivT d 127 h l 0 0 0 0).abs (Ex.exit 0) (refDivT d (-1) h l qh ql 0 rl).abs) ∧ True) ∧ res = D.tup
  [D.agg [D.v (Value.int IntKind.u64 qh), D.v (Value.int IntKind.u64 ql)], D.v (Value.int IntKind.u64 rl),
    D.v (Value.int IntKind.i64 0)]) :
  CallsD Try.prog 58 [D.agg [D.v (Value.int IntKind.u64 h), D.v (Value.int IntKind.u64 l)], D.v (Value.int IntKind.u64 d)] res := by
  cases e0 : (cmpI BinOp.eql d 0) with
  | true =>
    exact of_path hX4 (refDiv_p0 h l d qh ql rl) ⟨e0, trivial⟩ (h0 e0).2
  | false =>
    exact of_path hX4 (refDiv_p1 h l d qh ql rl) ⟨rfl, (h1 e0).1.1, e0, trivial⟩ (h1 e0).2
theorem divA_p0 (h : Int) (l : Int) (d : Int) : fnX Try.prog X4 100000 [.d true] 53 [D.agg [D.v (Value.int IntKind.u64 h), D.v (Value.int IntKind.u64 l)], D.v (Value.int IntKind.u64 d)] = some (D.tup
  [D.agg [D.v (Value.int IntKind.u64 0), D.v (Value.int IntKind.u64 0)], D.v (Value.int IntKind.u64 0),
    D.v (Value.int IntKind.i64 26)], [cmpI BinOp.eql d 0 = true]) := by kernel_rfl
theorem divA_p1 (h : Int) (l : Int) (d : Int) : fnX Try.prog X4 100000 [.d false] 53 [D.agg [D.v (Value.int IntKind.u64 h), D.v (Value.int IntKind.u64 l)], D.v (Value.int IntKind.u64 d)] = some (D.tup
  [D.agg
      [D.v (Value.int IntKind.u64 ((0 + h) / d)),
        D.v (Value.int IntKind.u64 (((0 + h) % d * 18446744073709551616 + l) / d))],
    D.v (Value.int IntKind.u64 (((0 + h) % d * 18446744073709551616 + l) % d)), D.v (Value.int IntKind.i64 0)], [0 ≤ (0 * 18446744073709551616 + h) % d,
  (0 * 18446744073709551616 + h) % d < d,
  d < 4294967296,
  0 ≤ l,
  l < 18446744073709551616,
  (0 : Int) ≤ (0 : Int),
  0 < d,
  d < 4294967296,
  0 ≤ h,
  h < 18446744073709551616,
  cmpI BinOp.eql d 0 = false]) := by kernel_rfl
theorem divA_calls (h : Int) (l : Int) (d : Int) (res : D)
  (h0 : ((cmpI BinOp.eql d 0) = true) → (True) ∧ res = D.tup
  [D.agg [D.v (Value.int IntKind.u64 0), D.v (Value.int IntKind.u64 0)], D.v (Value.int IntKind.u64 0),
    D.v (Value.int IntKind.i64 26)])
  (h1 : ((cmpI BinOp.eql d 0) = false) → ((0 ≤ (0 * 18446744073709551616 + h) % d) ∧ ((0 * 18446744073709551616 + h) % d < d) ∧ (d < 4294967296) ∧ (0 ≤ l) ∧ (l < 18446744073709551616) ∧ ((0 : Int) ≤ (0 : Int)) ∧ (0 < d) ∧ (d < 4294967296) ∧ (0 ≤ h) ∧ (h < 18446744073709551616) ∧ True) ∧ res = D.tup
  [D.agg
      [D.v (Value.int IntKind.u64 ((0 + h) / d)),
        D.v (Value.int IntKind.u64 (((0 + h) % d * 18446744073709551616 + l) / d))],
    D.v (Value.int IntKind.u64 (((0 + h) % d * 18446744073709551616 + l) % d)), D.v (Value.int IntKind.i64 0)]) :
  CallsD Try.prog 53 [D.agg [D.v (Value.int IntKind.u64 h), D.v (Value.int IntKind.u64 l)], D.v (Value.int IntKind.u64 d)] res := by
  cases e0 : (cmpI BinOp.eql d 0) with
  | true =>
    exact of_path hX4 (divA_p0 h l d) ⟨e0, trivial⟩ (h0 e0).2
  | false =>
    exact of_path hX4 (divA_p1 h l d) ⟨(h1 e0).1.1, (h1 e0).1.2.1, (h1 e0).1.2.2.1, (h1 e0).1.2.2.2.1, (h1 e0).1.2.2.2.2.1, (h1 e0).1.2.2.2.2.2.1, (h1 e0).1.2.2.2.2.2.2.1, (h1 e0).1.2.2.2.2.2.2.2.1, (h1 e0).1.2.2.2.2.2.2.2.2.1, (h1 e0).1.2.2.2.2.2.2.2.2.2.1, e0, trivial⟩ (h1 e0).2
theorem subB_p0 (h : Int) (l : Int) (d : Int) (e : Int) : fnX Try.prog X4 100000 [.d true] 30 [D.agg [D.v (Value.int IntKind.u64 h), D.v (Value.int IntKind.u64 l)],
  D.agg [D.v (Value.int IntKind.u64 d), D.v (Value.int IntKind.u64 e)]] = some (D.tup [D.agg [D.v (Value.int IntKind.u64 0), D.v (Value.int IntKind.u64 0)], D.v (Value.int IntKind.i64 16)], [cmpI BinOp.lss (cmpZ (h * 18446744073709551616 + l) (d * 18446744073709551616 + e)) 0 = true,
  0 ≤ l,
  l < 18446744073709551616,
  0 ≤ e,
  e < 18446744073709551616]) := by kernel_rfl
theorem subB_p1 (h : Int) (l : Int) (d : Int) (e : Int) : fnX Try.prog X4 100000 [.d false] 30 [D.agg [D.v (Value.int IntKind.u64 h), D.v (Value.int IntKind.u64 l)],
  D.agg [D.v (Value.int IntKind.u64 d), D.v (Value.int IntKind.u64 e)]] = some (D.tup
  [D.agg
      [D.v
          (Value.int IntKind.u64
            ((h * 18446744073709551616 + l - (d * 18446744073709551616 + e)) / 18446744073709551616)),
        D.v
          (Value.int IntKind.u64
            ((h * 18446744073709551616 + l - (d * 18446744073709551616 + e)) % 18446744073709551616))],
    D.v (Value.int IntKind.i64 0)], [h < 18446744073709551616,
  0 ≤ l,
  l < 18446744073709551616,
  0 ≤ d,
  0 ≤ e,
  e < 18446744073709551616,
  d * 18446744073709551616 + e ≤ h * 18446744073709551616 + l,
  cmpI BinOp.lss (cmpZ (h * 18446744073709551616 + l) (d * 18446744073709551616 + e)) 0 = false,
  0 ≤ l,
  l < 18446744073709551616,
  0 ≤ e,
  e < 18446744073709551616]) := by kernel_rfl
theorem subB_calls (h : Int) (l : Int) (d : Int) (e : Int) (res : D)
  (h0 : ((cmpI BinOp.lss (cmpZ (h * 18446744073709551616 + l) (d * 18446744073709551616 + e)) 0) = true) → ((0 ≤ l) ∧ (l < 18446744073709551616) ∧ (0 ≤ e) ∧ (e < 18446744073709551616) ∧ True) ∧ res = D.tup [D.agg [D.v (Value.int IntKind.u64 0), D.v (Value.int IntKind.u64 0)], D.v (Value.int IntKind.i64 16)])
  (h1 : ((cmpI BinOp.lss (cmpZ (h * 18446744073709551616 + l) (d * 18446744073709551616 + e)) 0) = false) → ((h < 18446744073709551616) ∧ (0 ≤ l) ∧ (l < 18446744073709551616) ∧ (0 ≤ d) ∧ (0 ≤ e) ∧ (e < 18446744073709551616) ∧ (d * 18446744073709551616 + e ≤ h * 18446744073709551616 + l) ∧ (0 ≤ l) ∧ (l < 18446744073709551616) ∧ (0 ≤ e) ∧ (e < 18446744073709551616) ∧ True) ∧ res = D.tup
  [D.agg
      [D.v
          (Value.int IntKind.u64
            ((h * 18446744073709551616 + l - (d * 18446744073709551616 + e)) / 18446744073709551616)),
        D.v
          (Value.int IntKind.u64
            ((h * 18446744073709551616 + l - (d * 18446744073709551616 + e)) % 18446744073709551616))],
    D.v (Value.int IntKind.i64 0)]) :
  CallsD Try.prog 30 [D.agg [D.v (Value.int IntKind.u64 h), D.v (Value.int IntKind.u64 l)],
  D.agg [D.v (Value.int IntKind.u64 d), D.v (Value.int IntKind.u64 e)]] res := by
  cases e0 : (cmpI BinOp.lss (cmpZ (h * 18446744073709551616 + l) (d * 18446744073709551616 + e)) 0) with
  | true =>
    exact of_path hX4 (subB_p0 h l d e) ⟨e0, (h0 e0).1.1, (h0 e0).1.2.1, (h0 e0).1.2.2.1, (h0 e0).1.2.2.2.1, trivial⟩ (h0 e0).2
  | false =>
    exact of_path hX4 (subB_p1 h l d e) ⟨(h1 e0).1.1, (h1 e0).1.2.1, (h1 e0).1.2.2.1, (h1 e0).1.2.2.2.1, (h1 e0).1.2.2.2.2.1, (h1 e0).1.2.2.2.2.2.1, (h1 e0).1.2.2.2.2.2.2.1, e0, (h1 e0).1.2.2.2.2.2.2.2.1, (h1 e0).1.2.2.2.2.2.2.2.2.1, (h1 e0).1.2.2.2.2.2.2.2.2.2.1, (h1 e0).1.2.2.2.2.2.2.2.2.2.2.1, trivial⟩ (h1 e0).2
def divD (a d : Int) : D := .tup [wd (a / d), u64 (a % d), i64 0]
theorem refDiv_ok (h l d : Int) (hd : 0 < d) (hd1 : d < 4294967296) (h0 : 0 ≤ h) (h1 : h < 18446744073709551616) (l0 : 0 ≤ l) (l1 : l < 18446744073709551616) :
    CallsD Try.prog 58 [.agg [u64 h, u64 l], u64 d] (divD (h * 18446744073709551616 + l) d) := by
  refine refDiv_calls h l d ((h * 18446744073709551616 + l) / d / 18446744073709551616) ((h * 18446744073709551616 + l) / d % 18446744073709551616) ((h * 18446744073709551616 + l) % d) _ ?_ ?_
  · intro a; rw [eql_t] at a; omega
  · intro a
    refine ⟨⟨?_, trivial⟩, rfl⟩
    have := refDiv_loop d h l hd hd1 h0 h1 l0 l1 128 (by decide)
    have e : (h * 18446744073709551616 + l) / 2 ^ 128 = 0 := Int.ediv_eq_zero_of_lt (by omega) (by omega)
    rw [e, Int.zero_ediv, Int.zero_emod] at this
    exact loop_of_rounds this
theorem divA_ok (h l d : Int) (hd : 0 < d) (hd1 : d < 4294967296) (h0 : 0 ≤ h) (h1 : h < 18446744073709551616) (l0 : 0 ≤ l) (l1 : l < 18446744073709551616) :
    CallsD Try.prog 53 [.agg [u64 h, u64 l], u64 d] (divD (h * 18446744073709551616 + l) d) := by
  have r0 := Int.emod_nonneg h (show d ≠ 0 by omega)
  have r1 := Int.emod_lt_of_pos h hd
  have hq := Int.mul_ediv_add_emod h d
  have q0 : 0 ≤ h / d := Int.ediv_nonneg h0 (by omega)
  have q1 : h / d ≤ h := Int.ediv_le_self _ h0
  refine divA_calls h l d _ ?_ ?_
  · intro a; rw [eql_t] at a; omega
  · intro a
    simp only [Int.zero_mul, Int.zero_add]
    refine ⟨by simp only [and_true]; omega, ?_⟩
    have s0 := Int.emod_nonneg (h % d * 18446744073709551616 + l) (show d ≠ 0 by omega)
    have s1 := Int.emod_lt_of_pos (h % d * 18446744073709551616 + l) hd
    have hs := Int.mul_ediv_add_emod (h % d * 18446744073709551616 + l) d
    have s2 : 0 ≤ (h % d * 18446744073709551616 + l) / d := Int.ediv_nonneg (by omega) (by omega)
    have s3 : (h % d * 18446744073709551616 + l) / d < 18446744073709551616 := by
      rw [Int.ediv_lt_iff_lt_mul hd]; omega
    have key : (h * 18446744073709551616 + l) / d = h / d * 18446744073709551616 + (h % d * 18446744073709551616 + l) / d ∧ (h * 18446744073709551616 + l) % d = (h % d * 18446744073709551616 + l) % d := by
      have e : h * 18446744073709551616 + l = (h % d * 18446744073709551616 + l) % d + d * (h / d * 18446744073709551616 + (h % d * 18446744073709551616 + l) / d) := by
        rw [Int.mul_add, ← Int.mul_assoc]; omega
      refine ⟨?_, ?_⟩
      · rw [e, Int.add_mul_ediv_left _ _ (by omega), Int.ediv_eq_zero_of_lt s0 s1, Int.zero_add]
      · rw [e, Int.add_mul_emod_self_left, Int.emod_eq_of_lt s0 s1]
    unfold divD wd
    rw [key.1, key.2, show (h / d * 18446744073709551616 + (h % d * 18446744073709551616 + l) / d) / 18446744073709551616 = h / d by omega, show (h / d * 18446744073709551616 + (h % d * 18446744073709551616 + l) / d) % 18446744073709551616 = (h % d * 18446744073709551616 + l) / d by omega]
theorem subB_ok (h l d e : Int) (h1 : h < 18446744073709551616) (l0 : 0 ≤ l) (l1 : l < 18446744073709551616) (d0 : 0 ≤ d) (e0 : 0 ≤ e) (e1 : e < 18446744073709551616) :
    CallsD Try.prog 30 [.agg [u64 h, u64 l], .agg [u64 d, u64 e]] (.tup [wd (if d * 18446744073709551616 + e ≤ h * 18446744073709551616 + l then h * 18446744073709551616 + l - (d * 18446744073709551616 + e) else 0), i64 (if d * 18446744073709551616 + e ≤ h * 18446744073709551616 + l then 0 else 16)]) := by
  refine subB_calls h l d e _ ?_ ?_
  · intro a
    rw [cmpZ_ls_t] at a
    refine ⟨by simp only [and_true]; omega, ?_⟩
    rw [if_neg (by omega), if_neg (by omega)]; rfl
  · intro a
    rw [cmpZ_ls_f] at a
    refine ⟨by simp only [and_true]; omega, ?_⟩
    rw [if_pos (by omega), if_pos (by omega)]; rfl
def divC2 : List D → Option (D × List Prop)
  | [.agg [.v (.int .u64 h), .v (.int .u64 l)], .v (.int .u64 d)] => some (divD (h * 18446744073709551616 + l) d, [0 < d, d < 4294967296, 0 ≤ h, h < 18446744073709551616, 0 ≤ l, l < 18446744073709551616])
  | _ => none
def subC : List D → Option (D × List Prop)
  | [.agg [.v (.int .u64 h), .v (.int .u64 l)], .agg [.v (.int .u64 d), .v (.int .u64 e)]] => some (.tup [wd (if d * 18446744073709551616 + e ≤ h * 18446744073709551616 + l then h * 18446744073709551616 + l - (d * 18446744073709551616 + e) else 0), i64 (if d * 18446744073709551616 + e ≤ h * 18446744073709551616 + l then 0 else 16)], [h < 18446744073709551616, 0 ≤ l, l < 18446744073709551616, 0 ≤ d, 0 ≤ e, e < 18446744073709551616])
  | _ => none
theorem divC_okA (args res l) (h : divC2 args = some (res, l)) (hl : AllP l) : CallsD Try.prog 53 args res := by
  unfold divC2 at h; split at h
  · simp only [Option.some.injEq, Prod.mk.injEq] at h
    obtain ⟨rfl, rfl⟩ := h; obtain ⟨h0, h1, h2, h3, h4, h5, _⟩ := hl
    exact divA_ok _ _ _ h0 h1 h2 h3 h4 h5
  · cases h
theorem divC_okB (args res l) (h : divC2 args = some (res, l)) (hl : AllP l) : CallsD Try.prog 58 args res := by
  unfold divC2 at h; split at h
  · simp only [Option.some.injEq, Prod.mk.injEq] at h
    obtain ⟨rfl, rfl⟩ := h; obtain ⟨h0, h1, h2, h3, h4, h5, _⟩ := hl
    exact refDiv_ok _ _ _ h0 h1 h2 h3 h4 h5
  · cases h
theorem subC_ok (args res l) (h : subC args = some (res, l)) (hl : AllP l) : CallsD Try.prog 30 args res := by
  unfold subC at h; split at h
  · simp only [Option.some.injEq, Prod.mk.injEq] at h
    obtain ⟨rfl, rfl⟩ := h; obtain ⟨h0, h1, h2, h3, h4, h5, _⟩ := hl
    exact subB_ok _ _ _ _ h0 h1 h2 h3 h4 h5
  · cases h
def X5 : Contracts := addCon 53 (.call divC2) (addCon 58 (.call divC2) (addCon 30 (.call subC) X4))
theorem hX5 : ConOK Try.prog X5 := addCall_ok divC_okA (addCall_ok divC_okB (addCall_ok subC_ok hX4))
end MeterS

namespace MeterS
open Go Go.Dam Go.Proofs
set_option maxRecDepth 1000000
set_option linter.unusedVariables false
set_option linter.unusedSectionVars false
set_option linter.unusedSimpArgs false
variable [Glo]
theorem ofA_p0 (x : Int) : fnX Try.prog X4 100000 [] 56 [D.v (Value.int IntKind.u64 x)] = some (D.agg [D.v (Value.int IntKind.u64 0), D.v (Value.int IntKind.u64 x)], []) := by kernel_rfl
theorem ofA_calls (x : Int) (res : D)
  (h0 : (True) ∧ res = D.agg [D.v (Value.int IntKind.u64 0), D.v (Value.int IntKind.u64 x)]) :
  CallsD Try.prog 56 [D.v (Value.int IntKind.u64 x)] res := by
  exact of_path hX4 (ofA_p0 x) trivial (h0).2
theorem smallA_p0 (h : Int) (l : Int) : fnX Try.prog X4 100000 [.d true] 57 [D.agg [D.v (Value.int IntKind.u64 h), D.v (Value.int IntKind.u64 l)]] = some (D.tup [D.v (Value.int IntKind.u64 0), D.v (Value.int IntKind.i64 16)], [cmpI BinOp.neq h 0 = true]) := by kernel_rfl
theorem smallA_p1 (h : Int) (l : Int) : fnX Try.prog X4 100000 [.d false] 57 [D.agg [D.v (Value.int IntKind.u64 h), D.v (Value.int IntKind.u64 l)]] = some (D.tup [D.v (Value.int IntKind.u64 l), D.v (Value.int IntKind.i64 0)], [cmpI BinOp.neq h 0 = false]) := by kernel_rfl
theorem smallA_calls (h : Int) (l : Int) (res : D)
  (h0 : ((cmpI BinOp.neq h 0) = true) → (True) ∧ res = D.tup [D.v (Value.int IntKind.u64 0), D.v (Value.int IntKind.i64 16)])
  (h1 : ((cmpI BinOp.neq h 0) = false) → (True) ∧ res = D.tup [D.v (Value.int IntKind.u64 l), D.v (Value.int IntKind.i64 0)]) :
  CallsD Try.prog 57 [D.agg [D.v (Value.int IntKind.u64 h), D.v (Value.int IntKind.u64 l)]] res := by
  cases e0 : (cmpI BinOp.neq h 0) with
  | true =>
    exact of_path hX4 (smallA_p0 h l) ⟨e0, trivial⟩ (h0 e0).2
  | false =>
    exact of_path hX4 (smallA_p1 h l) ⟨e0, trivial⟩ (h1 e0).2
def ofC : List D → Option (D × List Prop)
  | [.v (.int .u64 x)] => some (.agg [u64 0, u64 x], [])
  | _ => none
def smallC : List D → Option (D × List Prop)
  | [.agg [.v (.int .u64 h), .v (.int .u64 l)]] => some (.tup [u64 (if h = 0 then l else 0), i64 (if h = 0 then 0 else 16)], [])
  | _ => none
theorem ofC_ok (args res l) (h : ofC args = some (res, l)) (hl : AllP l) : CallsD Try.prog 56 args res := by
  unfold ofC at h; split at h
  · simp only [Option.some.injEq, Prod.mk.injEq] at h
    obtain ⟨rfl, rfl⟩ := h
    exact ofA_calls _ _ ⟨trivial, rfl⟩
  · cases h
theorem smallC_ok (args res l) (h : smallC args = some (res, l)) (hl : AllP l) : CallsD Try.prog 57 args res := by
  unfold smallC at h; split at h
  · simp only [Option.some.injEq, Prod.mk.injEq] at h
    obtain ⟨rfl, rfl⟩ := h
    refine smallA_calls _ _ _ ?_ ?_
    · intro a; rw [neq_t] at a; rw [if_neg a, if_neg a]; exact ⟨trivial, rfl⟩
    · intro a; rw [neq_f] at a; rw [if_pos a, if_pos a]; exact ⟨trivial, rfl⟩
  · cases h
def X6 : Contracts := addCon 56 (.call ofC) (addCon 57 (.call smallC) X5)
theorem hX6 : ConOK Try.prog X6 := addCall_ok ofC_ok (addCall_ok smallC_ok hX5)
end MeterS

namespace MeterS
open Go Go.Dam Go.Proofs
set_option maxRecDepth 1000000
set_option linter.unusedVariables false
set_option linter.unusedSectionVars false
set_option linter.unusedSimpArgs false
/-- The bound of a limit over so many ticks, as a number. -/
def wN (b r p t : Int) : Int := t * r / p + b
theorem limE_ok {b r p : Int} (h : limE b r p = 0) : 1 ≤ b ∧ b ≤ 1000000000 ∧ 0 ≤ r ∧ r ≤ 1000000000 ∧ 1 ≤ p ∧ p ≤ 1000000000 := by
  unfold limE at h; split at h
  · cases h
  · omega
theorem fold64 (a : Int) : a / 18446744073709551616 * 18446744073709551616 + a % 18446744073709551616 = a := Int.ediv_mul_add_emod a _
theorem mul_bound {t r : Int} (t0 : 0 ≤ t) (t1 : t < 18446744073709551616) (r0 : 0 ≤ r) (r1 : r ≤ 1000000000) : 0 ≤ t * r ∧ t * r ≤ 18446744073709551615000000000 := by
  refine ⟨Int.mul_nonneg t0 r0, ?_⟩
  have := Int.mul_le_mul (show t ≤ 18446744073709551615 by omega) r1 r0 (by decide)
  exact this
theorem wN_bounds {b r p t : Int} (h : limE b r p = 0) (t0 : 0 ≤ t) (t1 : t < 18446744073709551616) : 0 ≤ t * r / p ∧ b ≤ wN b r p t ∧ wN b r p t < 340282366920938463463374607431768211456 := by
  obtain ⟨b0, b1, r0, r1, p0, p1⟩ := limE_ok h
  obtain ⟨m0, m1⟩ := mul_bound t0 t1 r0 r1
  unfold wN
  generalize t * r = m at *
  have q0 : 0 ≤ m / p := Int.ediv_nonneg m0 (by omega)
  have q1 : m / p ≤ m := Int.ediv_le_self _ m0
  generalize m / p = q at *
  omega
variable [Glo]
theorem boundA_p0 (b : Int) (r : Int) (p : Int) (t : Int) : fnX Try.prog X6 100000 [] 46 [D.agg [D.v (Value.int IntKind.i64 b), D.v (Value.int IntKind.i64 r), D.v (Value.int IntKind.i64 p)],
  D.v (Value.int IntKind.u64 t)] = some (D.tup
  [D.v
      (Value.int IntKind.u64
        (if
            (if
                    (t * IntKind.u64.wrap r / 18446744073709551616 * 18446744073709551616 +
                                  t * IntKind.u64.wrap r % 18446744073709551616) /
                                IntKind.u64.wrap p /
                              18446744073709551616 *
                            18446744073709551616 +
                          (t * IntKind.u64.wrap r / 18446744073709551616 * 18446744073709551616 +
                                t * IntKind.u64.wrap r % 18446744073709551616) /
                              IntKind.u64.wrap p %
                            18446744073709551616 +
                        (0 * 18446744073709551616 + IntKind.u64.wrap b) <
                      340282366920938463463374607431768211456 then
                  (t * IntKind.u64.wrap r / 18446744073709551616 * 18446744073709551616 +
                              t * IntKind.u64.wrap r % 18446744073709551616) /
                            IntKind.u64.wrap p /
                          18446744073709551616 *
                        18446744073709551616 +
                      (t * IntKind.u64.wrap r / 18446744073709551616 * 18446744073709551616 +
                            t * IntKind.u64.wrap r % 18446744073709551616) /
                          IntKind.u64.wrap p %
                        18446744073709551616 +
                    (0 * 18446744073709551616 + IntKind.u64.wrap b)
                else 0) /
                18446744073709551616 =
              0 then
          (if
                (t * IntKind.u64.wrap r / 18446744073709551616 * 18446744073709551616 +
                              t * IntKind.u64.wrap r % 18446744073709551616) /
                            IntKind.u64.wrap p /
                          18446744073709551616 *
                        18446744073709551616 +
                      (t * IntKind.u64.wrap r / 18446744073709551616 * 18446744073709551616 +
                            t * IntKind.u64.wrap r % 18446744073709551616) /
                          IntKind.u64.wrap p %
                        18446744073709551616 +
                    (0 * 18446744073709551616 + IntKind.u64.wrap b) <
                  340282366920938463463374607431768211456 then
              (t * IntKind.u64.wrap r / 18446744073709551616 * 18446744073709551616 +
                          t * IntKind.u64.wrap r % 18446744073709551616) /
                        IntKind.u64.wrap p /
                      18446744073709551616 *
                    18446744073709551616 +
                  (t * IntKind.u64.wrap r / 18446744073709551616 * 18446744073709551616 +
                        t * IntKind.u64.wrap r % 18446744073709551616) /
                      IntKind.u64.wrap p %
                    18446744073709551616 +
                (0 + IntKind.u64.wrap b)
            else 0) %
            18446744073709551616
        else 0)),
    D.v
      (Value.int IntKind.i64
        (if
            (if
                    (t * IntKind.u64.wrap r / 18446744073709551616 * 18446744073709551616 +
                                  t * IntKind.u64.wrap r % 18446744073709551616) /
                                IntKind.u64.wrap p /
                              18446744073709551616 *
                            18446744073709551616 +
                          (t * IntKind.u64.wrap r / 18446744073709551616 * 18446744073709551616 +
                                t * IntKind.u64.wrap r % 18446744073709551616) /
                              IntKind.u64.wrap p %
                            18446744073709551616 +
                        (0 * 18446744073709551616 + IntKind.u64.wrap b) <
                      340282366920938463463374607431768211456 then
                  (t * IntKind.u64.wrap r / 18446744073709551616 * 18446744073709551616 +
                              t * IntKind.u64.wrap r % 18446744073709551616) /
                            IntKind.u64.wrap p /
                          18446744073709551616 *
                        18446744073709551616 +
                      (t * IntKind.u64.wrap r / 18446744073709551616 * 18446744073709551616 +
                            t * IntKind.u64.wrap r % 18446744073709551616) /
                          IntKind.u64.wrap p %
                        18446744073709551616 +
                    (0 * 18446744073709551616 + IntKind.u64.wrap b)
                else 0) /
                18446744073709551616 =
              0 then
          0
        else 16))], [0 ≤
  (t * IntKind.u64.wrap r / 18446744073709551616 * 18446744073709551616 +
        t * IntKind.u64.wrap r % 18446744073709551616) /
      IntKind.u64.wrap p /
    18446744073709551616,
  (t * IntKind.u64.wrap r / 18446744073709551616 * 18446744073709551616 + t * IntKind.u64.wrap r % 18446744073709551616) /
      IntKind.u64.wrap p /
    18446744073709551616 <
  18446744073709551616,
  0 ≤
  (t * IntKind.u64.wrap r / 18446744073709551616 * 18446744073709551616 +
        t * IntKind.u64.wrap r % 18446744073709551616) /
      IntKind.u64.wrap p %
    18446744073709551616,
  (t * IntKind.u64.wrap r / 18446744073709551616 * 18446744073709551616 + t * IntKind.u64.wrap r % 18446744073709551616) /
      IntKind.u64.wrap p %
    18446744073709551616 <
  18446744073709551616,
  (0 : Int) ≤ (0 : Int),
  (0 : Int) < (18446744073709551616 : Int),
  0 ≤ IntKind.u64.wrap b,
  IntKind.u64.wrap b < 18446744073709551616,
  0 < IntKind.u64.wrap p,
  IntKind.u64.wrap p < 4294967296,
  0 ≤ t * IntKind.u64.wrap r / 18446744073709551616,
  t * IntKind.u64.wrap r / 18446744073709551616 < 18446744073709551616,
  0 ≤ t * IntKind.u64.wrap r % 18446744073709551616,
  t * IntKind.u64.wrap r % 18446744073709551616 < 18446744073709551616,
  0 ≤ t,
  t < 18446744073709551616,
  0 ≤ IntKind.u64.wrap r,
  IntKind.u64.wrap r < 18446744073709551616]) := by kernel_rfl
theorem boundA_calls (b : Int) (r : Int) (p : Int) (t : Int) (res : D)
  (h0 : ((0 ≤
  (t * IntKind.u64.wrap r / 18446744073709551616 * 18446744073709551616 +
        t * IntKind.u64.wrap r % 18446744073709551616) /
      IntKind.u64.wrap p /
    18446744073709551616) ∧ ((t * IntKind.u64.wrap r / 18446744073709551616 * 18446744073709551616 + t * IntKind.u64.wrap r % 18446744073709551616) /
      IntKind.u64.wrap p /
    18446744073709551616 <
  18446744073709551616) ∧ (0 ≤
  (t * IntKind.u64.wrap r / 18446744073709551616 * 18446744073709551616 +
        t * IntKind.u64.wrap r % 18446744073709551616) /
      IntKind.u64.wrap p %
    18446744073709551616) ∧ ((t * IntKind.u64.wrap r / 18446744073709551616 * 18446744073709551616 + t * IntKind.u64.wrap r % 18446744073709551616) /
      IntKind.u64.wrap p %
    18446744073709551616 <
  18446744073709551616) ∧ ((0 : Int) ≤ (0 : Int)) ∧ ((0 : Int) < (18446744073709551616 : Int)) ∧ (0 ≤ IntKind.u64.wrap b) ∧ (IntKind.u64.wrap b < 18446744073709551616) ∧ (0 < IntKind.u64.wrap p) ∧ (IntKind.u64.wrap p < 4294967296) ∧ (0 ≤ t * IntKind.u64.wrap r / 18446744073709551616) ∧ (t * IntKind.u64.wrap r / 18446744073709551616 < 18446744073709551616) ∧ (0 ≤ t * IntKind.u64.wrap r % 18446744073709551616) ∧ (t * IntKind.u64.wrap r % 18446744073709551616 < 18446744073709551616) ∧ (0 ≤ t) ∧ (t < 18446744073709551616) ∧ (0 ≤ IntKind.u64.wrap r) ∧ (IntKind.u64.wrap r < 18446744073709551616) ∧ True) ∧ res = D.tup
  [D.v
      (Value.int IntKind.u64
        (if
            (if
                    (t * IntKind.u64.wrap r / 18446744073709551616 * 18446744073709551616 +
                                  t * IntKind.u64.wrap r % 18446744073709551616) /
                                IntKind.u64.wrap p /
                              18446744073709551616 *
                            18446744073709551616 +
                          (t * IntKind.u64.wrap r / 18446744073709551616 * 18446744073709551616 +
                                t * IntKind.u64.wrap r % 18446744073709551616) /
                              IntKind.u64.wrap p %
                            18446744073709551616 +
                        (0 * 18446744073709551616 + IntKind.u64.wrap b) <
                      340282366920938463463374607431768211456 then
                  (t * IntKind.u64.wrap r / 18446744073709551616 * 18446744073709551616 +
                              t * IntKind.u64.wrap r % 18446744073709551616) /
                            IntKind.u64.wrap p /
                          18446744073709551616 *
                        18446744073709551616 +
                      (t * IntKind.u64.wrap r / 18446744073709551616 * 18446744073709551616 +
                            t * IntKind.u64.wrap r % 18446744073709551616) /
                          IntKind.u64.wrap p %
                        18446744073709551616 +
                    (0 * 18446744073709551616 + IntKind.u64.wrap b)
                else 0) /
                18446744073709551616 =
              0 then
          (if
                (t * IntKind.u64.wrap r / 18446744073709551616 * 18446744073709551616 +
                              t * IntKind.u64.wrap r % 18446744073709551616) /
                            IntKind.u64.wrap p /
                          18446744073709551616 *
                        18446744073709551616 +
                      (t * IntKind.u64.wrap r / 18446744073709551616 * 18446744073709551616 +
                            t * IntKind.u64.wrap r % 18446744073709551616) /
                          IntKind.u64.wrap p %
                        18446744073709551616 +
                    (0 * 18446744073709551616 + IntKind.u64.wrap b) <
                  340282366920938463463374607431768211456 then
              (t * IntKind.u64.wrap r / 18446744073709551616 * 18446744073709551616 +
                          t * IntKind.u64.wrap r % 18446744073709551616) /
                        IntKind.u64.wrap p /
                      18446744073709551616 *
                    18446744073709551616 +
                  (t * IntKind.u64.wrap r / 18446744073709551616 * 18446744073709551616 +
                        t * IntKind.u64.wrap r % 18446744073709551616) /
                      IntKind.u64.wrap p %
                    18446744073709551616 +
                (0 + IntKind.u64.wrap b)
            else 0) %
            18446744073709551616
        else 0)),
    D.v
      (Value.int IntKind.i64
        (if
            (if
                    (t * IntKind.u64.wrap r / 18446744073709551616 * 18446744073709551616 +
                                  t * IntKind.u64.wrap r % 18446744073709551616) /
                                IntKind.u64.wrap p /
                              18446744073709551616 *
                            18446744073709551616 +
                          (t * IntKind.u64.wrap r / 18446744073709551616 * 18446744073709551616 +
                                t * IntKind.u64.wrap r % 18446744073709551616) /
                              IntKind.u64.wrap p %
                            18446744073709551616 +
                        (0 * 18446744073709551616 + IntKind.u64.wrap b) <
                      340282366920938463463374607431768211456 then
                  (t * IntKind.u64.wrap r / 18446744073709551616 * 18446744073709551616 +
                              t * IntKind.u64.wrap r % 18446744073709551616) /
                            IntKind.u64.wrap p /
                          18446744073709551616 *
                        18446744073709551616 +
                      (t * IntKind.u64.wrap r / 18446744073709551616 * 18446744073709551616 +
                            t * IntKind.u64.wrap r % 18446744073709551616) /
                          IntKind.u64.wrap p %
                        18446744073709551616 +
                    (0 * 18446744073709551616 + IntKind.u64.wrap b)
                else 0) /
                18446744073709551616 =
              0 then
          0
        else 16))]) :
  CallsD Try.prog 46 [D.agg [D.v (Value.int IntKind.i64 b), D.v (Value.int IntKind.i64 r), D.v (Value.int IntKind.i64 p)],
  D.v (Value.int IntKind.u64 t)] res := by
  exact of_path hX6 (boundA_p0 b r p t) ⟨(h0).1.1, (h0).1.2.1, (h0).1.2.2.1, (h0).1.2.2.2.1, (h0).1.2.2.2.2.1, (h0).1.2.2.2.2.2.1, (h0).1.2.2.2.2.2.2.1, (h0).1.2.2.2.2.2.2.2.1, (h0).1.2.2.2.2.2.2.2.2.1, (h0).1.2.2.2.2.2.2.2.2.2.1, (h0).1.2.2.2.2.2.2.2.2.2.2.1, (h0).1.2.2.2.2.2.2.2.2.2.2.2.1, (h0).1.2.2.2.2.2.2.2.2.2.2.2.2.1, (h0).1.2.2.2.2.2.2.2.2.2.2.2.2.2.1, (h0).1.2.2.2.2.2.2.2.2.2.2.2.2.2.2.1, (h0).1.2.2.2.2.2.2.2.2.2.2.2.2.2.2.2.1, (h0).1.2.2.2.2.2.2.2.2.2.2.2.2.2.2.2.2.1, (h0).1.2.2.2.2.2.2.2.2.2.2.2.2.2.2.2.2.2.1, trivial⟩ (h0).2
theorem wideB_p0 (b : Int) (r : Int) (p : Int) (t : Int) : fnX Try.prog X6 100000 [] 47 [D.agg [D.v (Value.int IntKind.i64 b), D.v (Value.int IntKind.i64 r), D.v (Value.int IntKind.i64 p)],
  D.v (Value.int IntKind.u64 t)] = some (D.agg
  [D.v
      (Value.int IntKind.u64
        ((if
              (t * IntKind.u64.wrap r / 18446744073709551616 * 18446744073709551616 +
                            t * IntKind.u64.wrap r % 18446744073709551616) /
                          IntKind.u64.wrap p /
                        18446744073709551616 *
                      18446744073709551616 +
                    (t * IntKind.u64.wrap r / 18446744073709551616 * 18446744073709551616 +
                          t * IntKind.u64.wrap r % 18446744073709551616) /
                        IntKind.u64.wrap p %
                      18446744073709551616 +
                  (0 * 18446744073709551616 + IntKind.u64.wrap b) <
                340282366920938463463374607431768211456 then
            (t * IntKind.u64.wrap r / 18446744073709551616 * 18446744073709551616 +
                        t * IntKind.u64.wrap r % 18446744073709551616) /
                      IntKind.u64.wrap p /
                    18446744073709551616 *
                  18446744073709551616 +
                (t * IntKind.u64.wrap r / 18446744073709551616 * 18446744073709551616 +
                      t * IntKind.u64.wrap r % 18446744073709551616) /
                    IntKind.u64.wrap p %
                  18446744073709551616 +
              (0 + IntKind.u64.wrap b)
          else 0) /
          18446744073709551616)),
    D.v
      (Value.int IntKind.u64
        ((if
              (t * IntKind.u64.wrap r / 18446744073709551616 * 18446744073709551616 +
                            t * IntKind.u64.wrap r % 18446744073709551616) /
                          IntKind.u64.wrap p /
                        18446744073709551616 *
                      18446744073709551616 +
                    (t * IntKind.u64.wrap r / 18446744073709551616 * 18446744073709551616 +
                          t * IntKind.u64.wrap r % 18446744073709551616) /
                        IntKind.u64.wrap p %
                      18446744073709551616 +
                  (0 * 18446744073709551616 + IntKind.u64.wrap b) <
                340282366920938463463374607431768211456 then
            (t * IntKind.u64.wrap r / 18446744073709551616 * 18446744073709551616 +
                        t * IntKind.u64.wrap r % 18446744073709551616) /
                      IntKind.u64.wrap p /
                    18446744073709551616 *
                  18446744073709551616 +
                (t * IntKind.u64.wrap r / 18446744073709551616 * 18446744073709551616 +
                      t * IntKind.u64.wrap r % 18446744073709551616) /
                    IntKind.u64.wrap p %
                  18446744073709551616 +
              (0 + IntKind.u64.wrap b)
          else 0) %
          18446744073709551616))], [0 ≤
  (t * IntKind.u64.wrap r / 18446744073709551616 * 18446744073709551616 +
        t * IntKind.u64.wrap r % 18446744073709551616) /
      IntKind.u64.wrap p /
    18446744073709551616,
  (t * IntKind.u64.wrap r / 18446744073709551616 * 18446744073709551616 + t * IntKind.u64.wrap r % 18446744073709551616) /
      IntKind.u64.wrap p /
    18446744073709551616 <
  18446744073709551616,
  0 ≤
  (t * IntKind.u64.wrap r / 18446744073709551616 * 18446744073709551616 +
        t * IntKind.u64.wrap r % 18446744073709551616) /
      IntKind.u64.wrap p %
    18446744073709551616,
  (t * IntKind.u64.wrap r / 18446744073709551616 * 18446744073709551616 + t * IntKind.u64.wrap r % 18446744073709551616) /
      IntKind.u64.wrap p %
    18446744073709551616 <
  18446744073709551616,
  (0 : Int) ≤ (0 : Int),
  (0 : Int) < (18446744073709551616 : Int),
  0 ≤ IntKind.u64.wrap b,
  IntKind.u64.wrap b < 18446744073709551616,
  0 < IntKind.u64.wrap p,
  IntKind.u64.wrap p < 4294967296,
  0 ≤ t * IntKind.u64.wrap r / 18446744073709551616,
  t * IntKind.u64.wrap r / 18446744073709551616 < 18446744073709551616,
  0 ≤ t * IntKind.u64.wrap r % 18446744073709551616,
  t * IntKind.u64.wrap r % 18446744073709551616 < 18446744073709551616,
  0 ≤ t,
  t < 18446744073709551616,
  0 ≤ IntKind.u64.wrap r,
  IntKind.u64.wrap r < 18446744073709551616]) := by kernel_rfl
theorem wideB_calls (b : Int) (r : Int) (p : Int) (t : Int) (res : D)
  (h0 : ((0 ≤
  (t * IntKind.u64.wrap r / 18446744073709551616 * 18446744073709551616 +
        t * IntKind.u64.wrap r % 18446744073709551616) /
      IntKind.u64.wrap p /
    18446744073709551616) ∧ ((t * IntKind.u64.wrap r / 18446744073709551616 * 18446744073709551616 + t * IntKind.u64.wrap r % 18446744073709551616) /
      IntKind.u64.wrap p /
    18446744073709551616 <
  18446744073709551616) ∧ (0 ≤
  (t * IntKind.u64.wrap r / 18446744073709551616 * 18446744073709551616 +
        t * IntKind.u64.wrap r % 18446744073709551616) /
      IntKind.u64.wrap p %
    18446744073709551616) ∧ ((t * IntKind.u64.wrap r / 18446744073709551616 * 18446744073709551616 + t * IntKind.u64.wrap r % 18446744073709551616) /
      IntKind.u64.wrap p %
    18446744073709551616 <
  18446744073709551616) ∧ ((0 : Int) ≤ (0 : Int)) ∧ ((0 : Int) < (18446744073709551616 : Int)) ∧ (0 ≤ IntKind.u64.wrap b) ∧ (IntKind.u64.wrap b < 18446744073709551616) ∧ (0 < IntKind.u64.wrap p) ∧ (IntKind.u64.wrap p < 4294967296) ∧ (0 ≤ t * IntKind.u64.wrap r / 18446744073709551616) ∧ (t * IntKind.u64.wrap r / 18446744073709551616 < 18446744073709551616) ∧ (0 ≤ t * IntKind.u64.wrap r % 18446744073709551616) ∧ (t * IntKind.u64.wrap r % 18446744073709551616 < 18446744073709551616) ∧ (0 ≤ t) ∧ (t < 18446744073709551616) ∧ (0 ≤ IntKind.u64.wrap r) ∧ (IntKind.u64.wrap r < 18446744073709551616) ∧ True) ∧ res = D.agg
  [D.v
      (Value.int IntKind.u64
        ((if
              (t * IntKind.u64.wrap r / 18446744073709551616 * 18446744073709551616 +
                            t * IntKind.u64.wrap r % 18446744073709551616) /
                          IntKind.u64.wrap p /
                        18446744073709551616 *
                      18446744073709551616 +
                    (t * IntKind.u64.wrap r / 18446744073709551616 * 18446744073709551616 +
                          t * IntKind.u64.wrap r % 18446744073709551616) /
                        IntKind.u64.wrap p %
                      18446744073709551616 +
                  (0 * 18446744073709551616 + IntKind.u64.wrap b) <
                340282366920938463463374607431768211456 then
            (t * IntKind.u64.wrap r / 18446744073709551616 * 18446744073709551616 +
                        t * IntKind.u64.wrap r % 18446744073709551616) /
                      IntKind.u64.wrap p /
                    18446744073709551616 *
                  18446744073709551616 +
                (t * IntKind.u64.wrap r / 18446744073709551616 * 18446744073709551616 +
                      t * IntKind.u64.wrap r % 18446744073709551616) /
                    IntKind.u64.wrap p %
                  18446744073709551616 +
              (0 + IntKind.u64.wrap b)
          else 0) /
          18446744073709551616)),
    D.v
      (Value.int IntKind.u64
        ((if
              (t * IntKind.u64.wrap r / 18446744073709551616 * 18446744073709551616 +
                            t * IntKind.u64.wrap r % 18446744073709551616) /
                          IntKind.u64.wrap p /
                        18446744073709551616 *
                      18446744073709551616 +
                    (t * IntKind.u64.wrap r / 18446744073709551616 * 18446744073709551616 +
                          t * IntKind.u64.wrap r % 18446744073709551616) /
                        IntKind.u64.wrap p %
                      18446744073709551616 +
                  (0 * 18446744073709551616 + IntKind.u64.wrap b) <
                340282366920938463463374607431768211456 then
            (t * IntKind.u64.wrap r / 18446744073709551616 * 18446744073709551616 +
                        t * IntKind.u64.wrap r % 18446744073709551616) /
                      IntKind.u64.wrap p /
                    18446744073709551616 *
                  18446744073709551616 +
                (t * IntKind.u64.wrap r / 18446744073709551616 * 18446744073709551616 +
                      t * IntKind.u64.wrap r % 18446744073709551616) /
                    IntKind.u64.wrap p %
                  18446744073709551616 +
              (0 + IntKind.u64.wrap b)
          else 0) %
          18446744073709551616))]) :
  CallsD Try.prog 47 [D.agg [D.v (Value.int IntKind.i64 b), D.v (Value.int IntKind.i64 r), D.v (Value.int IntKind.i64 p)],
  D.v (Value.int IntKind.u64 t)] res := by
  exact of_path hX6 (wideB_p0 b r p t) ⟨(h0).1.1, (h0).1.2.1, (h0).1.2.2.1, (h0).1.2.2.2.1, (h0).1.2.2.2.2.1, (h0).1.2.2.2.2.2.1, (h0).1.2.2.2.2.2.2.1, (h0).1.2.2.2.2.2.2.2.1, (h0).1.2.2.2.2.2.2.2.2.1, (h0).1.2.2.2.2.2.2.2.2.2.1, (h0).1.2.2.2.2.2.2.2.2.2.2.1, (h0).1.2.2.2.2.2.2.2.2.2.2.2.1, (h0).1.2.2.2.2.2.2.2.2.2.2.2.2.1, (h0).1.2.2.2.2.2.2.2.2.2.2.2.2.2.1, (h0).1.2.2.2.2.2.2.2.2.2.2.2.2.2.2.1, (h0).1.2.2.2.2.2.2.2.2.2.2.2.2.2.2.2.1, (h0).1.2.2.2.2.2.2.2.2.2.2.2.2.2.2.2.2.1, (h0).1.2.2.2.2.2.2.2.2.2.2.2.2.2.2.2.2.2.1, trivial⟩ (h0).2
def boundD (w : Int) : D := .tup [u64 (if w < 18446744073709551616 then w else 0), i64 (if w < 18446744073709551616 then 0 else 16)]
theorem wideB_ok (b r p t : Int) (h : limE b r p = 0) (t0 : 0 ≤ t) (t1 : t < 18446744073709551616) : CallsD Try.prog 47 [.agg [i64 b, i64 r, i64 p], u64 t] (wd (wN b r p t)) := by
  obtain ⟨b0, b1, r0, r1, p0, p1⟩ := limE_ok h
  obtain ⟨m0, m1⟩ := mul_bound t0 t1 r0 r1
  have wb : IntKind.wrap .u64 b = b := wrap_u64_of (by omega) (by omega)
  have wr : IntKind.wrap .u64 r = r := wrap_u64_of (by omega) (by omega)
  have wp : IntKind.wrap .u64 p = p := wrap_u64_of (by omega) (by omega)
  have q0 : 0 ≤ t * r / p := Int.ediv_nonneg m0 (by omega)
  have q1 : t * r / p ≤ t * r := Int.ediv_le_self _ m0
  refine wideB_calls b r p t _ ?_
  simp only [wb, wr, wp, fold64, Int.zero_mul, Int.zero_add, wN, wd]
  have hw := (wN_bounds h t0 t1).2.2
  unfold wN at hw
  rw [if_pos hw]
  generalize t * r = m at *
  generalize m / p = q at *
  exact ⟨by simp only [and_true]; omega, rfl⟩
theorem boundA_ok (b r p t : Int) (h : limE b r p = 0) (t0 : 0 ≤ t) (t1 : t < 18446744073709551616) : CallsD Try.prog 46 [.agg [i64 b, i64 r, i64 p], u64 t] (boundD (wN b r p t)) := by
  obtain ⟨b0, b1, r0, r1, p0, p1⟩ := limE_ok h
  obtain ⟨m0, m1⟩ := mul_bound t0 t1 r0 r1
  have wb : IntKind.wrap .u64 b = b := wrap_u64_of (by omega) (by omega)
  have wr : IntKind.wrap .u64 r = r := wrap_u64_of (by omega) (by omega)
  have wp : IntKind.wrap .u64 p = p := wrap_u64_of (by omega) (by omega)
  have q0 : 0 ≤ t * r / p := Int.ediv_nonneg m0 (by omega)
  have q1 : t * r / p ≤ t * r := Int.ediv_le_self _ m0
  refine boundA_calls b r p t _ ?_
  simp only [wb, wr, wp, fold64, Int.zero_mul, Int.zero_add, boundD, show t * r / p + b = wN b r p t from rfl]
  have hw := (wN_bounds h t0 t1).2.2
  simp only [if_pos hw]
  refine ⟨?_, ?_⟩
  · generalize t * r = m at *
    generalize m / p = q at *
    simp only [and_true]; omega
  · have hb := (wN_bounds h t0 t1).2.1
    by_cases c : wN b r p t < 18446744073709551616
    · rw [if_pos c, if_pos c, if_pos (by omega), if_pos (by omega), Int.emod_eq_of_lt (by omega) c]
    · rw [if_neg c, if_neg c, if_neg (by omega), if_neg (by omega)]
def wideC : List D → Option (D × List Prop)
  | [.agg [.v (.int .i64 b), .v (.int .i64 r), .v (.int .i64 p)], .v (.int .u64 t)] => some (wd (wN b r p t), [limE b r p = 0, 0 ≤ t, t < 18446744073709551616])
  | _ => none
def boundC : List D → Option (D × List Prop)
  | [.agg [.v (.int .i64 b), .v (.int .i64 r), .v (.int .i64 p)], .v (.int .u64 t)] => some (boundD (wN b r p t), [limE b r p = 0, 0 ≤ t, t < 18446744073709551616])
  | _ => none
theorem wideC_ok (args res l) (h : wideC args = some (res, l)) (hl : AllP l) : CallsD Try.prog 47 args res := by
  unfold wideC at h; split at h
  · simp only [Option.some.injEq, Prod.mk.injEq] at h
    obtain ⟨rfl, rfl⟩ := h; obtain ⟨h0, h1, h2, _⟩ := hl
    exact wideB_ok _ _ _ _ h0 h1 h2
  · cases h
theorem boundC_ok (args res l) (h : boundC args = some (res, l)) (hl : AllP l) : CallsD Try.prog 46 args res := by
  unfold boundC at h; split at h
  · simp only [Option.some.injEq, Prod.mk.injEq] at h
    obtain ⟨rfl, rfl⟩ := h; obtain ⟨h0, h1, h2, _⟩ := hl
    exact boundA_ok _ _ _ _ h0 h1 h2
  · cases h
def X7 : Contracts := addCon 47 (.call wideC) (addCon 46 (.call boundC) X6)
theorem hX7 : ConOK Try.prog X7 := addCall_ok wideC_ok (addCall_ok boundC_ok hX6)
end MeterS
