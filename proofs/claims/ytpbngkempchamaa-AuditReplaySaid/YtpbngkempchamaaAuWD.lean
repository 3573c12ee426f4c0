/- The functions of the folder audit and what they reach: what they compute. No condition. -/
import Derived.Test.YtpbngkempchamaaAuMK
set_option linter.unusedSectionVars false
set_option linter.unusedVariables false
set_option linter.unusedSimpArgs false
namespace MeterS
open Go Go.Dam Go.Proofs
set_option maxRecDepth 1000000
set_option linter.unusedVariables false
set_option linter.unusedSectionVars false
set_option linter.unusedSimpArgs false
variable [Glo]
/-! math/bits.Sub64 -/
def borrowI (x y c : Int) : Int := if x < y + c then 1 else 0
theorem sub64 (x y c : Int) (hx : 0 ≤ x) (hx1 : x < 18446744073709551616) (hy : 0 ≤ y) (hy1 : y < 18446744073709551616) (h0 : 0 ≤ c) (h1 : c ≤ 1) : pureRun Try.prog (callFunc 65 #[.int .u64 x, .int .u64 y, .int .u64 c]) =
    some (.value (.tuple #[.int .u64 ((x - y - c) % 18446744073709551616), .int .u64 (borrowI x y c)])) := by
  obtain ⟨m, rfl⟩ := Int.eq_ofNat_of_zero_le hx
  obtain ⟨n, rfl⟩ := Int.eq_ofNat_of_zero_le hy
  have e0 : pureRun Try.prog (callFunc 65 #[.int .u64 (Int.ofNat m), .int .u64 (Int.ofNat n), .int .u64 0]) = some (.value (.tuple #[.int .u64 (Int.ofNat ((m + 18446744073709551616 - n - 0) % 18446744073709551616)), .int .u64 (Int.ofNat (if m < n + 0 then 1 else 0))])) := by kernel_rfl
  have e1 : pureRun Try.prog (callFunc 65 #[.int .u64 (Int.ofNat m), .int .u64 (Int.ofNat n), .int .u64 1]) = some (.value (.tuple #[.int .u64 (Int.ofNat ((m + 18446744073709551616 - n - 1) % 18446744073709551616)), .int .u64 (Int.ofNat (if m < n + 1 then 1 else 0))])) := by kernel_rfl
  unfold borrowI
  obtain rfl | rfl : c = 0 ∨ c = 1 := by omega
  · have a : (Int.ofNat ((m + 18446744073709551616 - n - 0) % 18446744073709551616) : Int) = ((m : Int) - n - 0) % 18446744073709551616 := by
      rw [Int.ofNat_eq_natCast]; omega
    have b : (Int.ofNat (if m < n + 0 then 1 else 0) : Int) = if (m : Int) < n + 0 then 1 else 0 := by
      by_cases q : m < n
      · rw [if_pos (by omega), if_pos (by omega)]; rfl
      · rw [if_neg (by omega), if_neg (by omega)]; rfl
    rw [a, b] at e0; exact e0
  · have a : (Int.ofNat ((m + 18446744073709551616 - n - 1) % 18446744073709551616) : Int) = ((m : Int) - n - 1) % 18446744073709551616 := by
      rw [Int.ofNat_eq_natCast]; omega
    have b : (Int.ofNat (if m < n + 1 then 1 else 0) : Int) = if (m : Int) < n + 1 then 1 else 0 := by
      by_cases q : m < n + 1
      · rw [if_pos q, if_pos (by omega)]; rfl
      · rw [if_neg q, if_neg (by omega)]; rfl
    rw [a, b] at e1; exact e1
def sub64C : List Value → Option (Value × List Prop)
  | [.int .u64 x, .int .u64 y, .int .u64 c] => some (.tuple #[.int .u64 ((x - y - c) % 18446744073709551616), .int .u64 (borrowI x y c)], [0 ≤ x, x < 18446744073709551616, 0 ≤ y, y < 18446744073709551616, 0 ≤ c, c ≤ 1])
  | _ => none
def XS : Contracts := addCon 65 (.ext sub64C) X6
theorem hXS : ConOK Try.prog XS := addExt_ok (fun vs u l h hl => by
  unfold sub64C at h
  split at h
  next x y c =>
    simp only [Option.some.injEq, Prod.mk.injEq] at h
    obtain ⟨rfl, rfl⟩ := h
    obtain ⟨h1, h2, h3, h4, h5, h6, _⟩ := hl
    exact sub64 x y c h1 h2 h3 h4 h5 h6
  · cases h) hX6
end MeterS

namespace MeterS
open Go Go.Dam Go.Proofs
set_option maxRecDepth 1000000
set_option linter.unusedVariables false
set_option linter.unusedSectionVars false
set_option linter.unusedSimpArgs false
variable [Glo]
theorem subA_p0 (h : Int) (l : Int) (d : Int) (e : Int) : fnX Try.prog XS 100000 [.d true] 50 [D.agg [D.v (Value.int IntKind.u64 h), D.v (Value.int IntKind.u64 l)],
  D.agg [D.v (Value.int IntKind.u64 d), D.v (Value.int IntKind.u64 e)]] = some (D.tup [D.agg [D.v (Value.int IntKind.u64 0), D.v (Value.int IntKind.u64 0)], D.v (Value.int IntKind.i64 16)], [cmpI BinOp.neq (borrowI h d (borrowI l e 0)) 0 = true,
  0 ≤ h,
  h < 18446744073709551616,
  0 ≤ d,
  d < 18446744073709551616,
  0 ≤ borrowI l e 0,
  borrowI l e 0 ≤ 1,
  0 ≤ l,
  l < 18446744073709551616,
  0 ≤ e,
  e < 18446744073709551616,
  (0 : Int) ≤ (0 : Int),
  (0 : Int) ≤ (1 : Int)]) := by kernel_rfl
theorem subA_p1 (h : Int) (l : Int) (d : Int) (e : Int) : fnX Try.prog XS 100000 [.d false] 50 [D.agg [D.v (Value.int IntKind.u64 h), D.v (Value.int IntKind.u64 l)],
  D.agg [D.v (Value.int IntKind.u64 d), D.v (Value.int IntKind.u64 e)]] = some (D.tup
  [D.agg
      [D.v (Value.int IntKind.u64 ((h - d - borrowI l e 0) % 18446744073709551616)),
        D.v (Value.int IntKind.u64 ((l - e - 0) % 18446744073709551616))],
    D.v (Value.int IntKind.i64 0)], [cmpI BinOp.neq (borrowI h d (borrowI l e 0)) 0 = false,
  0 ≤ h,
  h < 18446744073709551616,
  0 ≤ d,
  d < 18446744073709551616,
  0 ≤ borrowI l e 0,
  borrowI l e 0 ≤ 1,
  0 ≤ l,
  l < 18446744073709551616,
  0 ≤ e,
  e < 18446744073709551616,
  (0 : Int) ≤ (0 : Int),
  (0 : Int) ≤ (1 : Int)]) := by kernel_rfl
theorem subA_calls (h : Int) (l : Int) (d : Int) (e : Int) (res : D)
  (h0 : ((cmpI BinOp.neq (borrowI h d (borrowI l e 0)) 0) = true) → ((0 ≤ h) ∧ (h < 18446744073709551616) ∧ (0 ≤ d) ∧ (d < 18446744073709551616) ∧ (0 ≤ borrowI l e 0) ∧ (borrowI l e 0 ≤ 1) ∧ (0 ≤ l) ∧ (l < 18446744073709551616) ∧ (0 ≤ e) ∧ (e < 18446744073709551616) ∧ ((0 : Int) ≤ (0 : Int)) ∧ ((0 : Int) ≤ (1 : Int)) ∧ True) ∧ res = D.tup [D.agg [D.v (Value.int IntKind.u64 0), D.v (Value.int IntKind.u64 0)], D.v (Value.int IntKind.i64 16)])
  (h1 : ((cmpI BinOp.neq (borrowI h d (borrowI l e 0)) 0) = false) → ((0 ≤ h) ∧ (h < 18446744073709551616) ∧ (0 ≤ d) ∧ (d < 18446744073709551616) ∧ (0 ≤ borrowI l e 0) ∧ (borrowI l e 0 ≤ 1) ∧ (0 ≤ l) ∧ (l < 18446744073709551616) ∧ (0 ≤ e) ∧ (e < 18446744073709551616) ∧ ((0 : Int) ≤ (0 : Int)) ∧ ((0 : Int) ≤ (1 : Int)) ∧ True) ∧ res = D.tup
  [D.agg
      [D.v (Value.int IntKind.u64 ((h - d - borrowI l e 0) % 18446744073709551616)),
        D.v (Value.int IntKind.u64 ((l - e - 0) % 18446744073709551616))],
    D.v (Value.int IntKind.i64 0)]) :
  CallsD Try.prog 50 [D.agg [D.v (Value.int IntKind.u64 h), D.v (Value.int IntKind.u64 l)],
  D.agg [D.v (Value.int IntKind.u64 d), D.v (Value.int IntKind.u64 e)]] res := by
  cases e0 : (cmpI BinOp.neq (borrowI h d (borrowI l e 0)) 0) with
  | true =>
    exact of_path hXS (subA_p0 h l d e) ⟨e0, (h0 e0).1.1, (h0 e0).1.2.1, (h0 e0).1.2.2.1, (h0 e0).1.2.2.2.1, (h0 e0).1.2.2.2.2.1, (h0 e0).1.2.2.2.2.2.1, (h0 e0).1.2.2.2.2.2.2.1, (h0 e0).1.2.2.2.2.2.2.2.1, (h0 e0).1.2.2.2.2.2.2.2.2.1, (h0 e0).1.2.2.2.2.2.2.2.2.2.1, (h0 e0).1.2.2.2.2.2.2.2.2.2.2.1, (h0 e0).1.2.2.2.2.2.2.2.2.2.2.2.1, trivial⟩ (h0 e0).2
  | false =>
    exact of_path hXS (subA_p1 h l d e) ⟨e0, (h1 e0).1.1, (h1 e0).1.2.1, (h1 e0).1.2.2.1, (h1 e0).1.2.2.2.1, (h1 e0).1.2.2.2.2.1, (h1 e0).1.2.2.2.2.2.1, (h1 e0).1.2.2.2.2.2.2.1, (h1 e0).1.2.2.2.2.2.2.2.1, (h1 e0).1.2.2.2.2.2.2.2.2.1, (h1 e0).1.2.2.2.2.2.2.2.2.2.1, (h1 e0).1.2.2.2.2.2.2.2.2.2.2.1, (h1 e0).1.2.2.2.2.2.2.2.2.2.2.2.1, trivial⟩ (h1 e0).2
def subD (x y : Int) : D := .tup [wd (if y ≤ x then x - y else 0), i64 (if y ≤ x then 0 else 16)]
theorem subA_ok (h l d e : Int) (h0 : 0 ≤ h) (h1 : h < 18446744073709551616) (l0 : 0 ≤ l) (l1 : l < 18446744073709551616) (d0 : 0 ≤ d) (d1 : d < 18446744073709551616) (e0 : 0 ≤ e) (e1 : e < 18446744073709551616) :
    CallsD Try.prog 50 [.agg [u64 h, u64 l], .agg [u64 d, u64 e]] (subD (h * 18446744073709551616 + l) (d * 18446744073709551616 + e)) := by
  have key : ∀ c : Int, (l < e ∧ c = 1) ∨ (¬ l < e ∧ c = 0) → (¬ h < d + c → d * 18446744073709551616 + e ≤ h * 18446744073709551616 + l ∧ (h - d - c) % 18446744073709551616 = (h * 18446744073709551616 + l - (d * 18446744073709551616 + e)) / 18446744073709551616 ∧ (l - e) % 18446744073709551616 = (h * 18446744073709551616 + l - (d * 18446744073709551616 + e)) % 18446744073709551616) ∧ (h < d + c → ¬ d * 18446744073709551616 + e ≤ h * 18446744073709551616 + l) := fun c hc => by
    constructor
    · intro q; omega
    · intro q; omega
  have hb : borrowI l e 0 = 1 ∧ l < e ∨ borrowI l e 0 = 0 ∧ ¬ l < e := by unfold borrowI; split <;> omega
  obtain ⟨c, hc⟩ : ∃ c, borrowI l e 0 = c := ⟨_, rfl⟩
  rw [hc] at hb
  have hk := key c (by omega)
  have hb2 : borrowI h d c = 1 ∧ h < d + c ∨ borrowI h d c = 0 ∧ ¬ h < d + c := by unfold borrowI; split <;> omega
  refine subA_calls h l d e _ ?_ ?_
  all_goals simp only [hc]
  · intro a
    rw [neq_t] at a
    have g : h < d + c := by omega
    refine ⟨by simp only [and_true]; omega, ?_⟩
    unfold subD; rw [if_neg (hk.2 g), if_neg (hk.2 g)]; rfl
  · intro a
    rw [neq_f] at a
    obtain ⟨k1, k2, k3⟩ := hk.1 (by omega)
    refine ⟨by simp only [and_true]; omega, ?_⟩
    unfold subD wd; rw [if_pos k1, if_pos k1, ← k2, ← k3, Int.sub_zero]
end MeterS

namespace MeterS
open Go Go.Dam Go.Proofs
set_option maxRecDepth 1000000
set_option linter.unusedVariables false
set_option linter.unusedSectionVars false
set_option linter.unusedSimpArgs false
theorem fold64' (a : Int) : a / 18446744073709551616 * 18446744073709551616 + a % 18446744073709551616 = a := Int.ediv_mul_add_emod a _
/-- A quotient, raised. -/
def upN (a d : Int) : Int := if a % d = 0 then a / d else a / d + 1
variable [Glo]
theorem upA_p0 (h : Int) (l : Int) (d : Int) : fnX Try.prog XS 100000 [.c 1, .d true] 53 [D.agg [D.v (Value.int IntKind.u64 h), D.v (Value.int IntKind.u64 l)], D.v (Value.int IntKind.u64 d)] = some (D.tup
  [D.agg
      [D.v (Value.int IntKind.u64 ((h * 18446744073709551616 + l) / d / 18446744073709551616)),
        D.v (Value.int IntKind.u64 ((h * 18446744073709551616 + l) / d % 18446744073709551616))],
    D.v (Value.int IntKind.i64 0)], [cmpI BinOp.eql ((h * 18446744073709551616 + l) % d) 0 = true,
  0 < d,
  d < 4294967296,
  0 ≤ h,
  h < 18446744073709551616,
  0 ≤ l,
  l < 18446744073709551616]) := by kernel_rfl
theorem upA_p1 (h : Int) (l : Int) (d : Int) : fnX Try.prog XS 100000 [.c 1, .d false] 53 [D.agg [D.v (Value.int IntKind.u64 h), D.v (Value.int IntKind.u64 l)], D.v (Value.int IntKind.u64 d)] = some (D.tup
  [D.agg
      [D.v
          (Value.int IntKind.u64
            ((if
                  (h * 18446744073709551616 + l) / d / 18446744073709551616 * 18446744073709551616 +
                        (h * 18446744073709551616 + l) / d % 18446744073709551616 +
                      (0 * 18446744073709551616 + 1) <
                    340282366920938463463374607431768211456 then
                (h * 18446744073709551616 + l) / d / 18446744073709551616 * 18446744073709551616 +
                    (h * 18446744073709551616 + l) / d % 18446744073709551616 +
                  1
              else 0) /
              18446744073709551616)),
        D.v
          (Value.int IntKind.u64
            ((if
                  (h * 18446744073709551616 + l) / d / 18446744073709551616 * 18446744073709551616 +
                        (h * 18446744073709551616 + l) / d % 18446744073709551616 +
                      (0 * 18446744073709551616 + 1) <
                    340282366920938463463374607431768211456 then
                (h * 18446744073709551616 + l) / d / 18446744073709551616 * 18446744073709551616 +
                    (h * 18446744073709551616 + l) / d % 18446744073709551616 +
                  1
              else 0) %
              18446744073709551616))],
    D.v
      (Value.int IntKind.i64
        (if
            (h * 18446744073709551616 + l) / d / 18446744073709551616 * 18446744073709551616 +
                  (h * 18446744073709551616 + l) / d % 18446744073709551616 +
                (0 * 18446744073709551616 + 1) <
              340282366920938463463374607431768211456 then
          0
        else 16))], [0 ≤ (h * 18446744073709551616 + l) / d / 18446744073709551616,
  (h * 18446744073709551616 + l) / d / 18446744073709551616 < 18446744073709551616,
  0 ≤ (h * 18446744073709551616 + l) / d % 18446744073709551616,
  (h * 18446744073709551616 + l) / d % 18446744073709551616 < 18446744073709551616,
  (0 : Int) ≤ (0 : Int),
  (0 : Int) < (18446744073709551616 : Int),
  (0 : Int) ≤ (1 : Int),
  (1 : Int) < (18446744073709551616 : Int),
  cmpI BinOp.eql ((h * 18446744073709551616 + l) % d) 0 = false,
  0 < d,
  d < 4294967296,
  0 ≤ h,
  h < 18446744073709551616,
  0 ≤ l,
  l < 18446744073709551616]) := by kernel_rfl
theorem upA_calls (h : Int) (l : Int) (d : Int) (res : D)
  (h0 : ((cmpI BinOp.eql ((h * 18446744073709551616 + l) % d) 0) = true) → ((0 < d) ∧ (d < 4294967296) ∧ (0 ≤ h) ∧ (h < 18446744073709551616) ∧ (0 ≤ l) ∧ (l < 18446744073709551616) ∧ True) ∧ res = D.tup
  [D.agg
      [D.v (Value.int IntKind.u64 ((h * 18446744073709551616 + l) / d / 18446744073709551616)),
        D.v (Value.int IntKind.u64 ((h * 18446744073709551616 + l) / d % 18446744073709551616))],
    D.v (Value.int IntKind.i64 0)])
  (h1 : ((cmpI BinOp.eql ((h * 18446744073709551616 + l) % d) 0) = false) → ((0 ≤ (h * 18446744073709551616 + l) / d / 18446744073709551616) ∧ ((h * 18446744073709551616 + l) / d / 18446744073709551616 < 18446744073709551616) ∧ (0 ≤ (h * 18446744073709551616 + l) / d % 18446744073709551616) ∧ ((h * 18446744073709551616 + l) / d % 18446744073709551616 < 18446744073709551616) ∧ ((0 : Int) ≤ (0 : Int)) ∧ ((0 : Int) < (18446744073709551616 : Int)) ∧ ((0 : Int) ≤ (1 : Int)) ∧ ((1 : Int) < (18446744073709551616 : Int)) ∧ (0 < d) ∧ (d < 4294967296) ∧ (0 ≤ h) ∧ (h < 18446744073709551616) ∧ (0 ≤ l) ∧ (l < 18446744073709551616) ∧ True) ∧ res = D.tup
  [D.agg
      [D.v
          (Value.int IntKind.u64
            ((if
                  (h * 18446744073709551616 + l) / d / 18446744073709551616 * 18446744073709551616 +
                        (h * 18446744073709551616 + l) / d % 18446744073709551616 +
                      (0 * 18446744073709551616 + 1) <
                    340282366920938463463374607431768211456 then
                (h * 18446744073709551616 + l) / d / 18446744073709551616 * 18446744073709551616 +
                    (h * 18446744073709551616 + l) / d % 18446744073709551616 +
                  1
              else 0) /
              18446744073709551616)),
        D.v
          (Value.int IntKind.u64
            ((if
                  (h * 18446744073709551616 + l) / d / 18446744073709551616 * 18446744073709551616 +
                        (h * 18446744073709551616 + l) / d % 18446744073709551616 +
                      (0 * 18446744073709551616 + 1) <
                    340282366920938463463374607431768211456 then
                (h * 18446744073709551616 + l) / d / 18446744073709551616 * 18446744073709551616 +
                    (h * 18446744073709551616 + l) / d % 18446744073709551616 +
                  1
              else 0) %
              18446744073709551616))],
    D.v
      (Value.int IntKind.i64
        (if
            (h * 18446744073709551616 + l) / d / 18446744073709551616 * 18446744073709551616 +
                  (h * 18446744073709551616 + l) / d % 18446744073709551616 +
                (0 * 18446744073709551616 + 1) <
              340282366920938463463374607431768211456 then
          0
        else 16))]) :
  CallsD Try.prog 53 [D.agg [D.v (Value.int IntKind.u64 h), D.v (Value.int IntKind.u64 l)], D.v (Value.int IntKind.u64 d)] res := by
  cases e0 : (cmpI BinOp.eql ((h * 18446744073709551616 + l) % d) 0) with
  | true =>
    exact of_path hXS (upA_p0 h l d) ⟨e0, (h0 e0).1.1, (h0 e0).1.2.1, (h0 e0).1.2.2.1, (h0 e0).1.2.2.2.1, (h0 e0).1.2.2.2.2.1, (h0 e0).1.2.2.2.2.2.1, trivial⟩ (h0 e0).2
  | false =>
    exact of_path hXS (upA_p1 h l d) ⟨(h1 e0).1.1, (h1 e0).1.2.1, (h1 e0).1.2.2.1, (h1 e0).1.2.2.2.1, (h1 e0).1.2.2.2.2.1, (h1 e0).1.2.2.2.2.2.1, (h1 e0).1.2.2.2.2.2.2.1, (h1 e0).1.2.2.2.2.2.2.2.1, e0, (h1 e0).1.2.2.2.2.2.2.2.2.1, (h1 e0).1.2.2.2.2.2.2.2.2.2.1, (h1 e0).1.2.2.2.2.2.2.2.2.2.2.1, (h1 e0).1.2.2.2.2.2.2.2.2.2.2.2.1, (h1 e0).1.2.2.2.2.2.2.2.2.2.2.2.2.1, (h1 e0).1.2.2.2.2.2.2.2.2.2.2.2.2.2.1, trivial⟩ (h1 e0).2
theorem upA_ok (h l d : Int) (hd : 0 < d) (hd1 : d < 4294967296) (h0 : 0 ≤ h) (h1 : h < 18446744073709551616) (l0 : 0 ≤ l) (l1 : l < 18446744073709551616) :
    CallsD Try.prog 53 [.agg [u64 h, u64 l], u64 d] (.tup [wd (upN (h * 18446744073709551616 + l) d), i64 0]) := by
  have q0 : 0 ≤ (h * 18446744073709551616 + l) / d := Int.ediv_nonneg (by omega) (by omega)
  have q1 : (h * 18446744073709551616 + l) / d ≤ h * 18446744073709551616 + l := Int.ediv_le_self _ (by omega)
  refine upA_calls h l d _ ?_ ?_
  · intro a
    rw [eql_t] at a
    refine ⟨by simp only [and_true]; omega, ?_⟩
    unfold upN; rw [if_pos a]; rfl
  · intro a
    rw [eql_f] at a
    have hq : (h * 18446744073709551616 + l) / d + 1 < 340282366920938463463374607431768211456 := by
      have e := Int.mul_ediv_add_emod (h * 18446744073709551616 + l) d
      have r0 := Int.emod_nonneg (h * 18446744073709551616 + l) (show d ≠ 0 by omega)
      have r1 := Int.emod_lt_of_pos (h * 18446744073709551616 + l) hd
      have hd2 : 2 * ((h * 18446744073709551616 + l) / d) ≤ d * ((h * 18446744073709551616 + l) / d) := Int.mul_le_mul_of_nonneg_right (show 2 ≤ d by omega) q0
      omega
    simp only [fold64', Int.zero_mul, Int.zero_add, if_pos hq]
    refine ⟨by simp only [and_true]; omega, ?_⟩
    unfold upN; rw [if_neg a]; rfl
def upC : List D → Option (D × List Prop)
  | [.agg [.v (.int .u64 h), .v (.int .u64 l)], .v (.int .u64 d)] => some (.tup [wd (upN (h * 18446744073709551616 + l) d), i64 0], [0 < d, d < 4294967296, 0 ≤ h, h < 18446744073709551616, 0 ≤ l, l < 18446744073709551616])
  | _ => none
def subCA : List D → Option (D × List Prop)
  | [.agg [.v (.int .u64 h), .v (.int .u64 l)], .agg [.v (.int .u64 d), .v (.int .u64 e)]] => some (.tup [wd (if d * 18446744073709551616 + e ≤ h * 18446744073709551616 + l then h * 18446744073709551616 + l - (d * 18446744073709551616 + e) else 0), i64 (if d * 18446744073709551616 + e ≤ h * 18446744073709551616 + l then 0 else 16)], [0 ≤ h, h < 18446744073709551616, 0 ≤ l, l < 18446744073709551616, 0 ≤ d, d < 18446744073709551616, 0 ≤ e, e < 18446744073709551616])
  | _ => none
theorem upC_ok (args res l) (h : upC args = some (res, l)) (hl : AllP l) : CallsD Try.prog 53 args res := by
  unfold upC at h; split at h
  · simp only [Option.some.injEq, Prod.mk.injEq] at h
    obtain ⟨rfl, rfl⟩ := h; obtain ⟨h0, h1, h2, h3, h4, h5, _⟩ := hl
    exact upA_ok _ _ _ h0 h1 h2 h3 h4 h5
  · cases h
theorem subCA_ok (args res l) (h : subCA args = some (res, l)) (hl : AllP l) : CallsD Try.prog 50 args res := by
  unfold subCA at h; split at h
  · simp only [Option.some.injEq, Prod.mk.injEq] at h
    obtain ⟨rfl, rfl⟩ := h; obtain ⟨h0, h1, h2, h3, h4, h5, h6, h7, _⟩ := hl
    exact subA_ok _ _ _ _ h0 h1 h2 h3 h4 h5 h6 h7
  · cases h
def X20 : Contracts := addCon 53 (.call upC) (addCon 50 (.call subCA) XS)
theorem hX20 : ConOK Try.prog X20 := addCall_ok upC_ok (addCall_ok subCA_ok hXS)
end MeterS

namespace MeterS
open Go Go.Dam Go.Proofs
set_option maxRecDepth 1000000
set_option linter.unusedVariables false
set_option linter.unusedSectionVars false
set_option linter.unusedSimpArgs false
/-- The error of a bucket. -/
def bkE (b r p v q : Int) : Int := if limE b r p = 0 ∧ 0 ≤ v ∧ v ≤ b ∧ 0 ≤ q ∧ q < p ∧ ¬ (v = b ∧ 0 < q) then 0 else 8
theorem limE_two (b r p : Int) : limE b r p = 0 ∨ limE b r p = 8 := by unfold limE; split <;> simp
theorem limE_is {b r p : Int} (h : limE b r p = 0) : 1 ≤ b ∧ b ≤ 1000000000 ∧ 0 ≤ r ∧ r ≤ 1000000000 ∧ 1 ≤ p ∧ p ≤ 1000000000 := by
  unfold limE at h; split at h
  · cases h
  · omega
variable [Glo]
theorem bchkA_p0 (b : Int) (r : Int) (p : Int) (v : Int) (q : Int) (t : Int) : fnX Try.prog X20 100000 [.d true] 45 [D.agg
    [D.v (Value.int IntKind.i64 b), D.v (Value.int IntKind.i64 r), D.v (Value.int IntKind.i64 p),
      D.v (Value.int IntKind.i64 v), D.v (Value.int IntKind.i64 q), D.v (Value.int IntKind.u64 t)]] = some (D.v (Value.int IntKind.i64 (limE b r p)), [cmpI BinOp.neq (limE b r p) 0 = true]) := by kernel_rfl
theorem bchkA_p1 (b : Int) (r : Int) (p : Int) (v : Int) (q : Int) (t : Int) : fnX Try.prog X20 100000 [.d false, .d true, .c 14] 45 [D.agg
    [D.v (Value.int IntKind.i64 b), D.v (Value.int IntKind.i64 r), D.v (Value.int IntKind.i64 p),
      D.v (Value.int IntKind.i64 v), D.v (Value.int IntKind.i64 q), D.v (Value.int IntKind.u64 t)]] = some (D.v (Value.int IntKind.i64 8), [cmpI BinOp.lss v 0 = true,
  cmpI BinOp.neq (limE b r p) 0 = false]) := by kernel_rfl
theorem bchkA_p2 (b : Int) (r : Int) (p : Int) (v : Int) (q : Int) (t : Int) : fnX Try.prog X20 100000 [.d false, .d false, .c 0, .d true, .c 12] 45 [D.agg
    [D.v (Value.int IntKind.i64 b), D.v (Value.int IntKind.i64 r), D.v (Value.int IntKind.i64 p),
      D.v (Value.int IntKind.i64 v), D.v (Value.int IntKind.i64 q), D.v (Value.int IntKind.u64 t)]] = some (D.v (Value.int IntKind.i64 8), [cmpI BinOp.lss (opI BinOp.sub IntKind.i64 b v) 0 = true,
  cmpI BinOp.lss v 0 = false,
  cmpI BinOp.neq (limE b r p) 0 = false]) := by kernel_rfl
theorem bchkA_p3 (b : Int) (r : Int) (p : Int) (v : Int) (q : Int) (t : Int) : fnX Try.prog X20 100000 [.d false, .d false, .c 0, .d false, .c 1, .d true, .c 9] 45 [D.agg
    [D.v (Value.int IntKind.i64 b), D.v (Value.int IntKind.i64 r), D.v (Value.int IntKind.i64 p),
      D.v (Value.int IntKind.i64 v), D.v (Value.int IntKind.i64 q), D.v (Value.int IntKind.u64 t)]] = some (D.v (Value.int IntKind.i64 8), [cmpI BinOp.lss q 0 = true,
  cmpI BinOp.lss (opI BinOp.sub IntKind.i64 b v) 0 = false,
  cmpI BinOp.lss v 0 = false,
  cmpI BinOp.neq (limE b r p) 0 = false]) := by kernel_rfl
theorem bchkA_p4 (b : Int) (r : Int) (p : Int) (v : Int) (q : Int) (t : Int) : fnX Try.prog X20 100000 [.d false, .d false, .c 0, .d false, .c 1, .d false, .c 4, .d true, .c 3] 45 [D.agg
    [D.v (Value.int IntKind.i64 b), D.v (Value.int IntKind.i64 r), D.v (Value.int IntKind.i64 p),
      D.v (Value.int IntKind.i64 v), D.v (Value.int IntKind.i64 q), D.v (Value.int IntKind.u64 t)]] = some (D.v (Value.int IntKind.i64 8), [cmpI BinOp.geq q p = true,
  cmpI BinOp.lss q 0 = false,
  cmpI BinOp.lss (opI BinOp.sub IntKind.i64 b v) 0 = false,
  cmpI BinOp.lss v 0 = false,
  cmpI BinOp.neq (limE b r p) 0 = false]) := by kernel_rfl
theorem bchkA_p5 (b : Int) (r : Int) (p : Int) (v : Int) (q : Int) (t : Int) : fnX Try.prog X20 100000 [.d false, .d false, .c 0, .d false, .c 1, .d false, .c 4, .d false, .c 1, .d true, .c 2, .d true] 45 [D.agg
    [D.v (Value.int IntKind.i64 b), D.v (Value.int IntKind.i64 r), D.v (Value.int IntKind.i64 p),
      D.v (Value.int IntKind.i64 v), D.v (Value.int IntKind.i64 q), D.v (Value.int IntKind.u64 t)]] = some (D.v (Value.int IntKind.i64 8), [cmpI BinOp.gtr q 0 = true,
  cmpI BinOp.eql (opI BinOp.sub IntKind.i64 b v) 0 = true,
  cmpI BinOp.geq q p = false,
  cmpI BinOp.lss q 0 = false,
  cmpI BinOp.lss (opI BinOp.sub IntKind.i64 b v) 0 = false,
  cmpI BinOp.lss v 0 = false,
  cmpI BinOp.neq (limE b r p) 0 = false]) := by kernel_rfl
theorem bchkA_p6 (b : Int) (r : Int) (p : Int) (v : Int) (q : Int) (t : Int) : fnX Try.prog X20 100000 [.d false, .d false, .c 0, .d false, .c 1, .d false, .c 4, .d false, .c 1, .d true, .c 2, .d false] 45 [D.agg
    [D.v (Value.int IntKind.i64 b), D.v (Value.int IntKind.i64 r), D.v (Value.int IntKind.i64 p),
      D.v (Value.int IntKind.i64 v), D.v (Value.int IntKind.i64 q), D.v (Value.int IntKind.u64 t)]] = some (D.v (Value.int IntKind.i64 0), [cmpI BinOp.gtr q 0 = false,
  cmpI BinOp.eql (opI BinOp.sub IntKind.i64 b v) 0 = true,
  cmpI BinOp.geq q p = false,
  cmpI BinOp.lss q 0 = false,
  cmpI BinOp.lss (opI BinOp.sub IntKind.i64 b v) 0 = false,
  cmpI BinOp.lss v 0 = false,
  cmpI BinOp.neq (limE b r p) 0 = false]) := by kernel_rfl
theorem bchkA_p7 (b : Int) (r : Int) (p : Int) (v : Int) (q : Int) (t : Int) : fnX Try.prog X20 100000 [.d false, .d false, .c 0, .d false, .c 1, .d false, .c 4, .d false, .c 1, .d false, .c 3] 45 [D.agg
    [D.v (Value.int IntKind.i64 b), D.v (Value.int IntKind.i64 r), D.v (Value.int IntKind.i64 p),
      D.v (Value.int IntKind.i64 v), D.v (Value.int IntKind.i64 q), D.v (Value.int IntKind.u64 t)]] = some (D.v (Value.int IntKind.i64 0), [cmpI BinOp.eql (opI BinOp.sub IntKind.i64 b v) 0 = false,
  cmpI BinOp.geq q p = false,
  cmpI BinOp.lss q 0 = false,
  cmpI BinOp.lss (opI BinOp.sub IntKind.i64 b v) 0 = false,
  cmpI BinOp.lss v 0 = false,
  cmpI BinOp.neq (limE b r p) 0 = false]) := by kernel_rfl
theorem bchkA_calls (b : Int) (r : Int) (p : Int) (v : Int) (q : Int) (t : Int) (res : D)
  (h0 : ((cmpI BinOp.neq (limE b r p) 0) = true) → (True) ∧ res = D.v (Value.int IntKind.i64 (limE b r p)))
  (h1 : ((cmpI BinOp.neq (limE b r p) 0) = false) → ((cmpI BinOp.lss v 0) = true) → (True) ∧ res = D.v (Value.int IntKind.i64 8))
  (h2 : ((cmpI BinOp.neq (limE b r p) 0) = false) → ((cmpI BinOp.lss v 0) = false) → ((cmpI BinOp.lss (opI BinOp.sub IntKind.i64 b v) 0) = true) → (True) ∧ res = D.v (Value.int IntKind.i64 8))
  (h3 : ((cmpI BinOp.neq (limE b r p) 0) = false) → ((cmpI BinOp.lss v 0) = false) → ((cmpI BinOp.lss (opI BinOp.sub IntKind.i64 b v) 0) = false) → ((cmpI BinOp.lss q 0) = true) → (True) ∧ res = D.v (Value.int IntKind.i64 8))
  (h4 : ((cmpI BinOp.neq (limE b r p) 0) = false) → ((cmpI BinOp.lss v 0) = false) → ((cmpI BinOp.lss (opI BinOp.sub IntKind.i64 b v) 0) = false) → ((cmpI BinOp.lss q 0) = false) → ((cmpI BinOp.geq q p) = true) → (True) ∧ res = D.v (Value.int IntKind.i64 8))
  (h5 : ((cmpI BinOp.neq (limE b r p) 0) = false) → ((cmpI BinOp.lss v 0) = false) → ((cmpI BinOp.lss (opI BinOp.sub IntKind.i64 b v) 0) = false) → ((cmpI BinOp.lss q 0) = false) → ((cmpI BinOp.geq q p) = false) → ((cmpI BinOp.eql (opI BinOp.sub IntKind.i64 b v) 0) = true) → ((cmpI BinOp.gtr q 0) = true) → (True) ∧ res = D.v (Value.int IntKind.i64 8))
  (h6 : ((cmpI BinOp.neq (limE b r p) 0) = false) → ((cmpI BinOp.lss v 0) = false) → ((cmpI BinOp.lss (opI BinOp.sub IntKind.i64 b v) 0) = false) → ((cmpI BinOp.lss q 0) = false) → ((cmpI BinOp.geq q p) = false) → ((cmpI BinOp.eql (opI BinOp.sub IntKind.i64 b v) 0) = true) → ((cmpI BinOp.gtr q 0) = false) → (True) ∧ res = D.v (Value.int IntKind.i64 0))
  (h7 : ((cmpI BinOp.neq (limE b r p) 0) = false) → ((cmpI BinOp.lss v 0) = false) → ((cmpI BinOp.lss (opI BinOp.sub IntKind.i64 b v) 0) = false) → ((cmpI BinOp.lss q 0) = false) → ((cmpI BinOp.geq q p) = false) → ((cmpI BinOp.eql (opI BinOp.sub IntKind.i64 b v) 0) = false) → (True) ∧ res = D.v (Value.int IntKind.i64 0)) :
  CallsD Try.prog 45 [D.agg
    [D.v (Value.int IntKind.i64 b), D.v (Value.int IntKind.i64 r), D.v (Value.int IntKind.i64 p),
      D.v (Value.int IntKind.i64 v), D.v (Value.int IntKind.i64 q), D.v (Value.int IntKind.u64 t)]] res := by
  cases e0 : (cmpI BinOp.neq (limE b r p) 0) with
  | true =>
    exact of_path hX20 (bchkA_p0 b r p v q t) ⟨e0, trivial⟩ (h0 e0).2
  | false =>
    cases e1 : (cmpI BinOp.lss v 0) with
    | true =>
      exact of_path hX20 (bchkA_p1 b r p v q t) ⟨e1, e0, trivial⟩ (h1 e0 e1).2
    | false =>
      cases e2 : (cmpI BinOp.lss (opI BinOp.sub IntKind.i64 b v) 0) with
      | true =>
        exact of_path hX20 (bchkA_p2 b r p v q t) ⟨e2, e1, e0, trivial⟩ (h2 e0 e1 e2).2
      | false =>
        cases e3 : (cmpI BinOp.lss q 0) with
        | true =>
          exact of_path hX20 (bchkA_p3 b r p v q t) ⟨e3, e2, e1, e0, trivial⟩ (h3 e0 e1 e2 e3).2
        | false =>
          cases e4 : (cmpI BinOp.geq q p) with
          | true =>
            exact of_path hX20 (bchkA_p4 b r p v q t) ⟨e4, e3, e2, e1, e0, trivial⟩ (h4 e0 e1 e2 e3 e4).2
          | false =>
            cases e5 : (cmpI BinOp.eql (opI BinOp.sub IntKind.i64 b v) 0) with
            | true =>
              cases e6 : (cmpI BinOp.gtr q 0) with
              | true =>
                exact of_path hX20 (bchkA_p5 b r p v q t) ⟨e6, e5, e4, e3, e2, e1, e0, trivial⟩ (h5 e0 e1 e2 e3 e4 e5 e6).2
              | false =>
                exact of_path hX20 (bchkA_p6 b r p v q t) ⟨e6, e5, e4, e3, e2, e1, e0, trivial⟩ (h6 e0 e1 e2 e3 e4 e5 e6).2
            | false =>
              exact of_path hX20 (bchkA_p7 b r p v q t) ⟨e5, e4, e3, e2, e1, e0, trivial⟩ (h7 e0 e1 e2 e3 e4 e5).2
theorem bchkB_p0 (b : Int) (r : Int) (p : Int) (v : Int) (q : Int) (t : Int) : fnX Try.prog X20 100000 [.d true, .c 25] 11 [D.agg
    [D.v (Value.int IntKind.i64 b), D.v (Value.int IntKind.i64 r), D.v (Value.int IntKind.i64 p),
      D.v (Value.int IntKind.i64 v), D.v (Value.int IntKind.i64 q), D.v (Value.int IntKind.u64 t)]] = some (D.v (Value.int IntKind.i64 8), [cmpI BinOp.neq (limE b r p) 0 = true]) := by kernel_rfl
theorem bchkB_p1 (b : Int) (r : Int) (p : Int) (v : Int) (q : Int) (t : Int) : fnX Try.prog X20 100000 [.d false, .c 1, .d true, .c 22] 11 [D.agg
    [D.v (Value.int IntKind.i64 b), D.v (Value.int IntKind.i64 r), D.v (Value.int IntKind.i64 p),
      D.v (Value.int IntKind.i64 v), D.v (Value.int IntKind.i64 q), D.v (Value.int IntKind.u64 t)]] = some (D.v (Value.int IntKind.i64 8), [cmpI BinOp.lss v 0 = true,
  cmpI BinOp.neq (limE b r p) 0 = false]) := by kernel_rfl
theorem bchkB_p2 (b : Int) (r : Int) (p : Int) (v : Int) (q : Int) (t : Int) : fnX Try.prog X20 100000 [.d false, .c 1, .d false, .c 4, .d true, .c 16] 11 [D.agg
    [D.v (Value.int IntKind.i64 b), D.v (Value.int IntKind.i64 r), D.v (Value.int IntKind.i64 p),
      D.v (Value.int IntKind.i64 v), D.v (Value.int IntKind.i64 q), D.v (Value.int IntKind.u64 t)]] = some (D.v (Value.int IntKind.i64 8), [cmpI BinOp.gtr v b = true,
  cmpI BinOp.lss v 0 = false,
  cmpI BinOp.neq (limE b r p) 0 = false]) := by kernel_rfl
theorem bchkB_p3 (b : Int) (r : Int) (p : Int) (v : Int) (q : Int) (t : Int) : fnX Try.prog X20 100000 [.d false, .c 1, .d false, .c 4, .d false, .c 1, .d true, .c 13] 11 [D.agg
    [D.v (Value.int IntKind.i64 b), D.v (Value.int IntKind.i64 r), D.v (Value.int IntKind.i64 p),
      D.v (Value.int IntKind.i64 v), D.v (Value.int IntKind.i64 q), D.v (Value.int IntKind.u64 t)]] = some (D.v (Value.int IntKind.i64 8), [cmpI BinOp.lss q 0 = true,
  cmpI BinOp.gtr v b = false,
  cmpI BinOp.lss v 0 = false,
  cmpI BinOp.neq (limE b r p) 0 = false]) := by kernel_rfl
theorem bchkB_p4 (b : Int) (r : Int) (p : Int) (v : Int) (q : Int) (t : Int) : fnX Try.prog X20 100000 [.d false, .c 1, .d false, .c 4, .d false, .c 1, .d false, .c 4, .d true, .c 7] 11 [D.agg
    [D.v (Value.int IntKind.i64 b), D.v (Value.int IntKind.i64 r), D.v (Value.int IntKind.i64 p),
      D.v (Value.int IntKind.i64 v), D.v (Value.int IntKind.i64 q), D.v (Value.int IntKind.u64 t)]] = some (D.v (Value.int IntKind.i64 8), [cmpI BinOp.geq q p = true,
  cmpI BinOp.lss q 0 = false,
  cmpI BinOp.gtr v b = false,
  cmpI BinOp.lss v 0 = false,
  cmpI BinOp.neq (limE b r p) 0 = false]) := by kernel_rfl
theorem bchkB_p5 (b : Int) (r : Int) (p : Int) (v : Int) (q : Int) (t : Int) : fnX Try.prog X20 100000 [.d false, .c 1, .d false, .c 4, .d false, .c 1, .d false, .c 4, .d false, .c 5, .d true, .c 2, .d true] 11 [D.agg
    [D.v (Value.int IntKind.i64 b), D.v (Value.int IntKind.i64 r), D.v (Value.int IntKind.i64 p),
      D.v (Value.int IntKind.i64 v), D.v (Value.int IntKind.i64 q), D.v (Value.int IntKind.u64 t)]] = some (D.v (Value.int IntKind.i64 8), [cmpI BinOp.neq q 0 = true,
  cmpI BinOp.eql v b = true,
  cmpI BinOp.geq q p = false,
  cmpI BinOp.lss q 0 = false,
  cmpI BinOp.gtr v b = false,
  cmpI BinOp.lss v 0 = false,
  cmpI BinOp.neq (limE b r p) 0 = false]) := by kernel_rfl
theorem bchkB_p6 (b : Int) (r : Int) (p : Int) (v : Int) (q : Int) (t : Int) : fnX Try.prog X20 100000 [.d false, .c 1, .d false, .c 4, .d false, .c 1, .d false, .c 4, .d false, .c 5, .d true, .c 2, .d false] 11 [D.agg
    [D.v (Value.int IntKind.i64 b), D.v (Value.int IntKind.i64 r), D.v (Value.int IntKind.i64 p),
      D.v (Value.int IntKind.i64 v), D.v (Value.int IntKind.i64 q), D.v (Value.int IntKind.u64 t)]] = some (D.v (Value.int IntKind.i64 0), [cmpI BinOp.neq q 0 = false,
  cmpI BinOp.eql v b = true,
  cmpI BinOp.geq q p = false,
  cmpI BinOp.lss q 0 = false,
  cmpI BinOp.gtr v b = false,
  cmpI BinOp.lss v 0 = false,
  cmpI BinOp.neq (limE b r p) 0 = false]) := by kernel_rfl
theorem bchkB_p7 (b : Int) (r : Int) (p : Int) (v : Int) (q : Int) (t : Int) : fnX Try.prog X20 100000 [.d false, .c 1, .d false, .c 4, .d false, .c 1, .d false, .c 4, .d false, .c 5, .d false, .c 3] 11 [D.agg
    [D.v (Value.int IntKind.i64 b), D.v (Value.int IntKind.i64 r), D.v (Value.int IntKind.i64 p),
      D.v (Value.int IntKind.i64 v), D.v (Value.int IntKind.i64 q), D.v (Value.int IntKind.u64 t)]] = some (D.v (Value.int IntKind.i64 0), [cmpI BinOp.eql v b = false,
  cmpI BinOp.geq q p = false,
  cmpI BinOp.lss q 0 = false,
  cmpI BinOp.gtr v b = false,
  cmpI BinOp.lss v 0 = false,
  cmpI BinOp.neq (limE b r p) 0 = false]) := by kernel_rfl
theorem bchkB_calls (b : Int) (r : Int) (p : Int) (v : Int) (q : Int) (t : Int) (res : D)
  (h0 : ((cmpI BinOp.neq (limE b r p) 0) = true) → (True) ∧ res = D.v (Value.int IntKind.i64 8))
  (h1 : ((cmpI BinOp.neq (limE b r p) 0) = false) → ((cmpI BinOp.lss v 0) = true) → (True) ∧ res = D.v (Value.int IntKind.i64 8))
  (h2 : ((cmpI BinOp.neq (limE b r p) 0) = false) → ((cmpI BinOp.lss v 0) = false) → ((cmpI BinOp.gtr v b) = true) → (True) ∧ res = D.v (Value.int IntKind.i64 8))
  (h3 : ((cmpI BinOp.neq (limE b r p) 0) = false) → ((cmpI BinOp.lss v 0) = false) → ((cmpI BinOp.gtr v b) = false) → ((cmpI BinOp.lss q 0) = true) → (True) ∧ res = D.v (Value.int IntKind.i64 8))
  (h4 : ((cmpI BinOp.neq (limE b r p) 0) = false) → ((cmpI BinOp.lss v 0) = false) → ((cmpI BinOp.gtr v b) = false) → ((cmpI BinOp.lss q 0) = false) → ((cmpI BinOp.geq q p) = true) → (True) ∧ res = D.v (Value.int IntKind.i64 8))
  (h5 : ((cmpI BinOp.neq (limE b r p) 0) = false) → ((cmpI BinOp.lss v 0) = false) → ((cmpI BinOp.gtr v b) = false) → ((cmpI BinOp.lss q 0) = false) → ((cmpI BinOp.geq q p) = false) → ((cmpI BinOp.eql v b) = true) → ((cmpI BinOp.neq q 0) = true) → (True) ∧ res = D.v (Value.int IntKind.i64 8))
  (h6 : ((cmpI BinOp.neq (limE b r p) 0) = false) → ((cmpI BinOp.lss v 0) = false) → ((cmpI BinOp.gtr v b) = false) → ((cmpI BinOp.lss q 0) = false) → ((cmpI BinOp.geq q p) = false) → ((cmpI BinOp.eql v b) = true) → ((cmpI BinOp.neq q 0) = false) → (True) ∧ res = D.v (Value.int IntKind.i64 0))
  (h7 : ((cmpI BinOp.neq (limE b r p) 0) = false) → ((cmpI BinOp.lss v 0) = false) → ((cmpI BinOp.gtr v b) = false) → ((cmpI BinOp.lss q 0) = false) → ((cmpI BinOp.geq q p) = false) → ((cmpI BinOp.eql v b) = false) → (True) ∧ res = D.v (Value.int IntKind.i64 0)) :
  CallsD Try.prog 11 [D.agg
    [D.v (Value.int IntKind.i64 b), D.v (Value.int IntKind.i64 r), D.v (Value.int IntKind.i64 p),
      D.v (Value.int IntKind.i64 v), D.v (Value.int IntKind.i64 q), D.v (Value.int IntKind.u64 t)]] res := by
  cases e0 : (cmpI BinOp.neq (limE b r p) 0) with
  | true =>
    exact of_path hX20 (bchkB_p0 b r p v q t) ⟨e0, trivial⟩ (h0 e0).2
  | false =>
    cases e1 : (cmpI BinOp.lss v 0) with
    | true =>
      exact of_path hX20 (bchkB_p1 b r p v q t) ⟨e1, e0, trivial⟩ (h1 e0 e1).2
    | false =>
      cases e2 : (cmpI BinOp.gtr v b) with
      | true =>
        exact of_path hX20 (bchkB_p2 b r p v q t) ⟨e2, e1, e0, trivial⟩ (h2 e0 e1 e2).2
      | false =>
        cases e3 : (cmpI BinOp.lss q 0) with
        | true =>
          exact of_path hX20 (bchkB_p3 b r p v q t) ⟨e3, e2, e1, e0, trivial⟩ (h3 e0 e1 e2 e3).2
        | false =>
          cases e4 : (cmpI BinOp.geq q p) with
          | true =>
            exact of_path hX20 (bchkB_p4 b r p v q t) ⟨e4, e3, e2, e1, e0, trivial⟩ (h4 e0 e1 e2 e3 e4).2
          | false =>
            cases e5 : (cmpI BinOp.eql v b) with
            | true =>
              cases e6 : (cmpI BinOp.neq q 0) with
              | true =>
                exact of_path hX20 (bchkB_p5 b r p v q t) ⟨e6, e5, e4, e3, e2, e1, e0, trivial⟩ (h5 e0 e1 e2 e3 e4 e5 e6).2
              | false =>
                exact of_path hX20 (bchkB_p6 b r p v q t) ⟨e6, e5, e4, e3, e2, e1, e0, trivial⟩ (h6 e0 e1 e2 e3 e4 e5 e6).2
            | false =>
              exact of_path hX20 (bchkB_p7 b r p v q t) ⟨e5, e4, e3, e2, e1, e0, trivial⟩ (h7 e0 e1 e2 e3 e4 e5).2
theorem bchkA_ok (b r p v q t : Int) (v0 : -9223372036854775808 ≤ v) (v1 : v < 9223372036854775808) : CallsD Try.prog 45 [.agg [i64 b, i64 r, i64 p, i64 v, i64 q, u64 t]] (i64 (bkE b r p v q)) := by
  have h2 := limE_two b r p
  have hs : limE b r p = 0 → 0 ≤ v → opI .sub .i64 b v = b - v := fun a c => by
    obtain ⟨b0, b1, _⟩ := limE_is a
    rw [opI_sub, wrap_i64_of (by omega) (by omega)]
  refine bchkA_calls b r p v q t _ ?_ ?_ ?_ ?_ ?_ ?_ ?_ ?_
  all_goals
    intros
    simp only [lss_t, lss_f, gtr_t, gtr_f, geq_t, geq_f, eql_t, eql_f, neq_t, neq_f] at *
    refine ⟨trivial, ?_⟩
    unfold bkE
    simp only [D.v.injEq, Value.int.injEq, true_and]
    split <;> omega
theorem bchkB_ok (b r p v q t : Int) : CallsD Try.prog 11 [.agg [i64 b, i64 r, i64 p, i64 v, i64 q, u64 t]] (i64 (bkE b r p v q)) := by
  have h2 := limE_two b r p
  refine bchkB_calls b r p v q t _ ?_ ?_ ?_ ?_ ?_ ?_ ?_ ?_
  all_goals
    intros
    simp only [lss_t, lss_f, gtr_t, gtr_f, geq_t, geq_f, eql_t, eql_f, neq_t, neq_f] at *
    refine ⟨trivial, ?_⟩
    unfold bkE
    simp only [D.v.injEq, Value.int.injEq, true_and]
    split <;> omega
end MeterS
