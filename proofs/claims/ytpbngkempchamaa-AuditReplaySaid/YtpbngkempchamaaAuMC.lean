/- The functions of the folder audit and what they reach: what they compute. No condition. -/
import Derived.Test.YtpbngkempchamaaDamXJ
import Derived.Test.YtpbngkempchamaaProg
import Derived.KernelRfl
set_option linter.unusedSectionVars false
set_option linter.unusedVariables false
set_option linter.unusedSimpArgs false
namespace MeterS
open Go Go.Dam Go.Proofs
set_option maxRecDepth 1000000
set_option linter.unusedVariables false
variable [Glo]

/-! math/bits.Add64 -/
theorem add64 (x y c : Int) (hx : 0 ≤ x) (hy : 0 ≤ y) (h0 : 0 ≤ c) (h1 : c ≤ 1) : pureRun Try.prog (callFunc 76 #[.int .u64 x, .int .u64 y, .int .u64 c]) =
    some (.value (.tuple #[.int .u64 ((x + y + c) % 18446744073709551616), .int .u64 ((x + y + c) / 18446744073709551616)])) := by
  obtain ⟨m, rfl⟩ := Int.eq_ofNat_of_zero_le hx
  obtain ⟨n, rfl⟩ := Int.eq_ofNat_of_zero_le hy
  have e0 : pureRun Try.prog (callFunc 76 #[.int .u64 (Int.ofNat m), .int .u64 (Int.ofNat n), .int .u64 0]) = some (.value (.tuple #[.int .u64 (Int.ofNat ((m + n + 0) % 18446744073709551616)), .int .u64 (Int.ofNat ((m + n + 0) / 18446744073709551616))])) := by kernel_rfl
  have e1 : pureRun Try.prog (callFunc 76 #[.int .u64 (Int.ofNat m), .int .u64 (Int.ofNat n), .int .u64 1]) = some (.value (.tuple #[.int .u64 (Int.ofNat ((m + n + 1) % 18446744073709551616)), .int .u64 (Int.ofNat ((m + n + 1) / 18446744073709551616))])) := by kernel_rfl
  obtain rfl | rfl : c = 0 ∨ c = 1 := by omega
  · exact e0
  · exact e1
def add64C : List Value → Option (Value × List Prop)
  | [.int .u64 x, .int .u64 y, .int .u64 c] => some (.tuple #[.int .u64 ((x + y + c) % 18446744073709551616), .int .u64 ((x + y + c) / 18446744073709551616)], [0 ≤ x, 0 ≤ y, 0 ≤ c, c ≤ 1])
  | _ => none
def X0 : Contracts := addCon 76 (.ext add64C) noCon
theorem hX0 : ConOK Try.prog X0 := addExt_ok (fun vs u l h hl => by
  unfold add64C at h
  split at h
  next x y c =>
    simp only [Option.some.injEq, Prod.mk.injEq] at h
    obtain ⟨rfl, rfl⟩ := h
    obtain ⟨h1, h2, h3, h4, _⟩ := hl
    exact add64 x y c h1 h2 h3 h4
  · cases h) noCon_ok
end MeterS

namespace MeterS
open Go Go.Dam Go.Proofs
set_option maxRecDepth 1000000
set_option linter.unusedVariables false
set_option linter.unusedSectionVars false
set_option linter.unusedSimpArgs false
variable [Glo]
theorem limA_p0 (b : Int) (r : Int) (p : Int) : fnX Try.prog X0 100000 [.d true, .c 14] 59 [D.agg [D.v (Value.int IntKind.i64 b), D.v (Value.int IntKind.i64 r), D.v (Value.int IntKind.i64 p)]] = some (D.v (Value.int IntKind.i64 8), [cmpI BinOp.lss b 1 = true]) := by kernel_rfl
theorem limA_p1 (b : Int) (r : Int) (p : Int) : fnX Try.prog X0 100000 [.d false, .c 1, .d true, .c 11] 59 [D.agg [D.v (Value.int IntKind.i64 b), D.v (Value.int IntKind.i64 r), D.v (Value.int IntKind.i64 p)]] = some (D.v (Value.int IntKind.i64 8), [cmpI BinOp.gtr b 1000000000 = true,
  cmpI BinOp.lss b 1 = false]) := by kernel_rfl
theorem limA_p2 (b : Int) (r : Int) (p : Int) : fnX Try.prog X0 100000 [.d false, .c 1, .d false, .c 1, .d true, .c 8] 59 [D.agg [D.v (Value.int IntKind.i64 b), D.v (Value.int IntKind.i64 r), D.v (Value.int IntKind.i64 p)]] = some (D.v (Value.int IntKind.i64 8), [cmpI BinOp.lss r 0 = true,
  cmpI BinOp.gtr b 1000000000 = false,
  cmpI BinOp.lss b 1 = false]) := by kernel_rfl
theorem limA_p3 (b : Int) (r : Int) (p : Int) : fnX Try.prog X0 100000 [.d false, .c 1, .d false, .c 1, .d false, .c 1, .d true, .c 5] 59 [D.agg [D.v (Value.int IntKind.i64 b), D.v (Value.int IntKind.i64 r), D.v (Value.int IntKind.i64 p)]] = some (D.v (Value.int IntKind.i64 8), [cmpI BinOp.gtr r 1000000000 = true,
  cmpI BinOp.lss r 0 = false,
  cmpI BinOp.gtr b 1000000000 = false,
  cmpI BinOp.lss b 1 = false]) := by kernel_rfl
theorem limA_p4 (b : Int) (r : Int) (p : Int) : fnX Try.prog X0 100000 [.d false, .c 1, .d false, .c 1, .d false, .c 1, .d false, .c 1, .d true, .c 2] 59 [D.agg [D.v (Value.int IntKind.i64 b), D.v (Value.int IntKind.i64 r), D.v (Value.int IntKind.i64 p)]] = some (D.v (Value.int IntKind.i64 8), [cmpI BinOp.lss p 1 = true,
  cmpI BinOp.gtr r 1000000000 = false,
  cmpI BinOp.lss r 0 = false,
  cmpI BinOp.gtr b 1000000000 = false,
  cmpI BinOp.lss b 1 = false]) := by kernel_rfl
theorem limA_p5 (b : Int) (r : Int) (p : Int) : fnX Try.prog X0 100000 [.d false, .c 1, .d false, .c 1, .d false, .c 1, .d false, .c 1, .d false, .c 1, .d true] 59 [D.agg [D.v (Value.int IntKind.i64 b), D.v (Value.int IntKind.i64 r), D.v (Value.int IntKind.i64 p)]] = some (D.v (Value.int IntKind.i64 8), [cmpI BinOp.gtr p 1000000000 = true,
  cmpI BinOp.lss p 1 = false,
  cmpI BinOp.gtr r 1000000000 = false,
  cmpI BinOp.lss r 0 = false,
  cmpI BinOp.gtr b 1000000000 = false,
  cmpI BinOp.lss b 1 = false]) := by kernel_rfl
theorem limA_p6 (b : Int) (r : Int) (p : Int) : fnX Try.prog X0 100000 [.d false, .c 1, .d false, .c 1, .d false, .c 1, .d false, .c 1, .d false, .c 1, .d false] 59 [D.agg [D.v (Value.int IntKind.i64 b), D.v (Value.int IntKind.i64 r), D.v (Value.int IntKind.i64 p)]] = some (D.v (Value.int IntKind.i64 0), [cmpI BinOp.gtr p 1000000000 = false,
  cmpI BinOp.lss p 1 = false,
  cmpI BinOp.gtr r 1000000000 = false,
  cmpI BinOp.lss r 0 = false,
  cmpI BinOp.gtr b 1000000000 = false,
  cmpI BinOp.lss b 1 = false]) := by kernel_rfl
theorem limA_calls (b : Int) (r : Int) (p : Int) (res : D)
  (h0 : ((cmpI BinOp.lss b 1) = true) → (True) ∧ res = D.v (Value.int IntKind.i64 8))
  (h1 : ((cmpI BinOp.lss b 1) = false) → ((cmpI BinOp.gtr b 1000000000) = true) → (True) ∧ res = D.v (Value.int IntKind.i64 8))
  (h2 : ((cmpI BinOp.lss b 1) = false) → ((cmpI BinOp.gtr b 1000000000) = false) → ((cmpI BinOp.lss r 0) = true) → (True) ∧ res = D.v (Value.int IntKind.i64 8))
  (h3 : ((cmpI BinOp.lss b 1) = false) → ((cmpI BinOp.gtr b 1000000000) = false) → ((cmpI BinOp.lss r 0) = false) → ((cmpI BinOp.gtr r 1000000000) = true) → (True) ∧ res = D.v (Value.int IntKind.i64 8))
  (h4 : ((cmpI BinOp.lss b 1) = false) → ((cmpI BinOp.gtr b 1000000000) = false) → ((cmpI BinOp.lss r 0) = false) → ((cmpI BinOp.gtr r 1000000000) = false) → ((cmpI BinOp.lss p 1) = true) → (True) ∧ res = D.v (Value.int IntKind.i64 8))
  (h5 : ((cmpI BinOp.lss b 1) = false) → ((cmpI BinOp.gtr b 1000000000) = false) → ((cmpI BinOp.lss r 0) = false) → ((cmpI BinOp.gtr r 1000000000) = false) → ((cmpI BinOp.lss p 1) = false) → ((cmpI BinOp.gtr p 1000000000) = true) → (True) ∧ res = D.v (Value.int IntKind.i64 8))
  (h6 : ((cmpI BinOp.lss b 1) = false) → ((cmpI BinOp.gtr b 1000000000) = false) → ((cmpI BinOp.lss r 0) = false) → ((cmpI BinOp.gtr r 1000000000) = false) → ((cmpI BinOp.lss p 1) = false) → ((cmpI BinOp.gtr p 1000000000) = false) → (True) ∧ res = D.v (Value.int IntKind.i64 0)) :
  CallsD Try.prog 59 [D.agg [D.v (Value.int IntKind.i64 b), D.v (Value.int IntKind.i64 r), D.v (Value.int IntKind.i64 p)]] res := by
  cases e0 : (cmpI BinOp.lss b 1) with
  | true =>
    exact of_path hX0 (limA_p0 b r p) ⟨e0, trivial⟩ (h0 e0).2
  | false =>
    cases e1 : (cmpI BinOp.gtr b 1000000000) with
    | true =>
      exact of_path hX0 (limA_p1 b r p) ⟨e1, e0, trivial⟩ (h1 e0 e1).2
    | false =>
      cases e2 : (cmpI BinOp.lss r 0) with
      | true =>
        exact of_path hX0 (limA_p2 b r p) ⟨e2, e1, e0, trivial⟩ (h2 e0 e1 e2).2
      | false =>
        cases e3 : (cmpI BinOp.gtr r 1000000000) with
        | true =>
          exact of_path hX0 (limA_p3 b r p) ⟨e3, e2, e1, e0, trivial⟩ (h3 e0 e1 e2 e3).2
        | false =>
          cases e4 : (cmpI BinOp.lss p 1) with
          | true =>
            exact of_path hX0 (limA_p4 b r p) ⟨e4, e3, e2, e1, e0, trivial⟩ (h4 e0 e1 e2 e3 e4).2
          | false =>
            cases e5 : (cmpI BinOp.gtr p 1000000000) with
            | true =>
              exact of_path hX0 (limA_p5 b r p) ⟨e5, e4, e3, e2, e1, e0, trivial⟩ (h5 e0 e1 e2 e3 e4 e5).2
            | false =>
              exact of_path hX0 (limA_p6 b r p) ⟨e5, e4, e3, e2, e1, e0, trivial⟩ (h6 e0 e1 e2 e3 e4 e5).2
theorem limB_p0 (b : Int) (r : Int) (p : Int) : fnX Try.prog X0 100000 [.d true, .c 14] 23 [D.agg [D.v (Value.int IntKind.i64 b), D.v (Value.int IntKind.i64 r), D.v (Value.int IntKind.i64 p)]] = some (D.v (Value.int IntKind.i64 8), [cmpI BinOp.lss b 1 = true]) := by kernel_rfl
theorem limB_p1 (b : Int) (r : Int) (p : Int) : fnX Try.prog X0 100000 [.d false, .c 1, .d true, .c 11] 23 [D.agg [D.v (Value.int IntKind.i64 b), D.v (Value.int IntKind.i64 r), D.v (Value.int IntKind.i64 p)]] = some (D.v (Value.int IntKind.i64 8), [cmpI BinOp.gtr b 1000000000 = true,
  cmpI BinOp.lss b 1 = false]) := by kernel_rfl
theorem limB_p2 (b : Int) (r : Int) (p : Int) : fnX Try.prog X0 100000 [.d false, .c 1, .d false, .c 1, .d true, .c 8] 23 [D.agg [D.v (Value.int IntKind.i64 b), D.v (Value.int IntKind.i64 r), D.v (Value.int IntKind.i64 p)]] = some (D.v (Value.int IntKind.i64 8), [cmpI BinOp.lss r 0 = true,
  cmpI BinOp.gtr b 1000000000 = false,
  cmpI BinOp.lss b 1 = false]) := by kernel_rfl
theorem limB_p3 (b : Int) (r : Int) (p : Int) : fnX Try.prog X0 100000 [.d false, .c 1, .d false, .c 1, .d false, .c 1, .d true, .c 5] 23 [D.agg [D.v (Value.int IntKind.i64 b), D.v (Value.int IntKind.i64 r), D.v (Value.int IntKind.i64 p)]] = some (D.v (Value.int IntKind.i64 8), [cmpI BinOp.gtr r 1000000000 = true,
  cmpI BinOp.lss r 0 = false,
  cmpI BinOp.gtr b 1000000000 = false,
  cmpI BinOp.lss b 1 = false]) := by kernel_rfl
theorem limB_p4 (b : Int) (r : Int) (p : Int) : fnX Try.prog X0 100000 [.d false, .c 1, .d false, .c 1, .d false, .c 1, .d false, .c 1, .d true, .c 2] 23 [D.agg [D.v (Value.int IntKind.i64 b), D.v (Value.int IntKind.i64 r), D.v (Value.int IntKind.i64 p)]] = some (D.v (Value.int IntKind.i64 8), [cmpI BinOp.lss p 1 = true,
  cmpI BinOp.gtr r 1000000000 = false,
  cmpI BinOp.lss r 0 = false,
  cmpI BinOp.gtr b 1000000000 = false,
  cmpI BinOp.lss b 1 = false]) := by kernel_rfl
theorem limB_p5 (b : Int) (r : Int) (p : Int) : fnX Try.prog X0 100000 [.d false, .c 1, .d false, .c 1, .d false, .c 1, .d false, .c 1, .d false, .c 1, .d true] 23 [D.agg [D.v (Value.int IntKind.i64 b), D.v (Value.int IntKind.i64 r), D.v (Value.int IntKind.i64 p)]] = some (D.v (Value.int IntKind.i64 8), [cmpI BinOp.gtr p 1000000000 = true,
  cmpI BinOp.lss p 1 = false,
  cmpI BinOp.gtr r 1000000000 = false,
  cmpI BinOp.lss r 0 = false,
  cmpI BinOp.gtr b 1000000000 = false,
  cmpI BinOp.lss b 1 = false]) := by kernel_rfl
theorem limB_p6 (b : Int) (r : Int) (p : Int) : fnX Try.prog X0 100000 [.d false, .c 1, .d false, .c 1, .d false, .c 1, .d false, .c 1, .d false, .c 1, .d false] 23 [D.agg [D.v (Value.int IntKind.i64 b), D.v (Value.int IntKind.i64 r), D.v (Value.int IntKind.i64 p)]] = some (D.v (Value.int IntKind.i64 0), [cmpI BinOp.gtr p 1000000000 = false,
  cmpI BinOp.lss p 1 = false,
  cmpI BinOp.gtr r 1000000000 = false,
  cmpI BinOp.lss r 0 = false,
  cmpI BinOp.gtr b 1000000000 = false,
  cmpI BinOp.lss b 1 = false]) := by kernel_rfl
theorem limB_calls (b : Int) (r : Int) (p : Int) (res : D)
  (h0 : ((cmpI BinOp.lss b 1) = true) → (True) ∧ res = D.v (Value.int IntKind.i64 8))
  (h1 : ((cmpI BinOp.lss b 1) = false) → ((cmpI BinOp.gtr b 1000000000) = true) → (True) ∧ res = D.v (Value.int IntKind.i64 8))
  (h2 : ((cmpI BinOp.lss b 1) = false) → ((cmpI BinOp.gtr b 1000000000) = false) → ((cmpI BinOp.lss r 0) = true) → (True) ∧ res = D.v (Value.int IntKind.i64 8))
  (h3 : ((cmpI BinOp.lss b 1) = false) → ((cmpI BinOp.gtr b 1000000000) = false) → ((cmpI BinOp.lss r 0) = false) → ((cmpI BinOp.gtr r 1000000000) = true) → (True) ∧ res = D.v (Value.int IntKind.i64 8))
  (h4 : ((cmpI BinOp.lss b 1) = false) → ((cmpI BinOp.gtr b 1000000000) = false) → ((cmpI BinOp.lss r 0) = false) → ((cmpI BinOp.gtr r 1000000000) = false) → ((cmpI BinOp.lss p 1) = true) → (True) ∧ res = D.v (Value.int IntKind.i64 8))
  (h5 : ((cmpI BinOp.lss b 1) = false) → ((cmpI BinOp.gtr b 1000000000) = false) → ((cmpI BinOp.lss r 0) = false) → ((cmpI BinOp.gtr r 1000000000) = false) → ((cmpI BinOp.lss p 1) = false) → ((cmpI BinOp.gtr p 1000000000) = true) → (True) ∧ res = D.v (Value.int IntKind.i64 8))
  (h6 : ((cmpI BinOp.lss b 1) = false) → ((cmpI BinOp.gtr b 1000000000) = false) → ((cmpI BinOp.lss r 0) = false) → ((cmpI BinOp.gtr r 1000000000) = false) → ((cmpI BinOp.lss p 1) = false) → ((cmpI BinOp.gtr p 1000000000) = false) → (True) ∧ res = D.v (Value.int IntKind.i64 0)) :
  CallsD Try.prog 23 [D.agg [D.v (Value.int IntKind.i64 b), D.v (Value.int IntKind.i64 r), D.v (Value.int IntKind.i64 p)]] res := by
  cases e0 : (cmpI BinOp.lss b 1) with
  | true =>
    exact of_path hX0 (limB_p0 b r p) ⟨e0, trivial⟩ (h0 e0).2
  | false =>
    cases e1 : (cmpI BinOp.gtr b 1000000000) with
    | true =>
      exact of_path hX0 (limB_p1 b r p) ⟨e1, e0, trivial⟩ (h1 e0 e1).2
    | false =>
      cases e2 : (cmpI BinOp.lss r 0) with
      | true =>
        exact of_path hX0 (limB_p2 b r p) ⟨e2, e1, e0, trivial⟩ (h2 e0 e1 e2).2
      | false =>
        cases e3 : (cmpI BinOp.gtr r 1000000000) with
        | true =>
          exact of_path hX0 (limB_p3 b r p) ⟨e3, e2, e1, e0, trivial⟩ (h3 e0 e1 e2 e3).2
        | false =>
          cases e4 : (cmpI BinOp.lss p 1) with
          | true =>
            exact of_path hX0 (limB_p4 b r p) ⟨e4, e3, e2, e1, e0, trivial⟩ (h4 e0 e1 e2 e3 e4).2
          | false =>
            cases e5 : (cmpI BinOp.gtr p 1000000000) with
            | true =>
              exact of_path hX0 (limB_p5 b r p) ⟨e5, e4, e3, e2, e1, e0, trivial⟩ (h5 e0 e1 e2 e3 e4 e5).2
            | false =>
              exact of_path hX0 (limB_p6 b r p) ⟨e5, e4, e3, e2, e1, e0, trivial⟩ (h6 e0 e1 e2 e3 e4 e5).2
theorem mulA_p0 (x : Int) (y : Int) : fnX Try.prog X0 100000 [] 51 [D.v (Value.int IntKind.u64 x), D.v (Value.int IntKind.u64 y)] = some (D.agg
  [D.v
      (Value.int IntKind.u64
        (opI BinOp.add IntKind.u64
          (opI BinOp.add IntKind.u64
            (opI BinOp.mul IntKind.u64 (opI BinOp.shr IntKind.u64 x 32) (opI BinOp.shr IntKind.u64 y 32))
            (opI BinOp.shr IntKind.u64
              (opI BinOp.add IntKind.u64
                (opI BinOp.mul IntKind.u64 (opI BinOp.shr IntKind.u64 x 32) (opI BinOp.and IntKind.u64 y 4294967295))
                (opI BinOp.shr IntKind.u64
                  (opI BinOp.mul IntKind.u64 (opI BinOp.and IntKind.u64 x 4294967295)
                    (opI BinOp.and IntKind.u64 y 4294967295))
                  32))
              32))
          (opI BinOp.shr IntKind.u64
            (opI BinOp.add IntKind.u64
              (opI BinOp.and IntKind.u64
                (opI BinOp.add IntKind.u64
                  (opI BinOp.mul IntKind.u64 (opI BinOp.shr IntKind.u64 x 32) (opI BinOp.and IntKind.u64 y 4294967295))
                  (opI BinOp.shr IntKind.u64
                    (opI BinOp.mul IntKind.u64 (opI BinOp.and IntKind.u64 x 4294967295)
                      (opI BinOp.and IntKind.u64 y 4294967295))
                    32))
                4294967295)
              (opI BinOp.mul IntKind.u64 (opI BinOp.and IntKind.u64 x 4294967295) (opI BinOp.shr IntKind.u64 y 32)))
            32))),
    D.v (Value.int IntKind.u64 (opI BinOp.mul IntKind.u64 x y))], [true = true,
  true = true,
  true = true,
  true = true,
  true = true]) := by kernel_rfl
theorem mulA_calls (x : Int) (y : Int) (res : D)
  (h0 : (True) ∧ res = D.agg
  [D.v
      (Value.int IntKind.u64
        (opI BinOp.add IntKind.u64
          (opI BinOp.add IntKind.u64
            (opI BinOp.mul IntKind.u64 (opI BinOp.shr IntKind.u64 x 32) (opI BinOp.shr IntKind.u64 y 32))
            (opI BinOp.shr IntKind.u64
              (opI BinOp.add IntKind.u64
                (opI BinOp.mul IntKind.u64 (opI BinOp.shr IntKind.u64 x 32) (opI BinOp.and IntKind.u64 y 4294967295))
                (opI BinOp.shr IntKind.u64
                  (opI BinOp.mul IntKind.u64 (opI BinOp.and IntKind.u64 x 4294967295)
                    (opI BinOp.and IntKind.u64 y 4294967295))
                  32))
              32))
          (opI BinOp.shr IntKind.u64
            (opI BinOp.add IntKind.u64
              (opI BinOp.and IntKind.u64
                (opI BinOp.add IntKind.u64
                  (opI BinOp.mul IntKind.u64 (opI BinOp.shr IntKind.u64 x 32) (opI BinOp.and IntKind.u64 y 4294967295))
                  (opI BinOp.shr IntKind.u64
                    (opI BinOp.mul IntKind.u64 (opI BinOp.and IntKind.u64 x 4294967295)
                      (opI BinOp.and IntKind.u64 y 4294967295))
                    32))
                4294967295)
              (opI BinOp.mul IntKind.u64 (opI BinOp.and IntKind.u64 x 4294967295) (opI BinOp.shr IntKind.u64 y 32)))
            32))),
    D.v (Value.int IntKind.u64 (opI BinOp.mul IntKind.u64 x y))]) :
  CallsD Try.prog 51 [D.v (Value.int IntKind.u64 x), D.v (Value.int IntKind.u64 y)] res := by
  exact of_path hX0 (mulA_p0 x y) ⟨rfl, rfl, rfl, rfl, rfl, trivial⟩ (h0).2
theorem mulB_p0 (x : Int) (y : Int) : fnX Try.prog X0 100000 [] 70 [D.v (Value.int IntKind.u64 x), D.v (Value.int IntKind.u64 y)] = some (D.agg
  [D.v
      (Value.int IntKind.u64
        (opI BinOp.add IntKind.u64
          (opI BinOp.add IntKind.u64
            (opI BinOp.add IntKind.u64
              (opI BinOp.mul IntKind.u64 (opI BinOp.quo IntKind.u64 x 4294967296)
                (opI BinOp.quo IntKind.u64 y 4294967296))
              (opI BinOp.quo IntKind.u64
                (opI BinOp.mul IntKind.u64 (opI BinOp.quo IntKind.u64 x 4294967296)
                  (opI BinOp.rem IntKind.u64 y 4294967296))
                4294967296))
            (opI BinOp.quo IntKind.u64
              (opI BinOp.mul IntKind.u64 (opI BinOp.rem IntKind.u64 x 4294967296)
                (opI BinOp.quo IntKind.u64 y 4294967296))
              4294967296))
          (opI BinOp.quo IntKind.u64
            (opI BinOp.add IntKind.u64
              (opI BinOp.add IntKind.u64
                (opI BinOp.quo IntKind.u64
                  (opI BinOp.mul IntKind.u64 (opI BinOp.rem IntKind.u64 x 4294967296)
                    (opI BinOp.rem IntKind.u64 y 4294967296))
                  4294967296)
                (opI BinOp.rem IntKind.u64
                  (opI BinOp.mul IntKind.u64 (opI BinOp.quo IntKind.u64 x 4294967296)
                    (opI BinOp.rem IntKind.u64 y 4294967296))
                  4294967296))
              (opI BinOp.rem IntKind.u64
                (opI BinOp.mul IntKind.u64 (opI BinOp.rem IntKind.u64 x 4294967296)
                  (opI BinOp.quo IntKind.u64 y 4294967296))
                4294967296))
            4294967296))),
    D.v
      (Value.int IntKind.u64
        (opI BinOp.add IntKind.u64
          (opI BinOp.mul IntKind.u64
            (opI BinOp.rem IntKind.u64
              (opI BinOp.add IntKind.u64
                (opI BinOp.add IntKind.u64
                  (opI BinOp.quo IntKind.u64
                    (opI BinOp.mul IntKind.u64 (opI BinOp.rem IntKind.u64 x 4294967296)
                      (opI BinOp.rem IntKind.u64 y 4294967296))
                    4294967296)
                  (opI BinOp.rem IntKind.u64
                    (opI BinOp.mul IntKind.u64 (opI BinOp.quo IntKind.u64 x 4294967296)
                      (opI BinOp.rem IntKind.u64 y 4294967296))
                    4294967296))
                (opI BinOp.rem IntKind.u64
                  (opI BinOp.mul IntKind.u64 (opI BinOp.rem IntKind.u64 x 4294967296)
                    (opI BinOp.quo IntKind.u64 y 4294967296))
                  4294967296))
              4294967296)
            4294967296)
          (opI BinOp.rem IntKind.u64
            (opI BinOp.mul IntKind.u64 (opI BinOp.rem IntKind.u64 x 4294967296)
              (opI BinOp.rem IntKind.u64 y 4294967296))
            4294967296)))], [false = false,
  false = false,
  false = false,
  false = false,
  false = false,
  false = false,
  false = false,
  false = false,
  false = false,
  false = false,
  false = false,
  false = false]) := by kernel_rfl
theorem mulB_calls (x : Int) (y : Int) (res : D)
  (h0 : (True) ∧ res = D.agg
  [D.v
      (Value.int IntKind.u64
        (opI BinOp.add IntKind.u64
          (opI BinOp.add IntKind.u64
            (opI BinOp.add IntKind.u64
              (opI BinOp.mul IntKind.u64 (opI BinOp.quo IntKind.u64 x 4294967296)
                (opI BinOp.quo IntKind.u64 y 4294967296))
              (opI BinOp.quo IntKind.u64
                (opI BinOp.mul IntKind.u64 (opI BinOp.quo IntKind.u64 x 4294967296)
                  (opI BinOp.rem IntKind.u64 y 4294967296))
                4294967296))
            (opI BinOp.quo IntKind.u64
              (opI BinOp.mul IntKind.u64 (opI BinOp.rem IntKind.u64 x 4294967296)
                (opI BinOp.quo IntKind.u64 y 4294967296))
              4294967296))
          (opI BinOp.quo IntKind.u64
            (opI BinOp.add IntKind.u64
              (opI BinOp.add IntKind.u64
                (opI BinOp.quo IntKind.u64
                  (opI BinOp.mul IntKind.u64 (opI BinOp.rem IntKind.u64 x 4294967296)
                    (opI BinOp.rem IntKind.u64 y 4294967296))
                  4294967296)
                (opI BinOp.rem IntKind.u64
                  (opI BinOp.mul IntKind.u64 (opI BinOp.quo IntKind.u64 x 4294967296)
                    (opI BinOp.rem IntKind.u64 y 4294967296))
                  4294967296))
              (opI BinOp.rem IntKind.u64
                (opI BinOp.mul IntKind.u64 (opI BinOp.rem IntKind.u64 x 4294967296)
                  (opI BinOp.quo IntKind.u64 y 4294967296))
                4294967296))
            4294967296))),
    D.v
      (Value.int IntKind.u64
        (opI BinOp.add IntKind.u64
          (opI BinOp.mul IntKind.u64
            (opI BinOp.rem IntKind.u64
              (opI BinOp.add IntKind.u64
                (opI BinOp.add IntKind.u64
                  (opI BinOp.quo IntKind.u64
                    (opI BinOp.mul IntKind.u64 (opI BinOp.rem IntKind.u64 x 4294967296)
                      (opI BinOp.rem IntKind.u64 y 4294967296))
                    4294967296)
                  (opI BinOp.rem IntKind.u64
                    (opI BinOp.mul IntKind.u64 (opI BinOp.quo IntKind.u64 x 4294967296)
                      (opI BinOp.rem IntKind.u64 y 4294967296))
                    4294967296))
                (opI BinOp.rem IntKind.u64
                  (opI BinOp.mul IntKind.u64 (opI BinOp.rem IntKind.u64 x 4294967296)
                    (opI BinOp.quo IntKind.u64 y 4294967296))
                  4294967296))
              4294967296)
            4294967296)
          (opI BinOp.rem IntKind.u64
            (opI BinOp.mul IntKind.u64 (opI BinOp.rem IntKind.u64 x 4294967296)
              (opI BinOp.rem IntKind.u64 y 4294967296))
            4294967296)))]) :
  CallsD Try.prog 70 [D.v (Value.int IntKind.u64 x), D.v (Value.int IntKind.u64 y)] res := by
  exact of_path hX0 (mulB_p0 x y) ⟨rfl, rfl, rfl, rfl, rfl, rfl, rfl, rfl, rfl, rfl, rfl, rfl, trivial⟩ (h0).2
theorem addA_p0 (h : Int) (l : Int) (d : Int) (e : Int) : fnX Try.prog X0 100000 [.d true] 68 [D.agg [D.v (Value.int IntKind.u64 h), D.v (Value.int IntKind.u64 l)],
  D.agg [D.v (Value.int IntKind.u64 d), D.v (Value.int IntKind.u64 e)]] = some (D.tup [D.agg [D.v (Value.int IntKind.u64 0), D.v (Value.int IntKind.u64 0)], D.v (Value.int IntKind.i64 16)], [cmpI BinOp.neq ((h + d + (l + e + 0) / 18446744073709551616) / 18446744073709551616) 0 = true,
  0 ≤ h,
  0 ≤ d,
  0 ≤ (l + e + 0) / 18446744073709551616,
  (l + e + 0) / 18446744073709551616 ≤ 1,
  0 ≤ l,
  0 ≤ e,
  (0 : Int) ≤ (0 : Int),
  (0 : Int) ≤ (1 : Int)]) := by kernel_rfl
theorem addA_p1 (h : Int) (l : Int) (d : Int) (e : Int) : fnX Try.prog X0 100000 [.d false] 68 [D.agg [D.v (Value.int IntKind.u64 h), D.v (Value.int IntKind.u64 l)],
  D.agg [D.v (Value.int IntKind.u64 d), D.v (Value.int IntKind.u64 e)]] = some (D.tup
  [D.agg
      [D.v (Value.int IntKind.u64 ((h + d + (l + e + 0) / 18446744073709551616) % 18446744073709551616)),
        D.v (Value.int IntKind.u64 ((l + e + 0) % 18446744073709551616))],
    D.v (Value.int IntKind.i64 0)], [cmpI BinOp.neq ((h + d + (l + e + 0) / 18446744073709551616) / 18446744073709551616) 0 = false,
  0 ≤ h,
  0 ≤ d,
  0 ≤ (l + e + 0) / 18446744073709551616,
  (l + e + 0) / 18446744073709551616 ≤ 1,
  0 ≤ l,
  0 ≤ e,
  (0 : Int) ≤ (0 : Int),
  (0 : Int) ≤ (1 : Int)]) := by kernel_rfl
theorem addA_calls (h : Int) (l : Int) (d : Int) (e : Int) (res : D)
  (h0 : ((cmpI BinOp.neq ((h + d + (l + e + 0) / 18446744073709551616) / 18446744073709551616) 0) = true) → ((0 ≤ h) ∧ (0 ≤ d) ∧ (0 ≤ (l + e + 0) / 18446744073709551616) ∧ ((l + e + 0) / 18446744073709551616 ≤ 1) ∧ (0 ≤ l) ∧ (0 ≤ e) ∧ ((0 : Int) ≤ (0 : Int)) ∧ ((0 : Int) ≤ (1 : Int)) ∧ True) ∧ res = D.tup [D.agg [D.v (Value.int IntKind.u64 0), D.v (Value.int IntKind.u64 0)], D.v (Value.int IntKind.i64 16)])
  (h1 : ((cmpI BinOp.neq ((h + d + (l + e + 0) / 18446744073709551616) / 18446744073709551616) 0) = false) → ((0 ≤ h) ∧ (0 ≤ d) ∧ (0 ≤ (l + e + 0) / 18446744073709551616) ∧ ((l + e + 0) / 18446744073709551616 ≤ 1) ∧ (0 ≤ l) ∧ (0 ≤ e) ∧ ((0 : Int) ≤ (0 : Int)) ∧ ((0 : Int) ≤ (1 : Int)) ∧ True) ∧ res = D.tup
  [D.agg
      [D.v (Value.int IntKind.u64 ((h + d + (l + e + 0) / 18446744073709551616) % 18446744073709551616)),
        D.v (Value.int IntKind.u64 ((l + e + 0) % 18446744073709551616))],
    D.v (Value.int IntKind.i64 0)]) :
  CallsD Try.prog 68 [D.agg [D.v (Value.int IntKind.u64 h), D.v (Value.int IntKind.u64 l)],
  D.agg [D.v (Value.int IntKind.u64 d), D.v (Value.int IntKind.u64 e)]] res := by
  cases e0 : (cmpI BinOp.neq ((h + d + (l + e + 0) / 18446744073709551616) / 18446744073709551616) 0) with
  | true =>
    exact of_path hX0 (addA_p0 h l d e) ⟨e0, (h0 e0).1.1, (h0 e0).1.2.1, (h0 e0).1.2.2.1, (h0 e0).1.2.2.2.1, (h0 e0).1.2.2.2.2.1, (h0 e0).1.2.2.2.2.2.1, (h0 e0).1.2.2.2.2.2.2.1, (h0 e0).1.2.2.2.2.2.2.2.1, trivial⟩ (h0 e0).2
  | false =>
    exact of_path hX0 (addA_p1 h l d e) ⟨e0, (h1 e0).1.1, (h1 e0).1.2.1, (h1 e0).1.2.2.1, (h1 e0).1.2.2.2.1, (h1 e0).1.2.2.2.2.1, (h1 e0).1.2.2.2.2.2.1, (h1 e0).1.2.2.2.2.2.2.1, (h1 e0).1.2.2.2.2.2.2.2.1, trivial⟩ (h1 e0).2
theorem addB_p0 (h : Int) (l : Int) (d : Int) (e : Int) : fnX Try.prog X0 100000 [.d true, .d true, .c 3] 69 [D.agg [D.v (Value.int IntKind.u64 h), D.v (Value.int IntKind.u64 l)],
  D.agg [D.v (Value.int IntKind.u64 d), D.v (Value.int IntKind.u64 e)]] = some (D.tup [D.agg [D.v (Value.int IntKind.u64 0), D.v (Value.int IntKind.u64 0)], D.v (Value.int IntKind.i64 16)], [cmpI BinOp.gtr d (opI BinOp.sub IntKind.u64 18446744073709551615 h) = true,
  cmpI BinOp.gtr e (opI BinOp.sub IntKind.u64 18446744073709551615 l) = true]) := by kernel_rfl
theorem addB_p1 (h : Int) (l : Int) (d : Int) (e : Int) : fnX Try.prog X0 100000 [.d true, .d false, .c 8, .d true] 69 [D.agg [D.v (Value.int IntKind.u64 h), D.v (Value.int IntKind.u64 l)],
  D.agg [D.v (Value.int IntKind.u64 d), D.v (Value.int IntKind.u64 e)]] = some (D.tup [D.agg [D.v (Value.int IntKind.u64 0), D.v (Value.int IntKind.u64 0)], D.v (Value.int IntKind.i64 16)], [cmpI BinOp.eql (opI BinOp.add IntKind.u64 h d) 18446744073709551615 = true,
  cmpI BinOp.gtr d (opI BinOp.sub IntKind.u64 18446744073709551615 h) = false,
  cmpI BinOp.gtr e (opI BinOp.sub IntKind.u64 18446744073709551615 l) = true]) := by kernel_rfl
theorem addB_p2 (h : Int) (l : Int) (d : Int) (e : Int) : fnX Try.prog X0 100000 [.d true, .d false, .c 8, .d false] 69 [D.agg [D.v (Value.int IntKind.u64 h), D.v (Value.int IntKind.u64 l)],
  D.agg [D.v (Value.int IntKind.u64 d), D.v (Value.int IntKind.u64 e)]] = some (D.tup
  [D.agg
      [D.v (Value.int IntKind.u64 (opI BinOp.add IntKind.u64 (opI BinOp.add IntKind.u64 h d) 1)),
        D.v (Value.int IntKind.u64 (opI BinOp.add IntKind.u64 l e))],
    D.v (Value.int IntKind.i64 0)], [cmpI BinOp.eql (opI BinOp.add IntKind.u64 h d) 18446744073709551615 = false,
  cmpI BinOp.gtr d (opI BinOp.sub IntKind.u64 18446744073709551615 h) = false,
  cmpI BinOp.gtr e (opI BinOp.sub IntKind.u64 18446744073709551615 l) = true]) := by kernel_rfl
theorem addB_p3 (h : Int) (l : Int) (d : Int) (e : Int) : fnX Try.prog X0 100000 [.d false, .d true, .c 3] 69 [D.agg [D.v (Value.int IntKind.u64 h), D.v (Value.int IntKind.u64 l)],
  D.agg [D.v (Value.int IntKind.u64 d), D.v (Value.int IntKind.u64 e)]] = some (D.tup [D.agg [D.v (Value.int IntKind.u64 0), D.v (Value.int IntKind.u64 0)], D.v (Value.int IntKind.i64 16)], [cmpI BinOp.gtr d (opI BinOp.sub IntKind.u64 18446744073709551615 h) = true,
  cmpI BinOp.gtr e (opI BinOp.sub IntKind.u64 18446744073709551615 l) = false]) := by kernel_rfl
theorem addB_p4 (h : Int) (l : Int) (d : Int) (e : Int) : fnX Try.prog X0 100000 [.d false, .d false, .c 9] 69 [D.agg [D.v (Value.int IntKind.u64 h), D.v (Value.int IntKind.u64 l)],
  D.agg [D.v (Value.int IntKind.u64 d), D.v (Value.int IntKind.u64 e)]] = some (D.tup
  [D.agg
      [D.v (Value.int IntKind.u64 (opI BinOp.add IntKind.u64 (opI BinOp.add IntKind.u64 h d) 0)),
        D.v (Value.int IntKind.u64 (opI BinOp.add IntKind.u64 l e))],
    D.v (Value.int IntKind.i64 0)], [cmpI BinOp.gtr d (opI BinOp.sub IntKind.u64 18446744073709551615 h) = false,
  cmpI BinOp.gtr e (opI BinOp.sub IntKind.u64 18446744073709551615 l) = false]) := by kernel_rfl
theorem addB_calls (h : Int) (l : Int) (d : Int) (e : Int) (res : D)
  (h0 : ((cmpI BinOp.gtr e (opI BinOp.sub IntKind.u64 18446744073709551615 l)) = true) → ((cmpI BinOp.gtr d (opI BinOp.sub IntKind.u64 18446744073709551615 h)) = true) → (True) ∧ res = D.tup [D.agg [D.v (Value.int IntKind.u64 0), D.v (Value.int IntKind.u64 0)], D.v (Value.int IntKind.i64 16)])
  (h1 : ((cmpI BinOp.gtr e (opI BinOp.sub IntKind.u64 18446744073709551615 l)) = true) → ((cmpI BinOp.gtr d (opI BinOp.sub IntKind.u64 18446744073709551615 h)) = false) → ((cmpI BinOp.eql (opI BinOp.add IntKind.u64 h d) 18446744073709551615) = true) → (True) ∧ res = D.tup [D.agg [D.v (Value.int IntKind.u64 0), D.v (Value.int IntKind.u64 0)], D.v (Value.int IntKind.i64 16)])
  (h2 : ((cmpI BinOp.gtr e (opI BinOp.sub IntKind.u64 18446744073709551615 l)) = true) → ((cmpI BinOp.gtr d (opI BinOp.sub IntKind.u64 18446744073709551615 h)) = false) → ((cmpI BinOp.eql (opI BinOp.add IntKind.u64 h d) 18446744073709551615) = false) → (True) ∧ res = D.tup
  [D.agg
      [D.v (Value.int IntKind.u64 (opI BinOp.add IntKind.u64 (opI BinOp.add IntKind.u64 h d) 1)),
        D.v (Value.int IntKind.u64 (opI BinOp.add IntKind.u64 l e))],
    D.v (Value.int IntKind.i64 0)])
  (h3 : ((cmpI BinOp.gtr e (opI BinOp.sub IntKind.u64 18446744073709551615 l)) = false) → ((cmpI BinOp.gtr d (opI BinOp.sub IntKind.u64 18446744073709551615 h)) = true) → (True) ∧ res = D.tup [D.agg [D.v (Value.int IntKind.u64 0), D.v (Value.int IntKind.u64 0)], D.v (Value.int IntKind.i64 16)])
  (h4 : ((cmpI BinOp.gtr e (opI BinOp.sub IntKind.u64 18446744073709551615 l)) = false) → ((cmpI BinOp.gtr d (opI BinOp.sub IntKind.u64 18446744073709551615 h)) = false) → (True) ∧ res = D.tup
  [D.agg
      [D.v (Value.int IntKind.u64 (opI BinOp.add IntKind.u64 (opI BinOp.add IntKind.u64 h d) 0)),
        D.v (Value.int IntKind.u64 (opI BinOp.add IntKind.u64 l e))],
    D.v (Value.int IntKind.i64 0)]) :
  CallsD Try.prog 69 [D.agg [D.v (Value.int IntKind.u64 h), D.v (Value.int IntKind.u64 l)],
  D.agg [D.v (Value.int IntKind.u64 d), D.v (Value.int IntKind.u64 e)]] res := by
  cases e0 : (cmpI BinOp.gtr e (opI BinOp.sub IntKind.u64 18446744073709551615 l)) with
  | true =>
    cases e1 : (cmpI BinOp.gtr d (opI BinOp.sub IntKind.u64 18446744073709551615 h)) with
    | true =>
      exact of_path hX0 (addB_p0 h l d e) ⟨e1, e0, trivial⟩ (h0 e0 e1).2
    | false =>
      cases e2 : (cmpI BinOp.eql (opI BinOp.add IntKind.u64 h d) 18446744073709551615) with
      | true =>
        exact of_path hX0 (addB_p1 h l d e) ⟨e2, e1, e0, trivial⟩ (h1 e0 e1 e2).2
      | false =>
        exact of_path hX0 (addB_p2 h l d e) ⟨e2, e1, e0, trivial⟩ (h2 e0 e1 e2).2
  | false =>
    cases e1 : (cmpI BinOp.gtr d (opI BinOp.sub IntKind.u64 18446744073709551615 h)) with
    | true =>
      exact of_path hX0 (addB_p3 h l d e) ⟨e1, e0, trivial⟩ (h3 e0 e1).2
    | false =>
      exact of_path hX0 (addB_p4 h l d e) ⟨e1, e0, trivial⟩ (h4 e0 e1).2
theorem cmpB_p0 (h : Int) (l : Int) (d : Int) (e : Int) : fnX Try.prog X0 100000 [.d true, .c 6] 72 [D.agg [D.v (Value.int IntKind.u64 h), D.v (Value.int IntKind.u64 l)],
  D.agg [D.v (Value.int IntKind.u64 d), D.v (Value.int IntKind.u64 e)]] = some (D.v (Value.int IntKind.i64 (-1)), [cmpI BinOp.lss h d = true]) := by kernel_rfl
theorem cmpB_p1 (h : Int) (l : Int) (d : Int) (e : Int) : fnX Try.prog X0 100000 [.d false, .c 4, .d true, .c 4, .d true] 72 [D.agg [D.v (Value.int IntKind.u64 h), D.v (Value.int IntKind.u64 l)],
  D.agg [D.v (Value.int IntKind.u64 d), D.v (Value.int IntKind.u64 e)]] = some (D.v (Value.int IntKind.i64 (-1)), [cmpI BinOp.lss l e = true,
  cmpI BinOp.eql h d = true,
  cmpI BinOp.lss h d = false]) := by kernel_rfl
theorem cmpB_p2 (h : Int) (l : Int) (d : Int) (e : Int) : fnX Try.prog X0 100000 [.d false, .c 4, .d true, .c 4, .d false, .d true] 72 [D.agg [D.v (Value.int IntKind.u64 h), D.v (Value.int IntKind.u64 l)],
  D.agg [D.v (Value.int IntKind.u64 d), D.v (Value.int IntKind.u64 e)]] = some (D.v (Value.int IntKind.i64 0), [(h == d && (l == e && true)) = true,
  cmpI BinOp.lss l e = false,
  cmpI BinOp.eql h d = true,
  cmpI BinOp.lss h d = false]) := by kernel_rfl
theorem cmpB_p3 (h : Int) (l : Int) (d : Int) (e : Int) : fnX Try.prog X0 100000 [.d false, .c 4, .d true, .c 4, .d false, .d false] 72 [D.agg [D.v (Value.int IntKind.u64 h), D.v (Value.int IntKind.u64 l)],
  D.agg [D.v (Value.int IntKind.u64 d), D.v (Value.int IntKind.u64 e)]] = some (D.v (Value.int IntKind.i64 1), [(h == d && (l == e && true)) = false,
  cmpI BinOp.lss l e = false,
  cmpI BinOp.eql h d = true,
  cmpI BinOp.lss h d = false]) := by kernel_rfl
theorem cmpB_p4 (h : Int) (l : Int) (d : Int) (e : Int) : fnX Try.prog X0 100000 [.d false, .c 4, .d false, .c 5, .d true] 72 [D.agg [D.v (Value.int IntKind.u64 h), D.v (Value.int IntKind.u64 l)],
  D.agg [D.v (Value.int IntKind.u64 d), D.v (Value.int IntKind.u64 e)]] = some (D.v (Value.int IntKind.i64 0), [(h == d && (l == e && true)) = true,
  cmpI BinOp.eql h d = false,
  cmpI BinOp.lss h d = false]) := by kernel_rfl
theorem cmpB_p5 (h : Int) (l : Int) (d : Int) (e : Int) : fnX Try.prog X0 100000 [.d false, .c 4, .d false, .c 5, .d false] 72 [D.agg [D.v (Value.int IntKind.u64 h), D.v (Value.int IntKind.u64 l)],
  D.agg [D.v (Value.int IntKind.u64 d), D.v (Value.int IntKind.u64 e)]] = some (D.v (Value.int IntKind.i64 1), [(h == d && (l == e && true)) = false,
  cmpI BinOp.eql h d = false,
  cmpI BinOp.lss h d = false]) := by kernel_rfl
theorem cmpB_calls (h : Int) (l : Int) (d : Int) (e : Int) (res : D)
  (h0 : ((cmpI BinOp.lss h d) = true) → (True) ∧ res = D.v (Value.int IntKind.i64 (-1)))
  (h1 : ((cmpI BinOp.lss h d) = false) → ((cmpI BinOp.eql h d) = true) → ((cmpI BinOp.lss l e) = true) → (True) ∧ res = D.v (Value.int IntKind.i64 (-1)))
  (h2 : ((cmpI BinOp.lss h d) = false) → ((cmpI BinOp.eql h d) = true) → ((cmpI BinOp.lss l e) = false) → ((h == d && (l == e && true)) = true) → (True) ∧ res = D.v (Value.int IntKind.i64 0))
  (h3 : ((cmpI BinOp.lss h d) = false) → ((cmpI BinOp.eql h d) = true) → ((cmpI BinOp.lss l e) = false) → ((h == d && (l == e && true)) = false) → (True) ∧ res = D.v (Value.int IntKind.i64 1))
  (h4 : ((cmpI BinOp.lss h d) = false) → ((cmpI BinOp.eql h d) = false) → ((h == d && (l == e && true)) = true) → (True) ∧ res = D.v (Value.int IntKind.i64 0))
  (h5 : ((cmpI BinOp.lss h d) = false) → ((cmpI BinOp.eql h d) = false) → ((h == d && (l == e && true)) = false) → (True) ∧ res = D.v (Value.int IntKind.i64 1)) :
  CallsD Try.prog 72 [D.agg [D.v (Value.int IntKind.u64 h), D.v (Value.int IntKind.u64 l)],
  D.agg [D.v (Value.int IntKind.u64 d), D.v (Value.int IntKind.u64 e)]] res := by
  cases e0 : (cmpI BinOp.lss h d) with
  | true =>
    exact of_path hX0 (cmpB_p0 h l d e) ⟨e0, trivial⟩ (h0 e0).2
  | false =>
    cases e1 : (cmpI BinOp.eql h d) with
    | true =>
      cases e2 : (cmpI BinOp.lss l e) with
      | true =>
        exact of_path hX0 (cmpB_p1 h l d e) ⟨e2, e1, e0, trivial⟩ (h1 e0 e1 e2).2
      | false =>
        cases e3 : (h == d && (l == e && true)) with
        | true =>
          exact of_path hX0 (cmpB_p2 h l d e) ⟨e3, e2, e1, e0, trivial⟩ (h2 e0 e1 e2 e3).2
        | false =>
          exact of_path hX0 (cmpB_p3 h l d e) ⟨e3, e2, e1, e0, trivial⟩ (h3 e0 e1 e2 e3).2
    | false =>
      cases e2 : (h == d && (l == e && true)) with
      | true =>
        exact of_path hX0 (cmpB_p4 h l d e) ⟨e2, e1, e0, trivial⟩ (h4 e0 e1 e2).2
      | false =>
        exact of_path hX0 (cmpB_p5 h l d e) ⟨e2, e1, e0, trivial⟩ (h5 e0 e1 e2).2
theorem lessB_p0 (h : Int) (l : Int) (d : Int) (e : Int) : fnX Try.prog X0 100000 [.d true] 77 [D.agg [D.v (Value.int IntKind.u64 h), D.v (Value.int IntKind.u64 l)],
  D.agg [D.v (Value.int IntKind.u64 d), D.v (Value.int IntKind.u64 e)]] = some (D.agg
  [D.v (Value.int IntKind.u64 (opI BinOp.sub IntKind.u64 (opI BinOp.sub IntKind.u64 h d) 1)),
    D.v (Value.int IntKind.u64 (opI BinOp.sub IntKind.u64 l e))], [cmpI BinOp.gtr e l = true]) := by kernel_rfl
theorem lessB_p1 (h : Int) (l : Int) (d : Int) (e : Int) : fnX Try.prog X0 100000 [.d false] 77 [D.agg [D.v (Value.int IntKind.u64 h), D.v (Value.int IntKind.u64 l)],
  D.agg [D.v (Value.int IntKind.u64 d), D.v (Value.int IntKind.u64 e)]] = some (D.agg
  [D.v (Value.int IntKind.u64 (opI BinOp.sub IntKind.u64 h d)),
    D.v (Value.int IntKind.u64 (opI BinOp.sub IntKind.u64 l e))], [cmpI BinOp.gtr e l = false]) := by kernel_rfl
theorem lessB_calls (h : Int) (l : Int) (d : Int) (e : Int) (res : D)
  (h0 : ((cmpI BinOp.gtr e l) = true) → (True) ∧ res = D.agg
  [D.v (Value.int IntKind.u64 (opI BinOp.sub IntKind.u64 (opI BinOp.sub IntKind.u64 h d) 1)),
    D.v (Value.int IntKind.u64 (opI BinOp.sub IntKind.u64 l e))])
  (h1 : ((cmpI BinOp.gtr e l) = false) → (True) ∧ res = D.agg
  [D.v (Value.int IntKind.u64 (opI BinOp.sub IntKind.u64 h d)),
    D.v (Value.int IntKind.u64 (opI BinOp.sub IntKind.u64 l e))]) :
  CallsD Try.prog 77 [D.agg [D.v (Value.int IntKind.u64 h), D.v (Value.int IntKind.u64 l)],
  D.agg [D.v (Value.int IntKind.u64 d), D.v (Value.int IntKind.u64 e)]] res := by
  cases e0 : (cmpI BinOp.gtr e l) with
  | true =>
    exact of_path hX0 (lessB_p0 h l d e) ⟨e0, trivial⟩ (h0 e0).2
  | false =>
    exact of_path hX0 (lessB_p1 h l d e) ⟨e0, trivial⟩ (h1 e0).2

abbrev i64 (n : Int) : D := .v (.int .i64 n)
abbrev u64 (n : Int) : D := .v (.int .u64 n)
/-- The error of a limit. -/
def limE (b r p : Int) : Int := if b < 1 ∨ 1000000000 < b ∨ r < 0 ∨ 1000000000 < r ∨ p < 1 ∨ 1000000000 < p then 8 else 0
theorem limA_ok (b r p : Int) : CallsD Try.prog 59 [.agg [i64 b, i64 r, i64 p]] (i64 (limE b r p)) := by
  refine limA_calls b r p _ ?_ ?_ ?_ ?_ ?_ ?_ ?_ <;> (intros; simp only [lss_t, lss_f, gtr_t, gtr_f] at *; refine ⟨trivial, ?_⟩; unfold limE; first | rw [if_pos (by omega)] | rw [if_neg (by omega)])
theorem limB_ok (b r p : Int) : CallsD Try.prog 23 [.agg [i64 b, i64 r, i64 p]] (i64 (limE b r p)) := by
  refine limB_calls b r p _ ?_ ?_ ?_ ?_ ?_ ?_ ?_ <;> (intros; simp only [lss_t, lss_f, gtr_t, gtr_f] at *; refine ⟨trivial, ?_⟩; unfold limE; first | rw [if_pos (by omega)] | rw [if_neg (by omega)])

/-- A wide number. -/
def wd (s : Int) : D := .agg [u64 (s / 18446744073709551616), u64 (s % 18446744073709551616)]
theorem wd_eq {h l : Int} (h0 : 0 ≤ l) (h1 : l < 18446744073709551616) : wd (h * 18446744073709551616 + l) = .agg [u64 h, u64 l] := by
  unfold wd
  rw [show (h * 18446744073709551616 + l) / 18446744073709551616 = h by omega, show (h * 18446744073709551616 + l) % 18446744073709551616 = l by omega]

def sumD (s : Int) : D := .tup [wd (if s < 340282366920938463463374607431768211456 then s else 0), i64 (if s < 340282366920938463463374607431768211456 then 0 else 16)]
theorem addA_ok (h l d e : Int) (h0 : 0 ≤ h) (h1 : h < 18446744073709551616) (l0 : 0 ≤ l) (l1 : l < 18446744073709551616) (d0 : 0 ≤ d) (d1 : d < 18446744073709551616) (e0 : 0 ≤ e) (e1 : e < 18446744073709551616) :
    CallsD Try.prog 68 [.agg [u64 h, u64 l], .agg [u64 d, u64 e]] (sumD (h * 18446744073709551616 + l + (d * 18446744073709551616 + e))) := by
  refine addA_calls h l d e _ ?_ ?_
  · intro a
    simp only [neq_t] at a
    refine ⟨⟨by omega, by omega, by omega, by omega, by omega, by omega, by omega, by omega, trivial⟩, ?_⟩
    unfold sumD
    rw [if_neg (by omega), if_neg (by omega)]; rfl
  · intro a
    simp only [neq_f] at a
    refine ⟨⟨by omega, by omega, by omega, by omega, by omega, by omega, by omega, by omega, trivial⟩, ?_⟩
    unfold sumD wd
    rw [if_pos (by omega), if_pos (by omega)]
    simp only [D.tup.injEq, D.agg.injEq, List.cons.injEq, D.v.injEq, Value.int.injEq, and_true, true_and]
    omega
theorem addB_ok (h l d e : Int) (h0 : 0 ≤ h) (h1 : h < 18446744073709551616) (l0 : 0 ≤ l) (l1 : l < 18446744073709551616) (d0 : 0 ≤ d) (d1 : d < 18446744073709551616) (e0 : 0 ≤ e) (e1 : e < 18446744073709551616) :
    CallsD Try.prog 69 [.agg [u64 h, u64 l], .agg [u64 d, u64 e]] (sumD (h * 18446744073709551616 + l + (d * 18446744073709551616 + e))) := by
  refine addB_calls h l d e _ ?_ ?_ ?_ ?_ ?_
  all_goals
    intros
    simp only [lss_t, lss_f, gtr_t, gtr_f, eql_t, eql_f, opI_add, opI_sub, wrap_u64] at *
    refine ⟨trivial, ?_⟩
    unfold sumD wd
    first
      | (rw [if_neg (by omega), if_neg (by omega)]; rfl)
      | (rw [if_pos (by omega), if_pos (by omega)]; simp only [D.tup.injEq, D.agg.injEq, List.cons.injEq, D.v.injEq, Value.int.injEq, and_true, true_and]; omega)

/-- Greater, the same, or less. -/
def cmpZ (x y : Int) : Int := if x < y then -1 else if x = y then 0 else 1
theorem cmpB_ok (h l d e : Int) (l0 : 0 ≤ l) (l1 : l < 18446744073709551616) (e0 : 0 ≤ e) (e1 : e < 18446744073709551616) :
    CallsD Try.prog 72 [.agg [u64 h, u64 l], .agg [u64 d, u64 e]] (i64 (cmpZ (h * 18446744073709551616 + l) (d * 18446744073709551616 + e))) := by
  refine cmpB_calls h l d e _ ?_ ?_ ?_ ?_ ?_ ?_
  all_goals
    intros
    simp only [lss_t, lss_f, gtr_t, gtr_f, eql_t, eql_f, Bool.and_true, Bool.and_eq_true, Bool.and_eq_false_iff, beq_iff_eq, beq_eq_false_iff_ne, ne_eq] at *
    refine ⟨trivial, ?_⟩
    simp only [cmpZ, D.v.injEq, Value.int.injEq, true_and]
    split
    · omega
    · split <;> omega
theorem lessB_ok (h l d e : Int) (h1 : h < 18446744073709551616) (l0 : 0 ≤ l) (l1 : l < 18446744073709551616) (d0 : 0 ≤ d) (e0 : 0 ≤ e) (e1 : e < 18446744073709551616) (hle : d * 18446744073709551616 + e ≤ h * 18446744073709551616 + l) :
    CallsD Try.prog 77 [.agg [u64 h, u64 l], .agg [u64 d, u64 e]] (wd (h * 18446744073709551616 + l - (d * 18446744073709551616 + e))) := by
  refine lessB_calls h l d e _ ?_ ?_
  all_goals
    intros
    simp only [lss_t, lss_f, gtr_t, gtr_f, eql_t, eql_f, opI_sub, wrap_u64] at *
    refine ⟨trivial, ?_⟩
    simp only [wd, D.tup.injEq, D.agg.injEq, List.cons.injEq, D.v.injEq, Value.int.injEq, and_true, true_and]
    omega
end MeterS

namespace MeterS
open Go Go.Dam Go.Proofs
set_option maxRecDepth 1000000
set_option linter.unusedVariables false
set_option linter.unusedSectionVars false
set_option linter.unusedSimpArgs false

theorem shr32 (x : Int) : opI .shr .u64 x 32 = x / 4294967296 := by
  rw [opI_shr64 (by decide) (by decide)]; rfl
theorem and32 {x : Int} (h0 : 0 ≤ x) (h1 : x < 18446744073709551616) : opI .and .u64 x 4294967295 = x % 4294967296 := opI_and_mask64 32 (by decide) h0 h1
theorem mul_of {p q : Int} (h0 : 0 ≤ p * q) (h1 : p * q < 18446744073709551616) : opI .mul .u64 p q = p * q := by rw [opI_mul, wrap_u64]; omega
theorem add_of {p q : Int} (h0 : 0 ≤ p + q) (h1 : p + q < 18446744073709551616) : opI .add .u64 p q = p + q := by rw [opI_add, wrap_u64]; omega
theorem quo32 {x : Int} (h0 : 0 ≤ x) (h1 : x < 18446744073709551616) : opI .quo .u64 x 4294967296 = x / 4294967296 := by rw [opI_quo _ h0, wrap_u64]; omega
theorem rem32 {x : Int} (h0 : 0 ≤ x) : opI .rem .u64 x 4294967296 = x % 4294967296 := opI_rem _ h0
theorem prod32 {a b : Int} (a0 : 0 ≤ a) (a1 : a < 4294967296) (b0 : 0 ≤ b) (b1 : b < 4294967296) : 0 ≤ a * b ∧ a * b ≤ 18446744065119617025 :=
  ⟨Int.mul_nonneg a0 b0, by
    have := Int.mul_le_mul (show a ≤ 4294967295 by omega) (show b ≤ 4294967295 by omega) b0 (by decide)
    omega⟩
theorem mul_parts (x y : Int) : x * y = (x / 4294967296) * (y / 4294967296) * 18446744073709551616 + ((x / 4294967296) * (y % 4294967296) + (x % 4294967296) * (y / 4294967296)) * 4294967296 + (x % 4294967296) * (y % 4294967296) := by
  have hx : x = x / 4294967296 * 4294967296 + x % 4294967296 := by omega
  have hy : y = y / 4294967296 * 4294967296 + y % 4294967296 := by omega
  generalize x / 4294967296 = a at *
  generalize x % 4294967296 = b at *
  generalize y / 4294967296 = c at *
  generalize y % 4294967296 = d at *
  subst hx; subst hy
  rw [Int.add_mul, Int.mul_add, Int.mul_add]
  have e1 : a * 4294967296 * (c * 4294967296) = a * c * 18446744073709551616 := by rw [Int.mul_assoc, Int.mul_left_comm 4294967296 c, ← Int.mul_assoc]; rfl
  have e2 : a * 4294967296 * d = a * d * 4294967296 := by rw [Int.mul_assoc, Int.mul_comm 4294967296 d, ← Int.mul_assoc]
  have e3 : b * (c * 4294967296) = b * c * 4294967296 := by rw [← Int.mul_assoc]
  rw [e1, e2, e3]
  omega

variable [Glo]
theorem mulA_ok (x y : Int) (x0 : 0 ≤ x) (x1 : x < 18446744073709551616) (y0 : 0 ≤ y) (y1 : y < 18446744073709551616) : CallsD Try.prog 51 [u64 x, u64 y] (wd (x * y)) := by
  refine mulA_calls x y _ ⟨trivial, ?_⟩
  have hm := mul_parts x y
  have p1 := prod32 (a := x / 4294967296) (b := y / 4294967296) (by omega) (by omega) (by omega) (by omega)
  have p2 := prod32 (a := x / 4294967296) (b := y % 4294967296) (by omega) (by omega) (by omega) (by omega)
  have p3 := prod32 (a := x % 4294967296) (b := y / 4294967296) (by omega) (by omega) (by omega) (by omega)
  have p4 := prod32 (a := x % 4294967296) (b := y % 4294967296) (by omega) (by omega) (by omega) (by omega)
  have lo : opI .mul .u64 x y = x * y % 18446744073709551616 := wrap_u64 _
  rw [lo, shr32, shr32, and32 y0 y1, and32 x0 x1]
  generalize x * y = z at *
  rw [mul_of p1.1 (by omega), mul_of p2.1 (by omega), mul_of p3.1 (by omega), mul_of p4.1 (by omega)]
  generalize (x / 4294967296) * (y / 4294967296) = p at *
  generalize (x / 4294967296) * (y % 4294967296) = q at *
  generalize (x % 4294967296) * (y / 4294967296) = r at *
  generalize (x % 4294967296) * (y % 4294967296) = s at *
  rw [shr32 s, add_of (p := q) (q := s / 4294967296) (by omega) (by omega), and32 (x := q + s / 4294967296) (by omega) (by omega)]
  rw [add_of (p := (q + s / 4294967296) % 4294967296) (q := r) (by omega) (by omega), shr32, shr32]
  rw [add_of (p := p) (q := (q + s / 4294967296) / 4294967296) (by omega) (by omega), add_of (by omega) (by omega)]
  simp only [wd, D.tup.injEq, D.agg.injEq, List.cons.injEq, D.v.injEq, Value.int.injEq, and_true, true_and]
  omega
theorem mulB_ok (x y : Int) (x0 : 0 ≤ x) (x1 : x < 18446744073709551616) (y0 : 0 ≤ y) (y1 : y < 18446744073709551616) : CallsD Try.prog 70 [u64 x, u64 y] (wd (x * y)) := by
  refine mulB_calls x y _ ⟨trivial, ?_⟩
  have hm := mul_parts x y
  have p1 := prod32 (a := x / 4294967296) (b := y / 4294967296) (by omega) (by omega) (by omega) (by omega)
  have p2 := prod32 (a := x / 4294967296) (b := y % 4294967296) (by omega) (by omega) (by omega) (by omega)
  have p3 := prod32 (a := x % 4294967296) (b := y / 4294967296) (by omega) (by omega) (by omega) (by omega)
  have p4 := prod32 (a := x % 4294967296) (b := y % 4294967296) (by omega) (by omega) (by omega) (by omega)
  rw [quo32 x0 x1, quo32 y0 y1, rem32 x0, rem32 y0]
  generalize x * y = z at *
  rw [mul_of p1.1 (by omega), mul_of p2.1 (by omega), mul_of p3.1 (by omega), mul_of p4.1 (by omega)]
  generalize (x / 4294967296) * (y / 4294967296) = p at *
  generalize (x / 4294967296) * (y % 4294967296) = q at *
  generalize (x % 4294967296) * (y / 4294967296) = r at *
  generalize (x % 4294967296) * (y % 4294967296) = s at *
  rw [quo32 p2.1 (by omega), quo32 p3.1 (by omega), quo32 p4.1 (by omega), rem32 p2.1, rem32 p3.1, rem32 p4.1]
  rw [add_of (p := s / 4294967296) (q := q % 4294967296) (by omega) (by omega), add_of (p := s / 4294967296 + q % 4294967296) (q := r % 4294967296) (by omega) (by omega)]
  generalize hu : s / 4294967296 + q % 4294967296 + r % 4294967296 = u at *
  rw [quo32 (x := u) (by omega) (by omega), rem32 (x := u) (by omega), mul_of (p := u % 4294967296) (q := 4294967296) (by omega) (by omega)]
  rw [add_of (p := u % 4294967296 * 4294967296) (q := s % 4294967296) (by omega) (by omega)]
  rw [add_of (p := p) (q := q / 4294967296) (by omega) (by omega), add_of (p := p + q / 4294967296) (q := r / 4294967296) (by omega) (by omega), add_of (p := p + q / 4294967296 + r / 4294967296) (q := u / 4294967296) (by omega) (by omega)]
  simp only [wd, D.tup.injEq, D.agg.injEq, List.cons.injEq, D.v.injEq, Value.int.injEq, and_true, true_and]
  omega
end MeterS
