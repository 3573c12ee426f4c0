/- What the functions compute, and the law. No condition. -/
import Derived.Test.YtakcfkmfiamliaaDamXM
import Derived.Test.YtakcfkmfiamliaaProg
import Derived.KernelRfl
set_option linter.unusedSectionVars false
set_option linter.unusedVariables false
set_option linter.unusedSimpArgs false
section
namespace MeterS
open Go Go.Dam Go.Proofs
set_option maxRecDepth 1000000
variable [Glo]
/-! math/bits.Add64 -/
theorem add64 (x y c : Int) (hx : 0 ≤ x) (hy : 0 ≤ y) (h0 : 0 ≤ c) (h1 : c ≤ 1) : pureRun Try.prog (callFunc 120 #[.int .u64 x, .int .u64 y, .int .u64 c]) =
  some (.value (.tuple #[.int .u64 ((x + y + c) % 18446744073709551616), .int .u64 ((x + y + c) / 18446744073709551616)])) := by
 obtain ⟨m, rfl⟩ := Int.eq_ofNat_of_zero_le hx
 obtain ⟨n, rfl⟩ := Int.eq_ofNat_of_zero_le hy
 have e0 : pureRun Try.prog (callFunc 120 #[.int .u64 (Int.ofNat m), .int .u64 (Int.ofNat n), .int .u64 0]) = some (.value (.tuple #[.int .u64 (Int.ofNat ((m + n + 0) % 18446744073709551616)), .int .u64 (Int.ofNat ((m + n + 0) / 18446744073709551616))])) := by kernel_rfl
 have e1 : pureRun Try.prog (callFunc 120 #[.int .u64 (Int.ofNat m), .int .u64 (Int.ofNat n), .int .u64 1]) = some (.value (.tuple #[.int .u64 (Int.ofNat ((m + n + 1) % 18446744073709551616)), .int .u64 (Int.ofNat ((m + n + 1) / 18446744073709551616))])) := by kernel_rfl
 obtain rfl | rfl : c = 0 ∨ c = 1 := by omega
 ·exact e0
 ·exact e1
def add64C : List Value → Option (Value × List Prop)
 | [.int .u64 x, .int .u64 y, .int .u64 c] => some (.tuple #[.int .u64 ((x + y + c) % 18446744073709551616), .int .u64 ((x + y + c) / 18446744073709551616)], [0 ≤ x, 0 ≤ y, 0 ≤ c, c ≤ 1])
 | _ => none
def X0 : Contracts := addCon 120 (.ext add64C) noCon
theorem hX0 : ConOK Try.prog X0 := addExt_ok (fun vs u l h hl => by
 unfold add64C at h
 split at h
 next x y c =>
  simp only [Option.some.injEq, Prod.mk.injEq] at h
  obtain ⟨rfl, rfl⟩ := h
  obtain ⟨h1, h2, h3, h4, _⟩ := hl
  exact add64 x y c h1 h2 h3 h4
 ·cases h) noCon_ok
end MeterS
end

section
namespace MeterS
open Go Go.Dam Go.Proofs
set_option maxRecDepth 1000000
variable [Glo]
theorem mulA_p0 (x : Int) (y : Int) : fnX Try.prog (X0) 100000 [] 110 [D.v (Value.int .u64 x), D.v (Value.int .u64 y)] = some (D.agg
 [D.v
   (Value.int .u64
    (opI .add .u64
     (opI .add .u64
      (opI .mul .u64 (opI .shr .u64 x 32) (opI .shr .u64 y 32))
      (opI .shr .u64
       (opI .add .u64
        (opI .mul .u64 (opI .shr .u64 x 32) (opI .and .u64 y 4294967295))
        (opI .shr .u64
         (opI .mul .u64 (opI .and .u64 x 4294967295)
          (opI .and .u64 y 4294967295))
         32))
       32))
     (opI .shr .u64
      (opI .add .u64
       (opI .and .u64
        (opI .add .u64
         (opI .mul .u64 (opI .shr .u64 x 32) (opI .and .u64 y 4294967295))
         (opI .shr .u64
          (opI .mul .u64 (opI .and .u64 x 4294967295)
           (opI .and .u64 y 4294967295))
          32))
        4294967295)
       (opI .mul .u64 (opI .and .u64 x 4294967295) (opI .shr .u64 y 32)))
      32))),
  D.v (Value.int .u64 (opI .mul .u64 x y))], [true = true,
 true = true,
 true = true,
 true = true,
 true = true]) := by kernel_rfl
theorem mulA_calls (x : Int) (y : Int) (res : D)
 (h0 : (True) ∧ res = D.agg
 [D.v
   (Value.int .u64
    (opI .add .u64
     (opI .add .u64
      (opI .mul .u64 (opI .shr .u64 x 32) (opI .shr .u64 y 32))
      (opI .shr .u64
       (opI .add .u64
        (opI .mul .u64 (opI .shr .u64 x 32) (opI .and .u64 y 4294967295))
        (opI .shr .u64
         (opI .mul .u64 (opI .and .u64 x 4294967295)
          (opI .and .u64 y 4294967295))
         32))
       32))
     (opI .shr .u64
      (opI .add .u64
       (opI .and .u64
        (opI .add .u64
         (opI .mul .u64 (opI .shr .u64 x 32) (opI .and .u64 y 4294967295))
         (opI .shr .u64
          (opI .mul .u64 (opI .and .u64 x 4294967295)
           (opI .and .u64 y 4294967295))
          32))
        4294967295)
       (opI .mul .u64 (opI .and .u64 x 4294967295) (opI .shr .u64 y 32)))
      32))),
  D.v (Value.int .u64 (opI .mul .u64 x y))]) :
 CallsD Try.prog 110 [D.v (Value.int .u64 x), D.v (Value.int .u64 y)] res := by
 exact of_path (hX0) (mulA_p0 x y) ⟨rfl, rfl, rfl, rfl, rfl, trivial⟩ (h0).2
theorem mulB_p0 (x : Int) (y : Int) : fnX Try.prog (X0) 100000 [] 115 [D.v (Value.int .u64 x), D.v (Value.int .u64 y)] = some (D.agg
 [D.v
   (Value.int .u64
    (opI .add .u64
     (opI .add .u64
      (opI .add .u64
       (opI .mul .u64 (opI .quo .u64 x 4294967296)
        (opI .quo .u64 y 4294967296))
       (opI .quo .u64
        (opI .mul .u64 (opI .quo .u64 x 4294967296)
         (opI .rem .u64 y 4294967296))
        4294967296))
      (opI .quo .u64
       (opI .mul .u64 (opI .rem .u64 x 4294967296)
        (opI .quo .u64 y 4294967296))
       4294967296))
     (opI .quo .u64
      (opI .add .u64
       (opI .add .u64
        (opI .quo .u64
         (opI .mul .u64 (opI .rem .u64 x 4294967296)
          (opI .rem .u64 y 4294967296))
         4294967296)
        (opI .rem .u64
         (opI .mul .u64 (opI .quo .u64 x 4294967296)
          (opI .rem .u64 y 4294967296))
         4294967296))
       (opI .rem .u64
        (opI .mul .u64 (opI .rem .u64 x 4294967296)
         (opI .quo .u64 y 4294967296))
        4294967296))
      4294967296))),
  D.v
   (Value.int .u64
    (opI .add .u64
     (opI .mul .u64
      (opI .rem .u64
       (opI .add .u64
        (opI .add .u64
         (opI .quo .u64
          (opI .mul .u64 (opI .rem .u64 x 4294967296)
           (opI .rem .u64 y 4294967296))
          4294967296)
         (opI .rem .u64
          (opI .mul .u64 (opI .quo .u64 x 4294967296)
           (opI .rem .u64 y 4294967296))
          4294967296))
        (opI .rem .u64
         (opI .mul .u64 (opI .rem .u64 x 4294967296)
          (opI .quo .u64 y 4294967296))
         4294967296))
       4294967296)
      4294967296)
     (opI .rem .u64
      (opI .mul .u64 (opI .rem .u64 x 4294967296)
       (opI .rem .u64 y 4294967296))
      4294967296)))], [false = false,
 false = false,
 false = false,
 false = false,
 false = false,
 false = false,
 false = false,
 false = false,
 false = false,
 false = false,
 false = false,
 false = false]) := by kernel_rfl
theorem mulB_calls (x : Int) (y : Int) (res : D)
 (h0 : (True) ∧ res = D.agg
 [D.v
   (Value.int .u64
    (opI .add .u64
     (opI .add .u64
      (opI .add .u64
       (opI .mul .u64 (opI .quo .u64 x 4294967296)
        (opI .quo .u64 y 4294967296))
       (opI .quo .u64
        (opI .mul .u64 (opI .quo .u64 x 4294967296)
         (opI .rem .u64 y 4294967296))
        4294967296))
      (opI .quo .u64
       (opI .mul .u64 (opI .rem .u64 x 4294967296)
        (opI .quo .u64 y 4294967296))
       4294967296))
     (opI .quo .u64
      (opI .add .u64
       (opI .add .u64
        (opI .quo .u64
         (opI .mul .u64 (opI .rem .u64 x 4294967296)
          (opI .rem .u64 y 4294967296))
         4294967296)
        (opI .rem .u64
         (opI .mul .u64 (opI .quo .u64 x 4294967296)
          (opI .rem .u64 y 4294967296))
         4294967296))
       (opI .rem .u64
        (opI .mul .u64 (opI .rem .u64 x 4294967296)
         (opI .quo .u64 y 4294967296))
        4294967296))
      4294967296))),
  D.v
   (Value.int .u64
    (opI .add .u64
     (opI .mul .u64
      (opI .rem .u64
       (opI .add .u64
        (opI .add .u64
         (opI .quo .u64
          (opI .mul .u64 (opI .rem .u64 x 4294967296)
           (opI .rem .u64 y 4294967296))
          4294967296)
         (opI .rem .u64
          (opI .mul .u64 (opI .quo .u64 x 4294967296)
           (opI .rem .u64 y 4294967296))
          4294967296))
        (opI .rem .u64
         (opI .mul .u64 (opI .rem .u64 x 4294967296)
          (opI .quo .u64 y 4294967296))
         4294967296))
       4294967296)
      4294967296)
     (opI .rem .u64
      (opI .mul .u64 (opI .rem .u64 x 4294967296)
       (opI .rem .u64 y 4294967296))
      4294967296)))]) :
 CallsD Try.prog 115 [D.v (Value.int .u64 x), D.v (Value.int .u64 y)] res := by
 exact of_path (hX0) (mulB_p0 x y) ⟨rfl, rfl, rfl, rfl, rfl, rfl, rfl, rfl, rfl, rfl, rfl, rfl, trivial⟩ (h0).2
theorem addA_p0 (h : Int) (l : Int) (d : Int) (e : Int) : fnX Try.prog (X0) 100000 [.d true] 109 [D.agg [D.v (Value.int .u64 h), D.v (Value.int .u64 l)],
 D.agg [D.v (Value.int .u64 d), D.v (Value.int .u64 e)]] = some (D.tup [D.agg [D.v (Value.int .u64 0), D.v (Value.int .u64 0)], D.v (Value.int .i64 16)], [cmpI .neq ((h + d + (l + e + 0) / 18446744073709551616) / 18446744073709551616) 0 = true,
 0 ≤ h,
 0 ≤ d,
 0 ≤ (l + e + 0) / 18446744073709551616,
 (l + e + 0) / 18446744073709551616 ≤ 1,
 0 ≤ l,
 0 ≤ e,
 (0 : Int) ≤ (0 : Int),
 (0 : Int) ≤ (1 : Int)]) := by kernel_rfl
theorem addA_p1 (h : Int) (l : Int) (d : Int) (e : Int) : fnX Try.prog (X0) 100000 [.d false] 109 [D.agg [D.v (Value.int .u64 h), D.v (Value.int .u64 l)],
 D.agg [D.v (Value.int .u64 d), D.v (Value.int .u64 e)]] = some (D.tup
 [D.agg
   [D.v (Value.int .u64 ((h + d + (l + e + 0) / 18446744073709551616) % 18446744073709551616)),
    D.v (Value.int .u64 ((l + e + 0) % 18446744073709551616))],
  D.v (Value.int .i64 0)], [cmpI .neq ((h + d + (l + e + 0) / 18446744073709551616) / 18446744073709551616) 0 = false,
 0 ≤ h,
 0 ≤ d,
 0 ≤ (l + e + 0) / 18446744073709551616,
 (l + e + 0) / 18446744073709551616 ≤ 1,
 0 ≤ l,
 0 ≤ e,
 (0 : Int) ≤ (0 : Int),
 (0 : Int) ≤ (1 : Int)]) := by kernel_rfl
theorem addA_calls (h : Int) (l : Int) (d : Int) (e : Int) (res : D)
 (h0 : ((cmpI .neq ((h + d + (l + e + 0) / 18446744073709551616) / 18446744073709551616) 0) = true) → ((0 ≤ h) ∧ (0 ≤ d) ∧ (0 ≤ (l + e + 0) / 18446744073709551616) ∧ ((l + e + 0) / 18446744073709551616 ≤ 1) ∧ (0 ≤ l) ∧ (0 ≤ e) ∧ ((0 : Int) ≤ (0 : Int)) ∧ ((0 : Int) ≤ (1 : Int)) ∧ True) ∧ res = D.tup [D.agg [D.v (Value.int .u64 0), D.v (Value.int .u64 0)], D.v (Value.int .i64 16)])
 (h1 : ((cmpI .neq ((h + d + (l + e + 0) / 18446744073709551616) / 18446744073709551616) 0) = false) → ((0 ≤ h) ∧ (0 ≤ d) ∧ (0 ≤ (l + e + 0) / 18446744073709551616) ∧ ((l + e + 0) / 18446744073709551616 ≤ 1) ∧ (0 ≤ l) ∧ (0 ≤ e) ∧ ((0 : Int) ≤ (0 : Int)) ∧ ((0 : Int) ≤ (1 : Int)) ∧ True) ∧ res = D.tup
 [D.agg
   [D.v (Value.int .u64 ((h + d + (l + e + 0) / 18446744073709551616) % 18446744073709551616)),
    D.v (Value.int .u64 ((l + e + 0) % 18446744073709551616))],
  D.v (Value.int .i64 0)]) :
 CallsD Try.prog 109 [D.agg [D.v (Value.int .u64 h), D.v (Value.int .u64 l)],
 D.agg [D.v (Value.int .u64 d), D.v (Value.int .u64 e)]] res := by
 cases e0 : (cmpI .neq ((h + d + (l + e + 0) / 18446744073709551616) / 18446744073709551616) 0) with
 | true =>
  exact of_path (hX0) (addA_p0 h l d e) ⟨e0, (h0 e0).1.1, (h0 e0).1.2.1, (h0 e0).1.2.2.1, (h0 e0).1.2.2.2.1, (h0 e0).1.2.2.2.2.1, (h0 e0).1.2.2.2.2.2.1, (h0 e0).1.2.2.2.2.2.2.1, (h0 e0).1.2.2.2.2.2.2.2.1, trivial⟩ (h0 e0).2
 | false =>
  exact of_path (hX0) (addA_p1 h l d e) ⟨e0, (h1 e0).1.1, (h1 e0).1.2.1, (h1 e0).1.2.2.1, (h1 e0).1.2.2.2.1, (h1 e0).1.2.2.2.2.1, (h1 e0).1.2.2.2.2.2.1, (h1 e0).1.2.2.2.2.2.2.1, (h1 e0).1.2.2.2.2.2.2.2.1, trivial⟩ (h1 e0).2
theorem addB_p0 (h : Int) (l : Int) (d : Int) (e : Int) : fnX Try.prog (X0) 100000 [.d true, .d true, .c 3] 114 [D.agg [D.v (Value.int .u64 h), D.v (Value.int .u64 l)],
 D.agg [D.v (Value.int .u64 d), D.v (Value.int .u64 e)]] = some (D.tup [D.agg [D.v (Value.int .u64 0), D.v (Value.int .u64 0)], D.v (Value.int .i64 16)], [cmpI .gtr d (opI .sub .u64 18446744073709551615 h) = true,
 cmpI .gtr e (opI .sub .u64 18446744073709551615 l) = true]) := by kernel_rfl
theorem addB_p1 (h : Int) (l : Int) (d : Int) (e : Int) : fnX Try.prog (X0) 100000 [.d true, .d false, .c 8, .d true] 114 [D.agg [D.v (Value.int .u64 h), D.v (Value.int .u64 l)],
 D.agg [D.v (Value.int .u64 d), D.v (Value.int .u64 e)]] = some (D.tup [D.agg [D.v (Value.int .u64 0), D.v (Value.int .u64 0)], D.v (Value.int .i64 16)], [cmpI .eql (opI .add .u64 h d) 18446744073709551615 = true,
 cmpI .gtr d (opI .sub .u64 18446744073709551615 h) = false,
 cmpI .gtr e (opI .sub .u64 18446744073709551615 l) = true]) := by kernel_rfl
theorem addB_p2 (h : Int) (l : Int) (d : Int) (e : Int) : fnX Try.prog (X0) 100000 [.d true, .d false, .c 8, .d false] 114 [D.agg [D.v (Value.int .u64 h), D.v (Value.int .u64 l)],
 D.agg [D.v (Value.int .u64 d), D.v (Value.int .u64 e)]] = some (D.tup
 [D.agg
   [D.v (Value.int .u64 (opI .add .u64 (opI .add .u64 h d) 1)),
    D.v (Value.int .u64 (opI .add .u64 l e))],
  D.v (Value.int .i64 0)], [cmpI .eql (opI .add .u64 h d) 18446744073709551615 = false,
 cmpI .gtr d (opI .sub .u64 18446744073709551615 h) = false,
 cmpI .gtr e (opI .sub .u64 18446744073709551615 l) = true]) := by kernel_rfl
theorem addB_p3 (h : Int) (l : Int) (d : Int) (e : Int) : fnX Try.prog (X0) 100000 [.d false, .d true, .c 3] 114 [D.agg [D.v (Value.int .u64 h), D.v (Value.int .u64 l)],
 D.agg [D.v (Value.int .u64 d), D.v (Value.int .u64 e)]] = some (D.tup [D.agg [D.v (Value.int .u64 0), D.v (Value.int .u64 0)], D.v (Value.int .i64 16)], [cmpI .gtr d (opI .sub .u64 18446744073709551615 h) = true,
 cmpI .gtr e (opI .sub .u64 18446744073709551615 l) = false]) := by kernel_rfl
theorem addB_p4 (h : Int) (l : Int) (d : Int) (e : Int) : fnX Try.prog (X0) 100000 [.d false, .d false, .c 9] 114 [D.agg [D.v (Value.int .u64 h), D.v (Value.int .u64 l)],
 D.agg [D.v (Value.int .u64 d), D.v (Value.int .u64 e)]] = some (D.tup
 [D.agg
   [D.v (Value.int .u64 (opI .add .u64 (opI .add .u64 h d) 0)),
    D.v (Value.int .u64 (opI .add .u64 l e))],
  D.v (Value.int .i64 0)], [cmpI .gtr d (opI .sub .u64 18446744073709551615 h) = false,
 cmpI .gtr e (opI .sub .u64 18446744073709551615 l) = false]) := by kernel_rfl
theorem addB_calls (h : Int) (l : Int) (d : Int) (e : Int) (res : D)
 (h0 : ((cmpI .gtr e (opI .sub .u64 18446744073709551615 l)) = true) → ((cmpI .gtr d (opI .sub .u64 18446744073709551615 h)) = true) → (True) ∧ res = D.tup [D.agg [D.v (Value.int .u64 0), D.v (Value.int .u64 0)], D.v (Value.int .i64 16)])
 (h1 : ((cmpI .gtr e (opI .sub .u64 18446744073709551615 l)) = true) → ((cmpI .gtr d (opI .sub .u64 18446744073709551615 h)) = false) → ((cmpI .eql (opI .add .u64 h d) 18446744073709551615) = true) → (True) ∧ res = D.tup [D.agg [D.v (Value.int .u64 0), D.v (Value.int .u64 0)], D.v (Value.int .i64 16)])
 (h2 : ((cmpI .gtr e (opI .sub .u64 18446744073709551615 l)) = true) → ((cmpI .gtr d (opI .sub .u64 18446744073709551615 h)) = false) → ((cmpI .eql (opI .add .u64 h d) 18446744073709551615) = false) → (True) ∧ res = D.tup
 [D.agg
   [D.v (Value.int .u64 (opI .add .u64 (opI .add .u64 h d) 1)),
    D.v (Value.int .u64 (opI .add .u64 l e))],
  D.v (Value.int .i64 0)])
 (h3 : ((cmpI .gtr e (opI .sub .u64 18446744073709551615 l)) = false) → ((cmpI .gtr d (opI .sub .u64 18446744073709551615 h)) = true) → (True) ∧ res = D.tup [D.agg [D.v (Value.int .u64 0), D.v (Value.int .u64 0)], D.v (Value.int .i64 16)])
 (h4 : ((cmpI .gtr e (opI .sub .u64 18446744073709551615 l)) = false) → ((cmpI .gtr d (opI .sub .u64 18446744073709551615 h)) = false) → (True) ∧ res = D.tup
 [D.agg
   [D.v (Value.int .u64 (opI .add .u64 (opI .add .u64 h d) 0)),
    D.v (Value.int .u64 (opI .add .u64 l e))],
  D.v (Value.int .i64 0)]) :
 CallsD Try.prog 114 [D.agg [D.v (Value.int .u64 h), D.v (Value.int .u64 l)],
 D.agg [D.v (Value.int .u64 d), D.v (Value.int .u64 e)]] res := by
 cases e0 : (cmpI .gtr e (opI .sub .u64 18446744073709551615 l)) with
 | true =>
  cases e1 : (cmpI .gtr d (opI .sub .u64 18446744073709551615 h)) with
  | true =>
   exact of_path (hX0) (addB_p0 h l d e) ⟨e1, e0, trivial⟩ (h0 e0 e1).2
  | false =>
   cases e2 : (cmpI .eql (opI .add .u64 h d) 18446744073709551615) with
   | true =>
    exact of_path (hX0) (addB_p1 h l d e) ⟨e2, e1, e0, trivial⟩ (h1 e0 e1 e2).2
   | false =>
    exact of_path (hX0) (addB_p2 h l d e) ⟨e2, e1, e0, trivial⟩ (h2 e0 e1 e2).2
 | false =>
  cases e1 : (cmpI .gtr d (opI .sub .u64 18446744073709551615 h)) with
  | true =>
   exact of_path (hX0) (addB_p3 h l d e) ⟨e1, e0, trivial⟩ (h3 e0 e1).2
  | false =>
   exact of_path (hX0) (addB_p4 h l d e) ⟨e1, e0, trivial⟩ (h4 e0 e1).2
theorem cmpB_p0 (h : Int) (l : Int) (d : Int) (e : Int) : fnX Try.prog (X0) 100000 [.d true, .c 6] 117 [D.agg [D.v (Value.int .u64 h), D.v (Value.int .u64 l)],
 D.agg [D.v (Value.int .u64 d), D.v (Value.int .u64 e)]] = some (D.v (Value.int .i64 (-1)), [cmpI .lss h d = true]) := by kernel_rfl
theorem cmpB_p1 (h : Int) (l : Int) (d : Int) (e : Int) : fnX Try.prog (X0) 100000 [.d false, .c 4, .d true, .c 4, .d true] 117 [D.agg [D.v (Value.int .u64 h), D.v (Value.int .u64 l)],
 D.agg [D.v (Value.int .u64 d), D.v (Value.int .u64 e)]] = some (D.v (Value.int .i64 (-1)), [cmpI .lss l e = true,
 cmpI .eql h d = true,
 cmpI .lss h d = false]) := by kernel_rfl
theorem cmpB_p2 (h : Int) (l : Int) (d : Int) (e : Int) : fnX Try.prog (X0) 100000 [.d false, .c 4, .d true, .c 4, .d false, .d true] 117 [D.agg [D.v (Value.int .u64 h), D.v (Value.int .u64 l)],
 D.agg [D.v (Value.int .u64 d), D.v (Value.int .u64 e)]] = some (D.v (Value.int .i64 0), [(h == d && (l == e && true)) = true,
 cmpI .lss l e = false,
 cmpI .eql h d = true,
 cmpI .lss h d = false]) := by kernel_rfl
theorem cmpB_p3 (h : Int) (l : Int) (d : Int) (e : Int) : fnX Try.prog (X0) 100000 [.d false, .c 4, .d true, .c 4, .d false, .d false] 117 [D.agg [D.v (Value.int .u64 h), D.v (Value.int .u64 l)],
 D.agg [D.v (Value.int .u64 d), D.v (Value.int .u64 e)]] = some (D.v (Value.int .i64 1), [(h == d && (l == e && true)) = false,
 cmpI .lss l e = false,
 cmpI .eql h d = true,
 cmpI .lss h d = false]) := by kernel_rfl
theorem cmpB_p4 (h : Int) (l : Int) (d : Int) (e : Int) : fnX Try.prog (X0) 100000 [.d false, .c 4, .d false, .c 5, .d true] 117 [D.agg [D.v (Value.int .u64 h), D.v (Value.int .u64 l)],
 D.agg [D.v (Value.int .u64 d), D.v (Value.int .u64 e)]] = some (D.v (Value.int .i64 0), [(h == d && (l == e && true)) = true,
 cmpI .eql h d = false,
 cmpI .lss h d = false]) := by kernel_rfl
theorem cmpB_p5 (h : Int) (l : Int) (d : Int) (e : Int) : fnX Try.prog (X0) 100000 [.d false, .c 4, .d false, .c 5, .d false] 117 [D.agg [D.v (Value.int .u64 h), D.v (Value.int .u64 l)],
 D.agg [D.v (Value.int .u64 d), D.v (Value.int .u64 e)]] = some (D.v (Value.int .i64 1), [(h == d && (l == e && true)) = false,
 cmpI .eql h d = false,
 cmpI .lss h d = false]) := by kernel_rfl
theorem cmpB_calls (h : Int) (l : Int) (d : Int) (e : Int) (res : D)
 (h0 : ((cmpI .lss h d) = true) → (True) ∧ res = D.v (Value.int .i64 (-1)))
 (h1 : ((cmpI .lss h d) = false) → ((cmpI .eql h d) = true) → ((cmpI .lss l e) = true) → (True) ∧ res = D.v (Value.int .i64 (-1)))
 (h2 : ((cmpI .lss h d) = false) → ((cmpI .eql h d) = true) → ((cmpI .lss l e) = false) → ((h == d && (l == e && true)) = true) → (True) ∧ res = D.v (Value.int .i64 0))
 (h3 : ((cmpI .lss h d) = false) → ((cmpI .eql h d) = true) → ((cmpI .lss l e) = false) → ((h == d && (l == e && true)) = false) → (True) ∧ res = D.v (Value.int .i64 1))
 (h4 : ((cmpI .lss h d) = false) → ((cmpI .eql h d) = false) → ((h == d && (l == e && true)) = true) → (True) ∧ res = D.v (Value.int .i64 0))
 (h5 : ((cmpI .lss h d) = false) → ((cmpI .eql h d) = false) → ((h == d && (l == e && true)) = false) → (True) ∧ res = D.v (Value.int .i64 1)) :
 CallsD Try.prog 117 [D.agg [D.v (Value.int .u64 h), D.v (Value.int .u64 l)],
 D.agg [D.v (Value.int .u64 d), D.v (Value.int .u64 e)]] res := by
 cases e0 : (cmpI .lss h d) with
 | true =>
  exact of_path (hX0) (cmpB_p0 h l d e) ⟨e0, trivial⟩ (h0 e0).2
 | false =>
  cases e1 : (cmpI .eql h d) with
  | true =>
   cases e2 : (cmpI .lss l e) with
   | true =>
    exact of_path (hX0) (cmpB_p1 h l d e) ⟨e2, e1, e0, trivial⟩ (h1 e0 e1 e2).2
   | false =>
    cases e3 : (h == d && (l == e && true)) with
    | true =>
     exact of_path (hX0) (cmpB_p2 h l d e) ⟨e3, e2, e1, e0, trivial⟩ (h2 e0 e1 e2 e3).2
    | false =>
     exact of_path (hX0) (cmpB_p3 h l d e) ⟨e3, e2, e1, e0, trivial⟩ (h3 e0 e1 e2 e3).2
  | false =>
   cases e2 : (h == d && (l == e && true)) with
   | true =>
    exact of_path (hX0) (cmpB_p4 h l d e) ⟨e2, e1, e0, trivial⟩ (h4 e0 e1 e2).2
   | false =>
    exact of_path (hX0) (cmpB_p5 h l d e) ⟨e2, e1, e0, trivial⟩ (h5 e0 e1 e2).2
theorem lessB_p0 (h : Int) (l : Int) (d : Int) (e : Int) : fnX Try.prog (X0) 100000 [.d true] 122 [D.agg [D.v (Value.int .u64 h), D.v (Value.int .u64 l)],
 D.agg [D.v (Value.int .u64 d), D.v (Value.int .u64 e)]] = some (D.agg
 [D.v (Value.int .u64 (opI .sub .u64 (opI .sub .u64 h d) 1)),
  D.v (Value.int .u64 (opI .sub .u64 l e))], [cmpI .gtr e l = true]) := by kernel_rfl
theorem lessB_p1 (h : Int) (l : Int) (d : Int) (e : Int) : fnX Try.prog (X0) 100000 [.d false] 122 [D.agg [D.v (Value.int .u64 h), D.v (Value.int .u64 l)],
 D.agg [D.v (Value.int .u64 d), D.v (Value.int .u64 e)]] = some (D.agg
 [D.v (Value.int .u64 (opI .sub .u64 h d)),
  D.v (Value.int .u64 (opI .sub .u64 l e))], [cmpI .gtr e l = false]) := by kernel_rfl
theorem lessB_calls (h : Int) (l : Int) (d : Int) (e : Int) (res : D)
 (h0 : ((cmpI .gtr e l) = true) → (True) ∧ res = D.agg
 [D.v (Value.int .u64 (opI .sub .u64 (opI .sub .u64 h d) 1)),
  D.v (Value.int .u64 (opI .sub .u64 l e))])
 (h1 : ((cmpI .gtr e l) = false) → (True) ∧ res = D.agg
 [D.v (Value.int .u64 (opI .sub .u64 h d)),
  D.v (Value.int .u64 (opI .sub .u64 l e))]) :
 CallsD Try.prog 122 [D.agg [D.v (Value.int .u64 h), D.v (Value.int .u64 l)],
 D.agg [D.v (Value.int .u64 d), D.v (Value.int .u64 e)]] res := by
 cases e0 : (cmpI .gtr e l) with
 | true =>
  exact of_path (hX0) (lessB_p0 h l d e) ⟨e0, trivial⟩ (h0 e0).2
 | false =>
  exact of_path (hX0) (lessB_p1 h l d e) ⟨e0, trivial⟩ (h1 e0).2
abbrev i64 (n : Int) : D := .v (.int .i64 n)
abbrev u64 (n : Int) : D := .v (.int .u64 n)
/-- The error of a limit. -/
def limE (b r p : Int) : Int := if b < 1 ∨ 1000000000 < b ∨ r < 0 ∨ 1000000000 < r ∨ p < 1 ∨ 1000000000 < p then 8 else 0
/-- A wide number. -/
def wd (s : Int) : D := .agg [u64 (s / 18446744073709551616), u64 (s % 18446744073709551616)]
def sumD (s : Int) : D := .tup [wd (if s < 340282366920938463463374607431768211456 then s else 0), i64 (if s < 340282366920938463463374607431768211456 then 0 else 16)]
theorem addA_ok (h l d e : Int) (h0 : 0 ≤ h) (h1 : h < 18446744073709551616) (l0 : 0 ≤ l) (l1 : l < 18446744073709551616) (d0 : 0 ≤ d) (d1 : d < 18446744073709551616) (e0 : 0 ≤ e) (e1 : e < 18446744073709551616) :
  CallsD Try.prog 109 [.agg [u64 h, u64 l], .agg [u64 d, u64 e]] (sumD (h * 18446744073709551616 + l + (d * 18446744073709551616 + e))) := by
 refine addA_calls h l d e _ ?_ ?_
 ·intro a
  simp only [neq_t] at a
  refine ⟨⟨by omega, by omega, by omega, by omega, by omega, by omega, by omega, by omega, trivial⟩, ?_⟩
  unfold sumD
  rw [if_neg (by omega), if_neg (by omega)]; rfl
 ·intro a
  simp only [neq_f] at a
  refine ⟨⟨by omega, by omega, by omega, by omega, by omega, by omega, by omega, by omega, trivial⟩, ?_⟩
  unfold sumD wd
  rw [if_pos (by omega), if_pos (by omega)]
  simp only [D.tup.injEq, D.agg.injEq, List.cons.injEq, D.v.injEq, Value.int.injEq, and_true, true_and]
  omega
theorem addB_ok (h l d e : Int) (h0 : 0 ≤ h) (h1 : h < 18446744073709551616) (l0 : 0 ≤ l) (l1 : l < 18446744073709551616) (d0 : 0 ≤ d) (d1 : d < 18446744073709551616) (e0 : 0 ≤ e) (e1 : e < 18446744073709551616) :
  CallsD Try.prog 114 [.agg [u64 h, u64 l], .agg [u64 d, u64 e]] (sumD (h * 18446744073709551616 + l + (d * 18446744073709551616 + e))) := by
 refine addB_calls h l d e _ ?_ ?_ ?_ ?_ ?_
 all_goals
  intros
  simp only [lss_t, lss_f, gtr_t, gtr_f, eql_t, eql_f, opI_add, opI_sub, wrap_u64] at *
  refine ⟨trivial, ?_⟩
  unfold sumD wd
  first
   | (rw [if_neg (by omega), if_neg (by omega)]; rfl)
   | (rw [if_pos (by omega), if_pos (by omega)]; simp only [D.tup.injEq, D.agg.injEq, List.cons.injEq, D.v.injEq, Value.int.injEq, and_true, true_and]; omega)
/-- Greater, the same, or less. -/
def cmpZ (x y : Int) : Int := if x < y then -1 else if x = y then 0 else 1
theorem cmpB_ok (h l d e : Int) (l0 : 0 ≤ l) (l1 : l < 18446744073709551616) (e0 : 0 ≤ e) (e1 : e < 18446744073709551616) :
  CallsD Try.prog 117 [.agg [u64 h, u64 l], .agg [u64 d, u64 e]] (i64 (cmpZ (h * 18446744073709551616 + l) (d * 18446744073709551616 + e))) := by
 refine cmpB_calls h l d e _ ?_ ?_ ?_ ?_ ?_ ?_
 all_goals
  intros
  simp only [lss_t, lss_f, gtr_t, gtr_f, eql_t, eql_f, Bool.and_true, Bool.and_eq_true, Bool.and_eq_false_iff, beq_iff_eq, beq_eq_false_iff_ne, ne_eq] at *
  refine ⟨trivial, ?_⟩
  simp only [cmpZ, D.v.injEq, Value.int.injEq, true_and]
  split
  ·omega
  ·split <;> omega
theorem lessB_ok (h l d e : Int) (h1 : h < 18446744073709551616) (l0 : 0 ≤ l) (l1 : l < 18446744073709551616) (d0 : 0 ≤ d) (e0 : 0 ≤ e) (e1 : e < 18446744073709551616) (hle : d * 18446744073709551616 + e ≤ h * 18446744073709551616 + l) :
  CallsD Try.prog 122 [.agg [u64 h, u64 l], .agg [u64 d, u64 e]] (wd (h * 18446744073709551616 + l - (d * 18446744073709551616 + e))) := by
 refine lessB_calls h l d e _ ?_ ?_
 all_goals
  intros
  simp only [lss_t, lss_f, gtr_t, gtr_f, eql_t, eql_f, opI_sub, wrap_u64] at *
  refine ⟨trivial, ?_⟩
  simp only [wd, D.tup.injEq, D.agg.injEq, List.cons.injEq, D.v.injEq, Value.int.injEq, and_true, true_and]
  omega
end MeterS
end

section
namespace MeterS
open Go Go.Dam Go.Proofs
set_option maxRecDepth 1000000
theorem shr32 (x : Int) : opI .shr .u64 x 32 = x / 4294967296 := by
 rw [opI_shr64 (by decide) (by decide)]; rfl
theorem and32 {x : Int} (h0 : 0 ≤ x) (h1 : x < 18446744073709551616) : opI .and .u64 x 4294967295 = x % 4294967296 := opI_and_mask64 32 (by decide) h0 h1
theorem mul_of {p q : Int} (h0 : 0 ≤ p * q) (h1 : p * q < 18446744073709551616) : opI .mul .u64 p q = p * q := by rw [opI_mul, wrap_u64]; omega
theorem add_of {p q : Int} (h0 : 0 ≤ p + q) (h1 : p + q < 18446744073709551616) : opI .add .u64 p q = p + q := by rw [opI_add, wrap_u64]; omega
theorem quo32 {x : Int} (h0 : 0 ≤ x) (h1 : x < 18446744073709551616) : opI .quo .u64 x 4294967296 = x / 4294967296 := by rw [opI_quo _ h0, wrap_u64]; omega
theorem rem32 {x : Int} (h0 : 0 ≤ x) : opI .rem .u64 x 4294967296 = x % 4294967296 := opI_rem _ h0
theorem prod32 {a b : Int} (a0 : 0 ≤ a) (a1 : a < 4294967296) (b0 : 0 ≤ b) (b1 : b < 4294967296) : 0 ≤ a * b ∧ a * b ≤ 18446744065119617025 :=
 ⟨Int.mul_nonneg a0 b0, by
  have := Int.mul_le_mul (show a ≤ 4294967295 by omega) (show b ≤ 4294967295 by omega) b0 (by decide)
  omega⟩
theorem mul_parts (x y : Int) : x * y = (x / 4294967296) * (y / 4294967296) * 18446744073709551616 + ((x / 4294967296) * (y % 4294967296) + (x % 4294967296) * (y / 4294967296)) * 4294967296 + (x % 4294967296) * (y % 4294967296) := by
 have hx : x = x / 4294967296 * 4294967296 + x % 4294967296 := by omega
 have hy : y = y / 4294967296 * 4294967296 + y % 4294967296 := by omega
 generalize x / 4294967296 = a at *
 generalize x % 4294967296 = b at *
 generalize y / 4294967296 = c at *
 generalize y % 4294967296 = d at *
 subst hx; subst hy
 rw [Int.add_mul, Int.mul_add, Int.mul_add]
 have e1 : a * 4294967296 * (c * 4294967296) = a * c * 18446744073709551616 := by rw [Int.mul_assoc, Int.mul_left_comm 4294967296 c, ← Int.mul_assoc]; rfl
 have e2 : a * 4294967296 * d = a * d * 4294967296 := by rw [Int.mul_assoc, Int.mul_comm 4294967296 d, ← Int.mul_assoc]
 have e3 : b * (c * 4294967296) = b * c * 4294967296 := by rw [← Int.mul_assoc]
 rw [e1, e2, e3]
 omega
variable [Glo]
theorem mulA_ok (x y : Int) (x0 : 0 ≤ x) (x1 : x < 18446744073709551616) (y0 : 0 ≤ y) (y1 : y < 18446744073709551616) : CallsD Try.prog 110 [u64 x, u64 y] (wd (x * y)) := by
 refine mulA_calls x y _ ⟨trivial, ?_⟩
 have hm := mul_parts x y
 have p1 := prod32 (a := x / 4294967296) (b := y / 4294967296) (by omega) (by omega) (by omega) (by omega)
 have p2 := prod32 (a := x / 4294967296) (b := y % 4294967296) (by omega) (by omega) (by omega) (by omega)
 have p3 := prod32 (a := x % 4294967296) (b := y / 4294967296) (by omega) (by omega) (by omega) (by omega)
 have p4 := prod32 (a := x % 4294967296) (b := y % 4294967296) (by omega) (by omega) (by omega) (by omega)
 have lo : opI .mul .u64 x y = x * y % 18446744073709551616 := wrap_u64 _
 rw [lo, shr32, shr32, and32 y0 y1, and32 x0 x1]
 generalize x * y = z at *
 rw [mul_of p1.1 (by omega), mul_of p2.1 (by omega), mul_of p3.1 (by omega), mul_of p4.1 (by omega)]
 generalize (x / 4294967296) * (y / 4294967296) = p at *
 generalize (x / 4294967296) * (y % 4294967296) = q at *
 generalize (x % 4294967296) * (y / 4294967296) = r at *
 generalize (x % 4294967296) * (y % 4294967296) = s at *
 rw [shr32 s, add_of (p := q) (q := s / 4294967296) (by omega) (by omega), and32 (x := q + s / 4294967296) (by omega) (by omega)]
 rw [add_of (p := (q + s / 4294967296) % 4294967296) (q := r) (by omega) (by omega), shr32, shr32]
 rw [add_of (p := p) (q := (q + s / 4294967296) / 4294967296) (by omega) (by omega), add_of (by omega) (by omega)]
 simp only [wd, D.tup.injEq, D.agg.injEq, List.cons.injEq, D.v.injEq, Value.int.injEq, and_true, true_and]
 omega
theorem mulB_ok (x y : Int) (x0 : 0 ≤ x) (x1 : x < 18446744073709551616) (y0 : 0 ≤ y) (y1 : y < 18446744073709551616) : CallsD Try.prog 115 [u64 x, u64 y] (wd (x * y)) := by
 refine mulB_calls x y _ ⟨trivial, ?_⟩
 have hm := mul_parts x y
 have p1 := prod32 (a := x / 4294967296) (b := y / 4294967296) (by omega) (by omega) (by omega) (by omega)
 have p2 := prod32 (a := x / 4294967296) (b := y % 4294967296) (by omega) (by omega) (by omega) (by omega)
 have p3 := prod32 (a := x % 4294967296) (b := y / 4294967296) (by omega) (by omega) (by omega) (by omega)
 have p4 := prod32 (a := x % 4294967296) (b := y % 4294967296) (by omega) (by omega) (by omega) (by omega)
 rw [quo32 x0 x1, quo32 y0 y1, rem32 x0, rem32 y0]
 generalize x * y = z at *
 rw [mul_of p1.1 (by omega), mul_of p2.1 (by omega), mul_of p3.1 (by omega), mul_of p4.1 (by omega)]
 generalize (x / 4294967296) * (y / 4294967296) = p at *
 generalize (x / 4294967296) * (y % 4294967296) = q at *
 generalize (x % 4294967296) * (y / 4294967296) = r at *
 generalize (x % 4294967296) * (y % 4294967296) = s at *
 rw [quo32 p2.1 (by omega), quo32 p3.1 (by omega), quo32 p4.1 (by omega), rem32 p2.1, rem32 p3.1, rem32 p4.1]
 rw [add_of (p := s / 4294967296) (q := q % 4294967296) (by omega) (by omega), add_of (p := s / 4294967296 + q % 4294967296) (q := r % 4294967296) (by omega) (by omega)]
 generalize hu : s / 4294967296 + q % 4294967296 + r % 4294967296 = u at *
 rw [quo32 (x := u) (by omega) (by omega), rem32 (x := u) (by omega), mul_of (p := u % 4294967296) (q := 4294967296) (by omega) (by omega)]
 rw [add_of (p := u % 4294967296 * 4294967296) (q := s % 4294967296) (by omega) (by omega)]
 rw [add_of (p := p) (q := q / 4294967296) (by omega) (by omega), add_of (p := p + q / 4294967296) (q := r / 4294967296) (by omega) (by omega), add_of (p := p + q / 4294967296 + r / 4294967296) (q := u / 4294967296) (by omega) (by omega)]
 simp only [wd, D.tup.injEq, D.agg.injEq, List.cons.injEq, D.v.injEq, Value.int.injEq, and_true, true_and]
 omega
end MeterS
end

section
namespace MeterS
open Go Go.Dam Go.Proofs
set_option maxRecDepth 1000000
/-- How many digits a byte has. -/
def lenTab : List Nat := 0 :: 1 :: (List.replicate 2 2 ++ List.replicate 4 3 ++ List.replicate 8 4 ++ List.replicate 16 5 ++ List.replicate 32 6 ++ List.replicate 64 7 ++ List.replicate 128 8)
theorem lenTab_eq : lenTab = (List.range 256).map fun i => if i = 0 then 0 else Nat.log2 i + 1 := by decide +kernel
/-- How many digits a number has. -/
def lenN (n : Nat) : Nat := if n = 0 then 0 else Nat.log2 n + 1
theorem lenTab_get (i : Nat) (h : i < 256) : lenTab.getD i 0 = lenN i := by
 rw [lenTab_eq, List.getD_eq_getElem?_getD, List.getElem?_map, List.getElem?_range h]; rfl
theorem lenN_shift (n k : Nat) (h : 0 < n / 2 ^ k) : lenN n = lenN (n / 2 ^ k) + k := by
 have hn : n ≠ 0 := by rintro rfl; simp at h
 unfold lenN
 rw [if_neg hn, if_neg (by omega)]
 have h1 : n / 2 ^ k ≠ 0 := by omega
 have e : Nat.log2 n = Nat.log2 (n / 2 ^ k) + k := by
  rw [Nat.log2_eq_iff hn]
  have h2 := Nat.log2_self_le h1
  have h3 := Nat.lt_log2_self (n := n / 2 ^ k)
  have hp : 0 < 2 ^ k := Nat.two_pow_pos k
  constructor
  ·rw [Nat.pow_add]
   exact Nat.le_trans (Nat.mul_le_mul_right _ h2) (Nat.div_mul_le_self n _)
  ·rw [show Nat.log2 (n / 2 ^ k) + k + 1 = (Nat.log2 (n / 2 ^ k) + 1) + k by omega, Nat.pow_add]
   rw [← Nat.div_lt_iff_lt_mul hp]
   exact h3
 omega
theorem lenN_le (n : Nat) (k : Nat) (h : n < 2 ^ k) : lenN n ≤ k := by
 unfold lenN
 split
 ·omega
 next hn => have := (Nat.log2_lt hn).2 h; omega
theorem lenN_bounds (n : Nat) (h : 0 < n) : 2 ^ (lenN n - 1) ≤ n ∧ n < 2 ^ lenN n ∧ 0 < lenN n := by
 unfold lenN
 rw [if_neg (by omega)]
 exact ⟨Nat.log2_self_le (by omega), Nat.lt_log2_self, by omega⟩
theorem shrN (x : Int) (k : Nat) (hk : k ≤ 64) : opI .shr .u64 x k = x / 2 ^ k := by rw [opI_shr64 (by omega) (by omega)]; rfl
variable [Glo]
theorem len64_p0 (x : Int) : fnX Try.prog (X0) 100000 [.d true, .d true, .d true] 124 [D.v (Value.int .u64 x)] = some (D.v
 (Value.int .i64
  (opI .add .i64 56
   (IntKind.i64.wrap
    ↑(lenTab.getD
      (IntKind.u8.wrap
        (opI .shr .u64 (opI .shr .u64 (opI .shr .u64 x 32) 16) 8)).toNat
      0)))), [decide
  (0 ≤
   IntKind.u8.wrap (opI .shr .u64 (opI .shr .u64 (opI .shr .u64 x 32) 16) 8)) =
 true,
 decide
  (IntKind.u8.wrap (opI .shr .u64 (opI .shr .u64 (opI .shr .u64 x 32) 16) 8) <
   256) =
 true,
 true = true,
 cmpI .geq (opI .shr .u64 (opI .shr .u64 x 32) 16) 256 = true,
 true = true,
 cmpI .geq (opI .shr .u64 x 32) 65536 = true,
 true = true,
 cmpI .geq x 4294967296 = true]) := by kernel_rfl
theorem len64_p1 (x : Int) : fnX Try.prog (X0) 100000 [.d true, .d true, .d false] 124 [D.v (Value.int .u64 x)] = some (D.v
 (Value.int .i64
  (opI .add .i64 48
   (IntKind.i64.wrap
    ↑(lenTab.getD
      (IntKind.u8.wrap (opI .shr .u64 (opI .shr .u64 x 32) 16)).toNat 0)))), [decide (0 ≤ IntKind.u8.wrap (opI .shr .u64 (opI .shr .u64 x 32) 16)) = true,
 decide
  (IntKind.u8.wrap (opI .shr .u64 (opI .shr .u64 x 32) 16) <
   256) =
 true,
 cmpI .geq (opI .shr .u64 (opI .shr .u64 x 32) 16) 256 = false,
 true = true,
 cmpI .geq (opI .shr .u64 x 32) 65536 = true,
 true = true,
 cmpI .geq x 4294967296 = true]) := by kernel_rfl
theorem len64_p2 (x : Int) : fnX Try.prog (X0) 100000 [.d true, .d false, .d true] 124 [D.v (Value.int .u64 x)] = some (D.v
 (Value.int .i64
  (opI .add .i64 40
   (IntKind.i64.wrap
    ↑(lenTab.getD
      (IntKind.u8.wrap (opI .shr .u64 (opI .shr .u64 x 32) 8)).toNat 0)))), [decide (0 ≤ IntKind.u8.wrap (opI .shr .u64 (opI .shr .u64 x 32) 8)) = true,
 decide
  (IntKind.u8.wrap (opI .shr .u64 (opI .shr .u64 x 32) 8) <
   256) =
 true,
 true = true,
 cmpI .geq (opI .shr .u64 x 32) 256 = true,
 cmpI .geq (opI .shr .u64 x 32) 65536 = false,
 true = true,
 cmpI .geq x 4294967296 = true]) := by kernel_rfl
theorem len64_p3 (x : Int) : fnX Try.prog (X0) 100000 [.d true, .d false, .d false] 124 [D.v (Value.int .u64 x)] = some (D.v
 (Value.int .i64
  (opI .add .i64 32
   (IntKind.i64.wrap
    ↑(lenTab.getD
      (IntKind.u8.wrap (opI .shr .u64 x 32)).toNat 0)))), [decide (0 ≤ IntKind.u8.wrap (opI .shr .u64 x 32)) = true,
 decide
  (IntKind.u8.wrap (opI .shr .u64 x 32) <
   256) =
 true,
 cmpI .geq (opI .shr .u64 x 32) 256 = false,
 cmpI .geq (opI .shr .u64 x 32) 65536 = false,
 true = true,
 cmpI .geq x 4294967296 = true]) := by kernel_rfl
theorem len64_p4 (x : Int) : fnX Try.prog (X0) 100000 [.d false, .d true, .d true] 124 [D.v (Value.int .u64 x)] = some (D.v
 (Value.int .i64
  (opI .add .i64 24
   (IntKind.i64.wrap
    ↑(lenTab.getD
      (IntKind.u8.wrap (opI .shr .u64 (opI .shr .u64 x 16) 8)).toNat 0)))), [decide (0 ≤ IntKind.u8.wrap (opI .shr .u64 (opI .shr .u64 x 16) 8)) = true,
 decide
  (IntKind.u8.wrap (opI .shr .u64 (opI .shr .u64 x 16) 8) <
   256) =
 true,
 true = true,
 cmpI .geq (opI .shr .u64 x 16) 256 = true,
 true = true,
 cmpI .geq x 65536 = true,
 cmpI .geq x 4294967296 = false]) := by kernel_rfl
theorem len64_p5 (x : Int) : fnX Try.prog (X0) 100000 [.d false, .d true, .d false] 124 [D.v (Value.int .u64 x)] = some (D.v
 (Value.int .i64
  (opI .add .i64 16
   (IntKind.i64.wrap
    ↑(lenTab.getD
      (IntKind.u8.wrap (opI .shr .u64 x 16)).toNat 0)))), [decide (0 ≤ IntKind.u8.wrap (opI .shr .u64 x 16)) = true,
 decide
  (IntKind.u8.wrap (opI .shr .u64 x 16) <
   256) =
 true,
 cmpI .geq (opI .shr .u64 x 16) 256 = false,
 true = true,
 cmpI .geq x 65536 = true,
 cmpI .geq x 4294967296 = false]) := by kernel_rfl
theorem len64_p6 (x : Int) : fnX Try.prog (X0) 100000 [.d false, .d false, .d true] 124 [D.v (Value.int .u64 x)] = some (D.v
 (Value.int .i64
  (opI .add .i64 8
   (IntKind.i64.wrap
    ↑(lenTab.getD
      (IntKind.u8.wrap (opI .shr .u64 x 8)).toNat 0)))), [decide (0 ≤ IntKind.u8.wrap (opI .shr .u64 x 8)) = true,
 decide
  (IntKind.u8.wrap (opI .shr .u64 x 8) <
   256) =
 true,
 true = true,
 cmpI .geq x 256 = true,
 cmpI .geq x 65536 = false,
 cmpI .geq x 4294967296 = false]) := by kernel_rfl
theorem len64_p7 (x : Int) : fnX Try.prog (X0) 100000 [.d false, .d false, .d false] 124 [D.v (Value.int .u64 x)] = some (D.v
 (Value.int .i64
  (opI .add .i64 0
   (IntKind.i64.wrap
    ↑(lenTab.getD
      (IntKind.u8.wrap x).toNat 0)))), [decide (0 ≤ IntKind.u8.wrap x) = true,
 decide
  (IntKind.u8.wrap x <
   256) =
 true,
 cmpI .geq x 256 = false,
 cmpI .geq x 65536 = false,
 cmpI .geq x 4294967296 = false]) := by kernel_rfl
theorem len64_calls (x : Int) (res : D)
 (h0 : ((cmpI .geq x 4294967296) = true) → ((cmpI .geq (opI .shr .u64 x 32) 65536) = true) → ((cmpI .geq (opI .shr .u64 (opI .shr .u64 x 32) 16) 256) = true) → ((decide
  (0 ≤
   IntKind.u8.wrap (opI .shr .u64 (opI .shr .u64 (opI .shr .u64 x 32) 16) 8)) =
 true) ∧ (decide
  (IntKind.u8.wrap (opI .shr .u64 (opI .shr .u64 (opI .shr .u64 x 32) 16) 8) <
   256) =
 true) ∧ True) ∧ res = D.v
 (Value.int .i64
  (opI .add .i64 56
   (IntKind.i64.wrap
    ↑(lenTab.getD
      (IntKind.u8.wrap
        (opI .shr .u64 (opI .shr .u64 (opI .shr .u64 x 32) 16) 8)).toNat
      0)))))
 (h1 : ((cmpI .geq x 4294967296) = true) → ((cmpI .geq (opI .shr .u64 x 32) 65536) = true) → ((cmpI .geq (opI .shr .u64 (opI .shr .u64 x 32) 16) 256) = false) → ((decide (0 ≤ IntKind.u8.wrap (opI .shr .u64 (opI .shr .u64 x 32) 16)) = true) ∧ (decide
  (IntKind.u8.wrap (opI .shr .u64 (opI .shr .u64 x 32) 16) <
   256) =
 true) ∧ True) ∧ res = D.v
 (Value.int .i64
  (opI .add .i64 48
   (IntKind.i64.wrap
    ↑(lenTab.getD
      (IntKind.u8.wrap (opI .shr .u64 (opI .shr .u64 x 32) 16)).toNat 0)))))
 (h2 : ((cmpI .geq x 4294967296) = true) → ((cmpI .geq (opI .shr .u64 x 32) 65536) = false) → ((cmpI .geq (opI .shr .u64 x 32) 256) = true) → ((decide (0 ≤ IntKind.u8.wrap (opI .shr .u64 (opI .shr .u64 x 32) 8)) = true) ∧ (decide
  (IntKind.u8.wrap (opI .shr .u64 (opI .shr .u64 x 32) 8) <
   256) =
 true) ∧ True) ∧ res = D.v
 (Value.int .i64
  (opI .add .i64 40
   (IntKind.i64.wrap
    ↑(lenTab.getD
      (IntKind.u8.wrap (opI .shr .u64 (opI .shr .u64 x 32) 8)).toNat 0)))))
 (h3 : ((cmpI .geq x 4294967296) = true) → ((cmpI .geq (opI .shr .u64 x 32) 65536) = false) → ((cmpI .geq (opI .shr .u64 x 32) 256) = false) → ((decide (0 ≤ IntKind.u8.wrap (opI .shr .u64 x 32)) = true) ∧ (decide
  (IntKind.u8.wrap (opI .shr .u64 x 32) <
   256) =
 true) ∧ True) ∧ res = D.v
 (Value.int .i64
  (opI .add .i64 32
   (IntKind.i64.wrap
    ↑(lenTab.getD
      (IntKind.u8.wrap (opI .shr .u64 x 32)).toNat 0)))))
 (h4 : ((cmpI .geq x 4294967296) = false) → ((cmpI .geq x 65536) = true) → ((cmpI .geq (opI .shr .u64 x 16) 256) = true) → ((decide (0 ≤ IntKind.u8.wrap (opI .shr .u64 (opI .shr .u64 x 16) 8)) = true) ∧ (decide
  (IntKind.u8.wrap (opI .shr .u64 (opI .shr .u64 x 16) 8) <
   256) =
 true) ∧ True) ∧ res = D.v
 (Value.int .i64
  (opI .add .i64 24
   (IntKind.i64.wrap
    ↑(lenTab.getD
      (IntKind.u8.wrap (opI .shr .u64 (opI .shr .u64 x 16) 8)).toNat 0)))))
 (h5 : ((cmpI .geq x 4294967296) = false) → ((cmpI .geq x 65536) = true) → ((cmpI .geq (opI .shr .u64 x 16) 256) = false) → ((decide (0 ≤ IntKind.u8.wrap (opI .shr .u64 x 16)) = true) ∧ (decide
  (IntKind.u8.wrap (opI .shr .u64 x 16) <
   256) =
 true) ∧ True) ∧ res = D.v
 (Value.int .i64
  (opI .add .i64 16
   (IntKind.i64.wrap
    ↑(lenTab.getD
      (IntKind.u8.wrap (opI .shr .u64 x 16)).toNat 0)))))
 (h6 : ((cmpI .geq x 4294967296) = false) → ((cmpI .geq x 65536) = false) → ((cmpI .geq x 256) = true) → ((decide (0 ≤ IntKind.u8.wrap (opI .shr .u64 x 8)) = true) ∧ (decide
  (IntKind.u8.wrap (opI .shr .u64 x 8) <
   256) =
 true) ∧ True) ∧ res = D.v
 (Value.int .i64
  (opI .add .i64 8
   (IntKind.i64.wrap
    ↑(lenTab.getD
      (IntKind.u8.wrap (opI .shr .u64 x 8)).toNat 0)))))
 (h7 : ((cmpI .geq x 4294967296) = false) → ((cmpI .geq x 65536) = false) → ((cmpI .geq x 256) = false) → ((decide (0 ≤ IntKind.u8.wrap x) = true) ∧ (decide
  (IntKind.u8.wrap x <
   256) =
 true) ∧ True) ∧ res = D.v
 (Value.int .i64
  (opI .add .i64 0
   (IntKind.i64.wrap
    ↑(lenTab.getD
      (IntKind.u8.wrap x).toNat 0))))) :
 CallsD Try.prog 124 [D.v (Value.int .u64 x)] res := by
 cases e0 : (cmpI .geq x 4294967296) with
 | true =>
  cases e1 : (cmpI .geq (opI .shr .u64 x 32) 65536) with
  | true =>
   cases e2 : (cmpI .geq (opI .shr .u64 (opI .shr .u64 x 32) 16) 256) with
   | true =>
    exact of_path (hX0) (len64_p0 x) ⟨(h0 e0 e1 e2).1.1, (h0 e0 e1 e2).1.2.1, rfl, e2, rfl, e1, rfl, e0, trivial⟩ (h0 e0 e1 e2).2
   | false =>
    exact of_path (hX0) (len64_p1 x) ⟨(h1 e0 e1 e2).1.1, (h1 e0 e1 e2).1.2.1, e2, rfl, e1, rfl, e0, trivial⟩ (h1 e0 e1 e2).2
  | false =>
   cases e2 : (cmpI .geq (opI .shr .u64 x 32) 256) with
   | true =>
    exact of_path (hX0) (len64_p2 x) ⟨(h2 e0 e1 e2).1.1, (h2 e0 e1 e2).1.2.1, rfl, e2, e1, rfl, e0, trivial⟩ (h2 e0 e1 e2).2
   | false =>
    exact of_path (hX0) (len64_p3 x) ⟨(h3 e0 e1 e2).1.1, (h3 e0 e1 e2).1.2.1, e2, e1, rfl, e0, trivial⟩ (h3 e0 e1 e2).2
 | false =>
  cases e1 : (cmpI .geq x 65536) with
  | true =>
   cases e2 : (cmpI .geq (opI .shr .u64 x 16) 256) with
   | true =>
    exact of_path (hX0) (len64_p4 x) ⟨(h4 e0 e1 e2).1.1, (h4 e0 e1 e2).1.2.1, rfl, e2, rfl, e1, e0, trivial⟩ (h4 e0 e1 e2).2
   | false =>
    exact of_path (hX0) (len64_p5 x) ⟨(h5 e0 e1 e2).1.1, (h5 e0 e1 e2).1.2.1, e2, rfl, e1, e0, trivial⟩ (h5 e0 e1 e2).2
  | false =>
   cases e2 : (cmpI .geq x 256) with
   | true =>
    exact of_path (hX0) (len64_p6 x) ⟨(h6 e0 e1 e2).1.1, (h6 e0 e1 e2).1.2.1, rfl, e2, e1, e0, trivial⟩ (h6 e0 e1 e2).2
   | false =>
    exact of_path (hX0) (len64_p7 x) ⟨(h7 e0 e1 e2).1.1, (h7 e0 e1 e2).1.2.1, e2, e1, e0, trivial⟩ (h7 e0 e1 e2).2
theorem len64_ok (n : Nat) (h : n < 18446744073709551616) : CallsD Try.prog 124 [u64 n] (i64 (lenN n)) := by
 have tb : ∀ m : Nat, m < 256 → lenTab.getD (IntKind.wrap .u8 (m : Int)).toNat 0 = lenN m := fun m hm => by
  rw [wrap_u8, show ((m : Int) % 256).toNat = m by omega]; exact lenTab_get m hm
 have w : ∀ m : Nat, m < 256 → IntKind.wrap .i64 ((lenN m : Nat) : Int) = (lenN m : Int) := fun m hm => by
  have := lenN_le m 8 (by omega); exact wrap_i64_of (by omega) (by omega)
 have s32 : opI .shr .u64 (n : Int) 32 = ((n / 2 ^ 32 : Nat) : Int) := by rw [shr32]; omega
 have s16 : ∀ m : Nat, opI .shr .u64 (m : Int) 16 = ((m / 2 ^ 16 : Nat) : Int) := fun m => by rw [show (16 : Int) = ((16 : Nat) : Int) from rfl, shrN _ _ (by decide)]; omega
 have s8 : ∀ m : Nat, opI .shr .u64 (m : Int) 8 = ((m / 2 ^ 8 : Nat) : Int) := fun m => by rw [show (8 : Int) = ((8 : Nat) : Int) from rfl, shrN _ _ (by decide)]; omega
 have leaf : ∀ (m : Nat) (k : Int), m < 256 → (lenN n : Int) = lenN m + k → 0 ≤ k → k ≤ 56 → ((0 ≤ IntKind.wrap .u8 (m : Int)) ∧ (IntKind.wrap .u8 (m : Int) < 256) ∧ True) ∧ i64 (lenN n) = D.v (.int .i64 (IntKind.wrap .i64 (k + IntKind.wrap .i64 ((lenTab.getD (IntKind.wrap .u8 (m : Int)).toNat 0 : Nat) : Int)))) := fun m k hm he h0 h1 => by
  have hl := lenN_le m 8 (by omega)
  rw [tb m hm, w m hm, wrap_i64_of (by omega) (by omega), wrap_u8]
  refine ⟨⟨by omega, by omega, trivial⟩, ?_⟩
  simp only [D.v.injEq, Value.int.injEq, true_and]
  omega
 refine len64_calls n _ ?_ ?_ ?_ ?_ ?_ ?_ ?_ ?_
 all_goals
  intros
  simp only [geq_t, geq_f, s32, s16, s8, decide_eq_true_eq, opI_add] at *
 ·have a := lenN_shift n 32 (by omega)
  have b := lenN_shift (n / 2 ^ 32) 16 (by omega)
  have c := lenN_shift (n / 2 ^ 32 / 2 ^ 16) 8 (by omega)
  exact leaf _ 56 (by omega) (by omega) (by omega) (by omega)
 ·have a := lenN_shift n 32 (by omega)
  have b := lenN_shift (n / 2 ^ 32) 16 (by omega)
  exact leaf _ 48 (by omega) (by omega) (by omega) (by omega)
 ·have a := lenN_shift n 32 (by omega)
  have c := lenN_shift (n / 2 ^ 32) 8 (by omega)
  exact leaf _ 40 (by omega) (by omega) (by omega) (by omega)
 ·have a := lenN_shift n 32 (by omega)
  exact leaf _ 32 (by omega) (by omega) (by omega) (by omega)
 ·have b := lenN_shift n 16 (by omega)
  have c := lenN_shift (n / 2 ^ 16) 8 (by omega)
  exact leaf _ 24 (by omega) (by omega) (by omega) (by omega)
 ·have b := lenN_shift n 16 (by omega)
  exact leaf _ 16 (by omega) (by omega) (by omega) (by omega)
 ·have c := lenN_shift n 8 (by omega)
  exact leaf _ 8 (by omega) (by omega) (by omega) (by omega)
 ·exact leaf _ 0 (by omega) (by omega) (by omega) (by omega)
end MeterS
end

section
namespace MeterS
open Go Go.Dam Go.Proofs
set_option maxRecDepth 1000000
variable [Glo]
def lenC : List D → Option (D × List Prop)
 | [.v (.int .u64 x)] => some (i64 (lenN x.toNat), [0 ≤ x, x < 18446744073709551616])
 | _ => none
def X1 : Contracts := addCon 124 (.call lenC) X0
theorem hX1 : ConOK Try.prog X1 := addCall_ok (fun args res l h hl => by
 unfold lenC at h
 split at h
 next x =>
  simp only [Option.some.injEq, Prod.mk.injEq] at h
  obtain ⟨rfl, rfl⟩ := h
  obtain ⟨h0, h1, _⟩ := hl
  have := len64_ok x.toNat (by omega)
  rwa [Int.toNat_of_nonneg h0] at this
 ·cases h) hX0
end MeterS
end

section
namespace MeterS
open Go Go.Dam Go.Proofs
set_option maxRecDepth 1000000
variable [Glo]
theorem lz64_p0 (x : Int) : fnX Try.prog (X1) 100000 [] 123 [D.v (Value.int .u64 x)] = some (D.v (Value.int .i64 (opI .sub .i64 64 ↑(lenN x.toNat))), [0 ≤ x,
 x < 18446744073709551616]) := by kernel_rfl
theorem lz64_calls (x : Int) (res : D)
 (h0 : ((0 ≤ x) ∧ (x < 18446744073709551616) ∧ True) ∧ res = D.v (Value.int .i64 (opI .sub .i64 64 ↑(lenN x.toNat)))) :
 CallsD Try.prog 123 [D.v (Value.int .u64 x)] res := by
 exact of_path (hX1) (lz64_p0 x) ⟨(h0).1.1, (h0).1.2.1, trivial⟩ (h0).2
def lzC : List D → Option (D × List Prop)
 | [.v (.int .u64 x)] => some (i64 (64 - lenN x.toNat), [0 ≤ x, x < 18446744073709551616])
 | _ => none
def X2 : Contracts := addCon 123 (.call lzC) X1
theorem hX2 : ConOK Try.prog X2 := addCall_ok (fun args res l h hl => by
 unfold lzC at h
 split at h
 next x =>
  simp only [Option.some.injEq, Prod.mk.injEq] at h
  obtain ⟨rfl, rfl⟩ := h
  obtain ⟨h0, h1, _⟩ := hl
  refine lz64_calls x _ ⟨⟨h0, h1, trivial⟩, ?_⟩
  have := lenN_le x.toNat 64 (by omega)
  rw [opI_sub, wrap_i64_of (by omega) (by omega)]
 ·cases h) hX1
end MeterS
end
