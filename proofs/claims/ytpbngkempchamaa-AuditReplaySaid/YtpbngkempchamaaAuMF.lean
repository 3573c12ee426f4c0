/- The functions of the folder audit and what they reach: what they compute. No condition. -/
import Derived.Test.YtpbngkempchamaaAuMC
set_option linter.unusedSectionVars false
set_option linter.unusedVariables false
set_option linter.unusedSimpArgs false
namespace MeterS
open Go Go.Dam Go.Proofs
set_option maxRecDepth 1000000
set_option linter.unusedVariables false
set_option linter.unusedSectionVars false
set_option linter.unusedSimpArgs false
/-- How many digits a byte has. -/
def lenTab : List Nat := 0 :: 1 :: (List.replicate 2 2 ++ List.replicate 4 3 ++ List.replicate 8 4 ++ List.replicate 16 5 ++ List.replicate 32 6 ++ List.replicate 64 7 ++ List.replicate 128 8)
theorem lenTab_eq : lenTab = (List.range 256).map fun i => if i = 0 then 0 else Nat.log2 i + 1 := by decide +kernel
/-- How many digits a number has. -/
def lenN (n : Nat) : Nat := if n = 0 then 0 else Nat.log2 n + 1
theorem lenTab_get (i : Nat) (h : i < 256) : lenTab.getD i 0 = lenN i := by
  rw [lenTab_eq, List.getD_eq_getElem?_getD, List.getElem?_map, List.getElem?_range h]; rfl
theorem lenN_shift (n k : Nat) (h : 0 < n / 2 ^ k) : lenN n = lenN (n / 2 ^ k) + k := by
  have hn : n ≠ 0 := by rintro rfl; simp at h
  unfold lenN
  rw [if_neg hn, if_neg (by omega)]
  have h1 : n / 2 ^ k ≠ 0 := by omega
  have e : Nat.log2 n = Nat.log2 (n / 2 ^ k) + k := by
    rw [Nat.log2_eq_iff hn]
    have h2 := Nat.log2_self_le h1
    have h3 := Nat.lt_log2_self (n := n / 2 ^ k)
    have hp : 0 < 2 ^ k := Nat.two_pow_pos k
    constructor
    · rw [Nat.pow_add]
      exact Nat.le_trans (Nat.mul_le_mul_right _ h2) (Nat.div_mul_le_self n _)
    · rw [show Nat.log2 (n / 2 ^ k) + k + 1 = (Nat.log2 (n / 2 ^ k) + 1) + k by omega, Nat.pow_add]
      rw [← Nat.div_lt_iff_lt_mul hp]
      exact h3
  omega
theorem lenN_le (n : Nat) (k : Nat) (h : n < 2 ^ k) : lenN n ≤ k := by
  unfold lenN
  split
  · omega
  next hn => have := (Nat.log2_lt hn).2 h; omega
theorem lenN_bounds (n : Nat) (h : 0 < n) : 2 ^ (lenN n - 1) ≤ n ∧ n < 2 ^ lenN n ∧ 0 < lenN n := by
  unfold lenN
  rw [if_neg (by omega)]
  exact ⟨Nat.log2_self_le (by omega), Nat.lt_log2_self, by omega⟩
theorem shrN (x : Int) (k : Nat) (hk : k ≤ 64) : opI .shr .u64 x k = x / 2 ^ k := by rw [opI_shr64 (by omega) (by omega)]; rfl
variable [Glo]
theorem len64_p0 (x : Int) : fnX Try.prog X0 100000 [.d true, .d true, .d true] 79 [D.v (Value.int IntKind.u64 x)] = some (D.v
  (Value.int IntKind.i64
    (opI BinOp.add IntKind.i64 56
      (IntKind.i64.wrap
        ↑(lenTab.getD
            (IntKind.u8.wrap
                (opI BinOp.shr IntKind.u64 (opI BinOp.shr IntKind.u64 (opI BinOp.shr IntKind.u64 x 32) 16) 8)).toNat
            0)))), [decide
    (0 ≤
      IntKind.u8.wrap (opI BinOp.shr IntKind.u64 (opI BinOp.shr IntKind.u64 (opI BinOp.shr IntKind.u64 x 32) 16) 8)) =
  true,
  decide
    (IntKind.u8.wrap (opI BinOp.shr IntKind.u64 (opI BinOp.shr IntKind.u64 (opI BinOp.shr IntKind.u64 x 32) 16) 8) <
      256) =
  true,
  true = true,
  cmpI BinOp.geq (opI BinOp.shr IntKind.u64 (opI BinOp.shr IntKind.u64 x 32) 16) 256 = true,
  true = true,
  cmpI BinOp.geq (opI BinOp.shr IntKind.u64 x 32) 65536 = true,
  true = true,
  cmpI BinOp.geq x 4294967296 = true]) := by kernel_rfl
theorem len64_p1 (x : Int) : fnX Try.prog X0 100000 [.d true, .d true, .d false] 79 [D.v (Value.int IntKind.u64 x)] = some (D.v
  (Value.int IntKind.i64
    (opI BinOp.add IntKind.i64 48
      (IntKind.i64.wrap
        ↑(lenTab.getD
            (IntKind.u8.wrap (opI BinOp.shr IntKind.u64 (opI BinOp.shr IntKind.u64 x 32) 16)).toNat 0)))), [decide (0 ≤ IntKind.u8.wrap (opI BinOp.shr IntKind.u64 (opI BinOp.shr IntKind.u64 x 32) 16)) = true,
  decide
    (IntKind.u8.wrap (opI BinOp.shr IntKind.u64 (opI BinOp.shr IntKind.u64 x 32) 16) <
      256) =
  true,
  cmpI BinOp.geq (opI BinOp.shr IntKind.u64 (opI BinOp.shr IntKind.u64 x 32) 16) 256 = false,
  true = true,
  cmpI BinOp.geq (opI BinOp.shr IntKind.u64 x 32) 65536 = true,
  true = true,
  cmpI BinOp.geq x 4294967296 = true]) := by kernel_rfl
theorem len64_p2 (x : Int) : fnX Try.prog X0 100000 [.d true, .d false, .d true] 79 [D.v (Value.int IntKind.u64 x)] = some (D.v
  (Value.int IntKind.i64
    (opI BinOp.add IntKind.i64 40
      (IntKind.i64.wrap
        ↑(lenTab.getD
            (IntKind.u8.wrap (opI BinOp.shr IntKind.u64 (opI BinOp.shr IntKind.u64 x 32) 8)).toNat 0)))), [decide (0 ≤ IntKind.u8.wrap (opI BinOp.shr IntKind.u64 (opI BinOp.shr IntKind.u64 x 32) 8)) = true,
  decide
    (IntKind.u8.wrap (opI BinOp.shr IntKind.u64 (opI BinOp.shr IntKind.u64 x 32) 8) <
      256) =
  true,
  true = true,
  cmpI BinOp.geq (opI BinOp.shr IntKind.u64 x 32) 256 = true,
  cmpI BinOp.geq (opI BinOp.shr IntKind.u64 x 32) 65536 = false,
  true = true,
  cmpI BinOp.geq x 4294967296 = true]) := by kernel_rfl
theorem len64_p3 (x : Int) : fnX Try.prog X0 100000 [.d true, .d false, .d false] 79 [D.v (Value.int IntKind.u64 x)] = some (D.v
  (Value.int IntKind.i64
    (opI BinOp.add IntKind.i64 32
      (IntKind.i64.wrap
        ↑(lenTab.getD
            (IntKind.u8.wrap (opI BinOp.shr IntKind.u64 x 32)).toNat 0)))), [decide (0 ≤ IntKind.u8.wrap (opI BinOp.shr IntKind.u64 x 32)) = true,
  decide
    (IntKind.u8.wrap (opI BinOp.shr IntKind.u64 x 32) <
      256) =
  true,
  cmpI BinOp.geq (opI BinOp.shr IntKind.u64 x 32) 256 = false,
  cmpI BinOp.geq (opI BinOp.shr IntKind.u64 x 32) 65536 = false,
  true = true,
  cmpI BinOp.geq x 4294967296 = true]) := by kernel_rfl
theorem len64_p4 (x : Int) : fnX Try.prog X0 100000 [.d false, .d true, .d true] 79 [D.v (Value.int IntKind.u64 x)] = some (D.v
  (Value.int IntKind.i64
    (opI BinOp.add IntKind.i64 24
      (IntKind.i64.wrap
        ↑(lenTab.getD
            (IntKind.u8.wrap (opI BinOp.shr IntKind.u64 (opI BinOp.shr IntKind.u64 x 16) 8)).toNat 0)))), [decide (0 ≤ IntKind.u8.wrap (opI BinOp.shr IntKind.u64 (opI BinOp.shr IntKind.u64 x 16) 8)) = true,
  decide
    (IntKind.u8.wrap (opI BinOp.shr IntKind.u64 (opI BinOp.shr IntKind.u64 x 16) 8) <
      256) =
  true,
  true = true,
  cmpI BinOp.geq (opI BinOp.shr IntKind.u64 x 16) 256 = true,
  true = true,
  cmpI BinOp.geq x 65536 = true,
  cmpI BinOp.geq x 4294967296 = false]) := by kernel_rfl
theorem len64_p5 (x : Int) : fnX Try.prog X0 100000 [.d false, .d true, .d false] 79 [D.v (Value.int IntKind.u64 x)] = some (D.v
  (Value.int IntKind.i64
    (opI BinOp.add IntKind.i64 16
      (IntKind.i64.wrap
        ↑(lenTab.getD
            (IntKind.u8.wrap (opI BinOp.shr IntKind.u64 x 16)).toNat 0)))), [decide (0 ≤ IntKind.u8.wrap (opI BinOp.shr IntKind.u64 x 16)) = true,
  decide
    (IntKind.u8.wrap (opI BinOp.shr IntKind.u64 x 16) <
      256) =
  true,
  cmpI BinOp.geq (opI BinOp.shr IntKind.u64 x 16) 256 = false,
  true = true,
  cmpI BinOp.geq x 65536 = true,
  cmpI BinOp.geq x 4294967296 = false]) := by kernel_rfl
theorem len64_p6 (x : Int) : fnX Try.prog X0 100000 [.d false, .d false, .d true] 79 [D.v (Value.int IntKind.u64 x)] = some (D.v
  (Value.int IntKind.i64
    (opI BinOp.add IntKind.i64 8
      (IntKind.i64.wrap
        ↑(lenTab.getD
            (IntKind.u8.wrap (opI BinOp.shr IntKind.u64 x 8)).toNat 0)))), [decide (0 ≤ IntKind.u8.wrap (opI BinOp.shr IntKind.u64 x 8)) = true,
  decide
    (IntKind.u8.wrap (opI BinOp.shr IntKind.u64 x 8) <
      256) =
  true,
  true = true,
  cmpI BinOp.geq x 256 = true,
  cmpI BinOp.geq x 65536 = false,
  cmpI BinOp.geq x 4294967296 = false]) := by kernel_rfl
theorem len64_p7 (x : Int) : fnX Try.prog X0 100000 [.d false, .d false, .d false] 79 [D.v (Value.int IntKind.u64 x)] = some (D.v
  (Value.int IntKind.i64
    (opI BinOp.add IntKind.i64 0
      (IntKind.i64.wrap
        ↑(lenTab.getD
            (IntKind.u8.wrap x).toNat 0)))), [decide (0 ≤ IntKind.u8.wrap x) = true,
  decide
    (IntKind.u8.wrap x <
      256) =
  true,
  cmpI BinOp.geq x 256 = false,
  cmpI BinOp.geq x 65536 = false,
  cmpI BinOp.geq x 4294967296 = false]) := by kernel_rfl
theorem len64_calls (x : Int) (res : D)
  (h0 : ((cmpI BinOp.geq x 4294967296) = true) → ((cmpI BinOp.geq (opI BinOp.shr IntKind.u64 x 32) 65536) = true) → ((cmpI BinOp.geq (opI BinOp.shr IntKind.u64 (opI BinOp.shr IntKind.u64 x 32) 16) 256) = true) → ((decide
    (0 ≤
      IntKind.u8.wrap (opI BinOp.shr IntKind.u64 (opI BinOp.shr IntKind.u64 (opI BinOp.shr IntKind.u64 x 32) 16) 8)) =
  true) ∧ (decide
    (IntKind.u8.wrap (opI BinOp.shr IntKind.u64 (opI BinOp.shr IntKind.u64 (opI BinOp.shr IntKind.u64 x 32) 16) 8) <
      256) =
  true) ∧ True) ∧ res = D.v
  (Value.int IntKind.i64
    (opI BinOp.add IntKind.i64 56
      (IntKind.i64.wrap
        ↑(lenTab.getD
            (IntKind.u8.wrap
                (opI BinOp.shr IntKind.u64 (opI BinOp.shr IntKind.u64 (opI BinOp.shr IntKind.u64 x 32) 16) 8)).toNat
            0)))))
  (h1 : ((cmpI BinOp.geq x 4294967296) = true) → ((cmpI BinOp.geq (opI BinOp.shr IntKind.u64 x 32) 65536) = true) → ((cmpI BinOp.geq (opI BinOp.shr IntKind.u64 (opI BinOp.shr IntKind.u64 x 32) 16) 256) = false) → ((decide (0 ≤ IntKind.u8.wrap (opI BinOp.shr IntKind.u64 (opI BinOp.shr IntKind.u64 x 32) 16)) = true) ∧ (decide
    (IntKind.u8.wrap (opI BinOp.shr IntKind.u64 (opI BinOp.shr IntKind.u64 x 32) 16) <
      256) =
  true) ∧ True) ∧ res = D.v
  (Value.int IntKind.i64
    (opI BinOp.add IntKind.i64 48
      (IntKind.i64.wrap
        ↑(lenTab.getD
            (IntKind.u8.wrap (opI BinOp.shr IntKind.u64 (opI BinOp.shr IntKind.u64 x 32) 16)).toNat 0)))))
  (h2 : ((cmpI BinOp.geq x 4294967296) = true) → ((cmpI BinOp.geq (opI BinOp.shr IntKind.u64 x 32) 65536) = false) → ((cmpI BinOp.geq (opI BinOp.shr IntKind.u64 x 32) 256) = true) → ((decide (0 ≤ IntKind.u8.wrap (opI BinOp.shr IntKind.u64 (opI BinOp.shr IntKind.u64 x 32) 8)) = true) ∧ (decide
    (IntKind.u8.wrap (opI BinOp.shr IntKind.u64 (opI BinOp.shr IntKind.u64 x 32) 8) <
      256) =
  true) ∧ True) ∧ res = D.v
  (Value.int IntKind.i64
    (opI BinOp.add IntKind.i64 40
      (IntKind.i64.wrap
        ↑(lenTab.getD
            (IntKind.u8.wrap (opI BinOp.shr IntKind.u64 (opI BinOp.shr IntKind.u64 x 32) 8)).toNat 0)))))
  (h3 : ((cmpI BinOp.geq x 4294967296) = true) → ((cmpI BinOp.geq (opI BinOp.shr IntKind.u64 x 32) 65536) = false) → ((cmpI BinOp.geq (opI BinOp.shr IntKind.u64 x 32) 256) = false) → ((decide (0 ≤ IntKind.u8.wrap (opI BinOp.shr IntKind.u64 x 32)) = true) ∧ (decide
    (IntKind.u8.wrap (opI BinOp.shr IntKind.u64 x 32) <
      256) =
  true) ∧ True) ∧ res = D.v
  (Value.int IntKind.i64
    (opI BinOp.add IntKind.i64 32
      (IntKind.i64.wrap
        ↑(lenTab.getD
            (IntKind.u8.wrap (opI BinOp.shr IntKind.u64 x 32)).toNat 0)))))
  (h4 : ((cmpI BinOp.geq x 4294967296) = false) → ((cmpI BinOp.geq x 65536) = true) → ((cmpI BinOp.geq (opI BinOp.shr IntKind.u64 x 16) 256) = true) → ((decide (0 ≤ IntKind.u8.wrap (opI BinOp.shr IntKind.u64 (opI BinOp.shr IntKind.u64 x 16) 8)) = true) ∧ (decide
    (IntKind.u8.wrap (opI BinOp.shr IntKind.u64 (opI BinOp.shr IntKind.u64 x 16) 8) <
      256) =
  true) ∧ True) ∧ res = D.v
  (Value.int IntKind.i64
    (opI BinOp.add IntKind.i64 24
      (IntKind.i64.wrap
        ↑(lenTab.getD
            (IntKind.u8.wrap (opI BinOp.shr IntKind.u64 (opI BinOp.shr IntKind.u64 x 16) 8)).toNat 0)))))
  (h5 : ((cmpI BinOp.geq x 4294967296) = false) → ((cmpI BinOp.geq x 65536) = true) → ((cmpI BinOp.geq (opI BinOp.shr IntKind.u64 x 16) 256) = false) → ((decide (0 ≤ IntKind.u8.wrap (opI BinOp.shr IntKind.u64 x 16)) = true) ∧ (decide
    (IntKind.u8.wrap (opI BinOp.shr IntKind.u64 x 16) <
      256) =
  true) ∧ True) ∧ res = D.v
  (Value.int IntKind.i64
    (opI BinOp.add IntKind.i64 16
      (IntKind.i64.wrap
        ↑(lenTab.getD
            (IntKind.u8.wrap (opI BinOp.shr IntKind.u64 x 16)).toNat 0)))))
  (h6 : ((cmpI BinOp.geq x 4294967296) = false) → ((cmpI BinOp.geq x 65536) = false) → ((cmpI BinOp.geq x 256) = true) → ((decide (0 ≤ IntKind.u8.wrap (opI BinOp.shr IntKind.u64 x 8)) = true) ∧ (decide
    (IntKind.u8.wrap (opI BinOp.shr IntKind.u64 x 8) <
      256) =
  true) ∧ True) ∧ res = D.v
  (Value.int IntKind.i64
    (opI BinOp.add IntKind.i64 8
      (IntKind.i64.wrap
        ↑(lenTab.getD
            (IntKind.u8.wrap (opI BinOp.shr IntKind.u64 x 8)).toNat 0)))))
  (h7 : ((cmpI BinOp.geq x 4294967296) = false) → ((cmpI BinOp.geq x 65536) = false) → ((cmpI BinOp.geq x 256) = false) → ((decide (0 ≤ IntKind.u8.wrap x) = true) ∧ (decide
    (IntKind.u8.wrap x <
      256) =
  true) ∧ True) ∧ res = D.v
  (Value.int IntKind.i64
    (opI BinOp.add IntKind.i64 0
      (IntKind.i64.wrap
        ↑(lenTab.getD
            (IntKind.u8.wrap x).toNat 0))))) :
  CallsD Try.prog 79 [D.v (Value.int IntKind.u64 x)] res := by
  cases e0 : (cmpI BinOp.geq x 4294967296) with
  | true =>
    cases e1 : (cmpI BinOp.geq (opI BinOp.shr IntKind.u64 x 32) 65536) with
    | true =>
      cases e2 : (cmpI BinOp.geq (opI BinOp.shr IntKind.u64 (opI BinOp.shr IntKind.u64 x 32) 16) 256) with
      | true =>
        exact of_path hX0 (len64_p0 x) ⟨(h0 e0 e1 e2).1.1, (h0 e0 e1 e2).1.2.1, rfl, e2, rfl, e1, rfl, e0, trivial⟩ (h0 e0 e1 e2).2
      | false =>
        exact of_path hX0 (len64_p1 x) ⟨(h1 e0 e1 e2).1.1, (h1 e0 e1 e2).1.2.1, e2, rfl, e1, rfl, e0, trivial⟩ (h1 e0 e1 e2).2
    | false =>
      cases e2 : (cmpI BinOp.geq (opI BinOp.shr IntKind.u64 x 32) 256) with
      | true =>
        exact of_path hX0 (len64_p2 x) ⟨(h2 e0 e1 e2).1.1, (h2 e0 e1 e2).1.2.1, rfl, e2, e1, rfl, e0, trivial⟩ (h2 e0 e1 e2).2
      | false =>
        exact of_path hX0 (len64_p3 x) ⟨(h3 e0 e1 e2).1.1, (h3 e0 e1 e2).1.2.1, e2, e1, rfl, e0, trivial⟩ (h3 e0 e1 e2).2
  | false =>
    cases e1 : (cmpI BinOp.geq x 65536) with
    | true =>
      cases e2 : (cmpI BinOp.geq (opI BinOp.shr IntKind.u64 x 16) 256) with
      | true =>
        exact of_path hX0 (len64_p4 x) ⟨(h4 e0 e1 e2).1.1, (h4 e0 e1 e2).1.2.1, rfl, e2, rfl, e1, e0, trivial⟩ (h4 e0 e1 e2).2
      | false =>
        exact of_path hX0 (len64_p5 x) ⟨(h5 e0 e1 e2).1.1, (h5 e0 e1 e2).1.2.1, e2, rfl, e1, e0, trivial⟩ (h5 e0 e1 e2).2
    | false =>
      cases e2 : (cmpI BinOp.geq x 256) with
      | true =>
        exact of_path hX0 (len64_p6 x) ⟨(h6 e0 e1 e2).1.1, (h6 e0 e1 e2).1.2.1, rfl, e2, e1, e0, trivial⟩ (h6 e0 e1 e2).2
      | false =>
        exact of_path hX0 (len64_p7 x) ⟨(h7 e0 e1 e2).1.1, (h7 e0 e1 e2).1.2.1, e2, e1, e0, trivial⟩ (h7 e0 e1 e2).2
theorem len64_ok (n : Nat) (h : n < 18446744073709551616) : CallsD Try.prog 79 [u64 n] (i64 (lenN n)) := by
  have tb : ∀ m : Nat, m < 256 → lenTab.getD (IntKind.wrap .u8 (m : Int)).toNat 0 = lenN m := fun m hm => by
    rw [wrap_u8, show ((m : Int) % 256).toNat = m by omega]; exact lenTab_get m hm
  have w : ∀ m : Nat, m < 256 → IntKind.wrap .i64 ((lenN m : Nat) : Int) = (lenN m : Int) := fun m hm => by
    have := lenN_le m 8 (by omega); exact wrap_i64_of (by omega) (by omega)
  have s32 : opI .shr .u64 (n : Int) 32 = ((n / 2 ^ 32 : Nat) : Int) := by rw [shr32]; omega
  have s16 : ∀ m : Nat, opI .shr .u64 (m : Int) 16 = ((m / 2 ^ 16 : Nat) : Int) := fun m => by rw [show (16 : Int) = ((16 : Nat) : Int) from rfl, shrN _ _ (by decide)]; omega
  have s8 : ∀ m : Nat, opI .shr .u64 (m : Int) 8 = ((m / 2 ^ 8 : Nat) : Int) := fun m => by rw [show (8 : Int) = ((8 : Nat) : Int) from rfl, shrN _ _ (by decide)]; omega
  have leaf : ∀ (m : Nat) (k : Int), m < 256 → (lenN n : Int) = lenN m + k → 0 ≤ k → k ≤ 56 → ((0 ≤ IntKind.wrap .u8 (m : Int)) ∧ (IntKind.wrap .u8 (m : Int) < 256) ∧ True) ∧ i64 (lenN n) = D.v (.int .i64 (IntKind.wrap .i64 (k + IntKind.wrap .i64 ((lenTab.getD (IntKind.wrap .u8 (m : Int)).toNat 0 : Nat) : Int)))) := fun m k hm he h0 h1 => by
    have hl := lenN_le m 8 (by omega)
    rw [tb m hm, w m hm, wrap_i64_of (by omega) (by omega), wrap_u8]
    refine ⟨⟨by omega, by omega, trivial⟩, ?_⟩
    simp only [D.v.injEq, Value.int.injEq, true_and]
    omega
  refine len64_calls n _ ?_ ?_ ?_ ?_ ?_ ?_ ?_ ?_
  all_goals
    intros
    simp only [geq_t, geq_f, s32, s16, s8, decide_eq_true_eq, opI_add] at *
  · have a := lenN_shift n 32 (by omega)
    have b := lenN_shift (n / 2 ^ 32) 16 (by omega)
    have c := lenN_shift (n / 2 ^ 32 / 2 ^ 16) 8 (by omega)
    exact leaf _ 56 (by omega) (by omega) (by omega) (by omega)
  · have a := lenN_shift n 32 (by omega)
    have b := lenN_shift (n / 2 ^ 32) 16 (by omega)
    exact leaf _ 48 (by omega) (by omega) (by omega) (by omega)
  · have a := lenN_shift n 32 (by omega)
    have c := lenN_shift (n / 2 ^ 32) 8 (by omega)
    exact leaf _ 40 (by omega) (by omega) (by omega) (by omega)
  · have a := lenN_shift n 32 (by omega)
    exact leaf _ 32 (by omega) (by omega) (by omega) (by omega)
  · have b := lenN_shift n 16 (by omega)
    have c := lenN_shift (n / 2 ^ 16) 8 (by omega)
    exact leaf _ 24 (by omega) (by omega) (by omega) (by omega)
  · have b := lenN_shift n 16 (by omega)
    exact leaf _ 16 (by omega) (by omega) (by omega) (by omega)
  · have c := lenN_shift n 8 (by omega)
    exact leaf _ 8 (by omega) (by omega) (by omega) (by omega)
  · exact leaf _ 0 (by omega) (by omega) (by omega) (by omega)
end MeterS

namespace MeterS
open Go Go.Dam Go.Proofs
set_option maxRecDepth 1000000
set_option linter.unusedVariables false
set_option linter.unusedSectionVars false
set_option linter.unusedSimpArgs false
variable [Glo]
def lenC : List D → Option (D × List Prop)
  | [.v (.int .u64 x)] => some (i64 (lenN x.toNat), [0 ≤ x, x < 18446744073709551616])
  | _ => none
def X1 : Contracts := addCon 79 (.call lenC) X0
theorem hX1 : ConOK Try.prog X1 := addCall_ok (fun args res l h hl => by
  unfold lenC at h
  split at h
  next x =>
    simp only [Option.some.injEq, Prod.mk.injEq] at h
    obtain ⟨rfl, rfl⟩ := h
    obtain ⟨h0, h1, _⟩ := hl
    have := len64_ok x.toNat (by omega)
    rwa [Int.toNat_of_nonneg h0] at this
  · cases h) hX0
end MeterS

namespace MeterS
open Go Go.Dam Go.Proofs
set_option maxRecDepth 1000000
set_option linter.unusedVariables false
set_option linter.unusedSectionVars false
set_option linter.unusedSimpArgs false
variable [Glo]
theorem lz64_p0 (x : Int) : fnX Try.prog X1 100000 [] 78 [D.v (Value.int IntKind.u64 x)] = some (D.v (Value.int IntKind.i64 (opI BinOp.sub IntKind.i64 64 ↑(lenN x.toNat))), [0 ≤ x,
  x < 18446744073709551616]) := by kernel_rfl
theorem lz64_calls (x : Int) (res : D)
  (h0 : ((0 ≤ x) ∧ (x < 18446744073709551616) ∧ True) ∧ res = D.v (Value.int IntKind.i64 (opI BinOp.sub IntKind.i64 64 ↑(lenN x.toNat)))) :
  CallsD Try.prog 78 [D.v (Value.int IntKind.u64 x)] res := by
  exact of_path hX1 (lz64_p0 x) ⟨(h0).1.1, (h0).1.2.1, trivial⟩ (h0).2
def lzC : List D → Option (D × List Prop)
  | [.v (.int .u64 x)] => some (i64 (64 - lenN x.toNat), [0 ≤ x, x < 18446744073709551616])
  | _ => none
def X2 : Contracts := addCon 78 (.call lzC) X1
theorem hX2 : ConOK Try.prog X2 := addCall_ok (fun args res l h hl => by
  unfold lzC at h
  split at h
  next x =>
    simp only [Option.some.injEq, Prod.mk.injEq] at h
    obtain ⟨rfl, rfl⟩ := h
    obtain ⟨h0, h1, _⟩ := hl
    refine lz64_calls x _ ⟨⟨h0, h1, trivial⟩, ?_⟩
    have := lenN_le x.toNat 64 (by omega)
    rw [opI_sub, wrap_i64_of (by omega) (by omega)]
  · cases h) hX1
end MeterS
