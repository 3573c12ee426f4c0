/- The functions of the folder audit and what they reach: what they compute. No condition. -/
import Derived.Test.YtpbngkempchamaaAuMF
set_option linter.unusedSectionVars false
set_option linter.unusedVariables false
set_option linter.unusedSimpArgs false
namespace MeterS
open Go Go.Dam Go.Proofs
set_option maxRecDepth 1000000
set_option linter.unusedVariables false
set_option linter.unusedSectionVars false
set_option linter.unusedSimpArgs false
theorem two_lt (a b V : Nat) (ha : a < V) (hb : b < 4294967296) : a * 4294967296 + b < V * 4294967296 := by omega
theorem alg_div2 (h p r a b K : Nat) (hK : p * r = K) : (h * K + (r * a + b)) * p = (h * p + a) * K + b * p := by
  have h2 : r * a * p = a * K := by rw [← hK, Nat.mul_comm r a, Nat.mul_assoc, Nat.mul_comm r p]
  have h3 : h * K * p = h * p * K := Nat.mul_right_comm _ _ _
  rw [Nat.add_mul, Nat.add_mul, Nat.add_mul, h2, h3]
  omega
theorem alg_div (V a b c d w1 w0 : Nat) (h : V * c + d = b * 4294967296 + w1) : (V * a + b) * 18446744073709551616 + (4294967296 * w1 + w0) = (a * 4294967296 + c) * (V * 4294967296) + (d * 4294967296 + w0) := by
  have e : (a * 4294967296 + c) * (V * 4294967296) = V * a * 18446744073709551616 + V * c * 4294967296 := by
    rw [Nat.add_mul, show a * 4294967296 * (V * 4294967296) = V * a * 18446744073709551616 by rw [Nat.mul_mul_mul_comm, Nat.mul_comm a V], show c * (V * 4294967296) = V * c * 4294967296 by rw [← Nat.mul_assoc, Nat.mul_comm c V]]
  rw [e]
  generalize V * a = m at *
  generalize V * c = n at *
  omega
set_option maxRecDepth 100000 in
theorem long_div (y h l p r p' : Nat) (hpr : p * r = 18446744073709551616) (hp : p = 4294967296 * p') (hy : 0 < y) (hh : h < y) (hl : l < 18446744073709551616) (hp0 : 0 < p') :
    let U := h * p + l / r
    let W := (l % r) * p
    let V := y * p'
    let q1 := U / V
    let T := U % V * 4294967296 + W / 4294967296
    let q0 := T / V
    U < V * 4294967296 ∧ q1 < 4294967296 ∧ q0 < 4294967296 ∧ T < V * 4294967296 ∧ W < 18446744073709551616 ∧
    q1 * 4294967296 + q0 = (h * 18446744073709551616 + l) / y ∧ (T % V * 4294967296 + W % 4294967296) / p = (h * 18446744073709551616 + l) % y := by
  intro U W V q1 T q0
  have hV : 0 < V := Nat.mul_pos hy hp0
  have hr : 0 < r := by
    rcases Nat.eq_zero_or_pos r with rfl | h
    · simp at hpr
    · exact h
  have hpp : 0 < p := by omega
  have hlr : l / r < p := by rw [Nat.div_lt_iff_lt_mul hr]; omega
  have hlm : l % r < r := Nat.mod_lt _ hr
  have hU : U < V * 4294967296 := by
    have : h * p + p ≤ y * p := by
      have := Nat.mul_le_mul_right p (show h + 1 ≤ y by omega)
      rw [Nat.add_mul] at this; omega
    have e : V * 4294967296 = y * p := by show y * p' * 4294967296 = y * p; rw [hp, Nat.mul_assoc, Nat.mul_comm p']
    show h * p + l / r < _
    omega
  have hW : W < 18446744073709551616 := by
    have h1 : (l % r) * p < r * p := Nat.mul_lt_mul_of_pos_right hlm hpp
    rw [Nat.mul_comm r p, hpr] at h1
    exact h1
  have hq1 : q1 < 4294967296 := by
    show U / V < _
    rw [Nat.div_lt_iff_lt_mul hV, Nat.mul_comm]; exact hU
  have hT : T < V * 4294967296 := by
    have h1 : U % V < V := Nat.mod_lt _ hV
    have h2 : W / 4294967296 < 4294967296 := by rw [Nat.div_lt_iff_lt_mul (by decide)]; exact hW
    exact two_lt _ _ _ h1 h2
  have hq0 : q0 < 4294967296 := by
    show T / V < _
    rw [Nat.div_lt_iff_lt_mul hV, Nat.mul_comm]; exact hT
  have e1 : (h * 18446744073709551616 + l) * p = U * 18446744073709551616 + W := by
    have h1 : r * (l / r) + l % r = l := Nat.div_add_mod l r
    have := alg_div2 h p r (l / r) (l % r) _ hpr
    rw [h1] at this
    exact this
  have e2 : U = V * (U / V) + U % V := (Nat.div_add_mod U V).symm
  have e3 : T = V * (T / V) + T % V := (Nat.div_add_mod T V).symm
  have e4 : W = 4294967296 * (W / 4294967296) + W % 4294967296 := (Nat.div_add_mod W _).symm
  have hyp : y * p = V * 4294967296 := by show y * p = y * p' * 4294967296; rw [hp, Nat.mul_assoc, Nat.mul_comm p']
  have key : (h * 18446744073709551616 + l) * p = (q1 * 4294967296 + q0) * (y * p) + (T % V * 4294967296 + W % 4294967296) := by
    rw [e1, hyp]
    have h1 : V * (T / V) + T % V = U % V * 4294967296 + W / 4294967296 := e3.symm
    have := alg_div V (U / V) (U % V) (T / V) (T % V) (W / 4294967296) (W % 4294967296) h1
    rw [← e2, ← e4] at this
    exact this
  have hR : T % V * 4294967296 + W % 4294967296 < y * p := by
    have h1 : T % V < V := Nat.mod_lt _ hV
    rw [hyp]
    have h4 : W % 4294967296 < 4294967296 := Nat.mod_lt _ (by decide)
    exact two_lt _ _ _ h1 h4
  have hyp0 : 0 < y * p := Nat.mul_pos hy hpp
  refine ⟨hU, hq1, hq0, hT, hW, ?_, ?_⟩
  · have := congrArg (· / (y * p)) key
    simp only [Nat.mul_div_mul_right _ _ hpp] at this
    rw [this, Nat.add_comm (_ * (y * p)), Nat.add_mul_div_right _ _ hyp0, Nat.div_eq_of_lt hR, Nat.zero_add]
  · have := congrArg (· % (y * p)) key
    simp only [Nat.mul_mod_mul_right] at this
    rw [Nat.add_comm (_ * (y * p)), Nat.add_mul_mod_self_right, Nat.mod_eq_of_lt hR] at this
    rw [← this, Nat.mul_div_cancel _ hpp]

theorem opI_or64 (a p b : Nat) (k : Nat) (hp : p = 2 ^ k) (hb : b < p) (h : a * p + b < 18446744073709551616) : opI .or .u64 ((a * p : Nat) : Int) ((b : Nat) : Int) = ((a * p + b : Nat) : Int) := by
  show IntKind.wrap .u64 ((BitVec.ofInt 64 ((a * p : Nat) : Int) ||| BitVec.ofInt 64 ((b : Nat) : Int)).toNat : Int) = _
  rw [wrap_u64, BitVec.ofInt_natCast, BitVec.ofInt_natCast, BitVec.toNat_or, BitVec.toNat_ofNat, BitVec.toNat_ofNat]
  rw [Nat.mod_eq_of_lt (show a * p < 2 ^ 64 by omega), Nat.mod_eq_of_lt (show b < 2 ^ 64 by omega)]
  have e : a * p ||| b = a * p + b := by subst hp; rw [Nat.mul_comm, ← Nat.two_pow_add_eq_or_of_lt hb]
  rw [e]; omega
theorem opI_shlN (a s : Nat) (hs : s ≤ 64) (h : a * 2 ^ s < 18446744073709551616) : opI .shl .u64 (a : Int) (s : Int) = ((a * 2 ^ s : Nat) : Int) := by
  rw [opI_shl64 (by omega) (by omega), Int.toNat_natCast, show (a : Int) * 2 ^ s = ((a * 2 ^ s : Nat) : Int) by push_cast; rfl, wrap_u64]; omega
theorem opI_shlW (l s L : Nat) (hs : s + L = 64) : opI .shl .u64 (l : Int) (s : Int) = (((l % 2 ^ L) * 2 ^ s : Nat) : Int) := by
  rw [opI_shl64 (by omega) (by omega), Int.toNat_natCast, show (l : Int) * 2 ^ s = ((l * 2 ^ s : Nat) : Int) by push_cast; rfl, wrap_u64]
  have e : l * 2 ^ s % 18446744073709551616 = (l % 2 ^ L) * 2 ^ s := by
    have : 18446744073709551616 = 2 ^ L * 2 ^ s := by rw [← Nat.pow_add, Nat.add_comm, hs]
    rw [this, Nat.mul_mod_mul_right]
  rw [← e]; omega
theorem opI_shrN (l L : Nat) (h : L ≤ 64) : opI .shr .u64 (l : Int) (L : Int) = ((l / 2 ^ L : Nat) : Int) := by
  rw [shrN _ _ h]; push_cast; rfl
theorem opI_quoN (a b : Nat) (h : a / b < 18446744073709551616) : opI .quo .u64 (a : Int) (b : Int) = ((a / b : Nat) : Int) := by
  rw [opI_quo _ (by omega), show (a : Int) / b = ((a / b : Nat) : Int) from (Int.natCast_ediv a b).symm, wrap_u64]
  generalize a / b = q at *
  omega
theorem step_sub (U V a : Nat) (h : U % V * 4294967296 + a < 18446744073709551616) :
    opI .sub .u64 (opI .add .u64 (opI .mul .u64 (U : Int) 4294967296) (a : Int)) (opI .mul .u64 ((U / V : Nat) : Int) ((V * 4294967296 : Nat) : Int)) = ((U % V * 4294967296 + a : Nat) : Int) := by
  simp only [opI_sub, opI_add, opI_mul, wrap_u64]
  have e : ((U / V : Nat) : Int) * ((V * 4294967296 : Nat) : Int) = ((V * (U / V) : Nat) : Int) * 4294967296 := by
    rw [← Int.natCast_mul, Nat.mul_left_comm, ← Nat.mul_assoc, Int.natCast_mul]; rfl
  have h2 := Nat.div_add_mod U V
  rw [e]
  generalize V * (U / V) = m at *
  generalize U % V = n at *
  omega
theorem and_lo (W : Nat) (h : W < 18446744073709551616) : opI .and .u64 (W : Int) 4294967295 = ((W % 4294967296 : Nat) : Int) := by
  have := opI_and_mask64 (x := (W : Int)) 32 (by decide) (by omega) (by omega)
  rw [show (2 : Int) ^ 32 - 1 = 4294967295 from rfl] at this
  rw [this]; omega
variable [Glo]
theorem div64a_p0 (h : Int) (l : Int) (y : Int) : fnX Try.prog X2 100000 [.d false, .d false, .d true] 75 [D.v (Value.int IntKind.u64 h), D.v (Value.int IntKind.u64 l), D.v (Value.int IntKind.u64 y)] = some (D.tup
  [D.v (Value.int IntKind.u64 (opI BinOp.quo IntKind.u64 l y)),
    D.v (Value.int IntKind.u64 (opI BinOp.rem IntKind.u64 l y))], [decide (y = 0) = false,
  decide (y = 0) = false,
  cmpI BinOp.eql h 0 = true,
  cmpI BinOp.leq y h = false,
  cmpI BinOp.eql y 0 = false]) := by kernel_rfl
theorem div64a_calls (h : Int) (l : Int) (y : Int) (res : D)
  (e0 : (cmpI BinOp.eql y 0) = false)
  (e1 : (cmpI BinOp.leq y h) = false)
  (e2 : (cmpI BinOp.eql h 0) = true)
  (h0 : ((decide (y = 0) = false) ∧ (decide (y = 0) = false) ∧ True) ∧ res = D.tup
  [D.v (Value.int IntKind.u64 (opI BinOp.quo IntKind.u64 l y)),
    D.v (Value.int IntKind.u64 (opI BinOp.rem IntKind.u64 l y))]) :
  CallsD Try.prog 75 [D.v (Value.int IntKind.u64 h), D.v (Value.int IntKind.u64 l), D.v (Value.int IntKind.u64 y)] res := by
  exact of_path hX2 (div64a_p0 h l y) ⟨(h0).1.1, (h0).1.2.1, e2, e1, e0, trivial⟩ (h0).2
theorem div64b_p0 (h : Int) (l : Int) (y : Int) : fnX Try.prog X2 100000 [.d false, .d false, .d false, PE.u, .d false, .c 6, .d false, PE.u, .d false, .c 6, .d false] 75 [D.v (Value.int IntKind.u64 h), D.v (Value.int IntKind.u64 l), D.v (Value.int IntKind.u64 y)] = some (D.tup
  [D.v
      (Value.int IntKind.u64
        (opI BinOp.add IntKind.u64
          (opI BinOp.mul IntKind.u64
            (opI BinOp.quo IntKind.u64
              (opI BinOp.or IntKind.u64 (opI BinOp.shl IntKind.u64 h (IntKind.u64.wrap (64 - ↑(lenN y.toNat))))
                (opI BinOp.shr IntKind.u64 l (opI BinOp.sub IntKind.u64 64 (IntKind.u64.wrap (64 - ↑(lenN y.toNat))))))
              (opI BinOp.shr IntKind.u64 (opI BinOp.shl IntKind.u64 y (IntKind.u64.wrap (64 - ↑(lenN y.toNat)))) 32))
            4294967296)
          (opI BinOp.quo IntKind.u64
            (opI BinOp.sub IntKind.u64
              (opI BinOp.add IntKind.u64
                (opI BinOp.mul IntKind.u64
                  (opI BinOp.or IntKind.u64 (opI BinOp.shl IntKind.u64 h (IntKind.u64.wrap (64 - ↑(lenN y.toNat))))
                    (opI BinOp.shr IntKind.u64 l
                      (opI BinOp.sub IntKind.u64 64 (IntKind.u64.wrap (64 - ↑(lenN y.toNat))))))
                  4294967296)
                (opI BinOp.shr IntKind.u64 (opI BinOp.shl IntKind.u64 l (IntKind.u64.wrap (64 - ↑(lenN y.toNat)))) 32))
              (opI BinOp.mul IntKind.u64
                (opI BinOp.quo IntKind.u64
                  (opI BinOp.or IntKind.u64 (opI BinOp.shl IntKind.u64 h (IntKind.u64.wrap (64 - ↑(lenN y.toNat))))
                    (opI BinOp.shr IntKind.u64 l
                      (opI BinOp.sub IntKind.u64 64 (IntKind.u64.wrap (64 - ↑(lenN y.toNat))))))
                  (opI BinOp.shr IntKind.u64 (opI BinOp.shl IntKind.u64 y (IntKind.u64.wrap (64 - ↑(lenN y.toNat))))
                    32))
                (opI BinOp.shl IntKind.u64 y (IntKind.u64.wrap (64 - ↑(lenN y.toNat))))))
            (opI BinOp.shr IntKind.u64 (opI BinOp.shl IntKind.u64 y (IntKind.u64.wrap (64 - ↑(lenN y.toNat)))) 32)))),
    D.v
      (Value.int IntKind.u64
        (opI BinOp.shr IntKind.u64
          (opI BinOp.sub IntKind.u64
            (opI BinOp.add IntKind.u64
              (opI BinOp.mul IntKind.u64
                (opI BinOp.sub IntKind.u64
                  (opI BinOp.add IntKind.u64
                    (opI BinOp.mul IntKind.u64
                      (opI BinOp.or IntKind.u64 (opI BinOp.shl IntKind.u64 h (IntKind.u64.wrap (64 - ↑(lenN y.toNat))))
                        (opI BinOp.shr IntKind.u64 l
                          (opI BinOp.sub IntKind.u64 64 (IntKind.u64.wrap (64 - ↑(lenN y.toNat))))))
                      4294967296)
                    (opI BinOp.shr IntKind.u64 (opI BinOp.shl IntKind.u64 l (IntKind.u64.wrap (64 - ↑(lenN y.toNat))))
                      32))
                  (opI BinOp.mul IntKind.u64
                    (opI BinOp.quo IntKind.u64
                      (opI BinOp.or IntKind.u64 (opI BinOp.shl IntKind.u64 h (IntKind.u64.wrap (64 - ↑(lenN y.toNat))))
                        (opI BinOp.shr IntKind.u64 l
                          (opI BinOp.sub IntKind.u64 64 (IntKind.u64.wrap (64 - ↑(lenN y.toNat))))))
                      (opI BinOp.shr IntKind.u64 (opI BinOp.shl IntKind.u64 y (IntKind.u64.wrap (64 - ↑(lenN y.toNat))))
                        32))
                    (opI BinOp.shl IntKind.u64 y (IntKind.u64.wrap (64 - ↑(lenN y.toNat))))))
                4294967296)
              (opI BinOp.and IntKind.u64 (opI BinOp.shl IntKind.u64 l (IntKind.u64.wrap (64 - ↑(lenN y.toNat))))
                4294967295))
            (opI BinOp.mul IntKind.u64
              (opI BinOp.quo IntKind.u64
                (opI BinOp.sub IntKind.u64
                  (opI BinOp.add IntKind.u64
                    (opI BinOp.mul IntKind.u64
                      (opI BinOp.or IntKind.u64 (opI BinOp.shl IntKind.u64 h (IntKind.u64.wrap (64 - ↑(lenN y.toNat))))
                        (opI BinOp.shr IntKind.u64 l
                          (opI BinOp.sub IntKind.u64 64 (IntKind.u64.wrap (64 - ↑(lenN y.toNat))))))
                      4294967296)
                    (opI BinOp.shr IntKind.u64 (opI BinOp.shl IntKind.u64 l (IntKind.u64.wrap (64 - ↑(lenN y.toNat))))
                      32))
                  (opI BinOp.mul IntKind.u64
                    (opI BinOp.quo IntKind.u64
                      (opI BinOp.or IntKind.u64 (opI BinOp.shl IntKind.u64 h (IntKind.u64.wrap (64 - ↑(lenN y.toNat))))
                        (opI BinOp.shr IntKind.u64 l
                          (opI BinOp.sub IntKind.u64 64 (IntKind.u64.wrap (64 - ↑(lenN y.toNat))))))
                      (opI BinOp.shr IntKind.u64 (opI BinOp.shl IntKind.u64 y (IntKind.u64.wrap (64 - ↑(lenN y.toNat))))
                        32))
                    (opI BinOp.shl IntKind.u64 y (IntKind.u64.wrap (64 - ↑(lenN y.toNat))))))
                (opI BinOp.shr IntKind.u64 (opI BinOp.shl IntKind.u64 y (IntKind.u64.wrap (64 - ↑(lenN y.toNat)))) 32))
              (opI BinOp.shl IntKind.u64 y (IntKind.u64.wrap (64 - ↑(lenN y.toNat))))))
          (IntKind.u64.wrap (64 - ↑(lenN y.toNat)))))], [decide (0 ≤ IntKind.u64.wrap (64 - ↑(lenN y.toNat))) = true,
  cmpI BinOp.gtr
    (opI BinOp.mul IntKind.u64
      (opI BinOp.quo IntKind.u64
        (opI BinOp.sub IntKind.u64
          (opI BinOp.add IntKind.u64
            (opI BinOp.mul IntKind.u64
              (opI BinOp.or IntKind.u64 (opI BinOp.shl IntKind.u64 h (IntKind.u64.wrap (64 - ↑(lenN y.toNat))))
                (opI BinOp.shr IntKind.u64 l (opI BinOp.sub IntKind.u64 64 (IntKind.u64.wrap (64 - ↑(lenN y.toNat))))))
              4294967296)
            (opI BinOp.shr IntKind.u64 (opI BinOp.shl IntKind.u64 l (IntKind.u64.wrap (64 - ↑(lenN y.toNat)))) 32))
          (opI BinOp.mul IntKind.u64
            (opI BinOp.quo IntKind.u64
              (opI BinOp.or IntKind.u64 (opI BinOp.shl IntKind.u64 h (IntKind.u64.wrap (64 - ↑(lenN y.toNat))))
                (opI BinOp.shr IntKind.u64 l (opI BinOp.sub IntKind.u64 64 (IntKind.u64.wrap (64 - ↑(lenN y.toNat))))))
              (opI BinOp.shr IntKind.u64 (opI BinOp.shl IntKind.u64 y (IntKind.u64.wrap (64 - ↑(lenN y.toNat)))) 32))
            (opI BinOp.shl IntKind.u64 y (IntKind.u64.wrap (64 - ↑(lenN y.toNat))))))
        (opI BinOp.shr IntKind.u64 (opI BinOp.shl IntKind.u64 y (IntKind.u64.wrap (64 - ↑(lenN y.toNat)))) 32))
      (opI BinOp.and IntKind.u64 (opI BinOp.shl IntKind.u64 y (IntKind.u64.wrap (64 - ↑(lenN y.toNat)))) 4294967295))
    (opI BinOp.add IntKind.u64
      (opI BinOp.mul IntKind.u64 4294967296
        (opI BinOp.sub IntKind.u64
          (opI BinOp.sub IntKind.u64
            (opI BinOp.add IntKind.u64
              (opI BinOp.mul IntKind.u64
                (opI BinOp.or IntKind.u64 (opI BinOp.shl IntKind.u64 h (IntKind.u64.wrap (64 - ↑(lenN y.toNat))))
                  (opI BinOp.shr IntKind.u64 l
                    (opI BinOp.sub IntKind.u64 64 (IntKind.u64.wrap (64 - ↑(lenN y.toNat))))))
                4294967296)
              (opI BinOp.shr IntKind.u64 (opI BinOp.shl IntKind.u64 l (IntKind.u64.wrap (64 - ↑(lenN y.toNat)))) 32))
            (opI BinOp.mul IntKind.u64
              (opI BinOp.quo IntKind.u64
                (opI BinOp.or IntKind.u64 (opI BinOp.shl IntKind.u64 h (IntKind.u64.wrap (64 - ↑(lenN y.toNat))))
                  (opI BinOp.shr IntKind.u64 l
                    (opI BinOp.sub IntKind.u64 64 (IntKind.u64.wrap (64 - ↑(lenN y.toNat))))))
                (opI BinOp.shr IntKind.u64 (opI BinOp.shl IntKind.u64 y (IntKind.u64.wrap (64 - ↑(lenN y.toNat)))) 32))
              (opI BinOp.shl IntKind.u64 y (IntKind.u64.wrap (64 - ↑(lenN y.toNat))))))
          (opI BinOp.mul IntKind.u64
            (opI BinOp.quo IntKind.u64
              (opI BinOp.sub IntKind.u64
                (opI BinOp.add IntKind.u64
                  (opI BinOp.mul IntKind.u64
                    (opI BinOp.or IntKind.u64 (opI BinOp.shl IntKind.u64 h (IntKind.u64.wrap (64 - ↑(lenN y.toNat))))
                      (opI BinOp.shr IntKind.u64 l
                        (opI BinOp.sub IntKind.u64 64 (IntKind.u64.wrap (64 - ↑(lenN y.toNat))))))
                    4294967296)
                  (opI BinOp.shr IntKind.u64 (opI BinOp.shl IntKind.u64 l (IntKind.u64.wrap (64 - ↑(lenN y.toNat))))
                    32))
                (opI BinOp.mul IntKind.u64
                  (opI BinOp.quo IntKind.u64
                    (opI BinOp.or IntKind.u64 (opI BinOp.shl IntKind.u64 h (IntKind.u64.wrap (64 - ↑(lenN y.toNat))))
                      (opI BinOp.shr IntKind.u64 l
                        (opI BinOp.sub IntKind.u64 64 (IntKind.u64.wrap (64 - ↑(lenN y.toNat))))))
                    (opI BinOp.shr IntKind.u64 (opI BinOp.shl IntKind.u64 y (IntKind.u64.wrap (64 - ↑(lenN y.toNat))))
                      32))
                  (opI BinOp.shl IntKind.u64 y (IntKind.u64.wrap (64 - ↑(lenN y.toNat))))))
              (opI BinOp.shr IntKind.u64 (opI BinOp.shl IntKind.u64 y (IntKind.u64.wrap (64 - ↑(lenN y.toNat)))) 32))
            (opI BinOp.shr IntKind.u64 (opI BinOp.shl IntKind.u64 y (IntKind.u64.wrap (64 - ↑(lenN y.toNat)))) 32))))
      (opI BinOp.and IntKind.u64 (opI BinOp.shl IntKind.u64 l (IntKind.u64.wrap (64 - ↑(lenN y.toNat)))) 4294967295)) =
  false,
  cmpI BinOp.geq
    (opI BinOp.quo IntKind.u64
      (opI BinOp.sub IntKind.u64
        (opI BinOp.add IntKind.u64
          (opI BinOp.mul IntKind.u64
            (opI BinOp.or IntKind.u64 (opI BinOp.shl IntKind.u64 h (IntKind.u64.wrap (64 - ↑(lenN y.toNat))))
              (opI BinOp.shr IntKind.u64 l (opI BinOp.sub IntKind.u64 64 (IntKind.u64.wrap (64 - ↑(lenN y.toNat))))))
            4294967296)
          (opI BinOp.shr IntKind.u64 (opI BinOp.shl IntKind.u64 l (IntKind.u64.wrap (64 - ↑(lenN y.toNat)))) 32))
        (opI BinOp.mul IntKind.u64
          (opI BinOp.quo IntKind.u64
            (opI BinOp.or IntKind.u64 (opI BinOp.shl IntKind.u64 h (IntKind.u64.wrap (64 - ↑(lenN y.toNat))))
              (opI BinOp.shr IntKind.u64 l (opI BinOp.sub IntKind.u64 64 (IntKind.u64.wrap (64 - ↑(lenN y.toNat))))))
            (opI BinOp.shr IntKind.u64 (opI BinOp.shl IntKind.u64 y (IntKind.u64.wrap (64 - ↑(lenN y.toNat)))) 32))
          (opI BinOp.shl IntKind.u64 y (IntKind.u64.wrap (64 - ↑(lenN y.toNat))))))
      (opI BinOp.shr IntKind.u64 (opI BinOp.shl IntKind.u64 y (IntKind.u64.wrap (64 - ↑(lenN y.toNat)))) 32))
    4294967296 =
  false,
  decide (opI BinOp.shr IntKind.u64 (opI BinOp.shl IntKind.u64 y (IntKind.u64.wrap (64 - ↑(lenN y.toNat)))) 32 = 0) =
  false,
  cmpI BinOp.gtr
    (opI BinOp.mul IntKind.u64
      (opI BinOp.quo IntKind.u64
        (opI BinOp.or IntKind.u64 (opI BinOp.shl IntKind.u64 h (IntKind.u64.wrap (64 - ↑(lenN y.toNat))))
          (opI BinOp.shr IntKind.u64 l (opI BinOp.sub IntKind.u64 64 (IntKind.u64.wrap (64 - ↑(lenN y.toNat))))))
        (opI BinOp.shr IntKind.u64 (opI BinOp.shl IntKind.u64 y (IntKind.u64.wrap (64 - ↑(lenN y.toNat)))) 32))
      (opI BinOp.and IntKind.u64 (opI BinOp.shl IntKind.u64 y (IntKind.u64.wrap (64 - ↑(lenN y.toNat)))) 4294967295))
    (opI BinOp.add IntKind.u64
      (opI BinOp.mul IntKind.u64 4294967296
        (opI BinOp.sub IntKind.u64
          (opI BinOp.or IntKind.u64 (opI BinOp.shl IntKind.u64 h (IntKind.u64.wrap (64 - ↑(lenN y.toNat))))
            (opI BinOp.shr IntKind.u64 l (opI BinOp.sub IntKind.u64 64 (IntKind.u64.wrap (64 - ↑(lenN y.toNat))))))
          (opI BinOp.mul IntKind.u64
            (opI BinOp.quo IntKind.u64
              (opI BinOp.or IntKind.u64 (opI BinOp.shl IntKind.u64 h (IntKind.u64.wrap (64 - ↑(lenN y.toNat))))
                (opI BinOp.shr IntKind.u64 l (opI BinOp.sub IntKind.u64 64 (IntKind.u64.wrap (64 - ↑(lenN y.toNat))))))
              (opI BinOp.shr IntKind.u64 (opI BinOp.shl IntKind.u64 y (IntKind.u64.wrap (64 - ↑(lenN y.toNat)))) 32))
            (opI BinOp.shr IntKind.u64 (opI BinOp.shl IntKind.u64 y (IntKind.u64.wrap (64 - ↑(lenN y.toNat)))) 32))))
      (opI BinOp.shr IntKind.u64 (opI BinOp.shl IntKind.u64 l (IntKind.u64.wrap (64 - ↑(lenN y.toNat)))) 32)) =
  false,
  cmpI BinOp.geq
    (opI BinOp.quo IntKind.u64
      (opI BinOp.or IntKind.u64 (opI BinOp.shl IntKind.u64 h (IntKind.u64.wrap (64 - ↑(lenN y.toNat))))
        (opI BinOp.shr IntKind.u64 l (opI BinOp.sub IntKind.u64 64 (IntKind.u64.wrap (64 - ↑(lenN y.toNat))))))
      (opI BinOp.shr IntKind.u64 (opI BinOp.shl IntKind.u64 y (IntKind.u64.wrap (64 - ↑(lenN y.toNat)))) 32))
    4294967296 =
  false,
  decide (opI BinOp.shr IntKind.u64 (opI BinOp.shl IntKind.u64 y (IntKind.u64.wrap (64 - ↑(lenN y.toNat)))) 32 = 0) =
  false,
  true = true,
  decide (0 ≤ IntKind.u64.wrap (64 - ↑(lenN y.toNat))) = true,
  decide (0 ≤ opI BinOp.sub IntKind.u64 64 (IntKind.u64.wrap (64 - ↑(lenN y.toNat)))) = true,
  decide (0 ≤ IntKind.u64.wrap (64 - ↑(lenN y.toNat))) = true,
  true = true,
  decide (0 ≤ IntKind.u64.wrap (64 - ↑(lenN y.toNat))) = true,
  0 ≤ y,
  y < 18446744073709551616,
  cmpI BinOp.eql h 0 = false,
  cmpI BinOp.leq y h = false,
  cmpI BinOp.eql y 0 = false]) := by kernel_rfl
theorem div64b_calls (h : Int) (l : Int) (y : Int) (res : D)
  (e0 : (cmpI BinOp.eql y 0) = false)
  (e1 : (cmpI BinOp.leq y h) = false)
  (e2 : (cmpI BinOp.eql h 0) = false)
  (e3 : (cmpI BinOp.geq
  (opI BinOp.quo IntKind.u64
    (opI BinOp.or IntKind.u64 (opI BinOp.shl IntKind.u64 h (IntKind.u64.wrap (64 - ↑(lenN y.toNat))))
      (opI BinOp.shr IntKind.u64 l (opI BinOp.sub IntKind.u64 64 (IntKind.u64.wrap (64 - ↑(lenN y.toNat))))))
    (opI BinOp.shr IntKind.u64 (opI BinOp.shl IntKind.u64 y (IntKind.u64.wrap (64 - ↑(lenN y.toNat)))) 32))
  4294967296) = false)
  (e4 : (cmpI BinOp.gtr
  (opI BinOp.mul IntKind.u64
    (opI BinOp.quo IntKind.u64
      (opI BinOp.or IntKind.u64 (opI BinOp.shl IntKind.u64 h (IntKind.u64.wrap (64 - ↑(lenN y.toNat))))
        (opI BinOp.shr IntKind.u64 l (opI BinOp.sub IntKind.u64 64 (IntKind.u64.wrap (64 - ↑(lenN y.toNat))))))
      (opI BinOp.shr IntKind.u64 (opI BinOp.shl IntKind.u64 y (IntKind.u64.wrap (64 - ↑(lenN y.toNat)))) 32))
    (opI BinOp.and IntKind.u64 (opI BinOp.shl IntKind.u64 y (IntKind.u64.wrap (64 - ↑(lenN y.toNat)))) 4294967295))
  (opI BinOp.add IntKind.u64
    (opI BinOp.mul IntKind.u64 4294967296
      (opI BinOp.sub IntKind.u64
        (opI BinOp.or IntKind.u64 (opI BinOp.shl IntKind.u64 h (IntKind.u64.wrap (64 - ↑(lenN y.toNat))))
          (opI BinOp.shr IntKind.u64 l (opI BinOp.sub IntKind.u64 64 (IntKind.u64.wrap (64 - ↑(lenN y.toNat))))))
        (opI BinOp.mul IntKind.u64
          (opI BinOp.quo IntKind.u64
            (opI BinOp.or IntKind.u64 (opI BinOp.shl IntKind.u64 h (IntKind.u64.wrap (64 - ↑(lenN y.toNat))))
              (opI BinOp.shr IntKind.u64 l (opI BinOp.sub IntKind.u64 64 (IntKind.u64.wrap (64 - ↑(lenN y.toNat))))))
            (opI BinOp.shr IntKind.u64 (opI BinOp.shl IntKind.u64 y (IntKind.u64.wrap (64 - ↑(lenN y.toNat)))) 32))
          (opI BinOp.shr IntKind.u64 (opI BinOp.shl IntKind.u64 y (IntKind.u64.wrap (64 - ↑(lenN y.toNat)))) 32))))
    (opI BinOp.shr IntKind.u64 (opI BinOp.shl IntKind.u64 l (IntKind.u64.wrap (64 - ↑(lenN y.toNat)))) 32))) = false)
  (e5 : (cmpI BinOp.geq
  (opI BinOp.quo IntKind.u64
    (opI BinOp.sub IntKind.u64
      (opI BinOp.add IntKind.u64
        (opI BinOp.mul IntKind.u64
          (opI BinOp.or IntKind.u64 (opI BinOp.shl IntKind.u64 h (IntKind.u64.wrap (64 - ↑(lenN y.toNat))))
            (opI BinOp.shr IntKind.u64 l (opI BinOp.sub IntKind.u64 64 (IntKind.u64.wrap (64 - ↑(lenN y.toNat))))))
          4294967296)
        (opI BinOp.shr IntKind.u64 (opI BinOp.shl IntKind.u64 l (IntKind.u64.wrap (64 - ↑(lenN y.toNat)))) 32))
      (opI BinOp.mul IntKind.u64
        (opI BinOp.quo IntKind.u64
          (opI BinOp.or IntKind.u64 (opI BinOp.shl IntKind.u64 h (IntKind.u64.wrap (64 - ↑(lenN y.toNat))))
            (opI BinOp.shr IntKind.u64 l (opI BinOp.sub IntKind.u64 64 (IntKind.u64.wrap (64 - ↑(lenN y.toNat))))))
          (opI BinOp.shr IntKind.u64 (opI BinOp.shl IntKind.u64 y (IntKind.u64.wrap (64 - ↑(lenN y.toNat)))) 32))
        (opI BinOp.shl IntKind.u64 y (IntKind.u64.wrap (64 - ↑(lenN y.toNat))))))
    (opI BinOp.shr IntKind.u64 (opI BinOp.shl IntKind.u64 y (IntKind.u64.wrap (64 - ↑(lenN y.toNat)))) 32))
  4294967296) = false)
  (e6 : (cmpI BinOp.gtr
  (opI BinOp.mul IntKind.u64
    (opI BinOp.quo IntKind.u64
      (opI BinOp.sub IntKind.u64
        (opI BinOp.add IntKind.u64
          (opI BinOp.mul IntKind.u64
            (opI BinOp.or IntKind.u64 (opI BinOp.shl IntKind.u64 h (IntKind.u64.wrap (64 - ↑(lenN y.toNat))))
              (opI BinOp.shr IntKind.u64 l (opI BinOp.sub IntKind.u64 64 (IntKind.u64.wrap (64 - ↑(lenN y.toNat))))))
            4294967296)
          (opI BinOp.shr IntKind.u64 (opI BinOp.shl IntKind.u64 l (IntKind.u64.wrap (64 - ↑(lenN y.toNat)))) 32))
        (opI BinOp.mul IntKind.u64
          (opI BinOp.quo IntKind.u64
            (opI BinOp.or IntKind.u64 (opI BinOp.shl IntKind.u64 h (IntKind.u64.wrap (64 - ↑(lenN y.toNat))))
              (opI BinOp.shr IntKind.u64 l (opI BinOp.sub IntKind.u64 64 (IntKind.u64.wrap (64 - ↑(lenN y.toNat))))))
            (opI BinOp.shr IntKind.u64 (opI BinOp.shl IntKind.u64 y (IntKind.u64.wrap (64 - ↑(lenN y.toNat)))) 32))
          (opI BinOp.shl IntKind.u64 y (IntKind.u64.wrap (64 - ↑(lenN y.toNat))))))
      (opI BinOp.shr IntKind.u64 (opI BinOp.shl IntKind.u64 y (IntKind.u64.wrap (64 - ↑(lenN y.toNat)))) 32))
    (opI BinOp.and IntKind.u64 (opI BinOp.shl IntKind.u64 y (IntKind.u64.wrap (64 - ↑(lenN y.toNat)))) 4294967295))
  (opI BinOp.add IntKind.u64
    (opI BinOp.mul IntKind.u64 4294967296
      (opI BinOp.sub IntKind.u64
        (opI BinOp.sub IntKind.u64
          (opI BinOp.add IntKind.u64
            (opI BinOp.mul IntKind.u64
              (opI BinOp.or IntKind.u64 (opI BinOp.shl IntKind.u64 h (IntKind.u64.wrap (64 - ↑(lenN y.toNat))))
                (opI BinOp.shr IntKind.u64 l (opI BinOp.sub IntKind.u64 64 (IntKind.u64.wrap (64 - ↑(lenN y.toNat))))))
              4294967296)
            (opI BinOp.shr IntKind.u64 (opI BinOp.shl IntKind.u64 l (IntKind.u64.wrap (64 - ↑(lenN y.toNat)))) 32))
          (opI BinOp.mul IntKind.u64
            (opI BinOp.quo IntKind.u64
              (opI BinOp.or IntKind.u64 (opI BinOp.shl IntKind.u64 h (IntKind.u64.wrap (64 - ↑(lenN y.toNat))))
                (opI BinOp.shr IntKind.u64 l (opI BinOp.sub IntKind.u64 64 (IntKind.u64.wrap (64 - ↑(lenN y.toNat))))))
              (opI BinOp.shr IntKind.u64 (opI BinOp.shl IntKind.u64 y (IntKind.u64.wrap (64 - ↑(lenN y.toNat)))) 32))
            (opI BinOp.shl IntKind.u64 y (IntKind.u64.wrap (64 - ↑(lenN y.toNat))))))
        (opI BinOp.mul IntKind.u64
          (opI BinOp.quo IntKind.u64
            (opI BinOp.sub IntKind.u64
              (opI BinOp.add IntKind.u64
                (opI BinOp.mul IntKind.u64
                  (opI BinOp.or IntKind.u64 (opI BinOp.shl IntKind.u64 h (IntKind.u64.wrap (64 - ↑(lenN y.toNat))))
                    (opI BinOp.shr IntKind.u64 l
                      (opI BinOp.sub IntKind.u64 64 (IntKind.u64.wrap (64 - ↑(lenN y.toNat))))))
                  4294967296)
                (opI BinOp.shr IntKind.u64 (opI BinOp.shl IntKind.u64 l (IntKind.u64.wrap (64 - ↑(lenN y.toNat)))) 32))
              (opI BinOp.mul IntKind.u64
                (opI BinOp.quo IntKind.u64
                  (opI BinOp.or IntKind.u64 (opI BinOp.shl IntKind.u64 h (IntKind.u64.wrap (64 - ↑(lenN y.toNat))))
                    (opI BinOp.shr IntKind.u64 l
                      (opI BinOp.sub IntKind.u64 64 (IntKind.u64.wrap (64 - ↑(lenN y.toNat))))))
                  (opI BinOp.shr IntKind.u64 (opI BinOp.shl IntKind.u64 y (IntKind.u64.wrap (64 - ↑(lenN y.toNat))))
                    32))
                (opI BinOp.shl IntKind.u64 y (IntKind.u64.wrap (64 - ↑(lenN y.toNat))))))
            (opI BinOp.shr IntKind.u64 (opI BinOp.shl IntKind.u64 y (IntKind.u64.wrap (64 - ↑(lenN y.toNat)))) 32))
          (opI BinOp.shr IntKind.u64 (opI BinOp.shl IntKind.u64 y (IntKind.u64.wrap (64 - ↑(lenN y.toNat)))) 32))))
    (opI BinOp.and IntKind.u64 (opI BinOp.shl IntKind.u64 l (IntKind.u64.wrap (64 - ↑(lenN y.toNat)))) 4294967295))) = false)
  (h0 : ((decide (0 ≤ IntKind.u64.wrap (64 - ↑(lenN y.toNat))) = true) ∧ (decide (opI BinOp.shr IntKind.u64 (opI BinOp.shl IntKind.u64 y (IntKind.u64.wrap (64 - ↑(lenN y.toNat)))) 32 = 0) =
  false) ∧ (decide (opI BinOp.shr IntKind.u64 (opI BinOp.shl IntKind.u64 y (IntKind.u64.wrap (64 - ↑(lenN y.toNat)))) 32 = 0) =
  false) ∧ (decide (0 ≤ IntKind.u64.wrap (64 - ↑(lenN y.toNat))) = true) ∧ (decide (0 ≤ opI BinOp.sub IntKind.u64 64 (IntKind.u64.wrap (64 - ↑(lenN y.toNat)))) = true) ∧ (decide (0 ≤ IntKind.u64.wrap (64 - ↑(lenN y.toNat))) = true) ∧ (decide (0 ≤ IntKind.u64.wrap (64 - ↑(lenN y.toNat))) = true) ∧ (0 ≤ y) ∧ (y < 18446744073709551616) ∧ True) ∧ res = D.tup
  [D.v
      (Value.int IntKind.u64
        (opI BinOp.add IntKind.u64
          (opI BinOp.mul IntKind.u64
            (opI BinOp.quo IntKind.u64
              (opI BinOp.or IntKind.u64 (opI BinOp.shl IntKind.u64 h (IntKind.u64.wrap (64 - ↑(lenN y.toNat))))
                (opI BinOp.shr IntKind.u64 l (opI BinOp.sub IntKind.u64 64 (IntKind.u64.wrap (64 - ↑(lenN y.toNat))))))
              (opI BinOp.shr IntKind.u64 (opI BinOp.shl IntKind.u64 y (IntKind.u64.wrap (64 - ↑(lenN y.toNat)))) 32))
            4294967296)
          (opI BinOp.quo IntKind.u64
            (opI BinOp.sub IntKind.u64
              (opI BinOp.add IntKind.u64
                (opI BinOp.mul IntKind.u64
                  (opI BinOp.or IntKind.u64 (opI BinOp.shl IntKind.u64 h (IntKind.u64.wrap (64 - ↑(lenN y.toNat))))
                    (opI BinOp.shr IntKind.u64 l
                      (opI BinOp.sub IntKind.u64 64 (IntKind.u64.wrap (64 - ↑(lenN y.toNat))))))
                  4294967296)
                (opI BinOp.shr IntKind.u64 (opI BinOp.shl IntKind.u64 l (IntKind.u64.wrap (64 - ↑(lenN y.toNat)))) 32))
              (opI BinOp.mul IntKind.u64
                (opI BinOp.quo IntKind.u64
                  (opI BinOp.or IntKind.u64 (opI BinOp.shl IntKind.u64 h (IntKind.u64.wrap (64 - ↑(lenN y.toNat))))
                    (opI BinOp.shr IntKind.u64 l
                      (opI BinOp.sub IntKind.u64 64 (IntKind.u64.wrap (64 - ↑(lenN y.toNat))))))
                  (opI BinOp.shr IntKind.u64 (opI BinOp.shl IntKind.u64 y (IntKind.u64.wrap (64 - ↑(lenN y.toNat))))
                    32))
                (opI BinOp.shl IntKind.u64 y (IntKind.u64.wrap (64 - ↑(lenN y.toNat))))))
            (opI BinOp.shr IntKind.u64 (opI BinOp.shl IntKind.u64 y (IntKind.u64.wrap (64 - ↑(lenN y.toNat)))) 32)))),
    D.v
      (Value.int IntKind.u64
        (opI BinOp.shr IntKind.u64
          (opI BinOp.sub IntKind.u64
            (opI BinOp.add IntKind.u64
              (opI BinOp.mul IntKind.u64
                (opI BinOp.sub IntKind.u64
                  (opI BinOp.add IntKind.u64
                    (opI BinOp.mul IntKind.u64
                      (opI BinOp.or IntKind.u64 (opI BinOp.shl IntKind.u64 h (IntKind.u64.wrap (64 - ↑(lenN y.toNat))))
                        (opI BinOp.shr IntKind.u64 l
                          (opI BinOp.sub IntKind.u64 64 (IntKind.u64.wrap (64 - ↑(lenN y.toNat))))))
                      4294967296)
                    (opI BinOp.shr IntKind.u64 (opI BinOp.shl IntKind.u64 l (IntKind.u64.wrap (64 - ↑(lenN y.toNat))))
                      32))
                  (opI BinOp.mul IntKind.u64
                    (opI BinOp.quo IntKind.u64
                      (opI BinOp.or IntKind.u64 (opI BinOp.shl IntKind.u64 h (IntKind.u64.wrap (64 - ↑(lenN y.toNat))))
                        (opI BinOp.shr IntKind.u64 l
                          (opI BinOp.sub IntKind.u64 64 (IntKind.u64.wrap (64 - ↑(lenN y.toNat))))))
                      (opI BinOp.shr IntKind.u64 (opI BinOp.shl IntKind.u64 y (IntKind.u64.wrap (64 - ↑(lenN y.toNat))))
                        32))
                    (opI BinOp.shl IntKind.u64 y (IntKind.u64.wrap (64 - ↑(lenN y.toNat))))))
                4294967296)
              (opI BinOp.and IntKind.u64 (opI BinOp.shl IntKind.u64 l (IntKind.u64.wrap (64 - ↑(lenN y.toNat))))
                4294967295))
            (opI BinOp.mul IntKind.u64
              (opI BinOp.quo IntKind.u64
                (opI BinOp.sub IntKind.u64
                  (opI BinOp.add IntKind.u64
                    (opI BinOp.mul IntKind.u64
                      (opI BinOp.or IntKind.u64 (opI BinOp.shl IntKind.u64 h (IntKind.u64.wrap (64 - ↑(lenN y.toNat))))
                        (opI BinOp.shr IntKind.u64 l
                          (opI BinOp.sub IntKind.u64 64 (IntKind.u64.wrap (64 - ↑(lenN y.toNat))))))
                      4294967296)
                    (opI BinOp.shr IntKind.u64 (opI BinOp.shl IntKind.u64 l (IntKind.u64.wrap (64 - ↑(lenN y.toNat))))
                      32))
                  (opI BinOp.mul IntKind.u64
                    (opI BinOp.quo IntKind.u64
                      (opI BinOp.or IntKind.u64 (opI BinOp.shl IntKind.u64 h (IntKind.u64.wrap (64 - ↑(lenN y.toNat))))
                        (opI BinOp.shr IntKind.u64 l
                          (opI BinOp.sub IntKind.u64 64 (IntKind.u64.wrap (64 - ↑(lenN y.toNat))))))
                      (opI BinOp.shr IntKind.u64 (opI BinOp.shl IntKind.u64 y (IntKind.u64.wrap (64 - ↑(lenN y.toNat))))
                        32))
                    (opI BinOp.shl IntKind.u64 y (IntKind.u64.wrap (64 - ↑(lenN y.toNat))))))
                (opI BinOp.shr IntKind.u64 (opI BinOp.shl IntKind.u64 y (IntKind.u64.wrap (64 - ↑(lenN y.toNat)))) 32))
              (opI BinOp.shl IntKind.u64 y (IntKind.u64.wrap (64 - ↑(lenN y.toNat))))))
          (IntKind.u64.wrap (64 - ↑(lenN y.toNat)))))]) :
  CallsD Try.prog 75 [D.v (Value.int IntKind.u64 h), D.v (Value.int IntKind.u64 l), D.v (Value.int IntKind.u64 y)] res := by
  exact of_path hX2 (div64b_p0 h l y) ⟨(h0).1.1, e6, e5, (h0).1.2.1, e4, e3, (h0).1.2.2.1, rfl, (h0).1.2.2.2.1, (h0).1.2.2.2.2.1, (h0).1.2.2.2.2.2.1, rfl, (h0).1.2.2.2.2.2.2.1, (h0).1.2.2.2.2.2.2.2.1, (h0).1.2.2.2.2.2.2.2.2.1, e2, e1, e0, trivial⟩ (h0).2
theorem div64a_ok (l y : Nat) (hy : 0 < y) (hl : l < 18446744073709551616) : CallsD Try.prog 75 [u64 0, u64 l, u64 y] (.tup [u64 ((l / y : Nat) : Int), u64 ((l % y : Nat) : Int)]) := by
  refine div64a_calls 0 l y _ ?_ ?_ ?_ ⟨⟨?_, ?_, trivial⟩, ?_⟩
  · rw [eql_f]; omega
  · rw [leq_f]; omega
  · rw [eql_t]
  · rw [decide_eq_false_iff_not]; omega
  · rw [decide_eq_false_iff_not]; omega
  · have := Nat.div_le_self l y
    rw [opI_quoN _ _ (by omega), opI_rem _ (by omega)]; push_cast; rfl
set_option maxHeartbeats 4000000 in
theorem div64b_ok (h l y : Nat) (hy : y < 4294967296) (hh : h < y) (h0 : 0 < h) (hl : l < 18446744073709551616) : CallsD Try.prog 75 [u64 h, u64 l, u64 y] (.tup [u64 (((h * 18446744073709551616 + l) / y : Nat) : Int), u64 (((h * 18446744073709551616 + l) % y : Nat) : Int)]) := by
  obtain ⟨b1, b2, b3⟩ := lenN_bounds y (by omega)
  have b4 := lenN_le y 32 hy
  generalize hL : lenN y = L at *
  have hpr : 2 ^ (64 - L) * 2 ^ L = 18446744073709551616 := by rw [← Nat.pow_add, show 64 - L + L = 64 by omega]
  have hp : 2 ^ (64 - L) = 4294967296 * 2 ^ (32 - L) := by rw [show 64 - L = 32 + (32 - L) by omega, Nat.pow_add]
  have hp0 : 0 < 2 ^ (32 - L) := Nat.two_pow_pos _
  obtain ⟨hU, hq1, hq0, hT, hW, r1, r2⟩ := long_div y h l _ _ _ hpr hp (by omega) hh hl hp0
  have hyV : y * 2 ^ (64 - L) = y * 2 ^ (32 - L) * 4294967296 := by rw [hp, Nat.mul_assoc, Nat.mul_comm 4294967296]
  have hVlt : y * 2 ^ (64 - L) < 18446744073709551616 := by
    rw [← hpr, Nat.mul_comm]; exact Nat.mul_lt_mul_of_pos_left b2 (Nat.two_pow_pos _)
  have hhp : h * 2 ^ (64 - L) + l / 2 ^ L < 18446744073709551616 := Nat.lt_trans hU (hyV ▸ hVlt)
  have hlr : l / 2 ^ L < 2 ^ (64 - L) := by rw [Nat.div_lt_iff_lt_mul (Nat.two_pow_pos _), hpr]; exact hl
  have sE : IntKind.wrap .u64 (64 - ((lenN ((y : Int).toNat) : Nat) : Int)) = ((64 - L : Nat) : Int) := by
    rw [Int.toNat_natCast, hL, wrap_u64]; omega
  have eh : opI .shl .u64 (h : Int) ((64 - L : Nat) : Int) = ((h * 2 ^ (64 - L) : Nat) : Int) := opI_shlN _ _ (by omega) (Nat.lt_of_le_of_lt (Nat.le_add_right _ _) hhp)
  have ey : opI .shl .u64 (y : Int) ((64 - L : Nat) : Int) = ((y * 2 ^ (32 - L) * 4294967296 : Nat) : Int) := by rw [← hyV]; exact opI_shlN _ _ (by omega) hVlt
  have el : opI .shl .u64 (l : Int) ((64 - L : Nat) : Int) = ((l % 2 ^ L * 2 ^ (64 - L) : Nat) : Int) := opI_shlW _ _ _ (by omega)
  have es : opI .sub .u64 64 ((64 - L : Nat) : Int) = (L : Int) := by rw [opI_sub, wrap_u64]; omega
  have er : opI .shr .u64 (l : Int) (L : Int) = ((l / 2 ^ L : Nat) : Int) := opI_shrN _ _ (by omega)
  have eo := opI_or64 h (2 ^ (64 - L)) (l / 2 ^ L) (64 - L) rfl hlr hhp
  obtain ⟨U, hUe⟩ : ∃ U, h * 2 ^ (64 - L) + l / 2 ^ L = U := ⟨_, rfl⟩
  rw [hUe] at hU hq1 hq0 hT r1 r2 eo
  obtain ⟨W, hWe⟩ : ∃ W, l % 2 ^ L * 2 ^ (64 - L) = W := ⟨_, rfl⟩
  rw [hWe] at hq0 hT hW r1 r2 el
  have hVpos : 0 < y * 2 ^ (32 - L) := Nat.mul_pos (by omega) hp0
  rw [hyV] at hVlt
  obtain ⟨V, hVe⟩ : ∃ V, y * 2 ^ (32 - L) = V := ⟨_, rfl⟩
  rw [hVe] at hU hq1 hq0 hT r1 r2 ey hVpos hVlt
  have en : opI .shr .u64 ((V * 4294967296 : Nat) : Int) 32 = (V : Int) := by rw [shr32]; omega
  have eq1 : opI .quo .u64 (U : Int) (V : Int) = ((U / V : Nat) : Int) := opI_quoN _ _ (Nat.lt_trans hq1 (by decide))
  have ew : opI .shr .u64 (W : Int) 32 = ((W / 4294967296 : Nat) : Int) := by rw [shr32]; omega
  have em : opI .and .u64 (W : Int) 4294967295 = ((W % 4294967296 : Nat) : Int) := and_lo W hW
  have et := step_sub U V (W / 4294967296) (Nat.lt_trans hT hVlt)
  have ez : opI .and .u64 ((V * 4294967296 : Nat) : Int) 4294967295 = 0 := by rw [and_lo _ hVlt, Nat.mul_mod_left]; rfl
  obtain ⟨T, hTe⟩ : ∃ T, U % V * 4294967296 + W / 4294967296 = T := ⟨_, rfl⟩
  rw [hTe] at hq0 hT r1 r2 et
  have eq0 : opI .quo .u64 (T : Int) (V : Int) = ((T / V : Nat) : Int) := opI_quoN _ _ (Nat.lt_trans hq0 (by decide))
  have hTV : T % V < V := Nat.mod_lt _ hVpos
  have hWm : W % 4294967296 < 4294967296 := Nat.mod_lt _ (by decide)
  have eR := step_sub T V (W % 4294967296) (Nat.lt_trans (two_lt _ _ _ hTV hWm) hVlt)
  have ef : opI .add .u64 (opI .mul .u64 ((U / V : Nat) : Int) 4294967296) ((T / V : Nat) : Int) = ((U / V * 4294967296 + T / V : Nat) : Int) := by
    simp only [opI_add, opI_mul, wrap_u64]
    clear r1 r2 eq1 eq0 et eR
    revert hq1 hq0
    generalize U / V = m
    generalize T / V = n
    intros
    omega
  have eg : opI .shr .u64 ((T % V * 4294967296 + W % 4294967296 : Nat) : Int) ((64 - L : Nat) : Int) = (((T % V * 4294967296 + W % 4294967296) / 2 ^ (64 - L) : Nat) : Int) := opI_shrN _ _ (by omega)
  rw [r1] at ef
  rw [r2] at eg
  have mz : ∀ a : Nat, opI .mul .u64 (a : Int) 0 = 0 := fun a => by rw [opI_mul, Int.mul_zero]; rfl
  refine div64b_calls h l y _ ?_ ?_ ?_ ?_ ?_ ?_ ?_ ?_
  · rw [eql_f]; omega
  · rw [leq_f]; omega
  · rw [eql_f]; omega
  all_goals simp only [sE, eh, ey, el, es, er, eo, en, eq1, ew, em, et, ez, eq0, eR, ef, eg, mz, geq_f, gtr_f, decide_eq_true_eq, decide_eq_false_iff_not]
  · exact Int.ofNat_lt.2 hq1
  · rw [opI_add, wrap_u64]; exact Int.emod_nonneg _ (by decide)
  · exact Int.ofNat_lt.2 hq0
  · rw [opI_add, wrap_u64]; exact Int.emod_nonneg _ (by decide)
  · have hv : ((V : Nat) : Int) ≠ 0 := Int.ofNat_ne_zero.2 (Nat.ne_of_gt hVpos)
    exact ⟨⟨Int.natCast_nonneg _, hv, hv, Int.natCast_nonneg _, Int.natCast_nonneg _, Int.natCast_nonneg _, Int.natCast_nonneg _, Int.natCast_nonneg _, Int.ofNat_lt.2 (Nat.lt_trans hy (by decide)), trivial⟩, trivial⟩
theorem div64_ok (h l y : Int) (h0 : 0 ≤ h) (hh : h < y) (hy : y < 4294967296) (l0 : 0 ≤ l) (l1 : l < 18446744073709551616) :
    CallsD Try.prog 75 [u64 h, u64 l, u64 y] (.tup [u64 ((h * 18446744073709551616 + l) / y), u64 ((h * 18446744073709551616 + l) % y)]) := by
  obtain ⟨h, rfl⟩ := Int.eq_ofNat_of_zero_le h0
  obtain ⟨l, rfl⟩ := Int.eq_ofNat_of_zero_le l0
  obtain ⟨y, rfl⟩ := Int.eq_ofNat_of_zero_le (show 0 ≤ y by omega)
  have e : ((h : Int) * 18446744073709551616 + l) = ((h * 18446744073709551616 + l : Nat) : Int) := by omega
  rw [e]
  rcases Nat.eq_zero_or_pos h with rfl | hp
  · rw [Nat.zero_mul, Nat.zero_add]
    have := div64a_ok l y (by omega) (by omega)
    rw [Int.natCast_ediv, Int.natCast_emod] at this
    exact this
  · have := div64b_ok h l y (by omega) (by omega) hp (by omega)
    rw [Int.natCast_ediv, Int.natCast_emod] at this
    exact this
def divC : List D → Option (D × List Prop)
  | [.v (.int .u64 h), .v (.int .u64 l), .v (.int .u64 y)] => some (.tup [u64 ((h * 18446744073709551616 + l) / y), u64 ((h * 18446744073709551616 + l) % y)], [0 ≤ h, h < y, y < 4294967296, 0 ≤ l, l < 18446744073709551616])
  | _ => none
def X3 : Contracts := addCon 75 (.call divC) X2
theorem hX3 : ConOK Try.prog X3 := addCall_ok (fun args res l h hl => by
  unfold divC at h
  split at h
  next x =>
    simp only [Option.some.injEq, Prod.mk.injEq] at h
    obtain ⟨rfl, rfl⟩ := h
    obtain ⟨h0, h1, h2, h3, h4, _⟩ := hl
    exact div64_ok _ _ _ h0 h1 h2 h3 h4
  · cases h) hX2
end MeterS

namespace MeterS
open Go Go.Dam Go.Proofs
set_option maxRecDepth 1000000
set_option linter.unusedVariables false
set_option linter.unusedSectionVars false
set_option linter.unusedSimpArgs false
variable [Glo]
def cmpC : List D → Option (D × List Prop)
  | [.agg [.v (.int .u64 h), .v (.int .u64 l)], .agg [.v (.int .u64 d), .v (.int .u64 e)]] => some (i64 (cmpZ (h * 18446744073709551616 + l) (d * 18446744073709551616 + e)), [0 ≤ l, l < 18446744073709551616, 0 ≤ e, e < 18446744073709551616])
  | _ => none
def lessC : List D → Option (D × List Prop)
  | [.agg [.v (.int .u64 h), .v (.int .u64 l)], .agg [.v (.int .u64 d), .v (.int .u64 e)]] => some (wd (h * 18446744073709551616 + l - (d * 18446744073709551616 + e)), [h < 18446744073709551616, 0 ≤ l, l < 18446744073709551616, 0 ≤ d, 0 ≤ e, e < 18446744073709551616, d * 18446744073709551616 + e ≤ h * 18446744073709551616 + l])
  | _ => none
def addC : List D → Option (D × List Prop)
  | [.agg [.v (.int .u64 h), .v (.int .u64 l)], .agg [.v (.int .u64 d), .v (.int .u64 e)]] => some (.tup [wd (if h * 18446744073709551616 + l + (d * 18446744073709551616 + e) < 340282366920938463463374607431768211456 then h * 18446744073709551616 + l + (d * 18446744073709551616 + e) else 0), i64 (if h * 18446744073709551616 + l + (d * 18446744073709551616 + e) < 340282366920938463463374607431768211456 then 0 else 16)], [0 ≤ h, h < 18446744073709551616, 0 ≤ l, l < 18446744073709551616, 0 ≤ d, d < 18446744073709551616, 0 ≤ e, e < 18446744073709551616])
  | _ => none
def mulC : List D → Option (D × List Prop)
  | [.v (.int .u64 x), .v (.int .u64 y)] => some (wd (x * y), [0 ≤ x, x < 18446744073709551616, 0 ≤ y, y < 18446744073709551616])
  | _ => none
def limC : List D → Option (D × List Prop)
  | [.agg [.v (.int .i64 b), .v (.int .i64 r), .v (.int .i64 p)]] => some (i64 (limE b r p), [])
  | _ => none
theorem cmpC_ok (args res l) (h : cmpC args = some (res, l)) (hl : AllP l) : CallsD Try.prog 72 args res := by
  unfold cmpC at h; split at h
  · simp only [Option.some.injEq, Prod.mk.injEq] at h
    obtain ⟨rfl, rfl⟩ := h; obtain ⟨h0, h1, h2, h3, _⟩ := hl
    exact cmpB_ok _ _ _ _ h0 h1 h2 h3
  · cases h
theorem lessC_ok (args res l) (h : lessC args = some (res, l)) (hl : AllP l) : CallsD Try.prog 77 args res := by
  unfold lessC at h; split at h
  · simp only [Option.some.injEq, Prod.mk.injEq] at h
    obtain ⟨rfl, rfl⟩ := h; obtain ⟨h0, h1, h2, h3, h4, h5, h6, _⟩ := hl
    exact lessB_ok _ _ _ _ h0 h1 h2 h3 h4 h5 h6
  · cases h
theorem addC_okA (args res l) (h : addC args = some (res, l)) (hl : AllP l) : CallsD Try.prog 68 args res := by
  unfold addC at h; split at h
  · simp only [Option.some.injEq, Prod.mk.injEq] at h
    obtain ⟨rfl, rfl⟩ := h; obtain ⟨h0, h1, h2, h3, h4, h5, h6, h7, _⟩ := hl
    exact addA_ok _ _ _ _ h0 h1 h2 h3 h4 h5 h6 h7
  · cases h
theorem addC_okB (args res l) (h : addC args = some (res, l)) (hl : AllP l) : CallsD Try.prog 69 args res := by
  unfold addC at h; split at h
  · simp only [Option.some.injEq, Prod.mk.injEq] at h
    obtain ⟨rfl, rfl⟩ := h; obtain ⟨h0, h1, h2, h3, h4, h5, h6, h7, _⟩ := hl
    exact addB_ok _ _ _ _ h0 h1 h2 h3 h4 h5 h6 h7
  · cases h
theorem mulC_okA (args res l) (h : mulC args = some (res, l)) (hl : AllP l) : CallsD Try.prog 51 args res := by
  unfold mulC at h; split at h
  · simp only [Option.some.injEq, Prod.mk.injEq] at h
    obtain ⟨rfl, rfl⟩ := h; obtain ⟨h0, h1, h2, h3, _⟩ := hl
    exact mulA_ok _ _ h0 h1 h2 h3
  · cases h
theorem mulC_okB (args res l) (h : mulC args = some (res, l)) (hl : AllP l) : CallsD Try.prog 70 args res := by
  unfold mulC at h; split at h
  · simp only [Option.some.injEq, Prod.mk.injEq] at h
    obtain ⟨rfl, rfl⟩ := h; obtain ⟨h0, h1, h2, h3, _⟩ := hl
    exact mulB_ok _ _ h0 h1 h2 h3
  · cases h
theorem limC_okA (args res l) (h : limC args = some (res, l)) (hl : AllP l) : CallsD Try.prog 59 args res := by
  unfold limC at h; split at h
  · simp only [Option.some.injEq, Prod.mk.injEq] at h
    obtain ⟨rfl, rfl⟩ := h
    exact limA_ok _ _ _
  · cases h
theorem limC_okB (args res l) (h : limC args = some (res, l)) (hl : AllP l) : CallsD Try.prog 23 args res := by
  unfold limC at h; split at h
  · simp only [Option.some.injEq, Prod.mk.injEq] at h
    obtain ⟨rfl, rfl⟩ := h
    exact limB_ok _ _ _
  · cases h
def X4 : Contracts := addCon 72 (.call cmpC) (addCon 77 (.call lessC) (addCon 68 (.call addC) (addCon 69 (.call addC) (addCon 51 (.call mulC) (addCon 70 (.call mulC) (addCon 59 (.call limC) (addCon 23 (.call limC) X3)))))))
theorem hX4 : ConOK Try.prog X4 := addCall_ok cmpC_ok (addCall_ok lessC_ok (addCall_ok addC_okA (addCall_ok addC_okB (addCall_ok mulC_okA (addCall_ok mulC_okB (addCall_ok limC_okA (addCall_ok limC_okB hX3)))))))
end MeterS
