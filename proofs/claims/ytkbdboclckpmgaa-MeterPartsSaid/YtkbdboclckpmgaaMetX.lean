/- The functions of the folder meter and what they reach: what they compute. No condition. -/
import Derived.Test.YtkbdboclckpmgaaMetR
set_option linter.unusedSectionVars false
set_option linter.unusedVariables false
set_option linter.unusedSimpArgs false
namespace MeterS
open Go Go.Dam Go.Proofs
set_option maxRecDepth 1000000
set_option linter.unusedVariables false
set_option linter.unusedSectionVars false
set_option linter.unusedSimpArgs false
theorem inn_none {f : Nat → Bool} : ∀ {m : Nat}, inn f m = none → ∀ i, i < m → f i = false
  | 0, _, i, h => by omega
  | m + 1, h, i, hi => by
    simp only [inn] at h
    cases c : f m with
    | true => simp only [c, cond_true] at h; cases h
    | false =>
      simp only [c, cond_false] at h
      rcases Nat.lt_or_ge i m with a | a
      · exact inn_none h i a
      · rw [show i = m by omega]; exact c
theorem inn_some {f : Nat → Bool} {j : Nat} : ∀ {m : Nat}, inn f m = some j → j < m ∧ f j = true ∧ ∀ i, j < i → i < m → f i = false
  | 0, h => by cases h
  | m + 1, h => by
    simp only [inn] at h
    cases c : f m with
    | true =>
      simp only [c, cond_true] at h
      obtain rfl := Option.some.inj h
      exact ⟨by omega, c, fun i h1 h2 => by omega⟩
    | false =>
      simp only [c, cond_false] at h
      obtain ⟨h1, h2, h3⟩ := inn_some h
      refine ⟨by omega, h2, fun i a b => ?_⟩
      rcases Nat.lt_or_ge i m with q | q
      · exact h3 i a q
      · rw [show i = m by omega]; exact c
theorem ovFrom_none {F : Nat → Nat → Bool} : ∀ {d k0 : Nat}, ovFrom F d k0 = none → ∀ k, k0 ≤ k → k < k0 + d → ∀ i, i ≤ k → F i k = false
  | 0, k0, _, k, h1, h2 => by omega
  | d + 1, k0, h, k, h1, h2 => by
    intro i hi
    simp only [ovFrom] at h
    cases c : inn (fun i => F i k0) (k0 + 1) with
    | some j => rw [c] at h; cases h
    | none =>
      rw [c] at h
      rcases Nat.lt_or_ge k0 k with a | a
      · exact ovFrom_none h k (by omega) (by omega) i hi
      · have e : k = k0 := by omega
        subst e
        exact inn_none c i (by omega)
theorem ovFrom_some {F : Nat → Nat → Bool} {i k : Nat} : ∀ {d k0 : Nat}, ovFrom F d k0 = some (i, k) → k0 ≤ k ∧ k < k0 + d ∧ i ≤ k ∧ F i k = true ∧ (∀ j, i < j → j ≤ k → F j k = false) ∧ ∀ k', k0 ≤ k' → k' < k → ∀ j, j ≤ k' → F j k' = false
  | 0, k0, h => by cases h
  | d + 1, k0, h => by
    simp only [ovFrom] at h
    cases c : inn (fun i => F i k0) (k0 + 1) with
    | some j =>
      rw [c] at h
      simp only [Option.some.injEq, Prod.mk.injEq] at h
      obtain ⟨rfl, rfl⟩ := h
      obtain ⟨h1, h2, h3⟩ := inn_some c
      exact ⟨by omega, by omega, by omega, h2, fun j a b => h3 j a (by omega), fun k' a b => by omega⟩
    | none =>
      rw [c] at h
      obtain ⟨h1, h2, h3, h4, h5, h6⟩ := ovFrom_some h
      refine ⟨by omega, by omega, h3, h4, h5, fun k' a b j hj => ?_⟩
      rcases Nat.lt_or_ge k0 k' with q | q
      · exact h6 k' (by omega) b j hj
      · have e : k' = k0 := by omega
        subst e
        exact inn_none c j (by omega)
/-- A part of a list. -/
def part (l : List Int) (a c : Nat) : List Int := (l.drop a).take (c - a)
theorem part_get {l : List Int} {a c j : Nat} (h : j < c - a) : (part l a c).getD j 0 = l.getD (a + j) 0 := by
  unfold part
  rw [List.getD_eq_getElem?_getD, List.getD_eq_getElem?_getD, List.getElem?_take_of_lt h, List.getElem?_drop]
theorem part_len {l : List Int} {a c : Nat} (h : c ≤ l.length) : (part l a c).length = c - a := by
  unfold part
  rw [List.length_take, List.length_drop]; omega
theorem part_sum {l : List Int} {a c : Nat} : ∀ (m i : Nat), i + m ≤ c - a → sumN (part l a c) i m = sumN l (a + i) m
  | 0, i, _ => rfl
  | m + 1, i, h => by
    rw [sumN, sumN, part_get (by omega), part_sum m (i + 1) (by omega), Nat.add_assoc]
theorem part_ovB {b r p : Int} {xs ys : List Int} {a c i k : Nat} (hi : i ≤ k) (hk : k < c - a) : ovB b r p (part xs a c) (part ys a c) i k = ovB b r p xs ys (a + i) (a + k) := by
  unfold ovB gapN
  rw [part_get (by omega), part_get (by omega), part_sum _ _ (by omega), show a + k + 1 - (a + i) = k + 1 - i by omega]
theorem okUp_of {xs ys : List Int} : ∀ {n : Nat}, (∀ j, j < n → okAt xs ys j = true) → okUp xs ys n = true
  | 0, _ => rfl
  | n + 1, h => by
    simp only [okUp, Bool.and_eq_true]
    exact ⟨okUp_of fun j hj => h j (by omega), h n (by omega)⟩
variable [Glo]
theorem part_cE {xs ys : List Int} {a c : Nat} (h : cE xs ys = 0) (hc : c ≤ xs.length) : cE (part xs a c) (part ys a c) = 0 := by
  obtain ⟨hn, hu⟩ := cE_ok h
  unfold cE
  rw [part_len hc, if_neg (by omega)]
  rw [if_pos]
  refine okUp_of fun j hj => okAt_iff.2 ?_
  obtain ⟨h1, h2, h3⟩ := okAt_iff.1 (okUp_at hu (a + j) (by omega))
  rw [part_get hj]
  refine ⟨h1, h2, ?_⟩
  rcases Nat.eq_zero_or_pos j with z | z
  · exact .inl z
  · refine .inr ?_
    rw [part_get hj, part_get (by omega)]
    rcases h3 with q | q
    · omega
    · rw [show a + j - 1 = a + (j - 1) by omega] at q; exact q
theorem part_ovE {b r p : Int} {xs ys : List Int} {a c : Nat} (hl : limE b r p = 0) (h : cE xs ys = 0) (hc : c ≤ xs.length) : ovE b r p (part xs a c) (part ys a c) = 0 := by
  unfold ovE; rw [if_pos hl, part_cE h hc]
theorem ovV_eq {b r p : Int} {xs ys : List Int} (hl : limE b r p = 0) (h : cE xs ys = 0) : ovV b r p xs ys = ovR b r p xs ys := by
  unfold ovV ovE; rw [if_pos hl, if_pos h]
/-- A part that is over has a pair that is. -/
theorem part_over {b r p : Int} {xs ys : List Int} {a c : Nat} (hl : limE b r p = 0) (h : cE xs ys = 0) (hc : c ≤ xs.length) (ho : (ovV b r p (part xs a c) (part ys a c)).isSome = true) :
    ∃ i k, a ≤ i ∧ i ≤ k ∧ k < c ∧ ovB b r p xs ys i k = true := by
  rw [ovV_eq hl (part_cE h hc)] at ho
  obtain ⟨⟨i, k⟩, e⟩ := Option.isSome_iff_exists.1 ho
  unfold ovR at e
  rw [part_len hc] at e
  obtain ⟨h1, h2, h3, h4, _⟩ := ovFrom_some e
  rw [part_ovB h3 (by omega)] at h4
  exact ⟨a + i, a + k, by omega, by omega, by omega, h4⟩
theorem ovV_none {b r p : Int} {xs ys : List Int} (hl : limE b r p = 0) (h : cE xs ys = 0) (ho : ovV b r p xs ys = none) : ∀ k, k < xs.length → ∀ i, i ≤ k → ovB b r p xs ys i k = false := by
  rw [ovV_eq hl h] at ho
  exact fun k hk i hi => ovFrom_none ho k (by omega) (by omega) i hi
theorem ovV_some {b r p : Int} {xs ys : List Int} {i k : Nat} (hl : limE b r p = 0) (h : cE xs ys = 0) (ho : ovV b r p xs ys = some (i, k)) :
    k < xs.length ∧ i ≤ k ∧ ovB b r p xs ys i k = true ∧ (∀ j, i < j → j ≤ k → ovB b r p xs ys j k = false) ∧ ∀ k', k' < k → ∀ j, j ≤ k' → ovB b r p xs ys j k' = false := by
  rw [ovV_eq hl h] at ho
  obtain ⟨_, h2, h3, h4, h5, h6⟩ := ovFrom_some ho
  exact ⟨by omega, h3, h4, h5, fun k' a j hj => h6 k' (by omega) a j hj⟩
theorem okUp_mono {xs ys : List Int} {n : Nat} (hu : okUp xs ys n = true) : ∀ (d i : Nat), i + d < n → xs.getD i 0 ≤ xs.getD (i + d) 0
  | 0, i, _ => by simp
  | d + 1, i, h => by
    have h1 := okUp_mono hu d i (by omega)
    obtain ⟨_, _, h3⟩ := okAt_iff.1 (okUp_at hu (i + (d + 1)) h)
    rcases h3 with q | q
    · omega
    · rw [show i + (d + 1) - 1 = i + d by omega] at q; omega
end MeterS

namespace MeterS
open Go Go.Dam Go.Proofs
set_option maxRecDepth 1000000
set_option linter.unusedVariables false
set_option linter.unusedSectionVars false
set_option linter.unusedSimpArgs false
theorem part_fold (l : List Int) (a c : Nat) : List.take (c - a) (List.drop a l) = part l a c := rfl
variable [Glo]
theorem law8_p0 (b : Int) (r : Int) (p : Int) (xs : List Int) (ys : List Int) (i : Int) (j : Int) : fnX Try.prog X12 100000 [.d true, .c 13] 8 [D.agg [D.v (Value.int IntKind.i64 b), D.v (Value.int IntKind.i64 r), D.v (Value.int IntKind.i64 p)],
  D.rc [Col.ints IntKind.u64 xs, Col.ints IntKind.i64 ys], D.v (Value.int IntKind.i64 i), D.v (Value.int IntKind.i64 j)] = some (D.v (Value.bool true), [cmpI BinOp.neq (limE b r p) 0 = true]) := by kernel_rfl
theorem law8_p1 (b : Int) (r : Int) (p : Int) (xs : List Int) (ys : List Int) (i : Int) (j : Int) : fnX Try.prog X12 100000 [.d false, .c 1, .d true, .c 10] 8 [D.agg [D.v (Value.int IntKind.i64 b), D.v (Value.int IntKind.i64 r), D.v (Value.int IntKind.i64 p)],
  D.rc [Col.ints IntKind.u64 xs, Col.ints IntKind.i64 ys], D.v (Value.int IntKind.i64 i), D.v (Value.int IntKind.i64 j)] = some (D.v (Value.bool true), [cmpI BinOp.neq (cE xs ys) 0 = true,
  cmpI BinOp.neq (limE b r p) 0 = false]) := by kernel_rfl
theorem law8_p2 (b : Int) (r : Int) (p : Int) (xs : List Int) (ys : List Int) (i : Int) (j : Int) : fnX Try.prog X12 100000 [.d false, .c 1, .d false, .c 0, .d true, .c 8] 8 [D.agg [D.v (Value.int IntKind.i64 b), D.v (Value.int IntKind.i64 r), D.v (Value.int IntKind.i64 p)],
  D.rc [Col.ints IntKind.u64 xs, Col.ints IntKind.i64 ys], D.v (Value.int IntKind.i64 i), D.v (Value.int IntKind.i64 j)] = some (D.v (Value.bool true), [cmpI BinOp.lss i 0 = true,
  cmpI BinOp.neq (cE xs ys) 0 = false,
  cmpI BinOp.neq (limE b r p) 0 = false]) := by kernel_rfl
theorem law8_p3 (b : Int) (r : Int) (p : Int) (xs : List Int) (ys : List Int) (i : Int) (j : Int) : fnX Try.prog X12 100000 [.d false, .c 1, .d false, .c 0, .d false, .c 1, .d true, .c 5] 8 [D.agg [D.v (Value.int IntKind.i64 b), D.v (Value.int IntKind.i64 r), D.v (Value.int IntKind.i64 p)],
  D.rc [Col.ints IntKind.u64 xs, Col.ints IntKind.i64 ys], D.v (Value.int IntKind.i64 i), D.v (Value.int IntKind.i64 j)] = some (D.v (Value.bool true), [cmpI BinOp.lss j i = true,
  cmpI BinOp.lss i 0 = false,
  cmpI BinOp.neq (cE xs ys) 0 = false,
  cmpI BinOp.neq (limE b r p) 0 = false]) := by kernel_rfl
theorem law8_p4 (b : Int) (r : Int) (p : Int) (xs : List Int) (ys : List Int) (i : Int) (j : Int) : fnX Try.prog X12 100000 [.d false, .c 1, .d false, .c 0, .d false, .c 1, .d false, .c 2, .d true, .c 1] 8 [D.agg [D.v (Value.int IntKind.i64 b), D.v (Value.int IntKind.i64 r), D.v (Value.int IntKind.i64 p)],
  D.rc [Col.ints IntKind.u64 xs, Col.ints IntKind.i64 ys], D.v (Value.int IntKind.i64 i), D.v (Value.int IntKind.i64 j)] = some (D.v (Value.bool true), [cmpI BinOp.gtr j ↑(rowLen [Col.ints IntKind.u64 xs, Col.ints IntKind.i64 ys]) = true,
  cmpI BinOp.lss j i = false,
  cmpI BinOp.lss i 0 = false,
  cmpI BinOp.neq (cE xs ys) 0 = false,
  cmpI BinOp.neq (limE b r p) 0 = false]) := by kernel_rfl
theorem law8_p5 (b : Int) (r : Int) (p : Int) (xs : List Int) (ys : List Int) (i : Int) (j : Int) : fnX Try.prog X12 100000 [.d false, .c 1, .d false, .c 0, .d false, .c 1, .d false, .c 2, .d false, .c 1, .d true, .c 4] 8 [D.agg [D.v (Value.int IntKind.i64 b), D.v (Value.int IntKind.i64 r), D.v (Value.int IntKind.i64 p)],
  D.rc [Col.ints IntKind.u64 xs, Col.ints IntKind.i64 ys], D.v (Value.int IntKind.i64 i), D.v (Value.int IntKind.i64 j)] = some (D.v (Value.bool false), [cmpI BinOp.neq (ovE b r p xs ys) 0 = true,
  decide (0 ≤ i) = true,
  decide (i ≤ j) = true,
  decide (j ≤ ↑(rowLen [Col.ints IntKind.u64 xs, Col.ints IntKind.i64 ys])) = true,
  cmpI BinOp.gtr j ↑(rowLen [Col.ints IntKind.u64 xs, Col.ints IntKind.i64 ys]) = false,
  cmpI BinOp.lss j i = false,
  cmpI BinOp.lss i 0 = false,
  cmpI BinOp.neq (cE xs ys) 0 = false,
  cmpI BinOp.neq (limE b r p) 0 = false]) := by kernel_rfl
theorem law8_p6 (b : Int) (r : Int) (p : Int) (xs : List Int) (ys : List Int) (i : Int) (j : Int) : fnX Try.prog X12 100000 [.d false, .c 1, .d false, .c 0, .d false, .c 1, .d false, .c 2, .d false, .c 1, .d false, .c 0, .d true, .c 2] 8 [D.agg [D.v (Value.int IntKind.i64 b), D.v (Value.int IntKind.i64 r), D.v (Value.int IntKind.i64 p)],
  D.rc [Col.ints IntKind.u64 xs, Col.ints IntKind.i64 ys], D.v (Value.int IntKind.i64 i), D.v (Value.int IntKind.i64 j)] = some (D.v (Value.bool false), [cmpI BinOp.neq
    (ovE b r p (List.take (j.toNat - i.toNat) (List.drop i.toNat xs))
      (List.take (j.toNat - i.toNat) (List.drop i.toNat ys)))
    0 =
  true,
  cmpI BinOp.neq (ovE b r p xs ys) 0 = false,
  decide (0 ≤ i) = true,
  decide (i ≤ j) = true,
  decide (j ≤ ↑(rowLen [Col.ints IntKind.u64 xs, Col.ints IntKind.i64 ys])) = true,
  cmpI BinOp.gtr j ↑(rowLen [Col.ints IntKind.u64 xs, Col.ints IntKind.i64 ys]) = false,
  cmpI BinOp.lss j i = false,
  cmpI BinOp.lss i 0 = false,
  cmpI BinOp.neq (cE xs ys) 0 = false,
  cmpI BinOp.neq (limE b r p) 0 = false]) := by kernel_rfl
theorem law8_p7 (b : Int) (r : Int) (p : Int) (xs : List Int) (ys : List Int) (i : Int) (j : Int) : fnX Try.prog X12 100000 [.d false, .c 1, .d false, .c 0, .d false, .c 1, .d false, .c 2, .d false, .c 1, .d false, .c 0, .d false, .c 0, .d true, .c 1, .d true] 8 [D.agg [D.v (Value.int IntKind.i64 b), D.v (Value.int IntKind.i64 r), D.v (Value.int IntKind.i64 p)],
  D.rc [Col.ints IntKind.u64 xs, Col.ints IntKind.i64 ys], D.v (Value.int IntKind.i64 i), D.v (Value.int IntKind.i64 j)] = some (D.v (Value.bool false), [(!(ovV b r p xs ys).isSome) = true,
  (ovV b r p (List.take (j.toNat - i.toNat) (List.drop i.toNat xs))
      (List.take (j.toNat - i.toNat) (List.drop i.toNat ys))).isSome =
  true,
  cmpI BinOp.neq
    (ovE b r p (List.take (j.toNat - i.toNat) (List.drop i.toNat xs))
      (List.take (j.toNat - i.toNat) (List.drop i.toNat ys)))
    0 =
  false,
  cmpI BinOp.neq (ovE b r p xs ys) 0 = false,
  decide (0 ≤ i) = true,
  decide (i ≤ j) = true,
  decide (j ≤ ↑(rowLen [Col.ints IntKind.u64 xs, Col.ints IntKind.i64 ys])) = true,
  cmpI BinOp.gtr j ↑(rowLen [Col.ints IntKind.u64 xs, Col.ints IntKind.i64 ys]) = false,
  cmpI BinOp.lss j i = false,
  cmpI BinOp.lss i 0 = false,
  cmpI BinOp.neq (cE xs ys) 0 = false,
  cmpI BinOp.neq (limE b r p) 0 = false]) := by kernel_rfl
theorem law8_p8 (b : Int) (r : Int) (p : Int) (xs : List Int) (ys : List Int) (i : Int) (j : Int) : fnX Try.prog X12 100000 [.d false, .c 1, .d false, .c 0, .d false, .c 1, .d false, .c 2, .d false, .c 1, .d false, .c 0, .d false, .c 0, .d true, .c 1, .d false, .d false, .d true, .c 6] 8 [D.agg [D.v (Value.int IntKind.i64 b), D.v (Value.int IntKind.i64 r), D.v (Value.int IntKind.i64 p)],
  D.rc [Col.ints IntKind.u64 xs, Col.ints IntKind.i64 ys], D.v (Value.int IntKind.i64 i), D.v (Value.int IntKind.i64 j)] = some (D.v (Value.bool false), [cmpI BinOp.lss (ovI (ovV b r p xs ys)) 0 = true,
  (!(ovV b r p xs ys).isSome) = false,
  (!(ovV b r p xs ys).isSome) = false,
  (ovV b r p (List.take (j.toNat - i.toNat) (List.drop i.toNat xs))
      (List.take (j.toNat - i.toNat) (List.drop i.toNat ys))).isSome =
  true,
  cmpI BinOp.neq
    (ovE b r p (List.take (j.toNat - i.toNat) (List.drop i.toNat xs))
      (List.take (j.toNat - i.toNat) (List.drop i.toNat ys)))
    0 =
  false,
  cmpI BinOp.neq (ovE b r p xs ys) 0 = false,
  decide (0 ≤ i) = true,
  decide (i ≤ j) = true,
  decide (j ≤ ↑(rowLen [Col.ints IntKind.u64 xs, Col.ints IntKind.i64 ys])) = true,
  cmpI BinOp.gtr j ↑(rowLen [Col.ints IntKind.u64 xs, Col.ints IntKind.i64 ys]) = false,
  cmpI BinOp.lss j i = false,
  cmpI BinOp.lss i 0 = false,
  cmpI BinOp.neq (cE xs ys) 0 = false,
  cmpI BinOp.neq (limE b r p) 0 = false]) := by kernel_rfl
theorem law8_p9 (b : Int) (r : Int) (p : Int) (xs : List Int) (ys : List Int) (i : Int) (j : Int) : fnX Try.prog X12 100000 [.d false, .c 1, .d false, .c 0, .d false, .c 1, .d false, .c 2, .d false, .c 1, .d false, .c 0, .d false, .c 0, .d true, .c 1, .d false, .d false, .d false, .c 1, .d true, .c 3] 8 [D.agg [D.v (Value.int IntKind.i64 b), D.v (Value.int IntKind.i64 r), D.v (Value.int IntKind.i64 p)],
  D.rc [Col.ints IntKind.u64 xs, Col.ints IntKind.i64 ys], D.v (Value.int IntKind.i64 i), D.v (Value.int IntKind.i64 j)] = some (D.v (Value.bool false), [cmpI BinOp.gtr (ovI (ovV b r p xs ys)) (ovK (ovV b r p xs ys)) = true,
  cmpI BinOp.lss (ovI (ovV b r p xs ys)) 0 = false,
  (!(ovV b r p xs ys).isSome) = false,
  (!(ovV b r p xs ys).isSome) = false,
  (ovV b r p (List.take (j.toNat - i.toNat) (List.drop i.toNat xs))
      (List.take (j.toNat - i.toNat) (List.drop i.toNat ys))).isSome =
  true,
  cmpI BinOp.neq
    (ovE b r p (List.take (j.toNat - i.toNat) (List.drop i.toNat xs))
      (List.take (j.toNat - i.toNat) (List.drop i.toNat ys)))
    0 =
  false,
  cmpI BinOp.neq (ovE b r p xs ys) 0 = false,
  decide (0 ≤ i) = true,
  decide (i ≤ j) = true,
  decide (j ≤ ↑(rowLen [Col.ints IntKind.u64 xs, Col.ints IntKind.i64 ys])) = true,
  cmpI BinOp.gtr j ↑(rowLen [Col.ints IntKind.u64 xs, Col.ints IntKind.i64 ys]) = false,
  cmpI BinOp.lss j i = false,
  cmpI BinOp.lss i 0 = false,
  cmpI BinOp.neq (cE xs ys) 0 = false,
  cmpI BinOp.neq (limE b r p) 0 = false]) := by kernel_rfl
theorem law8_p10 (b : Int) (r : Int) (p : Int) (xs : List Int) (ys : List Int) (i : Int) (j : Int) : fnX Try.prog X12 100000 [.d false, .c 1, .d false, .c 0, .d false, .c 1, .d false, .c 2, .d false, .c 1, .d false, .c 0, .d false, .c 0, .d true, .c 1, .d false, .d false, .d false, .c 1, .d false, .c 2, .d true] 8 [D.agg [D.v (Value.int IntKind.i64 b), D.v (Value.int IntKind.i64 r), D.v (Value.int IntKind.i64 p)],
  D.rc [Col.ints IntKind.u64 xs, Col.ints IntKind.i64 ys], D.v (Value.int IntKind.i64 i), D.v (Value.int IntKind.i64 j)] = some (D.v (Value.bool false), [cmpI BinOp.geq (ovK (ovV b r p xs ys)) ↑(rowLen [Col.ints IntKind.u64 xs, Col.ints IntKind.i64 ys]) = true,
  cmpI BinOp.gtr (ovI (ovV b r p xs ys)) (ovK (ovV b r p xs ys)) = false,
  cmpI BinOp.lss (ovI (ovV b r p xs ys)) 0 = false,
  (!(ovV b r p xs ys).isSome) = false,
  (!(ovV b r p xs ys).isSome) = false,
  (ovV b r p (List.take (j.toNat - i.toNat) (List.drop i.toNat xs))
      (List.take (j.toNat - i.toNat) (List.drop i.toNat ys))).isSome =
  true,
  cmpI BinOp.neq
    (ovE b r p (List.take (j.toNat - i.toNat) (List.drop i.toNat xs))
      (List.take (j.toNat - i.toNat) (List.drop i.toNat ys)))
    0 =
  false,
  cmpI BinOp.neq (ovE b r p xs ys) 0 = false,
  decide (0 ≤ i) = true,
  decide (i ≤ j) = true,
  decide (j ≤ ↑(rowLen [Col.ints IntKind.u64 xs, Col.ints IntKind.i64 ys])) = true,
  cmpI BinOp.gtr j ↑(rowLen [Col.ints IntKind.u64 xs, Col.ints IntKind.i64 ys]) = false,
  cmpI BinOp.lss j i = false,
  cmpI BinOp.lss i 0 = false,
  cmpI BinOp.neq (cE xs ys) 0 = false,
  cmpI BinOp.neq (limE b r p) 0 = false]) := by kernel_rfl
theorem law8_p11 (b : Int) (r : Int) (p : Int) (xs : List Int) (ys : List Int) (i : Int) (j : Int) : fnX Try.prog X12 100000 [.d false, .c 1, .d false, .c 0, .d false, .c 1, .d false, .c 2, .d false, .c 1, .d false, .c 0, .d false, .c 0, .d true, .c 1, .d false, .d false, .d false, .c 1, .d false, .c 2, .d false, .c 1, .d true, .c 4, .d true, .c 0, .d true, .c 0, .d true, .c 0, .d true, .c 0] 8 [D.agg [D.v (Value.int IntKind.i64 b), D.v (Value.int IntKind.i64 r), D.v (Value.int IntKind.i64 p)],
  D.rc [Col.ints IntKind.u64 xs, Col.ints IntKind.i64 ys], D.v (Value.int IntKind.i64 i), D.v (Value.int IntKind.i64 j)] = some (D.v
  (Value.bool
    !(ovV b r p
          (List.take
            ((opI BinOp.add IntKind.i64 (ovK (ovV b r p xs ys)) 1).toNat -
              (opI BinOp.add IntKind.i64 (ovI (ovV b r p xs ys)) 1).toNat)
            (List.drop (opI BinOp.add IntKind.i64 (ovI (ovV b r p xs ys)) 1).toNat xs))
          (List.take
            ((opI BinOp.add IntKind.i64 (ovK (ovV b r p xs ys)) 1).toNat -
              (opI BinOp.add IntKind.i64 (ovI (ovV b r p xs ys)) 1).toNat)
            (List.drop (opI BinOp.add IntKind.i64 (ovI (ovV b r p xs ys)) 1).toNat ys))).isSome), [cmpI BinOp.eql
    (ovE b r p
      (List.take
        ((opI BinOp.add IntKind.i64 (ovK (ovV b r p xs ys)) 1).toNat -
          (opI BinOp.add IntKind.i64 (ovI (ovV b r p xs ys)) 1).toNat)
        (List.drop (opI BinOp.add IntKind.i64 (ovI (ovV b r p xs ys)) 1).toNat xs))
      (List.take
        ((opI BinOp.add IntKind.i64 (ovK (ovV b r p xs ys)) 1).toNat -
          (opI BinOp.add IntKind.i64 (ovI (ovV b r p xs ys)) 1).toNat)
        (List.drop (opI BinOp.add IntKind.i64 (ovI (ovV b r p xs ys)) 1).toNat ys)))
    0 =
  true,
  (!(ovV b r p (List.take ((ovK (ovV b r p xs ys)).toNat - Int.toNat 0) (List.drop (Int.toNat 0) xs))
        (List.take ((ovK (ovV b r p xs ys)).toNat - Int.toNat 0) (List.drop (Int.toNat 0) ys))).isSome) =
  true,
  cmpI BinOp.eql
    (ovE b r p (List.take ((ovK (ovV b r p xs ys)).toNat - 0) (List.drop 0 xs))
      (List.take ((ovK (ovV b r p xs ys)).toNat - 0) (List.drop 0 ys)))
    0 =
  true,
  cmpI BinOp.gtr
    (sumN ys (ovI (ovV b r p xs ys)).toNat ((ovK (ovV b r p xs ys)).toNat + 1 - (ovI (ovV b r p xs ys)).toNat))
    (bV b r p (xs.getD (ovI (ovV b r p xs ys)).toNat 0) (xs.getD (ovK (ovV b r p xs ys)).toNat 0)) =
  true,
  cE xs ys = 0,
  0 ≤ ovI (ovV b r p xs ys),
  ovI (ovV b r p xs ys) ≤ ovK (ovV b r p xs ys),
  ovK (ovV b r p xs ys) < ↑xs.length,
  cmpI BinOp.eql (bE b r p (xs.getD (ovI (ovV b r p xs ys)).toNat 0) (xs.getD (ovK (ovV b r p xs ys)).toNat 0)) 0 = true,
  decide (0 ≤ opI BinOp.add IntKind.i64 (ovI (ovV b r p xs ys)) 1) = true,
  decide (opI BinOp.add IntKind.i64 (ovI (ovV b r p xs ys)) 1 ≤ opI BinOp.add IntKind.i64 (ovK (ovV b r p xs ys)) 1) =
  true,
  decide
    (opI BinOp.add IntKind.i64 (ovK (ovV b r p xs ys)) 1 ≤
      ↑(rowLen [Col.ints IntKind.u64 xs, Col.ints IntKind.i64 ys])) =
  true,
  true = true,
  decide (0 ≤ ovK (ovV b r p xs ys)) = true,
  decide (ovK (ovV b r p xs ys) ≤ ↑(rowLen [Col.ints IntKind.u64 xs, Col.ints IntKind.i64 ys])) = true,
  0 ≤ xs.getD (ovI (ovV b r p xs ys)).toNat 0,
  xs.getD (ovI (ovV b r p xs ys)).toNat 0 < 18446744073709551616,
  0 ≤ xs.getD (ovK (ovV b r p xs ys)).toNat 0,
  xs.getD (ovK (ovV b r p xs ys)).toNat 0 < 18446744073709551616,
  decide (0 ≤ ovK (ovV b r p xs ys)) = true,
  decide (ovK (ovV b r p xs ys) < ↑(rowLen [Col.ints IntKind.u64 xs, Col.ints IntKind.i64 ys])) = true,
  decide (0 ≤ ovI (ovV b r p xs ys)) = true,
  decide (ovI (ovV b r p xs ys) < ↑(rowLen [Col.ints IntKind.u64 xs, Col.ints IntKind.i64 ys])) = true,
  cmpI BinOp.geq (ovK (ovV b r p xs ys)) ↑(rowLen [Col.ints IntKind.u64 xs, Col.ints IntKind.i64 ys]) = false,
  cmpI BinOp.gtr (ovI (ovV b r p xs ys)) (ovK (ovV b r p xs ys)) = false,
  cmpI BinOp.lss (ovI (ovV b r p xs ys)) 0 = false,
  (!(ovV b r p xs ys).isSome) = false,
  (!(ovV b r p xs ys).isSome) = false,
  (ovV b r p (List.take (j.toNat - i.toNat) (List.drop i.toNat xs))
      (List.take (j.toNat - i.toNat) (List.drop i.toNat ys))).isSome =
  true,
  cmpI BinOp.neq
    (ovE b r p (List.take (j.toNat - i.toNat) (List.drop i.toNat xs))
      (List.take (j.toNat - i.toNat) (List.drop i.toNat ys)))
    0 =
  false,
  cmpI BinOp.neq (ovE b r p xs ys) 0 = false,
  decide (0 ≤ i) = true,
  decide (i ≤ j) = true,
  decide (j ≤ ↑(rowLen [Col.ints IntKind.u64 xs, Col.ints IntKind.i64 ys])) = true,
  cmpI BinOp.gtr j ↑(rowLen [Col.ints IntKind.u64 xs, Col.ints IntKind.i64 ys]) = false,
  cmpI BinOp.lss j i = false,
  cmpI BinOp.lss i 0 = false,
  cmpI BinOp.neq (cE xs ys) 0 = false,
  cmpI BinOp.neq (limE b r p) 0 = false]) := by kernel_rfl
theorem law8_p12 (b : Int) (r : Int) (p : Int) (xs : List Int) (ys : List Int) (i : Int) (j : Int) : fnX Try.prog X12 100000 [.d false, .c 1, .d false, .c 0, .d false, .c 1, .d false, .c 2, .d false, .c 1, .d false, .c 0, .d false, .c 0, .d true, .c 1, .d false, .d false, .d false, .c 1, .d false, .c 2, .d false, .c 1, .d true, .c 4, .d true, .c 0, .d true, .c 0, .d true, .c 0, .d false, .c 0] 8 [D.agg [D.v (Value.int IntKind.i64 b), D.v (Value.int IntKind.i64 r), D.v (Value.int IntKind.i64 p)],
  D.rc [Col.ints IntKind.u64 xs, Col.ints IntKind.i64 ys], D.v (Value.int IntKind.i64 i), D.v (Value.int IntKind.i64 j)] = some (D.v (Value.bool false), [cmpI BinOp.eql
    (ovE b r p
      (List.take
        ((opI BinOp.add IntKind.i64 (ovK (ovV b r p xs ys)) 1).toNat -
          (opI BinOp.add IntKind.i64 (ovI (ovV b r p xs ys)) 1).toNat)
        (List.drop (opI BinOp.add IntKind.i64 (ovI (ovV b r p xs ys)) 1).toNat xs))
      (List.take
        ((opI BinOp.add IntKind.i64 (ovK (ovV b r p xs ys)) 1).toNat -
          (opI BinOp.add IntKind.i64 (ovI (ovV b r p xs ys)) 1).toNat)
        (List.drop (opI BinOp.add IntKind.i64 (ovI (ovV b r p xs ys)) 1).toNat ys)))
    0 =
  false,
  (!(ovV b r p (List.take ((ovK (ovV b r p xs ys)).toNat - Int.toNat 0) (List.drop (Int.toNat 0) xs))
        (List.take ((ovK (ovV b r p xs ys)).toNat - Int.toNat 0) (List.drop (Int.toNat 0) ys))).isSome) =
  true,
  cmpI BinOp.eql
    (ovE b r p (List.take ((ovK (ovV b r p xs ys)).toNat - 0) (List.drop 0 xs))
      (List.take ((ovK (ovV b r p xs ys)).toNat - 0) (List.drop 0 ys)))
    0 =
  true,
  cmpI BinOp.gtr
    (sumN ys (ovI (ovV b r p xs ys)).toNat ((ovK (ovV b r p xs ys)).toNat + 1 - (ovI (ovV b r p xs ys)).toNat))
    (bV b r p (xs.getD (ovI (ovV b r p xs ys)).toNat 0) (xs.getD (ovK (ovV b r p xs ys)).toNat 0)) =
  true,
  cE xs ys = 0,
  0 ≤ ovI (ovV b r p xs ys),
  ovI (ovV b r p xs ys) ≤ ovK (ovV b r p xs ys),
  ovK (ovV b r p xs ys) < ↑xs.length,
  cmpI BinOp.eql (bE b r p (xs.getD (ovI (ovV b r p xs ys)).toNat 0) (xs.getD (ovK (ovV b r p xs ys)).toNat 0)) 0 = true,
  decide (0 ≤ opI BinOp.add IntKind.i64 (ovI (ovV b r p xs ys)) 1) = true,
  decide (opI BinOp.add IntKind.i64 (ovI (ovV b r p xs ys)) 1 ≤ opI BinOp.add IntKind.i64 (ovK (ovV b r p xs ys)) 1) =
  true,
  decide
    (opI BinOp.add IntKind.i64 (ovK (ovV b r p xs ys)) 1 ≤
      ↑(rowLen [Col.ints IntKind.u64 xs, Col.ints IntKind.i64 ys])) =
  true,
  true = true,
  decide (0 ≤ ovK (ovV b r p xs ys)) = true,
  decide (ovK (ovV b r p xs ys) ≤ ↑(rowLen [Col.ints IntKind.u64 xs, Col.ints IntKind.i64 ys])) = true,
  0 ≤ xs.getD (ovI (ovV b r p xs ys)).toNat 0,
  xs.getD (ovI (ovV b r p xs ys)).toNat 0 < 18446744073709551616,
  0 ≤ xs.getD (ovK (ovV b r p xs ys)).toNat 0,
  xs.getD (ovK (ovV b r p xs ys)).toNat 0 < 18446744073709551616,
  decide (0 ≤ ovK (ovV b r p xs ys)) = true,
  decide (ovK (ovV b r p xs ys) < ↑(rowLen [Col.ints IntKind.u64 xs, Col.ints IntKind.i64 ys])) = true,
  decide (0 ≤ ovI (ovV b r p xs ys)) = true,
  decide (ovI (ovV b r p xs ys) < ↑(rowLen [Col.ints IntKind.u64 xs, Col.ints IntKind.i64 ys])) = true,
  cmpI BinOp.geq (ovK (ovV b r p xs ys)) ↑(rowLen [Col.ints IntKind.u64 xs, Col.ints IntKind.i64 ys]) = false,
  cmpI BinOp.gtr (ovI (ovV b r p xs ys)) (ovK (ovV b r p xs ys)) = false,
  cmpI BinOp.lss (ovI (ovV b r p xs ys)) 0 = false,
  (!(ovV b r p xs ys).isSome) = false,
  (!(ovV b r p xs ys).isSome) = false,
  (ovV b r p (List.take (j.toNat - i.toNat) (List.drop i.toNat xs))
      (List.take (j.toNat - i.toNat) (List.drop i.toNat ys))).isSome =
  true,
  cmpI BinOp.neq
    (ovE b r p (List.take (j.toNat - i.toNat) (List.drop i.toNat xs))
      (List.take (j.toNat - i.toNat) (List.drop i.toNat ys)))
    0 =
  false,
  cmpI BinOp.neq (ovE b r p xs ys) 0 = false,
  decide (0 ≤ i) = true,
  decide (i ≤ j) = true,
  decide (j ≤ ↑(rowLen [Col.ints IntKind.u64 xs, Col.ints IntKind.i64 ys])) = true,
  cmpI BinOp.gtr j ↑(rowLen [Col.ints IntKind.u64 xs, Col.ints IntKind.i64 ys]) = false,
  cmpI BinOp.lss j i = false,
  cmpI BinOp.lss i 0 = false,
  cmpI BinOp.neq (cE xs ys) 0 = false,
  cmpI BinOp.neq (limE b r p) 0 = false]) := by kernel_rfl
theorem law8_p13 (b : Int) (r : Int) (p : Int) (xs : List Int) (ys : List Int) (i : Int) (j : Int) : fnX Try.prog X12 100000 [.d false, .c 1, .d false, .c 0, .d false, .c 1, .d false, .c 2, .d false, .c 1, .d false, .c 0, .d false, .c 0, .d true, .c 1, .d false, .d false, .d false, .c 1, .d false, .c 2, .d false, .c 1, .d true, .c 4, .d true, .c 0, .d true, .c 0, .d false, .c 2] 8 [D.agg [D.v (Value.int IntKind.i64 b), D.v (Value.int IntKind.i64 r), D.v (Value.int IntKind.i64 p)],
  D.rc [Col.ints IntKind.u64 xs, Col.ints IntKind.i64 ys], D.v (Value.int IntKind.i64 i), D.v (Value.int IntKind.i64 j)] = some (D.v (Value.bool false), [(!(ovV b r p (List.take ((ovK (ovV b r p xs ys)).toNat - Int.toNat 0) (List.drop (Int.toNat 0) xs))
        (List.take ((ovK (ovV b r p xs ys)).toNat - Int.toNat 0) (List.drop (Int.toNat 0) ys))).isSome) =
  false,
  cmpI BinOp.eql
    (ovE b r p (List.take ((ovK (ovV b r p xs ys)).toNat - 0) (List.drop 0 xs))
      (List.take ((ovK (ovV b r p xs ys)).toNat - 0) (List.drop 0 ys)))
    0 =
  true,
  cmpI BinOp.gtr
    (sumN ys (ovI (ovV b r p xs ys)).toNat ((ovK (ovV b r p xs ys)).toNat + 1 - (ovI (ovV b r p xs ys)).toNat))
    (bV b r p (xs.getD (ovI (ovV b r p xs ys)).toNat 0) (xs.getD (ovK (ovV b r p xs ys)).toNat 0)) =
  true,
  cE xs ys = 0,
  0 ≤ ovI (ovV b r p xs ys),
  ovI (ovV b r p xs ys) ≤ ovK (ovV b r p xs ys),
  ovK (ovV b r p xs ys) < ↑xs.length,
  cmpI BinOp.eql (bE b r p (xs.getD (ovI (ovV b r p xs ys)).toNat 0) (xs.getD (ovK (ovV b r p xs ys)).toNat 0)) 0 = true,
  decide (0 ≤ opI BinOp.add IntKind.i64 (ovI (ovV b r p xs ys)) 1) = true,
  decide (opI BinOp.add IntKind.i64 (ovI (ovV b r p xs ys)) 1 ≤ opI BinOp.add IntKind.i64 (ovK (ovV b r p xs ys)) 1) =
  true,
  decide
    (opI BinOp.add IntKind.i64 (ovK (ovV b r p xs ys)) 1 ≤
      ↑(rowLen [Col.ints IntKind.u64 xs, Col.ints IntKind.i64 ys])) =
  true,
  true = true,
  decide (0 ≤ ovK (ovV b r p xs ys)) = true,
  decide (ovK (ovV b r p xs ys) ≤ ↑(rowLen [Col.ints IntKind.u64 xs, Col.ints IntKind.i64 ys])) = true,
  0 ≤ xs.getD (ovI (ovV b r p xs ys)).toNat 0,
  xs.getD (ovI (ovV b r p xs ys)).toNat 0 < 18446744073709551616,
  0 ≤ xs.getD (ovK (ovV b r p xs ys)).toNat 0,
  xs.getD (ovK (ovV b r p xs ys)).toNat 0 < 18446744073709551616,
  decide (0 ≤ ovK (ovV b r p xs ys)) = true,
  decide (ovK (ovV b r p xs ys) < ↑(rowLen [Col.ints IntKind.u64 xs, Col.ints IntKind.i64 ys])) = true,
  decide (0 ≤ ovI (ovV b r p xs ys)) = true,
  decide (ovI (ovV b r p xs ys) < ↑(rowLen [Col.ints IntKind.u64 xs, Col.ints IntKind.i64 ys])) = true,
  cmpI BinOp.geq (ovK (ovV b r p xs ys)) ↑(rowLen [Col.ints IntKind.u64 xs, Col.ints IntKind.i64 ys]) = false,
  cmpI BinOp.gtr (ovI (ovV b r p xs ys)) (ovK (ovV b r p xs ys)) = false,
  cmpI BinOp.lss (ovI (ovV b r p xs ys)) 0 = false,
  (!(ovV b r p xs ys).isSome) = false,
  (!(ovV b r p xs ys).isSome) = false,
  (ovV b r p (List.take (j.toNat - i.toNat) (List.drop i.toNat xs))
      (List.take (j.toNat - i.toNat) (List.drop i.toNat ys))).isSome =
  true,
  cmpI BinOp.neq
    (ovE b r p (List.take (j.toNat - i.toNat) (List.drop i.toNat xs))
      (List.take (j.toNat - i.toNat) (List.drop i.toNat ys)))
    0 =
  false,
  cmpI BinOp.neq (ovE b r p xs ys) 0 = false,
  decide (0 ≤ i) = true,
  decide (i ≤ j) = true,
  decide (j ≤ ↑(rowLen [Col.ints IntKind.u64 xs, Col.ints IntKind.i64 ys])) = true,
  cmpI BinOp.gtr j ↑(rowLen [Col.ints IntKind.u64 xs, Col.ints IntKind.i64 ys]) = false,
  cmpI BinOp.lss j i = false,
  cmpI BinOp.lss i 0 = false,
  cmpI BinOp.neq (cE xs ys) 0 = false,
  cmpI BinOp.neq (limE b r p) 0 = false]) := by kernel_rfl
theorem law8_p14 (b : Int) (r : Int) (p : Int) (xs : List Int) (ys : List Int) (i : Int) (j : Int) : fnX Try.prog X12 100000 [.d false, .c 1, .d false, .c 0, .d false, .c 1, .d false, .c 2, .d false, .c 1, .d false, .c 0, .d false, .c 0, .d true, .c 1, .d false, .d false, .d false, .c 1, .d false, .c 2, .d false, .c 1, .d true, .c 4, .d true, .c 0, .d false, .c 4] 8 [D.agg [D.v (Value.int IntKind.i64 b), D.v (Value.int IntKind.i64 r), D.v (Value.int IntKind.i64 p)],
  D.rc [Col.ints IntKind.u64 xs, Col.ints IntKind.i64 ys], D.v (Value.int IntKind.i64 i), D.v (Value.int IntKind.i64 j)] = some (D.v (Value.bool false), [cmpI BinOp.eql
    (ovE b r p (List.take ((ovK (ovV b r p xs ys)).toNat - 0) (List.drop 0 xs))
      (List.take ((ovK (ovV b r p xs ys)).toNat - 0) (List.drop 0 ys)))
    0 =
  false,
  cmpI BinOp.gtr
    (sumN ys (ovI (ovV b r p xs ys)).toNat ((ovK (ovV b r p xs ys)).toNat + 1 - (ovI (ovV b r p xs ys)).toNat))
    (bV b r p (xs.getD (ovI (ovV b r p xs ys)).toNat 0) (xs.getD (ovK (ovV b r p xs ys)).toNat 0)) =
  true,
  cE xs ys = 0,
  0 ≤ ovI (ovV b r p xs ys),
  ovI (ovV b r p xs ys) ≤ ovK (ovV b r p xs ys),
  ovK (ovV b r p xs ys) < ↑xs.length,
  cmpI BinOp.eql (bE b r p (xs.getD (ovI (ovV b r p xs ys)).toNat 0) (xs.getD (ovK (ovV b r p xs ys)).toNat 0)) 0 = true,
  decide (0 ≤ opI BinOp.add IntKind.i64 (ovI (ovV b r p xs ys)) 1) = true,
  decide (opI BinOp.add IntKind.i64 (ovI (ovV b r p xs ys)) 1 ≤ opI BinOp.add IntKind.i64 (ovK (ovV b r p xs ys)) 1) =
  true,
  decide
    (opI BinOp.add IntKind.i64 (ovK (ovV b r p xs ys)) 1 ≤
      ↑(rowLen [Col.ints IntKind.u64 xs, Col.ints IntKind.i64 ys])) =
  true,
  true = true,
  decide (0 ≤ ovK (ovV b r p xs ys)) = true,
  decide (ovK (ovV b r p xs ys) ≤ ↑(rowLen [Col.ints IntKind.u64 xs, Col.ints IntKind.i64 ys])) = true,
  0 ≤ xs.getD (ovI (ovV b r p xs ys)).toNat 0,
  xs.getD (ovI (ovV b r p xs ys)).toNat 0 < 18446744073709551616,
  0 ≤ xs.getD (ovK (ovV b r p xs ys)).toNat 0,
  xs.getD (ovK (ovV b r p xs ys)).toNat 0 < 18446744073709551616,
  decide (0 ≤ ovK (ovV b r p xs ys)) = true,
  decide (ovK (ovV b r p xs ys) < ↑(rowLen [Col.ints IntKind.u64 xs, Col.ints IntKind.i64 ys])) = true,
  decide (0 ≤ ovI (ovV b r p xs ys)) = true,
  decide (ovI (ovV b r p xs ys) < ↑(rowLen [Col.ints IntKind.u64 xs, Col.ints IntKind.i64 ys])) = true,
  cmpI BinOp.geq (ovK (ovV b r p xs ys)) ↑(rowLen [Col.ints IntKind.u64 xs, Col.ints IntKind.i64 ys]) = false,
  cmpI BinOp.gtr (ovI (ovV b r p xs ys)) (ovK (ovV b r p xs ys)) = false,
  cmpI BinOp.lss (ovI (ovV b r p xs ys)) 0 = false,
  (!(ovV b r p xs ys).isSome) = false,
  (!(ovV b r p xs ys).isSome) = false,
  (ovV b r p (List.take (j.toNat - i.toNat) (List.drop i.toNat xs))
      (List.take (j.toNat - i.toNat) (List.drop i.toNat ys))).isSome =
  true,
  cmpI BinOp.neq
    (ovE b r p (List.take (j.toNat - i.toNat) (List.drop i.toNat xs))
      (List.take (j.toNat - i.toNat) (List.drop i.toNat ys)))
    0 =
  false,
  cmpI BinOp.neq (ovE b r p xs ys) 0 = false,
  decide (0 ≤ i) = true,
  decide (i ≤ j) = true,
  decide (j ≤ ↑(rowLen [Col.ints IntKind.u64 xs, Col.ints IntKind.i64 ys])) = true,
  cmpI BinOp.gtr j ↑(rowLen [Col.ints IntKind.u64 xs, Col.ints IntKind.i64 ys]) = false,
  cmpI BinOp.lss j i = false,
  cmpI BinOp.lss i 0 = false,
  cmpI BinOp.neq (cE xs ys) 0 = false,
  cmpI BinOp.neq (limE b r p) 0 = false]) := by kernel_rfl
theorem law8_p15 (b : Int) (r : Int) (p : Int) (xs : List Int) (ys : List Int) (i : Int) (j : Int) : fnX Try.prog X12 100000 [.d false, .c 1, .d false, .c 0, .d false, .c 1, .d false, .c 2, .d false, .c 1, .d false, .c 0, .d false, .c 0, .d true, .c 1, .d false, .d false, .d false, .c 1, .d false, .c 2, .d false, .c 1, .d true, .c 4, .d false, .c 6] 8 [D.agg [D.v (Value.int IntKind.i64 b), D.v (Value.int IntKind.i64 r), D.v (Value.int IntKind.i64 p)],
  D.rc [Col.ints IntKind.u64 xs, Col.ints IntKind.i64 ys], D.v (Value.int IntKind.i64 i), D.v (Value.int IntKind.i64 j)] = some (D.v (Value.bool false), [cmpI BinOp.gtr
    (sumN ys (ovI (ovV b r p xs ys)).toNat ((ovK (ovV b r p xs ys)).toNat + 1 - (ovI (ovV b r p xs ys)).toNat))
    (bV b r p (xs.getD (ovI (ovV b r p xs ys)).toNat 0) (xs.getD (ovK (ovV b r p xs ys)).toNat 0)) =
  false,
  cE xs ys = 0,
  0 ≤ ovI (ovV b r p xs ys),
  ovI (ovV b r p xs ys) ≤ ovK (ovV b r p xs ys),
  ovK (ovV b r p xs ys) < ↑xs.length,
  cmpI BinOp.eql (bE b r p (xs.getD (ovI (ovV b r p xs ys)).toNat 0) (xs.getD (ovK (ovV b r p xs ys)).toNat 0)) 0 = true,
  decide (0 ≤ opI BinOp.add IntKind.i64 (ovI (ovV b r p xs ys)) 1) = true,
  decide (opI BinOp.add IntKind.i64 (ovI (ovV b r p xs ys)) 1 ≤ opI BinOp.add IntKind.i64 (ovK (ovV b r p xs ys)) 1) =
  true,
  decide
    (opI BinOp.add IntKind.i64 (ovK (ovV b r p xs ys)) 1 ≤
      ↑(rowLen [Col.ints IntKind.u64 xs, Col.ints IntKind.i64 ys])) =
  true,
  true = true,
  decide (0 ≤ ovK (ovV b r p xs ys)) = true,
  decide (ovK (ovV b r p xs ys) ≤ ↑(rowLen [Col.ints IntKind.u64 xs, Col.ints IntKind.i64 ys])) = true,
  0 ≤ xs.getD (ovI (ovV b r p xs ys)).toNat 0,
  xs.getD (ovI (ovV b r p xs ys)).toNat 0 < 18446744073709551616,
  0 ≤ xs.getD (ovK (ovV b r p xs ys)).toNat 0,
  xs.getD (ovK (ovV b r p xs ys)).toNat 0 < 18446744073709551616,
  decide (0 ≤ ovK (ovV b r p xs ys)) = true,
  decide (ovK (ovV b r p xs ys) < ↑(rowLen [Col.ints IntKind.u64 xs, Col.ints IntKind.i64 ys])) = true,
  decide (0 ≤ ovI (ovV b r p xs ys)) = true,
  decide (ovI (ovV b r p xs ys) < ↑(rowLen [Col.ints IntKind.u64 xs, Col.ints IntKind.i64 ys])) = true,
  cmpI BinOp.geq (ovK (ovV b r p xs ys)) ↑(rowLen [Col.ints IntKind.u64 xs, Col.ints IntKind.i64 ys]) = false,
  cmpI BinOp.gtr (ovI (ovV b r p xs ys)) (ovK (ovV b r p xs ys)) = false,
  cmpI BinOp.lss (ovI (ovV b r p xs ys)) 0 = false,
  (!(ovV b r p xs ys).isSome) = false,
  (!(ovV b r p xs ys).isSome) = false,
  (ovV b r p (List.take (j.toNat - i.toNat) (List.drop i.toNat xs))
      (List.take (j.toNat - i.toNat) (List.drop i.toNat ys))).isSome =
  true,
  cmpI BinOp.neq
    (ovE b r p (List.take (j.toNat - i.toNat) (List.drop i.toNat xs))
      (List.take (j.toNat - i.toNat) (List.drop i.toNat ys)))
    0 =
  false,
  cmpI BinOp.neq (ovE b r p xs ys) 0 = false,
  decide (0 ≤ i) = true,
  decide (i ≤ j) = true,
  decide (j ≤ ↑(rowLen [Col.ints IntKind.u64 xs, Col.ints IntKind.i64 ys])) = true,
  cmpI BinOp.gtr j ↑(rowLen [Col.ints IntKind.u64 xs, Col.ints IntKind.i64 ys]) = false,
  cmpI BinOp.lss j i = false,
  cmpI BinOp.lss i 0 = false,
  cmpI BinOp.neq (cE xs ys) 0 = false,
  cmpI BinOp.neq (limE b r p) 0 = false]) := by kernel_rfl
theorem law8_p16 (b : Int) (r : Int) (p : Int) (xs : List Int) (ys : List Int) (i : Int) (j : Int) : fnX Try.prog X12 100000 [.d false, .c 1, .d false, .c 0, .d false, .c 1, .d false, .c 2, .d false, .c 1, .d false, .c 0, .d false, .c 0, .d true, .c 1, .d false, .d false, .d false, .c 1, .d false, .c 2, .d false, .c 1, .d false, .c 12] 8 [D.agg [D.v (Value.int IntKind.i64 b), D.v (Value.int IntKind.i64 r), D.v (Value.int IntKind.i64 p)],
  D.rc [Col.ints IntKind.u64 xs, Col.ints IntKind.i64 ys], D.v (Value.int IntKind.i64 i), D.v (Value.int IntKind.i64 j)] = some (D.v (Value.bool false), [cmpI BinOp.eql (bE b r p (xs.getD (ovI (ovV b r p xs ys)).toNat 0) (xs.getD (ovK (ovV b r p xs ys)).toNat 0)) 0 = false,
  decide (0 ≤ opI BinOp.add IntKind.i64 (ovI (ovV b r p xs ys)) 1) = true,
  decide (opI BinOp.add IntKind.i64 (ovI (ovV b r p xs ys)) 1 ≤ opI BinOp.add IntKind.i64 (ovK (ovV b r p xs ys)) 1) =
  true,
  decide
    (opI BinOp.add IntKind.i64 (ovK (ovV b r p xs ys)) 1 ≤
      ↑(rowLen [Col.ints IntKind.u64 xs, Col.ints IntKind.i64 ys])) =
  true,
  true = true,
  decide (0 ≤ ovK (ovV b r p xs ys)) = true,
  decide (ovK (ovV b r p xs ys) ≤ ↑(rowLen [Col.ints IntKind.u64 xs, Col.ints IntKind.i64 ys])) = true,
  0 ≤ xs.getD (ovI (ovV b r p xs ys)).toNat 0,
  xs.getD (ovI (ovV b r p xs ys)).toNat 0 < 18446744073709551616,
  0 ≤ xs.getD (ovK (ovV b r p xs ys)).toNat 0,
  xs.getD (ovK (ovV b r p xs ys)).toNat 0 < 18446744073709551616,
  decide (0 ≤ ovK (ovV b r p xs ys)) = true,
  decide (ovK (ovV b r p xs ys) < ↑(rowLen [Col.ints IntKind.u64 xs, Col.ints IntKind.i64 ys])) = true,
  decide (0 ≤ ovI (ovV b r p xs ys)) = true,
  decide (ovI (ovV b r p xs ys) < ↑(rowLen [Col.ints IntKind.u64 xs, Col.ints IntKind.i64 ys])) = true,
  cmpI BinOp.geq (ovK (ovV b r p xs ys)) ↑(rowLen [Col.ints IntKind.u64 xs, Col.ints IntKind.i64 ys]) = false,
  cmpI BinOp.gtr (ovI (ovV b r p xs ys)) (ovK (ovV b r p xs ys)) = false,
  cmpI BinOp.lss (ovI (ovV b r p xs ys)) 0 = false,
  (!(ovV b r p xs ys).isSome) = false,
  (!(ovV b r p xs ys).isSome) = false,
  (ovV b r p (List.take (j.toNat - i.toNat) (List.drop i.toNat xs))
      (List.take (j.toNat - i.toNat) (List.drop i.toNat ys))).isSome =
  true,
  cmpI BinOp.neq
    (ovE b r p (List.take (j.toNat - i.toNat) (List.drop i.toNat xs))
      (List.take (j.toNat - i.toNat) (List.drop i.toNat ys)))
    0 =
  false,
  cmpI BinOp.neq (ovE b r p xs ys) 0 = false,
  decide (0 ≤ i) = true,
  decide (i ≤ j) = true,
  decide (j ≤ ↑(rowLen [Col.ints IntKind.u64 xs, Col.ints IntKind.i64 ys])) = true,
  cmpI BinOp.gtr j ↑(rowLen [Col.ints IntKind.u64 xs, Col.ints IntKind.i64 ys]) = false,
  cmpI BinOp.lss j i = false,
  cmpI BinOp.lss i 0 = false,
  cmpI BinOp.neq (cE xs ys) 0 = false,
  cmpI BinOp.neq (limE b r p) 0 = false]) := by kernel_rfl
theorem law8_p17 (b : Int) (r : Int) (p : Int) (xs : List Int) (ys : List Int) (i : Int) (j : Int) : fnX Try.prog X12 100000 [.d false, .c 1, .d false, .c 0, .d false, .c 1, .d false, .c 2, .d false, .c 1, .d false, .c 0, .d false, .c 0, .d false, .c 2, .d true, .c 1, .d true, .c 0] 8 [D.agg [D.v (Value.int IntKind.i64 b), D.v (Value.int IntKind.i64 r), D.v (Value.int IntKind.i64 p)],
  D.rc [Col.ints IntKind.u64 xs, Col.ints IntKind.i64 ys], D.v (Value.int IntKind.i64 i), D.v (Value.int IntKind.i64 j)] = some (D.v (Value.bool (cmpI BinOp.eql (ovK (ovV b r p xs ys)) 0)), [cmpI BinOp.eql (ovI (ovV b r p xs ys)) 0 = true,
  (!(ovV b r p xs ys).isSome) = true,
  (ovV b r p (List.take (j.toNat - i.toNat) (List.drop i.toNat xs))
      (List.take (j.toNat - i.toNat) (List.drop i.toNat ys))).isSome =
  false,
  cmpI BinOp.neq
    (ovE b r p (List.take (j.toNat - i.toNat) (List.drop i.toNat xs))
      (List.take (j.toNat - i.toNat) (List.drop i.toNat ys)))
    0 =
  false,
  cmpI BinOp.neq (ovE b r p xs ys) 0 = false,
  decide (0 ≤ i) = true,
  decide (i ≤ j) = true,
  decide (j ≤ ↑(rowLen [Col.ints IntKind.u64 xs, Col.ints IntKind.i64 ys])) = true,
  cmpI BinOp.gtr j ↑(rowLen [Col.ints IntKind.u64 xs, Col.ints IntKind.i64 ys]) = false,
  cmpI BinOp.lss j i = false,
  cmpI BinOp.lss i 0 = false,
  cmpI BinOp.neq (cE xs ys) 0 = false,
  cmpI BinOp.neq (limE b r p) 0 = false]) := by kernel_rfl
theorem law8_p18 (b : Int) (r : Int) (p : Int) (xs : List Int) (ys : List Int) (i : Int) (j : Int) : fnX Try.prog X12 100000 [.d false, .c 1, .d false, .c 0, .d false, .c 1, .d false, .c 2, .d false, .c 1, .d false, .c 0, .d false, .c 0, .d false, .c 2, .d true, .c 1, .d false, .c 0] 8 [D.agg [D.v (Value.int IntKind.i64 b), D.v (Value.int IntKind.i64 r), D.v (Value.int IntKind.i64 p)],
  D.rc [Col.ints IntKind.u64 xs, Col.ints IntKind.i64 ys], D.v (Value.int IntKind.i64 i), D.v (Value.int IntKind.i64 j)] = some (D.v (Value.bool false), [cmpI BinOp.eql (ovI (ovV b r p xs ys)) 0 = false,
  (!(ovV b r p xs ys).isSome) = true,
  (ovV b r p (List.take (j.toNat - i.toNat) (List.drop i.toNat xs))
      (List.take (j.toNat - i.toNat) (List.drop i.toNat ys))).isSome =
  false,
  cmpI BinOp.neq
    (ovE b r p (List.take (j.toNat - i.toNat) (List.drop i.toNat xs))
      (List.take (j.toNat - i.toNat) (List.drop i.toNat ys)))
    0 =
  false,
  cmpI BinOp.neq (ovE b r p xs ys) 0 = false,
  decide (0 ≤ i) = true,
  decide (i ≤ j) = true,
  decide (j ≤ ↑(rowLen [Col.ints IntKind.u64 xs, Col.ints IntKind.i64 ys])) = true,
  cmpI BinOp.gtr j ↑(rowLen [Col.ints IntKind.u64 xs, Col.ints IntKind.i64 ys]) = false,
  cmpI BinOp.lss j i = false,
  cmpI BinOp.lss i 0 = false,
  cmpI BinOp.neq (cE xs ys) 0 = false,
  cmpI BinOp.neq (limE b r p) 0 = false]) := by kernel_rfl
theorem law8_p19 (b : Int) (r : Int) (p : Int) (xs : List Int) (ys : List Int) (i : Int) (j : Int) : fnX Try.prog X12 100000 [.d false, .c 1, .d false, .c 0, .d false, .c 1, .d false, .c 2, .d false, .c 1, .d false, .c 0, .d false, .c 0, .d false, .c 2, .d false, .d true, .c 6] 8 [D.agg [D.v (Value.int IntKind.i64 b), D.v (Value.int IntKind.i64 r), D.v (Value.int IntKind.i64 p)],
  D.rc [Col.ints IntKind.u64 xs, Col.ints IntKind.i64 ys], D.v (Value.int IntKind.i64 i), D.v (Value.int IntKind.i64 j)] = some (D.v (Value.bool false), [cmpI BinOp.lss (ovI (ovV b r p xs ys)) 0 = true,
  (!(ovV b r p xs ys).isSome) = false,
  (ovV b r p (List.take (j.toNat - i.toNat) (List.drop i.toNat xs))
      (List.take (j.toNat - i.toNat) (List.drop i.toNat ys))).isSome =
  false,
  cmpI BinOp.neq
    (ovE b r p (List.take (j.toNat - i.toNat) (List.drop i.toNat xs))
      (List.take (j.toNat - i.toNat) (List.drop i.toNat ys)))
    0 =
  false,
  cmpI BinOp.neq (ovE b r p xs ys) 0 = false,
  decide (0 ≤ i) = true,
  decide (i ≤ j) = true,
  decide (j ≤ ↑(rowLen [Col.ints IntKind.u64 xs, Col.ints IntKind.i64 ys])) = true,
  cmpI BinOp.gtr j ↑(rowLen [Col.ints IntKind.u64 xs, Col.ints IntKind.i64 ys]) = false,
  cmpI BinOp.lss j i = false,
  cmpI BinOp.lss i 0 = false,
  cmpI BinOp.neq (cE xs ys) 0 = false,
  cmpI BinOp.neq (limE b r p) 0 = false]) := by kernel_rfl
theorem law8_p20 (b : Int) (r : Int) (p : Int) (xs : List Int) (ys : List Int) (i : Int) (j : Int) : fnX Try.prog X12 100000 [.d false, .c 1, .d false, .c 0, .d false, .c 1, .d false, .c 2, .d false, .c 1, .d false, .c 0, .d false, .c 0, .d false, .c 2, .d false, .d false, .c 1, .d true, .c 3] 8 [D.agg [D.v (Value.int IntKind.i64 b), D.v (Value.int IntKind.i64 r), D.v (Value.int IntKind.i64 p)],
  D.rc [Col.ints IntKind.u64 xs, Col.ints IntKind.i64 ys], D.v (Value.int IntKind.i64 i), D.v (Value.int IntKind.i64 j)] = some (D.v (Value.bool false), [cmpI BinOp.gtr (ovI (ovV b r p xs ys)) (ovK (ovV b r p xs ys)) = true,
  cmpI BinOp.lss (ovI (ovV b r p xs ys)) 0 = false,
  (!(ovV b r p xs ys).isSome) = false,
  (ovV b r p (List.take (j.toNat - i.toNat) (List.drop i.toNat xs))
      (List.take (j.toNat - i.toNat) (List.drop i.toNat ys))).isSome =
  false,
  cmpI BinOp.neq
    (ovE b r p (List.take (j.toNat - i.toNat) (List.drop i.toNat xs))
      (List.take (j.toNat - i.toNat) (List.drop i.toNat ys)))
    0 =
  false,
  cmpI BinOp.neq (ovE b r p xs ys) 0 = false,
  decide (0 ≤ i) = true,
  decide (i ≤ j) = true,
  decide (j ≤ ↑(rowLen [Col.ints IntKind.u64 xs, Col.ints IntKind.i64 ys])) = true,
  cmpI BinOp.gtr j ↑(rowLen [Col.ints IntKind.u64 xs, Col.ints IntKind.i64 ys]) = false,
  cmpI BinOp.lss j i = false,
  cmpI BinOp.lss i 0 = false,
  cmpI BinOp.neq (cE xs ys) 0 = false,
  cmpI BinOp.neq (limE b r p) 0 = false]) := by kernel_rfl
theorem law8_p21 (b : Int) (r : Int) (p : Int) (xs : List Int) (ys : List Int) (i : Int) (j : Int) : fnX Try.prog X12 100000 [.d false, .c 1, .d false, .c 0, .d false, .c 1, .d false, .c 2, .d false, .c 1, .d false, .c 0, .d false, .c 0, .d false, .c 2, .d false, .d false, .c 1, .d false, .c 2, .d true] 8 [D.agg [D.v (Value.int IntKind.i64 b), D.v (Value.int IntKind.i64 r), D.v (Value.int IntKind.i64 p)],
  D.rc [Col.ints IntKind.u64 xs, Col.ints IntKind.i64 ys], D.v (Value.int IntKind.i64 i), D.v (Value.int IntKind.i64 j)] = some (D.v (Value.bool false), [cmpI BinOp.geq (ovK (ovV b r p xs ys)) ↑(rowLen [Col.ints IntKind.u64 xs, Col.ints IntKind.i64 ys]) = true,
  cmpI BinOp.gtr (ovI (ovV b r p xs ys)) (ovK (ovV b r p xs ys)) = false,
  cmpI BinOp.lss (ovI (ovV b r p xs ys)) 0 = false,
  (!(ovV b r p xs ys).isSome) = false,
  (ovV b r p (List.take (j.toNat - i.toNat) (List.drop i.toNat xs))
      (List.take (j.toNat - i.toNat) (List.drop i.toNat ys))).isSome =
  false,
  cmpI BinOp.neq
    (ovE b r p (List.take (j.toNat - i.toNat) (List.drop i.toNat xs))
      (List.take (j.toNat - i.toNat) (List.drop i.toNat ys)))
    0 =
  false,
  cmpI BinOp.neq (ovE b r p xs ys) 0 = false,
  decide (0 ≤ i) = true,
  decide (i ≤ j) = true,
  decide (j ≤ ↑(rowLen [Col.ints IntKind.u64 xs, Col.ints IntKind.i64 ys])) = true,
  cmpI BinOp.gtr j ↑(rowLen [Col.ints IntKind.u64 xs, Col.ints IntKind.i64 ys]) = false,
  cmpI BinOp.lss j i = false,
  cmpI BinOp.lss i 0 = false,
  cmpI BinOp.neq (cE xs ys) 0 = false,
  cmpI BinOp.neq (limE b r p) 0 = false]) := by kernel_rfl
theorem law8_p22 (b : Int) (r : Int) (p : Int) (xs : List Int) (ys : List Int) (i : Int) (j : Int) : fnX Try.prog X12 100000 [.d false, .c 1, .d false, .c 0, .d false, .c 1, .d false, .c 2, .d false, .c 1, .d false, .c 0, .d false, .c 0, .d false, .c 2, .d false, .d false, .c 1, .d false, .c 2, .d false, .c 1, .d true, .c 4, .d true, .c 0, .d true, .c 0, .d true, .c 0, .d true, .c 0] 8 [D.agg [D.v (Value.int IntKind.i64 b), D.v (Value.int IntKind.i64 r), D.v (Value.int IntKind.i64 p)],
  D.rc [Col.ints IntKind.u64 xs, Col.ints IntKind.i64 ys], D.v (Value.int IntKind.i64 i), D.v (Value.int IntKind.i64 j)] = some (D.v
  (Value.bool
    !(ovV b r p
          (List.take
            ((opI BinOp.add IntKind.i64 (ovK (ovV b r p xs ys)) 1).toNat -
              (opI BinOp.add IntKind.i64 (ovI (ovV b r p xs ys)) 1).toNat)
            (List.drop (opI BinOp.add IntKind.i64 (ovI (ovV b r p xs ys)) 1).toNat xs))
          (List.take
            ((opI BinOp.add IntKind.i64 (ovK (ovV b r p xs ys)) 1).toNat -
              (opI BinOp.add IntKind.i64 (ovI (ovV b r p xs ys)) 1).toNat)
            (List.drop (opI BinOp.add IntKind.i64 (ovI (ovV b r p xs ys)) 1).toNat ys))).isSome), [cmpI BinOp.eql
    (ovE b r p
      (List.take
        ((opI BinOp.add IntKind.i64 (ovK (ovV b r p xs ys)) 1).toNat -
          (opI BinOp.add IntKind.i64 (ovI (ovV b r p xs ys)) 1).toNat)
        (List.drop (opI BinOp.add IntKind.i64 (ovI (ovV b r p xs ys)) 1).toNat xs))
      (List.take
        ((opI BinOp.add IntKind.i64 (ovK (ovV b r p xs ys)) 1).toNat -
          (opI BinOp.add IntKind.i64 (ovI (ovV b r p xs ys)) 1).toNat)
        (List.drop (opI BinOp.add IntKind.i64 (ovI (ovV b r p xs ys)) 1).toNat ys)))
    0 =
  true,
  (!(ovV b r p (List.take ((ovK (ovV b r p xs ys)).toNat - Int.toNat 0) (List.drop (Int.toNat 0) xs))
        (List.take ((ovK (ovV b r p xs ys)).toNat - Int.toNat 0) (List.drop (Int.toNat 0) ys))).isSome) =
  true,
  cmpI BinOp.eql
    (ovE b r p (List.take ((ovK (ovV b r p xs ys)).toNat - 0) (List.drop 0 xs))
      (List.take ((ovK (ovV b r p xs ys)).toNat - 0) (List.drop 0 ys)))
    0 =
  true,
  cmpI BinOp.gtr
    (sumN ys (ovI (ovV b r p xs ys)).toNat ((ovK (ovV b r p xs ys)).toNat + 1 - (ovI (ovV b r p xs ys)).toNat))
    (bV b r p (xs.getD (ovI (ovV b r p xs ys)).toNat 0) (xs.getD (ovK (ovV b r p xs ys)).toNat 0)) =
  true,
  cE xs ys = 0,
  0 ≤ ovI (ovV b r p xs ys),
  ovI (ovV b r p xs ys) ≤ ovK (ovV b r p xs ys),
  ovK (ovV b r p xs ys) < ↑xs.length,
  cmpI BinOp.eql (bE b r p (xs.getD (ovI (ovV b r p xs ys)).toNat 0) (xs.getD (ovK (ovV b r p xs ys)).toNat 0)) 0 = true,
  decide (0 ≤ opI BinOp.add IntKind.i64 (ovI (ovV b r p xs ys)) 1) = true,
  decide (opI BinOp.add IntKind.i64 (ovI (ovV b r p xs ys)) 1 ≤ opI BinOp.add IntKind.i64 (ovK (ovV b r p xs ys)) 1) =
  true,
  decide
    (opI BinOp.add IntKind.i64 (ovK (ovV b r p xs ys)) 1 ≤
      ↑(rowLen [Col.ints IntKind.u64 xs, Col.ints IntKind.i64 ys])) =
  true,
  true = true,
  decide (0 ≤ ovK (ovV b r p xs ys)) = true,
  decide (ovK (ovV b r p xs ys) ≤ ↑(rowLen [Col.ints IntKind.u64 xs, Col.ints IntKind.i64 ys])) = true,
  0 ≤ xs.getD (ovI (ovV b r p xs ys)).toNat 0,
  xs.getD (ovI (ovV b r p xs ys)).toNat 0 < 18446744073709551616,
  0 ≤ xs.getD (ovK (ovV b r p xs ys)).toNat 0,
  xs.getD (ovK (ovV b r p xs ys)).toNat 0 < 18446744073709551616,
  decide (0 ≤ ovK (ovV b r p xs ys)) = true,
  decide (ovK (ovV b r p xs ys) < ↑(rowLen [Col.ints IntKind.u64 xs, Col.ints IntKind.i64 ys])) = true,
  decide (0 ≤ ovI (ovV b r p xs ys)) = true,
  decide (ovI (ovV b r p xs ys) < ↑(rowLen [Col.ints IntKind.u64 xs, Col.ints IntKind.i64 ys])) = true,
  cmpI BinOp.geq (ovK (ovV b r p xs ys)) ↑(rowLen [Col.ints IntKind.u64 xs, Col.ints IntKind.i64 ys]) = false,
  cmpI BinOp.gtr (ovI (ovV b r p xs ys)) (ovK (ovV b r p xs ys)) = false,
  cmpI BinOp.lss (ovI (ovV b r p xs ys)) 0 = false,
  (!(ovV b r p xs ys).isSome) = false,
  (ovV b r p (List.take (j.toNat - i.toNat) (List.drop i.toNat xs))
      (List.take (j.toNat - i.toNat) (List.drop i.toNat ys))).isSome =
  false,
  cmpI BinOp.neq
    (ovE b r p (List.take (j.toNat - i.toNat) (List.drop i.toNat xs))
      (List.take (j.toNat - i.toNat) (List.drop i.toNat ys)))
    0 =
  false,
  cmpI BinOp.neq (ovE b r p xs ys) 0 = false,
  decide (0 ≤ i) = true,
  decide (i ≤ j) = true,
  decide (j ≤ ↑(rowLen [Col.ints IntKind.u64 xs, Col.ints IntKind.i64 ys])) = true,
  cmpI BinOp.gtr j ↑(rowLen [Col.ints IntKind.u64 xs, Col.ints IntKind.i64 ys]) = false,
  cmpI BinOp.lss j i = false,
  cmpI BinOp.lss i 0 = false,
  cmpI BinOp.neq (cE xs ys) 0 = false,
  cmpI BinOp.neq (limE b r p) 0 = false]) := by kernel_rfl
theorem law8_p23 (b : Int) (r : Int) (p : Int) (xs : List Int) (ys : List Int) (i : Int) (j : Int) : fnX Try.prog X12 100000 [.d false, .c 1, .d false, .c 0, .d false, .c 1, .d false, .c 2, .d false, .c 1, .d false, .c 0, .d false, .c 0, .d false, .c 2, .d false, .d false, .c 1, .d false, .c 2, .d false, .c 1, .d true, .c 4, .d true, .c 0, .d true, .c 0, .d true, .c 0, .d false, .c 0] 8 [D.agg [D.v (Value.int IntKind.i64 b), D.v (Value.int IntKind.i64 r), D.v (Value.int IntKind.i64 p)],
  D.rc [Col.ints IntKind.u64 xs, Col.ints IntKind.i64 ys], D.v (Value.int IntKind.i64 i), D.v (Value.int IntKind.i64 j)] = some (D.v (Value.bool false), [cmpI BinOp.eql
    (ovE b r p
      (List.take
        ((opI BinOp.add IntKind.i64 (ovK (ovV b r p xs ys)) 1).toNat -
          (opI BinOp.add IntKind.i64 (ovI (ovV b r p xs ys)) 1).toNat)
        (List.drop (opI BinOp.add IntKind.i64 (ovI (ovV b r p xs ys)) 1).toNat xs))
      (List.take
        ((opI BinOp.add IntKind.i64 (ovK (ovV b r p xs ys)) 1).toNat -
          (opI BinOp.add IntKind.i64 (ovI (ovV b r p xs ys)) 1).toNat)
        (List.drop (opI BinOp.add IntKind.i64 (ovI (ovV b r p xs ys)) 1).toNat ys)))
    0 =
  false,
  (!(ovV b r p (List.take ((ovK (ovV b r p xs ys)).toNat - Int.toNat 0) (List.drop (Int.toNat 0) xs))
        (List.take ((ovK (ovV b r p xs ys)).toNat - Int.toNat 0) (List.drop (Int.toNat 0) ys))).isSome) =
  true,
  cmpI BinOp.eql
    (ovE b r p (List.take ((ovK (ovV b r p xs ys)).toNat - 0) (List.drop 0 xs))
      (List.take ((ovK (ovV b r p xs ys)).toNat - 0) (List.drop 0 ys)))
    0 =
  true,
  cmpI BinOp.gtr
    (sumN ys (ovI (ovV b r p xs ys)).toNat ((ovK (ovV b r p xs ys)).toNat + 1 - (ovI (ovV b r p xs ys)).toNat))
    (bV b r p (xs.getD (ovI (ovV b r p xs ys)).toNat 0) (xs.getD (ovK (ovV b r p xs ys)).toNat 0)) =
  true,
  cE xs ys = 0,
  0 ≤ ovI (ovV b r p xs ys),
  ovI (ovV b r p xs ys) ≤ ovK (ovV b r p xs ys),
  ovK (ovV b r p xs ys) < ↑xs.length,
  cmpI BinOp.eql (bE b r p (xs.getD (ovI (ovV b r p xs ys)).toNat 0) (xs.getD (ovK (ovV b r p xs ys)).toNat 0)) 0 = true,
  decide (0 ≤ opI BinOp.add IntKind.i64 (ovI (ovV b r p xs ys)) 1) = true,
  decide (opI BinOp.add IntKind.i64 (ovI (ovV b r p xs ys)) 1 ≤ opI BinOp.add IntKind.i64 (ovK (ovV b r p xs ys)) 1) =
  true,
  decide
    (opI BinOp.add IntKind.i64 (ovK (ovV b r p xs ys)) 1 ≤
      ↑(rowLen [Col.ints IntKind.u64 xs, Col.ints IntKind.i64 ys])) =
  true,
  true = true,
  decide (0 ≤ ovK (ovV b r p xs ys)) = true,
  decide (ovK (ovV b r p xs ys) ≤ ↑(rowLen [Col.ints IntKind.u64 xs, Col.ints IntKind.i64 ys])) = true,
  0 ≤ xs.getD (ovI (ovV b r p xs ys)).toNat 0,
  xs.getD (ovI (ovV b r p xs ys)).toNat 0 < 18446744073709551616,
  0 ≤ xs.getD (ovK (ovV b r p xs ys)).toNat 0,
  xs.getD (ovK (ovV b r p xs ys)).toNat 0 < 18446744073709551616,
  decide (0 ≤ ovK (ovV b r p xs ys)) = true,
  decide (ovK (ovV b r p xs ys) < ↑(rowLen [Col.ints IntKind.u64 xs, Col.ints IntKind.i64 ys])) = true,
  decide (0 ≤ ovI (ovV b r p xs ys)) = true,
  decide (ovI (ovV b r p xs ys) < ↑(rowLen [Col.ints IntKind.u64 xs, Col.ints IntKind.i64 ys])) = true,
  cmpI BinOp.geq (ovK (ovV b r p xs ys)) ↑(rowLen [Col.ints IntKind.u64 xs, Col.ints IntKind.i64 ys]) = false,
  cmpI BinOp.gtr (ovI (ovV b r p xs ys)) (ovK (ovV b r p xs ys)) = false,
  cmpI BinOp.lss (ovI (ovV b r p xs ys)) 0 = false,
  (!(ovV b r p xs ys).isSome) = false,
  (ovV b r p (List.take (j.toNat - i.toNat) (List.drop i.toNat xs))
      (List.take (j.toNat - i.toNat) (List.drop i.toNat ys))).isSome =
  false,
  cmpI BinOp.neq
    (ovE b r p (List.take (j.toNat - i.toNat) (List.drop i.toNat xs))
      (List.take (j.toNat - i.toNat) (List.drop i.toNat ys)))
    0 =
  false,
  cmpI BinOp.neq (ovE b r p xs ys) 0 = false,
  decide (0 ≤ i) = true,
  decide (i ≤ j) = true,
  decide (j ≤ ↑(rowLen [Col.ints IntKind.u64 xs, Col.ints IntKind.i64 ys])) = true,
  cmpI BinOp.gtr j ↑(rowLen [Col.ints IntKind.u64 xs, Col.ints IntKind.i64 ys]) = false,
  cmpI BinOp.lss j i = false,
  cmpI BinOp.lss i 0 = false,
  cmpI BinOp.neq (cE xs ys) 0 = false,
  cmpI BinOp.neq (limE b r p) 0 = false]) := by kernel_rfl
theorem law8_p24 (b : Int) (r : Int) (p : Int) (xs : List Int) (ys : List Int) (i : Int) (j : Int) : fnX Try.prog X12 100000 [.d false, .c 1, .d false, .c 0, .d false, .c 1, .d false, .c 2, .d false, .c 1, .d false, .c 0, .d false, .c 0, .d false, .c 2, .d false, .d false, .c 1, .d false, .c 2, .d false, .c 1, .d true, .c 4, .d true, .c 0, .d true, .c 0, .d false, .c 2] 8 [D.agg [D.v (Value.int IntKind.i64 b), D.v (Value.int IntKind.i64 r), D.v (Value.int IntKind.i64 p)],
  D.rc [Col.ints IntKind.u64 xs, Col.ints IntKind.i64 ys], D.v (Value.int IntKind.i64 i), D.v (Value.int IntKind.i64 j)] = some (D.v (Value.bool false), [(!(ovV b r p (List.take ((ovK (ovV b r p xs ys)).toNat - Int.toNat 0) (List.drop (Int.toNat 0) xs))
        (List.take ((ovK (ovV b r p xs ys)).toNat - Int.toNat 0) (List.drop (Int.toNat 0) ys))).isSome) =
  false,
  cmpI BinOp.eql
    (ovE b r p (List.take ((ovK (ovV b r p xs ys)).toNat - 0) (List.drop 0 xs))
      (List.take ((ovK (ovV b r p xs ys)).toNat - 0) (List.drop 0 ys)))
    0 =
  true,
  cmpI BinOp.gtr
    (sumN ys (ovI (ovV b r p xs ys)).toNat ((ovK (ovV b r p xs ys)).toNat + 1 - (ovI (ovV b r p xs ys)).toNat))
    (bV b r p (xs.getD (ovI (ovV b r p xs ys)).toNat 0) (xs.getD (ovK (ovV b r p xs ys)).toNat 0)) =
  true,
  cE xs ys = 0,
  0 ≤ ovI (ovV b r p xs ys),
  ovI (ovV b r p xs ys) ≤ ovK (ovV b r p xs ys),
  ovK (ovV b r p xs ys) < ↑xs.length,
  cmpI BinOp.eql (bE b r p (xs.getD (ovI (ovV b r p xs ys)).toNat 0) (xs.getD (ovK (ovV b r p xs ys)).toNat 0)) 0 = true,
  decide (0 ≤ opI BinOp.add IntKind.i64 (ovI (ovV b r p xs ys)) 1) = true,
  decide (opI BinOp.add IntKind.i64 (ovI (ovV b r p xs ys)) 1 ≤ opI BinOp.add IntKind.i64 (ovK (ovV b r p xs ys)) 1) =
  true,
  decide
    (opI BinOp.add IntKind.i64 (ovK (ovV b r p xs ys)) 1 ≤
      ↑(rowLen [Col.ints IntKind.u64 xs, Col.ints IntKind.i64 ys])) =
  true,
  true = true,
  decide (0 ≤ ovK (ovV b r p xs ys)) = true,
  decide (ovK (ovV b r p xs ys) ≤ ↑(rowLen [Col.ints IntKind.u64 xs, Col.ints IntKind.i64 ys])) = true,
  0 ≤ xs.getD (ovI (ovV b r p xs ys)).toNat 0,
  xs.getD (ovI (ovV b r p xs ys)).toNat 0 < 18446744073709551616,
  0 ≤ xs.getD (ovK (ovV b r p xs ys)).toNat 0,
  xs.getD (ovK (ovV b r p xs ys)).toNat 0 < 18446744073709551616,
  decide (0 ≤ ovK (ovV b r p xs ys)) = true,
  decide (ovK (ovV b r p xs ys) < ↑(rowLen [Col.ints IntKind.u64 xs, Col.ints IntKind.i64 ys])) = true,
  decide (0 ≤ ovI (ovV b r p xs ys)) = true,
  decide (ovI (ovV b r p xs ys) < ↑(rowLen [Col.ints IntKind.u64 xs, Col.ints IntKind.i64 ys])) = true,
  cmpI BinOp.geq (ovK (ovV b r p xs ys)) ↑(rowLen [Col.ints IntKind.u64 xs, Col.ints IntKind.i64 ys]) = false,
  cmpI BinOp.gtr (ovI (ovV b r p xs ys)) (ovK (ovV b r p xs ys)) = false,
  cmpI BinOp.lss (ovI (ovV b r p xs ys)) 0 = false,
  (!(ovV b r p xs ys).isSome) = false,
  (ovV b r p (List.take (j.toNat - i.toNat) (List.drop i.toNat xs))
      (List.take (j.toNat - i.toNat) (List.drop i.toNat ys))).isSome =
  false,
  cmpI BinOp.neq
    (ovE b r p (List.take (j.toNat - i.toNat) (List.drop i.toNat xs))
      (List.take (j.toNat - i.toNat) (List.drop i.toNat ys)))
    0 =
  false,
  cmpI BinOp.neq (ovE b r p xs ys) 0 = false,
  decide (0 ≤ i) = true,
  decide (i ≤ j) = true,
  decide (j ≤ ↑(rowLen [Col.ints IntKind.u64 xs, Col.ints IntKind.i64 ys])) = true,
  cmpI BinOp.gtr j ↑(rowLen [Col.ints IntKind.u64 xs, Col.ints IntKind.i64 ys]) = false,
  cmpI BinOp.lss j i = false,
  cmpI BinOp.lss i 0 = false,
  cmpI BinOp.neq (cE xs ys) 0 = false,
  cmpI BinOp.neq (limE b r p) 0 = false]) := by kernel_rfl
theorem law8_p25 (b : Int) (r : Int) (p : Int) (xs : List Int) (ys : List Int) (i : Int) (j : Int) : fnX Try.prog X12 100000 [.d false, .c 1, .d false, .c 0, .d false, .c 1, .d false, .c 2, .d false, .c 1, .d false, .c 0, .d false, .c 0, .d false, .c 2, .d false, .d false, .c 1, .d false, .c 2, .d false, .c 1, .d true, .c 4, .d true, .c 0, .d false, .c 4] 8 [D.agg [D.v (Value.int IntKind.i64 b), D.v (Value.int IntKind.i64 r), D.v (Value.int IntKind.i64 p)],
  D.rc [Col.ints IntKind.u64 xs, Col.ints IntKind.i64 ys], D.v (Value.int IntKind.i64 i), D.v (Value.int IntKind.i64 j)] = some (D.v (Value.bool false), [cmpI BinOp.eql
    (ovE b r p (List.take ((ovK (ovV b r p xs ys)).toNat - 0) (List.drop 0 xs))
      (List.take ((ovK (ovV b r p xs ys)).toNat - 0) (List.drop 0 ys)))
    0 =
  false,
  cmpI BinOp.gtr
    (sumN ys (ovI (ovV b r p xs ys)).toNat ((ovK (ovV b r p xs ys)).toNat + 1 - (ovI (ovV b r p xs ys)).toNat))
    (bV b r p (xs.getD (ovI (ovV b r p xs ys)).toNat 0) (xs.getD (ovK (ovV b r p xs ys)).toNat 0)) =
  true,
  cE xs ys = 0,
  0 ≤ ovI (ovV b r p xs ys),
  ovI (ovV b r p xs ys) ≤ ovK (ovV b r p xs ys),
  ovK (ovV b r p xs ys) < ↑xs.length,
  cmpI BinOp.eql (bE b r p (xs.getD (ovI (ovV b r p xs ys)).toNat 0) (xs.getD (ovK (ovV b r p xs ys)).toNat 0)) 0 = true,
  decide (0 ≤ opI BinOp.add IntKind.i64 (ovI (ovV b r p xs ys)) 1) = true,
  decide (opI BinOp.add IntKind.i64 (ovI (ovV b r p xs ys)) 1 ≤ opI BinOp.add IntKind.i64 (ovK (ovV b r p xs ys)) 1) =
  true,
  decide
    (opI BinOp.add IntKind.i64 (ovK (ovV b r p xs ys)) 1 ≤
      ↑(rowLen [Col.ints IntKind.u64 xs, Col.ints IntKind.i64 ys])) =
  true,
  true = true,
  decide (0 ≤ ovK (ovV b r p xs ys)) = true,
  decide (ovK (ovV b r p xs ys) ≤ ↑(rowLen [Col.ints IntKind.u64 xs, Col.ints IntKind.i64 ys])) = true,
  0 ≤ xs.getD (ovI (ovV b r p xs ys)).toNat 0,
  xs.getD (ovI (ovV b r p xs ys)).toNat 0 < 18446744073709551616,
  0 ≤ xs.getD (ovK (ovV b r p xs ys)).toNat 0,
  xs.getD (ovK (ovV b r p xs ys)).toNat 0 < 18446744073709551616,
  decide (0 ≤ ovK (ovV b r p xs ys)) = true,
  decide (ovK (ovV b r p xs ys) < ↑(rowLen [Col.ints IntKind.u64 xs, Col.ints IntKind.i64 ys])) = true,
  decide (0 ≤ ovI (ovV b r p xs ys)) = true,
  decide (ovI (ovV b r p xs ys) < ↑(rowLen [Col.ints IntKind.u64 xs, Col.ints IntKind.i64 ys])) = true,
  cmpI BinOp.geq (ovK (ovV b r p xs ys)) ↑(rowLen [Col.ints IntKind.u64 xs, Col.ints IntKind.i64 ys]) = false,
  cmpI BinOp.gtr (ovI (ovV b r p xs ys)) (ovK (ovV b r p xs ys)) = false,
  cmpI BinOp.lss (ovI (ovV b r p xs ys)) 0 = false,
  (!(ovV b r p xs ys).isSome) = false,
  (ovV b r p (List.take (j.toNat - i.toNat) (List.drop i.toNat xs))
      (List.take (j.toNat - i.toNat) (List.drop i.toNat ys))).isSome =
  false,
  cmpI BinOp.neq
    (ovE b r p (List.take (j.toNat - i.toNat) (List.drop i.toNat xs))
      (List.take (j.toNat - i.toNat) (List.drop i.toNat ys)))
    0 =
  false,
  cmpI BinOp.neq (ovE b r p xs ys) 0 = false,
  decide (0 ≤ i) = true,
  decide (i ≤ j) = true,
  decide (j ≤ ↑(rowLen [Col.ints IntKind.u64 xs, Col.ints IntKind.i64 ys])) = true,
  cmpI BinOp.gtr j ↑(rowLen [Col.ints IntKind.u64 xs, Col.ints IntKind.i64 ys]) = false,
  cmpI BinOp.lss j i = false,
  cmpI BinOp.lss i 0 = false,
  cmpI BinOp.neq (cE xs ys) 0 = false,
  cmpI BinOp.neq (limE b r p) 0 = false]) := by kernel_rfl
theorem law8_p26 (b : Int) (r : Int) (p : Int) (xs : List Int) (ys : List Int) (i : Int) (j : Int) : fnX Try.prog X12 100000 [.d false, .c 1, .d false, .c 0, .d false, .c 1, .d false, .c 2, .d false, .c 1, .d false, .c 0, .d false, .c 0, .d false, .c 2, .d false, .d false, .c 1, .d false, .c 2, .d false, .c 1, .d true, .c 4, .d false, .c 6] 8 [D.agg [D.v (Value.int IntKind.i64 b), D.v (Value.int IntKind.i64 r), D.v (Value.int IntKind.i64 p)],
  D.rc [Col.ints IntKind.u64 xs, Col.ints IntKind.i64 ys], D.v (Value.int IntKind.i64 i), D.v (Value.int IntKind.i64 j)] = some (D.v (Value.bool false), [cmpI BinOp.gtr
    (sumN ys (ovI (ovV b r p xs ys)).toNat ((ovK (ovV b r p xs ys)).toNat + 1 - (ovI (ovV b r p xs ys)).toNat))
    (bV b r p (xs.getD (ovI (ovV b r p xs ys)).toNat 0) (xs.getD (ovK (ovV b r p xs ys)).toNat 0)) =
  false,
  cE xs ys = 0,
  0 ≤ ovI (ovV b r p xs ys),
  ovI (ovV b r p xs ys) ≤ ovK (ovV b r p xs ys),
  ovK (ovV b r p xs ys) < ↑xs.length,
  cmpI BinOp.eql (bE b r p (xs.getD (ovI (ovV b r p xs ys)).toNat 0) (xs.getD (ovK (ovV b r p xs ys)).toNat 0)) 0 = true,
  decide (0 ≤ opI BinOp.add IntKind.i64 (ovI (ovV b r p xs ys)) 1) = true,
  decide (opI BinOp.add IntKind.i64 (ovI (ovV b r p xs ys)) 1 ≤ opI BinOp.add IntKind.i64 (ovK (ovV b r p xs ys)) 1) =
  true,
  decide
    (opI BinOp.add IntKind.i64 (ovK (ovV b r p xs ys)) 1 ≤
      ↑(rowLen [Col.ints IntKind.u64 xs, Col.ints IntKind.i64 ys])) =
  true,
  true = true,
  decide (0 ≤ ovK (ovV b r p xs ys)) = true,
  decide (ovK (ovV b r p xs ys) ≤ ↑(rowLen [Col.ints IntKind.u64 xs, Col.ints IntKind.i64 ys])) = true,
  0 ≤ xs.getD (ovI (ovV b r p xs ys)).toNat 0,
  xs.getD (ovI (ovV b r p xs ys)).toNat 0 < 18446744073709551616,
  0 ≤ xs.getD (ovK (ovV b r p xs ys)).toNat 0,
  xs.getD (ovK (ovV b r p xs ys)).toNat 0 < 18446744073709551616,
  decide (0 ≤ ovK (ovV b r p xs ys)) = true,
  decide (ovK (ovV b r p xs ys) < ↑(rowLen [Col.ints IntKind.u64 xs, Col.ints IntKind.i64 ys])) = true,
  decide (0 ≤ ovI (ovV b r p xs ys)) = true,
  decide (ovI (ovV b r p xs ys) < ↑(rowLen [Col.ints IntKind.u64 xs, Col.ints IntKind.i64 ys])) = true,
  cmpI BinOp.geq (ovK (ovV b r p xs ys)) ↑(rowLen [Col.ints IntKind.u64 xs, Col.ints IntKind.i64 ys]) = false,
  cmpI BinOp.gtr (ovI (ovV b r p xs ys)) (ovK (ovV b r p xs ys)) = false,
  cmpI BinOp.lss (ovI (ovV b r p xs ys)) 0 = false,
  (!(ovV b r p xs ys).isSome) = false,
  (ovV b r p (List.take (j.toNat - i.toNat) (List.drop i.toNat xs))
      (List.take (j.toNat - i.toNat) (List.drop i.toNat ys))).isSome =
  false,
  cmpI BinOp.neq
    (ovE b r p (List.take (j.toNat - i.toNat) (List.drop i.toNat xs))
      (List.take (j.toNat - i.toNat) (List.drop i.toNat ys)))
    0 =
  false,
  cmpI BinOp.neq (ovE b r p xs ys) 0 = false,
  decide (0 ≤ i) = true,
  decide (i ≤ j) = true,
  decide (j ≤ ↑(rowLen [Col.ints IntKind.u64 xs, Col.ints IntKind.i64 ys])) = true,
  cmpI BinOp.gtr j ↑(rowLen [Col.ints IntKind.u64 xs, Col.ints IntKind.i64 ys]) = false,
  cmpI BinOp.lss j i = false,
  cmpI BinOp.lss i 0 = false,
  cmpI BinOp.neq (cE xs ys) 0 = false,
  cmpI BinOp.neq (limE b r p) 0 = false]) := by kernel_rfl
theorem law8_p27 (b : Int) (r : Int) (p : Int) (xs : List Int) (ys : List Int) (i : Int) (j : Int) : fnX Try.prog X12 100000 [.d false, .c 1, .d false, .c 0, .d false, .c 1, .d false, .c 2, .d false, .c 1, .d false, .c 0, .d false, .c 0, .d false, .c 2, .d false, .d false, .c 1, .d false, .c 2, .d false, .c 1, .d false, .c 12] 8 [D.agg [D.v (Value.int IntKind.i64 b), D.v (Value.int IntKind.i64 r), D.v (Value.int IntKind.i64 p)],
  D.rc [Col.ints IntKind.u64 xs, Col.ints IntKind.i64 ys], D.v (Value.int IntKind.i64 i), D.v (Value.int IntKind.i64 j)] = some (D.v (Value.bool false), [cmpI BinOp.eql (bE b r p (xs.getD (ovI (ovV b r p xs ys)).toNat 0) (xs.getD (ovK (ovV b r p xs ys)).toNat 0)) 0 = false,
  decide (0 ≤ opI BinOp.add IntKind.i64 (ovI (ovV b r p xs ys)) 1) = true,
  decide (opI BinOp.add IntKind.i64 (ovI (ovV b r p xs ys)) 1 ≤ opI BinOp.add IntKind.i64 (ovK (ovV b r p xs ys)) 1) =
  true,
  decide
    (opI BinOp.add IntKind.i64 (ovK (ovV b r p xs ys)) 1 ≤
      ↑(rowLen [Col.ints IntKind.u64 xs, Col.ints IntKind.i64 ys])) =
  true,
  true = true,
  decide (0 ≤ ovK (ovV b r p xs ys)) = true,
  decide (ovK (ovV b r p xs ys) ≤ ↑(rowLen [Col.ints IntKind.u64 xs, Col.ints IntKind.i64 ys])) = true,
  0 ≤ xs.getD (ovI (ovV b r p xs ys)).toNat 0,
  xs.getD (ovI (ovV b r p xs ys)).toNat 0 < 18446744073709551616,
  0 ≤ xs.getD (ovK (ovV b r p xs ys)).toNat 0,
  xs.getD (ovK (ovV b r p xs ys)).toNat 0 < 18446744073709551616,
  decide (0 ≤ ovK (ovV b r p xs ys)) = true,
  decide (ovK (ovV b r p xs ys) < ↑(rowLen [Col.ints IntKind.u64 xs, Col.ints IntKind.i64 ys])) = true,
  decide (0 ≤ ovI (ovV b r p xs ys)) = true,
  decide (ovI (ovV b r p xs ys) < ↑(rowLen [Col.ints IntKind.u64 xs, Col.ints IntKind.i64 ys])) = true,
  cmpI BinOp.geq (ovK (ovV b r p xs ys)) ↑(rowLen [Col.ints IntKind.u64 xs, Col.ints IntKind.i64 ys]) = false,
  cmpI BinOp.gtr (ovI (ovV b r p xs ys)) (ovK (ovV b r p xs ys)) = false,
  cmpI BinOp.lss (ovI (ovV b r p xs ys)) 0 = false,
  (!(ovV b r p xs ys).isSome) = false,
  (ovV b r p (List.take (j.toNat - i.toNat) (List.drop i.toNat xs))
      (List.take (j.toNat - i.toNat) (List.drop i.toNat ys))).isSome =
  false,
  cmpI BinOp.neq
    (ovE b r p (List.take (j.toNat - i.toNat) (List.drop i.toNat xs))
      (List.take (j.toNat - i.toNat) (List.drop i.toNat ys)))
    0 =
  false,
  cmpI BinOp.neq (ovE b r p xs ys) 0 = false,
  decide (0 ≤ i) = true,
  decide (i ≤ j) = true,
  decide (j ≤ ↑(rowLen [Col.ints IntKind.u64 xs, Col.ints IntKind.i64 ys])) = true,
  cmpI BinOp.gtr j ↑(rowLen [Col.ints IntKind.u64 xs, Col.ints IntKind.i64 ys]) = false,
  cmpI BinOp.lss j i = false,
  cmpI BinOp.lss i 0 = false,
  cmpI BinOp.neq (cE xs ys) 0 = false,
  cmpI BinOp.neq (limE b r p) 0 = false]) := by kernel_rfl
theorem law8_calls (b : Int) (r : Int) (p : Int) (xs : List Int) (ys : List Int) (i : Int) (j : Int) (res : D)
  (h0 : ((cmpI BinOp.neq (limE b r p) 0) = true) → (True) ∧ res = D.v (Value.bool true))
  (h1 : ((cmpI BinOp.neq (limE b r p) 0) = false) → ((cmpI BinOp.neq (cE xs ys) 0) = true) → (True) ∧ res = D.v (Value.bool true))
  (h2 : ((cmpI BinOp.neq (limE b r p) 0) = false) → ((cmpI BinOp.neq (cE xs ys) 0) = false) → ((cmpI BinOp.lss i 0) = true) → (True) ∧ res = D.v (Value.bool true))
  (h3 : ((cmpI BinOp.neq (limE b r p) 0) = false) → ((cmpI BinOp.neq (cE xs ys) 0) = false) → ((cmpI BinOp.lss i 0) = false) → ((cmpI BinOp.lss j i) = true) → (True) ∧ res = D.v (Value.bool true))
  (h4 : ((cmpI BinOp.neq (limE b r p) 0) = false) → ((cmpI BinOp.neq (cE xs ys) 0) = false) → ((cmpI BinOp.lss i 0) = false) → ((cmpI BinOp.lss j i) = false) → ((cmpI BinOp.gtr j ↑(rowLen [Col.ints IntKind.u64 xs, Col.ints IntKind.i64 ys])) = true) → (True) ∧ res = D.v (Value.bool true))
  (h5 : ((cmpI BinOp.neq (limE b r p) 0) = false) → ((cmpI BinOp.neq (cE xs ys) 0) = false) → ((cmpI BinOp.lss i 0) = false) → ((cmpI BinOp.lss j i) = false) → ((cmpI BinOp.gtr j ↑(rowLen [Col.ints IntKind.u64 xs, Col.ints IntKind.i64 ys])) = false) → ((cmpI BinOp.neq (ovE b r p xs ys) 0) = true) → ((decide (0 ≤ i) = true) ∧ (decide (i ≤ j) = true) ∧ (decide (j ≤ ↑(rowLen [Col.ints IntKind.u64 xs, Col.ints IntKind.i64 ys])) = true) ∧ True) ∧ res = D.v (Value.bool false))
  (h6 : ((cmpI BinOp.neq (limE b r p) 0) = false) → ((cmpI BinOp.neq (cE xs ys) 0) = false) → ((cmpI BinOp.lss i 0) = false) → ((cmpI BinOp.lss j i) = false) → ((cmpI BinOp.gtr j ↑(rowLen [Col.ints IntKind.u64 xs, Col.ints IntKind.i64 ys])) = false) → ((cmpI BinOp.neq (ovE b r p xs ys) 0) = false) → ((cmpI BinOp.neq
  (ovE b r p (List.take (j.toNat - i.toNat) (List.drop i.toNat xs))
    (List.take (j.toNat - i.toNat) (List.drop i.toNat ys)))
  0) = true) → ((decide (0 ≤ i) = true) ∧ (decide (i ≤ j) = true) ∧ (decide (j ≤ ↑(rowLen [Col.ints IntKind.u64 xs, Col.ints IntKind.i64 ys])) = true) ∧ True) ∧ res = D.v (Value.bool false))
  (h7 : ((cmpI BinOp.neq (limE b r p) 0) = false) → ((cmpI BinOp.neq (cE xs ys) 0) = false) → ((cmpI BinOp.lss i 0) = false) → ((cmpI BinOp.lss j i) = false) → ((cmpI BinOp.gtr j ↑(rowLen [Col.ints IntKind.u64 xs, Col.ints IntKind.i64 ys])) = false) → ((cmpI BinOp.neq (ovE b r p xs ys) 0) = false) → ((cmpI BinOp.neq
  (ovE b r p (List.take (j.toNat - i.toNat) (List.drop i.toNat xs))
    (List.take (j.toNat - i.toNat) (List.drop i.toNat ys)))
  0) = false) → (((ovV b r p (List.take (j.toNat - i.toNat) (List.drop i.toNat xs))
    (List.take (j.toNat - i.toNat) (List.drop i.toNat ys))).isSome) = true) → ((!(ovV b r p xs ys).isSome) = true) → ((decide (0 ≤ i) = true) ∧ (decide (i ≤ j) = true) ∧ (decide (j ≤ ↑(rowLen [Col.ints IntKind.u64 xs, Col.ints IntKind.i64 ys])) = true) ∧ True) ∧ res = D.v (Value.bool false))
  (h8 : ((cmpI BinOp.neq (limE b r p) 0) = false) → ((cmpI BinOp.neq (cE xs ys) 0) = false) → ((cmpI BinOp.lss i 0) = false) → ((cmpI BinOp.lss j i) = false) → ((cmpI BinOp.gtr j ↑(rowLen [Col.ints IntKind.u64 xs, Col.ints IntKind.i64 ys])) = false) → ((cmpI BinOp.neq (ovE b r p xs ys) 0) = false) → ((cmpI BinOp.neq
  (ovE b r p (List.take (j.toNat - i.toNat) (List.drop i.toNat xs))
    (List.take (j.toNat - i.toNat) (List.drop i.toNat ys)))
  0) = false) → (((ovV b r p (List.take (j.toNat - i.toNat) (List.drop i.toNat xs))
    (List.take (j.toNat - i.toNat) (List.drop i.toNat ys))).isSome) = true) → ((!(ovV b r p xs ys).isSome) = false) → ((cmpI BinOp.lss (ovI (ovV b r p xs ys)) 0) = true) → ((decide (0 ≤ i) = true) ∧ (decide (i ≤ j) = true) ∧ (decide (j ≤ ↑(rowLen [Col.ints IntKind.u64 xs, Col.ints IntKind.i64 ys])) = true) ∧ True) ∧ res = D.v (Value.bool false))
  (h9 : ((cmpI BinOp.neq (limE b r p) 0) = false) → ((cmpI BinOp.neq (cE xs ys) 0) = false) → ((cmpI BinOp.lss i 0) = false) → ((cmpI BinOp.lss j i) = false) → ((cmpI BinOp.gtr j ↑(rowLen [Col.ints IntKind.u64 xs, Col.ints IntKind.i64 ys])) = false) → ((cmpI BinOp.neq (ovE b r p xs ys) 0) = false) → ((cmpI BinOp.neq
  (ovE b r p (List.take (j.toNat - i.toNat) (List.drop i.toNat xs))
    (List.take (j.toNat - i.toNat) (List.drop i.toNat ys)))
  0) = false) → (((ovV b r p (List.take (j.toNat - i.toNat) (List.drop i.toNat xs))
    (List.take (j.toNat - i.toNat) (List.drop i.toNat ys))).isSome) = true) → ((!(ovV b r p xs ys).isSome) = false) → ((cmpI BinOp.lss (ovI (ovV b r p xs ys)) 0) = false) → ((cmpI BinOp.gtr (ovI (ovV b r p xs ys)) (ovK (ovV b r p xs ys))) = true) → ((decide (0 ≤ i) = true) ∧ (decide (i ≤ j) = true) ∧ (decide (j ≤ ↑(rowLen [Col.ints IntKind.u64 xs, Col.ints IntKind.i64 ys])) = true) ∧ True) ∧ res = D.v (Value.bool false))
  (h10 : ((cmpI BinOp.neq (limE b r p) 0) = false) → ((cmpI BinOp.neq (cE xs ys) 0) = false) → ((cmpI BinOp.lss i 0) = false) → ((cmpI BinOp.lss j i) = false) → ((cmpI BinOp.gtr j ↑(rowLen [Col.ints IntKind.u64 xs, Col.ints IntKind.i64 ys])) = false) → ((cmpI BinOp.neq (ovE b r p xs ys) 0) = false) → ((cmpI BinOp.neq
  (ovE b r p (List.take (j.toNat - i.toNat) (List.drop i.toNat xs))
    (List.take (j.toNat - i.toNat) (List.drop i.toNat ys)))
  0) = false) → (((ovV b r p (List.take (j.toNat - i.toNat) (List.drop i.toNat xs))
    (List.take (j.toNat - i.toNat) (List.drop i.toNat ys))).isSome) = true) → ((!(ovV b r p xs ys).isSome) = false) → ((cmpI BinOp.lss (ovI (ovV b r p xs ys)) 0) = false) → ((cmpI BinOp.gtr (ovI (ovV b r p xs ys)) (ovK (ovV b r p xs ys))) = false) → ((cmpI BinOp.geq (ovK (ovV b r p xs ys)) ↑(rowLen [Col.ints IntKind.u64 xs, Col.ints IntKind.i64 ys])) = true) → ((decide (0 ≤ i) = true) ∧ (decide (i ≤ j) = true) ∧ (decide (j ≤ ↑(rowLen [Col.ints IntKind.u64 xs, Col.ints IntKind.i64 ys])) = true) ∧ True) ∧ res = D.v (Value.bool false))
  (h11 : ((cmpI BinOp.neq (limE b r p) 0) = false) → ((cmpI BinOp.neq (cE xs ys) 0) = false) → ((cmpI BinOp.lss i 0) = false) → ((cmpI BinOp.lss j i) = false) → ((cmpI BinOp.gtr j ↑(rowLen [Col.ints IntKind.u64 xs, Col.ints IntKind.i64 ys])) = false) → ((cmpI BinOp.neq (ovE b r p xs ys) 0) = false) → ((cmpI BinOp.neq
  (ovE b r p (List.take (j.toNat - i.toNat) (List.drop i.toNat xs))
    (List.take (j.toNat - i.toNat) (List.drop i.toNat ys)))
  0) = false) → (((ovV b r p (List.take (j.toNat - i.toNat) (List.drop i.toNat xs))
    (List.take (j.toNat - i.toNat) (List.drop i.toNat ys))).isSome) = true) → ((!(ovV b r p xs ys).isSome) = false) → ((cmpI BinOp.lss (ovI (ovV b r p xs ys)) 0) = false) → ((cmpI BinOp.gtr (ovI (ovV b r p xs ys)) (ovK (ovV b r p xs ys))) = false) → ((cmpI BinOp.geq (ovK (ovV b r p xs ys)) ↑(rowLen [Col.ints IntKind.u64 xs, Col.ints IntKind.i64 ys])) = false) → ((cmpI BinOp.eql (bE b r p (xs.getD (ovI (ovV b r p xs ys)).toNat 0) (xs.getD (ovK (ovV b r p xs ys)).toNat 0)) 0) = true) → ((cmpI BinOp.gtr
  (sumN ys (ovI (ovV b r p xs ys)).toNat ((ovK (ovV b r p xs ys)).toNat + 1 - (ovI (ovV b r p xs ys)).toNat))
  (bV b r p (xs.getD (ovI (ovV b r p xs ys)).toNat 0) (xs.getD (ovK (ovV b r p xs ys)).toNat 0))) = true) → ((cmpI BinOp.eql
  (ovE b r p (List.take ((ovK (ovV b r p xs ys)).toNat - 0) (List.drop 0 xs))
    (List.take ((ovK (ovV b r p xs ys)).toNat - 0) (List.drop 0 ys)))
  0) = true) → ((!(ovV b r p (List.take ((ovK (ovV b r p xs ys)).toNat - Int.toNat 0) (List.drop (Int.toNat 0) xs))
      (List.take ((ovK (ovV b r p xs ys)).toNat - Int.toNat 0) (List.drop (Int.toNat 0) ys))).isSome) = true) → ((cmpI BinOp.eql
  (ovE b r p
    (List.take
      ((opI BinOp.add IntKind.i64 (ovK (ovV b r p xs ys)) 1).toNat -
        (opI BinOp.add IntKind.i64 (ovI (ovV b r p xs ys)) 1).toNat)
      (List.drop (opI BinOp.add IntKind.i64 (ovI (ovV b r p xs ys)) 1).toNat xs))
    (List.take
      ((opI BinOp.add IntKind.i64 (ovK (ovV b r p xs ys)) 1).toNat -
        (opI BinOp.add IntKind.i64 (ovI (ovV b r p xs ys)) 1).toNat)
      (List.drop (opI BinOp.add IntKind.i64 (ovI (ovV b r p xs ys)) 1).toNat ys)))
  0) = true) → ((cE xs ys = 0) ∧ (0 ≤ ovI (ovV b r p xs ys)) ∧ (ovI (ovV b r p xs ys) ≤ ovK (ovV b r p xs ys)) ∧ (ovK (ovV b r p xs ys) < ↑xs.length) ∧ (decide (0 ≤ opI BinOp.add IntKind.i64 (ovI (ovV b r p xs ys)) 1) = true) ∧ (decide (opI BinOp.add IntKind.i64 (ovI (ovV b r p xs ys)) 1 ≤ opI BinOp.add IntKind.i64 (ovK (ovV b r p xs ys)) 1) =
  true) ∧ (decide
    (opI BinOp.add IntKind.i64 (ovK (ovV b r p xs ys)) 1 ≤
      ↑(rowLen [Col.ints IntKind.u64 xs, Col.ints IntKind.i64 ys])) =
  true) ∧ (decide (0 ≤ ovK (ovV b r p xs ys)) = true) ∧ (decide (ovK (ovV b r p xs ys) ≤ ↑(rowLen [Col.ints IntKind.u64 xs, Col.ints IntKind.i64 ys])) = true) ∧ (0 ≤ xs.getD (ovI (ovV b r p xs ys)).toNat 0) ∧ (xs.getD (ovI (ovV b r p xs ys)).toNat 0 < 18446744073709551616) ∧ (0 ≤ xs.getD (ovK (ovV b r p xs ys)).toNat 0) ∧ (xs.getD (ovK (ovV b r p xs ys)).toNat 0 < 18446744073709551616) ∧ (decide (0 ≤ ovK (ovV b r p xs ys)) = true) ∧ (decide (ovK (ovV b r p xs ys) < ↑(rowLen [Col.ints IntKind.u64 xs, Col.ints IntKind.i64 ys])) = true) ∧ (decide (0 ≤ ovI (ovV b r p xs ys)) = true) ∧ (decide (ovI (ovV b r p xs ys) < ↑(rowLen [Col.ints IntKind.u64 xs, Col.ints IntKind.i64 ys])) = true) ∧ (decide (0 ≤ i) = true) ∧ (decide (i ≤ j) = true) ∧ (decide (j ≤ ↑(rowLen [Col.ints IntKind.u64 xs, Col.ints IntKind.i64 ys])) = true) ∧ True) ∧ res = D.v
  (Value.bool
    !(ovV b r p
          (List.take
            ((opI BinOp.add IntKind.i64 (ovK (ovV b r p xs ys)) 1).toNat -
              (opI BinOp.add IntKind.i64 (ovI (ovV b r p xs ys)) 1).toNat)
            (List.drop (opI BinOp.add IntKind.i64 (ovI (ovV b r p xs ys)) 1).toNat xs))
          (List.take
            ((opI BinOp.add IntKind.i64 (ovK (ovV b r p xs ys)) 1).toNat -
              (opI BinOp.add IntKind.i64 (ovI (ovV b r p xs ys)) 1).toNat)
            (List.drop (opI BinOp.add IntKind.i64 (ovI (ovV b r p xs ys)) 1).toNat ys))).isSome))
  (h12 : ((cmpI BinOp.neq (limE b r p) 0) = false) → ((cmpI BinOp.neq (cE xs ys) 0) = false) → ((cmpI BinOp.lss i 0) = false) → ((cmpI BinOp.lss j i) = false) → ((cmpI BinOp.gtr j ↑(rowLen [Col.ints IntKind.u64 xs, Col.ints IntKind.i64 ys])) = false) → ((cmpI BinOp.neq (ovE b r p xs ys) 0) = false) → ((cmpI BinOp.neq
  (ovE b r p (List.take (j.toNat - i.toNat) (List.drop i.toNat xs))
    (List.take (j.toNat - i.toNat) (List.drop i.toNat ys)))
  0) = false) → (((ovV b r p (List.take (j.toNat - i.toNat) (List.drop i.toNat xs))
    (List.take (j.toNat - i.toNat) (List.drop i.toNat ys))).isSome) = true) → ((!(ovV b r p xs ys).isSome) = false) → ((cmpI BinOp.lss (ovI (ovV b r p xs ys)) 0) = false) → ((cmpI BinOp.gtr (ovI (ovV b r p xs ys)) (ovK (ovV b r p xs ys))) = false) → ((cmpI BinOp.geq (ovK (ovV b r p xs ys)) ↑(rowLen [Col.ints IntKind.u64 xs, Col.ints IntKind.i64 ys])) = false) → ((cmpI BinOp.eql (bE b r p (xs.getD (ovI (ovV b r p xs ys)).toNat 0) (xs.getD (ovK (ovV b r p xs ys)).toNat 0)) 0) = true) → ((cmpI BinOp.gtr
  (sumN ys (ovI (ovV b r p xs ys)).toNat ((ovK (ovV b r p xs ys)).toNat + 1 - (ovI (ovV b r p xs ys)).toNat))
  (bV b r p (xs.getD (ovI (ovV b r p xs ys)).toNat 0) (xs.getD (ovK (ovV b r p xs ys)).toNat 0))) = true) → ((cmpI BinOp.eql
  (ovE b r p (List.take ((ovK (ovV b r p xs ys)).toNat - 0) (List.drop 0 xs))
    (List.take ((ovK (ovV b r p xs ys)).toNat - 0) (List.drop 0 ys)))
  0) = true) → ((!(ovV b r p (List.take ((ovK (ovV b r p xs ys)).toNat - Int.toNat 0) (List.drop (Int.toNat 0) xs))
      (List.take ((ovK (ovV b r p xs ys)).toNat - Int.toNat 0) (List.drop (Int.toNat 0) ys))).isSome) = true) → ((cmpI BinOp.eql
  (ovE b r p
    (List.take
      ((opI BinOp.add IntKind.i64 (ovK (ovV b r p xs ys)) 1).toNat -
        (opI BinOp.add IntKind.i64 (ovI (ovV b r p xs ys)) 1).toNat)
      (List.drop (opI BinOp.add IntKind.i64 (ovI (ovV b r p xs ys)) 1).toNat xs))
    (List.take
      ((opI BinOp.add IntKind.i64 (ovK (ovV b r p xs ys)) 1).toNat -
        (opI BinOp.add IntKind.i64 (ovI (ovV b r p xs ys)) 1).toNat)
      (List.drop (opI BinOp.add IntKind.i64 (ovI (ovV b r p xs ys)) 1).toNat ys)))
  0) = false) → ((cE xs ys = 0) ∧ (0 ≤ ovI (ovV b r p xs ys)) ∧ (ovI (ovV b r p xs ys) ≤ ovK (ovV b r p xs ys)) ∧ (ovK (ovV b r p xs ys) < ↑xs.length) ∧ (decide (0 ≤ opI BinOp.add IntKind.i64 (ovI (ovV b r p xs ys)) 1) = true) ∧ (decide (opI BinOp.add IntKind.i64 (ovI (ovV b r p xs ys)) 1 ≤ opI BinOp.add IntKind.i64 (ovK (ovV b r p xs ys)) 1) =
  true) ∧ (decide
    (opI BinOp.add IntKind.i64 (ovK (ovV b r p xs ys)) 1 ≤
      ↑(rowLen [Col.ints IntKind.u64 xs, Col.ints IntKind.i64 ys])) =
  true) ∧ (decide (0 ≤ ovK (ovV b r p xs ys)) = true) ∧ (decide (ovK (ovV b r p xs ys) ≤ ↑(rowLen [Col.ints IntKind.u64 xs, Col.ints IntKind.i64 ys])) = true) ∧ (0 ≤ xs.getD (ovI (ovV b r p xs ys)).toNat 0) ∧ (xs.getD (ovI (ovV b r p xs ys)).toNat 0 < 18446744073709551616) ∧ (0 ≤ xs.getD (ovK (ovV b r p xs ys)).toNat 0) ∧ (xs.getD (ovK (ovV b r p xs ys)).toNat 0 < 18446744073709551616) ∧ (decide (0 ≤ ovK (ovV b r p xs ys)) = true) ∧ (decide (ovK (ovV b r p xs ys) < ↑(rowLen [Col.ints IntKind.u64 xs, Col.ints IntKind.i64 ys])) = true) ∧ (decide (0 ≤ ovI (ovV b r p xs ys)) = true) ∧ (decide (ovI (ovV b r p xs ys) < ↑(rowLen [Col.ints IntKind.u64 xs, Col.ints IntKind.i64 ys])) = true) ∧ (decide (0 ≤ i) = true) ∧ (decide (i ≤ j) = true) ∧ (decide (j ≤ ↑(rowLen [Col.ints IntKind.u64 xs, Col.ints IntKind.i64 ys])) = true) ∧ True) ∧ res = D.v (Value.bool false))
  (h13 : ((cmpI BinOp.neq (limE b r p) 0) = false) → ((cmpI BinOp.neq (cE xs ys) 0) = false) → ((cmpI BinOp.lss i 0) = false) → ((cmpI BinOp.lss j i) = false) → ((cmpI BinOp.gtr j ↑(rowLen [Col.ints IntKind.u64 xs, Col.ints IntKind.i64 ys])) = false) → ((cmpI BinOp.neq (ovE b r p xs ys) 0) = false) → ((cmpI BinOp.neq
  (ovE b r p (List.take (j.toNat - i.toNat) (List.drop i.toNat xs))
    (List.take (j.toNat - i.toNat) (List.drop i.toNat ys)))
  0) = false) → (((ovV b r p (List.take (j.toNat - i.toNat) (List.drop i.toNat xs))
    (List.take (j.toNat - i.toNat) (List.drop i.toNat ys))).isSome) = true) → ((!(ovV b r p xs ys).isSome) = false) → ((cmpI BinOp.lss (ovI (ovV b r p xs ys)) 0) = false) → ((cmpI BinOp.gtr (ovI (ovV b r p xs ys)) (ovK (ovV b r p xs ys))) = false) → ((cmpI BinOp.geq (ovK (ovV b r p xs ys)) ↑(rowLen [Col.ints IntKind.u64 xs, Col.ints IntKind.i64 ys])) = false) → ((cmpI BinOp.eql (bE b r p (xs.getD (ovI (ovV b r p xs ys)).toNat 0) (xs.getD (ovK (ovV b r p xs ys)).toNat 0)) 0) = true) → ((cmpI BinOp.gtr
  (sumN ys (ovI (ovV b r p xs ys)).toNat ((ovK (ovV b r p xs ys)).toNat + 1 - (ovI (ovV b r p xs ys)).toNat))
  (bV b r p (xs.getD (ovI (ovV b r p xs ys)).toNat 0) (xs.getD (ovK (ovV b r p xs ys)).toNat 0))) = true) → ((cmpI BinOp.eql
  (ovE b r p (List.take ((ovK (ovV b r p xs ys)).toNat - 0) (List.drop 0 xs))
    (List.take ((ovK (ovV b r p xs ys)).toNat - 0) (List.drop 0 ys)))
  0) = true) → ((!(ovV b r p (List.take ((ovK (ovV b r p xs ys)).toNat - Int.toNat 0) (List.drop (Int.toNat 0) xs))
      (List.take ((ovK (ovV b r p xs ys)).toNat - Int.toNat 0) (List.drop (Int.toNat 0) ys))).isSome) = false) → ((cE xs ys = 0) ∧ (0 ≤ ovI (ovV b r p xs ys)) ∧ (ovI (ovV b r p xs ys) ≤ ovK (ovV b r p xs ys)) ∧ (ovK (ovV b r p xs ys) < ↑xs.length) ∧ (decide (0 ≤ opI BinOp.add IntKind.i64 (ovI (ovV b r p xs ys)) 1) = true) ∧ (decide (opI BinOp.add IntKind.i64 (ovI (ovV b r p xs ys)) 1 ≤ opI BinOp.add IntKind.i64 (ovK (ovV b r p xs ys)) 1) =
  true) ∧ (decide
    (opI BinOp.add IntKind.i64 (ovK (ovV b r p xs ys)) 1 ≤
      ↑(rowLen [Col.ints IntKind.u64 xs, Col.ints IntKind.i64 ys])) =
  true) ∧ (decide (0 ≤ ovK (ovV b r p xs ys)) = true) ∧ (decide (ovK (ovV b r p xs ys) ≤ ↑(rowLen [Col.ints IntKind.u64 xs, Col.ints IntKind.i64 ys])) = true) ∧ (0 ≤ xs.getD (ovI (ovV b r p xs ys)).toNat 0) ∧ (xs.getD (ovI (ovV b r p xs ys)).toNat 0 < 18446744073709551616) ∧ (0 ≤ xs.getD (ovK (ovV b r p xs ys)).toNat 0) ∧ (xs.getD (ovK (ovV b r p xs ys)).toNat 0 < 18446744073709551616) ∧ (decide (0 ≤ ovK (ovV b r p xs ys)) = true) ∧ (decide (ovK (ovV b r p xs ys) < ↑(rowLen [Col.ints IntKind.u64 xs, Col.ints IntKind.i64 ys])) = true) ∧ (decide (0 ≤ ovI (ovV b r p xs ys)) = true) ∧ (decide (ovI (ovV b r p xs ys) < ↑(rowLen [Col.ints IntKind.u64 xs, Col.ints IntKind.i64 ys])) = true) ∧ (decide (0 ≤ i) = true) ∧ (decide (i ≤ j) = true) ∧ (decide (j ≤ ↑(rowLen [Col.ints IntKind.u64 xs, Col.ints IntKind.i64 ys])) = true) ∧ True) ∧ res = D.v (Value.bool false))
  (h14 : ((cmpI BinOp.neq (limE b r p) 0) = false) → ((cmpI BinOp.neq (cE xs ys) 0) = false) → ((cmpI BinOp.lss i 0) = false) → ((cmpI BinOp.lss j i) = false) → ((cmpI BinOp.gtr j ↑(rowLen [Col.ints IntKind.u64 xs, Col.ints IntKind.i64 ys])) = false) → ((cmpI BinOp.neq (ovE b r p xs ys) 0) = false) → ((cmpI BinOp.neq
  (ovE b r p (List.take (j.toNat - i.toNat) (List.drop i.toNat xs))
    (List.take (j.toNat - i.toNat) (List.drop i.toNat ys)))
  0) = false) → (((ovV b r p (List.take (j.toNat - i.toNat) (List.drop i.toNat xs))
    (List.take (j.toNat - i.toNat) (List.drop i.toNat ys))).isSome) = true) → ((!(ovV b r p xs ys).isSome) = false) → ((cmpI BinOp.lss (ovI (ovV b r p xs ys)) 0) = false) → ((cmpI BinOp.gtr (ovI (ovV b r p xs ys)) (ovK (ovV b r p xs ys))) = false) → ((cmpI BinOp.geq (ovK (ovV b r p xs ys)) ↑(rowLen [Col.ints IntKind.u64 xs, Col.ints IntKind.i64 ys])) = false) → ((cmpI BinOp.eql (bE b r p (xs.getD (ovI (ovV b r p xs ys)).toNat 0) (xs.getD (ovK (ovV b r p xs ys)).toNat 0)) 0) = true) → ((cmpI BinOp.gtr
  (sumN ys (ovI (ovV b r p xs ys)).toNat ((ovK (ovV b r p xs ys)).toNat + 1 - (ovI (ovV b r p xs ys)).toNat))
  (bV b r p (xs.getD (ovI (ovV b r p xs ys)).toNat 0) (xs.getD (ovK (ovV b r p xs ys)).toNat 0))) = true) → ((cmpI BinOp.eql
  (ovE b r p (List.take ((ovK (ovV b r p xs ys)).toNat - 0) (List.drop 0 xs))
    (List.take ((ovK (ovV b r p xs ys)).toNat - 0) (List.drop 0 ys)))
  0) = false) → ((cE xs ys = 0) ∧ (0 ≤ ovI (ovV b r p xs ys)) ∧ (ovI (ovV b r p xs ys) ≤ ovK (ovV b r p xs ys)) ∧ (ovK (ovV b r p xs ys) < ↑xs.length) ∧ (decide (0 ≤ opI BinOp.add IntKind.i64 (ovI (ovV b r p xs ys)) 1) = true) ∧ (decide (opI BinOp.add IntKind.i64 (ovI (ovV b r p xs ys)) 1 ≤ opI BinOp.add IntKind.i64 (ovK (ovV b r p xs ys)) 1) =
  true) ∧ (decide
    (opI BinOp.add IntKind.i64 (ovK (ovV b r p xs ys)) 1 ≤
      ↑(rowLen [Col.ints IntKind.u64 xs, Col.ints IntKind.i64 ys])) =
  true) ∧ (decide (0 ≤ ovK (ovV b r p xs ys)) = true) ∧ (decide (ovK (ovV b r p xs ys) ≤ ↑(rowLen [Col.ints IntKind.u64 xs, Col.ints IntKind.i64 ys])) = true) ∧ (0 ≤ xs.getD (ovI (ovV b r p xs ys)).toNat 0) ∧ (xs.getD (ovI (ovV b r p xs ys)).toNat 0 < 18446744073709551616) ∧ (0 ≤ xs.getD (ovK (ovV b r p xs ys)).toNat 0) ∧ (xs.getD (ovK (ovV b r p xs ys)).toNat 0 < 18446744073709551616) ∧ (decide (0 ≤ ovK (ovV b r p xs ys)) = true) ∧ (decide (ovK (ovV b r p xs ys) < ↑(rowLen [Col.ints IntKind.u64 xs, Col.ints IntKind.i64 ys])) = true) ∧ (decide (0 ≤ ovI (ovV b r p xs ys)) = true) ∧ (decide (ovI (ovV b r p xs ys) < ↑(rowLen [Col.ints IntKind.u64 xs, Col.ints IntKind.i64 ys])) = true) ∧ (decide (0 ≤ i) = true) ∧ (decide (i ≤ j) = true) ∧ (decide (j ≤ ↑(rowLen [Col.ints IntKind.u64 xs, Col.ints IntKind.i64 ys])) = true) ∧ True) ∧ res = D.v (Value.bool false))
  (h15 : ((cmpI BinOp.neq (limE b r p) 0) = false) → ((cmpI BinOp.neq (cE xs ys) 0) = false) → ((cmpI BinOp.lss i 0) = false) → ((cmpI BinOp.lss j i) = false) → ((cmpI BinOp.gtr j ↑(rowLen [Col.ints IntKind.u64 xs, Col.ints IntKind.i64 ys])) = false) → ((cmpI BinOp.neq (ovE b r p xs ys) 0) = false) → ((cmpI BinOp.neq
  (ovE b r p (List.take (j.toNat - i.toNat) (List.drop i.toNat xs))
    (List.take (j.toNat - i.toNat) (List.drop i.toNat ys)))
  0) = false) → (((ovV b r p (List.take (j.toNat - i.toNat) (List.drop i.toNat xs))
    (List.take (j.toNat - i.toNat) (List.drop i.toNat ys))).isSome) = true) → ((!(ovV b r p xs ys).isSome) = false) → ((cmpI BinOp.lss (ovI (ovV b r p xs ys)) 0) = false) → ((cmpI BinOp.gtr (ovI (ovV b r p xs ys)) (ovK (ovV b r p xs ys))) = false) → ((cmpI BinOp.geq (ovK (ovV b r p xs ys)) ↑(rowLen [Col.ints IntKind.u64 xs, Col.ints IntKind.i64 ys])) = false) → ((cmpI BinOp.eql (bE b r p (xs.getD (ovI (ovV b r p xs ys)).toNat 0) (xs.getD (ovK (ovV b r p xs ys)).toNat 0)) 0) = true) → ((cmpI BinOp.gtr
  (sumN ys (ovI (ovV b r p xs ys)).toNat ((ovK (ovV b r p xs ys)).toNat + 1 - (ovI (ovV b r p xs ys)).toNat))
  (bV b r p (xs.getD (ovI (ovV b r p xs ys)).toNat 0) (xs.getD (ovK (ovV b r p xs ys)).toNat 0))) = false) → ((cE xs ys = 0) ∧ (0 ≤ ovI (ovV b r p xs ys)) ∧ (ovI (ovV b r p xs ys) ≤ ovK (ovV b r p xs ys)) ∧ (ovK (ovV b r p xs ys) < ↑xs.length) ∧ (decide (0 ≤ opI BinOp.add IntKind.i64 (ovI (ovV b r p xs ys)) 1) = true) ∧ (decide (opI BinOp.add IntKind.i64 (ovI (ovV b r p xs ys)) 1 ≤ opI BinOp.add IntKind.i64 (ovK (ovV b r p xs ys)) 1) =
  true) ∧ (decide
    (opI BinOp.add IntKind.i64 (ovK (ovV b r p xs ys)) 1 ≤
      ↑(rowLen [Col.ints IntKind.u64 xs, Col.ints IntKind.i64 ys])) =
  true) ∧ (decide (0 ≤ ovK (ovV b r p xs ys)) = true) ∧ (decide (ovK (ovV b r p xs ys) ≤ ↑(rowLen [Col.ints IntKind.u64 xs, Col.ints IntKind.i64 ys])) = true) ∧ (0 ≤ xs.getD (ovI (ovV b r p xs ys)).toNat 0) ∧ (xs.getD (ovI (ovV b r p xs ys)).toNat 0 < 18446744073709551616) ∧ (0 ≤ xs.getD (ovK (ovV b r p xs ys)).toNat 0) ∧ (xs.getD (ovK (ovV b r p xs ys)).toNat 0 < 18446744073709551616) ∧ (decide (0 ≤ ovK (ovV b r p xs ys)) = true) ∧ (decide (ovK (ovV b r p xs ys) < ↑(rowLen [Col.ints IntKind.u64 xs, Col.ints IntKind.i64 ys])) = true) ∧ (decide (0 ≤ ovI (ovV b r p xs ys)) = true) ∧ (decide (ovI (ovV b r p xs ys) < ↑(rowLen [Col.ints IntKind.u64 xs, Col.ints IntKind.i64 ys])) = true) ∧ (decide (0 ≤ i) = true) ∧ (decide (i ≤ j) = true) ∧ (decide (j ≤ ↑(rowLen [Col.ints IntKind.u64 xs, Col.ints IntKind.i64 ys])) = true) ∧ True) ∧ res = D.v (Value.bool false))
  (h16 : ((cmpI BinOp.neq (limE b r p) 0) = false) → ((cmpI BinOp.neq (cE xs ys) 0) = false) → ((cmpI BinOp.lss i 0) = false) → ((cmpI BinOp.lss j i) = false) → ((cmpI BinOp.gtr j ↑(rowLen [Col.ints IntKind.u64 xs, Col.ints IntKind.i64 ys])) = false) → ((cmpI BinOp.neq (ovE b r p xs ys) 0) = false) → ((cmpI BinOp.neq
  (ovE b r p (List.take (j.toNat - i.toNat) (List.drop i.toNat xs))
    (List.take (j.toNat - i.toNat) (List.drop i.toNat ys)))
  0) = false) → (((ovV b r p (List.take (j.toNat - i.toNat) (List.drop i.toNat xs))
    (List.take (j.toNat - i.toNat) (List.drop i.toNat ys))).isSome) = true) → ((!(ovV b r p xs ys).isSome) = false) → ((cmpI BinOp.lss (ovI (ovV b r p xs ys)) 0) = false) → ((cmpI BinOp.gtr (ovI (ovV b r p xs ys)) (ovK (ovV b r p xs ys))) = false) → ((cmpI BinOp.geq (ovK (ovV b r p xs ys)) ↑(rowLen [Col.ints IntKind.u64 xs, Col.ints IntKind.i64 ys])) = false) → ((cmpI BinOp.eql (bE b r p (xs.getD (ovI (ovV b r p xs ys)).toNat 0) (xs.getD (ovK (ovV b r p xs ys)).toNat 0)) 0) = false) → ((decide (0 ≤ opI BinOp.add IntKind.i64 (ovI (ovV b r p xs ys)) 1) = true) ∧ (decide (opI BinOp.add IntKind.i64 (ovI (ovV b r p xs ys)) 1 ≤ opI BinOp.add IntKind.i64 (ovK (ovV b r p xs ys)) 1) =
  true) ∧ (decide
    (opI BinOp.add IntKind.i64 (ovK (ovV b r p xs ys)) 1 ≤
      ↑(rowLen [Col.ints IntKind.u64 xs, Col.ints IntKind.i64 ys])) =
  true) ∧ (decide (0 ≤ ovK (ovV b r p xs ys)) = true) ∧ (decide (ovK (ovV b r p xs ys) ≤ ↑(rowLen [Col.ints IntKind.u64 xs, Col.ints IntKind.i64 ys])) = true) ∧ (0 ≤ xs.getD (ovI (ovV b r p xs ys)).toNat 0) ∧ (xs.getD (ovI (ovV b r p xs ys)).toNat 0 < 18446744073709551616) ∧ (0 ≤ xs.getD (ovK (ovV b r p xs ys)).toNat 0) ∧ (xs.getD (ovK (ovV b r p xs ys)).toNat 0 < 18446744073709551616) ∧ (decide (0 ≤ ovK (ovV b r p xs ys)) = true) ∧ (decide (ovK (ovV b r p xs ys) < ↑(rowLen [Col.ints IntKind.u64 xs, Col.ints IntKind.i64 ys])) = true) ∧ (decide (0 ≤ ovI (ovV b r p xs ys)) = true) ∧ (decide (ovI (ovV b r p xs ys) < ↑(rowLen [Col.ints IntKind.u64 xs, Col.ints IntKind.i64 ys])) = true) ∧ (decide (0 ≤ i) = true) ∧ (decide (i ≤ j) = true) ∧ (decide (j ≤ ↑(rowLen [Col.ints IntKind.u64 xs, Col.ints IntKind.i64 ys])) = true) ∧ True) ∧ res = D.v (Value.bool false))
  (h17 : ((cmpI BinOp.neq (limE b r p) 0) = false) → ((cmpI BinOp.neq (cE xs ys) 0) = false) → ((cmpI BinOp.lss i 0) = false) → ((cmpI BinOp.lss j i) = false) → ((cmpI BinOp.gtr j ↑(rowLen [Col.ints IntKind.u64 xs, Col.ints IntKind.i64 ys])) = false) → ((cmpI BinOp.neq (ovE b r p xs ys) 0) = false) → ((cmpI BinOp.neq
  (ovE b r p (List.take (j.toNat - i.toNat) (List.drop i.toNat xs))
    (List.take (j.toNat - i.toNat) (List.drop i.toNat ys)))
  0) = false) → (((ovV b r p (List.take (j.toNat - i.toNat) (List.drop i.toNat xs))
    (List.take (j.toNat - i.toNat) (List.drop i.toNat ys))).isSome) = false) → ((!(ovV b r p xs ys).isSome) = true) → ((cmpI BinOp.eql (ovI (ovV b r p xs ys)) 0) = true) → ((decide (0 ≤ i) = true) ∧ (decide (i ≤ j) = true) ∧ (decide (j ≤ ↑(rowLen [Col.ints IntKind.u64 xs, Col.ints IntKind.i64 ys])) = true) ∧ True) ∧ res = D.v (Value.bool (cmpI BinOp.eql (ovK (ovV b r p xs ys)) 0)))
  (h18 : ((cmpI BinOp.neq (limE b r p) 0) = false) → ((cmpI BinOp.neq (cE xs ys) 0) = false) → ((cmpI BinOp.lss i 0) = false) → ((cmpI BinOp.lss j i) = false) → ((cmpI BinOp.gtr j ↑(rowLen [Col.ints IntKind.u64 xs, Col.ints IntKind.i64 ys])) = false) → ((cmpI BinOp.neq (ovE b r p xs ys) 0) = false) → ((cmpI BinOp.neq
  (ovE b r p (List.take (j.toNat - i.toNat) (List.drop i.toNat xs))
    (List.take (j.toNat - i.toNat) (List.drop i.toNat ys)))
  0) = false) → (((ovV b r p (List.take (j.toNat - i.toNat) (List.drop i.toNat xs))
    (List.take (j.toNat - i.toNat) (List.drop i.toNat ys))).isSome) = false) → ((!(ovV b r p xs ys).isSome) = true) → ((cmpI BinOp.eql (ovI (ovV b r p xs ys)) 0) = false) → ((decide (0 ≤ i) = true) ∧ (decide (i ≤ j) = true) ∧ (decide (j ≤ ↑(rowLen [Col.ints IntKind.u64 xs, Col.ints IntKind.i64 ys])) = true) ∧ True) ∧ res = D.v (Value.bool false))
  (h19 : ((cmpI BinOp.neq (limE b r p) 0) = false) → ((cmpI BinOp.neq (cE xs ys) 0) = false) → ((cmpI BinOp.lss i 0) = false) → ((cmpI BinOp.lss j i) = false) → ((cmpI BinOp.gtr j ↑(rowLen [Col.ints IntKind.u64 xs, Col.ints IntKind.i64 ys])) = false) → ((cmpI BinOp.neq (ovE b r p xs ys) 0) = false) → ((cmpI BinOp.neq
  (ovE b r p (List.take (j.toNat - i.toNat) (List.drop i.toNat xs))
    (List.take (j.toNat - i.toNat) (List.drop i.toNat ys)))
  0) = false) → (((ovV b r p (List.take (j.toNat - i.toNat) (List.drop i.toNat xs))
    (List.take (j.toNat - i.toNat) (List.drop i.toNat ys))).isSome) = false) → ((!(ovV b r p xs ys).isSome) = false) → ((cmpI BinOp.lss (ovI (ovV b r p xs ys)) 0) = true) → ((decide (0 ≤ i) = true) ∧ (decide (i ≤ j) = true) ∧ (decide (j ≤ ↑(rowLen [Col.ints IntKind.u64 xs, Col.ints IntKind.i64 ys])) = true) ∧ True) ∧ res = D.v (Value.bool false))
  (h20 : ((cmpI BinOp.neq (limE b r p) 0) = false) → ((cmpI BinOp.neq (cE xs ys) 0) = false) → ((cmpI BinOp.lss i 0) = false) → ((cmpI BinOp.lss j i) = false) → ((cmpI BinOp.gtr j ↑(rowLen [Col.ints IntKind.u64 xs, Col.ints IntKind.i64 ys])) = false) → ((cmpI BinOp.neq (ovE b r p xs ys) 0) = false) → ((cmpI BinOp.neq
  (ovE b r p (List.take (j.toNat - i.toNat) (List.drop i.toNat xs))
    (List.take (j.toNat - i.toNat) (List.drop i.toNat ys)))
  0) = false) → (((ovV b r p (List.take (j.toNat - i.toNat) (List.drop i.toNat xs))
    (List.take (j.toNat - i.toNat) (List.drop i.toNat ys))).isSome) = false) → ((!(ovV b r p xs ys).isSome) = false) → ((cmpI BinOp.lss (ovI (ovV b r p xs ys)) 0) = false) → ((cmpI BinOp.gtr (ovI (ovV b r p xs ys)) (ovK (ovV b r p xs ys))) = true) → ((decide (0 ≤ i) = true) ∧ (decide (i ≤ j) = true) ∧ (decide (j ≤ ↑(rowLen [Col.ints IntKind.u64 xs, Col.ints IntKind.i64 ys])) = true) ∧ True) ∧ res = D.v (Value.bool false))
  (h21 : ((cmpI BinOp.neq (limE b r p) 0) = false) → ((cmpI BinOp.neq (cE xs ys) 0) = false) → ((cmpI BinOp.lss i 0) = false) → ((cmpI BinOp.lss j i) = false) → ((cmpI BinOp.gtr j ↑(rowLen [Col.ints IntKind.u64 xs, Col.ints IntKind.i64 ys])) = false) → ((cmpI BinOp.neq (ovE b r p xs ys) 0) = false) → ((cmpI BinOp.neq
  (ovE b r p (List.take (j.toNat - i.toNat) (List.drop i.toNat xs))
    (List.take (j.toNat - i.toNat) (List.drop i.toNat ys)))
  0) = false) → (((ovV b r p (List.take (j.toNat - i.toNat) (List.drop i.toNat xs))
    (List.take (j.toNat - i.toNat) (List.drop i.toNat ys))).isSome) = false) → ((!(ovV b r p xs ys).isSome) = false) → ((cmpI BinOp.lss (ovI (ovV b r p xs ys)) 0) = false) → ((cmpI BinOp.gtr (ovI (ovV b r p xs ys)) (ovK (ovV b r p xs ys))) = false) → ((cmpI BinOp.geq (ovK (ovV b r p xs ys)) ↑(rowLen [Col.ints IntKind.u64 xs, Col.ints IntKind.i64 ys])) = true) → ((decide (0 ≤ i) = true) ∧ (decide (i ≤ j) = true) ∧ (decide (j ≤ ↑(rowLen [Col.ints IntKind.u64 xs, Col.ints IntKind.i64 ys])) = true) ∧ True) ∧ res = D.v (Value.bool false))
  (h22 : ((cmpI BinOp.neq (limE b r p) 0) = false) → ((cmpI BinOp.neq (cE xs ys) 0) = false) → ((cmpI BinOp.lss i 0) = false) → ((cmpI BinOp.lss j i) = false) → ((cmpI BinOp.gtr j ↑(rowLen [Col.ints IntKind.u64 xs, Col.ints IntKind.i64 ys])) = false) → ((cmpI BinOp.neq (ovE b r p xs ys) 0) = false) → ((cmpI BinOp.neq
  (ovE b r p (List.take (j.toNat - i.toNat) (List.drop i.toNat xs))
    (List.take (j.toNat - i.toNat) (List.drop i.toNat ys)))
  0) = false) → (((ovV b r p (List.take (j.toNat - i.toNat) (List.drop i.toNat xs))
    (List.take (j.toNat - i.toNat) (List.drop i.toNat ys))).isSome) = false) → ((!(ovV b r p xs ys).isSome) = false) → ((cmpI BinOp.lss (ovI (ovV b r p xs ys)) 0) = false) → ((cmpI BinOp.gtr (ovI (ovV b r p xs ys)) (ovK (ovV b r p xs ys))) = false) → ((cmpI BinOp.geq (ovK (ovV b r p xs ys)) ↑(rowLen [Col.ints IntKind.u64 xs, Col.ints IntKind.i64 ys])) = false) → ((cmpI BinOp.eql (bE b r p (xs.getD (ovI (ovV b r p xs ys)).toNat 0) (xs.getD (ovK (ovV b r p xs ys)).toNat 0)) 0) = true) → ((cmpI BinOp.gtr
  (sumN ys (ovI (ovV b r p xs ys)).toNat ((ovK (ovV b r p xs ys)).toNat + 1 - (ovI (ovV b r p xs ys)).toNat))
  (bV b r p (xs.getD (ovI (ovV b r p xs ys)).toNat 0) (xs.getD (ovK (ovV b r p xs ys)).toNat 0))) = true) → ((cmpI BinOp.eql
  (ovE b r p (List.take ((ovK (ovV b r p xs ys)).toNat - 0) (List.drop 0 xs))
    (List.take ((ovK (ovV b r p xs ys)).toNat - 0) (List.drop 0 ys)))
  0) = true) → ((!(ovV b r p (List.take ((ovK (ovV b r p xs ys)).toNat - Int.toNat 0) (List.drop (Int.toNat 0) xs))
      (List.take ((ovK (ovV b r p xs ys)).toNat - Int.toNat 0) (List.drop (Int.toNat 0) ys))).isSome) = true) → ((cmpI BinOp.eql
  (ovE b r p
    (List.take
      ((opI BinOp.add IntKind.i64 (ovK (ovV b r p xs ys)) 1).toNat -
        (opI BinOp.add IntKind.i64 (ovI (ovV b r p xs ys)) 1).toNat)
      (List.drop (opI BinOp.add IntKind.i64 (ovI (ovV b r p xs ys)) 1).toNat xs))
    (List.take
      ((opI BinOp.add IntKind.i64 (ovK (ovV b r p xs ys)) 1).toNat -
        (opI BinOp.add IntKind.i64 (ovI (ovV b r p xs ys)) 1).toNat)
      (List.drop (opI BinOp.add IntKind.i64 (ovI (ovV b r p xs ys)) 1).toNat ys)))
  0) = true) → ((cE xs ys = 0) ∧ (0 ≤ ovI (ovV b r p xs ys)) ∧ (ovI (ovV b r p xs ys) ≤ ovK (ovV b r p xs ys)) ∧ (ovK (ovV b r p xs ys) < ↑xs.length) ∧ (decide (0 ≤ opI BinOp.add IntKind.i64 (ovI (ovV b r p xs ys)) 1) = true) ∧ (decide (opI BinOp.add IntKind.i64 (ovI (ovV b r p xs ys)) 1 ≤ opI BinOp.add IntKind.i64 (ovK (ovV b r p xs ys)) 1) =
  true) ∧ (decide
    (opI BinOp.add IntKind.i64 (ovK (ovV b r p xs ys)) 1 ≤
      ↑(rowLen [Col.ints IntKind.u64 xs, Col.ints IntKind.i64 ys])) =
  true) ∧ (decide (0 ≤ ovK (ovV b r p xs ys)) = true) ∧ (decide (ovK (ovV b r p xs ys) ≤ ↑(rowLen [Col.ints IntKind.u64 xs, Col.ints IntKind.i64 ys])) = true) ∧ (0 ≤ xs.getD (ovI (ovV b r p xs ys)).toNat 0) ∧ (xs.getD (ovI (ovV b r p xs ys)).toNat 0 < 18446744073709551616) ∧ (0 ≤ xs.getD (ovK (ovV b r p xs ys)).toNat 0) ∧ (xs.getD (ovK (ovV b r p xs ys)).toNat 0 < 18446744073709551616) ∧ (decide (0 ≤ ovK (ovV b r p xs ys)) = true) ∧ (decide (ovK (ovV b r p xs ys) < ↑(rowLen [Col.ints IntKind.u64 xs, Col.ints IntKind.i64 ys])) = true) ∧ (decide (0 ≤ ovI (ovV b r p xs ys)) = true) ∧ (decide (ovI (ovV b r p xs ys) < ↑(rowLen [Col.ints IntKind.u64 xs, Col.ints IntKind.i64 ys])) = true) ∧ (decide (0 ≤ i) = true) ∧ (decide (i ≤ j) = true) ∧ (decide (j ≤ ↑(rowLen [Col.ints IntKind.u64 xs, Col.ints IntKind.i64 ys])) = true) ∧ True) ∧ res = D.v
  (Value.bool
    !(ovV b r p
          (List.take
            ((opI BinOp.add IntKind.i64 (ovK (ovV b r p xs ys)) 1).toNat -
              (opI BinOp.add IntKind.i64 (ovI (ovV b r p xs ys)) 1).toNat)
            (List.drop (opI BinOp.add IntKind.i64 (ovI (ovV b r p xs ys)) 1).toNat xs))
          (List.take
            ((opI BinOp.add IntKind.i64 (ovK (ovV b r p xs ys)) 1).toNat -
              (opI BinOp.add IntKind.i64 (ovI (ovV b r p xs ys)) 1).toNat)
            (List.drop (opI BinOp.add IntKind.i64 (ovI (ovV b r p xs ys)) 1).toNat ys))).isSome))
  (h23 : ((cmpI BinOp.neq (limE b r p) 0) = false) → ((cmpI BinOp.neq (cE xs ys) 0) = false) → ((cmpI BinOp.lss i 0) = false) → ((cmpI BinOp.lss j i) = false) → ((cmpI BinOp.gtr j ↑(rowLen [Col.ints IntKind.u64 xs, Col.ints IntKind.i64 ys])) = false) → ((cmpI BinOp.neq (ovE b r p xs ys) 0) = false) → ((cmpI BinOp.neq
  (ovE b r p (List.take (j.toNat - i.toNat) (List.drop i.toNat xs))
    (List.take (j.toNat - i.toNat) (List.drop i.toNat ys)))
  0) = false) → (((ovV b r p (List.take (j.toNat - i.toNat) (List.drop i.toNat xs))
    (List.take (j.toNat - i.toNat) (List.drop i.toNat ys))).isSome) = false) → ((!(ovV b r p xs ys).isSome) = false) → ((cmpI BinOp.lss (ovI (ovV b r p xs ys)) 0) = false) → ((cmpI BinOp.gtr (ovI (ovV b r p xs ys)) (ovK (ovV b r p xs ys))) = false) → ((cmpI BinOp.geq (ovK (ovV b r p xs ys)) ↑(rowLen [Col.ints IntKind.u64 xs, Col.ints IntKind.i64 ys])) = false) → ((cmpI BinOp.eql (bE b r p (xs.getD (ovI (ovV b r p xs ys)).toNat 0) (xs.getD (ovK (ovV b r p xs ys)).toNat 0)) 0) = true) → ((cmpI BinOp.gtr
  (sumN ys (ovI (ovV b r p xs ys)).toNat ((ovK (ovV b r p xs ys)).toNat + 1 - (ovI (ovV b r p xs ys)).toNat))
  (bV b r p (xs.getD (ovI (ovV b r p xs ys)).toNat 0) (xs.getD (ovK (ovV b r p xs ys)).toNat 0))) = true) → ((cmpI BinOp.eql
  (ovE b r p (List.take ((ovK (ovV b r p xs ys)).toNat - 0) (List.drop 0 xs))
    (List.take ((ovK (ovV b r p xs ys)).toNat - 0) (List.drop 0 ys)))
  0) = true) → ((!(ovV b r p (List.take ((ovK (ovV b r p xs ys)).toNat - Int.toNat 0) (List.drop (Int.toNat 0) xs))
      (List.take ((ovK (ovV b r p xs ys)).toNat - Int.toNat 0) (List.drop (Int.toNat 0) ys))).isSome) = true) → ((cmpI BinOp.eql
  (ovE b r p
    (List.take
      ((opI BinOp.add IntKind.i64 (ovK (ovV b r p xs ys)) 1).toNat -
        (opI BinOp.add IntKind.i64 (ovI (ovV b r p xs ys)) 1).toNat)
      (List.drop (opI BinOp.add IntKind.i64 (ovI (ovV b r p xs ys)) 1).toNat xs))
    (List.take
      ((opI BinOp.add IntKind.i64 (ovK (ovV b r p xs ys)) 1).toNat -
        (opI BinOp.add IntKind.i64 (ovI (ovV b r p xs ys)) 1).toNat)
      (List.drop (opI BinOp.add IntKind.i64 (ovI (ovV b r p xs ys)) 1).toNat ys)))
  0) = false) → ((cE xs ys = 0) ∧ (0 ≤ ovI (ovV b r p xs ys)) ∧ (ovI (ovV b r p xs ys) ≤ ovK (ovV b r p xs ys)) ∧ (ovK (ovV b r p xs ys) < ↑xs.length) ∧ (decide (0 ≤ opI BinOp.add IntKind.i64 (ovI (ovV b r p xs ys)) 1) = true) ∧ (decide (opI BinOp.add IntKind.i64 (ovI (ovV b r p xs ys)) 1 ≤ opI BinOp.add IntKind.i64 (ovK (ovV b r p xs ys)) 1) =
  true) ∧ (decide
    (opI BinOp.add IntKind.i64 (ovK (ovV b r p xs ys)) 1 ≤
      ↑(rowLen [Col.ints IntKind.u64 xs, Col.ints IntKind.i64 ys])) =
  true) ∧ (decide (0 ≤ ovK (ovV b r p xs ys)) = true) ∧ (decide (ovK (ovV b r p xs ys) ≤ ↑(rowLen [Col.ints IntKind.u64 xs, Col.ints IntKind.i64 ys])) = true) ∧ (0 ≤ xs.getD (ovI (ovV b r p xs ys)).toNat 0) ∧ (xs.getD (ovI (ovV b r p xs ys)).toNat 0 < 18446744073709551616) ∧ (0 ≤ xs.getD (ovK (ovV b r p xs ys)).toNat 0) ∧ (xs.getD (ovK (ovV b r p xs ys)).toNat 0 < 18446744073709551616) ∧ (decide (0 ≤ ovK (ovV b r p xs ys)) = true) ∧ (decide (ovK (ovV b r p xs ys) < ↑(rowLen [Col.ints IntKind.u64 xs, Col.ints IntKind.i64 ys])) = true) ∧ (decide (0 ≤ ovI (ovV b r p xs ys)) = true) ∧ (decide (ovI (ovV b r p xs ys) < ↑(rowLen [Col.ints IntKind.u64 xs, Col.ints IntKind.i64 ys])) = true) ∧ (decide (0 ≤ i) = true) ∧ (decide (i ≤ j) = true) ∧ (decide (j ≤ ↑(rowLen [Col.ints IntKind.u64 xs, Col.ints IntKind.i64 ys])) = true) ∧ True) ∧ res = D.v (Value.bool false))
  (h24 : ((cmpI BinOp.neq (limE b r p) 0) = false) → ((cmpI BinOp.neq (cE xs ys) 0) = false) → ((cmpI BinOp.lss i 0) = false) → ((cmpI BinOp.lss j i) = false) → ((cmpI BinOp.gtr j ↑(rowLen [Col.ints IntKind.u64 xs, Col.ints IntKind.i64 ys])) = false) → ((cmpI BinOp.neq (ovE b r p xs ys) 0) = false) → ((cmpI BinOp.neq
  (ovE b r p (List.take (j.toNat - i.toNat) (List.drop i.toNat xs))
    (List.take (j.toNat - i.toNat) (List.drop i.toNat ys)))
  0) = false) → (((ovV b r p (List.take (j.toNat - i.toNat) (List.drop i.toNat xs))
    (List.take (j.toNat - i.toNat) (List.drop i.toNat ys))).isSome) = false) → ((!(ovV b r p xs ys).isSome) = false) → ((cmpI BinOp.lss (ovI (ovV b r p xs ys)) 0) = false) → ((cmpI BinOp.gtr (ovI (ovV b r p xs ys)) (ovK (ovV b r p xs ys))) = false) → ((cmpI BinOp.geq (ovK (ovV b r p xs ys)) ↑(rowLen [Col.ints IntKind.u64 xs, Col.ints IntKind.i64 ys])) = false) → ((cmpI BinOp.eql (bE b r p (xs.getD (ovI (ovV b r p xs ys)).toNat 0) (xs.getD (ovK (ovV b r p xs ys)).toNat 0)) 0) = true) → ((cmpI BinOp.gtr
  (sumN ys (ovI (ovV b r p xs ys)).toNat ((ovK (ovV b r p xs ys)).toNat + 1 - (ovI (ovV b r p xs ys)).toNat))
  (bV b r p (xs.getD (ovI (ovV b r p xs ys)).toNat 0) (xs.getD (ovK (ovV b r p xs ys)).toNat 0))) = true) → ((cmpI BinOp.eql
  (ovE b r p (List.take ((ovK (ovV b r p xs ys)).toNat - 0) (List.drop 0 xs))
    (List.take ((ovK (ovV b r p xs ys)).toNat - 0) (List.drop 0 ys)))
  0) = true) → ((!(ovV b r p (List.take ((ovK (ovV b r p xs ys)).toNat - Int.toNat 0) (List.drop (Int.toNat 0) xs))
      (List.take ((ovK (ovV b r p xs ys)).toNat - Int.toNat 0) (List.drop (Int.toNat 0) ys))).isSome) = false) → ((cE xs ys = 0) ∧ (0 ≤ ovI (ovV b r p xs ys)) ∧ (ovI (ovV b r p xs ys) ≤ ovK (ovV b r p xs ys)) ∧ (ovK (ovV b r p xs ys) < ↑xs.length) ∧ (decide (0 ≤ opI BinOp.add IntKind.i64 (ovI (ovV b r p xs ys)) 1) = true) ∧ (decide (opI BinOp.add IntKind.i64 (ovI (ovV b r p xs ys)) 1 ≤ opI BinOp.add IntKind.i64 (ovK (ovV b r p xs ys)) 1) =
  true) ∧ (decide
    (opI BinOp.add IntKind.i64 (ovK (ovV b r p xs ys)) 1 ≤
      ↑(rowLen [Col.ints IntKind.u64 xs, Col.ints IntKind.i64 ys])) =
  true) ∧ (decide (0 ≤ ovK (ovV b r p xs ys)) = true) ∧ (decide (ovK (ovV b r p xs ys) ≤ ↑(rowLen [Col.ints IntKind.u64 xs, Col.ints IntKind.i64 ys])) = true) ∧ (0 ≤ xs.getD (ovI (ovV b r p xs ys)).toNat 0) ∧ (xs.getD (ovI (ovV b r p xs ys)).toNat 0 < 18446744073709551616) ∧ (0 ≤ xs.getD (ovK (ovV b r p xs ys)).toNat 0) ∧ (xs.getD (ovK (ovV b r p xs ys)).toNat 0 < 18446744073709551616) ∧ (decide (0 ≤ ovK (ovV b r p xs ys)) = true) ∧ (decide (ovK (ovV b r p xs ys) < ↑(rowLen [Col.ints IntKind.u64 xs, Col.ints IntKind.i64 ys])) = true) ∧ (decide (0 ≤ ovI (ovV b r p xs ys)) = true) ∧ (decide (ovI (ovV b r p xs ys) < ↑(rowLen [Col.ints IntKind.u64 xs, Col.ints IntKind.i64 ys])) = true) ∧ (decide (0 ≤ i) = true) ∧ (decide (i ≤ j) = true) ∧ (decide (j ≤ ↑(rowLen [Col.ints IntKind.u64 xs, Col.ints IntKind.i64 ys])) = true) ∧ True) ∧ res = D.v (Value.bool false))
  (h25 : ((cmpI BinOp.neq (limE b r p) 0) = false) → ((cmpI BinOp.neq (cE xs ys) 0) = false) → ((cmpI BinOp.lss i 0) = false) → ((cmpI BinOp.lss j i) = false) → ((cmpI BinOp.gtr j ↑(rowLen [Col.ints IntKind.u64 xs, Col.ints IntKind.i64 ys])) = false) → ((cmpI BinOp.neq (ovE b r p xs ys) 0) = false) → ((cmpI BinOp.neq
  (ovE b r p (List.take (j.toNat - i.toNat) (List.drop i.toNat xs))
    (List.take (j.toNat - i.toNat) (List.drop i.toNat ys)))
  0) = false) → (((ovV b r p (List.take (j.toNat - i.toNat) (List.drop i.toNat xs))
    (List.take (j.toNat - i.toNat) (List.drop i.toNat ys))).isSome) = false) → ((!(ovV b r p xs ys).isSome) = false) → ((cmpI BinOp.lss (ovI (ovV b r p xs ys)) 0) = false) → ((cmpI BinOp.gtr (ovI (ovV b r p xs ys)) (ovK (ovV b r p xs ys))) = false) → ((cmpI BinOp.geq (ovK (ovV b r p xs ys)) ↑(rowLen [Col.ints IntKind.u64 xs, Col.ints IntKind.i64 ys])) = false) → ((cmpI BinOp.eql (bE b r p (xs.getD (ovI (ovV b r p xs ys)).toNat 0) (xs.getD (ovK (ovV b r p xs ys)).toNat 0)) 0) = true) → ((cmpI BinOp.gtr
  (sumN ys (ovI (ovV b r p xs ys)).toNat ((ovK (ovV b r p xs ys)).toNat + 1 - (ovI (ovV b r p xs ys)).toNat))
  (bV b r p (xs.getD (ovI (ovV b r p xs ys)).toNat 0) (xs.getD (ovK (ovV b r p xs ys)).toNat 0))) = true) → ((cmpI BinOp.eql
  (ovE b r p (List.take ((ovK (ovV b r p xs ys)).toNat - 0) (List.drop 0 xs))
    (List.take ((ovK (ovV b r p xs ys)).toNat - 0) (List.drop 0 ys)))
  0) = false) → ((cE xs ys = 0) ∧ (0 ≤ ovI (ovV b r p xs ys)) ∧ (ovI (ovV b r p xs ys) ≤ ovK (ovV b r p xs ys)) ∧ (ovK (ovV b r p xs ys) < ↑xs.length) ∧ (decide (0 ≤ opI BinOp.add IntKind.i64 (ovI (ovV b r p xs ys)) 1) = true) ∧ (decide (opI BinOp.add IntKind.i64 (ovI (ovV b r p xs ys)) 1 ≤ opI BinOp.add IntKind.i64 (ovK (ovV b r p xs ys)) 1) =
  true) ∧ (decide
    (opI BinOp.add IntKind.i64 (ovK (ovV b r p xs ys)) 1 ≤
      ↑(rowLen [Col.ints IntKind.u64 xs, Col.ints IntKind.i64 ys])) =
  true) ∧ (decide (0 ≤ ovK (ovV b r p xs ys)) = true) ∧ (decide (ovK (ovV b r p xs ys) ≤ ↑(rowLen [Col.ints IntKind.u64 xs, Col.ints IntKind.i64 ys])) = true) ∧ (0 ≤ xs.getD (ovI (ovV b r p xs ys)).toNat 0) ∧ (xs.getD (ovI (ovV b r p xs ys)).toNat 0 < 18446744073709551616) ∧ (0 ≤ xs.getD (ovK (ovV b r p xs ys)).toNat 0) ∧ (xs.getD (ovK (ovV b r p xs ys)).toNat 0 < 18446744073709551616) ∧ (decide (0 ≤ ovK (ovV b r p xs ys)) = true) ∧ (decide (ovK (ovV b r p xs ys) < ↑(rowLen [Col.ints IntKind.u64 xs, Col.ints IntKind.i64 ys])) = true) ∧ (decide (0 ≤ ovI (ovV b r p xs ys)) = true) ∧ (decide (ovI (ovV b r p xs ys) < ↑(rowLen [Col.ints IntKind.u64 xs, Col.ints IntKind.i64 ys])) = true) ∧ (decide (0 ≤ i) = true) ∧ (decide (i ≤ j) = true) ∧ (decide (j ≤ ↑(rowLen [Col.ints IntKind.u64 xs, Col.ints IntKind.i64 ys])) = true) ∧ True) ∧ res = D.v (Value.bool false))
  (h26 : ((cmpI BinOp.neq (limE b r p) 0) = false) → ((cmpI BinOp.neq (cE xs ys) 0) = false) → ((cmpI BinOp.lss i 0) = false) → ((cmpI BinOp.lss j i) = false) → ((cmpI BinOp.gtr j ↑(rowLen [Col.ints IntKind.u64 xs, Col.ints IntKind.i64 ys])) = false) → ((cmpI BinOp.neq (ovE b r p xs ys) 0) = false) → ((cmpI BinOp.neq
  (ovE b r p (List.take (j.toNat - i.toNat) (List.drop i.toNat xs))
    (List.take (j.toNat - i.toNat) (List.drop i.toNat ys)))
  0) = false) → (((ovV b r p (List.take (j.toNat - i.toNat) (List.drop i.toNat xs))
    (List.take (j.toNat - i.toNat) (List.drop i.toNat ys))).isSome) = false) → ((!(ovV b r p xs ys).isSome) = false) → ((cmpI BinOp.lss (ovI (ovV b r p xs ys)) 0) = false) → ((cmpI BinOp.gtr (ovI (ovV b r p xs ys)) (ovK (ovV b r p xs ys))) = false) → ((cmpI BinOp.geq (ovK (ovV b r p xs ys)) ↑(rowLen [Col.ints IntKind.u64 xs, Col.ints IntKind.i64 ys])) = false) → ((cmpI BinOp.eql (bE b r p (xs.getD (ovI (ovV b r p xs ys)).toNat 0) (xs.getD (ovK (ovV b r p xs ys)).toNat 0)) 0) = true) → ((cmpI BinOp.gtr
  (sumN ys (ovI (ovV b r p xs ys)).toNat ((ovK (ovV b r p xs ys)).toNat + 1 - (ovI (ovV b r p xs ys)).toNat))
  (bV b r p (xs.getD (ovI (ovV b r p xs ys)).toNat 0) (xs.getD (ovK (ovV b r p xs ys)).toNat 0))) = false) → ((cE xs ys = 0) ∧ (0 ≤ ovI (ovV b r p xs ys)) ∧ (ovI (ovV b r p xs ys) ≤ ovK (ovV b r p xs ys)) ∧ (ovK (ovV b r p xs ys) < ↑xs.length) ∧ (decide (0 ≤ opI BinOp.add IntKind.i64 (ovI (ovV b r p xs ys)) 1) = true) ∧ (decide (opI BinOp.add IntKind.i64 (ovI (ovV b r p xs ys)) 1 ≤ opI BinOp.add IntKind.i64 (ovK (ovV b r p xs ys)) 1) =
  true) ∧ (decide
    (opI BinOp.add IntKind.i64 (ovK (ovV b r p xs ys)) 1 ≤
      ↑(rowLen [Col.ints IntKind.u64 xs, Col.ints IntKind.i64 ys])) =
  true) ∧ (decide (0 ≤ ovK (ovV b r p xs ys)) = true) ∧ (decide (ovK (ovV b r p xs ys) ≤ ↑(rowLen [Col.ints IntKind.u64 xs, Col.ints IntKind.i64 ys])) = true) ∧ (0 ≤ xs.getD (ovI (ovV b r p xs ys)).toNat 0) ∧ (xs.getD (ovI (ovV b r p xs ys)).toNat 0 < 18446744073709551616) ∧ (0 ≤ xs.getD (ovK (ovV b r p xs ys)).toNat 0) ∧ (xs.getD (ovK (ovV b r p xs ys)).toNat 0 < 18446744073709551616) ∧ (decide (0 ≤ ovK (ovV b r p xs ys)) = true) ∧ (decide (ovK (ovV b r p xs ys) < ↑(rowLen [Col.ints IntKind.u64 xs, Col.ints IntKind.i64 ys])) = true) ∧ (decide (0 ≤ ovI (ovV b r p xs ys)) = true) ∧ (decide (ovI (ovV b r p xs ys) < ↑(rowLen [Col.ints IntKind.u64 xs, Col.ints IntKind.i64 ys])) = true) ∧ (decide (0 ≤ i) = true) ∧ (decide (i ≤ j) = true) ∧ (decide (j ≤ ↑(rowLen [Col.ints IntKind.u64 xs, Col.ints IntKind.i64 ys])) = true) ∧ True) ∧ res = D.v (Value.bool false))
  (h27 : ((cmpI BinOp.neq (limE b r p) 0) = false) → ((cmpI BinOp.neq (cE xs ys) 0) = false) → ((cmpI BinOp.lss i 0) = false) → ((cmpI BinOp.lss j i) = false) → ((cmpI BinOp.gtr j ↑(rowLen [Col.ints IntKind.u64 xs, Col.ints IntKind.i64 ys])) = false) → ((cmpI BinOp.neq (ovE b r p xs ys) 0) = false) → ((cmpI BinOp.neq
  (ovE b r p (List.take (j.toNat - i.toNat) (List.drop i.toNat xs))
    (List.take (j.toNat - i.toNat) (List.drop i.toNat ys)))
  0) = false) → (((ovV b r p (List.take (j.toNat - i.toNat) (List.drop i.toNat xs))
    (List.take (j.toNat - i.toNat) (List.drop i.toNat ys))).isSome) = false) → ((!(ovV b r p xs ys).isSome) = false) → ((cmpI BinOp.lss (ovI (ovV b r p xs ys)) 0) = false) → ((cmpI BinOp.gtr (ovI (ovV b r p xs ys)) (ovK (ovV b r p xs ys))) = false) → ((cmpI BinOp.geq (ovK (ovV b r p xs ys)) ↑(rowLen [Col.ints IntKind.u64 xs, Col.ints IntKind.i64 ys])) = false) → ((cmpI BinOp.eql (bE b r p (xs.getD (ovI (ovV b r p xs ys)).toNat 0) (xs.getD (ovK (ovV b r p xs ys)).toNat 0)) 0) = false) → ((decide (0 ≤ opI BinOp.add IntKind.i64 (ovI (ovV b r p xs ys)) 1) = true) ∧ (decide (opI BinOp.add IntKind.i64 (ovI (ovV b r p xs ys)) 1 ≤ opI BinOp.add IntKind.i64 (ovK (ovV b r p xs ys)) 1) =
  true) ∧ (decide
    (opI BinOp.add IntKind.i64 (ovK (ovV b r p xs ys)) 1 ≤
      ↑(rowLen [Col.ints IntKind.u64 xs, Col.ints IntKind.i64 ys])) =
  true) ∧ (decide (0 ≤ ovK (ovV b r p xs ys)) = true) ∧ (decide (ovK (ovV b r p xs ys) ≤ ↑(rowLen [Col.ints IntKind.u64 xs, Col.ints IntKind.i64 ys])) = true) ∧ (0 ≤ xs.getD (ovI (ovV b r p xs ys)).toNat 0) ∧ (xs.getD (ovI (ovV b r p xs ys)).toNat 0 < 18446744073709551616) ∧ (0 ≤ xs.getD (ovK (ovV b r p xs ys)).toNat 0) ∧ (xs.getD (ovK (ovV b r p xs ys)).toNat 0 < 18446744073709551616) ∧ (decide (0 ≤ ovK (ovV b r p xs ys)) = true) ∧ (decide (ovK (ovV b r p xs ys) < ↑(rowLen [Col.ints IntKind.u64 xs, Col.ints IntKind.i64 ys])) = true) ∧ (decide (0 ≤ ovI (ovV b r p xs ys)) = true) ∧ (decide (ovI (ovV b r p xs ys) < ↑(rowLen [Col.ints IntKind.u64 xs, Col.ints IntKind.i64 ys])) = true) ∧ (decide (0 ≤ i) = true) ∧ (decide (i ≤ j) = true) ∧ (decide (j ≤ ↑(rowLen [Col.ints IntKind.u64 xs, Col.ints IntKind.i64 ys])) = true) ∧ True) ∧ res = D.v (Value.bool false)) :
  CallsD Try.prog 8 [D.agg [D.v (Value.int IntKind.i64 b), D.v (Value.int IntKind.i64 r), D.v (Value.int IntKind.i64 p)],
  D.rc [Col.ints IntKind.u64 xs, Col.ints IntKind.i64 ys], D.v (Value.int IntKind.i64 i), D.v (Value.int IntKind.i64 j)] res := by
  cases e0 : (cmpI BinOp.neq (limE b r p) 0) with
  | true =>
    exact of_path hX12 (law8_p0 b r p xs ys i j) ⟨e0, trivial⟩ (h0 e0).2
  | false =>
    cases e1 : (cmpI BinOp.neq (cE xs ys) 0) with
    | true =>
      exact of_path hX12 (law8_p1 b r p xs ys i j) ⟨e1, e0, trivial⟩ (h1 e0 e1).2
    | false =>
      cases e2 : (cmpI BinOp.lss i 0) with
      | true =>
        exact of_path hX12 (law8_p2 b r p xs ys i j) ⟨e2, e1, e0, trivial⟩ (h2 e0 e1 e2).2
      | false =>
        cases e3 : (cmpI BinOp.lss j i) with
        | true =>
          exact of_path hX12 (law8_p3 b r p xs ys i j) ⟨e3, e2, e1, e0, trivial⟩ (h3 e0 e1 e2 e3).2
        | false =>
          cases e4 : (cmpI BinOp.gtr j ↑(rowLen [Col.ints IntKind.u64 xs, Col.ints IntKind.i64 ys])) with
          | true =>
            exact of_path hX12 (law8_p4 b r p xs ys i j) ⟨e4, e3, e2, e1, e0, trivial⟩ (h4 e0 e1 e2 e3 e4).2
          | false =>
            cases e5 : (cmpI BinOp.neq (ovE b r p xs ys) 0) with
            | true =>
              exact of_path hX12 (law8_p5 b r p xs ys i j) ⟨e5, (h5 e0 e1 e2 e3 e4 e5).1.1, (h5 e0 e1 e2 e3 e4 e5).1.2.1, (h5 e0 e1 e2 e3 e4 e5).1.2.2.1, e4, e3, e2, e1, e0, trivial⟩ (h5 e0 e1 e2 e3 e4 e5).2
            | false =>
              cases e6 : (cmpI BinOp.neq
  (ovE b r p (List.take (j.toNat - i.toNat) (List.drop i.toNat xs))
    (List.take (j.toNat - i.toNat) (List.drop i.toNat ys)))
  0) with
              | true =>
                exact of_path hX12 (law8_p6 b r p xs ys i j) ⟨e6, e5, (h6 e0 e1 e2 e3 e4 e5 e6).1.1, (h6 e0 e1 e2 e3 e4 e5 e6).1.2.1, (h6 e0 e1 e2 e3 e4 e5 e6).1.2.2.1, e4, e3, e2, e1, e0, trivial⟩ (h6 e0 e1 e2 e3 e4 e5 e6).2
              | false =>
                cases e7 : ((ovV b r p (List.take (j.toNat - i.toNat) (List.drop i.toNat xs))
    (List.take (j.toNat - i.toNat) (List.drop i.toNat ys))).isSome) with
                | true =>
                  cases e8 : (!(ovV b r p xs ys).isSome) with
                  | true =>
                    exact of_path hX12 (law8_p7 b r p xs ys i j) ⟨e8, e7, e6, e5, (h7 e0 e1 e2 e3 e4 e5 e6 e7 e8).1.1, (h7 e0 e1 e2 e3 e4 e5 e6 e7 e8).1.2.1, (h7 e0 e1 e2 e3 e4 e5 e6 e7 e8).1.2.2.1, e4, e3, e2, e1, e0, trivial⟩ (h7 e0 e1 e2 e3 e4 e5 e6 e7 e8).2
                  | false =>
                    cases e9 : (cmpI BinOp.lss (ovI (ovV b r p xs ys)) 0) with
                    | true =>
                      exact of_path hX12 (law8_p8 b r p xs ys i j) ⟨e9, e8, e8, e7, e6, e5, (h8 e0 e1 e2 e3 e4 e5 e6 e7 e8 e9).1.1, (h8 e0 e1 e2 e3 e4 e5 e6 e7 e8 e9).1.2.1, (h8 e0 e1 e2 e3 e4 e5 e6 e7 e8 e9).1.2.2.1, e4, e3, e2, e1, e0, trivial⟩ (h8 e0 e1 e2 e3 e4 e5 e6 e7 e8 e9).2
                    | false =>
                      cases e10 : (cmpI BinOp.gtr (ovI (ovV b r p xs ys)) (ovK (ovV b r p xs ys))) with
                      | true =>
                        exact of_path hX12 (law8_p9 b r p xs ys i j) ⟨e10, e9, e8, e8, e7, e6, e5, (h9 e0 e1 e2 e3 e4 e5 e6 e7 e8 e9 e10).1.1, (h9 e0 e1 e2 e3 e4 e5 e6 e7 e8 e9 e10).1.2.1, (h9 e0 e1 e2 e3 e4 e5 e6 e7 e8 e9 e10).1.2.2.1, e4, e3, e2, e1, e0, trivial⟩ (h9 e0 e1 e2 e3 e4 e5 e6 e7 e8 e9 e10).2
                      | false =>
                        cases e11 : (cmpI BinOp.geq (ovK (ovV b r p xs ys)) ↑(rowLen [Col.ints IntKind.u64 xs, Col.ints IntKind.i64 ys])) with
                        | true =>
                          exact of_path hX12 (law8_p10 b r p xs ys i j) ⟨e11, e10, e9, e8, e8, e7, e6, e5, (h10 e0 e1 e2 e3 e4 e5 e6 e7 e8 e9 e10 e11).1.1, (h10 e0 e1 e2 e3 e4 e5 e6 e7 e8 e9 e10 e11).1.2.1, (h10 e0 e1 e2 e3 e4 e5 e6 e7 e8 e9 e10 e11).1.2.2.1, e4, e3, e2, e1, e0, trivial⟩ (h10 e0 e1 e2 e3 e4 e5 e6 e7 e8 e9 e10 e11).2
                        | false =>
                          cases e12 : (cmpI BinOp.eql (bE b r p (xs.getD (ovI (ovV b r p xs ys)).toNat 0) (xs.getD (ovK (ovV b r p xs ys)).toNat 0)) 0) with
                          | true =>
                            cases e13 : (cmpI BinOp.gtr
  (sumN ys (ovI (ovV b r p xs ys)).toNat ((ovK (ovV b r p xs ys)).toNat + 1 - (ovI (ovV b r p xs ys)).toNat))
  (bV b r p (xs.getD (ovI (ovV b r p xs ys)).toNat 0) (xs.getD (ovK (ovV b r p xs ys)).toNat 0))) with
                            | true =>
                              cases e14 : (cmpI BinOp.eql
  (ovE b r p (List.take ((ovK (ovV b r p xs ys)).toNat - 0) (List.drop 0 xs))
    (List.take ((ovK (ovV b r p xs ys)).toNat - 0) (List.drop 0 ys)))
  0) with
                              | true =>
                                cases e15 : (!(ovV b r p (List.take ((ovK (ovV b r p xs ys)).toNat - Int.toNat 0) (List.drop (Int.toNat 0) xs))
      (List.take ((ovK (ovV b r p xs ys)).toNat - Int.toNat 0) (List.drop (Int.toNat 0) ys))).isSome) with
                                | true =>
                                  cases e16 : (cmpI BinOp.eql
  (ovE b r p
    (List.take
      ((opI BinOp.add IntKind.i64 (ovK (ovV b r p xs ys)) 1).toNat -
        (opI BinOp.add IntKind.i64 (ovI (ovV b r p xs ys)) 1).toNat)
      (List.drop (opI BinOp.add IntKind.i64 (ovI (ovV b r p xs ys)) 1).toNat xs))
    (List.take
      ((opI BinOp.add IntKind.i64 (ovK (ovV b r p xs ys)) 1).toNat -
        (opI BinOp.add IntKind.i64 (ovI (ovV b r p xs ys)) 1).toNat)
      (List.drop (opI BinOp.add IntKind.i64 (ovI (ovV b r p xs ys)) 1).toNat ys)))
  0) with
                                  | true =>
                                    exact of_path hX12 (law8_p11 b r p xs ys i j) ⟨e16, e15, e14, e13, (h11 e0 e1 e2 e3 e4 e5 e6 e7 e8 e9 e10 e11 e12 e13 e14 e15 e16).1.1, (h11 e0 e1 e2 e3 e4 e5 e6 e7 e8 e9 e10 e11 e12 e13 e14 e15 e16).1.2.1, (h11 e0 e1 e2 e3 e4 e5 e6 e7 e8 e9 e10 e11 e12 e13 e14 e15 e16).1.2.2.1, (h11 e0 e1 e2 e3 e4 e5 e6 e7 e8 e9 e10 e11 e12 e13 e14 e15 e16).1.2.2.2.1, e12, (h11 e0 e1 e2 e3 e4 e5 e6 e7 e8 e9 e10 e11 e12 e13 e14 e15 e16).1.2.2.2.2.1, (h11 e0 e1 e2 e3 e4 e5 e6 e7 e8 e9 e10 e11 e12 e13 e14 e15 e16).1.2.2.2.2.2.1, (h11 e0 e1 e2 e3 e4 e5 e6 e7 e8 e9 e10 e11 e12 e13 e14 e15 e16).1.2.2.2.2.2.2.1, rfl, (h11 e0 e1 e2 e3 e4 e5 e6 e7 e8 e9 e10 e11 e12 e13 e14 e15 e16).1.2.2.2.2.2.2.2.1, (h11 e0 e1 e2 e3 e4 e5 e6 e7 e8 e9 e10 e11 e12 e13 e14 e15 e16).1.2.2.2.2.2.2.2.2.1, (h11 e0 e1 e2 e3 e4 e5 e6 e7 e8 e9 e10 e11 e12 e13 e14 e15 e16).1.2.2.2.2.2.2.2.2.2.1, (h11 e0 e1 e2 e3 e4 e5 e6 e7 e8 e9 e10 e11 e12 e13 e14 e15 e16).1.2.2.2.2.2.2.2.2.2.2.1, (h11 e0 e1 e2 e3 e4 e5 e6 e7 e8 e9 e10 e11 e12 e13 e14 e15 e16).1.2.2.2.2.2.2.2.2.2.2.2.1, (h11 e0 e1 e2 e3 e4 e5 e6 e7 e8 e9 e10 e11 e12 e13 e14 e15 e16).1.2.2.2.2.2.2.2.2.2.2.2.2.1, (h11 e0 e1 e2 e3 e4 e5 e6 e7 e8 e9 e10 e11 e12 e13 e14 e15 e16).1.2.2.2.2.2.2.2.2.2.2.2.2.2.1, (h11 e0 e1 e2 e3 e4 e5 e6 e7 e8 e9 e10 e11 e12 e13 e14 e15 e16).1.2.2.2.2.2.2.2.2.2.2.2.2.2.2.1, (h11 e0 e1 e2 e3 e4 e5 e6 e7 e8 e9 e10 e11 e12 e13 e14 e15 e16).1.2.2.2.2.2.2.2.2.2.2.2.2.2.2.2.1, (h11 e0 e1 e2 e3 e4 e5 e6 e7 e8 e9 e10 e11 e12 e13 e14 e15 e16).1.2.2.2.2.2.2.2.2.2.2.2.2.2.2.2.2.1, e11, e10, e9, e8, e8, e7, e6, e5, (h11 e0 e1 e2 e3 e4 e5 e6 e7 e8 e9 e10 e11 e12 e13 e14 e15 e16).1.2.2.2.2.2.2.2.2.2.2.2.2.2.2.2.2.2.1, (h11 e0 e1 e2 e3 e4 e5 e6 e7 e8 e9 e10 e11 e12 e13 e14 e15 e16).1.2.2.2.2.2.2.2.2.2.2.2.2.2.2.2.2.2.2.1, (h11 e0 e1 e2 e3 e4 e5 e6 e7 e8 e9 e10 e11 e12 e13 e14 e15 e16).1.2.2.2.2.2.2.2.2.2.2.2.2.2.2.2.2.2.2.2.1, e4, e3, e2, e1, e0, trivial⟩ (h11 e0 e1 e2 e3 e4 e5 e6 e7 e8 e9 e10 e11 e12 e13 e14 e15 e16).2
                                  | false =>
                                    exact of_path hX12 (law8_p12 b r p xs ys i j) ⟨e16, e15, e14, e13, (h12 e0 e1 e2 e3 e4 e5 e6 e7 e8 e9 e10 e11 e12 e13 e14 e15 e16).1.1, (h12 e0 e1 e2 e3 e4 e5 e6 e7 e8 e9 e10 e11 e12 e13 e14 e15 e16).1.2.1, (h12 e0 e1 e2 e3 e4 e5 e6 e7 e8 e9 e10 e11 e12 e13 e14 e15 e16).1.2.2.1, (h12 e0 e1 e2 e3 e4 e5 e6 e7 e8 e9 e10 e11 e12 e13 e14 e15 e16).1.2.2.2.1, e12, (h12 e0 e1 e2 e3 e4 e5 e6 e7 e8 e9 e10 e11 e12 e13 e14 e15 e16).1.2.2.2.2.1, (h12 e0 e1 e2 e3 e4 e5 e6 e7 e8 e9 e10 e11 e12 e13 e14 e15 e16).1.2.2.2.2.2.1, (h12 e0 e1 e2 e3 e4 e5 e6 e7 e8 e9 e10 e11 e12 e13 e14 e15 e16).1.2.2.2.2.2.2.1, rfl, (h12 e0 e1 e2 e3 e4 e5 e6 e7 e8 e9 e10 e11 e12 e13 e14 e15 e16).1.2.2.2.2.2.2.2.1, (h12 e0 e1 e2 e3 e4 e5 e6 e7 e8 e9 e10 e11 e12 e13 e14 e15 e16).1.2.2.2.2.2.2.2.2.1, (h12 e0 e1 e2 e3 e4 e5 e6 e7 e8 e9 e10 e11 e12 e13 e14 e15 e16).1.2.2.2.2.2.2.2.2.2.1, (h12 e0 e1 e2 e3 e4 e5 e6 e7 e8 e9 e10 e11 e12 e13 e14 e15 e16).1.2.2.2.2.2.2.2.2.2.2.1, (h12 e0 e1 e2 e3 e4 e5 e6 e7 e8 e9 e10 e11 e12 e13 e14 e15 e16).1.2.2.2.2.2.2.2.2.2.2.2.1, (h12 e0 e1 e2 e3 e4 e5 e6 e7 e8 e9 e10 e11 e12 e13 e14 e15 e16).1.2.2.2.2.2.2.2.2.2.2.2.2.1, (h12 e0 e1 e2 e3 e4 e5 e6 e7 e8 e9 e10 e11 e12 e13 e14 e15 e16).1.2.2.2.2.2.2.2.2.2.2.2.2.2.1, (h12 e0 e1 e2 e3 e4 e5 e6 e7 e8 e9 e10 e11 e12 e13 e14 e15 e16).1.2.2.2.2.2.2.2.2.2.2.2.2.2.2.1, (h12 e0 e1 e2 e3 e4 e5 e6 e7 e8 e9 e10 e11 e12 e13 e14 e15 e16).1.2.2.2.2.2.2.2.2.2.2.2.2.2.2.2.1, (h12 e0 e1 e2 e3 e4 e5 e6 e7 e8 e9 e10 e11 e12 e13 e14 e15 e16).1.2.2.2.2.2.2.2.2.2.2.2.2.2.2.2.2.1, e11, e10, e9, e8, e8, e7, e6, e5, (h12 e0 e1 e2 e3 e4 e5 e6 e7 e8 e9 e10 e11 e12 e13 e14 e15 e16).1.2.2.2.2.2.2.2.2.2.2.2.2.2.2.2.2.2.1, (h12 e0 e1 e2 e3 e4 e5 e6 e7 e8 e9 e10 e11 e12 e13 e14 e15 e16).1.2.2.2.2.2.2.2.2.2.2.2.2.2.2.2.2.2.2.1, (h12 e0 e1 e2 e3 e4 e5 e6 e7 e8 e9 e10 e11 e12 e13 e14 e15 e16).1.2.2.2.2.2.2.2.2.2.2.2.2.2.2.2.2.2.2.2.1, e4, e3, e2, e1, e0, trivial⟩ (h12 e0 e1 e2 e3 e4 e5 e6 e7 e8 e9 e10 e11 e12 e13 e14 e15 e16).2
                                | false =>
                                  exact of_path hX12 (law8_p13 b r p xs ys i j) ⟨e15, e14, e13, (h13 e0 e1 e2 e3 e4 e5 e6 e7 e8 e9 e10 e11 e12 e13 e14 e15).1.1, (h13 e0 e1 e2 e3 e4 e5 e6 e7 e8 e9 e10 e11 e12 e13 e14 e15).1.2.1, (h13 e0 e1 e2 e3 e4 e5 e6 e7 e8 e9 e10 e11 e12 e13 e14 e15).1.2.2.1, (h13 e0 e1 e2 e3 e4 e5 e6 e7 e8 e9 e10 e11 e12 e13 e14 e15).1.2.2.2.1, e12, (h13 e0 e1 e2 e3 e4 e5 e6 e7 e8 e9 e10 e11 e12 e13 e14 e15).1.2.2.2.2.1, (h13 e0 e1 e2 e3 e4 e5 e6 e7 e8 e9 e10 e11 e12 e13 e14 e15).1.2.2.2.2.2.1, (h13 e0 e1 e2 e3 e4 e5 e6 e7 e8 e9 e10 e11 e12 e13 e14 e15).1.2.2.2.2.2.2.1, rfl, (h13 e0 e1 e2 e3 e4 e5 e6 e7 e8 e9 e10 e11 e12 e13 e14 e15).1.2.2.2.2.2.2.2.1, (h13 e0 e1 e2 e3 e4 e5 e6 e7 e8 e9 e10 e11 e12 e13 e14 e15).1.2.2.2.2.2.2.2.2.1, (h13 e0 e1 e2 e3 e4 e5 e6 e7 e8 e9 e10 e11 e12 e13 e14 e15).1.2.2.2.2.2.2.2.2.2.1, (h13 e0 e1 e2 e3 e4 e5 e6 e7 e8 e9 e10 e11 e12 e13 e14 e15).1.2.2.2.2.2.2.2.2.2.2.1, (h13 e0 e1 e2 e3 e4 e5 e6 e7 e8 e9 e10 e11 e12 e13 e14 e15).1.2.2.2.2.2.2.2.2.2.2.2.1, (h13 e0 e1 e2 e3 e4 e5 e6 e7 e8 e9 e10 e11 e12 e13 e14 e15).1.2.2.2.2.2.2.2.2.2.2.2.2.1, (h13 e0 e1 e2 e3 e4 e5 e6 e7 e8 e9 e10 e11 e12 e13 e14 e15).1.2.2.2.2.2.2.2.2.2.2.2.2.2.1, (h13 e0 e1 e2 e3 e4 e5 e6 e7 e8 e9 e10 e11 e12 e13 e14 e15).1.2.2.2.2.2.2.2.2.2.2.2.2.2.2.1, (h13 e0 e1 e2 e3 e4 e5 e6 e7 e8 e9 e10 e11 e12 e13 e14 e15).1.2.2.2.2.2.2.2.2.2.2.2.2.2.2.2.1, (h13 e0 e1 e2 e3 e4 e5 e6 e7 e8 e9 e10 e11 e12 e13 e14 e15).1.2.2.2.2.2.2.2.2.2.2.2.2.2.2.2.2.1, e11, e10, e9, e8, e8, e7, e6, e5, (h13 e0 e1 e2 e3 e4 e5 e6 e7 e8 e9 e10 e11 e12 e13 e14 e15).1.2.2.2.2.2.2.2.2.2.2.2.2.2.2.2.2.2.1, (h13 e0 e1 e2 e3 e4 e5 e6 e7 e8 e9 e10 e11 e12 e13 e14 e15).1.2.2.2.2.2.2.2.2.2.2.2.2.2.2.2.2.2.2.1, (h13 e0 e1 e2 e3 e4 e5 e6 e7 e8 e9 e10 e11 e12 e13 e14 e15).1.2.2.2.2.2.2.2.2.2.2.2.2.2.2.2.2.2.2.2.1, e4, e3, e2, e1, e0, trivial⟩ (h13 e0 e1 e2 e3 e4 e5 e6 e7 e8 e9 e10 e11 e12 e13 e14 e15).2
                              | false =>
                                exact of_path hX12 (law8_p14 b r p xs ys i j) ⟨e14, e13, (h14 e0 e1 e2 e3 e4 e5 e6 e7 e8 e9 e10 e11 e12 e13 e14).1.1, (h14 e0 e1 e2 e3 e4 e5 e6 e7 e8 e9 e10 e11 e12 e13 e14).1.2.1, (h14 e0 e1 e2 e3 e4 e5 e6 e7 e8 e9 e10 e11 e12 e13 e14).1.2.2.1, (h14 e0 e1 e2 e3 e4 e5 e6 e7 e8 e9 e10 e11 e12 e13 e14).1.2.2.2.1, e12, (h14 e0 e1 e2 e3 e4 e5 e6 e7 e8 e9 e10 e11 e12 e13 e14).1.2.2.2.2.1, (h14 e0 e1 e2 e3 e4 e5 e6 e7 e8 e9 e10 e11 e12 e13 e14).1.2.2.2.2.2.1, (h14 e0 e1 e2 e3 e4 e5 e6 e7 e8 e9 e10 e11 e12 e13 e14).1.2.2.2.2.2.2.1, rfl, (h14 e0 e1 e2 e3 e4 e5 e6 e7 e8 e9 e10 e11 e12 e13 e14).1.2.2.2.2.2.2.2.1, (h14 e0 e1 e2 e3 e4 e5 e6 e7 e8 e9 e10 e11 e12 e13 e14).1.2.2.2.2.2.2.2.2.1, (h14 e0 e1 e2 e3 e4 e5 e6 e7 e8 e9 e10 e11 e12 e13 e14).1.2.2.2.2.2.2.2.2.2.1, (h14 e0 e1 e2 e3 e4 e5 e6 e7 e8 e9 e10 e11 e12 e13 e14).1.2.2.2.2.2.2.2.2.2.2.1, (h14 e0 e1 e2 e3 e4 e5 e6 e7 e8 e9 e10 e11 e12 e13 e14).1.2.2.2.2.2.2.2.2.2.2.2.1, (h14 e0 e1 e2 e3 e4 e5 e6 e7 e8 e9 e10 e11 e12 e13 e14).1.2.2.2.2.2.2.2.2.2.2.2.2.1, (h14 e0 e1 e2 e3 e4 e5 e6 e7 e8 e9 e10 e11 e12 e13 e14).1.2.2.2.2.2.2.2.2.2.2.2.2.2.1, (h14 e0 e1 e2 e3 e4 e5 e6 e7 e8 e9 e10 e11 e12 e13 e14).1.2.2.2.2.2.2.2.2.2.2.2.2.2.2.1, (h14 e0 e1 e2 e3 e4 e5 e6 e7 e8 e9 e10 e11 e12 e13 e14).1.2.2.2.2.2.2.2.2.2.2.2.2.2.2.2.1, (h14 e0 e1 e2 e3 e4 e5 e6 e7 e8 e9 e10 e11 e12 e13 e14).1.2.2.2.2.2.2.2.2.2.2.2.2.2.2.2.2.1, e11, e10, e9, e8, e8, e7, e6, e5, (h14 e0 e1 e2 e3 e4 e5 e6 e7 e8 e9 e10 e11 e12 e13 e14).1.2.2.2.2.2.2.2.2.2.2.2.2.2.2.2.2.2.1, (h14 e0 e1 e2 e3 e4 e5 e6 e7 e8 e9 e10 e11 e12 e13 e14).1.2.2.2.2.2.2.2.2.2.2.2.2.2.2.2.2.2.2.1, (h14 e0 e1 e2 e3 e4 e5 e6 e7 e8 e9 e10 e11 e12 e13 e14).1.2.2.2.2.2.2.2.2.2.2.2.2.2.2.2.2.2.2.2.1, e4, e3, e2, e1, e0, trivial⟩ (h14 e0 e1 e2 e3 e4 e5 e6 e7 e8 e9 e10 e11 e12 e13 e14).2
                            | false =>
                              exact of_path hX12 (law8_p15 b r p xs ys i j) ⟨e13, (h15 e0 e1 e2 e3 e4 e5 e6 e7 e8 e9 e10 e11 e12 e13).1.1, (h15 e0 e1 e2 e3 e4 e5 e6 e7 e8 e9 e10 e11 e12 e13).1.2.1, (h15 e0 e1 e2 e3 e4 e5 e6 e7 e8 e9 e10 e11 e12 e13).1.2.2.1, (h15 e0 e1 e2 e3 e4 e5 e6 e7 e8 e9 e10 e11 e12 e13).1.2.2.2.1, e12, (h15 e0 e1 e2 e3 e4 e5 e6 e7 e8 e9 e10 e11 e12 e13).1.2.2.2.2.1, (h15 e0 e1 e2 e3 e4 e5 e6 e7 e8 e9 e10 e11 e12 e13).1.2.2.2.2.2.1, (h15 e0 e1 e2 e3 e4 e5 e6 e7 e8 e9 e10 e11 e12 e13).1.2.2.2.2.2.2.1, rfl, (h15 e0 e1 e2 e3 e4 e5 e6 e7 e8 e9 e10 e11 e12 e13).1.2.2.2.2.2.2.2.1, (h15 e0 e1 e2 e3 e4 e5 e6 e7 e8 e9 e10 e11 e12 e13).1.2.2.2.2.2.2.2.2.1, (h15 e0 e1 e2 e3 e4 e5 e6 e7 e8 e9 e10 e11 e12 e13).1.2.2.2.2.2.2.2.2.2.1, (h15 e0 e1 e2 e3 e4 e5 e6 e7 e8 e9 e10 e11 e12 e13).1.2.2.2.2.2.2.2.2.2.2.1, (h15 e0 e1 e2 e3 e4 e5 e6 e7 e8 e9 e10 e11 e12 e13).1.2.2.2.2.2.2.2.2.2.2.2.1, (h15 e0 e1 e2 e3 e4 e5 e6 e7 e8 e9 e10 e11 e12 e13).1.2.2.2.2.2.2.2.2.2.2.2.2.1, (h15 e0 e1 e2 e3 e4 e5 e6 e7 e8 e9 e10 e11 e12 e13).1.2.2.2.2.2.2.2.2.2.2.2.2.2.1, (h15 e0 e1 e2 e3 e4 e5 e6 e7 e8 e9 e10 e11 e12 e13).1.2.2.2.2.2.2.2.2.2.2.2.2.2.2.1, (h15 e0 e1 e2 e3 e4 e5 e6 e7 e8 e9 e10 e11 e12 e13).1.2.2.2.2.2.2.2.2.2.2.2.2.2.2.2.1, (h15 e0 e1 e2 e3 e4 e5 e6 e7 e8 e9 e10 e11 e12 e13).1.2.2.2.2.2.2.2.2.2.2.2.2.2.2.2.2.1, e11, e10, e9, e8, e8, e7, e6, e5, (h15 e0 e1 e2 e3 e4 e5 e6 e7 e8 e9 e10 e11 e12 e13).1.2.2.2.2.2.2.2.2.2.2.2.2.2.2.2.2.2.1, (h15 e0 e1 e2 e3 e4 e5 e6 e7 e8 e9 e10 e11 e12 e13).1.2.2.2.2.2.2.2.2.2.2.2.2.2.2.2.2.2.2.1, (h15 e0 e1 e2 e3 e4 e5 e6 e7 e8 e9 e10 e11 e12 e13).1.2.2.2.2.2.2.2.2.2.2.2.2.2.2.2.2.2.2.2.1, e4, e3, e2, e1, e0, trivial⟩ (h15 e0 e1 e2 e3 e4 e5 e6 e7 e8 e9 e10 e11 e12 e13).2
                          | false =>
                            exact of_path hX12 (law8_p16 b r p xs ys i j) ⟨e12, (h16 e0 e1 e2 e3 e4 e5 e6 e7 e8 e9 e10 e11 e12).1.1, (h16 e0 e1 e2 e3 e4 e5 e6 e7 e8 e9 e10 e11 e12).1.2.1, (h16 e0 e1 e2 e3 e4 e5 e6 e7 e8 e9 e10 e11 e12).1.2.2.1, rfl, (h16 e0 e1 e2 e3 e4 e5 e6 e7 e8 e9 e10 e11 e12).1.2.2.2.1, (h16 e0 e1 e2 e3 e4 e5 e6 e7 e8 e9 e10 e11 e12).1.2.2.2.2.1, (h16 e0 e1 e2 e3 e4 e5 e6 e7 e8 e9 e10 e11 e12).1.2.2.2.2.2.1, (h16 e0 e1 e2 e3 e4 e5 e6 e7 e8 e9 e10 e11 e12).1.2.2.2.2.2.2.1, (h16 e0 e1 e2 e3 e4 e5 e6 e7 e8 e9 e10 e11 e12).1.2.2.2.2.2.2.2.1, (h16 e0 e1 e2 e3 e4 e5 e6 e7 e8 e9 e10 e11 e12).1.2.2.2.2.2.2.2.2.1, (h16 e0 e1 e2 e3 e4 e5 e6 e7 e8 e9 e10 e11 e12).1.2.2.2.2.2.2.2.2.2.1, (h16 e0 e1 e2 e3 e4 e5 e6 e7 e8 e9 e10 e11 e12).1.2.2.2.2.2.2.2.2.2.2.1, (h16 e0 e1 e2 e3 e4 e5 e6 e7 e8 e9 e10 e11 e12).1.2.2.2.2.2.2.2.2.2.2.2.1, (h16 e0 e1 e2 e3 e4 e5 e6 e7 e8 e9 e10 e11 e12).1.2.2.2.2.2.2.2.2.2.2.2.2.1, e11, e10, e9, e8, e8, e7, e6, e5, (h16 e0 e1 e2 e3 e4 e5 e6 e7 e8 e9 e10 e11 e12).1.2.2.2.2.2.2.2.2.2.2.2.2.2.1, (h16 e0 e1 e2 e3 e4 e5 e6 e7 e8 e9 e10 e11 e12).1.2.2.2.2.2.2.2.2.2.2.2.2.2.2.1, (h16 e0 e1 e2 e3 e4 e5 e6 e7 e8 e9 e10 e11 e12).1.2.2.2.2.2.2.2.2.2.2.2.2.2.2.2.1, e4, e3, e2, e1, e0, trivial⟩ (h16 e0 e1 e2 e3 e4 e5 e6 e7 e8 e9 e10 e11 e12).2
                | false =>
                  cases e8 : (!(ovV b r p xs ys).isSome) with
                  | true =>
                    cases e9 : (cmpI BinOp.eql (ovI (ovV b r p xs ys)) 0) with
                    | true =>
                      exact of_path hX12 (law8_p17 b r p xs ys i j) ⟨e9, e8, e7, e6, e5, (h17 e0 e1 e2 e3 e4 e5 e6 e7 e8 e9).1.1, (h17 e0 e1 e2 e3 e4 e5 e6 e7 e8 e9).1.2.1, (h17 e0 e1 e2 e3 e4 e5 e6 e7 e8 e9).1.2.2.1, e4, e3, e2, e1, e0, trivial⟩ (h17 e0 e1 e2 e3 e4 e5 e6 e7 e8 e9).2
                    | false =>
                      exact of_path hX12 (law8_p18 b r p xs ys i j) ⟨e9, e8, e7, e6, e5, (h18 e0 e1 e2 e3 e4 e5 e6 e7 e8 e9).1.1, (h18 e0 e1 e2 e3 e4 e5 e6 e7 e8 e9).1.2.1, (h18 e0 e1 e2 e3 e4 e5 e6 e7 e8 e9).1.2.2.1, e4, e3, e2, e1, e0, trivial⟩ (h18 e0 e1 e2 e3 e4 e5 e6 e7 e8 e9).2
                  | false =>
                    cases e9 : (cmpI BinOp.lss (ovI (ovV b r p xs ys)) 0) with
                    | true =>
                      exact of_path hX12 (law8_p19 b r p xs ys i j) ⟨e9, e8, e7, e6, e5, (h19 e0 e1 e2 e3 e4 e5 e6 e7 e8 e9).1.1, (h19 e0 e1 e2 e3 e4 e5 e6 e7 e8 e9).1.2.1, (h19 e0 e1 e2 e3 e4 e5 e6 e7 e8 e9).1.2.2.1, e4, e3, e2, e1, e0, trivial⟩ (h19 e0 e1 e2 e3 e4 e5 e6 e7 e8 e9).2
                    | false =>
                      cases e10 : (cmpI BinOp.gtr (ovI (ovV b r p xs ys)) (ovK (ovV b r p xs ys))) with
                      | true =>
                        exact of_path hX12 (law8_p20 b r p xs ys i j) ⟨e10, e9, e8, e7, e6, e5, (h20 e0 e1 e2 e3 e4 e5 e6 e7 e8 e9 e10).1.1, (h20 e0 e1 e2 e3 e4 e5 e6 e7 e8 e9 e10).1.2.1, (h20 e0 e1 e2 e3 e4 e5 e6 e7 e8 e9 e10).1.2.2.1, e4, e3, e2, e1, e0, trivial⟩ (h20 e0 e1 e2 e3 e4 e5 e6 e7 e8 e9 e10).2
                      | false =>
                        cases e11 : (cmpI BinOp.geq (ovK (ovV b r p xs ys)) ↑(rowLen [Col.ints IntKind.u64 xs, Col.ints IntKind.i64 ys])) with
                        | true =>
                          exact of_path hX12 (law8_p21 b r p xs ys i j) ⟨e11, e10, e9, e8, e7, e6, e5, (h21 e0 e1 e2 e3 e4 e5 e6 e7 e8 e9 e10 e11).1.1, (h21 e0 e1 e2 e3 e4 e5 e6 e7 e8 e9 e10 e11).1.2.1, (h21 e0 e1 e2 e3 e4 e5 e6 e7 e8 e9 e10 e11).1.2.2.1, e4, e3, e2, e1, e0, trivial⟩ (h21 e0 e1 e2 e3 e4 e5 e6 e7 e8 e9 e10 e11).2
                        | false =>
                          cases e12 : (cmpI BinOp.eql (bE b r p (xs.getD (ovI (ovV b r p xs ys)).toNat 0) (xs.getD (ovK (ovV b r p xs ys)).toNat 0)) 0) with
                          | true =>
                            cases e13 : (cmpI BinOp.gtr
  (sumN ys (ovI (ovV b r p xs ys)).toNat ((ovK (ovV b r p xs ys)).toNat + 1 - (ovI (ovV b r p xs ys)).toNat))
  (bV b r p (xs.getD (ovI (ovV b r p xs ys)).toNat 0) (xs.getD (ovK (ovV b r p xs ys)).toNat 0))) with
                            | true =>
                              cases e14 : (cmpI BinOp.eql
  (ovE b r p (List.take ((ovK (ovV b r p xs ys)).toNat - 0) (List.drop 0 xs))
    (List.take ((ovK (ovV b r p xs ys)).toNat - 0) (List.drop 0 ys)))
  0) with
                              | true =>
                                cases e15 : (!(ovV b r p (List.take ((ovK (ovV b r p xs ys)).toNat - Int.toNat 0) (List.drop (Int.toNat 0) xs))
      (List.take ((ovK (ovV b r p xs ys)).toNat - Int.toNat 0) (List.drop (Int.toNat 0) ys))).isSome) with
                                | true =>
                                  cases e16 : (cmpI BinOp.eql
  (ovE b r p
    (List.take
      ((opI BinOp.add IntKind.i64 (ovK (ovV b r p xs ys)) 1).toNat -
        (opI BinOp.add IntKind.i64 (ovI (ovV b r p xs ys)) 1).toNat)
      (List.drop (opI BinOp.add IntKind.i64 (ovI (ovV b r p xs ys)) 1).toNat xs))
    (List.take
      ((opI BinOp.add IntKind.i64 (ovK (ovV b r p xs ys)) 1).toNat -
        (opI BinOp.add IntKind.i64 (ovI (ovV b r p xs ys)) 1).toNat)
      (List.drop (opI BinOp.add IntKind.i64 (ovI (ovV b r p xs ys)) 1).toNat ys)))
  0) with
                                  | true =>
                                    exact of_path hX12 (law8_p22 b r p xs ys i j) ⟨e16, e15, e14, e13, (h22 e0 e1 e2 e3 e4 e5 e6 e7 e8 e9 e10 e11 e12 e13 e14 e15 e16).1.1, (h22 e0 e1 e2 e3 e4 e5 e6 e7 e8 e9 e10 e11 e12 e13 e14 e15 e16).1.2.1, (h22 e0 e1 e2 e3 e4 e5 e6 e7 e8 e9 e10 e11 e12 e13 e14 e15 e16).1.2.2.1, (h22 e0 e1 e2 e3 e4 e5 e6 e7 e8 e9 e10 e11 e12 e13 e14 e15 e16).1.2.2.2.1, e12, (h22 e0 e1 e2 e3 e4 e5 e6 e7 e8 e9 e10 e11 e12 e13 e14 e15 e16).1.2.2.2.2.1, (h22 e0 e1 e2 e3 e4 e5 e6 e7 e8 e9 e10 e11 e12 e13 e14 e15 e16).1.2.2.2.2.2.1, (h22 e0 e1 e2 e3 e4 e5 e6 e7 e8 e9 e10 e11 e12 e13 e14 e15 e16).1.2.2.2.2.2.2.1, rfl, (h22 e0 e1 e2 e3 e4 e5 e6 e7 e8 e9 e10 e11 e12 e13 e14 e15 e16).1.2.2.2.2.2.2.2.1, (h22 e0 e1 e2 e3 e4 e5 e6 e7 e8 e9 e10 e11 e12 e13 e14 e15 e16).1.2.2.2.2.2.2.2.2.1, (h22 e0 e1 e2 e3 e4 e5 e6 e7 e8 e9 e10 e11 e12 e13 e14 e15 e16).1.2.2.2.2.2.2.2.2.2.1, (h22 e0 e1 e2 e3 e4 e5 e6 e7 e8 e9 e10 e11 e12 e13 e14 e15 e16).1.2.2.2.2.2.2.2.2.2.2.1, (h22 e0 e1 e2 e3 e4 e5 e6 e7 e8 e9 e10 e11 e12 e13 e14 e15 e16).1.2.2.2.2.2.2.2.2.2.2.2.1, (h22 e0 e1 e2 e3 e4 e5 e6 e7 e8 e9 e10 e11 e12 e13 e14 e15 e16).1.2.2.2.2.2.2.2.2.2.2.2.2.1, (h22 e0 e1 e2 e3 e4 e5 e6 e7 e8 e9 e10 e11 e12 e13 e14 e15 e16).1.2.2.2.2.2.2.2.2.2.2.2.2.2.1, (h22 e0 e1 e2 e3 e4 e5 e6 e7 e8 e9 e10 e11 e12 e13 e14 e15 e16).1.2.2.2.2.2.2.2.2.2.2.2.2.2.2.1, (h22 e0 e1 e2 e3 e4 e5 e6 e7 e8 e9 e10 e11 e12 e13 e14 e15 e16).1.2.2.2.2.2.2.2.2.2.2.2.2.2.2.2.1, (h22 e0 e1 e2 e3 e4 e5 e6 e7 e8 e9 e10 e11 e12 e13 e14 e15 e16).1.2.2.2.2.2.2.2.2.2.2.2.2.2.2.2.2.1, e11, e10, e9, e8, e7, e6, e5, (h22 e0 e1 e2 e3 e4 e5 e6 e7 e8 e9 e10 e11 e12 e13 e14 e15 e16).1.2.2.2.2.2.2.2.2.2.2.2.2.2.2.2.2.2.1, (h22 e0 e1 e2 e3 e4 e5 e6 e7 e8 e9 e10 e11 e12 e13 e14 e15 e16).1.2.2.2.2.2.2.2.2.2.2.2.2.2.2.2.2.2.2.1, (h22 e0 e1 e2 e3 e4 e5 e6 e7 e8 e9 e10 e11 e12 e13 e14 e15 e16).1.2.2.2.2.2.2.2.2.2.2.2.2.2.2.2.2.2.2.2.1, e4, e3, e2, e1, e0, trivial⟩ (h22 e0 e1 e2 e3 e4 e5 e6 e7 e8 e9 e10 e11 e12 e13 e14 e15 e16).2
                                  | false =>
                                    exact of_path hX12 (law8_p23 b r p xs ys i j) ⟨e16, e15, e14, e13, (h23 e0 e1 e2 e3 e4 e5 e6 e7 e8 e9 e10 e11 e12 e13 e14 e15 e16).1.1, (h23 e0 e1 e2 e3 e4 e5 e6 e7 e8 e9 e10 e11 e12 e13 e14 e15 e16).1.2.1, (h23 e0 e1 e2 e3 e4 e5 e6 e7 e8 e9 e10 e11 e12 e13 e14 e15 e16).1.2.2.1, (h23 e0 e1 e2 e3 e4 e5 e6 e7 e8 e9 e10 e11 e12 e13 e14 e15 e16).1.2.2.2.1, e12, (h23 e0 e1 e2 e3 e4 e5 e6 e7 e8 e9 e10 e11 e12 e13 e14 e15 e16).1.2.2.2.2.1, (h23 e0 e1 e2 e3 e4 e5 e6 e7 e8 e9 e10 e11 e12 e13 e14 e15 e16).1.2.2.2.2.2.1, (h23 e0 e1 e2 e3 e4 e5 e6 e7 e8 e9 e10 e11 e12 e13 e14 e15 e16).1.2.2.2.2.2.2.1, rfl, (h23 e0 e1 e2 e3 e4 e5 e6 e7 e8 e9 e10 e11 e12 e13 e14 e15 e16).1.2.2.2.2.2.2.2.1, (h23 e0 e1 e2 e3 e4 e5 e6 e7 e8 e9 e10 e11 e12 e13 e14 e15 e16).1.2.2.2.2.2.2.2.2.1, (h23 e0 e1 e2 e3 e4 e5 e6 e7 e8 e9 e10 e11 e12 e13 e14 e15 e16).1.2.2.2.2.2.2.2.2.2.1, (h23 e0 e1 e2 e3 e4 e5 e6 e7 e8 e9 e10 e11 e12 e13 e14 e15 e16).1.2.2.2.2.2.2.2.2.2.2.1, (h23 e0 e1 e2 e3 e4 e5 e6 e7 e8 e9 e10 e11 e12 e13 e14 e15 e16).1.2.2.2.2.2.2.2.2.2.2.2.1, (h23 e0 e1 e2 e3 e4 e5 e6 e7 e8 e9 e10 e11 e12 e13 e14 e15 e16).1.2.2.2.2.2.2.2.2.2.2.2.2.1, (h23 e0 e1 e2 e3 e4 e5 e6 e7 e8 e9 e10 e11 e12 e13 e14 e15 e16).1.2.2.2.2.2.2.2.2.2.2.2.2.2.1, (h23 e0 e1 e2 e3 e4 e5 e6 e7 e8 e9 e10 e11 e12 e13 e14 e15 e16).1.2.2.2.2.2.2.2.2.2.2.2.2.2.2.1, (h23 e0 e1 e2 e3 e4 e5 e6 e7 e8 e9 e10 e11 e12 e13 e14 e15 e16).1.2.2.2.2.2.2.2.2.2.2.2.2.2.2.2.1, (h23 e0 e1 e2 e3 e4 e5 e6 e7 e8 e9 e10 e11 e12 e13 e14 e15 e16).1.2.2.2.2.2.2.2.2.2.2.2.2.2.2.2.2.1, e11, e10, e9, e8, e7, e6, e5, (h23 e0 e1 e2 e3 e4 e5 e6 e7 e8 e9 e10 e11 e12 e13 e14 e15 e16).1.2.2.2.2.2.2.2.2.2.2.2.2.2.2.2.2.2.1, (h23 e0 e1 e2 e3 e4 e5 e6 e7 e8 e9 e10 e11 e12 e13 e14 e15 e16).1.2.2.2.2.2.2.2.2.2.2.2.2.2.2.2.2.2.2.1, (h23 e0 e1 e2 e3 e4 e5 e6 e7 e8 e9 e10 e11 e12 e13 e14 e15 e16).1.2.2.2.2.2.2.2.2.2.2.2.2.2.2.2.2.2.2.2.1, e4, e3, e2, e1, e0, trivial⟩ (h23 e0 e1 e2 e3 e4 e5 e6 e7 e8 e9 e10 e11 e12 e13 e14 e15 e16).2
                                | false =>
                                  exact of_path hX12 (law8_p24 b r p xs ys i j) ⟨e15, e14, e13, (h24 e0 e1 e2 e3 e4 e5 e6 e7 e8 e9 e10 e11 e12 e13 e14 e15).1.1, (h24 e0 e1 e2 e3 e4 e5 e6 e7 e8 e9 e10 e11 e12 e13 e14 e15).1.2.1, (h24 e0 e1 e2 e3 e4 e5 e6 e7 e8 e9 e10 e11 e12 e13 e14 e15).1.2.2.1, (h24 e0 e1 e2 e3 e4 e5 e6 e7 e8 e9 e10 e11 e12 e13 e14 e15).1.2.2.2.1, e12, (h24 e0 e1 e2 e3 e4 e5 e6 e7 e8 e9 e10 e11 e12 e13 e14 e15).1.2.2.2.2.1, (h24 e0 e1 e2 e3 e4 e5 e6 e7 e8 e9 e10 e11 e12 e13 e14 e15).1.2.2.2.2.2.1, (h24 e0 e1 e2 e3 e4 e5 e6 e7 e8 e9 e10 e11 e12 e13 e14 e15).1.2.2.2.2.2.2.1, rfl, (h24 e0 e1 e2 e3 e4 e5 e6 e7 e8 e9 e10 e11 e12 e13 e14 e15).1.2.2.2.2.2.2.2.1, (h24 e0 e1 e2 e3 e4 e5 e6 e7 e8 e9 e10 e11 e12 e13 e14 e15).1.2.2.2.2.2.2.2.2.1, (h24 e0 e1 e2 e3 e4 e5 e6 e7 e8 e9 e10 e11 e12 e13 e14 e15).1.2.2.2.2.2.2.2.2.2.1, (h24 e0 e1 e2 e3 e4 e5 e6 e7 e8 e9 e10 e11 e12 e13 e14 e15).1.2.2.2.2.2.2.2.2.2.2.1, (h24 e0 e1 e2 e3 e4 e5 e6 e7 e8 e9 e10 e11 e12 e13 e14 e15).1.2.2.2.2.2.2.2.2.2.2.2.1, (h24 e0 e1 e2 e3 e4 e5 e6 e7 e8 e9 e10 e11 e12 e13 e14 e15).1.2.2.2.2.2.2.2.2.2.2.2.2.1, (h24 e0 e1 e2 e3 e4 e5 e6 e7 e8 e9 e10 e11 e12 e13 e14 e15).1.2.2.2.2.2.2.2.2.2.2.2.2.2.1, (h24 e0 e1 e2 e3 e4 e5 e6 e7 e8 e9 e10 e11 e12 e13 e14 e15).1.2.2.2.2.2.2.2.2.2.2.2.2.2.2.1, (h24 e0 e1 e2 e3 e4 e5 e6 e7 e8 e9 e10 e11 e12 e13 e14 e15).1.2.2.2.2.2.2.2.2.2.2.2.2.2.2.2.1, (h24 e0 e1 e2 e3 e4 e5 e6 e7 e8 e9 e10 e11 e12 e13 e14 e15).1.2.2.2.2.2.2.2.2.2.2.2.2.2.2.2.2.1, e11, e10, e9, e8, e7, e6, e5, (h24 e0 e1 e2 e3 e4 e5 e6 e7 e8 e9 e10 e11 e12 e13 e14 e15).1.2.2.2.2.2.2.2.2.2.2.2.2.2.2.2.2.2.1, (h24 e0 e1 e2 e3 e4 e5 e6 e7 e8 e9 e10 e11 e12 e13 e14 e15).1.2.2.2.2.2.2.2.2.2.2.2.2.2.2.2.2.2.2.1, (h24 e0 e1 e2 e3 e4 e5 e6 e7 e8 e9 e10 e11 e12 e13 e14 e15).1.2.2.2.2.2.2.2.2.2.2.2.2.2.2.2.2.2.2.2.1, e4, e3, e2, e1, e0, trivial⟩ (h24 e0 e1 e2 e3 e4 e5 e6 e7 e8 e9 e10 e11 e12 e13 e14 e15).2
                              | false =>
                                exact of_path hX12 (law8_p25 b r p xs ys i j) ⟨e14, e13, (h25 e0 e1 e2 e3 e4 e5 e6 e7 e8 e9 e10 e11 e12 e13 e14).1.1, (h25 e0 e1 e2 e3 e4 e5 e6 e7 e8 e9 e10 e11 e12 e13 e14).1.2.1, (h25 e0 e1 e2 e3 e4 e5 e6 e7 e8 e9 e10 e11 e12 e13 e14).1.2.2.1, (h25 e0 e1 e2 e3 e4 e5 e6 e7 e8 e9 e10 e11 e12 e13 e14).1.2.2.2.1, e12, (h25 e0 e1 e2 e3 e4 e5 e6 e7 e8 e9 e10 e11 e12 e13 e14).1.2.2.2.2.1, (h25 e0 e1 e2 e3 e4 e5 e6 e7 e8 e9 e10 e11 e12 e13 e14).1.2.2.2.2.2.1, (h25 e0 e1 e2 e3 e4 e5 e6 e7 e8 e9 e10 e11 e12 e13 e14).1.2.2.2.2.2.2.1, rfl, (h25 e0 e1 e2 e3 e4 e5 e6 e7 e8 e9 e10 e11 e12 e13 e14).1.2.2.2.2.2.2.2.1, (h25 e0 e1 e2 e3 e4 e5 e6 e7 e8 e9 e10 e11 e12 e13 e14).1.2.2.2.2.2.2.2.2.1, (h25 e0 e1 e2 e3 e4 e5 e6 e7 e8 e9 e10 e11 e12 e13 e14).1.2.2.2.2.2.2.2.2.2.1, (h25 e0 e1 e2 e3 e4 e5 e6 e7 e8 e9 e10 e11 e12 e13 e14).1.2.2.2.2.2.2.2.2.2.2.1, (h25 e0 e1 e2 e3 e4 e5 e6 e7 e8 e9 e10 e11 e12 e13 e14).1.2.2.2.2.2.2.2.2.2.2.2.1, (h25 e0 e1 e2 e3 e4 e5 e6 e7 e8 e9 e10 e11 e12 e13 e14).1.2.2.2.2.2.2.2.2.2.2.2.2.1, (h25 e0 e1 e2 e3 e4 e5 e6 e7 e8 e9 e10 e11 e12 e13 e14).1.2.2.2.2.2.2.2.2.2.2.2.2.2.1, (h25 e0 e1 e2 e3 e4 e5 e6 e7 e8 e9 e10 e11 e12 e13 e14).1.2.2.2.2.2.2.2.2.2.2.2.2.2.2.1, (h25 e0 e1 e2 e3 e4 e5 e6 e7 e8 e9 e10 e11 e12 e13 e14).1.2.2.2.2.2.2.2.2.2.2.2.2.2.2.2.1, (h25 e0 e1 e2 e3 e4 e5 e6 e7 e8 e9 e10 e11 e12 e13 e14).1.2.2.2.2.2.2.2.2.2.2.2.2.2.2.2.2.1, e11, e10, e9, e8, e7, e6, e5, (h25 e0 e1 e2 e3 e4 e5 e6 e7 e8 e9 e10 e11 e12 e13 e14).1.2.2.2.2.2.2.2.2.2.2.2.2.2.2.2.2.2.1, (h25 e0 e1 e2 e3 e4 e5 e6 e7 e8 e9 e10 e11 e12 e13 e14).1.2.2.2.2.2.2.2.2.2.2.2.2.2.2.2.2.2.2.1, (h25 e0 e1 e2 e3 e4 e5 e6 e7 e8 e9 e10 e11 e12 e13 e14).1.2.2.2.2.2.2.2.2.2.2.2.2.2.2.2.2.2.2.2.1, e4, e3, e2, e1, e0, trivial⟩ (h25 e0 e1 e2 e3 e4 e5 e6 e7 e8 e9 e10 e11 e12 e13 e14).2
                            | false =>
                              exact of_path hX12 (law8_p26 b r p xs ys i j) ⟨e13, (h26 e0 e1 e2 e3 e4 e5 e6 e7 e8 e9 e10 e11 e12 e13).1.1, (h26 e0 e1 e2 e3 e4 e5 e6 e7 e8 e9 e10 e11 e12 e13).1.2.1, (h26 e0 e1 e2 e3 e4 e5 e6 e7 e8 e9 e10 e11 e12 e13).1.2.2.1, (h26 e0 e1 e2 e3 e4 e5 e6 e7 e8 e9 e10 e11 e12 e13).1.2.2.2.1, e12, (h26 e0 e1 e2 e3 e4 e5 e6 e7 e8 e9 e10 e11 e12 e13).1.2.2.2.2.1, (h26 e0 e1 e2 e3 e4 e5 e6 e7 e8 e9 e10 e11 e12 e13).1.2.2.2.2.2.1, (h26 e0 e1 e2 e3 e4 e5 e6 e7 e8 e9 e10 e11 e12 e13).1.2.2.2.2.2.2.1, rfl, (h26 e0 e1 e2 e3 e4 e5 e6 e7 e8 e9 e10 e11 e12 e13).1.2.2.2.2.2.2.2.1, (h26 e0 e1 e2 e3 e4 e5 e6 e7 e8 e9 e10 e11 e12 e13).1.2.2.2.2.2.2.2.2.1, (h26 e0 e1 e2 e3 e4 e5 e6 e7 e8 e9 e10 e11 e12 e13).1.2.2.2.2.2.2.2.2.2.1, (h26 e0 e1 e2 e3 e4 e5 e6 e7 e8 e9 e10 e11 e12 e13).1.2.2.2.2.2.2.2.2.2.2.1, (h26 e0 e1 e2 e3 e4 e5 e6 e7 e8 e9 e10 e11 e12 e13).1.2.2.2.2.2.2.2.2.2.2.2.1, (h26 e0 e1 e2 e3 e4 e5 e6 e7 e8 e9 e10 e11 e12 e13).1.2.2.2.2.2.2.2.2.2.2.2.2.1, (h26 e0 e1 e2 e3 e4 e5 e6 e7 e8 e9 e10 e11 e12 e13).1.2.2.2.2.2.2.2.2.2.2.2.2.2.1, (h26 e0 e1 e2 e3 e4 e5 e6 e7 e8 e9 e10 e11 e12 e13).1.2.2.2.2.2.2.2.2.2.2.2.2.2.2.1, (h26 e0 e1 e2 e3 e4 e5 e6 e7 e8 e9 e10 e11 e12 e13).1.2.2.2.2.2.2.2.2.2.2.2.2.2.2.2.1, (h26 e0 e1 e2 e3 e4 e5 e6 e7 e8 e9 e10 e11 e12 e13).1.2.2.2.2.2.2.2.2.2.2.2.2.2.2.2.2.1, e11, e10, e9, e8, e7, e6, e5, (h26 e0 e1 e2 e3 e4 e5 e6 e7 e8 e9 e10 e11 e12 e13).1.2.2.2.2.2.2.2.2.2.2.2.2.2.2.2.2.2.1, (h26 e0 e1 e2 e3 e4 e5 e6 e7 e8 e9 e10 e11 e12 e13).1.2.2.2.2.2.2.2.2.2.2.2.2.2.2.2.2.2.2.1, (h26 e0 e1 e2 e3 e4 e5 e6 e7 e8 e9 e10 e11 e12 e13).1.2.2.2.2.2.2.2.2.2.2.2.2.2.2.2.2.2.2.2.1, e4, e3, e2, e1, e0, trivial⟩ (h26 e0 e1 e2 e3 e4 e5 e6 e7 e8 e9 e10 e11 e12 e13).2
                          | false =>
                            exact of_path hX12 (law8_p27 b r p xs ys i j) ⟨e12, (h27 e0 e1 e2 e3 e4 e5 e6 e7 e8 e9 e10 e11 e12).1.1, (h27 e0 e1 e2 e3 e4 e5 e6 e7 e8 e9 e10 e11 e12).1.2.1, (h27 e0 e1 e2 e3 e4 e5 e6 e7 e8 e9 e10 e11 e12).1.2.2.1, rfl, (h27 e0 e1 e2 e3 e4 e5 e6 e7 e8 e9 e10 e11 e12).1.2.2.2.1, (h27 e0 e1 e2 e3 e4 e5 e6 e7 e8 e9 e10 e11 e12).1.2.2.2.2.1, (h27 e0 e1 e2 e3 e4 e5 e6 e7 e8 e9 e10 e11 e12).1.2.2.2.2.2.1, (h27 e0 e1 e2 e3 e4 e5 e6 e7 e8 e9 e10 e11 e12).1.2.2.2.2.2.2.1, (h27 e0 e1 e2 e3 e4 e5 e6 e7 e8 e9 e10 e11 e12).1.2.2.2.2.2.2.2.1, (h27 e0 e1 e2 e3 e4 e5 e6 e7 e8 e9 e10 e11 e12).1.2.2.2.2.2.2.2.2.1, (h27 e0 e1 e2 e3 e4 e5 e6 e7 e8 e9 e10 e11 e12).1.2.2.2.2.2.2.2.2.2.1, (h27 e0 e1 e2 e3 e4 e5 e6 e7 e8 e9 e10 e11 e12).1.2.2.2.2.2.2.2.2.2.2.1, (h27 e0 e1 e2 e3 e4 e5 e6 e7 e8 e9 e10 e11 e12).1.2.2.2.2.2.2.2.2.2.2.2.1, (h27 e0 e1 e2 e3 e4 e5 e6 e7 e8 e9 e10 e11 e12).1.2.2.2.2.2.2.2.2.2.2.2.2.1, e11, e10, e9, e8, e7, e6, e5, (h27 e0 e1 e2 e3 e4 e5 e6 e7 e8 e9 e10 e11 e12).1.2.2.2.2.2.2.2.2.2.2.2.2.2.1, (h27 e0 e1 e2 e3 e4 e5 e6 e7 e8 e9 e10 e11 e12).1.2.2.2.2.2.2.2.2.2.2.2.2.2.2.1, (h27 e0 e1 e2 e3 e4 e5 e6 e7 e8 e9 e10 e11 e12).1.2.2.2.2.2.2.2.2.2.2.2.2.2.2.2.1, e4, e3, e2, e1, e0, trivial⟩ (h27 e0 e1 e2 e3 e4 e5 e6 e7 e8 e9 e10 e11 e12).2
set_option maxHeartbeats 8000000 in
theorem law8_ok (b r p : Int) (xs ys : List Int) (i j : Int) (hx : ∀ k, k < xs.length → 0 ≤ xs.getD k 0 ∧ xs.getD k 0 < 18446744073709551616) :
    CallsD Try.prog 8 [.agg [i64 b, i64 r, i64 p], crow xs ys, i64 i, i64 j] (.v (.bool true)) := by
  by_cases hl : limE b r p = 0
  case neg =>
    refine law8_calls b r p xs ys i j _ ?_ ?_ ?_ ?_ ?_ ?_ ?_ ?_ ?_ ?_ ?_ ?_ ?_ ?_ ?_ ?_ ?_ ?_ ?_ ?_ ?_ ?_ ?_ ?_ ?_ ?_ ?_ ?_
    all_goals first | (intro a0; exfalso; simp only [neq_t, neq_f] at a0; omega) | (intro a0 a1; exfalso; simp only [neq_t, neq_f] at a1; omega) | (intro a0 a1 a2; exfalso; simp only [lss_t, lss_f] at a2; omega) | (intro a0 a1 a2 a3; exfalso; simp only [lss_t, lss_f] at a3; omega) | (intro a0 a1 a2 a3 a4; exfalso; simp only [gtr_t, gtr_f, rl] at a4; omega) | (intros; exact ⟨trivial, rfl⟩)
  by_cases hc : cE xs ys = 0
  case neg =>
    refine law8_calls b r p xs ys i j _ ?_ ?_ ?_ ?_ ?_ ?_ ?_ ?_ ?_ ?_ ?_ ?_ ?_ ?_ ?_ ?_ ?_ ?_ ?_ ?_ ?_ ?_ ?_ ?_ ?_ ?_ ?_ ?_
    all_goals first | (intro a0; exfalso; simp only [neq_t, neq_f] at a0; omega) | (intro a0 a1; exfalso; simp only [neq_t, neq_f] at a1; omega) | (intro a0 a1 a2; exfalso; simp only [lss_t, lss_f] at a2; omega) | (intro a0 a1 a2 a3; exfalso; simp only [lss_t, lss_f] at a3; omega) | (intro a0 a1 a2 a3 a4; exfalso; simp only [gtr_t, gtr_f, rl] at a4; omega) | (intros; exact ⟨trivial, rfl⟩)
  by_cases hi : 0 ≤ i
  case neg =>
    refine law8_calls b r p xs ys i j _ ?_ ?_ ?_ ?_ ?_ ?_ ?_ ?_ ?_ ?_ ?_ ?_ ?_ ?_ ?_ ?_ ?_ ?_ ?_ ?_ ?_ ?_ ?_ ?_ ?_ ?_ ?_ ?_
    all_goals first | (intro a0; exfalso; simp only [neq_t, neq_f] at a0; omega) | (intro a0 a1; exfalso; simp only [neq_t, neq_f] at a1; omega) | (intro a0 a1 a2; exfalso; simp only [lss_t, lss_f] at a2; omega) | (intro a0 a1 a2 a3; exfalso; simp only [lss_t, lss_f] at a3; omega) | (intro a0 a1 a2 a3 a4; exfalso; simp only [gtr_t, gtr_f, rl] at a4; omega) | (intros; exact ⟨trivial, rfl⟩)
  by_cases hij : i ≤ j
  case neg =>
    refine law8_calls b r p xs ys i j _ ?_ ?_ ?_ ?_ ?_ ?_ ?_ ?_ ?_ ?_ ?_ ?_ ?_ ?_ ?_ ?_ ?_ ?_ ?_ ?_ ?_ ?_ ?_ ?_ ?_ ?_ ?_ ?_
    all_goals first | (intro a0; exfalso; simp only [neq_t, neq_f] at a0; omega) | (intro a0 a1; exfalso; simp only [neq_t, neq_f] at a1; omega) | (intro a0 a1 a2; exfalso; simp only [lss_t, lss_f] at a2; omega) | (intro a0 a1 a2 a3; exfalso; simp only [lss_t, lss_f] at a3; omega) | (intro a0 a1 a2 a3 a4; exfalso; simp only [gtr_t, gtr_f, rl] at a4; omega) | (intros; exact ⟨trivial, rfl⟩)
  by_cases hj : j ≤ (xs.length : Int)
  case neg =>
    refine law8_calls b r p xs ys i j _ ?_ ?_ ?_ ?_ ?_ ?_ ?_ ?_ ?_ ?_ ?_ ?_ ?_ ?_ ?_ ?_ ?_ ?_ ?_ ?_ ?_ ?_ ?_ ?_ ?_ ?_ ?_ ?_
    all_goals first | (intro a0; exfalso; simp only [neq_t, neq_f] at a0; omega) | (intro a0 a1; exfalso; simp only [neq_t, neq_f] at a1; omega) | (intro a0 a1 a2; exfalso; simp only [lss_t, lss_f] at a2; omega) | (intro a0 a1 a2 a3; exfalso; simp only [lss_t, lss_f] at a3; omega) | (intro a0 a1 a2 a3 a4; exfalso; simp only [gtr_t, gtr_f, rl] at a4; omega) | (intros; exact ⟨trivial, rfl⟩)
  obtain ⟨a, rfl⟩ := Int.eq_ofNat_of_zero_le hi
  obtain ⟨c, rfl⟩ := Int.eq_ofNat_of_zero_le (show 0 ≤ j by omega)
  have hcn : c ≤ xs.length := by omega
  obtain ⟨hn, hu⟩ := cE_ok hc
  have eO : ovE b r p xs ys = 0 := by unfold ovE; rw [if_pos hl, hc]
  have eP : ovE b r p (part xs a c) (part ys a c) = 0 := part_ovE hl hc hcn
  cases hv : ovV b r p xs ys with
  | none =>
    have hp : (ovV b r p (part xs a c) (part ys a c)).isSome = false := by
      cases h : (ovV b r p (part xs a c) (part ys a c)).isSome with
      | false => rfl
      | true =>
        obtain ⟨i', k', h1, h2, h3, h4⟩ := part_over hl hc hcn h
        rw [ovV_none hl hc hv k' (by omega) i' h2] at h4; cases h4
    refine law8_calls b r p xs ys a c _ ?_ ?_ ?_ ?_ ?_ ?_ ?_ ?_ ?_ ?_ ?_ ?_ ?_ ?_ ?_ ?_ ?_ ?_ ?_ ?_ ?_ ?_ ?_ ?_ ?_ ?_ ?_ ?_
    all_goals simp only [hl, hc, rl, Int.toNat_natCast, part_fold, eO, eP, hp, hv, ovI, ovK, Option.isSome_none, Option.isSome_some, Bool.not_false, Bool.not_true, neq_t, neq_f, gtr_t, gtr_f, eql_t, eql_f, geq_t, geq_f, lss_t, lss_f, ne_eq, not_true, false_imp_iff, true_imp_iff, Bool.false_eq_true, reduceCtorEq]
    all_goals (intros; first | trivial | (exfalso; omega) | exact ⟨by ((repeat' apply And.intro) <;> first | trivial | omega | (apply decide_eq_true; omega)), trivial⟩ | exact ⟨by ((repeat' apply And.intro) <;> first | trivial | omega | (apply decide_eq_true; omega)), rfl⟩ | (exfalso; simp_all; done))
  | some ik =>
    obtain ⟨i0, k0⟩ := ik
    obtain ⟨hk, hik, hov, hin, hout⟩ := ovV_some hl hc hv
    have hB : (ovV b r p (part xs 0 k0) (part ys 0 k0)).isSome = false := by
      cases h : (ovV b r p (part xs 0 k0) (part ys 0 k0)).isSome with
      | false => rfl
      | true =>
        obtain ⟨i', k', h1, h2, h3, h4⟩ := part_over hl hc (by omega) h
        rw [hout k' h3 i' h2] at h4; cases h4
    have hH : (ovV b r p (part xs (i0 + 1) (k0 + 1)) (part ys (i0 + 1) (k0 + 1))).isSome = false := by
      cases h : (ovV b r p (part xs (i0 + 1) (k0 + 1)) (part ys (i0 + 1) (k0 + 1))).isSome with
      | false => rfl
      | true =>
        obtain ⟨i', k', h1, h2, h3, h4⟩ := part_over hl hc (by omega) h
        rcases Nat.lt_or_ge k' k0 with q | q
        · rw [hout k' q i' h2] at h4; cases h4
        · have e : k' = k0 := by omega
          subst e
          rw [hin i' (by omega) h2] at h4; cases h4
    have eB : ovE b r p (part xs 0 k0) (part ys 0 k0) = 0 := part_ovE hl hc (by omega)
    have eH : ovE b r p (part xs (i0 + 1) (k0 + 1)) (part ys (i0 + 1) (k0 + 1)) = 0 := part_ovE hl hc (by omega)
    have hmono := okUp_mono hu (k0 - i0) i0 (by omega)
    rw [show i0 + (k0 - i0) = k0 by omega] at hmono
    obtain ⟨x0, x1⟩ := hx i0 (by omega)
    obtain ⟨y0, y1⟩ := hx k0 hk
    have eg : gapN xs i0 k0 = xs.getD k0 0 - xs.getD i0 0 := by unfold gapN; rw [opI_sub, wrap_u64]; omega
    unfold ovB at hov
    rw [eg] at hov
    simp only [Bool.and_eq_true, decide_eq_true_eq] at hov
    have eE : bE b r p (xs.getD i0 0) (xs.getD k0 0) = 0 := by
      unfold bE; rw [if_pos hl, if_pos hmono, if_pos hov.1]
    have eV : bV b r p (xs.getD i0 0) (xs.getD k0 0) < sumN ys i0 (k0 + 1 - i0) := by
      unfold bV; rw [if_pos eE]; exact hov.2
    have e1 : opI .add .i64 (k0 : Int) 1 = ((k0 + 1 : Nat) : Int) := by rw [opI_add, wrap_i64_of (by omega) (by omega)]; omega
    have e2 : opI .add .i64 (i0 : Int) 1 = ((i0 + 1 : Nat) : Int) := by rw [opI_add, wrap_i64_of (by omega) (by omega)]; omega
    refine law8_calls b r p xs ys a c _ ?_ ?_ ?_ ?_ ?_ ?_ ?_ ?_ ?_ ?_ ?_ ?_ ?_ ?_ ?_ ?_ ?_ ?_ ?_ ?_ ?_ ?_ ?_ ?_ ?_ ?_ ?_ ?_
    all_goals simp only [hl, hc, rl, Int.toNat_natCast, show Int.toNat 0 = 0 from rfl, part_fold, eO, eP, hv, ovI, ovK, e1, e2, eB, eH, hB, hH, eE, Option.isSome_none, Option.isSome_some, Bool.not_false, Bool.not_true, neq_t, neq_f, gtr_t, gtr_f, eql_t, eql_f, geq_t, geq_f, lss_t, lss_f, ne_eq, not_true, false_imp_iff, true_imp_iff, Bool.false_eq_true, reduceCtorEq]
    all_goals (intros; first | trivial | (exfalso; omega) | exact ⟨by ((repeat' apply And.intro) <;> first | trivial | omega | (apply decide_eq_true; omega)), trivial⟩ | exact ⟨by ((repeat' apply And.intro) <;> first | trivial | omega | (apply decide_eq_true; omega)), rfl⟩ | (exfalso; simp_all; done))
end MeterS
