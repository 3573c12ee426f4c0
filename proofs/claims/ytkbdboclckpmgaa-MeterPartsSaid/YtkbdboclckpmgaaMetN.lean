/- The functions of the folder meter and what they reach: what they compute. No condition. -/
import Derived.Test.YtkbdboclckpmgaaMetL
set_option linter.unusedSectionVars false
set_option linter.unusedVariables false
set_option linter.unusedSimpArgs false
namespace MeterS
open Go Go.Dam Go.Proofs
set_option maxRecDepth 1000000
set_option linter.unusedVariables false
set_option linter.unusedSectionVars false
set_option linter.unusedSimpArgs false
/-- What Bound says. -/
def bE (b r p f t : Int) : Int := if limE b r p = 0 then (if f ≤ t then (if wN b r p (t - f) < 18446744073709551616 then 0 else 16) else 2) else limE b r p
def bV (b r p f t : Int) : Int := if bE b r p f t = 0 then wN b r p (t - f) else 0
theorem limE_or (b r p : Int) : limE b r p = 0 ∨ limE b r p = 8 := by unfold limE; split <;> simp
variable [Glo]
theorem bnd24_p0 (b : Int) (r : Int) (p : Int) (f : Int) (t : Int) : fnX Try.prog X7 100000 [.d true] 24 [D.agg [D.v (Value.int IntKind.i64 b), D.v (Value.int IntKind.i64 r), D.v (Value.int IntKind.i64 p)],
  D.v (Value.int IntKind.u64 f), D.v (Value.int IntKind.u64 t)] = some (D.tup [D.v (Value.int IntKind.u64 0), D.v (Value.int IntKind.i64 (limE b r p))], [cmpI BinOp.neq (limE b r p) 0 = true]) := by kernel_rfl
theorem bnd24_p1 (b : Int) (r : Int) (p : Int) (f : Int) (t : Int) : fnX Try.prog X7 100000 [.d false, .d true] 24 [D.agg [D.v (Value.int IntKind.i64 b), D.v (Value.int IntKind.i64 r), D.v (Value.int IntKind.i64 p)],
  D.v (Value.int IntKind.u64 f), D.v (Value.int IntKind.u64 t)] = some (D.tup [D.v (Value.int IntKind.u64 0), D.v (Value.int IntKind.i64 2)], [cmpI BinOp.gtr f t = true,
  cmpI BinOp.neq (limE b r p) 0 = false]) := by kernel_rfl
theorem bnd24_p2 (b : Int) (r : Int) (p : Int) (f : Int) (t : Int) : fnX Try.prog X7 100000 [.d false, .d false] 24 [D.agg [D.v (Value.int IntKind.i64 b), D.v (Value.int IntKind.i64 r), D.v (Value.int IntKind.i64 p)],
  D.v (Value.int IntKind.u64 f), D.v (Value.int IntKind.u64 t)] = some (D.tup
  [D.v
      (Value.int IntKind.u64
        (if wN b r p (opI BinOp.sub IntKind.u64 t f) < 18446744073709551616 then
          wN b r p (opI BinOp.sub IntKind.u64 t f)
        else 0)),
    D.v (Value.int IntKind.i64 (if wN b r p (opI BinOp.sub IntKind.u64 t f) < 18446744073709551616 then 0 else 16))], [limE b r p = 0,
  0 ≤ opI BinOp.sub IntKind.u64 t f,
  opI BinOp.sub IntKind.u64 t f < 18446744073709551616,
  cmpI BinOp.gtr f t = false,
  cmpI BinOp.neq (limE b r p) 0 = false]) := by kernel_rfl
theorem bnd24_calls (b : Int) (r : Int) (p : Int) (f : Int) (t : Int) (res : D)
  (h0 : ((cmpI BinOp.neq (limE b r p) 0) = true) → (True) ∧ res = D.tup [D.v (Value.int IntKind.u64 0), D.v (Value.int IntKind.i64 (limE b r p))])
  (h1 : ((cmpI BinOp.neq (limE b r p) 0) = false) → ((cmpI BinOp.gtr f t) = true) → (True) ∧ res = D.tup [D.v (Value.int IntKind.u64 0), D.v (Value.int IntKind.i64 2)])
  (h2 : ((cmpI BinOp.neq (limE b r p) 0) = false) → ((cmpI BinOp.gtr f t) = false) → ((limE b r p = 0) ∧ (0 ≤ opI BinOp.sub IntKind.u64 t f) ∧ (opI BinOp.sub IntKind.u64 t f < 18446744073709551616) ∧ True) ∧ res = D.tup
  [D.v
      (Value.int IntKind.u64
        (if wN b r p (opI BinOp.sub IntKind.u64 t f) < 18446744073709551616 then
          wN b r p (opI BinOp.sub IntKind.u64 t f)
        else 0)),
    D.v (Value.int IntKind.i64 (if wN b r p (opI BinOp.sub IntKind.u64 t f) < 18446744073709551616 then 0 else 16))]) :
  CallsD Try.prog 24 [D.agg [D.v (Value.int IntKind.i64 b), D.v (Value.int IntKind.i64 r), D.v (Value.int IntKind.i64 p)],
  D.v (Value.int IntKind.u64 f), D.v (Value.int IntKind.u64 t)] res := by
  cases e0 : (cmpI BinOp.neq (limE b r p) 0) with
  | true =>
    exact of_path hX7 (bnd24_p0 b r p f t) ⟨e0, trivial⟩ (h0 e0).2
  | false =>
    cases e1 : (cmpI BinOp.gtr f t) with
    | true =>
      exact of_path hX7 (bnd24_p1 b r p f t) ⟨e1, e0, trivial⟩ (h1 e0 e1).2
    | false =>
      exact of_path hX7 (bnd24_p2 b r p f t) ⟨(h2 e0 e1).1.1, (h2 e0 e1).1.2.1, (h2 e0 e1).1.2.2.1, e1, e0, trivial⟩ (h2 e0 e1).2
theorem bnd25_p0 (b : Int) (r : Int) (p : Int) (f : Int) (t : Int) : fnX Try.prog X7 100000 [.d true] 25 [D.agg [D.v (Value.int IntKind.i64 b), D.v (Value.int IntKind.i64 r), D.v (Value.int IntKind.i64 p)],
  D.v (Value.int IntKind.u64 f), D.v (Value.int IntKind.u64 t)] = some (D.tup [D.v (Value.int IntKind.u64 0), D.v (Value.int IntKind.i64 (limE b r p))], [cmpI BinOp.neq (limE b r p) 0 = true]) := by kernel_rfl
theorem bnd25_p1 (b : Int) (r : Int) (p : Int) (f : Int) (t : Int) : fnX Try.prog X7 100000 [.d false, .d true] 25 [D.agg [D.v (Value.int IntKind.i64 b), D.v (Value.int IntKind.i64 r), D.v (Value.int IntKind.i64 p)],
  D.v (Value.int IntKind.u64 f), D.v (Value.int IntKind.u64 t)] = some (D.tup [D.v (Value.int IntKind.u64 0), D.v (Value.int IntKind.i64 2)], [cmpI BinOp.gtr f t = true,
  cmpI BinOp.neq (limE b r p) 0 = false]) := by kernel_rfl
theorem bnd25_p2 (b : Int) (r : Int) (p : Int) (f : Int) (t : Int) : fnX Try.prog X7 100000 [.d false, .d false, .d true] 25 [D.agg [D.v (Value.int IntKind.i64 b), D.v (Value.int IntKind.i64 r), D.v (Value.int IntKind.i64 p)],
  D.v (Value.int IntKind.u64 f), D.v (Value.int IntKind.u64 t)] = some (D.tup [D.v (Value.int IntKind.u64 0), D.v (Value.int IntKind.i64 16)], [cmpI BinOp.gtr (wN b r p (opI BinOp.sub IntKind.u64 t f) / 18446744073709551616) 0 = true,
  limE b r p = 0,
  0 ≤ opI BinOp.sub IntKind.u64 t f,
  opI BinOp.sub IntKind.u64 t f < 18446744073709551616,
  cmpI BinOp.gtr f t = false,
  cmpI BinOp.neq (limE b r p) 0 = false]) := by kernel_rfl
theorem bnd25_p3 (b : Int) (r : Int) (p : Int) (f : Int) (t : Int) : fnX Try.prog X7 100000 [.d false, .d false, .d false] 25 [D.agg [D.v (Value.int IntKind.i64 b), D.v (Value.int IntKind.i64 r), D.v (Value.int IntKind.i64 p)],
  D.v (Value.int IntKind.u64 f), D.v (Value.int IntKind.u64 t)] = some (D.tup
  [D.v (Value.int IntKind.u64 (wN b r p (opI BinOp.sub IntKind.u64 t f) % 18446744073709551616)),
    D.v (Value.int IntKind.i64 0)], [cmpI BinOp.gtr (wN b r p (opI BinOp.sub IntKind.u64 t f) / 18446744073709551616) 0 = false,
  limE b r p = 0,
  0 ≤ opI BinOp.sub IntKind.u64 t f,
  opI BinOp.sub IntKind.u64 t f < 18446744073709551616,
  cmpI BinOp.gtr f t = false,
  cmpI BinOp.neq (limE b r p) 0 = false]) := by kernel_rfl
theorem bnd25_calls (b : Int) (r : Int) (p : Int) (f : Int) (t : Int) (res : D)
  (h0 : ((cmpI BinOp.neq (limE b r p) 0) = true) → (True) ∧ res = D.tup [D.v (Value.int IntKind.u64 0), D.v (Value.int IntKind.i64 (limE b r p))])
  (h1 : ((cmpI BinOp.neq (limE b r p) 0) = false) → ((cmpI BinOp.gtr f t) = true) → (True) ∧ res = D.tup [D.v (Value.int IntKind.u64 0), D.v (Value.int IntKind.i64 2)])
  (h2 : ((cmpI BinOp.neq (limE b r p) 0) = false) → ((cmpI BinOp.gtr f t) = false) → ((cmpI BinOp.gtr (wN b r p (opI BinOp.sub IntKind.u64 t f) / 18446744073709551616) 0) = true) → ((limE b r p = 0) ∧ (0 ≤ opI BinOp.sub IntKind.u64 t f) ∧ (opI BinOp.sub IntKind.u64 t f < 18446744073709551616) ∧ True) ∧ res = D.tup [D.v (Value.int IntKind.u64 0), D.v (Value.int IntKind.i64 16)])
  (h3 : ((cmpI BinOp.neq (limE b r p) 0) = false) → ((cmpI BinOp.gtr f t) = false) → ((cmpI BinOp.gtr (wN b r p (opI BinOp.sub IntKind.u64 t f) / 18446744073709551616) 0) = false) → ((limE b r p = 0) ∧ (0 ≤ opI BinOp.sub IntKind.u64 t f) ∧ (opI BinOp.sub IntKind.u64 t f < 18446744073709551616) ∧ True) ∧ res = D.tup
  [D.v (Value.int IntKind.u64 (wN b r p (opI BinOp.sub IntKind.u64 t f) % 18446744073709551616)),
    D.v (Value.int IntKind.i64 0)]) :
  CallsD Try.prog 25 [D.agg [D.v (Value.int IntKind.i64 b), D.v (Value.int IntKind.i64 r), D.v (Value.int IntKind.i64 p)],
  D.v (Value.int IntKind.u64 f), D.v (Value.int IntKind.u64 t)] res := by
  cases e0 : (cmpI BinOp.neq (limE b r p) 0) with
  | true =>
    exact of_path hX7 (bnd25_p0 b r p f t) ⟨e0, trivial⟩ (h0 e0).2
  | false =>
    cases e1 : (cmpI BinOp.gtr f t) with
    | true =>
      exact of_path hX7 (bnd25_p1 b r p f t) ⟨e1, e0, trivial⟩ (h1 e0 e1).2
    | false =>
      cases e2 : (cmpI BinOp.gtr (wN b r p (opI BinOp.sub IntKind.u64 t f) / 18446744073709551616) 0) with
      | true =>
        exact of_path hX7 (bnd25_p2 b r p f t) ⟨e2, (h2 e0 e1 e2).1.1, (h2 e0 e1 e2).1.2.1, (h2 e0 e1 e2).1.2.2.1, e1, e0, trivial⟩ (h2 e0 e1 e2).2
      | false =>
        exact of_path hX7 (bnd25_p3 b r p f t) ⟨e2, (h3 e0 e1 e2).1.1, (h3 e0 e1 e2).1.2.1, (h3 e0 e1 e2).1.2.2.1, e1, e0, trivial⟩ (h3 e0 e1 e2).2
theorem bnd24_ok (b r p f t : Int) (f0 : 0 ≤ f) (f1 : f < 18446744073709551616) (t0 : 0 ≤ t) (t1 : t < 18446744073709551616) :
    CallsD Try.prog 24 [.agg [i64 b, i64 r, i64 p], u64 f, u64 t] (.tup [u64 (bV b r p f t), i64 (bE b r p f t)]) := by
  refine bnd24_calls b r p f t _ ?_ ?_ ?_
  · intro a
    rw [neq_t] at a
    have e : bE b r p f t = limE b r p := by unfold bE; rw [if_neg a]
    unfold bV; rw [e, if_neg a]; exact ⟨trivial, rfl⟩
  · intro a c
    rw [neq_f] at a; rw [gtr_t] at c
    have e : bE b r p f t = 2 := by unfold bE; rw [if_pos a, if_neg (by omega)]
    unfold bV; rw [e, if_neg (by decide)]; exact ⟨trivial, rfl⟩
  · intro a c
    rw [neq_f] at a; rw [gtr_f] at c
    have es : opI .sub .u64 t f = t - f := by rw [opI_sub, wrap_u64]; omega
    rw [es]
    refine ⟨⟨a, by omega, by omega, trivial⟩, ?_⟩
    have e : bE b r p f t = if wN b r p (t - f) < 18446744073709551616 then 0 else 16 := by unfold bE; rw [if_pos a, if_pos c]
    unfold bV; rw [e]
    by_cases h : wN b r p (t - f) < 18446744073709551616
    · rw [if_pos h, if_pos h, if_pos rfl]
    · rw [if_neg h, if_neg h, if_neg (by decide)]
theorem bnd25_ok (b r p f t : Int) (f0 : 0 ≤ f) (f1 : f < 18446744073709551616) (t0 : 0 ≤ t) (t1 : t < 18446744073709551616) :
    CallsD Try.prog 25 [.agg [i64 b, i64 r, i64 p], u64 f, u64 t] (.tup [u64 (bV b r p f t), i64 (bE b r p f t)]) := by
  refine bnd25_calls b r p f t _ ?_ ?_ ?_ ?_
  · intro a
    rw [neq_t] at a
    have e : bE b r p f t = limE b r p := by unfold bE; rw [if_neg a]
    unfold bV; rw [e, if_neg a]; exact ⟨trivial, rfl⟩
  · intro a c
    rw [neq_f] at a; rw [gtr_t] at c
    have e : bE b r p f t = 2 := by unfold bE; rw [if_pos a, if_neg (by omega)]
    unfold bV; rw [e, if_neg (by decide)]; exact ⟨trivial, rfl⟩
  · intro a c g
    rw [neq_f] at a; rw [gtr_f] at c
    have es : opI .sub .u64 t f = t - f := by rw [opI_sub, wrap_u64]; omega
    rw [es] at g ⊢
    rw [gtr_t] at g
    have e : bE b r p f t = 16 := by unfold bE; rw [if_pos a, if_pos c, if_neg (by omega)]
    refine ⟨⟨a, by omega, by omega, trivial⟩, ?_⟩
    unfold bV; rw [e, if_neg (by decide)]
  · intro a c g
    rw [neq_f] at a; rw [gtr_f] at c
    have es : opI .sub .u64 t f = t - f := by rw [opI_sub, wrap_u64]; omega
    rw [es] at g ⊢
    rw [gtr_f] at g
    have e : bE b r p f t = 0 := by unfold bE; rw [if_pos a, if_pos c, if_pos (by omega)]
    refine ⟨⟨a, by omega, by omega, trivial⟩, ?_⟩
    have hw := (wN_bounds a (show 0 ≤ t - f by omega) (by omega)).2.1
    have hb := limE_ok a
    unfold bV; rw [e, if_pos rfl, Int.emod_eq_of_lt (by omega) (by omega)]
def bndC : List D → Option (D × List Prop)
  | [.agg [.v (.int .i64 b), .v (.int .i64 r), .v (.int .i64 p)], .v (.int .u64 f), .v (.int .u64 t)] => some (.tup [u64 (bV b r p f t), i64 (bE b r p f t)], [0 ≤ f, f < 18446744073709551616, 0 ≤ t, t < 18446744073709551616])
  | _ => none
theorem bndC_okA (args res l) (h : bndC args = some (res, l)) (hl : AllP l) : CallsD Try.prog 24 args res := by
  unfold bndC at h; split at h
  · simp only [Option.some.injEq, Prod.mk.injEq] at h
    obtain ⟨rfl, rfl⟩ := h; obtain ⟨h0, h1, h2, h3, _⟩ := hl
    exact bnd24_ok _ _ _ _ _ h0 h1 h2 h3
  · cases h
theorem bndC_okB (args res l) (h : bndC args = some (res, l)) (hl : AllP l) : CallsD Try.prog 25 args res := by
  unfold bndC at h; split at h
  · simp only [Option.some.injEq, Prod.mk.injEq] at h
    obtain ⟨rfl, rfl⟩ := h; obtain ⟨h0, h1, h2, h3, _⟩ := hl
    exact bnd25_ok _ _ _ _ _ h0 h1 h2 h3
  · cases h
def X8 : Contracts := addCon 24 (.call bndC) (addCon 25 (.call bndC) X7)
theorem hX8 : ConOK Try.prog X8 := addCall_ok bndC_okA (addCall_ok bndC_okB hX7)
end MeterS

namespace MeterS
open Go Go.Dam Go.Proofs
set_option maxRecDepth 1000000
set_option linter.unusedVariables false
set_option linter.unusedSectionVars false
set_option linter.unusedSimpArgs false
/-- A list of charges: the ticks and the costs. -/
abbrev crow (xs ys : List Int) : D := .rc [.ints .u64 xs, .ints .i64 ys]
/-- Is the charge at a place good? -/
def okAt (xs ys : List Int) (j : Nat) : Bool := decide (0 ≤ ys.getD j 0) && decide (ys.getD j 0 ≤ 4294967295) && (j == 0 || decide (xs.getD (j - 1) 0 ≤ xs.getD j 0))
def okUp (xs ys : List Int) : Nat → Bool
  | 0 => true
  | j + 1 => okUp xs ys j && okAt xs ys j
def cE (xs ys : List Int) : Int := if 60 < xs.length then 4 else if okUp xs ys xs.length then 0 else 8
theorem okUp_at {xs ys : List Int} : ∀ {n : Nat}, okUp xs ys n = true → ∀ j, j < n → okAt xs ys j = true
  | 0, _, j, h => by omega
  | n + 1, h, j, hj => by
    simp only [okUp, Bool.and_eq_true] at h
    rcases Nat.lt_or_ge j n with c | c
    · exact okUp_at h.1 j c
    · rw [show j = n by omega]; exact h.2
theorem okUp_bad {xs ys : List Int} : ∀ {n : Nat}, okUp xs ys n = false → ∃ j, j < n ∧ okAt xs ys j = false
  | 0, h => by cases h
  | n + 1, h => by
    simp only [okUp, Bool.and_eq_false_iff] at h
    rcases h with h | h
    · obtain ⟨j, hj, h⟩ := okUp_bad h; exact ⟨j, by omega, h⟩
    · exact ⟨n, by omega, h⟩
/-- The costs of so many charges. -/
def sumN (ys : List Int) (i : Nat) : Nat → Int
  | 0 => 0
  | m + 1 => ys.getD i 0 + sumN ys (i + 1) m
theorem sumN_bound {ys : List Int} : ∀ (m i : Nat), (∀ j, i ≤ j → j < i + m → 0 ≤ ys.getD j 0 ∧ ys.getD j 0 ≤ 4294967295) → 0 ≤ sumN ys i m ∧ sumN ys i m ≤ 4294967295 * m
  | 0, i, _ => by simp [sumN]
  | m + 1, i, h => by
    have h1 := h i (by omega) (by omega)
    have h2 := sumN_bound m (i + 1) fun j a b => h j (by omega) (by omega)
    simp only [sumN]; omega
theorem sumN_last (ys : List Int) : ∀ (m i : Nat), sumN ys i (m + 1) = sumN ys i m + ys.getD (i + m) 0
  | 0, i => by simp [sumN]
  | m + 1, i => by
    have := sumN_last ys m (i + 1)
    rw [sumN, this, sumN, show i + 1 + m = i + (m + 1) by omega]; omega
theorem okAt_iff {xs ys : List Int} {j : Nat} : okAt xs ys j = true ↔ 0 ≤ ys.getD j 0 ∧ ys.getD j 0 ≤ 4294967295 ∧ (j = 0 ∨ xs.getD (j - 1) 0 ≤ xs.getD j 0) := by
  simp [okAt, and_assoc]
variable [Glo]
noncomputable def T33 (xs ys : List Int) (v i : Int) : Cs := ⟨TT.of [(0, (D.rc [(Col.ints IntKind.u64 xs), (Col.ints IntKind.i64 ys)])), (2, (D.v (Value.int IntKind.i64 v))), (3, (D.v (Value.int IntKind.i64 i)))], 45, [], [], none, 0⟩
theorem valid33L_r0 (xs : List Int) (ys : List Int) (v : Int) (i : Int) : roundX Try.prog X8 100000 (loopAt Try.prog 33 0) [.d true, .d true, .c 9] [[0, 2, 3]] [] (T33 xs ys v i) = some (Ex.ret, (T33 (xs) (ys) (8) (i)), [cmpI BinOp.lss (ys.getD i.toNat 0) 0 = true,
  decide (0 ≤ i) = true,
  decide (i < ↑(rowLen [Col.ints IntKind.u64 xs, Col.ints IntKind.i64 ys])) = true,
  cmpI BinOp.lss i ↑(rowLen [Col.ints IntKind.u64 xs, Col.ints IntKind.i64 ys]) = true]) := by kernel_rfl
theorem valid33L_r1 (xs : List Int) (ys : List Int) (v : Int) (i : Int) : roundX Try.prog X8 100000 (loopAt Try.prog 33 0) [.d true, .d false, .c 4, .d true, .c 3] [[0, 2, 3]] [] (T33 xs ys v i) = some (Ex.ret, (T33 (xs) (ys) (8) (i)), [cmpI BinOp.gtr (ys.getD i.toNat 0) 4294967295 = true,
  decide (0 ≤ i) = true,
  decide (i < ↑(rowLen [Col.ints IntKind.u64 xs, Col.ints IntKind.i64 ys])) = true,
  cmpI BinOp.lss (ys.getD i.toNat 0) 0 = false,
  decide (0 ≤ i) = true,
  decide (i < ↑(rowLen [Col.ints IntKind.u64 xs, Col.ints IntKind.i64 ys])) = true,
  cmpI BinOp.lss i ↑(rowLen [Col.ints IntKind.u64 xs, Col.ints IntKind.i64 ys]) = true]) := by kernel_rfl
theorem valid33L_r2 (xs : List Int) (ys : List Int) (v : Int) (i : Int) : roundX Try.prog X8 100000 (loopAt Try.prog 33 0) [.d true, .d false, .c 4, .d false, .c 1, .d true, .c 11, .d true] [[0, 2, 3]] [] (T33 xs ys v i) = some (Ex.ret, (T33 (xs) (ys) (8) (i)), [cmpI BinOp.lss (xs.getD i.toNat 0) (xs.getD (opI BinOp.sub IntKind.i64 i 1).toNat 0) = true,
  decide (0 ≤ opI BinOp.sub IntKind.i64 i 1) = true,
  decide (opI BinOp.sub IntKind.i64 i 1 < ↑(rowLen [Col.ints IntKind.u64 xs, Col.ints IntKind.i64 ys])) = true,
  decide (0 ≤ i) = true,
  decide (i < ↑(rowLen [Col.ints IntKind.u64 xs, Col.ints IntKind.i64 ys])) = true,
  cmpI BinOp.gtr i 0 = true,
  cmpI BinOp.gtr (ys.getD i.toNat 0) 4294967295 = false,
  decide (0 ≤ i) = true,
  decide (i < ↑(rowLen [Col.ints IntKind.u64 xs, Col.ints IntKind.i64 ys])) = true,
  cmpI BinOp.lss (ys.getD i.toNat 0) 0 = false,
  decide (0 ≤ i) = true,
  decide (i < ↑(rowLen [Col.ints IntKind.u64 xs, Col.ints IntKind.i64 ys])) = true,
  cmpI BinOp.lss i ↑(rowLen [Col.ints IntKind.u64 xs, Col.ints IntKind.i64 ys]) = true]) := by kernel_rfl
theorem valid33L_r3 (xs : List Int) (ys : List Int) (v : Int) (i : Int) : roundX Try.prog X8 100000 (loopAt Try.prog 33 0) [.d true, .d false, .c 4, .d false, .c 1, .d true, .c 11, .d false] [[0, 2, 3]] [] (T33 xs ys v i) = some (Ex.normal, (T33 (xs) (ys) (v) (opI BinOp.add IntKind.i64 i 1)), [cmpI BinOp.lss (xs.getD i.toNat 0) (xs.getD (opI BinOp.sub IntKind.i64 i 1).toNat 0) = false,
  decide (0 ≤ opI BinOp.sub IntKind.i64 i 1) = true,
  decide (opI BinOp.sub IntKind.i64 i 1 < ↑(rowLen [Col.ints IntKind.u64 xs, Col.ints IntKind.i64 ys])) = true,
  decide (0 ≤ i) = true,
  decide (i < ↑(rowLen [Col.ints IntKind.u64 xs, Col.ints IntKind.i64 ys])) = true,
  cmpI BinOp.gtr i 0 = true,
  cmpI BinOp.gtr (ys.getD i.toNat 0) 4294967295 = false,
  decide (0 ≤ i) = true,
  decide (i < ↑(rowLen [Col.ints IntKind.u64 xs, Col.ints IntKind.i64 ys])) = true,
  cmpI BinOp.lss (ys.getD i.toNat 0) 0 = false,
  decide (0 ≤ i) = true,
  decide (i < ↑(rowLen [Col.ints IntKind.u64 xs, Col.ints IntKind.i64 ys])) = true,
  cmpI BinOp.lss i ↑(rowLen [Col.ints IntKind.u64 xs, Col.ints IntKind.i64 ys]) = true]) := by kernel_rfl
theorem valid33L_r4 (xs : List Int) (ys : List Int) (v : Int) (i : Int) : roundX Try.prog X8 100000 (loopAt Try.prog 33 0) [.d true, .d false, .c 4, .d false, .c 1, .d false, .c 12] [[0, 2, 3]] [] (T33 xs ys v i) = some (Ex.normal, (T33 (xs) (ys) (v) (opI BinOp.add IntKind.i64 i 1)), [cmpI BinOp.gtr i 0 = false,
  cmpI BinOp.gtr (ys.getD i.toNat 0) 4294967295 = false,
  decide (0 ≤ i) = true,
  decide (i < ↑(rowLen [Col.ints IntKind.u64 xs, Col.ints IntKind.i64 ys])) = true,
  cmpI BinOp.lss (ys.getD i.toNat 0) 0 = false,
  decide (0 ≤ i) = true,
  decide (i < ↑(rowLen [Col.ints IntKind.u64 xs, Col.ints IntKind.i64 ys])) = true,
  cmpI BinOp.lss i ↑(rowLen [Col.ints IntKind.u64 xs, Col.ints IntKind.i64 ys]) = true]) := by kernel_rfl
theorem valid33L_r5 (xs : List Int) (ys : List Int) (v : Int) (i : Int) : roundX Try.prog X8 100000 (loopAt Try.prog 33 0) [.d false] [[0, 2, 3]] [] (T33 xs ys v i) = some (Ex.exit 0, (T33 (xs) (ys) (v) (i)), [cmpI BinOp.lss i ↑(rowLen [Col.ints IntKind.u64 xs, Col.ints IntKind.i64 ys]) = false]) := by kernel_rfl
theorem valid33L_step (xs : List Int) (ys : List Int) (v : Int) (i : Int) (σ : St) (e : Ex)
  (h0 : ((cmpI BinOp.lss i ↑(rowLen [Col.ints IntKind.u64 xs, Col.ints IntKind.i64 ys])) = true) → ((cmpI BinOp.lss (ys.getD i.toNat 0) 0) = true) → ((decide (0 ≤ i) = true) ∧ (decide (i < ↑(rowLen [Col.ints IntKind.u64 xs, Col.ints IntKind.i64 ys])) = true) ∧ True) ∧ (e = Ex.ret ∧ σ = (T33 (xs) (ys) (8) (i)).abs))
  (h1 : ((cmpI BinOp.lss i ↑(rowLen [Col.ints IntKind.u64 xs, Col.ints IntKind.i64 ys])) = true) → ((cmpI BinOp.lss (ys.getD i.toNat 0) 0) = false) → ((cmpI BinOp.gtr (ys.getD i.toNat 0) 4294967295) = true) → ((decide (0 ≤ i) = true) ∧ (decide (i < ↑(rowLen [Col.ints IntKind.u64 xs, Col.ints IntKind.i64 ys])) = true) ∧ (decide (0 ≤ i) = true) ∧ (decide (i < ↑(rowLen [Col.ints IntKind.u64 xs, Col.ints IntKind.i64 ys])) = true) ∧ True) ∧ (e = Ex.ret ∧ σ = (T33 (xs) (ys) (8) (i)).abs))
  (h2 : ((cmpI BinOp.lss i ↑(rowLen [Col.ints IntKind.u64 xs, Col.ints IntKind.i64 ys])) = true) → ((cmpI BinOp.lss (ys.getD i.toNat 0) 0) = false) → ((cmpI BinOp.gtr (ys.getD i.toNat 0) 4294967295) = false) → ((cmpI BinOp.gtr i 0) = true) → ((cmpI BinOp.lss (xs.getD i.toNat 0) (xs.getD (opI BinOp.sub IntKind.i64 i 1).toNat 0)) = true) → ((decide (0 ≤ opI BinOp.sub IntKind.i64 i 1) = true) ∧ (decide (opI BinOp.sub IntKind.i64 i 1 < ↑(rowLen [Col.ints IntKind.u64 xs, Col.ints IntKind.i64 ys])) = true) ∧ (decide (0 ≤ i) = true) ∧ (decide (i < ↑(rowLen [Col.ints IntKind.u64 xs, Col.ints IntKind.i64 ys])) = true) ∧ (decide (0 ≤ i) = true) ∧ (decide (i < ↑(rowLen [Col.ints IntKind.u64 xs, Col.ints IntKind.i64 ys])) = true) ∧ (decide (0 ≤ i) = true) ∧ (decide (i < ↑(rowLen [Col.ints IntKind.u64 xs, Col.ints IntKind.i64 ys])) = true) ∧ True) ∧ (e = Ex.ret ∧ σ = (T33 (xs) (ys) (8) (i)).abs))
  (h3 : ((cmpI BinOp.lss i ↑(rowLen [Col.ints IntKind.u64 xs, Col.ints IntKind.i64 ys])) = true) → ((cmpI BinOp.lss (ys.getD i.toNat 0) 0) = false) → ((cmpI BinOp.gtr (ys.getD i.toNat 0) 4294967295) = false) → ((cmpI BinOp.gtr i 0) = true) → ((cmpI BinOp.lss (xs.getD i.toNat 0) (xs.getD (opI BinOp.sub IntKind.i64 i 1).toNat 0)) = false) → ((decide (0 ≤ opI BinOp.sub IntKind.i64 i 1) = true) ∧ (decide (opI BinOp.sub IntKind.i64 i 1 < ↑(rowLen [Col.ints IntKind.u64 xs, Col.ints IntKind.i64 ys])) = true) ∧ (decide (0 ≤ i) = true) ∧ (decide (i < ↑(rowLen [Col.ints IntKind.u64 xs, Col.ints IntKind.i64 ys])) = true) ∧ (decide (0 ≤ i) = true) ∧ (decide (i < ↑(rowLen [Col.ints IntKind.u64 xs, Col.ints IntKind.i64 ys])) = true) ∧ (decide (0 ≤ i) = true) ∧ (decide (i < ↑(rowLen [Col.ints IntKind.u64 xs, Col.ints IntKind.i64 ys])) = true) ∧ True) ∧ Runs Try.prog (CallsD Try.prog) (.rounds (loopAt Try.prog 33 0)) (T33 (xs) (ys) (v) (opI BinOp.add IntKind.i64 i 1)).abs e σ)
  (h4 : ((cmpI BinOp.lss i ↑(rowLen [Col.ints IntKind.u64 xs, Col.ints IntKind.i64 ys])) = true) → ((cmpI BinOp.lss (ys.getD i.toNat 0) 0) = false) → ((cmpI BinOp.gtr (ys.getD i.toNat 0) 4294967295) = false) → ((cmpI BinOp.gtr i 0) = false) → ((decide (0 ≤ i) = true) ∧ (decide (i < ↑(rowLen [Col.ints IntKind.u64 xs, Col.ints IntKind.i64 ys])) = true) ∧ (decide (0 ≤ i) = true) ∧ (decide (i < ↑(rowLen [Col.ints IntKind.u64 xs, Col.ints IntKind.i64 ys])) = true) ∧ True) ∧ Runs Try.prog (CallsD Try.prog) (.rounds (loopAt Try.prog 33 0)) (T33 (xs) (ys) (v) (opI BinOp.add IntKind.i64 i 1)).abs e σ)
  (h5 : ((cmpI BinOp.lss i ↑(rowLen [Col.ints IntKind.u64 xs, Col.ints IntKind.i64 ys])) = false) → (True) ∧ (e = Ex.exit 0 ∧ σ = (T33 (xs) (ys) (v) (i)).abs)) :
  Runs Try.prog (CallsD Try.prog) (.rounds (loopAt Try.prog 33 0)) (T33 xs ys v i).abs e σ := by
  cases e0 : (cmpI BinOp.lss i ↑(rowLen [Col.ints IntKind.u64 xs, Col.ints IntKind.i64 ys])) with
  | true =>
    cases e1 : (cmpI BinOp.lss (ys.getD i.toNat 0) 0) with
    | true =>
      exact rounds_end hX8 (valid33L_r0 xs ys v i) ⟨e1, (h0 e0 e1).1.1, (h0 e0 e1).1.2.1, e0, trivial⟩ (by simp) (h0 e0 e1).2
    | false =>
      cases e2 : (cmpI BinOp.gtr (ys.getD i.toNat 0) 4294967295) with
      | true =>
        exact rounds_end hX8 (valid33L_r1 xs ys v i) ⟨e2, (h1 e0 e1 e2).1.1, (h1 e0 e1 e2).1.2.1, e1, (h1 e0 e1 e2).1.2.2.1, (h1 e0 e1 e2).1.2.2.2.1, e0, trivial⟩ (by simp) (h1 e0 e1 e2).2
      | false =>
        cases e3 : (cmpI BinOp.gtr i 0) with
        | true =>
          cases e4 : (cmpI BinOp.lss (xs.getD i.toNat 0) (xs.getD (opI BinOp.sub IntKind.i64 i 1).toNat 0)) with
          | true =>
            exact rounds_end hX8 (valid33L_r2 xs ys v i) ⟨e4, (h2 e0 e1 e2 e3 e4).1.1, (h2 e0 e1 e2 e3 e4).1.2.1, (h2 e0 e1 e2 e3 e4).1.2.2.1, (h2 e0 e1 e2 e3 e4).1.2.2.2.1, e3, e2, (h2 e0 e1 e2 e3 e4).1.2.2.2.2.1, (h2 e0 e1 e2 e3 e4).1.2.2.2.2.2.1, e1, (h2 e0 e1 e2 e3 e4).1.2.2.2.2.2.2.1, (h2 e0 e1 e2 e3 e4).1.2.2.2.2.2.2.2.1, e0, trivial⟩ (by simp) (h2 e0 e1 e2 e3 e4).2
          | false =>
            exact rounds_on hX8 (valid33L_r3 xs ys v i) ⟨e4, (h3 e0 e1 e2 e3 e4).1.1, (h3 e0 e1 e2 e3 e4).1.2.1, (h3 e0 e1 e2 e3 e4).1.2.2.1, (h3 e0 e1 e2 e3 e4).1.2.2.2.1, e3, e2, (h3 e0 e1 e2 e3 e4).1.2.2.2.2.1, (h3 e0 e1 e2 e3 e4).1.2.2.2.2.2.1, e1, (h3 e0 e1 e2 e3 e4).1.2.2.2.2.2.2.1, (h3 e0 e1 e2 e3 e4).1.2.2.2.2.2.2.2.1, e0, trivial⟩ (h3 e0 e1 e2 e3 e4).2
        | false =>
          exact rounds_on hX8 (valid33L_r4 xs ys v i) ⟨e3, e2, (h4 e0 e1 e2 e3).1.1, (h4 e0 e1 e2 e3).1.2.1, e1, (h4 e0 e1 e2 e3).1.2.2.1, (h4 e0 e1 e2 e3).1.2.2.2.1, e0, trivial⟩ (h4 e0 e1 e2 e3).2
  | false =>
    exact rounds_end hX8 (valid33L_r5 xs ys v i) ⟨e0, trivial⟩ (by simp) (h5 e0).2
theorem valid33a_p0 (xs : List Int) (ys : List Int) (j : Int) : fnX Try.prog X8 100000 [.d true] 33 [D.rc [Col.ints IntKind.u64 xs, Col.ints IntKind.i64 ys]] = some (D.v (Value.int IntKind.i64 4), [cmpI BinOp.gtr (↑(rowLen [Col.ints IntKind.u64 xs, Col.ints IntKind.i64 ys])) 60 = true]) := by kernel_rfl
theorem valid33a_p1 (xs : List Int) (ys : List Int) (j : Int) : fnX Try.prog X8 100000 [.d false, PE.l [[0, 2, 3]] [] (T33 xs ys 0 0) (Ex.exit 0) (T33 xs ys 0 j)] 33 [D.rc [Col.ints IntKind.u64 xs, Col.ints IntKind.i64 ys]] = some (D.v (Value.int IntKind.i64 0), [(T33 xs ys 0 0 = T33 xs ys 0 0),
  Runs Try.prog (CallsD Try.prog) (.code (.loop (loopAt Try.prog 33 0))) (T33 xs ys 0 0).abs (Ex.exit 0) (T33 xs ys 0 j).abs,
  cmpI BinOp.gtr (↑(rowLen [Col.ints IntKind.u64 xs, Col.ints IntKind.i64 ys])) 60 = false]) := by kernel_rfl
theorem valid33a_calls (xs : List Int) (ys : List Int) (j : Int) (res : D)
  (h0 : ((cmpI BinOp.gtr (↑(rowLen [Col.ints IntKind.u64 xs, Col.ints IntKind.i64 ys])) 60) = true) → (True) ∧ res = D.v (Value.int IntKind.i64 4))
  (h1 : ((cmpI BinOp.gtr (↑(rowLen [Col.ints IntKind.u64 xs, Col.ints IntKind.i64 ys])) 60) = false) → ((Runs Try.prog (CallsD Try.prog) (.code (.loop (loopAt Try.prog 33 0))) (T33 xs ys 0 0).abs (Ex.exit 0) (T33 xs ys 0 j).abs) ∧ True) ∧ res = D.v (Value.int IntKind.i64 0)) :
  CallsD Try.prog 33 [D.rc [Col.ints IntKind.u64 xs, Col.ints IntKind.i64 ys]] res := by
  cases e0 : (cmpI BinOp.gtr (↑(rowLen [Col.ints IntKind.u64 xs, Col.ints IntKind.i64 ys])) 60) with
  | true =>
    exact of_path hX8 (valid33a_p0 xs ys j) ⟨e0, trivial⟩ (h0 e0).2
  | false =>
    exact of_path hX8 (valid33a_p1 xs ys j) ⟨rfl, (h1 e0).1.1, e0, trivial⟩ (h1 e0).2
theorem valid33b_p0 (xs : List Int) (ys : List Int) (j : Int) : fnX Try.prog X8 100000 [.d true] 33 [D.rc [Col.ints IntKind.u64 xs, Col.ints IntKind.i64 ys]] = some (D.v (Value.int IntKind.i64 4), [cmpI BinOp.gtr (↑(rowLen [Col.ints IntKind.u64 xs, Col.ints IntKind.i64 ys])) 60 = true]) := by kernel_rfl
theorem valid33b_p1 (xs : List Int) (ys : List Int) (j : Int) : fnX Try.prog X8 100000 [.d false, PE.l [[0, 2, 3]] [] (T33 xs ys 0 0) Ex.ret (T33 xs ys 8 j)] 33 [D.rc [Col.ints IntKind.u64 xs, Col.ints IntKind.i64 ys]] = some (D.v (Value.int IntKind.i64 8), [(T33 xs ys 0 0 = T33 xs ys 0 0),
  Runs Try.prog (CallsD Try.prog) (.code (.loop (loopAt Try.prog 33 0))) (T33 xs ys 0 0).abs (Ex.ret) (T33 xs ys 8 j).abs,
  cmpI BinOp.gtr (↑(rowLen [Col.ints IntKind.u64 xs, Col.ints IntKind.i64 ys])) 60 = false]) := by kernel_rfl
theorem valid33b_calls (xs : List Int) (ys : List Int) (j : Int) (res : D)
  (h0 : ((cmpI BinOp.gtr (↑(rowLen [Col.ints IntKind.u64 xs, Col.ints IntKind.i64 ys])) 60) = true) → (True) ∧ res = D.v (Value.int IntKind.i64 4))
  (h1 : ((cmpI BinOp.gtr (↑(rowLen [Col.ints IntKind.u64 xs, Col.ints IntKind.i64 ys])) 60) = false) → ((Runs Try.prog (CallsD Try.prog) (.code (.loop (loopAt Try.prog 33 0))) (T33 xs ys 0 0).abs (Ex.ret) (T33 xs ys 8 j).abs) ∧ True) ∧ res = D.v (Value.int IntKind.i64 8)) :
  CallsD Try.prog 33 [D.rc [Col.ints IntKind.u64 xs, Col.ints IntKind.i64 ys]] res := by
  cases e0 : (cmpI BinOp.gtr (↑(rowLen [Col.ints IntKind.u64 xs, Col.ints IntKind.i64 ys])) 60) with
  | true =>
    exact of_path hX8 (valid33b_p0 xs ys j) ⟨e0, trivial⟩ (h0 e0).2
  | false =>
    exact of_path hX8 (valid33b_p1 xs ys j) ⟨rfl, (h1 e0).1.1, e0, trivial⟩ (h1 e0).2
noncomputable def T34 (xs ys : List Int) (i k n : Int) : Cs := ⟨TT.of [(0, (D.rc [(Col.ints IntKind.u64 xs), (Col.ints IntKind.i64 ys)])), (1, (D.v (Value.int IntKind.i64 i))), (2, (D.v (Value.int IntKind.i64 k))), (6, (D.v (Value.int IntKind.u64 0))), (7, (D.v (Value.int IntKind.u64 n)))], 22, [], [], none, 0⟩
theorem sum34L_r0 (xs : List Int) (ys : List Int) (i : Int) (k : Int) (n : Int) : roundX Try.prog X8 100000 (loopAt Try.prog 34 0) [.d true] [[0, 1, 2, 6, 7]] [] (T34 xs ys i k n) = some (Ex.normal, (T34 (xs) (ys) (opI BinOp.add IntKind.i64 i 1) (k) (opI BinOp.add IntKind.u64 n (IntKind.u64.wrap (ys.getD i.toNat 0)))), [decide (0 ≤ i) = true,
  decide (i < ↑(rowLen [Col.ints IntKind.u64 xs, Col.ints IntKind.i64 ys])) = true,
  cmpI BinOp.leq i k = true]) := by kernel_rfl
theorem sum34L_r1 (xs : List Int) (ys : List Int) (i : Int) (k : Int) (n : Int) : roundX Try.prog X8 100000 (loopAt Try.prog 34 0) [.d false] [[0, 1, 2, 6, 7]] [] (T34 xs ys i k n) = some (Ex.exit 0, (T34 (xs) (ys) (i) (k) (n)), [cmpI BinOp.leq i k = false]) := by kernel_rfl
theorem sum34L_step (xs : List Int) (ys : List Int) (i : Int) (k : Int) (n : Int) (σ : St) (e : Ex)
  (h0 : ((cmpI BinOp.leq i k) = true) → ((decide (0 ≤ i) = true) ∧ (decide (i < ↑(rowLen [Col.ints IntKind.u64 xs, Col.ints IntKind.i64 ys])) = true) ∧ True) ∧ Runs Try.prog (CallsD Try.prog) (.rounds (loopAt Try.prog 34 0)) (T34 (xs) (ys) (opI BinOp.add IntKind.i64 i 1) (k) (opI BinOp.add IntKind.u64 n (IntKind.u64.wrap (ys.getD i.toNat 0)))).abs e σ)
  (h1 : ((cmpI BinOp.leq i k) = false) → (True) ∧ (e = Ex.exit 0 ∧ σ = (T34 (xs) (ys) (i) (k) (n)).abs)) :
  Runs Try.prog (CallsD Try.prog) (.rounds (loopAt Try.prog 34 0)) (T34 xs ys i k n).abs e σ := by
  cases e0 : (cmpI BinOp.leq i k) with
  | true =>
    exact rounds_on hX8 (sum34L_r0 xs ys i k n) ⟨(h0 e0).1.1, (h0 e0).1.2.1, e0, trivial⟩ (h0 e0).2
  | false =>
    exact rounds_end hX8 (sum34L_r1 xs ys i k n) ⟨e0, trivial⟩ (by simp) (h1 e0).2
theorem sum34_p0 (xs : List Int) (ys : List Int) (i : Int) (k : Int) (i' : Int) (n : Int) : fnX Try.prog X8 100000 [PE.l [[0, 1, 2, 6, 7]] [] (T34 xs ys i k 0) (Ex.exit 0) (T34 xs ys i' k n)] 34 [D.rc [Col.ints IntKind.u64 xs, Col.ints IntKind.i64 ys], D.v (Value.int IntKind.i64 i), D.v (Value.int IntKind.i64 k)] = some (D.v (Value.int IntKind.u64 n), [(T34 xs ys i k 0 = T34 xs ys i k 0),
  Runs Try.prog (CallsD Try.prog) (.code (.loop (loopAt Try.prog 34 0))) (T34 xs ys i k 0).abs (Ex.exit 0) (T34 xs ys i' k n).abs]) := by kernel_rfl
theorem sum34_calls (xs : List Int) (ys : List Int) (i : Int) (k : Int) (i' : Int) (n : Int) (res : D)
  (h0 : ((Runs Try.prog (CallsD Try.prog) (.code (.loop (loopAt Try.prog 34 0))) (T34 xs ys i k 0).abs (Ex.exit 0) (T34 xs ys i' k n).abs) ∧ True) ∧ res = D.v (Value.int IntKind.u64 n)) :
  CallsD Try.prog 34 [D.rc [Col.ints IntKind.u64 xs, Col.ints IntKind.i64 ys], D.v (Value.int IntKind.i64 i), D.v (Value.int IntKind.i64 k)] res := by
  exact of_path hX8 (sum34_p0 xs ys i k i' n) ⟨rfl, (h0).1.1, trivial⟩ (h0).2
theorem rl (xs ys : List Int) : rowLen [Col.ints IntKind.u64 xs, Col.ints IntKind.i64 ys] = xs.length := rfl
theorem v33_on (xs ys : List Int) (v : Int) (i : Nat) (hn : xs.length ≤ 60) (hi : i < xs.length) (ok : okAt xs ys i = true) (σ : St) (e : Ex)
    (h : Runs Try.prog (CallsD Try.prog) (.rounds (loopAt Try.prog 33 0)) (T33 xs ys v ((i + 1 : Nat) : Int)).abs e σ) :
    Runs Try.prog (CallsD Try.prog) (.rounds (loopAt Try.prog 33 0)) (T33 xs ys v i).abs e σ := by
  obtain ⟨o1, o2, o3⟩ := okAt_iff.1 ok
  have e1 : opI .add .i64 (i : Int) 1 = ((i + 1 : Nat) : Int) := by rw [opI_add, wrap_i64_of (by omega) (by omega)]; omega
  have e2 : opI .sub .i64 (i : Int) 1 = (i : Int) - 1 := by rw [opI_sub, wrap_i64_of (by omega) (by omega)]
  refine valid33L_step xs ys v i σ e ?_ ?_ ?_ ?_ ?_ ?_
  all_goals
    simp only [rl, lss_t, lss_f, gtr_t, gtr_f, Int.toNat_natCast, e1, e2, decide_eq_true_eq]
    intros
  · omega
  · omega
  · rw [show ((i : Int) - 1).toNat = i - 1 by omega] at *; omega
  · exact ⟨by ((repeat' apply And.intro) <;> first | trivial | omega | (apply decide_eq_true; omega)), h⟩
  · exact ⟨by ((repeat' apply And.intro) <;> first | trivial | omega | (apply decide_eq_true; omega)), h⟩
  · omega
theorem v33_ret (xs ys : List Int) (v : Int) (i : Nat) (hn : xs.length ≤ 60) (hi : i < xs.length) (ok : okAt xs ys i = false) :
    Runs Try.prog (CallsD Try.prog) (.rounds (loopAt Try.prog 33 0)) (T33 xs ys v i).abs .ret (T33 xs ys 8 i).abs := by
  have ok' : ¬ (0 ≤ ys.getD i 0 ∧ ys.getD i 0 ≤ 4294967295 ∧ (i = 0 ∨ xs.getD (i - 1) 0 ≤ xs.getD i 0)) := fun h => by rw [okAt_iff.2 h] at ok; cases ok
  have e2 : opI .sub .i64 (i : Int) 1 = (i : Int) - 1 := by rw [opI_sub, wrap_i64_of (by omega) (by omega)]
  refine valid33L_step xs ys v i _ _ ?_ ?_ ?_ ?_ ?_ ?_
  all_goals
    simp only [rl, lss_t, lss_f, gtr_t, gtr_f, Int.toNat_natCast, e2, decide_eq_true_eq]
    intros
  · exact ⟨by ((repeat' apply And.intro) <;> first | trivial | omega | (apply decide_eq_true; omega)), trivial, trivial⟩
  · exact ⟨by ((repeat' apply And.intro) <;> first | trivial | omega | (apply decide_eq_true; omega)), trivial, trivial⟩
  · exact ⟨by ((repeat' apply And.intro) <;> first | trivial | omega | (apply decide_eq_true; omega)), trivial, trivial⟩
  · rw [show ((i : Int) - 1).toNat = i - 1 by omega] at *; omega
  · omega
  · omega
theorem v33_end (xs ys : List Int) (v : Int) : Runs Try.prog (CallsD Try.prog) (.rounds (loopAt Try.prog 33 0)) (T33 xs ys v xs.length).abs (.exit 0) (T33 xs ys v xs.length).abs := by
  refine valid33L_step xs ys v _ _ _ ?_ ?_ ?_ ?_ ?_ ?_
  all_goals
    simp only [rl, lss_t, lss_f, gtr_t, gtr_f, decide_eq_true_eq]
    intros
  · omega
  · omega
  · omega
  · omega
  · omega
  · exact ⟨trivial, trivial, trivial⟩
theorem v33_all (xs ys : List Int) (v : Int) (hn : xs.length ≤ 60) (ok : okUp xs ys xs.length = true) : ∀ (d i : Nat), i + d = xs.length →
    Runs Try.prog (CallsD Try.prog) (.rounds (loopAt Try.prog 33 0)) (T33 xs ys v i).abs (.exit 0) (T33 xs ys v xs.length).abs
  | 0, i, h => by rw [show i = xs.length by omega]; exact v33_end xs ys v
  | d + 1, i, h => v33_on xs ys v i hn (by omega) (okUp_at ok i (by omega)) _ _ (v33_all xs ys v hn ok d (i + 1) (by omega))
theorem v33_bad (xs ys : List Int) (v : Int) (hn : xs.length ≤ 60) : ∀ (d i : Nat), i + d = xs.length → (∃ j, i ≤ j ∧ j < xs.length ∧ okAt xs ys j = false) →
    ∃ j : Int, Runs Try.prog (CallsD Try.prog) (.rounds (loopAt Try.prog 33 0)) (T33 xs ys v i).abs .ret (T33 xs ys 8 j).abs
  | 0, i, h, ⟨j, h1, h2, h3⟩ => by omega
  | d + 1, i, h, ⟨j, h1, h2, h3⟩ => by
    cases c : okAt xs ys i with
    | true =>
      have hj : i + 1 ≤ j := by
        rcases Nat.lt_or_ge i j with a | a
        · exact a
        · rw [show j = i by omega, c] at h3; cases h3
      obtain ⟨j', hr⟩ := v33_bad xs ys v hn d (i + 1) (by omega) ⟨j, hj, h2, h3⟩
      exact ⟨j', v33_on xs ys v i hn (by omega) c _ _ hr⟩
    | false => exact ⟨i, v33_ret xs ys v i hn (by omega) c⟩
theorem v33_ok (xs ys : List Int) : CallsD Try.prog 33 [crow xs ys] (i64 (cE xs ys)) := by
  unfold cE
  by_cases hn : 60 < xs.length
  · rw [if_pos hn]
    refine valid33a_calls xs ys 0 _ ?_ ?_
    · intro a; exact ⟨trivial, rfl⟩
    · intro a; rw [gtr_f, rl] at a; omega
  · rw [if_neg hn]
    cases c : okUp xs ys xs.length with
    | true =>
      rw [if_pos rfl]
      refine valid33a_calls xs ys xs.length _ ?_ ?_
      · intro a; rw [gtr_t, rl] at a; omega
      · intro a; exact ⟨⟨loop_of_rounds (v33_all xs ys 0 (by omega) c xs.length 0 (by omega)), trivial⟩, rfl⟩
    | false =>
      rw [if_neg (by decide)]
      obtain ⟨j, hj, hb⟩ := okUp_bad c
      obtain ⟨j', hr⟩ := v33_bad xs ys 0 (by omega) xs.length 0 (by omega) ⟨j, by omega, hj, hb⟩
      refine valid33b_calls xs ys j' _ ?_ ?_
      · intro a; rw [gtr_t, rl] at a; omega
      · intro a; exact ⟨⟨loop_of_rounds hr, trivial⟩, rfl⟩
theorem s34_loop (xs ys : List Int) (k : Nat) (hn : xs.length ≤ 60) (hk : k < xs.length) (ok : okUp xs ys xs.length = true) : ∀ (d i : Nat) (n : Int), i + d = k + 1 → 0 ≤ n → n ≤ 4294967295 * i →
    Runs Try.prog (CallsD Try.prog) (.rounds (loopAt Try.prog 34 0)) (T34 xs ys i k n).abs (.exit 0) (T34 xs ys ((k + 1 : Nat) : Int) k (n + sumN ys i d)).abs
  | 0, i, n, h, _, _ => by
    rw [show i = k + 1 by omega]
    refine sum34L_step xs ys _ _ _ _ _ ?_ ?_
    · intro a; rw [leq_t] at a; omega
    · intro a; refine ⟨trivial, rfl, ?_⟩; simp only [sumN, Int.add_zero]
  | d + 1, i, n, h, n0, n1 => by
    obtain ⟨o1, o2, _⟩ := okAt_iff.1 (okUp_at ok i (by omega))
    have ih := s34_loop xs ys k hn hk ok d (i + 1) (n + ys.getD i 0) (by omega) (by omega) (by omega)
    refine sum34L_step xs ys _ _ _ _ _ ?_ ?_
    · intro a
      refine ⟨⟨?_, ?_, trivial⟩, ?_⟩
      · rw [decide_eq_true_eq]; omega
      · rw [decide_eq_true_eq, rl]; omega
      · have e1 : opI .add .i64 (i : Int) 1 = ((i + 1 : Nat) : Int) := by rw [opI_add, wrap_i64_of (by omega) (by omega)]; omega
        have e2 : opI .add .u64 n (IntKind.wrap .u64 (ys.getD i 0)) = n + ys.getD i 0 := by rw [opI_add, wrap_u64, wrap_u64]; omega
        rw [Int.toNat_natCast, e1, e2, sumN, ← Int.add_assoc]
        exact ih
    · intro a; rw [leq_f] at a; omega
theorem s34_ok (xs ys : List Int) (i k : Nat) (hn : xs.length ≤ 60) (hk : k < xs.length) (hi : i ≤ k) (ok : okUp xs ys xs.length = true) : CallsD Try.prog 34 [crow xs ys, i64 i, i64 k] (u64 (sumN ys i (k + 1 - i))) := by
  refine sum34_calls xs ys i k ((k + 1 : Nat) : Int) (0 + sumN ys i (k + 1 - i)) _ ⟨⟨loop_of_rounds (s34_loop xs ys k hn hk ok (k + 1 - i) i 0 (by omega) (by omega) (by omega)), trivial⟩, ?_⟩
  rw [Int.zero_add]
def validC : List D → Option (D × List Prop)
  | [.rc [.ints .u64 xs, .ints .i64 ys]] => some (i64 (cE xs ys), [])
  | _ => none
def sumC : List D → Option (D × List Prop)
  | [.rc [.ints .u64 xs, .ints .i64 ys], .v (.int .i64 i), .v (.int .i64 k)] => some (u64 (sumN ys i.toNat (k.toNat + 1 - i.toNat)), [cE xs ys = 0, 0 ≤ i, i ≤ k, k < xs.length])
  | _ => none
theorem cE_ok {xs ys : List Int} (h : cE xs ys = 0) : xs.length ≤ 60 ∧ okUp xs ys xs.length = true := by
  unfold cE at h
  split at h
  · cases h
  · split at h
    next a b => exact ⟨by omega, b⟩
    · cases h
theorem validC_ok (args res l) (h : validC args = some (res, l)) (hl : AllP l) : CallsD Try.prog 33 args res := by
  unfold validC at h; split at h
  · simp only [Option.some.injEq, Prod.mk.injEq] at h
    obtain ⟨rfl, rfl⟩ := h
    exact v33_ok _ _
  · cases h
theorem sumC_ok (args res l) (h : sumC args = some (res, l)) (hl : AllP l) : CallsD Try.prog 34 args res := by
  unfold sumC at h; split at h
  next xs ys i k =>
    simp only [Option.some.injEq, Prod.mk.injEq] at h
    obtain ⟨rfl, rfl⟩ := h; obtain ⟨h0, h1, h2, h3, _⟩ := hl
    obtain ⟨i, rfl⟩ := Int.eq_ofNat_of_zero_le h1
    obtain ⟨k, rfl⟩ := Int.eq_ofNat_of_zero_le (show 0 ≤ k by omega)
    obtain ⟨a, b⟩ := cE_ok h0
    exact s34_ok xs ys i k a (by omega) (by omega) b
  · cases h
def X9 : Contracts := addCon 33 (.call validC) (addCon 34 (.call sumC) X8)
theorem hX9 : ConOK Try.prog X9 := addCall_ok validC_ok (addCall_ok sumC_ok hX8)
end MeterS
