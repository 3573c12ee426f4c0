/- The functions of the folder meter and what they reach: what they compute. No condition. -/
import Derived.Test.YtkbdboclckpmgaaMetN
set_option linter.unusedSectionVars false
set_option linter.unusedVariables false
set_option linter.unusedSimpArgs false
namespace MeterS
open Go Go.Dam Go.Proofs
set_option maxRecDepth 1000000
set_option linter.unusedVariables false
set_option linter.unusedSectionVars false
set_option linter.unusedSimpArgs false
/-- How long it is between two charges. -/
def gapN (xs : List Int) (i k : Nat) : Int := opI .sub .u64 (xs.getD k 0) (xs.getD i 0)
theorem gapN_bounds (xs : List Int) (i k : Nat) : 0 ≤ gapN xs i k ∧ gapN xs i k < 18446744073709551616 := by
  unfold gapN; rw [opI_sub, wrap_u64]; omega
/-- Are the charges from one to another one over a limit? -/
def ovB (b r p : Int) (xs ys : List Int) (i k : Nat) : Bool := decide (wN b r p (gapN xs i k) < 18446744073709551616) && decide (wN b r p (gapN xs i k) < sumN ys i (k + 1 - i))
variable [Glo]
theorem over48_p0 (b : Int) (r : Int) (p : Int) (xs : List Int) (ys : List Int) (i : Int) (k : Int) : fnX Try.prog X9 100000 [.d true, .c 5] 48 [D.agg [D.v (Value.int IntKind.i64 b), D.v (Value.int IntKind.i64 r), D.v (Value.int IntKind.i64 p)],
  D.rc [Col.ints IntKind.u64 xs, Col.ints IntKind.i64 ys], D.v (Value.int IntKind.i64 i), D.v (Value.int IntKind.i64 k)] = some (D.v
  (Value.bool
    (cmpI BinOp.gtr (sumN ys i.toNat (k.toNat + 1 - i.toNat))
      (wN b r p (opI BinOp.sub IntKind.u64 (xs.getD k.toNat 0) (xs.getD i.toNat 0)) % 18446744073709551616))), [cE xs ys = 0,
  0 ≤ i,
  i ≤ k,
  k < ↑xs.length,
  cmpI BinOp.eql (wN b r p (opI BinOp.sub IntKind.u64 (xs.getD k.toNat 0) (xs.getD i.toNat 0)) / 18446744073709551616) 0 =
  true,
  limE b r p = 0,
  0 ≤ opI BinOp.sub IntKind.u64 (xs.getD k.toNat 0) (xs.getD i.toNat 0),
  opI BinOp.sub IntKind.u64 (xs.getD k.toNat 0) (xs.getD i.toNat 0) < 18446744073709551616,
  decide (0 ≤ i) = true,
  decide (i < ↑(rowLen [Col.ints IntKind.u64 xs, Col.ints IntKind.i64 ys])) = true,
  decide (0 ≤ k) = true,
  decide (k < ↑(rowLen [Col.ints IntKind.u64 xs, Col.ints IntKind.i64 ys])) = true]) := by kernel_rfl
theorem over48_p1 (b : Int) (r : Int) (p : Int) (xs : List Int) (ys : List Int) (i : Int) (k : Int) : fnX Try.prog X9 100000 [.d false, .c 5] 48 [D.agg [D.v (Value.int IntKind.i64 b), D.v (Value.int IntKind.i64 r), D.v (Value.int IntKind.i64 p)],
  D.rc [Col.ints IntKind.u64 xs, Col.ints IntKind.i64 ys], D.v (Value.int IntKind.i64 i), D.v (Value.int IntKind.i64 k)] = some (D.v (Value.bool false), [cmpI BinOp.eql (wN b r p (opI BinOp.sub IntKind.u64 (xs.getD k.toNat 0) (xs.getD i.toNat 0)) / 18446744073709551616) 0 =
  false,
  limE b r p = 0,
  0 ≤ opI BinOp.sub IntKind.u64 (xs.getD k.toNat 0) (xs.getD i.toNat 0),
  opI BinOp.sub IntKind.u64 (xs.getD k.toNat 0) (xs.getD i.toNat 0) < 18446744073709551616,
  decide (0 ≤ i) = true,
  decide (i < ↑(rowLen [Col.ints IntKind.u64 xs, Col.ints IntKind.i64 ys])) = true,
  decide (0 ≤ k) = true,
  decide (k < ↑(rowLen [Col.ints IntKind.u64 xs, Col.ints IntKind.i64 ys])) = true]) := by kernel_rfl
theorem over48_calls (b : Int) (r : Int) (p : Int) (xs : List Int) (ys : List Int) (i : Int) (k : Int) (res : D)
  (h0 : ((cmpI BinOp.eql (wN b r p (opI BinOp.sub IntKind.u64 (xs.getD k.toNat 0) (xs.getD i.toNat 0)) / 18446744073709551616) 0) = true) → ((cE xs ys = 0) ∧ (0 ≤ i) ∧ (i ≤ k) ∧ (k < ↑xs.length) ∧ (limE b r p = 0) ∧ (0 ≤ opI BinOp.sub IntKind.u64 (xs.getD k.toNat 0) (xs.getD i.toNat 0)) ∧ (opI BinOp.sub IntKind.u64 (xs.getD k.toNat 0) (xs.getD i.toNat 0) < 18446744073709551616) ∧ (decide (0 ≤ i) = true) ∧ (decide (i < ↑(rowLen [Col.ints IntKind.u64 xs, Col.ints IntKind.i64 ys])) = true) ∧ (decide (0 ≤ k) = true) ∧ (decide (k < ↑(rowLen [Col.ints IntKind.u64 xs, Col.ints IntKind.i64 ys])) = true) ∧ True) ∧ res = D.v
  (Value.bool
    (cmpI BinOp.gtr (sumN ys i.toNat (k.toNat + 1 - i.toNat))
      (wN b r p (opI BinOp.sub IntKind.u64 (xs.getD k.toNat 0) (xs.getD i.toNat 0)) % 18446744073709551616))))
  (h1 : ((cmpI BinOp.eql (wN b r p (opI BinOp.sub IntKind.u64 (xs.getD k.toNat 0) (xs.getD i.toNat 0)) / 18446744073709551616) 0) = false) → ((limE b r p = 0) ∧ (0 ≤ opI BinOp.sub IntKind.u64 (xs.getD k.toNat 0) (xs.getD i.toNat 0)) ∧ (opI BinOp.sub IntKind.u64 (xs.getD k.toNat 0) (xs.getD i.toNat 0) < 18446744073709551616) ∧ (decide (0 ≤ i) = true) ∧ (decide (i < ↑(rowLen [Col.ints IntKind.u64 xs, Col.ints IntKind.i64 ys])) = true) ∧ (decide (0 ≤ k) = true) ∧ (decide (k < ↑(rowLen [Col.ints IntKind.u64 xs, Col.ints IntKind.i64 ys])) = true) ∧ True) ∧ res = D.v (Value.bool false)) :
  CallsD Try.prog 48 [D.agg [D.v (Value.int IntKind.i64 b), D.v (Value.int IntKind.i64 r), D.v (Value.int IntKind.i64 p)],
  D.rc [Col.ints IntKind.u64 xs, Col.ints IntKind.i64 ys], D.v (Value.int IntKind.i64 i), D.v (Value.int IntKind.i64 k)] res := by
  cases e0 : (cmpI BinOp.eql (wN b r p (opI BinOp.sub IntKind.u64 (xs.getD k.toNat 0) (xs.getD i.toNat 0)) / 18446744073709551616) 0) with
  | true =>
    exact of_path hX9 (over48_p0 b r p xs ys i k) ⟨(h0 e0).1.1, (h0 e0).1.2.1, (h0 e0).1.2.2.1, (h0 e0).1.2.2.2.1, e0, (h0 e0).1.2.2.2.2.1, (h0 e0).1.2.2.2.2.2.1, (h0 e0).1.2.2.2.2.2.2.1, (h0 e0).1.2.2.2.2.2.2.2.1, (h0 e0).1.2.2.2.2.2.2.2.2.1, (h0 e0).1.2.2.2.2.2.2.2.2.2.1, (h0 e0).1.2.2.2.2.2.2.2.2.2.2.1, trivial⟩ (h0 e0).2
  | false =>
    exact of_path hX9 (over48_p1 b r p xs ys i k) ⟨e0, (h1 e0).1.1, (h1 e0).1.2.1, (h1 e0).1.2.2.1, (h1 e0).1.2.2.2.1, (h1 e0).1.2.2.2.2.1, (h1 e0).1.2.2.2.2.2.1, (h1 e0).1.2.2.2.2.2.2.1, trivial⟩ (h1 e0).2
theorem over48_ok (b r p : Int) (xs ys : List Int) (i k : Nat) (hl : limE b r p = 0) (hc : cE xs ys = 0) (hi : i ≤ k) (hk : k < xs.length) :
    CallsD Try.prog 48 [.agg [i64 b, i64 r, i64 p], crow xs ys, i64 i, i64 k] (.v (.bool (ovB b r p xs ys i k))) := by
  obtain ⟨g0, g1⟩ := gapN_bounds xs i k
  have hw := wN_bounds hl g0 g1
  have hb := limE_ok hl
  refine over48_calls b r p xs ys i k _ ?_ ?_
  all_goals
    simp only [Int.toNat_natCast, show opI .sub .u64 (xs.getD k 0) (xs.getD i 0) = gapN xs i k from rfl]
    intro a
  · rw [eql_t] at a
    refine ⟨by rw [rl]; ((repeat' apply And.intro) <;> first | trivial | omega | (apply decide_eq_true; omega)), ?_⟩
    unfold ovB
    rw [Int.emod_eq_of_lt (by omega) (by omega), decide_eq_true (show wN b r p (gapN xs i k) < 18446744073709551616 by omega), Bool.true_and]
    rfl
  · rw [eql_f] at a
    refine ⟨by rw [rl]; ((repeat' apply And.intro) <;> first | trivial | omega | (apply decide_eq_true; omega)), ?_⟩
    unfold ovB
    rw [decide_eq_false (show ¬ wN b r p (gapN xs i k) < 18446744073709551616 by omega), Bool.false_and]
def overC : List D → Option (D × List Prop)
  | [.agg [.v (.int .i64 b), .v (.int .i64 r), .v (.int .i64 p)], .rc [.ints .u64 xs, .ints .i64 ys], .v (.int .i64 i), .v (.int .i64 k)] => some (.v (.bool (ovB b r p xs ys i.toNat k.toNat)), [limE b r p = 0, cE xs ys = 0, 0 ≤ i, i ≤ k, k < xs.length])
  | _ => none
theorem overC_ok (args res l) (h : overC args = some (res, l)) (hl : AllP l) : CallsD Try.prog 48 args res := by
  unfold overC at h; split at h
  next b r p xs ys i k =>
    simp only [Option.some.injEq, Prod.mk.injEq] at h
    obtain ⟨rfl, rfl⟩ := h; obtain ⟨h0, h1, h2, h3, h4, _⟩ := hl
    obtain ⟨i, rfl⟩ := Int.eq_ofNat_of_zero_le h2
    obtain ⟨k, rfl⟩ := Int.eq_ofNat_of_zero_le (show 0 ≤ k by omega)
    exact over48_ok _ _ _ _ _ i k h0 h1 (by omega) (by omega)
  · cases h
def X10 : Contracts := addCon 48 (.call overC) X9
theorem hX10 : ConOK Try.prog X10 := addCall_ok overC_ok hX9
end MeterS

namespace MeterS
open Go Go.Dam Go.Proofs
set_option maxRecDepth 1000000
set_option linter.unusedVariables false
set_option linter.unusedSectionVars false
set_option linter.unusedSimpArgs false
/-- The greatest place below a bound at which something holds. -/
def inn (f : Nat → Bool) : Nat → Option Nat
  | 0 => none
  | m + 1 => bif f m then some m else inn f m
def ovFrom (F : Nat → Nat → Bool) : Nat → Nat → Option (Nat × Nat)
  | 0, _ => none
  | d + 1, k => match inn (fun i => F i k) (k + 1) with
    | some i => some (i, k)
    | none => ovFrom F d (k + 1)
def ovR (b r p : Int) (xs ys : List Int) : Option (Nat × Nat) := ovFrom (ovB b r p xs ys) xs.length 0
def ovE (b r p : Int) (xs ys : List Int) : Int := if limE b r p = 0 then cE xs ys else limE b r p
def ovV (b r p : Int) (xs ys : List Int) : Option (Nat × Nat) := if ovE b r p xs ys = 0 then ovR b r p xs ys else none
variable [Glo]
def ovD (e : Int) (o : Option (Nat × Nat)) : D := match o with
  | none => .tup [i64 0, i64 0, .v (.bool false), i64 e]
  | some (i, k) => .tup [i64 i, i64 k, .v (.bool true), i64 e]

noncomputable def T27i (b r p : Int) (xs ys : List Int) (o1 o2 : Int) (o3 : Bool) (o4 k i : Int) : Cs := ⟨TT.of [(1, (D.rc [(Col.ints IntKind.u64 xs), (Col.ints IntKind.i64 ys)])), (2, (D.ptr 64 0)), (4, (D.v (Value.int IntKind.i64 o1))), (5, (D.v (Value.int IntKind.i64 o2))), (6, (D.v (Value.bool o3))), (7, (D.v (Value.int IntKind.i64 o4))), (8, (D.v (Value.int IntKind.i64 k))), (9, (D.v (Value.int IntKind.i64 i)))], 38, [], [(64, (BX.cells [(D.v (Value.int IntKind.i64 b)), (D.v (Value.int IntKind.i64 r)), (D.v (Value.int IntKind.i64 p))] false))], none, 0⟩
theorem over27I_r0 (b : Int) (r : Int) (p : Int) (xs : List Int) (ys : List Int) (o1 : Int) (o2 : Int) (o3 : Bool) (o4 : Int) (k : Int) (i : Int) : roundX Try.prog X10 100000 (loopAt Try.prog 27 1) [.d true, .d true] [[1, 2, 4, 5, 6, 7, 8, 9]] [(64, 64)] (T27i b r p xs ys o1 o2 o3 o4 k i) = some (Ex.ret, (T27i (b) (r) (p) (xs) (ys) (i) (k) (true) (0) (k) (i)), [ovB b r p xs ys i.toNat k.toNat = true,
  limE b r p = 0,
  cE xs ys = 0,
  0 ≤ i,
  i ≤ k,
  k < ↑xs.length,
  cmpI BinOp.geq i 0 = true]) := by kernel_rfl
theorem over27I_r1 (b : Int) (r : Int) (p : Int) (xs : List Int) (ys : List Int) (o1 : Int) (o2 : Int) (o3 : Bool) (o4 : Int) (k : Int) (i : Int) : roundX Try.prog X10 100000 (loopAt Try.prog 27 1) [.d true, .d false] [[1, 2, 4, 5, 6, 7, 8, 9]] [(64, 64)] (T27i b r p xs ys o1 o2 o3 o4 k i) = some (Ex.normal, (T27i (b) (r) (p) (xs) (ys) (o1) (o2) (o3) (o4) (k) (opI BinOp.sub IntKind.i64 i 1)), [ovB b r p xs ys i.toNat k.toNat = false,
  limE b r p = 0,
  cE xs ys = 0,
  0 ≤ i,
  i ≤ k,
  k < ↑xs.length,
  cmpI BinOp.geq i 0 = true]) := by kernel_rfl
theorem over27I_r2 (b : Int) (r : Int) (p : Int) (xs : List Int) (ys : List Int) (o1 : Int) (o2 : Int) (o3 : Bool) (o4 : Int) (k : Int) (i : Int) : roundX Try.prog X10 100000 (loopAt Try.prog 27 1) [.d false] [[1, 2, 4, 5, 6, 7, 8, 9]] [(64, 64)] (T27i b r p xs ys o1 o2 o3 o4 k i) = some (Ex.exit 2, (T27i (b) (r) (p) (xs) (ys) (o1) (o2) (o3) (o4) (k) (i)), [cmpI BinOp.geq i 0 = false]) := by kernel_rfl
theorem over27I_step (b : Int) (r : Int) (p : Int) (xs : List Int) (ys : List Int) (o1 : Int) (o2 : Int) (o3 : Bool) (o4 : Int) (k : Int) (i : Int) (σ : St) (e : Ex)
  (h0 : ((cmpI BinOp.geq i 0) = true) → ((ovB b r p xs ys i.toNat k.toNat) = true) → ((limE b r p = 0) ∧ (cE xs ys = 0) ∧ (0 ≤ i) ∧ (i ≤ k) ∧ (k < ↑xs.length) ∧ True) ∧ (e = Ex.ret ∧ σ = (T27i (b) (r) (p) (xs) (ys) (i) (k) (true) (0) (k) (i)).abs))
  (h1 : ((cmpI BinOp.geq i 0) = true) → ((ovB b r p xs ys i.toNat k.toNat) = false) → ((limE b r p = 0) ∧ (cE xs ys = 0) ∧ (0 ≤ i) ∧ (i ≤ k) ∧ (k < ↑xs.length) ∧ True) ∧ Runs Try.prog (CallsD Try.prog) (.rounds (loopAt Try.prog 27 1)) (T27i (b) (r) (p) (xs) (ys) (o1) (o2) (o3) (o4) (k) (opI BinOp.sub IntKind.i64 i 1)).abs e σ)
  (h2 : ((cmpI BinOp.geq i 0) = false) → (True) ∧ (e = Ex.exit 2 ∧ σ = (T27i (b) (r) (p) (xs) (ys) (o1) (o2) (o3) (o4) (k) (i)).abs)) :
  Runs Try.prog (CallsD Try.prog) (.rounds (loopAt Try.prog 27 1)) (T27i b r p xs ys o1 o2 o3 o4 k i).abs e σ := by
  cases e0 : (cmpI BinOp.geq i 0) with
  | true =>
    cases e1 : (ovB b r p xs ys i.toNat k.toNat) with
    | true =>
      exact rounds_end hX10 (over27I_r0 b r p xs ys o1 o2 o3 o4 k i) ⟨e1, (h0 e0 e1).1.1, (h0 e0 e1).1.2.1, (h0 e0 e1).1.2.2.1, (h0 e0 e1).1.2.2.2.1, (h0 e0 e1).1.2.2.2.2.1, e0, trivial⟩ (by simp) (h0 e0 e1).2
    | false =>
      exact rounds_on hX10 (over27I_r1 b r p xs ys o1 o2 o3 o4 k i) ⟨e1, (h1 e0 e1).1.1, (h1 e0 e1).1.2.1, (h1 e0 e1).1.2.2.1, (h1 e0 e1).1.2.2.2.1, (h1 e0 e1).1.2.2.2.2.1, e0, trivial⟩ (h1 e0 e1).2
  | false =>
    exact rounds_end hX10 (over27I_r2 b r p xs ys o1 o2 o3 o4 k i) ⟨e0, trivial⟩ (by simp) (h2 e0).2
noncomputable def T27 (b r p : Int) (xs ys : List Int) (o1 o2 : Int) (o3 : Bool) (o4 k : Int) : Cs := ⟨TT.of [(1, (D.rc [(Col.ints IntKind.u64 xs), (Col.ints IntKind.i64 ys)])), (2, (D.ptr 64 0)), (4, (D.v (Value.int IntKind.i64 o1))), (5, (D.v (Value.int IntKind.i64 o2))), (6, (D.v (Value.bool o3))), (7, (D.v (Value.int IntKind.i64 o4))), (8, (D.v (Value.int IntKind.i64 k)))], 38, [], [(64, (BX.cells [(D.v (Value.int IntKind.i64 b)), (D.v (Value.int IntKind.i64 r)), (D.v (Value.int IntKind.i64 p))] false))], none, 0⟩
theorem over27L_r0 (b : Int) (r : Int) (p : Int) (xs : List Int) (ys : List Int) (o1 : Int) (o2 : Int) (o3 : Bool) (o4 : Int) (k : Int) (i : Int) : roundX Try.prog X10 100000 (loopAt Try.prog 27 0) [.d true, PE.l [[1, 2, 4, 5, 6, 7, 8, 9]] [(64, 64)] (T27i b r p xs ys o1 o2 o3 o4 k k) (Ex.exit 2)
  (T27i b r p xs ys o1 o2 o3 o4 k i)] [[1, 2, 4, 5, 6, 7, 8]] [(64, 64)] (T27 b r p xs ys o1 o2 o3 o4 k) = some (Ex.normal, (T27 (b) (r) (p) (xs) (ys) (o1) (o2) (o3) (o4) (opI BinOp.add IntKind.i64 k 1)), [(T27i b r p xs ys o1 o2 o3 o4 k k = T27i b r p xs ys o1 o2 o3 o4 k k),
  Runs Try.prog (CallsD Try.prog) (.code (.loop (loopAt Try.prog 27 1))) (T27i b r p xs ys o1 o2 o3 o4 k k).abs (Ex.exit 2) (T27i b r p xs ys o1 o2 o3 o4 k i).abs,
  cmpI BinOp.lss k ↑(rowLen [Col.ints IntKind.u64 xs, Col.ints IntKind.i64 ys]) = true]) := by kernel_rfl
theorem over27L_r1 (b : Int) (r : Int) (p : Int) (xs : List Int) (ys : List Int) (o1 : Int) (o2 : Int) (o3 : Bool) (o4 : Int) (k : Int) (i : Int) : roundX Try.prog X10 100000 (loopAt Try.prog 27 0) [.d false] [[1, 2, 4, 5, 6, 7, 8]] [(64, 64)] (T27 b r p xs ys o1 o2 o3 o4 k) = some (Ex.exit 0, (T27 (b) (r) (p) (xs) (ys) (o1) (o2) (o3) (o4) (k)), [cmpI BinOp.lss k ↑(rowLen [Col.ints IntKind.u64 xs, Col.ints IntKind.i64 ys]) = false]) := by kernel_rfl
theorem over27L_step (b : Int) (r : Int) (p : Int) (xs : List Int) (ys : List Int) (o1 : Int) (o2 : Int) (o3 : Bool) (o4 : Int) (k : Int) (i : Int) (σ : St) (e : Ex)
  (h0 : ((cmpI BinOp.lss k ↑(rowLen [Col.ints IntKind.u64 xs, Col.ints IntKind.i64 ys])) = true) → ((Runs Try.prog (CallsD Try.prog) (.code (.loop (loopAt Try.prog 27 1))) (T27i b r p xs ys o1 o2 o3 o4 k k).abs (Ex.exit 2) (T27i b r p xs ys o1 o2 o3 o4 k i).abs) ∧ True) ∧ Runs Try.prog (CallsD Try.prog) (.rounds (loopAt Try.prog 27 0)) (T27 (b) (r) (p) (xs) (ys) (o1) (o2) (o3) (o4) (opI BinOp.add IntKind.i64 k 1)).abs e σ)
  (h1 : ((cmpI BinOp.lss k ↑(rowLen [Col.ints IntKind.u64 xs, Col.ints IntKind.i64 ys])) = false) → (True) ∧ (e = Ex.exit 0 ∧ σ = (T27 (b) (r) (p) (xs) (ys) (o1) (o2) (o3) (o4) (k)).abs)) :
  Runs Try.prog (CallsD Try.prog) (.rounds (loopAt Try.prog 27 0)) (T27 b r p xs ys o1 o2 o3 o4 k).abs e σ := by
  cases e0 : (cmpI BinOp.lss k ↑(rowLen [Col.ints IntKind.u64 xs, Col.ints IntKind.i64 ys])) with
  | true =>
    exact rounds_on hX10 (over27L_r0 b r p xs ys o1 o2 o3 o4 k i) ⟨rfl, (h0 e0).1.1, e0, trivial⟩ (h0 e0).2
  | false =>
    exact rounds_end hX10 (over27L_r1 b r p xs ys o1 o2 o3 o4 k i) ⟨e0, trivial⟩ (by simp) (h1 e0).2
theorem over27M_r0 (b : Int) (r : Int) (p : Int) (xs : List Int) (ys : List Int) (o1 : Int) (o2 : Int) (o3 : Bool) (o4 : Int) (k : Int) (i : Int) : roundX Try.prog X10 100000 (loopAt Try.prog 27 0) [.d true, PE.l [[1, 2, 4, 5, 6, 7, 8, 9]] [(64, 64)] (T27i b r p xs ys o1 o2 o3 o4 k k) Ex.ret
  (T27i b r p xs ys i k true 0 k i)] [[1, 2, 4, 5, 6, 7, 8]] [(64, 64)] (T27 b r p xs ys o1 o2 o3 o4 k) = some (Ex.ret, (T27 (b) (r) (p) (xs) (ys) (i) (k) (true) (0) (k)), [(T27i b r p xs ys o1 o2 o3 o4 k k = T27i b r p xs ys o1 o2 o3 o4 k k),
  Runs Try.prog (CallsD Try.prog) (.code (.loop (loopAt Try.prog 27 1))) (T27i b r p xs ys o1 o2 o3 o4 k k).abs (Ex.ret) (T27i b r p xs ys i k true 0 k i).abs,
  cmpI BinOp.lss k ↑(rowLen [Col.ints IntKind.u64 xs, Col.ints IntKind.i64 ys]) = true]) := by kernel_rfl
theorem over27M_r1 (b : Int) (r : Int) (p : Int) (xs : List Int) (ys : List Int) (o1 : Int) (o2 : Int) (o3 : Bool) (o4 : Int) (k : Int) (i : Int) : roundX Try.prog X10 100000 (loopAt Try.prog 27 0) [.d false] [[1, 2, 4, 5, 6, 7, 8]] [(64, 64)] (T27 b r p xs ys o1 o2 o3 o4 k) = some (Ex.exit 0, (T27 (b) (r) (p) (xs) (ys) (o1) (o2) (o3) (o4) (k)), [cmpI BinOp.lss k ↑(rowLen [Col.ints IntKind.u64 xs, Col.ints IntKind.i64 ys]) = false]) := by kernel_rfl
theorem over27M_step (b : Int) (r : Int) (p : Int) (xs : List Int) (ys : List Int) (o1 : Int) (o2 : Int) (o3 : Bool) (o4 : Int) (k : Int) (i : Int) (σ : St) (e : Ex)
  (h0 : ((cmpI BinOp.lss k ↑(rowLen [Col.ints IntKind.u64 xs, Col.ints IntKind.i64 ys])) = true) → ((Runs Try.prog (CallsD Try.prog) (.code (.loop (loopAt Try.prog 27 1))) (T27i b r p xs ys o1 o2 o3 o4 k k).abs (Ex.ret) (T27i b r p xs ys i k true 0 k i).abs) ∧ True) ∧ (e = Ex.ret ∧ σ = (T27 (b) (r) (p) (xs) (ys) (i) (k) (true) (0) (k)).abs))
  (h1 : ((cmpI BinOp.lss k ↑(rowLen [Col.ints IntKind.u64 xs, Col.ints IntKind.i64 ys])) = false) → (True) ∧ (e = Ex.exit 0 ∧ σ = (T27 (b) (r) (p) (xs) (ys) (o1) (o2) (o3) (o4) (k)).abs)) :
  Runs Try.prog (CallsD Try.prog) (.rounds (loopAt Try.prog 27 0)) (T27 b r p xs ys o1 o2 o3 o4 k).abs e σ := by
  cases e0 : (cmpI BinOp.lss k ↑(rowLen [Col.ints IntKind.u64 xs, Col.ints IntKind.i64 ys])) with
  | true =>
    exact rounds_end hX10 (over27M_r0 b r p xs ys o1 o2 o3 o4 k i) ⟨rfl, (h0 e0).1.1, e0, trivial⟩ (by simp) (h0 e0).2
  | false =>
    exact rounds_end hX10 (over27M_r1 b r p xs ys o1 o2 o3 o4 k i) ⟨e0, trivial⟩ (by simp) (h1 e0).2
theorem over27x_p0 (b : Int) (r : Int) (p : Int) (xs : List Int) (ys : List Int) (k : Int) : fnX Try.prog X10 100000 [.d true] 27 [D.agg [D.v (Value.int IntKind.i64 b), D.v (Value.int IntKind.i64 r), D.v (Value.int IntKind.i64 p)],
  D.rc [Col.ints IntKind.u64 xs, Col.ints IntKind.i64 ys]] = some (D.tup
  [D.v (Value.int IntKind.i64 0), D.v (Value.int IntKind.i64 0), D.v (Value.bool false),
    D.v (Value.int IntKind.i64 (limE b r p))], [cmpI BinOp.neq (limE b r p) 0 = true]) := by kernel_rfl
theorem over27x_p1 (b : Int) (r : Int) (p : Int) (xs : List Int) (ys : List Int) (k : Int) : fnX Try.prog X10 100000 [.d false, .d true] 27 [D.agg [D.v (Value.int IntKind.i64 b), D.v (Value.int IntKind.i64 r), D.v (Value.int IntKind.i64 p)],
  D.rc [Col.ints IntKind.u64 xs, Col.ints IntKind.i64 ys]] = some (D.tup
  [D.v (Value.int IntKind.i64 0), D.v (Value.int IntKind.i64 0), D.v (Value.bool false),
    D.v (Value.int IntKind.i64 (cE xs ys))], [cmpI BinOp.neq (cE xs ys) 0 = true,
  cmpI BinOp.neq (limE b r p) 0 = false]) := by kernel_rfl
theorem over27x_p2 (b : Int) (r : Int) (p : Int) (xs : List Int) (ys : List Int) (k : Int) : fnX Try.prog X10 100000 [.d false, .d false, PE.l [[1, 2, 4, 5, 6, 7, 8]] [(64, 64)] (T27 b r p xs ys 0 0 false 0 0) (Ex.exit 0)
  (T27 b r p xs ys 0 0 false 0 k)] 27 [D.agg [D.v (Value.int IntKind.i64 b), D.v (Value.int IntKind.i64 r), D.v (Value.int IntKind.i64 p)],
  D.rc [Col.ints IntKind.u64 xs, Col.ints IntKind.i64 ys]] = some (D.tup
  [D.v (Value.int IntKind.i64 0), D.v (Value.int IntKind.i64 0), D.v (Value.bool false), D.v (Value.int IntKind.i64 0)], [(T27 b r p xs ys 0 0 false 0 0 = T27 b r p xs ys 0 0 false 0 0),
  Runs Try.prog (CallsD Try.prog) (.code (.loop (loopAt Try.prog 27 0))) (T27 b r p xs ys 0 0 false 0 0).abs (Ex.exit 0) (T27 b r p xs ys 0 0 false 0 k).abs,
  cmpI BinOp.neq (cE xs ys) 0 = false,
  cmpI BinOp.neq (limE b r p) 0 = false]) := by kernel_rfl
theorem over27x_calls (b : Int) (r : Int) (p : Int) (xs : List Int) (ys : List Int) (k : Int) (res : D)
  (h0 : ((cmpI BinOp.neq (limE b r p) 0) = true) → (True) ∧ res = D.tup
  [D.v (Value.int IntKind.i64 0), D.v (Value.int IntKind.i64 0), D.v (Value.bool false),
    D.v (Value.int IntKind.i64 (limE b r p))])
  (h1 : ((cmpI BinOp.neq (limE b r p) 0) = false) → ((cmpI BinOp.neq (cE xs ys) 0) = true) → (True) ∧ res = D.tup
  [D.v (Value.int IntKind.i64 0), D.v (Value.int IntKind.i64 0), D.v (Value.bool false),
    D.v (Value.int IntKind.i64 (cE xs ys))])
  (h2 : ((cmpI BinOp.neq (limE b r p) 0) = false) → ((cmpI BinOp.neq (cE xs ys) 0) = false) → ((Runs Try.prog (CallsD Try.prog) (.code (.loop (loopAt Try.prog 27 0))) (T27 b r p xs ys 0 0 false 0 0).abs (Ex.exit 0) (T27 b r p xs ys 0 0 false 0 k).abs) ∧ True) ∧ res = D.tup
  [D.v (Value.int IntKind.i64 0), D.v (Value.int IntKind.i64 0), D.v (Value.bool false), D.v (Value.int IntKind.i64 0)]) :
  CallsD Try.prog 27 [D.agg [D.v (Value.int IntKind.i64 b), D.v (Value.int IntKind.i64 r), D.v (Value.int IntKind.i64 p)],
  D.rc [Col.ints IntKind.u64 xs, Col.ints IntKind.i64 ys]] res := by
  cases e0 : (cmpI BinOp.neq (limE b r p) 0) with
  | true =>
    exact of_path hX10 (over27x_p0 b r p xs ys k) ⟨e0, trivial⟩ (h0 e0).2
  | false =>
    cases e1 : (cmpI BinOp.neq (cE xs ys) 0) with
    | true =>
      exact of_path hX10 (over27x_p1 b r p xs ys k) ⟨e1, e0, trivial⟩ (h1 e0 e1).2
    | false =>
      exact of_path hX10 (over27x_p2 b r p xs ys k) ⟨rfl, (h2 e0 e1).1.1, e1, e0, trivial⟩ (h2 e0 e1).2
theorem over27y_p0 (b : Int) (r : Int) (p : Int) (xs : List Int) (ys : List Int) (i : Int) (k : Int) : fnX Try.prog X10 100000 [.d true] 27 [D.agg [D.v (Value.int IntKind.i64 b), D.v (Value.int IntKind.i64 r), D.v (Value.int IntKind.i64 p)],
  D.rc [Col.ints IntKind.u64 xs, Col.ints IntKind.i64 ys]] = some (D.tup
  [D.v (Value.int IntKind.i64 0), D.v (Value.int IntKind.i64 0), D.v (Value.bool false),
    D.v (Value.int IntKind.i64 (limE b r p))], [cmpI BinOp.neq (limE b r p) 0 = true]) := by kernel_rfl
theorem over27y_p1 (b : Int) (r : Int) (p : Int) (xs : List Int) (ys : List Int) (i : Int) (k : Int) : fnX Try.prog X10 100000 [.d false, .d true] 27 [D.agg [D.v (Value.int IntKind.i64 b), D.v (Value.int IntKind.i64 r), D.v (Value.int IntKind.i64 p)],
  D.rc [Col.ints IntKind.u64 xs, Col.ints IntKind.i64 ys]] = some (D.tup
  [D.v (Value.int IntKind.i64 0), D.v (Value.int IntKind.i64 0), D.v (Value.bool false),
    D.v (Value.int IntKind.i64 (cE xs ys))], [cmpI BinOp.neq (cE xs ys) 0 = true,
  cmpI BinOp.neq (limE b r p) 0 = false]) := by kernel_rfl
theorem over27y_p2 (b : Int) (r : Int) (p : Int) (xs : List Int) (ys : List Int) (i : Int) (k : Int) : fnX Try.prog X10 100000 [.d false, .d false, PE.l [[1, 2, 4, 5, 6, 7, 8]] [(64, 64)] (T27 b r p xs ys 0 0 false 0 0) Ex.ret
  (T27 b r p xs ys i k true 0 k)] 27 [D.agg [D.v (Value.int IntKind.i64 b), D.v (Value.int IntKind.i64 r), D.v (Value.int IntKind.i64 p)],
  D.rc [Col.ints IntKind.u64 xs, Col.ints IntKind.i64 ys]] = some (D.tup
  [D.v (Value.int IntKind.i64 i), D.v (Value.int IntKind.i64 k), D.v (Value.bool true), D.v (Value.int IntKind.i64 0)], [(T27 b r p xs ys 0 0 false 0 0 = T27 b r p xs ys 0 0 false 0 0),
  Runs Try.prog (CallsD Try.prog) (.code (.loop (loopAt Try.prog 27 0))) (T27 b r p xs ys 0 0 false 0 0).abs (Ex.ret) (T27 b r p xs ys i k true 0 k).abs,
  cmpI BinOp.neq (cE xs ys) 0 = false,
  cmpI BinOp.neq (limE b r p) 0 = false]) := by kernel_rfl
theorem over27y_calls (b : Int) (r : Int) (p : Int) (xs : List Int) (ys : List Int) (i : Int) (k : Int) (res : D)
  (h0 : ((cmpI BinOp.neq (limE b r p) 0) = true) → (True) ∧ res = D.tup
  [D.v (Value.int IntKind.i64 0), D.v (Value.int IntKind.i64 0), D.v (Value.bool false),
    D.v (Value.int IntKind.i64 (limE b r p))])
  (h1 : ((cmpI BinOp.neq (limE b r p) 0) = false) → ((cmpI BinOp.neq (cE xs ys) 0) = true) → (True) ∧ res = D.tup
  [D.v (Value.int IntKind.i64 0), D.v (Value.int IntKind.i64 0), D.v (Value.bool false),
    D.v (Value.int IntKind.i64 (cE xs ys))])
  (h2 : ((cmpI BinOp.neq (limE b r p) 0) = false) → ((cmpI BinOp.neq (cE xs ys) 0) = false) → ((Runs Try.prog (CallsD Try.prog) (.code (.loop (loopAt Try.prog 27 0))) (T27 b r p xs ys 0 0 false 0 0).abs (Ex.ret) (T27 b r p xs ys i k true 0 k).abs) ∧ True) ∧ res = D.tup
  [D.v (Value.int IntKind.i64 i), D.v (Value.int IntKind.i64 k), D.v (Value.bool true), D.v (Value.int IntKind.i64 0)]) :
  CallsD Try.prog 27 [D.agg [D.v (Value.int IntKind.i64 b), D.v (Value.int IntKind.i64 r), D.v (Value.int IntKind.i64 p)],
  D.rc [Col.ints IntKind.u64 xs, Col.ints IntKind.i64 ys]] res := by
  cases e0 : (cmpI BinOp.neq (limE b r p) 0) with
  | true =>
    exact of_path hX10 (over27y_p0 b r p xs ys i k) ⟨e0, trivial⟩ (h0 e0).2
  | false =>
    cases e1 : (cmpI BinOp.neq (cE xs ys) 0) with
    | true =>
      exact of_path hX10 (over27y_p1 b r p xs ys i k) ⟨e1, e0, trivial⟩ (h1 e0 e1).2
    | false =>
      exact of_path hX10 (over27y_p2 b r p xs ys i k) ⟨rfl, (h2 e0 e1).1.1, e1, e0, trivial⟩ (h2 e0 e1).2
theorem i27_none (b r p : Int) (xs ys : List Int) (o1 o2 : Int) (o3 : Bool) (o4 : Int) (k : Nat) (hl : limE b r p = 0) (hc : cE xs ys = 0) (hk : k < xs.length) : ∀ m, m ≤ k + 1 → inn (fun i => ovB b r p xs ys i k) m = none →
    Runs Try.prog (CallsD Try.prog) (.rounds (loopAt Try.prog 27 1)) (T27i b r p xs ys o1 o2 o3 o4 k ((m : Int) - 1)).abs (.exit 2) (T27i b r p xs ys o1 o2 o3 o4 k (-1)).abs
  | 0, _, _ => by
    refine over27I_step b r p xs ys o1 o2 o3 o4 k _ _ _ ?_ ?_ ?_
    · intro a; rw [geq_t] at a; omega
    · intro a; rw [geq_t] at a; omega
    · intro a; exact ⟨trivial, rfl, rfl⟩
  | m + 1, hm, h => by
    have hn := (cE_ok hc).1
    simp only [inn] at h
    cases c : ovB b r p xs ys m k with
    | true => simp only [c, cond_true] at h; cases h
    | false =>
      simp only [c, cond_false] at h
      have ih := i27_none b r p xs ys o1 o2 o3 o4 k hl hc hk m (by omega) h
      rw [show ((m + 1 : Nat) : Int) - 1 = m by omega]
      have e1 : opI .sub .i64 (m : Int) 1 = m - 1 := by rw [opI_sub, wrap_i64_of (by omega) (by omega)]
      refine over27I_step b r p xs ys o1 o2 o3 o4 k _ _ _ ?_ ?_ ?_
      all_goals try simp only [Int.toNat_natCast, c, e1]
      · intro a a2; cases a2
      · intro a _; exact ⟨by ((repeat' apply And.intro) <;> first | trivial | omega | (apply decide_eq_true; omega)), ih⟩
      · intro a; rw [geq_f] at a; omega
theorem i27_some (b r p : Int) (xs ys : List Int) (o1 o2 : Int) (o3 : Bool) (o4 : Int) (k i : Nat) (hl : limE b r p = 0) (hc : cE xs ys = 0) (hk : k < xs.length) : ∀ m, m ≤ k + 1 → inn (fun i => ovB b r p xs ys i k) m = some i →
    Runs Try.prog (CallsD Try.prog) (.rounds (loopAt Try.prog 27 1)) (T27i b r p xs ys o1 o2 o3 o4 k ((m : Int) - 1)).abs .ret (T27i b r p xs ys i k true 0 k i).abs
  | 0, _, h => by cases h
  | m + 1, hm, h => by
    have hn := (cE_ok hc).1
    simp only [inn] at h
    rw [show ((m + 1 : Nat) : Int) - 1 = m by omega]
    have e1 : opI .sub .i64 (m : Int) 1 = m - 1 := by rw [opI_sub, wrap_i64_of (by omega) (by omega)]
    cases c : ovB b r p xs ys m k with
    | true =>
      simp only [c, cond_true] at h
      obtain rfl := Option.some.inj h
      refine over27I_step b r p xs ys o1 o2 o3 o4 k _ _ _ ?_ ?_ ?_
      all_goals try simp only [Int.toNat_natCast, c, e1]
      · intro a _; exact ⟨by ((repeat' apply And.intro) <;> first | trivial | omega | (apply decide_eq_true; omega)), trivial, trivial⟩
      · intro a a2; cases a2
      · intro a; rw [geq_f] at a; omega
    | false =>
      simp only [c, cond_false] at h
      have ih := i27_some b r p xs ys o1 o2 o3 o4 k i hl hc hk m (by omega) h
      refine over27I_step b r p xs ys o1 o2 o3 o4 k _ _ _ ?_ ?_ ?_
      all_goals try simp only [Int.toNat_natCast, c, e1]
      · intro a a2; cases a2
      · intro a _; exact ⟨by ((repeat' apply And.intro) <;> first | trivial | omega | (apply decide_eq_true; omega)), ih⟩
      · intro a; rw [geq_f] at a; omega
theorem o27_none (b r p : Int) (xs ys : List Int) (o1 o2 : Int) (o3 : Bool) (o4 : Int) (hl : limE b r p = 0) (hc : cE xs ys = 0) : ∀ d k, k + d = xs.length → ovFrom (ovB b r p xs ys) d k = none →
    Runs Try.prog (CallsD Try.prog) (.rounds (loopAt Try.prog 27 0)) (T27 b r p xs ys o1 o2 o3 o4 (k : Nat)).abs (.exit 0) (T27 b r p xs ys o1 o2 o3 o4 xs.length).abs
  | 0, k, hd, _ => by
    rw [show k = xs.length by omega]
    refine over27L_step b r p xs ys o1 o2 o3 o4 _ 0 _ _ ?_ ?_
    · intro a; rw [lss_t, rl] at a; omega
    · intro a; exact ⟨trivial, rfl, rfl⟩
  | d + 1, k, hd, h => by
    have hn := (cE_ok hc).1
    simp only [ovFrom] at h
    cases c : inn (fun i => ovB b r p xs ys i k) (k + 1) with
    | some i => rw [c] at h; cases h
    | none =>
      rw [c] at h
      have ih := o27_none b r p xs ys o1 o2 o3 o4 hl hc d (k + 1) (by omega) h
      have hi := i27_none b r p xs ys o1 o2 o3 o4 k hl hc (by omega) (k + 1) (by omega) c
      rw [show ((k + 1 : Nat) : Int) - 1 = k by omega] at hi
      have e1 : opI .add .i64 (k : Int) 1 = ((k + 1 : Nat) : Int) := by rw [opI_add, wrap_i64_of (by omega) (by omega)]; omega
      refine over27L_step b r p xs ys o1 o2 o3 o4 _ (-1) _ _ ?_ ?_
      · intro a; rw [e1]; exact ⟨⟨loop_of_rounds hi, trivial⟩, ih⟩
      · intro a; rw [lss_f, rl] at a; omega
theorem o27_some (b r p : Int) (xs ys : List Int) (o1 o2 : Int) (o3 : Bool) (o4 : Int) (hl : limE b r p = 0) (hc : cE xs ys = 0) (i' k' : Nat) : ∀ d k, k + d = xs.length → ovFrom (ovB b r p xs ys) d k = some (i', k') →
    Runs Try.prog (CallsD Try.prog) (.rounds (loopAt Try.prog 27 0)) (T27 b r p xs ys o1 o2 o3 o4 (k : Nat)).abs .ret (T27 b r p xs ys i' k' true 0 k').abs
  | 0, k, hd, h => by cases h
  | d + 1, k, hd, h => by
    have hn := (cE_ok hc).1
    simp only [ovFrom] at h
    cases c : inn (fun i => ovB b r p xs ys i k) (k + 1) with
    | some i =>
      rw [c] at h
      simp only [Option.some.injEq, Prod.mk.injEq] at h
      obtain ⟨rfl, rfl⟩ := h
      have hi := i27_some b r p xs ys o1 o2 o3 o4 k i hl hc (by omega) (k + 1) (by omega) c
      rw [show ((k + 1 : Nat) : Int) - 1 = k by omega] at hi
      refine over27M_step b r p xs ys o1 o2 o3 o4 k i _ _ ?_ ?_
      · intro a; exact ⟨⟨loop_of_rounds hi, trivial⟩, rfl, rfl⟩
      · intro a; rw [lss_f, rl] at a; omega
    | none =>
      rw [c] at h
      have ih := o27_some b r p xs ys o1 o2 o3 o4 hl hc i' k' d (k + 1) (by omega) h
      have hi := i27_none b r p xs ys o1 o2 o3 o4 k hl hc (by omega) (k + 1) (by omega) c
      rw [show ((k + 1 : Nat) : Int) - 1 = k by omega] at hi
      have e1 : opI .add .i64 (k : Int) 1 = ((k + 1 : Nat) : Int) := by rw [opI_add, wrap_i64_of (by omega) (by omega)]; omega
      refine over27L_step b r p xs ys o1 o2 o3 o4 _ (-1) _ _ ?_ ?_
      · intro a; rw [e1]; exact ⟨⟨loop_of_rounds hi, trivial⟩, ih⟩
      · intro a; rw [lss_f, rl] at a; omega
theorem cE_ne {xs ys : List Int} (h : cE xs ys ≠ 0) : cE xs ys = 4 ∨ cE xs ys = 8 := by
  unfold cE at *; split
  · exact .inl rfl
  · split
    next a b => rw [if_neg a, if_pos b] at h; exact absurd rfl h
    · exact .inr rfl
theorem over27_ok (b r p : Int) (xs ys : List Int) : CallsD Try.prog 27 [.agg [i64 b, i64 r, i64 p], crow xs ys] (ovD (ovE b r p xs ys) (ovV b r p xs ys)) := by
  by_cases hl : limE b r p = 0
  · have e : ovE b r p xs ys = cE xs ys := by unfold ovE; rw [if_pos hl]
    by_cases hc : cE xs ys = 0
    · have v : ovV b r p xs ys = ovR b r p xs ys := by unfold ovV; rw [e, if_pos hc]
      rw [v, e, hc]
      cases ho : ovR b r p xs ys with
      | none =>
        refine over27x_calls b r p xs ys xs.length _ ?_ ?_ ?_
        · intro a; rw [neq_t] at a; exact absurd hl a
        · intro _ a; rw [neq_t] at a; exact absurd hc a
        · intro _ _; exact ⟨⟨loop_of_rounds (o27_none b r p xs ys 0 0 false 0 hl hc xs.length 0 (by omega) ho), trivial⟩, rfl⟩
      | some ik =>
        obtain ⟨i, k⟩ := ik
        refine over27y_calls b r p xs ys i k _ ?_ ?_ ?_
        · intro a; rw [neq_t] at a; exact absurd hl a
        · intro _ a; rw [neq_t] at a; exact absurd hc a
        · intro _ _; exact ⟨⟨loop_of_rounds (o27_some b r p xs ys 0 0 false 0 hl hc i k xs.length 0 (by omega) ho), trivial⟩, rfl⟩
    · have v : ovV b r p xs ys = none := by unfold ovV; rw [e, if_neg hc]
      rw [v, e]
      refine over27x_calls b r p xs ys 0 _ ?_ ?_ ?_
      · intro a; rw [neq_t] at a; exact absurd hl a
      · intro _ a; exact ⟨trivial, rfl⟩
      · intro _ a; rw [neq_f] at a; exact absurd a hc
  · have e : ovE b r p xs ys = limE b r p := by unfold ovE; rw [if_neg hl]
    have v : ovV b r p xs ys = none := by unfold ovV; rw [e, if_neg hl]
    rw [v, e]
    refine over27x_calls b r p xs ys 0 _ ?_ ?_ ?_
    · intro a; exact ⟨trivial, rfl⟩
    · intro a; rw [neq_f] at a; exact absurd a hl
    · intro a; rw [neq_f] at a; exact absurd a hl
end MeterS
