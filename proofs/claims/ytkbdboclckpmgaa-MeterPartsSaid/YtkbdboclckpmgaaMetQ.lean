/- The functions of the folder meter and what they reach: what they compute. No condition. -/
import Derived.Test.YtkbdboclckpmgaaMetP
set_option linter.unusedSectionVars false
set_option linter.unusedVariables false
set_option linter.unusedSimpArgs false
namespace MeterS
open Go Go.Dam Go.Proofs
set_option maxRecDepth 1000000
set_option linter.unusedVariables false
set_option linter.unusedSectionVars false
set_option linter.unusedSimpArgs false
variable [Glo]
noncomputable def T26 (b r p : Int) (xs ys : List Int) (o1 o2 : Int) (o3 : Bool) (o4 n i : Int) : Cs := ⟨TT.of [(1, (D.rc [(Col.ints IntKind.u64 xs), (Col.ints IntKind.i64 ys)])), (2, (D.ptr 64 0)), (4, (D.v (Value.int IntKind.i64 o1))), (5, (D.v (Value.int IntKind.i64 o2))), (6, (D.v (Value.bool o3))), (7, (D.v (Value.int IntKind.i64 o4))), (24, (D.rc [(Col.ints IntKind.u64 xs), (Col.ints IntKind.i64 ys)])), (25, (D.v (Value.int IntKind.i64 n))), (26, (D.v (Value.int IntKind.i64 i)))], 99, [], [(64, (BX.cells [(D.v (Value.int IntKind.i64 b)), (D.v (Value.int IntKind.i64 r)), (D.v (Value.int IntKind.i64 p))] false))], none, 0⟩
noncomputable def T26k (b r p : Int) (xs ys : List Int) (o1 o2 : Int) (o3 : Bool) (o4 n k : Int) : Cs := ⟨TT.of [(1, (D.rc [(Col.ints IntKind.u64 xs), (Col.ints IntKind.i64 ys)])), (2, (D.ptr 64 0)), (4, (D.v (Value.int IntKind.i64 o1))), (5, (D.v (Value.int IntKind.i64 o2))), (6, (D.v (Value.bool o3))), (7, (D.v (Value.int IntKind.i64 o4))), (56, (D.v (Value.int IntKind.i64 n))), (57, (D.v (Value.int IntKind.i64 k)))], 99, [], [(64, (BX.cells [(D.v (Value.int IntKind.i64 b)), (D.v (Value.int IntKind.i64 r)), (D.v (Value.int IntKind.i64 p))] false))], none, 0⟩
noncomputable def T26j (b r p : Int) (xs ys : List Int) (o1 o2 : Int) (o3 : Bool) (o4 k s i n j : Int) : Cs := ⟨TT.of [(1, (D.rc [(Col.ints IntKind.u64 xs), (Col.ints IntKind.i64 ys)])), (2, (D.ptr 64 0)), (4, (D.v (Value.int IntKind.i64 o1))), (5, (D.v (Value.int IntKind.i64 o2))), (6, (D.v (Value.bool o3))), (7, (D.v (Value.int IntKind.i64 o4))), (11, (D.v (Value.int IntKind.i64 k))), (12, (D.v (Value.int IntKind.u64 s))), (13, (D.v (Value.int IntKind.i64 i))), (56, (D.v (Value.int IntKind.i64 n))), (57, (D.v (Value.int IntKind.i64 j)))], 99, [], [(64, (BX.cells [(D.v (Value.int IntKind.i64 b)), (D.v (Value.int IntKind.i64 r)), (D.v (Value.int IntKind.i64 p))] false))], none, 0⟩
theorem over26A_r0 (b : Int) (r : Int) (p : Int) (xs : List Int) (ys : List Int) (o1 : Int) (o2 : Int) (o3 : Bool) (o4 : Int) (n : Int) (i : Int) : roundX Try.prog X10 100000 (loopAt Try.prog 26 0) [.d true, .d true, .c 6] [[1, 2, 4, 5, 6, 7, 24, 25, 26]] [(64, 64)] (T26 b r p xs ys o1 o2 o3 o4 n i) = some (Ex.ret, (T26 (b) (r) (p) (xs) (ys) (0) (0) (false) (8) (n) (i)), [cmpI BinOp.lss (ys.getD i.toNat 0) 0 = true,
  decide (0 ≤ i) = true,
  decide (i < ↑(rowLen [Col.ints IntKind.u64 xs, Col.ints IntKind.i64 ys])) = true,
  cmpI BinOp.lss i n = true]) := by kernel_rfl
theorem over26A_r1 (b : Int) (r : Int) (p : Int) (xs : List Int) (ys : List Int) (o1 : Int) (o2 : Int) (o3 : Bool) (o4 : Int) (n : Int) (i : Int) : roundX Try.prog X10 100000 (loopAt Try.prog 26 0) [.d true, .d false, .c 1, .d true, .c 3] [[1, 2, 4, 5, 6, 7, 24, 25, 26]] [(64, 64)] (T26 b r p xs ys o1 o2 o3 o4 n i) = some (Ex.ret, (T26 (b) (r) (p) (xs) (ys) (0) (0) (false) (8) (n) (i)), [cmpI BinOp.gtr (ys.getD i.toNat 0) 4294967295 = true,
  cmpI BinOp.lss (ys.getD i.toNat 0) 0 = false,
  decide (0 ≤ i) = true,
  decide (i < ↑(rowLen [Col.ints IntKind.u64 xs, Col.ints IntKind.i64 ys])) = true,
  cmpI BinOp.lss i n = true]) := by kernel_rfl
theorem over26A_r2 (b : Int) (r : Int) (p : Int) (xs : List Int) (ys : List Int) (o1 : Int) (o2 : Int) (o3 : Bool) (o4 : Int) (n : Int) (i : Int) : roundX Try.prog X10 100000 (loopAt Try.prog 26 0) [.d true, .d false, .c 1, .d false, .c 1, .d true, .c 8, .d true] [[1, 2, 4, 5, 6, 7, 24, 25, 26]] [(64, 64)] (T26 b r p xs ys o1 o2 o3 o4 n i) = some (Ex.ret, (T26 (b) (r) (p) (xs) (ys) (0) (0) (false) (8) (n) (i)), [cmpI BinOp.lss (xs.getD i.toNat 0) (xs.getD (opI BinOp.sub IntKind.i64 i 1).toNat 0) = true,
  decide (0 ≤ opI BinOp.sub IntKind.i64 i 1) = true,
  decide (opI BinOp.sub IntKind.i64 i 1 < ↑(rowLen [Col.ints IntKind.u64 xs, Col.ints IntKind.i64 ys])) = true,
  cmpI BinOp.gtr i 0 = true,
  cmpI BinOp.gtr (ys.getD i.toNat 0) 4294967295 = false,
  cmpI BinOp.lss (ys.getD i.toNat 0) 0 = false,
  decide (0 ≤ i) = true,
  decide (i < ↑(rowLen [Col.ints IntKind.u64 xs, Col.ints IntKind.i64 ys])) = true,
  cmpI BinOp.lss i n = true]) := by kernel_rfl
theorem over26A_r3 (b : Int) (r : Int) (p : Int) (xs : List Int) (ys : List Int) (o1 : Int) (o2 : Int) (o3 : Bool) (o4 : Int) (n : Int) (i : Int) : roundX Try.prog X10 100000 (loopAt Try.prog 26 0) [.d true, .d false, .c 1, .d false, .c 1, .d true, .c 8, .d false] [[1, 2, 4, 5, 6, 7, 24, 25, 26]] [(64, 64)] (T26 b r p xs ys o1 o2 o3 o4 n i) = some (Ex.normal, (T26 (b) (r) (p) (xs) (ys) (o1) (o2) (o3) (o4) (n) (opI BinOp.add IntKind.i64 i 1)), [cmpI BinOp.lss (xs.getD i.toNat 0) (xs.getD (opI BinOp.sub IntKind.i64 i 1).toNat 0) = false,
  decide (0 ≤ opI BinOp.sub IntKind.i64 i 1) = true,
  decide (opI BinOp.sub IntKind.i64 i 1 < ↑(rowLen [Col.ints IntKind.u64 xs, Col.ints IntKind.i64 ys])) = true,
  cmpI BinOp.gtr i 0 = true,
  cmpI BinOp.gtr (ys.getD i.toNat 0) 4294967295 = false,
  cmpI BinOp.lss (ys.getD i.toNat 0) 0 = false,
  decide (0 ≤ i) = true,
  decide (i < ↑(rowLen [Col.ints IntKind.u64 xs, Col.ints IntKind.i64 ys])) = true,
  cmpI BinOp.lss i n = true]) := by kernel_rfl
theorem over26A_r4 (b : Int) (r : Int) (p : Int) (xs : List Int) (ys : List Int) (o1 : Int) (o2 : Int) (o3 : Bool) (o4 : Int) (n : Int) (i : Int) : roundX Try.prog X10 100000 (loopAt Try.prog 26 0) [.d true, .d false, .c 1, .d false, .c 1, .d false, .c 9] [[1, 2, 4, 5, 6, 7, 24, 25, 26]] [(64, 64)] (T26 b r p xs ys o1 o2 o3 o4 n i) = some (Ex.normal, (T26 (b) (r) (p) (xs) (ys) (o1) (o2) (o3) (o4) (n) (opI BinOp.add IntKind.i64 i 1)), [cmpI BinOp.gtr i 0 = false,
  cmpI BinOp.gtr (ys.getD i.toNat 0) 4294967295 = false,
  cmpI BinOp.lss (ys.getD i.toNat 0) 0 = false,
  decide (0 ≤ i) = true,
  decide (i < ↑(rowLen [Col.ints IntKind.u64 xs, Col.ints IntKind.i64 ys])) = true,
  cmpI BinOp.lss i n = true]) := by kernel_rfl
theorem over26A_r5 (b : Int) (r : Int) (p : Int) (xs : List Int) (ys : List Int) (o1 : Int) (o2 : Int) (o3 : Bool) (o4 : Int) (n : Int) (i : Int) : roundX Try.prog X10 100000 (loopAt Try.prog 26 0) [.d false] [[1, 2, 4, 5, 6, 7, 24, 25, 26]] [(64, 64)] (T26 b r p xs ys o1 o2 o3 o4 n i) = some (Ex.exit 0, (T26 (b) (r) (p) (xs) (ys) (o1) (o2) (o3) (o4) (n) (i)), [cmpI BinOp.lss i n = false]) := by kernel_rfl
theorem over26A_step (b : Int) (r : Int) (p : Int) (xs : List Int) (ys : List Int) (o1 : Int) (o2 : Int) (o3 : Bool) (o4 : Int) (n : Int) (i : Int) (σ : St) (e : Ex)
  (h0 : ((cmpI BinOp.lss i n) = true) → ((cmpI BinOp.lss (ys.getD i.toNat 0) 0) = true) → ((decide (0 ≤ i) = true) ∧ (decide (i < ↑(rowLen [Col.ints IntKind.u64 xs, Col.ints IntKind.i64 ys])) = true) ∧ True) ∧ (e = Ex.ret ∧ σ = (T26 (b) (r) (p) (xs) (ys) (0) (0) (false) (8) (n) (i)).abs))
  (h1 : ((cmpI BinOp.lss i n) = true) → ((cmpI BinOp.lss (ys.getD i.toNat 0) 0) = false) → ((cmpI BinOp.gtr (ys.getD i.toNat 0) 4294967295) = true) → ((decide (0 ≤ i) = true) ∧ (decide (i < ↑(rowLen [Col.ints IntKind.u64 xs, Col.ints IntKind.i64 ys])) = true) ∧ True) ∧ (e = Ex.ret ∧ σ = (T26 (b) (r) (p) (xs) (ys) (0) (0) (false) (8) (n) (i)).abs))
  (h2 : ((cmpI BinOp.lss i n) = true) → ((cmpI BinOp.lss (ys.getD i.toNat 0) 0) = false) → ((cmpI BinOp.gtr (ys.getD i.toNat 0) 4294967295) = false) → ((cmpI BinOp.gtr i 0) = true) → ((cmpI BinOp.lss (xs.getD i.toNat 0) (xs.getD (opI BinOp.sub IntKind.i64 i 1).toNat 0)) = true) → ((decide (0 ≤ opI BinOp.sub IntKind.i64 i 1) = true) ∧ (decide (opI BinOp.sub IntKind.i64 i 1 < ↑(rowLen [Col.ints IntKind.u64 xs, Col.ints IntKind.i64 ys])) = true) ∧ (decide (0 ≤ i) = true) ∧ (decide (i < ↑(rowLen [Col.ints IntKind.u64 xs, Col.ints IntKind.i64 ys])) = true) ∧ True) ∧ (e = Ex.ret ∧ σ = (T26 (b) (r) (p) (xs) (ys) (0) (0) (false) (8) (n) (i)).abs))
  (h3 : ((cmpI BinOp.lss i n) = true) → ((cmpI BinOp.lss (ys.getD i.toNat 0) 0) = false) → ((cmpI BinOp.gtr (ys.getD i.toNat 0) 4294967295) = false) → ((cmpI BinOp.gtr i 0) = true) → ((cmpI BinOp.lss (xs.getD i.toNat 0) (xs.getD (opI BinOp.sub IntKind.i64 i 1).toNat 0)) = false) → ((decide (0 ≤ opI BinOp.sub IntKind.i64 i 1) = true) ∧ (decide (opI BinOp.sub IntKind.i64 i 1 < ↑(rowLen [Col.ints IntKind.u64 xs, Col.ints IntKind.i64 ys])) = true) ∧ (decide (0 ≤ i) = true) ∧ (decide (i < ↑(rowLen [Col.ints IntKind.u64 xs, Col.ints IntKind.i64 ys])) = true) ∧ True) ∧ Runs Try.prog (CallsD Try.prog) (.rounds (loopAt Try.prog 26 0)) (T26 (b) (r) (p) (xs) (ys) (o1) (o2) (o3) (o4) (n) (opI BinOp.add IntKind.i64 i 1)).abs e σ)
  (h4 : ((cmpI BinOp.lss i n) = true) → ((cmpI BinOp.lss (ys.getD i.toNat 0) 0) = false) → ((cmpI BinOp.gtr (ys.getD i.toNat 0) 4294967295) = false) → ((cmpI BinOp.gtr i 0) = false) → ((decide (0 ≤ i) = true) ∧ (decide (i < ↑(rowLen [Col.ints IntKind.u64 xs, Col.ints IntKind.i64 ys])) = true) ∧ True) ∧ Runs Try.prog (CallsD Try.prog) (.rounds (loopAt Try.prog 26 0)) (T26 (b) (r) (p) (xs) (ys) (o1) (o2) (o3) (o4) (n) (opI BinOp.add IntKind.i64 i 1)).abs e σ)
  (h5 : ((cmpI BinOp.lss i n) = false) → (True) ∧ (e = Ex.exit 0 ∧ σ = (T26 (b) (r) (p) (xs) (ys) (o1) (o2) (o3) (o4) (n) (i)).abs)) :
  Runs Try.prog (CallsD Try.prog) (.rounds (loopAt Try.prog 26 0)) (T26 b r p xs ys o1 o2 o3 o4 n i).abs e σ := by
  cases e0 : (cmpI BinOp.lss i n) with
  | true =>
    cases e1 : (cmpI BinOp.lss (ys.getD i.toNat 0) 0) with
    | true =>
      exact rounds_end hX10 (over26A_r0 b r p xs ys o1 o2 o3 o4 n i) ⟨e1, (h0 e0 e1).1.1, (h0 e0 e1).1.2.1, e0, trivial⟩ (by simp) (h0 e0 e1).2
    | false =>
      cases e2 : (cmpI BinOp.gtr (ys.getD i.toNat 0) 4294967295) with
      | true =>
        exact rounds_end hX10 (over26A_r1 b r p xs ys o1 o2 o3 o4 n i) ⟨e2, e1, (h1 e0 e1 e2).1.1, (h1 e0 e1 e2).1.2.1, e0, trivial⟩ (by simp) (h1 e0 e1 e2).2
      | false =>
        cases e3 : (cmpI BinOp.gtr i 0) with
        | true =>
          cases e4 : (cmpI BinOp.lss (xs.getD i.toNat 0) (xs.getD (opI BinOp.sub IntKind.i64 i 1).toNat 0)) with
          | true =>
            exact rounds_end hX10 (over26A_r2 b r p xs ys o1 o2 o3 o4 n i) ⟨e4, (h2 e0 e1 e2 e3 e4).1.1, (h2 e0 e1 e2 e3 e4).1.2.1, e3, e2, e1, (h2 e0 e1 e2 e3 e4).1.2.2.1, (h2 e0 e1 e2 e3 e4).1.2.2.2.1, e0, trivial⟩ (by simp) (h2 e0 e1 e2 e3 e4).2
          | false =>
            exact rounds_on hX10 (over26A_r3 b r p xs ys o1 o2 o3 o4 n i) ⟨e4, (h3 e0 e1 e2 e3 e4).1.1, (h3 e0 e1 e2 e3 e4).1.2.1, e3, e2, e1, (h3 e0 e1 e2 e3 e4).1.2.2.1, (h3 e0 e1 e2 e3 e4).1.2.2.2.1, e0, trivial⟩ (h3 e0 e1 e2 e3 e4).2
        | false =>
          exact rounds_on hX10 (over26A_r4 b r p xs ys o1 o2 o3 o4 n i) ⟨e3, e2, e1, (h4 e0 e1 e2 e3).1.1, (h4 e0 e1 e2 e3).1.2.1, e0, trivial⟩ (h4 e0 e1 e2 e3).2
  | false =>
    exact rounds_end hX10 (over26A_r5 b r p xs ys o1 o2 o3 o4 n i) ⟨e0, trivial⟩ (by simp) (h5 e0).2
theorem over26J_r0 (b : Int) (r : Int) (p : Int) (xs : List Int) (ys : List Int) (o1 : Int) (o2 : Int) (o3 : Bool) (o4 : Int) (k : Int) (s : Int) (i : Int) (n : Int) (j : Int) : roundX Try.prog X10 100000 (loopAt Try.prog 26 2) [.d true, .d true, .c 1, .d true] [[1, 2, 4, 5, 6, 7, 11, 12, 13, 56, 57]] [(64, 64)] (T26j b r p xs ys o1 o2 o3 o4 k s i n j) = some (Ex.ret, (T26j (b) (r) (p) (xs) (ys) (i) (k) (true) (0) (k) (opI BinOp.add IntKind.u64 s (IntKind.u64.wrap (ys.getD i.toNat 0))) (i) (n) (j)), [cmpI BinOp.gtr (opI BinOp.add IntKind.u64 s (IntKind.u64.wrap (ys.getD i.toNat 0)))
    (if wN b r p (opI BinOp.sub IntKind.u64 (xs.getD k.toNat 0) (xs.getD i.toNat 0)) < 18446744073709551616 then
      wN b r p (opI BinOp.sub IntKind.u64 (xs.getD k.toNat 0) (xs.getD i.toNat 0))
    else 0) =
  true,
  cmpI BinOp.eql
    (if wN b r p (opI BinOp.sub IntKind.u64 (xs.getD k.toNat 0) (xs.getD i.toNat 0)) < 18446744073709551616 then 0
    else 16)
    0 =
  true,
  limE b r p = 0,
  0 ≤ opI BinOp.sub IntKind.u64 (xs.getD k.toNat 0) (xs.getD i.toNat 0),
  opI BinOp.sub IntKind.u64 (xs.getD k.toNat 0) (xs.getD i.toNat 0) < 18446744073709551616,
  decide (0 ≤ i) = true,
  decide (i < ↑(rowLen [Col.ints IntKind.u64 xs, Col.ints IntKind.i64 ys])) = true,
  decide (0 ≤ k) = true,
  decide (k < ↑(rowLen [Col.ints IntKind.u64 xs, Col.ints IntKind.i64 ys])) = true,
  decide (0 ≤ i) = true,
  decide (i < ↑(rowLen [Col.ints IntKind.u64 xs, Col.ints IntKind.i64 ys])) = true,
  cmpI BinOp.geq i 0 = true]) := by kernel_rfl
theorem over26J_r1 (b : Int) (r : Int) (p : Int) (xs : List Int) (ys : List Int) (o1 : Int) (o2 : Int) (o3 : Bool) (o4 : Int) (k : Int) (s : Int) (i : Int) (n : Int) (j : Int) : roundX Try.prog X10 100000 (loopAt Try.prog 26 2) [.d true, .d true, .c 1, .d false] [[1, 2, 4, 5, 6, 7, 11, 12, 13, 56, 57]] [(64, 64)] (T26j b r p xs ys o1 o2 o3 o4 k s i n j) = some (Ex.normal, (T26j (b) (r) (p) (xs) (ys) (o1) (o2) (o3) (o4) (k) (opI BinOp.add IntKind.u64 s (IntKind.u64.wrap (ys.getD i.toNat 0))) (opI BinOp.sub IntKind.i64 i 1) (n) (j)), [cmpI BinOp.gtr (opI BinOp.add IntKind.u64 s (IntKind.u64.wrap (ys.getD i.toNat 0)))
    (if wN b r p (opI BinOp.sub IntKind.u64 (xs.getD k.toNat 0) (xs.getD i.toNat 0)) < 18446744073709551616 then
      wN b r p (opI BinOp.sub IntKind.u64 (xs.getD k.toNat 0) (xs.getD i.toNat 0))
    else 0) =
  false,
  cmpI BinOp.eql
    (if wN b r p (opI BinOp.sub IntKind.u64 (xs.getD k.toNat 0) (xs.getD i.toNat 0)) < 18446744073709551616 then 0
    else 16)
    0 =
  true,
  limE b r p = 0,
  0 ≤ opI BinOp.sub IntKind.u64 (xs.getD k.toNat 0) (xs.getD i.toNat 0),
  opI BinOp.sub IntKind.u64 (xs.getD k.toNat 0) (xs.getD i.toNat 0) < 18446744073709551616,
  decide (0 ≤ i) = true,
  decide (i < ↑(rowLen [Col.ints IntKind.u64 xs, Col.ints IntKind.i64 ys])) = true,
  decide (0 ≤ k) = true,
  decide (k < ↑(rowLen [Col.ints IntKind.u64 xs, Col.ints IntKind.i64 ys])) = true,
  decide (0 ≤ i) = true,
  decide (i < ↑(rowLen [Col.ints IntKind.u64 xs, Col.ints IntKind.i64 ys])) = true,
  cmpI BinOp.geq i 0 = true]) := by kernel_rfl
theorem over26J_r2 (b : Int) (r : Int) (p : Int) (xs : List Int) (ys : List Int) (o1 : Int) (o2 : Int) (o3 : Bool) (o4 : Int) (k : Int) (s : Int) (i : Int) (n : Int) (j : Int) : roundX Try.prog X10 100000 (loopAt Try.prog 26 2) [.d true, .d false, .c 2] [[1, 2, 4, 5, 6, 7, 11, 12, 13, 56, 57]] [(64, 64)] (T26j b r p xs ys o1 o2 o3 o4 k s i n j) = some (Ex.normal, (T26j (b) (r) (p) (xs) (ys) (o1) (o2) (o3) (o4) (k) (opI BinOp.add IntKind.u64 s (IntKind.u64.wrap (ys.getD i.toNat 0))) (opI BinOp.sub IntKind.i64 i 1) (n) (j)), [cmpI BinOp.eql
    (if wN b r p (opI BinOp.sub IntKind.u64 (xs.getD k.toNat 0) (xs.getD i.toNat 0)) < 18446744073709551616 then 0
    else 16)
    0 =
  false,
  limE b r p = 0,
  0 ≤ opI BinOp.sub IntKind.u64 (xs.getD k.toNat 0) (xs.getD i.toNat 0),
  opI BinOp.sub IntKind.u64 (xs.getD k.toNat 0) (xs.getD i.toNat 0) < 18446744073709551616,
  decide (0 ≤ i) = true,
  decide (i < ↑(rowLen [Col.ints IntKind.u64 xs, Col.ints IntKind.i64 ys])) = true,
  decide (0 ≤ k) = true,
  decide (k < ↑(rowLen [Col.ints IntKind.u64 xs, Col.ints IntKind.i64 ys])) = true,
  decide (0 ≤ i) = true,
  decide (i < ↑(rowLen [Col.ints IntKind.u64 xs, Col.ints IntKind.i64 ys])) = true,
  cmpI BinOp.geq i 0 = true]) := by kernel_rfl
theorem over26J_r3 (b : Int) (r : Int) (p : Int) (xs : List Int) (ys : List Int) (o1 : Int) (o2 : Int) (o3 : Bool) (o4 : Int) (k : Int) (s : Int) (i : Int) (n : Int) (j : Int) : roundX Try.prog X10 100000 (loopAt Try.prog 26 2) [.d false] [[1, 2, 4, 5, 6, 7, 11, 12, 13, 56, 57]] [(64, 64)] (T26j b r p xs ys o1 o2 o3 o4 k s i n j) = some (Ex.exit 4, (T26j (b) (r) (p) (xs) (ys) (o1) (o2) (o3) (o4) (k) (s) (i) (n) (j)), [cmpI BinOp.geq i 0 = false]) := by kernel_rfl
theorem over26J_step (b : Int) (r : Int) (p : Int) (xs : List Int) (ys : List Int) (o1 : Int) (o2 : Int) (o3 : Bool) (o4 : Int) (k : Int) (s : Int) (i : Int) (n : Int) (j : Int) (σ : St) (e : Ex)
  (h0 : ((cmpI BinOp.geq i 0) = true) → ((cmpI BinOp.eql
  (if wN b r p (opI BinOp.sub IntKind.u64 (xs.getD k.toNat 0) (xs.getD i.toNat 0)) < 18446744073709551616 then 0
  else 16)
  0) = true) → ((cmpI BinOp.gtr (opI BinOp.add IntKind.u64 s (IntKind.u64.wrap (ys.getD i.toNat 0)))
  (if wN b r p (opI BinOp.sub IntKind.u64 (xs.getD k.toNat 0) (xs.getD i.toNat 0)) < 18446744073709551616 then
    wN b r p (opI BinOp.sub IntKind.u64 (xs.getD k.toNat 0) (xs.getD i.toNat 0))
  else 0)) = true) → ((limE b r p = 0) ∧ (0 ≤ opI BinOp.sub IntKind.u64 (xs.getD k.toNat 0) (xs.getD i.toNat 0)) ∧ (opI BinOp.sub IntKind.u64 (xs.getD k.toNat 0) (xs.getD i.toNat 0) < 18446744073709551616) ∧ (decide (0 ≤ i) = true) ∧ (decide (i < ↑(rowLen [Col.ints IntKind.u64 xs, Col.ints IntKind.i64 ys])) = true) ∧ (decide (0 ≤ k) = true) ∧ (decide (k < ↑(rowLen [Col.ints IntKind.u64 xs, Col.ints IntKind.i64 ys])) = true) ∧ (decide (0 ≤ i) = true) ∧ (decide (i < ↑(rowLen [Col.ints IntKind.u64 xs, Col.ints IntKind.i64 ys])) = true) ∧ True) ∧ (e = Ex.ret ∧ σ = (T26j (b) (r) (p) (xs) (ys) (i) (k) (true) (0) (k) (opI BinOp.add IntKind.u64 s (IntKind.u64.wrap (ys.getD i.toNat 0))) (i) (n) (j)).abs))
  (h1 : ((cmpI BinOp.geq i 0) = true) → ((cmpI BinOp.eql
  (if wN b r p (opI BinOp.sub IntKind.u64 (xs.getD k.toNat 0) (xs.getD i.toNat 0)) < 18446744073709551616 then 0
  else 16)
  0) = true) → ((cmpI BinOp.gtr (opI BinOp.add IntKind.u64 s (IntKind.u64.wrap (ys.getD i.toNat 0)))
  (if wN b r p (opI BinOp.sub IntKind.u64 (xs.getD k.toNat 0) (xs.getD i.toNat 0)) < 18446744073709551616 then
    wN b r p (opI BinOp.sub IntKind.u64 (xs.getD k.toNat 0) (xs.getD i.toNat 0))
  else 0)) = false) → ((limE b r p = 0) ∧ (0 ≤ opI BinOp.sub IntKind.u64 (xs.getD k.toNat 0) (xs.getD i.toNat 0)) ∧ (opI BinOp.sub IntKind.u64 (xs.getD k.toNat 0) (xs.getD i.toNat 0) < 18446744073709551616) ∧ (decide (0 ≤ i) = true) ∧ (decide (i < ↑(rowLen [Col.ints IntKind.u64 xs, Col.ints IntKind.i64 ys])) = true) ∧ (decide (0 ≤ k) = true) ∧ (decide (k < ↑(rowLen [Col.ints IntKind.u64 xs, Col.ints IntKind.i64 ys])) = true) ∧ (decide (0 ≤ i) = true) ∧ (decide (i < ↑(rowLen [Col.ints IntKind.u64 xs, Col.ints IntKind.i64 ys])) = true) ∧ True) ∧ Runs Try.prog (CallsD Try.prog) (.rounds (loopAt Try.prog 26 2)) (T26j (b) (r) (p) (xs) (ys) (o1) (o2) (o3) (o4) (k) (opI BinOp.add IntKind.u64 s (IntKind.u64.wrap (ys.getD i.toNat 0))) (opI BinOp.sub IntKind.i64 i 1) (n) (j)).abs e σ)
  (h2 : ((cmpI BinOp.geq i 0) = true) → ((cmpI BinOp.eql
  (if wN b r p (opI BinOp.sub IntKind.u64 (xs.getD k.toNat 0) (xs.getD i.toNat 0)) < 18446744073709551616 then 0
  else 16)
  0) = false) → ((limE b r p = 0) ∧ (0 ≤ opI BinOp.sub IntKind.u64 (xs.getD k.toNat 0) (xs.getD i.toNat 0)) ∧ (opI BinOp.sub IntKind.u64 (xs.getD k.toNat 0) (xs.getD i.toNat 0) < 18446744073709551616) ∧ (decide (0 ≤ i) = true) ∧ (decide (i < ↑(rowLen [Col.ints IntKind.u64 xs, Col.ints IntKind.i64 ys])) = true) ∧ (decide (0 ≤ k) = true) ∧ (decide (k < ↑(rowLen [Col.ints IntKind.u64 xs, Col.ints IntKind.i64 ys])) = true) ∧ (decide (0 ≤ i) = true) ∧ (decide (i < ↑(rowLen [Col.ints IntKind.u64 xs, Col.ints IntKind.i64 ys])) = true) ∧ True) ∧ Runs Try.prog (CallsD Try.prog) (.rounds (loopAt Try.prog 26 2)) (T26j (b) (r) (p) (xs) (ys) (o1) (o2) (o3) (o4) (k) (opI BinOp.add IntKind.u64 s (IntKind.u64.wrap (ys.getD i.toNat 0))) (opI BinOp.sub IntKind.i64 i 1) (n) (j)).abs e σ)
  (h3 : ((cmpI BinOp.geq i 0) = false) → (True) ∧ (e = Ex.exit 4 ∧ σ = (T26j (b) (r) (p) (xs) (ys) (o1) (o2) (o3) (o4) (k) (s) (i) (n) (j)).abs)) :
  Runs Try.prog (CallsD Try.prog) (.rounds (loopAt Try.prog 26 2)) (T26j b r p xs ys o1 o2 o3 o4 k s i n j).abs e σ := by
  cases e0 : (cmpI BinOp.geq i 0) with
  | true =>
    cases e1 : (cmpI BinOp.eql
  (if wN b r p (opI BinOp.sub IntKind.u64 (xs.getD k.toNat 0) (xs.getD i.toNat 0)) < 18446744073709551616 then 0
  else 16)
  0) with
    | true =>
      cases e2 : (cmpI BinOp.gtr (opI BinOp.add IntKind.u64 s (IntKind.u64.wrap (ys.getD i.toNat 0)))
  (if wN b r p (opI BinOp.sub IntKind.u64 (xs.getD k.toNat 0) (xs.getD i.toNat 0)) < 18446744073709551616 then
    wN b r p (opI BinOp.sub IntKind.u64 (xs.getD k.toNat 0) (xs.getD i.toNat 0))
  else 0)) with
      | true =>
        exact rounds_end hX10 (over26J_r0 b r p xs ys o1 o2 o3 o4 k s i n j) ⟨e2, e1, (h0 e0 e1 e2).1.1, (h0 e0 e1 e2).1.2.1, (h0 e0 e1 e2).1.2.2.1, (h0 e0 e1 e2).1.2.2.2.1, (h0 e0 e1 e2).1.2.2.2.2.1, (h0 e0 e1 e2).1.2.2.2.2.2.1, (h0 e0 e1 e2).1.2.2.2.2.2.2.1, (h0 e0 e1 e2).1.2.2.2.2.2.2.2.1, (h0 e0 e1 e2).1.2.2.2.2.2.2.2.2.1, e0, trivial⟩ (by simp) (h0 e0 e1 e2).2
      | false =>
        exact rounds_on hX10 (over26J_r1 b r p xs ys o1 o2 o3 o4 k s i n j) ⟨e2, e1, (h1 e0 e1 e2).1.1, (h1 e0 e1 e2).1.2.1, (h1 e0 e1 e2).1.2.2.1, (h1 e0 e1 e2).1.2.2.2.1, (h1 e0 e1 e2).1.2.2.2.2.1, (h1 e0 e1 e2).1.2.2.2.2.2.1, (h1 e0 e1 e2).1.2.2.2.2.2.2.1, (h1 e0 e1 e2).1.2.2.2.2.2.2.2.1, (h1 e0 e1 e2).1.2.2.2.2.2.2.2.2.1, e0, trivial⟩ (h1 e0 e1 e2).2
    | false =>
      exact rounds_on hX10 (over26J_r2 b r p xs ys o1 o2 o3 o4 k s i n j) ⟨e1, (h2 e0 e1).1.1, (h2 e0 e1).1.2.1, (h2 e0 e1).1.2.2.1, (h2 e0 e1).1.2.2.2.1, (h2 e0 e1).1.2.2.2.2.1, (h2 e0 e1).1.2.2.2.2.2.1, (h2 e0 e1).1.2.2.2.2.2.2.1, (h2 e0 e1).1.2.2.2.2.2.2.2.1, (h2 e0 e1).1.2.2.2.2.2.2.2.2.1, e0, trivial⟩ (h2 e0 e1).2
  | false =>
    exact rounds_end hX10 (over26J_r3 b r p xs ys o1 o2 o3 o4 k s i n j) ⟨e0, trivial⟩ (by simp) (h3 e0).2
theorem over26L_r0 (b : Int) (r : Int) (p : Int) (xs : List Int) (ys : List Int) (o1 : Int) (o2 : Int) (o3 : Bool) (o4 : Int) (n : Int) (k : Int) (s : Int) (i : Int) : roundX Try.prog X10 100000 (loopAt Try.prog 26 1) [.d true, PE.l [[1, 2, 4, 5, 6, 7, 11, 12, 13, 56, 57]] [(64, 64)] (T26j b r p xs ys o1 o2 o3 o4 k 0 k n k) (Ex.exit 4)
  (T26j b r p xs ys o1 o2 o3 o4 k s i n k)] [[1, 2, 4, 5, 6, 7, 56, 57]] [(64, 64)] (T26k b r p xs ys o1 o2 o3 o4 n k) = some (Ex.normal, (T26k (b) (r) (p) (xs) (ys) (o1) (o2) (o3) (o4) (n) (opI BinOp.add IntKind.i64 k 1)), [(T26j b r p xs ys o1 o2 o3 o4 k 0 k n k = T26j b r p xs ys o1 o2 o3 o4 k 0 k n k),
  Runs Try.prog (CallsD Try.prog) (.code (.loop (loopAt Try.prog 26 2))) (T26j b r p xs ys o1 o2 o3 o4 k 0 k n k).abs (Ex.exit 4) (T26j b r p xs ys o1 o2 o3 o4 k s i n k).abs,
  cmpI BinOp.lss k n = true]) := by kernel_rfl
theorem over26L_r1 (b : Int) (r : Int) (p : Int) (xs : List Int) (ys : List Int) (o1 : Int) (o2 : Int) (o3 : Bool) (o4 : Int) (n : Int) (k : Int) (s : Int) (i : Int) : roundX Try.prog X10 100000 (loopAt Try.prog 26 1) [.d false] [[1, 2, 4, 5, 6, 7, 56, 57]] [(64, 64)] (T26k b r p xs ys o1 o2 o3 o4 n k) = some (Ex.exit 2, (T26k (b) (r) (p) (xs) (ys) (o1) (o2) (o3) (o4) (n) (k)), [cmpI BinOp.lss k n = false]) := by kernel_rfl
theorem over26L_step (b : Int) (r : Int) (p : Int) (xs : List Int) (ys : List Int) (o1 : Int) (o2 : Int) (o3 : Bool) (o4 : Int) (n : Int) (k : Int) (s : Int) (i : Int) (σ : St) (e : Ex)
  (h0 : ((cmpI BinOp.lss k n) = true) → ((Runs Try.prog (CallsD Try.prog) (.code (.loop (loopAt Try.prog 26 2))) (T26j b r p xs ys o1 o2 o3 o4 k 0 k n k).abs (Ex.exit 4) (T26j b r p xs ys o1 o2 o3 o4 k s i n k).abs) ∧ True) ∧ Runs Try.prog (CallsD Try.prog) (.rounds (loopAt Try.prog 26 1)) (T26k (b) (r) (p) (xs) (ys) (o1) (o2) (o3) (o4) (n) (opI BinOp.add IntKind.i64 k 1)).abs e σ)
  (h1 : ((cmpI BinOp.lss k n) = false) → (True) ∧ (e = Ex.exit 2 ∧ σ = (T26k (b) (r) (p) (xs) (ys) (o1) (o2) (o3) (o4) (n) (k)).abs)) :
  Runs Try.prog (CallsD Try.prog) (.rounds (loopAt Try.prog 26 1)) (T26k b r p xs ys o1 o2 o3 o4 n k).abs e σ := by
  cases e0 : (cmpI BinOp.lss k n) with
  | true =>
    exact rounds_on hX10 (over26L_r0 b r p xs ys o1 o2 o3 o4 n k s i) ⟨rfl, (h0 e0).1.1, e0, trivial⟩ (h0 e0).2
  | false =>
    exact rounds_end hX10 (over26L_r1 b r p xs ys o1 o2 o3 o4 n k s i) ⟨e0, trivial⟩ (by simp) (h1 e0).2
theorem over26M_r0 (b : Int) (r : Int) (p : Int) (xs : List Int) (ys : List Int) (o1 : Int) (o2 : Int) (o3 : Bool) (o4 : Int) (n : Int) (k : Int) (s : Int) (i : Int) : roundX Try.prog X10 100000 (loopAt Try.prog 26 1) [.d true, PE.l [[1, 2, 4, 5, 6, 7, 11, 12, 13, 56, 57]] [(64, 64)] (T26j b r p xs ys o1 o2 o3 o4 k 0 k n k) Ex.ret
  (T26j b r p xs ys i k true 0 k s i n k)] [[1, 2, 4, 5, 6, 7, 56, 57]] [(64, 64)] (T26k b r p xs ys o1 o2 o3 o4 n k) = some (Ex.ret, (T26k (b) (r) (p) (xs) (ys) (i) (k) (true) (0) (n) (k)), [(T26j b r p xs ys o1 o2 o3 o4 k 0 k n k = T26j b r p xs ys o1 o2 o3 o4 k 0 k n k),
  Runs Try.prog (CallsD Try.prog) (.code (.loop (loopAt Try.prog 26 2))) (T26j b r p xs ys o1 o2 o3 o4 k 0 k n k).abs (Ex.ret) (T26j b r p xs ys i k true 0 k s i n k).abs,
  cmpI BinOp.lss k n = true]) := by kernel_rfl
theorem over26M_r1 (b : Int) (r : Int) (p : Int) (xs : List Int) (ys : List Int) (o1 : Int) (o2 : Int) (o3 : Bool) (o4 : Int) (n : Int) (k : Int) (s : Int) (i : Int) : roundX Try.prog X10 100000 (loopAt Try.prog 26 1) [.d false] [[1, 2, 4, 5, 6, 7, 56, 57]] [(64, 64)] (T26k b r p xs ys o1 o2 o3 o4 n k) = some (Ex.exit 2, (T26k (b) (r) (p) (xs) (ys) (o1) (o2) (o3) (o4) (n) (k)), [cmpI BinOp.lss k n = false]) := by kernel_rfl
theorem over26M_step (b : Int) (r : Int) (p : Int) (xs : List Int) (ys : List Int) (o1 : Int) (o2 : Int) (o3 : Bool) (o4 : Int) (n : Int) (k : Int) (s : Int) (i : Int) (σ : St) (e : Ex)
  (h0 : ((cmpI BinOp.lss k n) = true) → ((Runs Try.prog (CallsD Try.prog) (.code (.loop (loopAt Try.prog 26 2))) (T26j b r p xs ys o1 o2 o3 o4 k 0 k n k).abs (Ex.ret) (T26j b r p xs ys i k true 0 k s i n k).abs) ∧ True) ∧ (e = Ex.ret ∧ σ = (T26k (b) (r) (p) (xs) (ys) (i) (k) (true) (0) (n) (k)).abs))
  (h1 : ((cmpI BinOp.lss k n) = false) → (True) ∧ (e = Ex.exit 2 ∧ σ = (T26k (b) (r) (p) (xs) (ys) (o1) (o2) (o3) (o4) (n) (k)).abs)) :
  Runs Try.prog (CallsD Try.prog) (.rounds (loopAt Try.prog 26 1)) (T26k b r p xs ys o1 o2 o3 o4 n k).abs e σ := by
  cases e0 : (cmpI BinOp.lss k n) with
  | true =>
    exact rounds_end hX10 (over26M_r0 b r p xs ys o1 o2 o3 o4 n k s i) ⟨rfl, (h0 e0).1.1, e0, trivial⟩ (by simp) (h0 e0).2
  | false =>
    exact rounds_end hX10 (over26M_r1 b r p xs ys o1 o2 o3 o4 n k s i) ⟨e0, trivial⟩ (by simp) (h1 e0).2
theorem over26x_p0 (b : Int) (r : Int) (p : Int) (xs : List Int) (ys : List Int) (j : Int) (k : Int) : fnX Try.prog X10 100000 [.d true] 26 [D.agg [D.v (Value.int IntKind.i64 b), D.v (Value.int IntKind.i64 r), D.v (Value.int IntKind.i64 p)],
  D.rc [Col.ints IntKind.u64 xs, Col.ints IntKind.i64 ys]] = some (D.tup
  [D.v (Value.int IntKind.i64 0), D.v (Value.int IntKind.i64 0), D.v (Value.bool false),
    D.v (Value.int IntKind.i64 (limE b r p))], [cmpI BinOp.neq (limE b r p) 0 = true]) := by kernel_rfl
theorem over26x_p1 (b : Int) (r : Int) (p : Int) (xs : List Int) (ys : List Int) (j : Int) (k : Int) : fnX Try.prog X10 100000 [.d false, .d true] 26 [D.agg [D.v (Value.int IntKind.i64 b), D.v (Value.int IntKind.i64 r), D.v (Value.int IntKind.i64 p)],
  D.rc [Col.ints IntKind.u64 xs, Col.ints IntKind.i64 ys]] = some (D.tup
  [D.v (Value.int IntKind.i64 0), D.v (Value.int IntKind.i64 0), D.v (Value.bool false), D.v (Value.int IntKind.i64 4)], [cmpI BinOp.gtr (↑(rowLen [Col.ints IntKind.u64 xs, Col.ints IntKind.i64 ys])) 60 = true,
  cmpI BinOp.neq (limE b r p) 0 = false]) := by kernel_rfl
theorem over26x_p2 (b : Int) (r : Int) (p : Int) (xs : List Int) (ys : List Int) (j : Int) (k : Int) : fnX Try.prog X10 100000 [.d false, .d false, PE.l [[1, 2, 4, 5, 6, 7, 24, 25, 26]] [(64, 64)] (T26 b r p xs ys 0 0 false 0 (↑xs.length) 0)
  (Ex.exit 0)
  (T26 b r p xs ys 0 0 false 0 (↑xs.length)
    j), PE.l [[1, 2, 4, 5, 6, 7, 56, 57]] [(64, 64)] (T26k b r p xs ys 0 0 false 0 (↑xs.length) 0) (Ex.exit 2)
  (T26k b r p xs ys 0 0 false 0 (↑xs.length) k)] 26 [D.agg [D.v (Value.int IntKind.i64 b), D.v (Value.int IntKind.i64 r), D.v (Value.int IntKind.i64 p)],
  D.rc [Col.ints IntKind.u64 xs, Col.ints IntKind.i64 ys]] = some (D.tup
  [D.v (Value.int IntKind.i64 0), D.v (Value.int IntKind.i64 0), D.v (Value.bool false), D.v (Value.int IntKind.i64 0)], [(T26k b r p xs ys 0 0 false 0 (↑xs.length) 0 = T26k b r p xs ys 0 0 false 0 (↑xs.length) 0),
  Runs Try.prog (CallsD Try.prog) (.code (.loop (loopAt Try.prog 26 1))) (T26k b r p xs ys 0 0 false 0 (↑xs.length) 0).abs (Ex.exit 2) (T26k b r p xs ys 0 0 false 0 (↑xs.length) k).abs,
  (T26 b r p xs ys 0 0 false 0 (↑xs.length) 0 = T26 b r p xs ys 0 0 false 0 (↑xs.length) 0),
  Runs Try.prog (CallsD Try.prog) (.code (.loop (loopAt Try.prog 26 0))) (T26 b r p xs ys 0 0 false 0 (↑xs.length) 0).abs (Ex.exit 0) (T26 b r p xs ys 0 0 false 0 (↑xs.length) j).abs,
  cmpI BinOp.gtr (↑(rowLen [Col.ints IntKind.u64 xs, Col.ints IntKind.i64 ys])) 60 = false,
  cmpI BinOp.neq (limE b r p) 0 = false]) := by kernel_rfl
theorem over26x_calls (b : Int) (r : Int) (p : Int) (xs : List Int) (ys : List Int) (j : Int) (k : Int) (res : D)
  (h0 : ((cmpI BinOp.neq (limE b r p) 0) = true) → (True) ∧ res = D.tup
  [D.v (Value.int IntKind.i64 0), D.v (Value.int IntKind.i64 0), D.v (Value.bool false),
    D.v (Value.int IntKind.i64 (limE b r p))])
  (h1 : ((cmpI BinOp.neq (limE b r p) 0) = false) → ((cmpI BinOp.gtr (↑(rowLen [Col.ints IntKind.u64 xs, Col.ints IntKind.i64 ys])) 60) = true) → (True) ∧ res = D.tup
  [D.v (Value.int IntKind.i64 0), D.v (Value.int IntKind.i64 0), D.v (Value.bool false), D.v (Value.int IntKind.i64 4)])
  (h2 : ((cmpI BinOp.neq (limE b r p) 0) = false) → ((cmpI BinOp.gtr (↑(rowLen [Col.ints IntKind.u64 xs, Col.ints IntKind.i64 ys])) 60) = false) → ((Runs Try.prog (CallsD Try.prog) (.code (.loop (loopAt Try.prog 26 1))) (T26k b r p xs ys 0 0 false 0 (↑xs.length) 0).abs (Ex.exit 2) (T26k b r p xs ys 0 0 false 0 (↑xs.length) k).abs) ∧ (Runs Try.prog (CallsD Try.prog) (.code (.loop (loopAt Try.prog 26 0))) (T26 b r p xs ys 0 0 false 0 (↑xs.length) 0).abs (Ex.exit 0) (T26 b r p xs ys 0 0 false 0 (↑xs.length) j).abs) ∧ True) ∧ res = D.tup
  [D.v (Value.int IntKind.i64 0), D.v (Value.int IntKind.i64 0), D.v (Value.bool false), D.v (Value.int IntKind.i64 0)]) :
  CallsD Try.prog 26 [D.agg [D.v (Value.int IntKind.i64 b), D.v (Value.int IntKind.i64 r), D.v (Value.int IntKind.i64 p)],
  D.rc [Col.ints IntKind.u64 xs, Col.ints IntKind.i64 ys]] res := by
  cases e0 : (cmpI BinOp.neq (limE b r p) 0) with
  | true =>
    exact of_path hX10 (over26x_p0 b r p xs ys j k) ⟨e0, trivial⟩ (h0 e0).2
  | false =>
    cases e1 : (cmpI BinOp.gtr (↑(rowLen [Col.ints IntKind.u64 xs, Col.ints IntKind.i64 ys])) 60) with
    | true =>
      exact of_path hX10 (over26x_p1 b r p xs ys j k) ⟨e1, e0, trivial⟩ (h1 e0 e1).2
    | false =>
      exact of_path hX10 (over26x_p2 b r p xs ys j k) ⟨rfl, (h2 e0 e1).1.1, rfl, (h2 e0 e1).1.2.1, e1, e0, trivial⟩ (h2 e0 e1).2
theorem over26y_p0 (b : Int) (r : Int) (p : Int) (xs : List Int) (ys : List Int) (j : Int) (i : Int) (k : Int) : fnX Try.prog X10 100000 [.d true] 26 [D.agg [D.v (Value.int IntKind.i64 b), D.v (Value.int IntKind.i64 r), D.v (Value.int IntKind.i64 p)],
  D.rc [Col.ints IntKind.u64 xs, Col.ints IntKind.i64 ys]] = some (D.tup
  [D.v (Value.int IntKind.i64 0), D.v (Value.int IntKind.i64 0), D.v (Value.bool false),
    D.v (Value.int IntKind.i64 (limE b r p))], [cmpI BinOp.neq (limE b r p) 0 = true]) := by kernel_rfl
theorem over26y_p1 (b : Int) (r : Int) (p : Int) (xs : List Int) (ys : List Int) (j : Int) (i : Int) (k : Int) : fnX Try.prog X10 100000 [.d false, .d true] 26 [D.agg [D.v (Value.int IntKind.i64 b), D.v (Value.int IntKind.i64 r), D.v (Value.int IntKind.i64 p)],
  D.rc [Col.ints IntKind.u64 xs, Col.ints IntKind.i64 ys]] = some (D.tup
  [D.v (Value.int IntKind.i64 0), D.v (Value.int IntKind.i64 0), D.v (Value.bool false), D.v (Value.int IntKind.i64 4)], [cmpI BinOp.gtr (↑(rowLen [Col.ints IntKind.u64 xs, Col.ints IntKind.i64 ys])) 60 = true,
  cmpI BinOp.neq (limE b r p) 0 = false]) := by kernel_rfl
theorem over26y_p2 (b : Int) (r : Int) (p : Int) (xs : List Int) (ys : List Int) (j : Int) (i : Int) (k : Int) : fnX Try.prog X10 100000 [.d false, .d false, PE.l [[1, 2, 4, 5, 6, 7, 24, 25, 26]] [(64, 64)] (T26 b r p xs ys 0 0 false 0 (↑xs.length) 0)
  (Ex.exit 0)
  (T26 b r p xs ys 0 0 false 0 (↑xs.length)
    j), PE.l [[1, 2, 4, 5, 6, 7, 56, 57]] [(64, 64)] (T26k b r p xs ys 0 0 false 0 (↑xs.length) 0) Ex.ret
  (T26k b r p xs ys i k true 0 (↑xs.length) k)] 26 [D.agg [D.v (Value.int IntKind.i64 b), D.v (Value.int IntKind.i64 r), D.v (Value.int IntKind.i64 p)],
  D.rc [Col.ints IntKind.u64 xs, Col.ints IntKind.i64 ys]] = some (D.tup
  [D.v (Value.int IntKind.i64 i), D.v (Value.int IntKind.i64 k), D.v (Value.bool true), D.v (Value.int IntKind.i64 0)], [(T26k b r p xs ys 0 0 false 0 (↑xs.length) 0 = T26k b r p xs ys 0 0 false 0 (↑xs.length) 0),
  Runs Try.prog (CallsD Try.prog) (.code (.loop (loopAt Try.prog 26 1))) (T26k b r p xs ys 0 0 false 0 (↑xs.length) 0).abs (Ex.ret) (T26k b r p xs ys i k true 0 (↑xs.length) k).abs,
  (T26 b r p xs ys 0 0 false 0 (↑xs.length) 0 = T26 b r p xs ys 0 0 false 0 (↑xs.length) 0),
  Runs Try.prog (CallsD Try.prog) (.code (.loop (loopAt Try.prog 26 0))) (T26 b r p xs ys 0 0 false 0 (↑xs.length) 0).abs (Ex.exit 0) (T26 b r p xs ys 0 0 false 0 (↑xs.length) j).abs,
  cmpI BinOp.gtr (↑(rowLen [Col.ints IntKind.u64 xs, Col.ints IntKind.i64 ys])) 60 = false,
  cmpI BinOp.neq (limE b r p) 0 = false]) := by kernel_rfl
theorem over26y_calls (b : Int) (r : Int) (p : Int) (xs : List Int) (ys : List Int) (j : Int) (i : Int) (k : Int) (res : D)
  (h0 : ((cmpI BinOp.neq (limE b r p) 0) = true) → (True) ∧ res = D.tup
  [D.v (Value.int IntKind.i64 0), D.v (Value.int IntKind.i64 0), D.v (Value.bool false),
    D.v (Value.int IntKind.i64 (limE b r p))])
  (h1 : ((cmpI BinOp.neq (limE b r p) 0) = false) → ((cmpI BinOp.gtr (↑(rowLen [Col.ints IntKind.u64 xs, Col.ints IntKind.i64 ys])) 60) = true) → (True) ∧ res = D.tup
  [D.v (Value.int IntKind.i64 0), D.v (Value.int IntKind.i64 0), D.v (Value.bool false), D.v (Value.int IntKind.i64 4)])
  (h2 : ((cmpI BinOp.neq (limE b r p) 0) = false) → ((cmpI BinOp.gtr (↑(rowLen [Col.ints IntKind.u64 xs, Col.ints IntKind.i64 ys])) 60) = false) → ((Runs Try.prog (CallsD Try.prog) (.code (.loop (loopAt Try.prog 26 1))) (T26k b r p xs ys 0 0 false 0 (↑xs.length) 0).abs (Ex.ret) (T26k b r p xs ys i k true 0 (↑xs.length) k).abs) ∧ (Runs Try.prog (CallsD Try.prog) (.code (.loop (loopAt Try.prog 26 0))) (T26 b r p xs ys 0 0 false 0 (↑xs.length) 0).abs (Ex.exit 0) (T26 b r p xs ys 0 0 false 0 (↑xs.length) j).abs) ∧ True) ∧ res = D.tup
  [D.v (Value.int IntKind.i64 i), D.v (Value.int IntKind.i64 k), D.v (Value.bool true), D.v (Value.int IntKind.i64 0)]) :
  CallsD Try.prog 26 [D.agg [D.v (Value.int IntKind.i64 b), D.v (Value.int IntKind.i64 r), D.v (Value.int IntKind.i64 p)],
  D.rc [Col.ints IntKind.u64 xs, Col.ints IntKind.i64 ys]] res := by
  cases e0 : (cmpI BinOp.neq (limE b r p) 0) with
  | true =>
    exact of_path hX10 (over26y_p0 b r p xs ys j i k) ⟨e0, trivial⟩ (h0 e0).2
  | false =>
    cases e1 : (cmpI BinOp.gtr (↑(rowLen [Col.ints IntKind.u64 xs, Col.ints IntKind.i64 ys])) 60) with
    | true =>
      exact of_path hX10 (over26y_p1 b r p xs ys j i k) ⟨e1, e0, trivial⟩ (h1 e0 e1).2
    | false =>
      exact of_path hX10 (over26y_p2 b r p xs ys j i k) ⟨rfl, (h2 e0 e1).1.1, rfl, (h2 e0 e1).1.2.1, e1, e0, trivial⟩ (h2 e0 e1).2
theorem over26z_p0 (b : Int) (r : Int) (p : Int) (xs : List Int) (ys : List Int) (j : Int) : fnX Try.prog X10 100000 [.d true] 26 [D.agg [D.v (Value.int IntKind.i64 b), D.v (Value.int IntKind.i64 r), D.v (Value.int IntKind.i64 p)],
  D.rc [Col.ints IntKind.u64 xs, Col.ints IntKind.i64 ys]] = some (D.tup
  [D.v (Value.int IntKind.i64 0), D.v (Value.int IntKind.i64 0), D.v (Value.bool false),
    D.v (Value.int IntKind.i64 (limE b r p))], [cmpI BinOp.neq (limE b r p) 0 = true]) := by kernel_rfl
theorem over26z_p1 (b : Int) (r : Int) (p : Int) (xs : List Int) (ys : List Int) (j : Int) : fnX Try.prog X10 100000 [.d false, .d true] 26 [D.agg [D.v (Value.int IntKind.i64 b), D.v (Value.int IntKind.i64 r), D.v (Value.int IntKind.i64 p)],
  D.rc [Col.ints IntKind.u64 xs, Col.ints IntKind.i64 ys]] = some (D.tup
  [D.v (Value.int IntKind.i64 0), D.v (Value.int IntKind.i64 0), D.v (Value.bool false), D.v (Value.int IntKind.i64 4)], [cmpI BinOp.gtr (↑(rowLen [Col.ints IntKind.u64 xs, Col.ints IntKind.i64 ys])) 60 = true,
  cmpI BinOp.neq (limE b r p) 0 = false]) := by kernel_rfl
theorem over26z_p2 (b : Int) (r : Int) (p : Int) (xs : List Int) (ys : List Int) (j : Int) : fnX Try.prog X10 100000 [.d false, .d false, PE.l [[1, 2, 4, 5, 6, 7, 24, 25, 26]] [(64, 64)] (T26 b r p xs ys 0 0 false 0 (↑xs.length) 0)
  Ex.ret (T26 b r p xs ys 0 0 false 8 (↑xs.length) j)] 26 [D.agg [D.v (Value.int IntKind.i64 b), D.v (Value.int IntKind.i64 r), D.v (Value.int IntKind.i64 p)],
  D.rc [Col.ints IntKind.u64 xs, Col.ints IntKind.i64 ys]] = some (D.tup
  [D.v (Value.int IntKind.i64 0), D.v (Value.int IntKind.i64 0), D.v (Value.bool false), D.v (Value.int IntKind.i64 8)], [(T26 b r p xs ys 0 0 false 0 (↑xs.length) 0 = T26 b r p xs ys 0 0 false 0 (↑xs.length) 0),
  Runs Try.prog (CallsD Try.prog) (.code (.loop (loopAt Try.prog 26 0))) (T26 b r p xs ys 0 0 false 0 (↑xs.length) 0).abs (Ex.ret) (T26 b r p xs ys 0 0 false 8 (↑xs.length) j).abs,
  cmpI BinOp.gtr (↑(rowLen [Col.ints IntKind.u64 xs, Col.ints IntKind.i64 ys])) 60 = false,
  cmpI BinOp.neq (limE b r p) 0 = false]) := by kernel_rfl
theorem over26z_calls (b : Int) (r : Int) (p : Int) (xs : List Int) (ys : List Int) (j : Int) (res : D)
  (h0 : ((cmpI BinOp.neq (limE b r p) 0) = true) → (True) ∧ res = D.tup
  [D.v (Value.int IntKind.i64 0), D.v (Value.int IntKind.i64 0), D.v (Value.bool false),
    D.v (Value.int IntKind.i64 (limE b r p))])
  (h1 : ((cmpI BinOp.neq (limE b r p) 0) = false) → ((cmpI BinOp.gtr (↑(rowLen [Col.ints IntKind.u64 xs, Col.ints IntKind.i64 ys])) 60) = true) → (True) ∧ res = D.tup
  [D.v (Value.int IntKind.i64 0), D.v (Value.int IntKind.i64 0), D.v (Value.bool false), D.v (Value.int IntKind.i64 4)])
  (h2 : ((cmpI BinOp.neq (limE b r p) 0) = false) → ((cmpI BinOp.gtr (↑(rowLen [Col.ints IntKind.u64 xs, Col.ints IntKind.i64 ys])) 60) = false) → ((Runs Try.prog (CallsD Try.prog) (.code (.loop (loopAt Try.prog 26 0))) (T26 b r p xs ys 0 0 false 0 (↑xs.length) 0).abs (Ex.ret) (T26 b r p xs ys 0 0 false 8 (↑xs.length) j).abs) ∧ True) ∧ res = D.tup
  [D.v (Value.int IntKind.i64 0), D.v (Value.int IntKind.i64 0), D.v (Value.bool false), D.v (Value.int IntKind.i64 8)]) :
  CallsD Try.prog 26 [D.agg [D.v (Value.int IntKind.i64 b), D.v (Value.int IntKind.i64 r), D.v (Value.int IntKind.i64 p)],
  D.rc [Col.ints IntKind.u64 xs, Col.ints IntKind.i64 ys]] res := by
  cases e0 : (cmpI BinOp.neq (limE b r p) 0) with
  | true =>
    exact of_path hX10 (over26z_p0 b r p xs ys j) ⟨e0, trivial⟩ (h0 e0).2
  | false =>
    cases e1 : (cmpI BinOp.gtr (↑(rowLen [Col.ints IntKind.u64 xs, Col.ints IntKind.i64 ys])) 60) with
    | true =>
      exact of_path hX10 (over26z_p1 b r p xs ys j) ⟨e1, e0, trivial⟩ (h1 e0 e1).2
    | false =>
      exact of_path hX10 (over26z_p2 b r p xs ys j) ⟨rfl, (h2 e0 e1).1.1, e1, e0, trivial⟩ (h2 e0 e1).2
theorem c26_on (b r p : Int) (xs ys : List Int) (o1 o2 : Int) (o3 : Bool) (o4 : Int) (i : Nat) (hn : xs.length ≤ 60) (hi : i < xs.length) (ok : okAt xs ys i = true) (σ : St) (e : Ex)
    (h : Runs Try.prog (CallsD Try.prog) (.rounds (loopAt Try.prog 26 0)) (T26 b r p xs ys o1 o2 o3 o4 xs.length ((i + 1 : Nat) : Int)).abs e σ) :
    Runs Try.prog (CallsD Try.prog) (.rounds (loopAt Try.prog 26 0)) (T26 b r p xs ys o1 o2 o3 o4 xs.length i).abs e σ := by
  obtain ⟨q1, q2, q3⟩ := okAt_iff.1 ok
  have e1 : opI .add .i64 (i : Int) 1 = ((i + 1 : Nat) : Int) := by rw [opI_add, wrap_i64_of (by omega) (by omega)]; omega
  have e2 : opI .sub .i64 (i : Int) 1 = (i : Int) - 1 := by rw [opI_sub, wrap_i64_of (by omega) (by omega)]
  refine over26A_step b r p xs ys o1 o2 o3 o4 _ i σ e ?_ ?_ ?_ ?_ ?_ ?_
  all_goals
    simp only [rl, lss_t, lss_f, gtr_t, gtr_f, Int.toNat_natCast, e1, e2, decide_eq_true_eq]
    intros
  · omega
  · omega
  · rw [show ((i : Int) - 1).toNat = i - 1 by omega] at *; omega
  · exact ⟨by ((repeat' apply And.intro) <;> first | trivial | omega | (apply decide_eq_true; omega)), h⟩
  · exact ⟨by ((repeat' apply And.intro) <;> first | trivial | omega | (apply decide_eq_true; omega)), h⟩
  · omega
theorem c26_ret (b r p : Int) (xs ys : List Int) (o1 o2 : Int) (o3 : Bool) (o4 : Int) (i : Nat) (hn : xs.length ≤ 60) (hi : i < xs.length) (ok : okAt xs ys i = false) :
    Runs Try.prog (CallsD Try.prog) (.rounds (loopAt Try.prog 26 0)) (T26 b r p xs ys o1 o2 o3 o4 xs.length i).abs .ret (T26 b r p xs ys 0 0 false 8 xs.length i).abs := by
  have ok' : ¬ (0 ≤ ys.getD i 0 ∧ ys.getD i 0 ≤ 4294967295 ∧ (i = 0 ∨ xs.getD (i - 1) 0 ≤ xs.getD i 0)) := fun h => by rw [okAt_iff.2 h] at ok; cases ok
  have e2 : opI .sub .i64 (i : Int) 1 = (i : Int) - 1 := by rw [opI_sub, wrap_i64_of (by omega) (by omega)]
  refine over26A_step b r p xs ys o1 o2 o3 o4 _ i _ _ ?_ ?_ ?_ ?_ ?_ ?_
  all_goals
    simp only [rl, lss_t, lss_f, gtr_t, gtr_f, Int.toNat_natCast, e2, decide_eq_true_eq]
    intros
  · exact ⟨by ((repeat' apply And.intro) <;> first | trivial | omega | (apply decide_eq_true; omega)), trivial, trivial⟩
  · exact ⟨by ((repeat' apply And.intro) <;> first | trivial | omega | (apply decide_eq_true; omega)), trivial, trivial⟩
  · exact ⟨by ((repeat' apply And.intro) <;> first | trivial | omega | (apply decide_eq_true; omega)), trivial, trivial⟩
  · rw [show ((i : Int) - 1).toNat = i - 1 by omega] at *; omega
  · omega
  · omega
theorem c26_end (b r p : Int) (xs ys : List Int) (o1 o2 : Int) (o3 : Bool) (o4 : Int) : Runs Try.prog (CallsD Try.prog) (.rounds (loopAt Try.prog 26 0)) (T26 b r p xs ys o1 o2 o3 o4 xs.length xs.length).abs (.exit 0) (T26 b r p xs ys o1 o2 o3 o4 xs.length xs.length).abs := by
  refine over26A_step b r p xs ys o1 o2 o3 o4 _ _ _ _ ?_ ?_ ?_ ?_ ?_ ?_
  all_goals
    simp only [rl, lss_t, lss_f, gtr_t, gtr_f, decide_eq_true_eq]
    intros
  · omega
  · omega
  · omega
  · omega
  · omega
  · exact ⟨trivial, trivial, trivial⟩
theorem c26_all (b r p : Int) (xs ys : List Int) (o1 o2 : Int) (o3 : Bool) (o4 : Int) (hn : xs.length ≤ 60) (ok : okUp xs ys xs.length = true) : ∀ (d i : Nat), i + d = xs.length →
    Runs Try.prog (CallsD Try.prog) (.rounds (loopAt Try.prog 26 0)) (T26 b r p xs ys o1 o2 o3 o4 xs.length i).abs (.exit 0) (T26 b r p xs ys o1 o2 o3 o4 xs.length xs.length).abs
  | 0, i, h => by rw [show i = xs.length by omega]; exact c26_end b r p xs ys o1 o2 o3 o4
  | d + 1, i, h => c26_on b r p xs ys o1 o2 o3 o4 i hn (by omega) (okUp_at ok i (by omega)) _ _ (c26_all b r p xs ys o1 o2 o3 o4 hn ok d (i + 1) (by omega))
theorem c26_bad (b r p : Int) (xs ys : List Int) (o1 o2 : Int) (o3 : Bool) (o4 : Int) (hn : xs.length ≤ 60) : ∀ (d i : Nat), i + d = xs.length → (∃ j, i ≤ j ∧ j < xs.length ∧ okAt xs ys j = false) →
    ∃ j : Int, Runs Try.prog (CallsD Try.prog) (.rounds (loopAt Try.prog 26 0)) (T26 b r p xs ys o1 o2 o3 o4 xs.length i).abs .ret (T26 b r p xs ys 0 0 false 8 xs.length j).abs
  | 0, i, h, ⟨j, h1, h2, h3⟩ => by omega
  | d + 1, i, h, ⟨j, h1, h2, h3⟩ => by
    cases c : okAt xs ys i with
    | true =>
      have hj : i + 1 ≤ j := by
        rcases Nat.lt_or_ge i j with a | a
        · exact a
        · rw [show j = i by omega, c] at h3; cases h3
      obtain ⟨j', hr⟩ := c26_bad b r p xs ys o1 o2 o3 o4 hn d (i + 1) (by omega) ⟨j, hj, h2, h3⟩
      exact ⟨j', c26_on b r p xs ys o1 o2 o3 o4 i hn (by omega) c _ _ hr⟩
    | false => exact ⟨i, c26_ret b r p xs ys o1 o2 o3 o4 i hn (by omega) c⟩
theorem j26_step (b r p : Int) (xs ys : List Int) (o1 o2 : Int) (o3 : Bool) (o4 : Int) (n j : Int) (k m : Nat) (hl : limE b r p = 0) (hc : cE xs ys = 0) (hk : k < xs.length) (hm : m ≤ k) (σ : St) (e : Ex)
    (h1 : ovB b r p xs ys m k = true → e = .ret ∧ σ = (T26j b r p xs ys m k true 0 k (sumN ys m (k + 1 - m)) m n j).abs)
    (h2 : ovB b r p xs ys m k = false → Runs Try.prog (CallsD Try.prog) (.rounds (loopAt Try.prog 26 2)) (T26j b r p xs ys o1 o2 o3 o4 k (sumN ys m (k + 1 - m)) ((m : Int) - 1) n j).abs e σ) :
    Runs Try.prog (CallsD Try.prog) (.rounds (loopAt Try.prog 26 2)) (T26j b r p xs ys o1 o2 o3 o4 k (sumN ys (m + 1) (k - m)) m n j).abs e σ := by
  obtain ⟨hn, hu⟩ := cE_ok hc
  obtain ⟨g0, g1⟩ := gapN_bounds xs m k
  have hs := sumN_bound (ys := ys) (k - m) (m + 1) fun j a c => ⟨(okAt_iff.1 (okUp_at hu j (by omega))).1, (okAt_iff.1 (okUp_at hu j (by omega))).2.1⟩
  obtain ⟨q1, q2, _⟩ := okAt_iff.1 (okUp_at hu m (by omega))
  have es : sumN ys m (k + 1 - m) = ys.getD m 0 + sumN ys (m + 1) (k - m) := by rw [show k + 1 - m = (k - m) + 1 by omega]; rfl
  have e0 : opI .add .u64 (sumN ys (m + 1) (k - m)) (IntKind.wrap .u64 (ys.getD m 0)) = sumN ys m (k + 1 - m) := by
    rw [opI_add, wrap_u64, wrap_u64, es]
    generalize sumN ys (m + 1) (k - m) = z at *
    generalize ys.getD m 0 = y at *
    omega
  have e1 : opI .sub .i64 (m : Int) 1 = m - 1 := by rw [opI_sub, wrap_i64_of (by omega) (by omega)]
  have hO : ovB b r p xs ys m k = (decide (wN b r p (gapN xs m k) < 18446744073709551616) && decide (wN b r p (gapN xs m k) < sumN ys m (k + 1 - m))) := rfl
  refine over26J_step b r p xs ys o1 o2 o3 o4 k _ m n j σ e ?_ ?_ ?_ ?_
  all_goals try simp only [Int.toNat_natCast, show opI .sub .u64 (xs.getD k 0) (xs.getD m 0) = gapN xs m k from rfl, e0, e1]
  · intro a a2 a3
    have hG : wN b r p (gapN xs m k) < 18446744073709551616 := by
      rw [eql_t] at a2; split at a2
      · assumption
      · cases a2
    rw [gtr_t] at a3
    simp only [if_pos hG] at a3
    refine ⟨by rw [rl]; ((repeat' apply And.intro) <;> first | trivial | omega | (apply decide_eq_true; omega)), h1 ?_⟩
    rw [hO, decide_eq_true hG, decide_eq_true a3]; rfl
  · intro a a2 a3
    have hG : wN b r p (gapN xs m k) < 18446744073709551616 := by
      rw [eql_t] at a2; split at a2
      · assumption
      · cases a2
    rw [gtr_f] at a3
    simp only [if_pos hG] at a3
    refine ⟨by rw [rl]; ((repeat' apply And.intro) <;> first | trivial | omega | (apply decide_eq_true; omega)), h2 ?_⟩
    rw [hO, decide_eq_true hG, decide_eq_false (by omega)]; rfl
  · intro a a2
    have hG : ¬ wN b r p (gapN xs m k) < 18446744073709551616 := fun hG => by
      rw [eql_f] at a2; simp only [if_pos hG] at a2; exact a2 rfl
    refine ⟨by rw [rl]; ((repeat' apply And.intro) <;> first | trivial | omega | (apply decide_eq_true; omega)), h2 ?_⟩
    rw [hO, decide_eq_false hG]; rfl
  · intro a; rw [geq_f] at a; omega
theorem j26_none (b r p : Int) (xs ys : List Int) (o1 o2 : Int) (o3 : Bool) (o4 : Int) (n j : Int) (k : Nat) (hl : limE b r p = 0) (hc : cE xs ys = 0) (hk : k < xs.length) : ∀ m, m ≤ k + 1 → inn (fun i => ovB b r p xs ys i k) m = none →
    Runs Try.prog (CallsD Try.prog) (.rounds (loopAt Try.prog 26 2)) (T26j b r p xs ys o1 o2 o3 o4 k (sumN ys m (k + 1 - m)) ((m : Int) - 1) n j).abs (.exit 4) (T26j b r p xs ys o1 o2 o3 o4 k (sumN ys 0 (k + 1)) (-1) n j).abs
  | 0, _, _ => by
    refine over26J_step b r p xs ys o1 o2 o3 o4 k _ _ n j _ _ ?_ ?_ ?_ ?_
    · intro a; rw [geq_t] at a; omega
    · intro a; rw [geq_t] at a; omega
    · intro a; rw [geq_t] at a; omega
    · intro a; exact ⟨trivial, rfl, rfl⟩
  | m + 1, hm, h => by
    simp only [inn] at h
    cases c : ovB b r p xs ys m k with
    | true => simp only [c, cond_true] at h; cases h
    | false =>
      simp only [c, cond_false] at h
      have ih := j26_none b r p xs ys o1 o2 o3 o4 n j k hl hc hk m (by omega) h
      rw [show ((m + 1 : Nat) : Int) - 1 = m by omega, show k + 1 - (m + 1) = k - m by omega]
      exact j26_step b r p xs ys o1 o2 o3 o4 n j k m hl hc hk (by omega) _ _ (fun a => by rw [c] at a; cases a) fun _ => ih
theorem j26_some (b r p : Int) (xs ys : List Int) (o1 o2 : Int) (o3 : Bool) (o4 : Int) (n j : Int) (k i : Nat) (hl : limE b r p = 0) (hc : cE xs ys = 0) (hk : k < xs.length) : ∀ m, m ≤ k + 1 → inn (fun i => ovB b r p xs ys i k) m = some i →
    Runs Try.prog (CallsD Try.prog) (.rounds (loopAt Try.prog 26 2)) (T26j b r p xs ys o1 o2 o3 o4 k (sumN ys m (k + 1 - m)) ((m : Int) - 1) n j).abs .ret (T26j b r p xs ys i k true 0 k (sumN ys i (k + 1 - i)) i n j).abs
  | 0, _, h => by cases h
  | m + 1, hm, h => by
    simp only [inn] at h
    rw [show ((m + 1 : Nat) : Int) - 1 = m by omega, show k + 1 - (m + 1) = k - m by omega]
    cases c : ovB b r p xs ys m k with
    | true =>
      simp only [c, cond_true] at h
      obtain rfl := Option.some.inj h
      exact j26_step b r p xs ys o1 o2 o3 o4 n j k m hl hc hk (by omega) _ _ (fun _ => ⟨rfl, rfl⟩) fun a => by rw [c] at a; cases a
    | false =>
      simp only [c, cond_false] at h
      have ih := j26_some b r p xs ys o1 o2 o3 o4 n j k i hl hc hk m (by omega) h
      exact j26_step b r p xs ys o1 o2 o3 o4 n j k m hl hc hk (by omega) _ _ (fun a => by rw [c] at a; cases a) fun _ => ih
theorem o26_none (b r p : Int) (xs ys : List Int) (o1 o2 : Int) (o3 : Bool) (o4 : Int) (hl : limE b r p = 0) (hc : cE xs ys = 0) : ∀ d k, k + d = xs.length → ovFrom (ovB b r p xs ys) d k = none →
    Runs Try.prog (CallsD Try.prog) (.rounds (loopAt Try.prog 26 1)) (T26k b r p xs ys o1 o2 o3 o4 xs.length (k : Nat)).abs (.exit 2) (T26k b r p xs ys o1 o2 o3 o4 xs.length xs.length).abs
  | 0, k, hd, _ => by
    rw [show k = xs.length by omega]
    refine over26L_step b r p xs ys o1 o2 o3 o4 _ _ 0 0 _ _ ?_ ?_
    · intro a; rw [lss_t] at a; omega
    · intro a; exact ⟨trivial, rfl, rfl⟩
  | d + 1, k, hd, h => by
    have hn := (cE_ok hc).1
    simp only [ovFrom] at h
    cases c : inn (fun i => ovB b r p xs ys i k) (k + 1) with
    | some i => rw [c] at h; cases h
    | none =>
      rw [c] at h
      have ih := o26_none b r p xs ys o1 o2 o3 o4 hl hc d (k + 1) (by omega) h
      have hi := j26_none b r p xs ys o1 o2 o3 o4 xs.length k k hl hc (by omega) (k + 1) (by omega) c
      rw [show ((k + 1 : Nat) : Int) - 1 = k by omega, Nat.sub_self] at hi
      have e1 : opI .add .i64 (k : Int) 1 = ((k + 1 : Nat) : Int) := by rw [opI_add, wrap_i64_of (by omega) (by omega)]; omega
      refine over26L_step b r p xs ys o1 o2 o3 o4 _ _ (sumN ys 0 (k + 1)) (-1) _ _ ?_ ?_
      · intro a; rw [e1]; exact ⟨⟨loop_of_rounds hi, trivial⟩, ih⟩
      · intro a; rw [lss_f] at a; omega
theorem o26_some (b r p : Int) (xs ys : List Int) (o1 o2 : Int) (o3 : Bool) (o4 : Int) (hl : limE b r p = 0) (hc : cE xs ys = 0) (i' k' : Nat) : ∀ d k, k + d = xs.length → ovFrom (ovB b r p xs ys) d k = some (i', k') →
    Runs Try.prog (CallsD Try.prog) (.rounds (loopAt Try.prog 26 1)) (T26k b r p xs ys o1 o2 o3 o4 xs.length (k : Nat)).abs .ret (T26k b r p xs ys i' k' true 0 xs.length k').abs
  | 0, k, hd, h => by cases h
  | d + 1, k, hd, h => by
    have hn := (cE_ok hc).1
    simp only [ovFrom] at h
    cases c : inn (fun i => ovB b r p xs ys i k) (k + 1) with
    | some i =>
      rw [c] at h
      simp only [Option.some.injEq, Prod.mk.injEq] at h
      obtain ⟨rfl, rfl⟩ := h
      have hi := j26_some b r p xs ys o1 o2 o3 o4 xs.length k k i hl hc (by omega) (k + 1) (by omega) c
      rw [show ((k + 1 : Nat) : Int) - 1 = k by omega, Nat.sub_self] at hi
      refine over26M_step b r p xs ys o1 o2 o3 o4 _ k (sumN ys i (k + 1 - i)) i _ _ ?_ ?_
      · intro a; exact ⟨⟨loop_of_rounds hi, trivial⟩, rfl, rfl⟩
      · intro a; rw [lss_f] at a; omega
    | none =>
      rw [c] at h
      have ih := o26_some b r p xs ys o1 o2 o3 o4 hl hc i' k' d (k + 1) (by omega) h
      have hi := j26_none b r p xs ys o1 o2 o3 o4 xs.length k k hl hc (by omega) (k + 1) (by omega) c
      rw [show ((k + 1 : Nat) : Int) - 1 = k by omega, Nat.sub_self] at hi
      have e1 : opI .add .i64 (k : Int) 1 = ((k + 1 : Nat) : Int) := by rw [opI_add, wrap_i64_of (by omega) (by omega)]; omega
      refine over26L_step b r p xs ys o1 o2 o3 o4 _ _ (sumN ys 0 (k + 1)) (-1) _ _ ?_ ?_
      · intro a; rw [e1]; exact ⟨⟨loop_of_rounds hi, trivial⟩, ih⟩
      · intro a; rw [lss_f] at a; omega
theorem over26_ok (b r p : Int) (xs ys : List Int) : CallsD Try.prog 26 [.agg [i64 b, i64 r, i64 p], crow xs ys] (ovD (ovE b r p xs ys) (ovV b r p xs ys)) := by
  by_cases hl : limE b r p = 0
  · have e : ovE b r p xs ys = cE xs ys := by unfold ovE; rw [if_pos hl]
    by_cases hn : 60 < xs.length
    · have hc : cE xs ys = 4 := by unfold cE; rw [if_pos hn]
      have v : ovV b r p xs ys = none := by unfold ovV; rw [e, if_neg (by rw [hc]; decide)]
      rw [v, e, hc]
      refine over26x_calls b r p xs ys 0 0 _ ?_ ?_ ?_
      · intro a; rw [neq_t] at a; exact absurd hl a
      · intro _ a; exact ⟨trivial, rfl⟩
      · intro _ a; rw [gtr_f, rl] at a; omega
    · cases hu : okUp xs ys xs.length with
      | true =>
        have hc : cE xs ys = 0 := by unfold cE; rw [if_neg hn, if_pos hu]
        have v : ovV b r p xs ys = ovR b r p xs ys := by unfold ovV; rw [e, if_pos hc]
        have hca := loop_of_rounds (c26_all b r p xs ys 0 0 false 0 (by omega) hu xs.length 0 (by omega))
        rw [v, e, hc]
        cases ho : ovR b r p xs ys with
        | none =>
          refine over26x_calls b r p xs ys xs.length xs.length _ ?_ ?_ ?_
          · intro a; rw [neq_t] at a; exact absurd hl a
          · intro _ a; rw [gtr_t, rl] at a; omega
          · intro _ _; exact ⟨⟨loop_of_rounds (o26_none b r p xs ys 0 0 false 0 hl hc xs.length 0 (by omega) ho), hca, trivial⟩, rfl⟩
        | some ik =>
          obtain ⟨i, k⟩ := ik
          refine over26y_calls b r p xs ys xs.length i k _ ?_ ?_ ?_
          · intro a; rw [neq_t] at a; exact absurd hl a
          · intro _ a; rw [gtr_t, rl] at a; omega
          · intro _ _; exact ⟨⟨loop_of_rounds (o26_some b r p xs ys 0 0 false 0 hl hc i k xs.length 0 (by omega) ho), hca, trivial⟩, rfl⟩
      | false =>
        have hc : cE xs ys = 8 := by unfold cE; rw [if_neg hn, if_neg (by rw [hu]; decide)]
        have v : ovV b r p xs ys = none := by unfold ovV; rw [e, if_neg (by rw [hc]; decide)]
        rw [v, e, hc]
        obtain ⟨j, hj, hb⟩ := okUp_bad hu
        obtain ⟨j', hr⟩ := c26_bad b r p xs ys 0 0 false 0 (by omega) xs.length 0 (by omega) ⟨j, by omega, hj, hb⟩
        refine over26z_calls b r p xs ys j' _ ?_ ?_ ?_
        · intro a; rw [neq_t] at a; exact absurd hl a
        · intro _ a; rw [gtr_t, rl] at a; omega
        · intro _ _; exact ⟨⟨loop_of_rounds hr, trivial⟩, rfl⟩
  · have e : ovE b r p xs ys = limE b r p := by unfold ovE; rw [if_neg hl]
    have v : ovV b r p xs ys = none := by unfold ovV; rw [e, if_neg hl]
    rw [v, e]
    refine over26x_calls b r p xs ys 0 0 _ ?_ ?_ ?_
    · intro a; exact ⟨trivial, rfl⟩
    · intro a; rw [neq_f] at a; exact absurd a hl
    · intro a; rw [neq_f] at a; exact absurd a hl
def ovI (o : Option (Nat × Nat)) : Int := match o with | none => 0 | some (i, _) => i
def ovK (o : Option (Nat × Nat)) : Int := match o with | none => 0 | some (_, k) => k
theorem ovD_eq (e : Int) (o : Option (Nat × Nat)) : ovD e o = .tup [i64 (ovI o), i64 (ovK o), .v (.bool o.isSome), i64 e] := by
  rcases o with _ | ⟨i, k⟩ <;> rfl
def ovC : List D → Option (D × List Prop)
  | [.agg [.v (.int .i64 b), .v (.int .i64 r), .v (.int .i64 p)], .rc [.ints .u64 xs, .ints .i64 ys]] => some (.tup [i64 (ovI (ovV b r p xs ys)), i64 (ovK (ovV b r p xs ys)), .v (.bool (ovV b r p xs ys).isSome), i64 (ovE b r p xs ys)], [])
  | _ => none
theorem ovC_okA (args res l) (h : ovC args = some (res, l)) (hl : AllP l) : CallsD Try.prog 26 args res := by
  unfold ovC at h; split at h
  · simp only [Option.some.injEq, Prod.mk.injEq] at h
    obtain ⟨rfl, rfl⟩ := h
    rw [← ovD_eq]; exact over26_ok _ _ _ _ _
  · cases h
theorem ovC_okB (args res l) (h : ovC args = some (res, l)) (hl : AllP l) : CallsD Try.prog 27 args res := by
  unfold ovC at h; split at h
  · simp only [Option.some.injEq, Prod.mk.injEq] at h
    obtain ⟨rfl, rfl⟩ := h
    rw [← ovD_eq]; exact over27_ok _ _ _ _ _
  · cases h
def X11 : Contracts := addCon 26 (.call ovC) (addCon 27 (.call ovC) X10)
theorem hX11 : ConOK Try.prog X11 := addCall_ok ovC_okA (addCall_ok ovC_okB hX10)
end MeterS
