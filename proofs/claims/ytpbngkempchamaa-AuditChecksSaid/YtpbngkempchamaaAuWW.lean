/- The functions of the folder audit and what they reach: what they compute. No condition. -/
import Derived.Test.YtpbngkempchamaaAuWS
import Derived.Test.YtpbngkempchamaaDamXO
set_option linter.unusedSectionVars false
set_option linter.unusedVariables false
set_option linter.unusedSimpArgs false
namespace MeterS
open Go Go.Dam Go.Proofs
set_option maxRecDepth 1000000
set_option linter.unusedVariables false
set_option linter.unusedSectionVars false
set_option linter.unusedSimpArgs false
/-- The columns of a list of proofs. -/
abbrev colsP (a : Nat → List Int) : List Col := [.ints .u32 (a 0), .ints .u64 (a 1), .ints .u32 (a 2), .ints .i64 (a 3), .ints .i64 (a 4), .ints .i64 (a 5), .ints .i64 (a 6), .ints .i64 (a 7), .ints .u64 (a 8), .ints .i64 (a 9), .ints .i64 (a 10), .ints .i64 (a 11), .ints .i64 (a 12), .ints .i64 (a 13), .ints .u64 (a 14), .ints .i64 (a 15), .ints .i64 (a 16), .ints .i64 (a 17), .ints .i64 (a 18), .ints .i64 (a 19), .ints .u64 (a 20), .ints .u8 (a 21), .ints .u32 (a 22), .ints .u32 (a 23), .ints .u32 (a 24), .ints .u32 (a 25), .ints .u64 (a 26), .ints .i64 (a 27), .ints .i64 (a 28), .ints .i64 (a 29), .ints .i64 (a 30), .ints .i64 (a 31), .ints .u64 (a 32), .ints .i64 (a 33), .ints .i64 (a 34), .ints .i64 (a 35), .ints .i64 (a 36), .ints .i64 (a 37), .ints .u64 (a 38), .ints .i64 (a 39), .ints .i64 (a 40), .ints .i64 (a 41), .ints .i64 (a 42), .ints .i64 (a 43), .ints .u64 (a 44)]
def kindsP : List IntKind := [.u32, .u64, .u32, .i64, .i64, .i64, .i64, .i64, .u64, .i64, .i64, .i64, .i64, .i64, .u64, .i64, .i64, .i64, .i64, .i64, .u64, .u8, .u32, .u32, .u32, .u32, .u64, .i64, .i64, .i64, .i64, .i64, .u64, .i64, .i64, .i64, .i64, .i64, .u64, .i64, .i64, .i64, .i64, .i64, .u64]
/-- The proof at a place: its error, is it right, is it as numbers come in. -/
def prEr (a : Nat → List Int) (i : Nat) : Int := prE ((a 0).getD i 0) ((a 1).getD i 0) ((a 2).getD i 0) ((a 3).getD i 0) ((a 4).getD i 0) ((a 5).getD i 0) ((a 6).getD i 0) ((a 7).getD i 0) ((a 8).getD i 0) ((a 9).getD i 0) ((a 10).getD i 0) ((a 11).getD i 0) ((a 12).getD i 0) ((a 13).getD i 0) ((a 14).getD i 0) ((a 15).getD i 0) ((a 16).getD i 0) ((a 17).getD i 0) ((a 18).getD i 0) ((a 19).getD i 0) ((a 20).getD i 0) ((a 21).getD i 0) ((a 22).getD i 0) ((a 23).getD i 0) ((a 24).getD i 0) ((a 25).getD i 0) ((a 26).getD i 0) ((a 27).getD i 0) ((a 28).getD i 0) ((a 29).getD i 0) ((a 30).getD i 0) ((a 31).getD i 0) ((a 32).getD i 0) ((a 33).getD i 0) ((a 34).getD i 0) ((a 35).getD i 0) ((a 36).getD i 0) ((a 37).getD i 0) ((a 38).getD i 0) ((a 39).getD i 0) ((a 40).getD i 0) ((a 41).getD i 0) ((a 42).getD i 0) ((a 43).getD i 0) ((a 44).getD i 0)
def prAr (a : Nat → List Int) (i : Nat) : Bool := prA ((a 0).getD i 0) ((a 1).getD i 0) ((a 2).getD i 0) ((a 3).getD i 0) ((a 4).getD i 0) ((a 5).getD i 0) ((a 6).getD i 0) ((a 7).getD i 0) ((a 8).getD i 0) ((a 9).getD i 0) ((a 10).getD i 0) ((a 11).getD i 0) ((a 12).getD i 0) ((a 13).getD i 0) ((a 14).getD i 0) ((a 15).getD i 0) ((a 16).getD i 0) ((a 17).getD i 0) ((a 18).getD i 0) ((a 19).getD i 0) ((a 20).getD i 0) ((a 21).getD i 0) ((a 22).getD i 0) ((a 23).getD i 0) ((a 24).getD i 0) ((a 25).getD i 0) ((a 26).getD i 0) ((a 27).getD i 0) ((a 28).getD i 0) ((a 29).getD i 0) ((a 30).getD i 0) ((a 31).getD i 0) ((a 32).getD i 0) ((a 33).getD i 0) ((a 34).getD i 0) ((a 35).getD i 0) ((a 36).getD i 0) ((a 37).getD i 0) ((a 38).getD i 0) ((a 39).getD i 0) ((a 40).getD i 0) ((a 41).getD i 0) ((a 42).getD i 0) ((a 43).getD i 0) ((a 44).getD i 0)
def inPr (a : Nat → List Int) (i : Nat) : Prop := inP ((a 1).getD i 0) ((a 2).getD i 0) ((a 6).getD i 0) ((a 12).getD i 0) ((a 18).getD i 0) ((a 8).getD i 0) ((a 14).getD i 0) ((a 20).getD i 0) ((a 21).getD i 0) ((a 26).getD i 0) ((a 30).getD i 0) ((a 36).getD i 0) ((a 42).getD i 0)
def inPs (a : Nat → List Int) : Prop := ∀ i, i < (a 0).length → inPr a i
/-- So many proofs are valid. -/
def lsU (a : Nat → List Int) : Nat → Bool
  | 0 => true
  | n + 1 => lsU a n && decide (prEr a n = 0)
def lsE (a : Nat → List Int) : Int := if 60 < (a 0).length then 4 else if lsU a (a 0).length = true then 0 else 8
theorem lsU_at {a : Nat → List Int} : ∀ {n : Nat}, lsU a n = true → ∀ j, j < n → prEr a j = 0
  | 0, _, j, h => by omega
  | n + 1, h, j, hj => by
    simp only [lsU, Bool.and_eq_true, decide_eq_true_eq] at h
    rcases Nat.lt_or_ge j n with c | c
    · exact lsU_at h.1 j c
    · rw [show j = n by omega]; exact h.2
theorem lsU_bad {a : Nat → List Int} : ∀ {n : Nat}, ¬ lsU a n = true → ∃ j, j < n ∧ prEr a j ≠ 0
  | 0, h => absurd rfl h
  | n + 1, h => by
    by_cases c : lsU a n = true
    · refine ⟨n, by omega, fun e => h ?_⟩
      simp only [lsU, c, e, decide_true, Bool.and_self]
    · obtain ⟨j, hj, e⟩ := lsU_bad c; exact ⟨j, by omega, e⟩
theorem prE_two (tn n co b r p v q t b1 r1 p1 v1 q1 t1 b2 r2 p2 v2 q2 t2 cd rt x y z w b3 r3 p3 v3 q3 t3 b4 r4 p4 v4 q4 t4 b5 r5 p5 v5 q5 t5 : Int) : prE tn n co b r p v q t b1 r1 p1 v1 q1 t1 b2 r2 p2 v2 q2 t2 cd rt x y z w b3 r3 p3 v3 q3 t3 b4 r4 p4 v4 q4 t4 b5 r5 p5 v5 q5 t5 = 0 ∨ prE tn n co b r p v q t b1 r1 p1 v1 q1 t1 b2 r2 p2 v2 q2 t2 cd rt x y z w b3 r3 p3 v3 q3 t3 b4 r4 p4 v4 q4 t4 b5 r5 p5 v5 q5 t5 = 8 := chE_two _ _ _ _ _
theorem prEr_two (a : Nat → List Int) (i : Nat) : prEr a i = 0 ∨ prEr a i = 8 := prE_two _ _ _ _ _ _ _ _ _ _ _ _ _ _ _ _ _ _ _ _ _ _ _ _ _ _ _ _ _ _ _ _ _ _ _ _ _ _ _ _ _ _ _ _ _
variable [Glo]
noncomputable def idxT (a : Nat → List Int) (o n i : Int) : Cs := ⟨TT.of [(0, (D.rc (colsP a))), (1, (D.fn 37 [])), (4, (D.v (Value.int IntKind.i64 o))), (7, (D.v (Value.int IntKind.i64 n))), (8, (D.v (Value.int IntKind.i64 i)))], 19, [], [], none, 0⟩
noncomputable def lstT (a : Nat → List Int) (o i : Int) : Cs := ⟨TT.of [(0, (D.rc (colsP a))), (2, (D.v (Value.int IntKind.i64 o))), (3, (D.v (Value.int IntKind.i64 i)))], 24, [], [], none, 0⟩
end MeterS

namespace MeterS
open Go Go.Dam Go.Proofs
set_option maxRecDepth 1000000
set_option linter.unusedVariables false
set_option linter.unusedSectionVars false
set_option linter.unusedSimpArgs false
variable [Glo]

theorem idxL_r0 (a : Nat → List Int) (o n i : Int) : roundX Try.prog X33 100000 (loopAt Try.prog 44 0) [.d true, .d true] [[0, 1, 4, 7, 8]] [] (idxT a o n i) = some (Ex.ret, (idxT a (i) (n) (i)), [cmpI BinOp.neq (prEr a i.toNat) 0 = true, inPr a i.toNat, decide (0 ≤ i) = true, decide (i < ↑(rowLen (colsP a))) = true, cmpI BinOp.lss i n = true]) := by kernel_rfl
theorem idxL_r1 (a : Nat → List Int) (o n i : Int) : roundX Try.prog X33 100000 (loopAt Try.prog 44 0) [.d true, .d false] [[0, 1, 4, 7, 8]] [] (idxT a o n i) = some (Ex.normal, (idxT a (o) (n) (opI BinOp.add IntKind.i64 i 1)), [cmpI BinOp.neq (prEr a i.toNat) 0 = false, inPr a i.toNat, decide (0 ≤ i) = true, decide (i < ↑(rowLen (colsP a))) = true, cmpI BinOp.lss i n = true]) := by kernel_rfl
theorem idxL_r2 (a : Nat → List Int) (o n i : Int) : roundX Try.prog X33 100000 (loopAt Try.prog 44 0) [.d false] [[0, 1, 4, 7, 8]] [] (idxT a o n i) = some (Ex.exit 0, (idxT a (o) (n) (i)), [cmpI BinOp.lss i n = false]) := by kernel_rfl
theorem idxL_step (a : Nat → List Int) (o : Int) (n : Int) (i : Int) (σ : St) (e : Ex)
  (h0 : ((cmpI BinOp.lss i n) = true) → ((cmpI BinOp.neq (prEr a i.toNat) 0) = true) → ((inPr a i.toNat) ∧ (decide (0 ≤ i) = true) ∧ (decide (i < ↑(rowLen (colsP a))) = true) ∧ True) ∧ (e = Ex.ret ∧ σ = (idxT a (i) (n) (i)).abs))
  (h1 : ((cmpI BinOp.lss i n) = true) → ((cmpI BinOp.neq (prEr a i.toNat) 0) = false) → ((inPr a i.toNat) ∧ (decide (0 ≤ i) = true) ∧ (decide (i < ↑(rowLen (colsP a))) = true) ∧ True) ∧ Runs Try.prog (CallsD Try.prog) (.rounds (loopAt Try.prog 44 0)) (idxT a (o) (n) (opI BinOp.add IntKind.i64 i 1)).abs e σ)
  (h2 : ((cmpI BinOp.lss i n) = false) → (True) ∧ (e = Ex.exit 0 ∧ σ = (idxT a (o) (n) (i)).abs)) : Runs Try.prog (CallsD Try.prog) (.rounds (loopAt Try.prog 44 0)) (idxT a o n i).abs e σ := by
  cases e0 : (cmpI BinOp.lss i n) with
  | true =>
    cases e1 : (cmpI BinOp.neq (prEr a i.toNat) 0) with
    | true =>
      exact rounds_end hX33 (idxL_r0 a o n i) ⟨e1, (h0 e0 e1).1.1, (h0 e0 e1).1.2.1, (h0 e0 e1).1.2.2.1, e0, trivial⟩ (by simp) (h0 e0 e1).2
    | false =>
      exact rounds_on hX33 (idxL_r1 a o n i) ⟨e1, (h1 e0 e1).1.1, (h1 e0 e1).1.2.1, (h1 e0 e1).1.2.2.1, e0, trivial⟩ (h1 e0 e1).2
  | false =>
    exact rounds_end hX33 (idxL_r2 a o n i) ⟨e0, trivial⟩ (by simp) (h2 e0).2

theorem idxX_p0 (a : Nat → List Int) (o i : Int) : fnX Try.prog X33 100000 [PE.l [[0, 1, 4, 7, 8]] [] (idxT a 0 (↑(rowLen (colsP a))) 0) (Ex.exit 0) (idxT a o (↑(rowLen (colsP a))) i)] 44 [D.rc (colsP a), D.fn 37 []] = some (i64 (-1), [(idxT a 0 (↑(rowLen (colsP a))) 0 = idxT a 0 (↑(rowLen (colsP a))) 0), Runs Try.prog (CallsD Try.prog) (.code (.loop (loopAt Try.prog 44 0))) (idxT a 0 (↑(rowLen (colsP a))) 0).abs (Ex.exit 0) (idxT a o (↑(rowLen (colsP a))) i).abs]) := by kernel_rfl
theorem idxX_calls (a : Nat → List Int) (o i : Int) (res : D)
  (h0 : ((Runs Try.prog (CallsD Try.prog) (.code (.loop (loopAt Try.prog 44 0))) (idxT a 0 (↑(rowLen (colsP a))) 0).abs (Ex.exit 0) (idxT a o (↑(rowLen (colsP a))) i).abs) ∧ True) ∧ res = i64 (-1)) : CallsD Try.prog 44 [D.rc (colsP a), D.fn 37 []] res := by
  exact of_path hX33 (idxX_p0 a o i) ⟨rfl, (h0).1.1, trivial⟩ (h0).2

theorem idxR_p0 (a : Nat → List Int) (o i : Int) : fnX Try.prog X33 100000 [PE.l [[0, 1, 4, 7, 8]] [] (idxT a 0 (↑(rowLen (colsP a))) 0) Ex.ret (idxT a o (↑(rowLen (colsP a))) i)] 44 [D.rc (colsP a), D.fn 37 []] = some (i64 o, [(idxT a 0 (↑(rowLen (colsP a))) 0 = idxT a 0 (↑(rowLen (colsP a))) 0), Runs Try.prog (CallsD Try.prog) (.code (.loop (loopAt Try.prog 44 0))) (idxT a 0 (↑(rowLen (colsP a))) 0).abs (Ex.ret) (idxT a o (↑(rowLen (colsP a))) i).abs]) := by kernel_rfl
theorem idxR_calls (a : Nat → List Int) (o i : Int) (res : D)
  (h0 : ((Runs Try.prog (CallsD Try.prog) (.code (.loop (loopAt Try.prog 44 0))) (idxT a 0 (↑(rowLen (colsP a))) 0).abs (Ex.ret) (idxT a o (↑(rowLen (colsP a))) i).abs) ∧ True) ∧ res = i64 o) : CallsD Try.prog 44 [D.rc (colsP a), D.fn 37 []] res := by
  exact of_path hX33 (idxR_p0 a o i) ⟨rfl, (h0).1.1, trivial⟩ (h0).2

theorem lstL_r0 (a : Nat → List Int) (o i : Int) : roundX Try.prog X33 100000 (loopAt Try.prog 28 0) [.d true, .d true] [[0, 2, 3]] [] (lstT a o i) = some (Ex.ret, (lstT a (prEr a i.toNat) (i)), [inPr a i.toNat, decide (0 ≤ i) = true, decide (i < ↑(rowLen (colsP a))) = true, cmpI BinOp.neq (prEr a i.toNat) 0 = true, inPr a i.toNat, decide (0 ≤ i) = true, decide (i < ↑(rowLen (colsP a))) = true, cmpI BinOp.lss i ↑(rowLen (colsP a)) = true]) := by kernel_rfl
theorem lstL_r1 (a : Nat → List Int) (o i : Int) : roundX Try.prog X33 100000 (loopAt Try.prog 28 0) [.d true, .d false] [[0, 2, 3]] [] (lstT a o i) = some (Ex.normal, (lstT a (o) (opI BinOp.add IntKind.i64 i 1)), [cmpI BinOp.neq (prEr a i.toNat) 0 = false, inPr a i.toNat, decide (0 ≤ i) = true, decide (i < ↑(rowLen (colsP a))) = true, cmpI BinOp.lss i ↑(rowLen (colsP a)) = true]) := by kernel_rfl
theorem lstL_r2 (a : Nat → List Int) (o i : Int) : roundX Try.prog X33 100000 (loopAt Try.prog 28 0) [.d false] [[0, 2, 3]] [] (lstT a o i) = some (Ex.exit 0, (lstT a (o) (i)), [cmpI BinOp.lss i ↑(rowLen (colsP a)) = false]) := by kernel_rfl
theorem lstL_step (a : Nat → List Int) (o : Int) (i : Int) (σ : St) (e : Ex)
  (h0 : ((cmpI BinOp.lss i ↑(rowLen (colsP a))) = true) → ((cmpI BinOp.neq (prEr a i.toNat) 0) = true) → ((inPr a i.toNat) ∧ (decide (0 ≤ i) = true) ∧ (decide (i < ↑(rowLen (colsP a))) = true) ∧ (inPr a i.toNat) ∧ (decide (0 ≤ i) = true) ∧ (decide (i < ↑(rowLen (colsP a))) = true) ∧ True) ∧ (e = Ex.ret ∧ σ = (lstT a (prEr a i.toNat) (i)).abs))
  (h1 : ((cmpI BinOp.lss i ↑(rowLen (colsP a))) = true) → ((cmpI BinOp.neq (prEr a i.toNat) 0) = false) → ((inPr a i.toNat) ∧ (decide (0 ≤ i) = true) ∧ (decide (i < ↑(rowLen (colsP a))) = true) ∧ True) ∧ Runs Try.prog (CallsD Try.prog) (.rounds (loopAt Try.prog 28 0)) (lstT a (o) (opI BinOp.add IntKind.i64 i 1)).abs e σ)
  (h2 : ((cmpI BinOp.lss i ↑(rowLen (colsP a))) = false) → (True) ∧ (e = Ex.exit 0 ∧ σ = (lstT a (o) (i)).abs)) : Runs Try.prog (CallsD Try.prog) (.rounds (loopAt Try.prog 28 0)) (lstT a o i).abs e σ := by
  cases e0 : (cmpI BinOp.lss i ↑(rowLen (colsP a))) with
  | true =>
    cases e1 : (cmpI BinOp.neq (prEr a i.toNat) 0) with
    | true =>
      exact rounds_end hX33 (lstL_r0 a o i) ⟨(h0 e0 e1).1.1, (h0 e0 e1).1.2.1, (h0 e0 e1).1.2.2.1, e1, (h0 e0 e1).1.2.2.2.1, (h0 e0 e1).1.2.2.2.2.1, (h0 e0 e1).1.2.2.2.2.2.1, e0, trivial⟩ (by simp) (h0 e0 e1).2
    | false =>
      exact rounds_on hX33 (lstL_r1 a o i) ⟨e1, (h1 e0 e1).1.1, (h1 e0 e1).1.2.1, (h1 e0 e1).1.2.2.1, e0, trivial⟩ (h1 e0 e1).2
  | false =>
    exact rounds_end hX33 (lstL_r2 a o i) ⟨e0, trivial⟩ (by simp) (h2 e0).2

theorem lstX_p0 (a : Nat → List Int) (o i : Int) : fnX Try.prog X33 100000 [.d true] 28 [D.rc (colsP a)] = some (i64 4, [cmpI BinOp.gtr (↑(rowLen (colsP a))) 60 = true]) := by kernel_rfl
theorem lstX_p1 (a : Nat → List Int) (o i : Int) : fnX Try.prog X33 100000 [.d false, PE.l [[0, 2, 3]] [] (lstT a 0 0) (Ex.exit 0) (lstT a o i)] 28 [D.rc (colsP a)] = some (i64 0, [(lstT a 0 0 = lstT a 0 0), Runs Try.prog (CallsD Try.prog) (.code (.loop (loopAt Try.prog 28 0))) (lstT a 0 0).abs (Ex.exit 0) (lstT a o i).abs, cmpI BinOp.gtr (↑(rowLen (colsP a))) 60 = false]) := by kernel_rfl
theorem lstX_calls (a : Nat → List Int) (o i : Int) (res : D)
  (h0 : ((cmpI BinOp.gtr (↑(rowLen (colsP a))) 60) = true) → (True) ∧ res = i64 4)
  (h1 : ((cmpI BinOp.gtr (↑(rowLen (colsP a))) 60) = false) → ((Runs Try.prog (CallsD Try.prog) (.code (.loop (loopAt Try.prog 28 0))) (lstT a 0 0).abs (Ex.exit 0) (lstT a o i).abs) ∧ True) ∧ res = i64 0) : CallsD Try.prog 28 [D.rc (colsP a)] res := by
  cases e0 : (cmpI BinOp.gtr (↑(rowLen (colsP a))) 60) with
  | true =>
    exact of_path hX33 (lstX_p0 a o i) ⟨e0, trivial⟩ (h0 e0).2
  | false =>
    exact of_path hX33 (lstX_p1 a o i) ⟨rfl, (h1 e0).1.1, e0, trivial⟩ (h1 e0).2

theorem lstR_p0 (a : Nat → List Int) (o i : Int) : fnX Try.prog X33 100000 [.d true] 28 [D.rc (colsP a)] = some (i64 4, [cmpI BinOp.gtr (↑(rowLen (colsP a))) 60 = true]) := by kernel_rfl
theorem lstR_p1 (a : Nat → List Int) (o i : Int) : fnX Try.prog X33 100000 [.d false, PE.l [[0, 2, 3]] [] (lstT a 0 0) Ex.ret (lstT a o i)] 28 [D.rc (colsP a)] = some (i64 o, [(lstT a 0 0 = lstT a 0 0), Runs Try.prog (CallsD Try.prog) (.code (.loop (loopAt Try.prog 28 0))) (lstT a 0 0).abs (Ex.ret) (lstT a o i).abs, cmpI BinOp.gtr (↑(rowLen (colsP a))) 60 = false]) := by kernel_rfl
theorem lstR_calls (a : Nat → List Int) (o i : Int) (res : D)
  (h0 : ((cmpI BinOp.gtr (↑(rowLen (colsP a))) 60) = true) → (True) ∧ res = i64 4)
  (h1 : ((cmpI BinOp.gtr (↑(rowLen (colsP a))) 60) = false) → ((Runs Try.prog (CallsD Try.prog) (.code (.loop (loopAt Try.prog 28 0))) (lstT a 0 0).abs (Ex.ret) (lstT a o i).abs) ∧ True) ∧ res = i64 o) : CallsD Try.prog 28 [D.rc (colsP a)] res := by
  cases e0 : (cmpI BinOp.gtr (↑(rowLen (colsP a))) 60) with
  | true =>
    exact of_path hX33 (lstR_p0 a o i) ⟨e0, trivial⟩ (h0 e0).2
  | false =>
    exact of_path hX33 (lstR_p1 a o i) ⟨rfl, (h1 e0).1.1, e0, trivial⟩ (h1 e0).2
theorem rlP (a : Nat → List Int) : rowLen (colsP a) = (a 0).length := rfl
theorem natLt {i n : Nat} (h : i < n) : decide (0 ≤ (i : Int)) = true ∧ decide ((i : Int) < (n : Int)) = true := by constructor <;> apply decide_eq_true <;> omega
theorem succI {i n : Nat} (h : i < n) (hn : n ≤ 70) : opI .add .i64 (i : Int) 1 = ((i + 1 : Nat) : Int) := by rw [opI_add, wrap_i64_of (by omega) (by omega)]; omega
theorem idx_on (a : Nat → List Int) (o : Int) (hi : inPs a) (hn : (a 0).length ≤ 70) (i : Nat) (h : i < (a 0).length) (ok : prEr a i = 0) (σ : St) (e : Ex)
    (hr : Runs Try.prog (CallsD Try.prog) (.rounds (loopAt Try.prog 44 0)) (idxT a o (a 0).length ((i + 1 : Nat) : Int)).abs e σ) :
    Runs Try.prog (CallsD Try.prog) (.rounds (loopAt Try.prog 44 0)) (idxT a o (a 0).length (i : Int)).abs e σ := by
  refine idxL_step a o _ _ σ e ?_ ?_ ?_
  all_goals simp only [rlP, lss_t, lss_f, neq_t, neq_f, Int.toNat_natCast]
  · intro _ k; exact absurd ok k
  · intro _ _; rw [succI h hn]; exact ⟨⟨hi i h, (natLt h).1, (natLt h).2, trivial⟩, hr⟩
  · intro; omega
theorem idx_ok (a : Nat → List Int) (hi : inPs a) (hn : (a 0).length ≤ 70) :
    ∃ j : Int, (if lsU a (a 0).length = true then j = -1 else 0 ≤ j) ∧ CallsD Try.prog 44 [.rc (colsP a), .fn 37 []] (i64 j) := by
  by_cases c : lsU a (a 0).length = true
  · refine ⟨-1, by rw [if_pos c], ?_⟩
    refine idxX_calls a 0 (a 0).length _ ⟨⟨loop_of_rounds ?_, trivial⟩, rfl⟩
    refine scan_all (fun i => idxT a 0 (a 0).length (i : Int)) (a 0).length (fun j => prEr a j = 0) (fun i h ok σ e hr => idx_on a 0 hi hn i h ok σ e hr) ?_ (a 0).length 0 (by omega) (fun j _ h => lsU_at c j h)
    refine idxL_step a 0 _ _ _ _ ?_ ?_ ?_
    all_goals simp only [rlP, lss_t, lss_f]
    · intro; omega
    · intro; omega
    · intro _; exact ⟨trivial, by first | trivial | exact ⟨rfl, rfl⟩⟩
  · obtain ⟨j, _, h2, h3, _, h5⟩ := scan_first (fun i => idxT a 0 (a 0).length (i : Int)) (a 0).length (fun j => prEr a j = 0) (fun i h ok σ e hr => idx_on a 0 hi hn i h ok σ e hr) (a 0).length 0 (by omega)
      (by obtain ⟨j, hj, hb⟩ := lsU_bad c; exact ⟨j, by omega, hj, hb⟩)
    refine ⟨j, by rw [if_neg c]; omega, ?_⟩
    refine idxR_calls a j j _ ⟨⟨loop_of_rounds (h5 _ _ ?_), trivial⟩, rfl⟩
    refine idxL_step a 0 _ _ _ _ ?_ ?_ ?_
    all_goals simp only [rlP, lss_t, lss_f, neq_t, neq_f, Int.toNat_natCast]
    · intro _ _; exact ⟨⟨hi j h2, (natLt h2).1, (natLt h2).2, trivial⟩, by first | trivial | exact ⟨rfl, rfl⟩⟩
    · intro _ k; exact absurd k h3
    · intro; omega
theorem lst_on (a : Nat → List Int) (o : Int) (hi : inPs a) (hn : (a 0).length ≤ 70) (i : Nat) (h : i < (a 0).length) (ok : prEr a i = 0) (σ : St) (e : Ex)
    (hr : Runs Try.prog (CallsD Try.prog) (.rounds (loopAt Try.prog 28 0)) (lstT a o ((i + 1 : Nat) : Int)).abs e σ) :
    Runs Try.prog (CallsD Try.prog) (.rounds (loopAt Try.prog 28 0)) (lstT a o (i : Int)).abs e σ := by
  refine lstL_step a o _ σ e ?_ ?_ ?_
  all_goals simp only [rlP, lss_t, lss_f, neq_t, neq_f, Int.toNat_natCast]
  · intro _ k; exact absurd ok k
  · intro _ _; rw [succI h hn]; exact ⟨⟨hi i h, (natLt h).1, (natLt h).2, trivial⟩, hr⟩
  · intro; omega
theorem lst_ok (a : Nat → List Int) (hi : inPs a) (hn : (a 0).length ≤ 70) : CallsD Try.prog 28 [.rc (colsP a)] (i64 (lsE a)) := by
  unfold lsE
  by_cases h6 : 60 < (a 0).length
  · rw [if_pos h6]
    refine lstX_calls a 0 0 _ ?_ ?_
    · intro _; exact ⟨trivial, rfl⟩
    · simp only [rlP, gtr_f]; intro; omega
  rw [if_neg h6]
  by_cases c : lsU a (a 0).length = true
  · rw [if_pos c]
    refine lstX_calls a 0 (a 0).length _ ?_ ?_
    · simp only [rlP, gtr_t]; intro; omega
    intro _
    refine ⟨⟨loop_of_rounds ?_, trivial⟩, rfl⟩
    refine scan_all (fun i => lstT a 0 (i : Int)) (a 0).length (fun j => prEr a j = 0) (fun i h ok σ e hr => lst_on a 0 hi hn i h ok σ e hr) ?_ (a 0).length 0 (by omega) (fun j _ h => lsU_at c j h)
    refine lstL_step a 0 _ _ _ ?_ ?_ ?_
    all_goals simp only [rlP, lss_t, lss_f]
    · intro; omega
    · intro; omega
    · intro _; exact ⟨trivial, by first | trivial | exact ⟨rfl, rfl⟩⟩
  · rw [if_neg c]
    obtain ⟨j, _, h2, h3, _, h5⟩ := scan_first (fun i => lstT a 0 (i : Int)) (a 0).length (fun j => prEr a j = 0) (fun i h ok σ e hr => lst_on a 0 hi hn i h ok σ e hr) (a 0).length 0 (by omega)
      (by obtain ⟨j, hj, hb⟩ := lsU_bad c; exact ⟨j, by omega, hj, hb⟩)
    have e8 : prEr a j = 8 := (prEr_two a j).resolve_left h3
    refine lstR_calls a 8 j _ ?_ ?_
    · simp only [rlP, gtr_t]; intro; omega
    intro _
    refine ⟨⟨loop_of_rounds (h5 _ _ ?_), trivial⟩, rfl⟩
    refine lstL_step a 0 _ _ _ ?_ ?_ ?_
    all_goals simp only [rlP, lss_t, lss_f, neq_t, neq_f, Int.toNat_natCast]
    · intro _ _; rw [e8]; exact ⟨⟨hi j h2, (natLt h2).1, (natLt h2).2, hi j h2, (natLt h2).1, (natLt h2).2, trivial⟩, by first | trivial | exact ⟨rfl, rfl⟩⟩
    · intro _ k; exact absurd k h3
    · intro; omega
/-- A call that comes to a number, if it does. -/
def idxC (j : Int) : List D → Option (D × List Prop) := fun args => some (i64 j, [CallsD Try.prog 44 args (i64 j)])
theorem idxC_ok (j : Int) (args res l) (h : idxC j args = some (res, l)) (hl : AllP l) : CallsD Try.prog 44 args res := by
  simp only [idxC, Option.some.injEq, Prod.mk.injEq] at h
  obtain ⟨rfl, rfl⟩ := h
  exact hl.1
def X35 (j : Int) : Contracts := addCon 44 (.call (idxC j)) X33
theorem hX35 (j : Int) : ConOK Try.prog (X35 j) := addCall_ok (idxC_ok j) hX33
end MeterS

namespace MeterS
open Go Go.Dam Go.Proofs
set_option maxRecDepth 1000000
set_option linter.unusedVariables false
set_option linter.unusedSectionVars false
set_option linter.unusedSimpArgs false
variable [Glo]
def lenP (a : Nat → List Int) : Prop := (a 0).length ≤ 70

theorem achk_p0 (a : Nat → List Int) (j : Int) : fnX Try.prog (X35 j) 100000 [.d true] 27 [D.rc (colsP a)] = some (i64 4, [cmpI BinOp.gtr (↑(rowLen (colsP a))) 60 = true]) := by kernel_rfl
theorem achk_p1 (a : Nat → List Int) (j : Int) : fnX Try.prog (X35 j) 100000 [.d false, .d true] 27 [D.rc (colsP a)] = some (i64 8, [cmpI BinOp.geq j 0 = true, Dam.CallsD Try.prog 44 [D.rc (colsP a), D.fn 37 []] (i64 j), cmpI BinOp.gtr (↑(rowLen (colsP a))) 60 = false]) := by kernel_rfl
theorem achk_p2 (a : Nat → List Int) (j : Int) : fnX Try.prog (X35 j) 100000 [.d false, .d false] 27 [D.rc (colsP a)] = some (i64 0, [cmpI BinOp.geq j 0 = false, Dam.CallsD Try.prog 44 [D.rc (colsP a), D.fn 37 []] (i64 j), cmpI BinOp.gtr (↑(rowLen (colsP a))) 60 = false]) := by kernel_rfl
theorem achk_calls (a : Nat → List Int) (j : Int) (res : D)
  (h0 : ((cmpI BinOp.gtr (↑(rowLen (colsP a))) 60) = true) → (True) ∧ res = i64 4)
  (h1 : ((cmpI BinOp.gtr (↑(rowLen (colsP a))) 60) = false) → ((cmpI BinOp.geq j 0) = true) → ((Dam.CallsD Try.prog 44 [D.rc (colsP a), D.fn 37 []] (i64 j)) ∧ True) ∧ res = i64 8)
  (h2 : ((cmpI BinOp.gtr (↑(rowLen (colsP a))) 60) = false) → ((cmpI BinOp.geq j 0) = false) → ((Dam.CallsD Try.prog 44 [D.rc (colsP a), D.fn 37 []] (i64 j)) ∧ True) ∧ res = i64 0) : CallsD Try.prog 27 [D.rc (colsP a)] res := by
  cases e0 : (cmpI BinOp.gtr (↑(rowLen (colsP a))) 60) with
  | true =>
    exact of_path (hX35 j) (achk_p0 a j) ⟨e0, trivial⟩ (h0 e0).2
  | false =>
    cases e1 : (cmpI BinOp.geq j 0) with
    | true =>
      exact of_path (hX35 j) (achk_p1 a j) ⟨e1, (h1 e0 e1).1.1, e0, trivial⟩ (h1 e0 e1).2
    | false =>
      exact of_path (hX35 j) (achk_p2 a j) ⟨e1, (h2 e0 e1).1.1, e0, trivial⟩ (h2 e0 e1).2
theorem achk_ok (a : Nat → List Int) (hi : inPs a) (hn : lenP a) : CallsD Try.prog 27 [.rc (colsP a)] (i64 (lsE a)) := by
  obtain ⟨j, hj, hc⟩ := idx_ok a hi hn
  unfold lsE
  refine achk_calls a j _ ?_ ?_ ?_
  all_goals simp only [rlP, gtr_t, gtr_f, geq_t, geq_f]
  · intro h; rw [if_pos (by omega)]; exact ⟨trivial, rfl⟩
  · intro h g
    rw [if_neg (by omega)]
    have c : ¬ lsU a (a 0).length = true := fun c => by rw [if_pos c] at hj; omega
    rw [if_neg c]
    exact ⟨⟨hc, trivial⟩, rfl⟩
  · intro h g
    rw [if_neg (by omega)]
    have c : lsU a (a 0).length = true := by
      by_cases c : lsU a (a 0).length = true
      · exact c
      · rw [if_neg c] at hj; omega
    rw [if_pos c]
    exact ⟨⟨hc, trivial⟩, rfl⟩
def lsC : List D → Option (D × List Prop)
  | [.rc cols] => bif hasCols kindsP cols then some (i64 (lsE (nthC cols)), [inPs (nthC cols), lenP (nthC cols)]) else none
  | _ => none
theorem lsC_okA (args res l) (h : lsC args = some (res, l)) (hl : AllP l) : CallsD Try.prog 27 args res := by
  unfold lsC at h; split at h
  next cols =>
    cases hk : hasCols kindsP cols with
    | false => rw [hk] at h; cases h
    | true =>
      rw [hk] at h
      simp only [cond_true, Option.some.injEq, Prod.mk.injEq] at h
      obtain ⟨rfl, rfl⟩ := h
      have e := of_hasCols hk
      generalize nthC cols = f at *
      subst e
      obtain ⟨h0, h1, _⟩ := hl
      exact achk_ok f h0 h1
  · cases h
theorem lsC_okB (args res l) (h : lsC args = some (res, l)) (hl : AllP l) : CallsD Try.prog 28 args res := by
  unfold lsC at h; split at h
  next cols =>
    cases hk : hasCols kindsP cols with
    | false => rw [hk] at h; cases h
    | true =>
      rw [hk] at h
      simp only [cond_true, Option.some.injEq, Prod.mk.injEq] at h
      obtain ⟨rfl, rfl⟩ := h
      have e := of_hasCols hk
      generalize nthC cols = f at *
      subst e
      obtain ⟨h0, h1, _⟩ := hl
      exact lst_ok f h0 h1
  · cases h
def X36 : Contracts := addCon 27 (.call lsC) (addCon 28 (.call lsC) X33)
theorem hX36 : ConOK Try.prog X36 := addCall_ok lsC_okA (addCall_ok lsC_okB hX33)
end MeterS
