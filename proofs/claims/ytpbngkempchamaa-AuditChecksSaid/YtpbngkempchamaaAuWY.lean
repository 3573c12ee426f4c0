/- The functions of the folder audit and what they reach: what they compute. No condition. -/
import Derived.Test.YtpbngkempchamaaAuWW
import Derived.Test.YtpbngkempchamaaDamXO
set_option linter.unusedSectionVars false
set_option linter.unusedVariables false
set_option linter.unusedSimpArgs false
namespace MeterS
open Go Go.Dam Go.Proofs
set_option maxRecDepth 1000000
set_option linter.unusedVariables false
set_option linter.unusedSectionVars false
set_option linter.unusedSimpArgs false
variable [Glo]
noncomputable def bAT (a : Nat → List Int) (o1 o2 i : Int) : Cs := ⟨TT.of [(0, (D.rc (colsP a))), (2, i64 o1), (3, i64 o2), (5, i64 i)], 32, [], [], none, 0⟩
noncomputable def bBT (a : Nat → List Int) (o1 o2 i : Int) : Cs := ⟨TT.of [(0, (D.rc (colsP a))), (2, i64 o1), (3, i64 o2), (4, i64 i)], 31, [], [], none, 0⟩
noncomputable def cAT (a : Nat → List Int) (o n i x y z : Int) : Cs := ⟨TT.of [(2, (D.ptr 64 0)), (3, i64 o), (5, (D.ptr 160 0)), (14, (D.rc (colsP a))), (15, i64 n), (16, i64 i)], 42, [], [(64, (BX.cells [u64 0, u64 0, u64 0] false)), (160, (BX.cells [u64 x, u64 y, u64 z] false))], none, 0⟩
noncomputable def cBT (a : Nat → List Int) (o i x y z : Int) : Cs := ⟨TT.of [(0, (D.rc (colsP a))), (2, (D.ptr 64 0)), (3, i64 o), (4, (D.ptr 128 0)), (5, i64 i)], 44, [], [(64, (BX.cells [u64 0, u64 0, u64 0] false)), (128, (BX.cells [u64 x, u64 y, u64 z] false))], none, 0⟩
end MeterS

namespace MeterS
open Go Go.Dam Go.Proofs
set_option maxRecDepth 1000000
set_option linter.unusedVariables false
set_option linter.unusedSectionVars false
set_option linter.unusedSimpArgs false
/-- Does a log hold together at a place? -/
def brB (a : Nat → List Int) (i : Nat) : Bool := decide ((a 27).getD (i - 1) 0 = (a 3).getD i 0 ∧ (a 28).getD (i - 1) 0 = (a 4).getD i 0 ∧ (a 29).getD (i - 1) 0 = (a 5).getD i 0 ∧ (a 30).getD (i - 1) 0 = (a 6).getD i 0 ∧ (a 31).getD (i - 1) 0 = (a 7).getD i 0 ∧ (a 32).getD (i - 1) 0 = (a 8).getD i 0)
def brU (a : Nat → List Int) : Nat → Nat → Int
  | 0, _ => -1
  | d + 1, i => if brB a i = true then brU a d (i + 1) else i
def brN (a : Nat → List Int) : Int := if lsE a = 0 then brU a ((a 0).length - 1) 1 else 0
theorem brU_none {a : Nat → List Int} : ∀ (d i : Nat), (∀ j, i ≤ j → j < i + d → brB a j = true) → brU a d i = -1
  | 0, _, _ => rfl
  | d + 1, i, h => by rw [brU, if_pos (h i (Nat.le_refl _) (by omega))]; exact brU_none d (i + 1) fun j h1 h2 => h j (by omega) (by omega)
theorem brU_first {a : Nat → List Int} : ∀ (d i j : Nat), i ≤ j → j < i + d → (∀ k, i ≤ k → k < j → brB a k = true) → ¬ brB a j = true → brU a d i = j
  | 0, i, j, h1, h2, _, _ => by omega
  | d + 1, i, j, h1, h2, h3, h4 => by
    rw [brU]
    rcases Nat.eq_or_lt_of_le h1 with e | e
    · rw [← e] at h4 ⊢; rw [if_neg h4]
    · rw [if_pos (h3 i (Nat.le_refl _) e)]; exact brU_first d (i + 1) j e (by omega) (fun k k1 k2 => h3 k (by omega) k2) h4
/-- What is counted in so many proofs. -/
def ctA (a : Nat → List Int) : Nat → Int
  | 0 => 0
  | n + 1 => if (a 21).getD n 0 = 2 then opI .add .u64 (ctA a n) 1 else ctA a n
def ctL (a : Nat → List Int) : Nat → Int
  | 0 => 0
  | n + 1 => if (a 21).getD n 0 = 2 then ctL a n else opI .add .u64 (ctL a n) 1
def ctS (a : Nat → List Int) : Nat → Int
  | 0 => 0
  | n + 1 => if (a 21).getD n 0 = 2 then opI .add .u64 (ctS a n) (IntKind.u64.wrap ((a 2).getD n 0)) else ctS a n
def ctZ (a : Nat → List Int) (f : (Nat → List Int) → Nat → Int) : Int := if lsE a = 0 then f a (a 0).length else 0
theorem lsU_col (a : Nat → List Int) : ∀ n, lsU (nthC (colsP a)) n = lsU a n
  | 0 => rfl
  | n + 1 => by simp only [lsU, lsU_col a n]; rfl
theorem lsE_col (a : Nat → List Int) : lsE (nthC (colsP a)) = lsE a := by
  unfold lsE; rw [lsU_col]; rfl
theorem inPs_col {a : Nat → List Int} (h : inPs a) : inPs (nthC (colsP a)) := h
theorem lenP_col {a : Nat → List Int} (h : lenP a) : lenP (nthC (colsP a)) := h
theorem brB_iff {a : Nat → List Int} {i : Nat} : brB a i = true ↔ ((a 27).getD (i - 1) 0 = (a 3).getD i 0 ∧ (a 28).getD (i - 1) 0 = (a 4).getD i 0 ∧ (a 29).getD (i - 1) 0 = (a 5).getD i 0 ∧ (a 30).getD (i - 1) 0 = (a 6).getD i 0 ∧ (a 31).getD (i - 1) 0 = (a 7).getD i 0 ∧ (a 32).getD (i - 1) 0 = (a 8).getD i 0) := by unfold brB; simp only [decide_eq_true_eq]
variable [Glo]
noncomputable def bAL_c0 (a : Nat → List Int) (i : Int) := !((a 27).getD (opI BinOp.sub IntKind.i64 i 1).toNat 0 == (a 3).getD i.toNat 0 && ((a 28).getD (opI BinOp.sub IntKind.i64 i 1).toNat 0 == (a 4).getD i.toNat 0 && ((a 29).getD (opI BinOp.sub IntKind.i64 i 1).toNat 0 == (a 5).getD i.toNat 0 && true)) && ((a 30).getD (opI BinOp.sub IntKind.i64 i 1).toNat 0 == (a 6).getD i.toNat 0 && ((a 31).getD (opI BinOp.sub IntKind.i64 i 1).toNat 0 == (a 7).getD i.toNat 0 && ((a 32).getD (opI BinOp.sub IntKind.i64 i 1).toNat 0 == (a 8).getD i.toNat 0 && true))))
theorem bAL_r0 (a : Nat → List Int) (o1 o2 i : Int) : roundX Try.prog (X36) 100000 (loopAt Try.prog 15 0) [.d true, .d true] [[0, 2, 3, 5]] [] (bAT a o1 o2 i) = some (Ex.ret, (bAT a (i) (0) (i)), [(bAL_c0 a i) = true, decide (0 ≤ i) = true, decide (i < ↑(rowLen (colsP a))) = true, decide (0 ≤ opI BinOp.sub IntKind.i64 i 1) = true, decide (opI BinOp.sub IntKind.i64 i 1 < ↑(rowLen (colsP a))) = true, cmpI BinOp.lss i ↑(rowLen (colsP a)) = true]) := by kernel_rfl
theorem bAL_r1 (a : Nat → List Int) (o1 o2 i : Int) : roundX Try.prog (X36) 100000 (loopAt Try.prog 15 0) [.d true, .d false] [[0, 2, 3, 5]] [] (bAT a o1 o2 i) = some (Ex.normal, (bAT a (o1) (o2) (opI BinOp.add IntKind.i64 i 1)), [(bAL_c0 a i) = false, decide (0 ≤ i) = true, decide (i < ↑(rowLen (colsP a))) = true, decide (0 ≤ opI BinOp.sub IntKind.i64 i 1) = true, decide (opI BinOp.sub IntKind.i64 i 1 < ↑(rowLen (colsP a))) = true, cmpI BinOp.lss i ↑(rowLen (colsP a)) = true]) := by kernel_rfl
theorem bAL_r2 (a : Nat → List Int) (o1 o2 i : Int) : roundX Try.prog (X36) 100000 (loopAt Try.prog 15 0) [.d false] [[0, 2, 3, 5]] [] (bAT a o1 o2 i) = some (Ex.exit 0, (bAT a (o1) (o2) (i)), [cmpI BinOp.lss i ↑(rowLen (colsP a)) = false]) := by kernel_rfl
theorem bAL_step (a : Nat → List Int) (o1 : Int) (o2 : Int) (i : Int) (σ : St) (e : Ex)
  (h0 : ((cmpI BinOp.lss i ↑(rowLen (colsP a))) = true) → ((bAL_c0 a i) = true) → ((decide (0 ≤ i) = true) ∧ (decide (i < ↑(rowLen (colsP a))) = true) ∧ (decide (0 ≤ opI BinOp.sub IntKind.i64 i 1) = true) ∧ (decide (opI BinOp.sub IntKind.i64 i 1 < ↑(rowLen (colsP a))) = true) ∧ True) ∧ (e = Ex.ret ∧ σ = (bAT a (i) (0) (i)).abs))
  (h1 : ((cmpI BinOp.lss i ↑(rowLen (colsP a))) = true) → ((bAL_c0 a i) = false) → ((decide (0 ≤ i) = true) ∧ (decide (i < ↑(rowLen (colsP a))) = true) ∧ (decide (0 ≤ opI BinOp.sub IntKind.i64 i 1) = true) ∧ (decide (opI BinOp.sub IntKind.i64 i 1 < ↑(rowLen (colsP a))) = true) ∧ True) ∧ Runs Try.prog (CallsD Try.prog) (.rounds (loopAt Try.prog 15 0)) (bAT a (o1) (o2) (opI BinOp.add IntKind.i64 i 1)).abs e σ)
  (h2 : ((cmpI BinOp.lss i ↑(rowLen (colsP a))) = false) → (True) ∧ (e = Ex.exit 0 ∧ σ = (bAT a (o1) (o2) (i)).abs)) : Runs Try.prog (CallsD Try.prog) (.rounds (loopAt Try.prog 15 0)) (bAT a o1 o2 i).abs e σ := by
  cases e0 : (cmpI BinOp.lss i ↑(rowLen (colsP a))) with
  | true =>
    cases e1 : (bAL_c0 a i) with
    | true =>
      obtain ⟨⟨k0, k1, k2, k3, _⟩, kr⟩ := h0 e0 e1
      exact rounds_end (hX36) (bAL_r0 a o1 o2 i) ⟨e1, k0, k1, k2, k3, e0, trivial⟩ (by simp) kr
    | false =>
      obtain ⟨⟨k0, k1, k2, k3, _⟩, kr⟩ := h1 e0 e1
      exact rounds_on (hX36) (bAL_r1 a o1 o2 i) ⟨e1, k0, k1, k2, k3, e0, trivial⟩ kr
  | false =>
    obtain ⟨_, kr⟩ := h2 e0
    exact rounds_end (hX36) (bAL_r2 a o1 o2 i) ⟨e0, trivial⟩ (by simp) kr
noncomputable def bBL_c0 (a : Nat → List Int) (i : Int) := !((a 3).getD i.toNat 0 == (a 27).getD (opI BinOp.sub IntKind.i64 i 1).toNat 0 && ((a 4).getD i.toNat 0 == (a 28).getD (opI BinOp.sub IntKind.i64 i 1).toNat 0 && ((a 5).getD i.toNat 0 == (a 29).getD (opI BinOp.sub IntKind.i64 i 1).toNat 0 && true)) && ((a 6).getD i.toNat 0 == (a 30).getD (opI BinOp.sub IntKind.i64 i 1).toNat 0 && ((a 7).getD i.toNat 0 == (a 31).getD (opI BinOp.sub IntKind.i64 i 1).toNat 0 && ((a 8).getD i.toNat 0 == (a 32).getD (opI BinOp.sub IntKind.i64 i 1).toNat 0 && true))))
theorem bBL_r0 (a : Nat → List Int) (o1 o2 i : Int) : roundX Try.prog (X36) 100000 (loopAt Try.prog 16 0) [.d true, .d true] [[0, 2, 3, 4]] [] (bBT a o1 o2 i) = some (Ex.ret, (bBT a (i) (0) (i)), [(bBL_c0 a i) = true, decide (0 ≤ opI BinOp.sub IntKind.i64 i 1) = true, decide (opI BinOp.sub IntKind.i64 i 1 < ↑(rowLen (colsP a))) = true, decide (0 ≤ i) = true, decide (i < ↑(rowLen (colsP a))) = true, cmpI BinOp.lss i ↑(rowLen (colsP a)) = true]) := by kernel_rfl
theorem bBL_r1 (a : Nat → List Int) (o1 o2 i : Int) : roundX Try.prog (X36) 100000 (loopAt Try.prog 16 0) [.d true, .d false] [[0, 2, 3, 4]] [] (bBT a o1 o2 i) = some (Ex.normal, (bBT a (o1) (o2) (opI BinOp.add IntKind.i64 i 1)), [(bBL_c0 a i) = false, decide (0 ≤ opI BinOp.sub IntKind.i64 i 1) = true, decide (opI BinOp.sub IntKind.i64 i 1 < ↑(rowLen (colsP a))) = true, decide (0 ≤ i) = true, decide (i < ↑(rowLen (colsP a))) = true, cmpI BinOp.lss i ↑(rowLen (colsP a)) = true]) := by kernel_rfl
theorem bBL_r2 (a : Nat → List Int) (o1 o2 i : Int) : roundX Try.prog (X36) 100000 (loopAt Try.prog 16 0) [.d false] [[0, 2, 3, 4]] [] (bBT a o1 o2 i) = some (Ex.exit 0, (bBT a (o1) (o2) (i)), [cmpI BinOp.lss i ↑(rowLen (colsP a)) = false]) := by kernel_rfl
theorem bBL_step (a : Nat → List Int) (o1 : Int) (o2 : Int) (i : Int) (σ : St) (e : Ex)
  (h0 : ((cmpI BinOp.lss i ↑(rowLen (colsP a))) = true) → ((bBL_c0 a i) = true) → ((decide (0 ≤ opI BinOp.sub IntKind.i64 i 1) = true) ∧ (decide (opI BinOp.sub IntKind.i64 i 1 < ↑(rowLen (colsP a))) = true) ∧ (decide (0 ≤ i) = true) ∧ (decide (i < ↑(rowLen (colsP a))) = true) ∧ True) ∧ (e = Ex.ret ∧ σ = (bBT a (i) (0) (i)).abs))
  (h1 : ((cmpI BinOp.lss i ↑(rowLen (colsP a))) = true) → ((bBL_c0 a i) = false) → ((decide (0 ≤ opI BinOp.sub IntKind.i64 i 1) = true) ∧ (decide (opI BinOp.sub IntKind.i64 i 1 < ↑(rowLen (colsP a))) = true) ∧ (decide (0 ≤ i) = true) ∧ (decide (i < ↑(rowLen (colsP a))) = true) ∧ True) ∧ Runs Try.prog (CallsD Try.prog) (.rounds (loopAt Try.prog 16 0)) (bBT a (o1) (o2) (opI BinOp.add IntKind.i64 i 1)).abs e σ)
  (h2 : ((cmpI BinOp.lss i ↑(rowLen (colsP a))) = false) → (True) ∧ (e = Ex.exit 0 ∧ σ = (bBT a (o1) (o2) (i)).abs)) : Runs Try.prog (CallsD Try.prog) (.rounds (loopAt Try.prog 16 0)) (bBT a o1 o2 i).abs e σ := by
  cases e0 : (cmpI BinOp.lss i ↑(rowLen (colsP a))) with
  | true =>
    cases e1 : (bBL_c0 a i) with
    | true =>
      obtain ⟨⟨k0, k1, k2, k3, _⟩, kr⟩ := h0 e0 e1
      exact rounds_end (hX36) (bBL_r0 a o1 o2 i) ⟨e1, k0, k1, k2, k3, e0, trivial⟩ (by simp) kr
    | false =>
      obtain ⟨⟨k0, k1, k2, k3, _⟩, kr⟩ := h1 e0 e1
      exact rounds_on (hX36) (bBL_r1 a o1 o2 i) ⟨e1, k0, k1, k2, k3, e0, trivial⟩ kr
  | false =>
    obtain ⟨_, kr⟩ := h2 e0
    exact rounds_end (hX36) (bBL_r2 a o1 o2 i) ⟨e0, trivial⟩ (by simp) kr

theorem bAX_p0 (a : Nat → List Int) (i : Int) : fnX Try.prog (X36) 100000 [.d true] 15 [D.rc (colsP a)] = some (D.tup [i64 0, i64 (lsE (nthC (colsP a)))], [cmpI BinOp.neq (lsE (nthC (colsP a))) 0 = true, inPs (nthC (colsP a)), lenP (nthC (colsP a))]) := by kernel_rfl
theorem bAX_p1 (a : Nat → List Int) (i : Int) : fnX Try.prog (X36) 100000 [.d false, PE.l [[0, 2, 3, 5]] [] (bAT a 0 0 1) (Ex.exit 0) (bAT a 0 0 i)] 15 [D.rc (colsP a)] = some (D.tup [i64 (-1), i64 0], [(bAT a 0 0 1 = bAT a 0 0 1), Runs Try.prog (CallsD Try.prog) (.code (.loop (loopAt Try.prog 15 0))) (bAT a 0 0 1).abs (Ex.exit 0) (bAT a 0 0 i).abs, cmpI BinOp.neq (lsE (nthC (colsP a))) 0 = false, inPs (nthC (colsP a)), lenP (nthC (colsP a))]) := by kernel_rfl
theorem bAX_calls (a : Nat → List Int) (i : Int) (res : D)
  (h0 : ((cmpI BinOp.neq (lsE (nthC (colsP a))) 0) = true) → ((inPs (nthC (colsP a))) ∧ (lenP (nthC (colsP a))) ∧ True) ∧ res = D.tup [i64 0, i64 (lsE (nthC (colsP a)))])
  (h1 : ((cmpI BinOp.neq (lsE (nthC (colsP a))) 0) = false) → ((Runs Try.prog (CallsD Try.prog) (.code (.loop (loopAt Try.prog 15 0))) (bAT a 0 0 1).abs (Ex.exit 0) (bAT a 0 0 i).abs) ∧ (inPs (nthC (colsP a))) ∧ (lenP (nthC (colsP a))) ∧ True) ∧ res = D.tup [i64 (-1), i64 0]) : CallsD Try.prog 15 [D.rc (colsP a)] res := by
  cases e0 : (cmpI BinOp.neq (lsE (nthC (colsP a))) 0) with
  | true =>
    obtain ⟨⟨k0, k1, _⟩, kr⟩ := h0 e0
    exact of_path (hX36) (bAX_p0 a i) ⟨e0, k0, k1, trivial⟩ kr
  | false =>
    obtain ⟨⟨k0, k1, k2, _⟩, kr⟩ := h1 e0
    exact of_path (hX36) (bAX_p1 a i) ⟨rfl, k0, e0, k1, k2, trivial⟩ kr

theorem bAR_p0 (a : Nat → List Int) (i : Int) : fnX Try.prog (X36) 100000 [.d true] 15 [D.rc (colsP a)] = some (D.tup [i64 0, i64 (lsE (nthC (colsP a)))], [cmpI BinOp.neq (lsE (nthC (colsP a))) 0 = true, inPs (nthC (colsP a)), lenP (nthC (colsP a))]) := by kernel_rfl
theorem bAR_p1 (a : Nat → List Int) (i : Int) : fnX Try.prog (X36) 100000 [.d false, PE.l [[0, 2, 3, 5]] [] (bAT a 0 0 1) Ex.ret (bAT a i 0 i)] 15 [D.rc (colsP a)] = some (D.tup [i64 i, i64 0], [(bAT a 0 0 1 = bAT a 0 0 1), Runs Try.prog (CallsD Try.prog) (.code (.loop (loopAt Try.prog 15 0))) (bAT a 0 0 1).abs (Ex.ret) (bAT a i 0 i).abs, cmpI BinOp.neq (lsE (nthC (colsP a))) 0 = false, inPs (nthC (colsP a)), lenP (nthC (colsP a))]) := by kernel_rfl
theorem bAR_calls (a : Nat → List Int) (i : Int) (res : D)
  (h0 : ((cmpI BinOp.neq (lsE (nthC (colsP a))) 0) = true) → ((inPs (nthC (colsP a))) ∧ (lenP (nthC (colsP a))) ∧ True) ∧ res = D.tup [i64 0, i64 (lsE (nthC (colsP a)))])
  (h1 : ((cmpI BinOp.neq (lsE (nthC (colsP a))) 0) = false) → ((Runs Try.prog (CallsD Try.prog) (.code (.loop (loopAt Try.prog 15 0))) (bAT a 0 0 1).abs (Ex.ret) (bAT a i 0 i).abs) ∧ (inPs (nthC (colsP a))) ∧ (lenP (nthC (colsP a))) ∧ True) ∧ res = D.tup [i64 i, i64 0]) : CallsD Try.prog 15 [D.rc (colsP a)] res := by
  cases e0 : (cmpI BinOp.neq (lsE (nthC (colsP a))) 0) with
  | true =>
    obtain ⟨⟨k0, k1, _⟩, kr⟩ := h0 e0
    exact of_path (hX36) (bAR_p0 a i) ⟨e0, k0, k1, trivial⟩ kr
  | false =>
    obtain ⟨⟨k0, k1, k2, _⟩, kr⟩ := h1 e0
    exact of_path (hX36) (bAR_p1 a i) ⟨rfl, k0, e0, k1, k2, trivial⟩ kr

theorem bBX_p0 (a : Nat → List Int) (i : Int) : fnX Try.prog (X36) 100000 [.d true] 16 [D.rc (colsP a)] = some (D.tup [i64 0, i64 (lsE (nthC (colsP a)))], [inPs (nthC (colsP a)), lenP (nthC (colsP a)), cmpI BinOp.neq (lsE (nthC (colsP a))) 0 = true, inPs (nthC (colsP a)), lenP (nthC (colsP a))]) := by kernel_rfl
theorem bBX_p1 (a : Nat → List Int) (i : Int) : fnX Try.prog (X36) 100000 [.d false, PE.l [[0, 2, 3, 4]] [] (bBT a 0 0 1) (Ex.exit 0) (bBT a 0 0 i)] 16 [D.rc (colsP a)] = some (D.tup [i64 (-1), i64 0], [(bBT a 0 0 1 = bBT a 0 0 1), Runs Try.prog (CallsD Try.prog) (.code (.loop (loopAt Try.prog 16 0))) (bBT a 0 0 1).abs (Ex.exit 0) (bBT a 0 0 i).abs, cmpI BinOp.neq (lsE (nthC (colsP a))) 0 = false, inPs (nthC (colsP a)), lenP (nthC (colsP a))]) := by kernel_rfl
theorem bBX_calls (a : Nat → List Int) (i : Int) (res : D)
  (h0 : ((cmpI BinOp.neq (lsE (nthC (colsP a))) 0) = true) → ((inPs (nthC (colsP a))) ∧ (lenP (nthC (colsP a))) ∧ (inPs (nthC (colsP a))) ∧ (lenP (nthC (colsP a))) ∧ True) ∧ res = D.tup [i64 0, i64 (lsE (nthC (colsP a)))])
  (h1 : ((cmpI BinOp.neq (lsE (nthC (colsP a))) 0) = false) → ((Runs Try.prog (CallsD Try.prog) (.code (.loop (loopAt Try.prog 16 0))) (bBT a 0 0 1).abs (Ex.exit 0) (bBT a 0 0 i).abs) ∧ (inPs (nthC (colsP a))) ∧ (lenP (nthC (colsP a))) ∧ True) ∧ res = D.tup [i64 (-1), i64 0]) : CallsD Try.prog 16 [D.rc (colsP a)] res := by
  cases e0 : (cmpI BinOp.neq (lsE (nthC (colsP a))) 0) with
  | true =>
    obtain ⟨⟨k0, k1, k2, k3, _⟩, kr⟩ := h0 e0
    exact of_path (hX36) (bBX_p0 a i) ⟨k0, k1, e0, k2, k3, trivial⟩ kr
  | false =>
    obtain ⟨⟨k0, k1, k2, _⟩, kr⟩ := h1 e0
    exact of_path (hX36) (bBX_p1 a i) ⟨rfl, k0, e0, k1, k2, trivial⟩ kr

theorem bBR_p0 (a : Nat → List Int) (i : Int) : fnX Try.prog (X36) 100000 [.d true] 16 [D.rc (colsP a)] = some (D.tup [i64 0, i64 (lsE (nthC (colsP a)))], [inPs (nthC (colsP a)), lenP (nthC (colsP a)), cmpI BinOp.neq (lsE (nthC (colsP a))) 0 = true, inPs (nthC (colsP a)), lenP (nthC (colsP a))]) := by kernel_rfl
theorem bBR_p1 (a : Nat → List Int) (i : Int) : fnX Try.prog (X36) 100000 [.d false, PE.l [[0, 2, 3, 4]] [] (bBT a 0 0 1) Ex.ret (bBT a i 0 i)] 16 [D.rc (colsP a)] = some (D.tup [i64 i, i64 0], [(bBT a 0 0 1 = bBT a 0 0 1), Runs Try.prog (CallsD Try.prog) (.code (.loop (loopAt Try.prog 16 0))) (bBT a 0 0 1).abs (Ex.ret) (bBT a i 0 i).abs, cmpI BinOp.neq (lsE (nthC (colsP a))) 0 = false, inPs (nthC (colsP a)), lenP (nthC (colsP a))]) := by kernel_rfl
theorem bBR_calls (a : Nat → List Int) (i : Int) (res : D)
  (h0 : ((cmpI BinOp.neq (lsE (nthC (colsP a))) 0) = true) → ((inPs (nthC (colsP a))) ∧ (lenP (nthC (colsP a))) ∧ (inPs (nthC (colsP a))) ∧ (lenP (nthC (colsP a))) ∧ True) ∧ res = D.tup [i64 0, i64 (lsE (nthC (colsP a)))])
  (h1 : ((cmpI BinOp.neq (lsE (nthC (colsP a))) 0) = false) → ((Runs Try.prog (CallsD Try.prog) (.code (.loop (loopAt Try.prog 16 0))) (bBT a 0 0 1).abs (Ex.ret) (bBT a i 0 i).abs) ∧ (inPs (nthC (colsP a))) ∧ (lenP (nthC (colsP a))) ∧ True) ∧ res = D.tup [i64 i, i64 0]) : CallsD Try.prog 16 [D.rc (colsP a)] res := by
  cases e0 : (cmpI BinOp.neq (lsE (nthC (colsP a))) 0) with
  | true =>
    obtain ⟨⟨k0, k1, k2, k3, _⟩, kr⟩ := h0 e0
    exact of_path (hX36) (bBR_p0 a i) ⟨k0, k1, e0, k2, k3, trivial⟩ kr
  | false =>
    obtain ⟨⟨k0, k1, k2, _⟩, kr⟩ := h1 e0
    exact of_path (hX36) (bBR_p1 a i) ⟨rfl, k0, e0, k1, k2, trivial⟩ kr

theorem cAL_r0 (a : Nat → List Int) (o n i x y z : Int) : roundX Try.prog (X36) 100000 (loopAt Try.prog 17 0) [.d true, .d true] [[2, 3, 5, 14, 15, 16]] [(64, 64), (160, 160)] (cAT a o n i x y z) = some (Ex.normal, (cAT a (o) (n) (opI BinOp.add IntKind.i64 i 1) (opI BinOp.add IntKind.u64 x 1) (y) (opI BinOp.add IntKind.u64 z (IntKind.u64.wrap ((a 2).getD i.toNat 0)))), [cmpI BinOp.eql ((a 21).getD i.toNat 0) 2 = true, decide (0 ≤ i) = true, decide (i < ↑(rowLen (colsP a))) = true, cmpI BinOp.lss i n = true]) := by kernel_rfl
theorem cAL_r1 (a : Nat → List Int) (o n i x y z : Int) : roundX Try.prog (X36) 100000 (loopAt Try.prog 17 0) [.d true, .d false] [[2, 3, 5, 14, 15, 16]] [(64, 64), (160, 160)] (cAT a o n i x y z) = some (Ex.normal, (cAT a (o) (n) (opI BinOp.add IntKind.i64 i 1) (x) (opI BinOp.add IntKind.u64 y 1) (z)), [cmpI BinOp.eql ((a 21).getD i.toNat 0) 2 = false, decide (0 ≤ i) = true, decide (i < ↑(rowLen (colsP a))) = true, cmpI BinOp.lss i n = true]) := by kernel_rfl
theorem cAL_r2 (a : Nat → List Int) (o n i x y z : Int) : roundX Try.prog (X36) 100000 (loopAt Try.prog 17 0) [.d false] [[2, 3, 5, 14, 15, 16]] [(64, 64), (160, 160)] (cAT a o n i x y z) = some (Ex.exit 0, (cAT a (o) (n) (i) (x) (y) (z)), [cmpI BinOp.lss i n = false]) := by kernel_rfl
theorem cAL_step (a : Nat → List Int) (o : Int) (n : Int) (i : Int) (x : Int) (y : Int) (z : Int) (σ : St) (e : Ex)
  (h0 : ((cmpI BinOp.lss i n) = true) → ((cmpI BinOp.eql ((a 21).getD i.toNat 0) 2) = true) → ((decide (0 ≤ i) = true) ∧ (decide (i < ↑(rowLen (colsP a))) = true) ∧ True) ∧ Runs Try.prog (CallsD Try.prog) (.rounds (loopAt Try.prog 17 0)) (cAT a (o) (n) (opI BinOp.add IntKind.i64 i 1) (opI BinOp.add IntKind.u64 x 1) (y) (opI BinOp.add IntKind.u64 z (IntKind.u64.wrap ((a 2).getD i.toNat 0)))).abs e σ)
  (h1 : ((cmpI BinOp.lss i n) = true) → ((cmpI BinOp.eql ((a 21).getD i.toNat 0) 2) = false) → ((decide (0 ≤ i) = true) ∧ (decide (i < ↑(rowLen (colsP a))) = true) ∧ True) ∧ Runs Try.prog (CallsD Try.prog) (.rounds (loopAt Try.prog 17 0)) (cAT a (o) (n) (opI BinOp.add IntKind.i64 i 1) (x) (opI BinOp.add IntKind.u64 y 1) (z)).abs e σ)
  (h2 : ((cmpI BinOp.lss i n) = false) → (True) ∧ (e = Ex.exit 0 ∧ σ = (cAT a (o) (n) (i) (x) (y) (z)).abs)) : Runs Try.prog (CallsD Try.prog) (.rounds (loopAt Try.prog 17 0)) (cAT a o n i x y z).abs e σ := by
  cases e0 : (cmpI BinOp.lss i n) with
  | true =>
    cases e1 : (cmpI BinOp.eql ((a 21).getD i.toNat 0) 2) with
    | true =>
      obtain ⟨⟨k0, k1, _⟩, kr⟩ := h0 e0 e1
      exact rounds_on (hX36) (cAL_r0 a o n i x y z) ⟨e1, k0, k1, e0, trivial⟩ kr
    | false =>
      obtain ⟨⟨k0, k1, _⟩, kr⟩ := h1 e0 e1
      exact rounds_on (hX36) (cAL_r1 a o n i x y z) ⟨e1, k0, k1, e0, trivial⟩ kr
  | false =>
    obtain ⟨_, kr⟩ := h2 e0
    exact rounds_end (hX36) (cAL_r2 a o n i x y z) ⟨e0, trivial⟩ (by simp) kr

theorem cBL_r0 (a : Nat → List Int) (o i x y z : Int) : roundX Try.prog (X36) 100000 (loopAt Try.prog 18 0) [.d true, .d true] [[0, 2, 3, 4, 5]] [(64, 64), (128, 128)] (cBT a o i x y z) = some (Ex.normal, (cBT a (o) (opI BinOp.add IntKind.i64 i 1) (opI BinOp.add IntKind.u64 x 1) (y) (opI BinOp.add IntKind.u64 z (IntKind.u64.wrap ((a 2).getD i.toNat 0)))), [decide (0 ≤ i) = true, decide (i < ↑(rowLen (colsP a))) = true, cmpI BinOp.eql ((a 21).getD i.toNat 0) 2 = true, decide (0 ≤ i) = true, decide (i < ↑(rowLen (colsP a))) = true, cmpI BinOp.lss i ↑(rowLen (colsP a)) = true]) := by kernel_rfl
theorem cBL_r1 (a : Nat → List Int) (o i x y z : Int) : roundX Try.prog (X36) 100000 (loopAt Try.prog 18 0) [.d true, .d false] [[0, 2, 3, 4, 5]] [(64, 64), (128, 128)] (cBT a o i x y z) = some (Ex.normal, (cBT a (o) (opI BinOp.add IntKind.i64 i 1) (x) (opI BinOp.add IntKind.u64 y 1) (z)), [cmpI BinOp.eql ((a 21).getD i.toNat 0) 2 = false, decide (0 ≤ i) = true, decide (i < ↑(rowLen (colsP a))) = true, cmpI BinOp.lss i ↑(rowLen (colsP a)) = true]) := by kernel_rfl
theorem cBL_r2 (a : Nat → List Int) (o i x y z : Int) : roundX Try.prog (X36) 100000 (loopAt Try.prog 18 0) [.d false] [[0, 2, 3, 4, 5]] [(64, 64), (128, 128)] (cBT a o i x y z) = some (Ex.exit 0, (cBT a (o) (i) (x) (y) (z)), [cmpI BinOp.lss i ↑(rowLen (colsP a)) = false]) := by kernel_rfl
theorem cBL_step (a : Nat → List Int) (o : Int) (i : Int) (x : Int) (y : Int) (z : Int) (σ : St) (e : Ex)
  (h0 : ((cmpI BinOp.lss i ↑(rowLen (colsP a))) = true) → ((cmpI BinOp.eql ((a 21).getD i.toNat 0) 2) = true) → ((decide (0 ≤ i) = true) ∧ (decide (i < ↑(rowLen (colsP a))) = true) ∧ (decide (0 ≤ i) = true) ∧ (decide (i < ↑(rowLen (colsP a))) = true) ∧ True) ∧ Runs Try.prog (CallsD Try.prog) (.rounds (loopAt Try.prog 18 0)) (cBT a (o) (opI BinOp.add IntKind.i64 i 1) (opI BinOp.add IntKind.u64 x 1) (y) (opI BinOp.add IntKind.u64 z (IntKind.u64.wrap ((a 2).getD i.toNat 0)))).abs e σ)
  (h1 : ((cmpI BinOp.lss i ↑(rowLen (colsP a))) = true) → ((cmpI BinOp.eql ((a 21).getD i.toNat 0) 2) = false) → ((decide (0 ≤ i) = true) ∧ (decide (i < ↑(rowLen (colsP a))) = true) ∧ True) ∧ Runs Try.prog (CallsD Try.prog) (.rounds (loopAt Try.prog 18 0)) (cBT a (o) (opI BinOp.add IntKind.i64 i 1) (x) (opI BinOp.add IntKind.u64 y 1) (z)).abs e σ)
  (h2 : ((cmpI BinOp.lss i ↑(rowLen (colsP a))) = false) → (True) ∧ (e = Ex.exit 0 ∧ σ = (cBT a (o) (i) (x) (y) (z)).abs)) : Runs Try.prog (CallsD Try.prog) (.rounds (loopAt Try.prog 18 0)) (cBT a o i x y z).abs e σ := by
  cases e0 : (cmpI BinOp.lss i ↑(rowLen (colsP a))) with
  | true =>
    cases e1 : (cmpI BinOp.eql ((a 21).getD i.toNat 0) 2) with
    | true =>
      obtain ⟨⟨k0, k1, k2, k3, _⟩, kr⟩ := h0 e0 e1
      exact rounds_on (hX36) (cBL_r0 a o i x y z) ⟨k0, k1, e1, k2, k3, e0, trivial⟩ kr
    | false =>
      obtain ⟨⟨k0, k1, _⟩, kr⟩ := h1 e0 e1
      exact rounds_on (hX36) (cBL_r1 a o i x y z) ⟨e1, k0, k1, e0, trivial⟩ kr
  | false =>
    obtain ⟨_, kr⟩ := h2 e0
    exact rounds_end (hX36) (cBL_r2 a o i x y z) ⟨e0, trivial⟩ (by simp) kr

theorem cA_p0 (a : Nat → List Int) (i x y z : Int) : fnX Try.prog (X36) 100000 [.d true] 17 [D.rc (colsP a)] = some (D.tup [D.agg [u64 0, u64 0, u64 0], i64 (lsE (nthC (colsP a)))], [cmpI BinOp.neq (lsE (nthC (colsP a))) 0 = true, inPs (nthC (colsP a)), lenP (nthC (colsP a))]) := by kernel_rfl
theorem cA_p1 (a : Nat → List Int) (i x y z : Int) : fnX Try.prog (X36) 100000 [.d false, PE.l [[2, 3, 5, 14, 15, 16]] [(64, 64), (160, 160)] (cAT a 0 (↑(rowLen (colsP a))) 0 0 0 0) (Ex.exit 0) (cAT a 0 (↑(rowLen (colsP a))) i x y z)] 17 [D.rc (colsP a)] = some (D.tup [D.agg [u64 x, u64 y, u64 z], i64 0], [(cAT a 0 (↑(rowLen (colsP a))) 0 0 0 0 = cAT a 0 (↑(rowLen (colsP a))) 0 0 0 0), Runs Try.prog (CallsD Try.prog) (.code (.loop (loopAt Try.prog 17 0))) (cAT a 0 (↑(rowLen (colsP a))) 0 0 0 0).abs (Ex.exit 0) (cAT a 0 (↑(rowLen (colsP a))) i x y z).abs, cmpI BinOp.neq (lsE (nthC (colsP a))) 0 = false, inPs (nthC (colsP a)), lenP (nthC (colsP a))]) := by kernel_rfl
theorem cA_calls (a : Nat → List Int) (i x y z : Int) (res : D)
  (h0 : ((cmpI BinOp.neq (lsE (nthC (colsP a))) 0) = true) → ((inPs (nthC (colsP a))) ∧ (lenP (nthC (colsP a))) ∧ True) ∧ res = D.tup [D.agg [u64 0, u64 0, u64 0], i64 (lsE (nthC (colsP a)))])
  (h1 : ((cmpI BinOp.neq (lsE (nthC (colsP a))) 0) = false) → ((Runs Try.prog (CallsD Try.prog) (.code (.loop (loopAt Try.prog 17 0))) (cAT a 0 (↑(rowLen (colsP a))) 0 0 0 0).abs (Ex.exit 0) (cAT a 0 (↑(rowLen (colsP a))) i x y z).abs) ∧ (inPs (nthC (colsP a))) ∧ (lenP (nthC (colsP a))) ∧ True) ∧ res = D.tup [D.agg [u64 x, u64 y, u64 z], i64 0]) : CallsD Try.prog 17 [D.rc (colsP a)] res := by
  cases e0 : (cmpI BinOp.neq (lsE (nthC (colsP a))) 0) with
  | true =>
    obtain ⟨⟨k0, k1, _⟩, kr⟩ := h0 e0
    exact of_path (hX36) (cA_p0 a i x y z) ⟨e0, k0, k1, trivial⟩ kr
  | false =>
    obtain ⟨⟨k0, k1, k2, _⟩, kr⟩ := h1 e0
    exact of_path (hX36) (cA_p1 a i x y z) ⟨rfl, k0, e0, k1, k2, trivial⟩ kr

theorem cB_p0 (a : Nat → List Int) (i x y z : Int) : fnX Try.prog (X36) 100000 [.d true] 18 [D.rc (colsP a)] = some (D.tup [D.agg [u64 0, u64 0, u64 0], i64 (lsE (nthC (colsP a)))], [inPs (nthC (colsP a)), lenP (nthC (colsP a)), cmpI BinOp.neq (lsE (nthC (colsP a))) 0 = true, inPs (nthC (colsP a)), lenP (nthC (colsP a))]) := by kernel_rfl
theorem cB_p1 (a : Nat → List Int) (i x y z : Int) : fnX Try.prog (X36) 100000 [.d false, PE.l [[0, 2, 3, 4, 5]] [(64, 64), (128, 128)] (cBT a 0 0 0 0 0) (Ex.exit 0) (cBT a 0 i x y z)] 18 [D.rc (colsP a)] = some (D.tup [D.agg [u64 x, u64 y, u64 z], i64 0], [(cBT a 0 0 0 0 0 = cBT a 0 0 0 0 0), Runs Try.prog (CallsD Try.prog) (.code (.loop (loopAt Try.prog 18 0))) (cBT a 0 0 0 0 0).abs (Ex.exit 0) (cBT a 0 i x y z).abs, cmpI BinOp.neq (lsE (nthC (colsP a))) 0 = false, inPs (nthC (colsP a)), lenP (nthC (colsP a))]) := by kernel_rfl
theorem cB_calls (a : Nat → List Int) (i x y z : Int) (res : D)
  (h0 : ((cmpI BinOp.neq (lsE (nthC (colsP a))) 0) = true) → ((inPs (nthC (colsP a))) ∧ (lenP (nthC (colsP a))) ∧ (inPs (nthC (colsP a))) ∧ (lenP (nthC (colsP a))) ∧ True) ∧ res = D.tup [D.agg [u64 0, u64 0, u64 0], i64 (lsE (nthC (colsP a)))])
  (h1 : ((cmpI BinOp.neq (lsE (nthC (colsP a))) 0) = false) → ((Runs Try.prog (CallsD Try.prog) (.code (.loop (loopAt Try.prog 18 0))) (cBT a 0 0 0 0 0).abs (Ex.exit 0) (cBT a 0 i x y z).abs) ∧ (inPs (nthC (colsP a))) ∧ (lenP (nthC (colsP a))) ∧ True) ∧ res = D.tup [D.agg [u64 x, u64 y, u64 z], i64 0]) : CallsD Try.prog 18 [D.rc (colsP a)] res := by
  cases e0 : (cmpI BinOp.neq (lsE (nthC (colsP a))) 0) with
  | true =>
    obtain ⟨⟨k0, k1, k2, k3, _⟩, kr⟩ := h0 e0
    exact of_path (hX36) (cB_p0 a i x y z) ⟨k0, k1, e0, k2, k3, trivial⟩ kr
  | false =>
    obtain ⟨⟨k0, k1, k2, _⟩, kr⟩ := h1 e0
    exact of_path (hX36) (cB_p1 a i x y z) ⟨rfl, k0, e0, k1, k2, trivial⟩ kr
theorem predI {i n : Nat} (h1 : 1 ≤ i) (h : i < n) (hn : n ≤ 70) : opI .sub .i64 (i : Int) 1 = ((i - 1 : Nat) : Int) := by rw [opI_sub, wrap_i64_of (by omega) (by omega)]; omega
theorem bA_step (a : Nat → List Int) (hn : lenP a) (i : Nat) (h1 : 1 ≤ i) (σ : St) (e : Ex) (h : if i < (a 0).length then (if brB a i = true then Runs Try.prog (CallsD Try.prog) (.rounds (loopAt Try.prog 15 0)) (bAT a 0 0 ((i + 1 : Nat) : Int)).abs e σ else (e = .ret ∧ σ = (bAT a i 0 i).abs)) else (e = .exit 0 ∧ σ = (bAT a 0 0 i).abs)) :
    Runs Try.prog (CallsD Try.prog) (.rounds (loopAt Try.prog 15 0)) (bAT a 0 0 (i : Int)).abs e σ := by
  refine bAL_step a 0 0 _ σ e ?_ ?_ ?_
  · intro k g
    have k' : i < (a 0).length := by rw [rlP, lss_t] at k; omega
    rw [if_pos k'] at h
    have hb : ¬ brB a i = true := by
      unfold bAL_c0 at g
      rw [predI h1 k' hn] at g
      simp only [Int.toNat_natCast, not_t, and_t, eqi_t, and_true, Bool.and_true] at g
      rw [brB_iff]; intro q; obtain ⟨q1, q2, q3, q4, q5, q6⟩ := q; exact g ⟨⟨q1, q2, q3⟩, q4, q5, q6⟩
    rw [if_neg hb] at h
    rw [predI h1 k' hn]
    exact ⟨⟨(natLt k').1, (natLt k').2, (natLt (show i - 1 < (a 0).length by omega)).1, (natLt (show i - 1 < (a 0).length by omega)).2, trivial⟩, h⟩
  · intro k g
    have k' : i < (a 0).length := by rw [rlP, lss_t] at k; omega
    rw [if_pos k'] at h
    have hb : brB a i = true := by
      unfold bAL_c0 at g
      rw [predI h1 k' hn] at g
      simp only [Int.toNat_natCast, not_f, and_t, eqi_t, and_true, Bool.and_true] at g
      rw [brB_iff]; obtain ⟨⟨q1, q2, q3⟩, q4, q5, q6⟩ := g; exact ⟨q1, q2, q3, q4, q5, q6⟩
    rw [if_pos hb] at h
    rw [predI h1 k' hn, succI k' hn]
    exact ⟨⟨(natLt k').1, (natLt k').2, (natLt (show i - 1 < (a 0).length by omega)).1, (natLt (show i - 1 < (a 0).length by omega)).2, trivial⟩, h⟩
  · intro k
    have k' : ¬ i < (a 0).length := by rw [rlP, lss_f] at k; omega
    rw [if_neg k'] at h
    exact ⟨trivial, h⟩
theorem bB_step (a : Nat → List Int) (hn : lenP a) (i : Nat) (h1 : 1 ≤ i) (σ : St) (e : Ex) (h : if i < (a 0).length then (if brB a i = true then Runs Try.prog (CallsD Try.prog) (.rounds (loopAt Try.prog 16 0)) (bBT a 0 0 ((i + 1 : Nat) : Int)).abs e σ else (e = .ret ∧ σ = (bBT a i 0 i).abs)) else (e = .exit 0 ∧ σ = (bBT a 0 0 i).abs)) :
    Runs Try.prog (CallsD Try.prog) (.rounds (loopAt Try.prog 16 0)) (bBT a 0 0 (i : Int)).abs e σ := by
  refine bBL_step a 0 0 _ σ e ?_ ?_ ?_
  · intro k g
    have k' : i < (a 0).length := by rw [rlP, lss_t] at k; omega
    rw [if_pos k'] at h
    have hb : ¬ brB a i = true := by
      unfold bBL_c0 at g
      rw [predI h1 k' hn] at g
      simp only [Int.toNat_natCast, not_t, and_t, eqi_t, and_true, Bool.and_true] at g
      rw [brB_iff]; intro q; obtain ⟨q1, q2, q3, q4, q5, q6⟩ := q; exact g ⟨⟨q1.symm, q2.symm, q3.symm⟩, q4.symm, q5.symm, q6.symm⟩
    rw [if_neg hb] at h
    rw [predI h1 k' hn]
    exact ⟨⟨(natLt (show i - 1 < (a 0).length by omega)).1, (natLt (show i - 1 < (a 0).length by omega)).2, (natLt k').1, (natLt k').2, trivial⟩, h⟩
  · intro k g
    have k' : i < (a 0).length := by rw [rlP, lss_t] at k; omega
    rw [if_pos k'] at h
    have hb : brB a i = true := by
      unfold bBL_c0 at g
      rw [predI h1 k' hn] at g
      simp only [Int.toNat_natCast, not_f, and_t, eqi_t, and_true, Bool.and_true] at g
      rw [brB_iff]; obtain ⟨⟨q1, q2, q3⟩, q4, q5, q6⟩ := g; exact ⟨q1.symm, q2.symm, q3.symm, q4.symm, q5.symm, q6.symm⟩
    rw [if_pos hb] at h
    rw [predI h1 k' hn, succI k' hn]
    exact ⟨⟨(natLt (show i - 1 < (a 0).length by omega)).1, (natLt (show i - 1 < (a 0).length by omega)).2, (natLt k').1, (natLt k').2, trivial⟩, h⟩
  · intro k
    have k' : ¬ i < (a 0).length := by rw [rlP, lss_f] at k; omega
    rw [if_neg k'] at h
    exact ⟨trivial, h⟩
/-- Where a log breaks, by any of two loops alike. -/
theorem br_loop {f : FuncId} (T : Int → Int → Int → Cs) (a : Nat → List Int)
    (hs : ∀ (i : Nat), 1 ≤ i → ∀ (σ : St) (e : Ex), (if i < (a 0).length then (if brB a i = true then Runs Try.prog (CallsD Try.prog) (.rounds (loopAt Try.prog f 0)) (T 0 0 ((i + 1 : Nat) : Int)).abs e σ else (e = .ret ∧ σ = (T i 0 i).abs)) else (e = .exit 0 ∧ σ = (T 0 0 i).abs)) →
      Runs Try.prog (CallsD Try.prog) (.rounds (loopAt Try.prog f 0)) (T 0 0 (i : Int)).abs e σ) : ∀ (d i : Nat), 1 ≤ i → (a 0).length ≤ i + d → i + d ≤ (a 0).length ∨ d = 0 →
      (brU a d i = -1 ∧ ∃ j : Int, Runs Try.prog (CallsD Try.prog) (.rounds (loopAt Try.prog f 0)) (T 0 0 (i : Int)).abs (.exit 0) (T 0 0 j).abs) ∨
      (Runs Try.prog (CallsD Try.prog) (.rounds (loopAt Try.prog f 0)) (T 0 0 (i : Int)).abs .ret (T (brU a d i) 0 (brU a d i)).abs)
  | 0, i, h1, h2, _ => .inl ⟨rfl, i, hs i h1 _ _ (by rw [if_neg (by omega)]; exact ⟨rfl, rfl⟩)⟩
  | d + 1, i, h1, h2, h3 => by
    have hl : i < (a 0).length := by omega
    by_cases c : brB a i = true
    · rw [brU, if_pos c]
      rcases br_loop T a hs d (i + 1) (by omega) (by omega) (by omega) with ⟨k1, j, k2⟩ | k
      · exact .inl ⟨k1, j, hs i h1 _ _ (by rw [if_pos hl, if_pos c]; exact k2)⟩
      · exact .inr (hs i h1 _ _ (by rw [if_pos hl, if_pos c]; exact k))
    · rw [brU, if_neg c]
      exact .inr (hs i h1 _ _ (by rw [if_pos hl, if_neg c]; exact ⟨rfl, rfl⟩))
theorem brA_ok (a : Nat → List Int) (hi : inPs a) (hn : lenP a) : CallsD Try.prog 15 [.rc (colsP a)] (.tup [i64 (brN a), i64 (lsE a)]) := by
  unfold brN
  by_cases c : lsE a = 0
  · rw [if_pos c, c]
    rcases br_loop (f := 15) (fun x y z => bAT a x y z) a (fun i h1 σ e h => bA_step a hn i h1 σ e h) ((a 0).length - 1) 1 (Nat.le_refl _) (by omega) (by omega) with ⟨k1, j, k2⟩ | k
    · rw [k1]
      refine bAX_calls a j _ ?_ ?_
      · intro g; rw [lsE_col, neq_t] at g; exact absurd c g
      · intro _; exact ⟨⟨loop_of_rounds k2, hi, hn, trivial⟩, rfl⟩
    · refine bAR_calls a (brU a ((a 0).length - 1) 1) _ ?_ ?_
      · intro g; rw [lsE_col, neq_t] at g; exact absurd c g
      · intro _; exact ⟨⟨loop_of_rounds k, hi, hn, trivial⟩, rfl⟩
  · rw [if_neg c]
    refine bAX_calls a 0 _ ?_ ?_
    · intro _; rw [lsE_col]; exact ⟨⟨hi, hn, trivial⟩, rfl⟩
    · intro g; rw [lsE_col, neq_f] at g; exact absurd g c
theorem brB_ok (a : Nat → List Int) (hi : inPs a) (hn : lenP a) : CallsD Try.prog 16 [.rc (colsP a)] (.tup [i64 (brN a), i64 (lsE a)]) := by
  unfold brN
  by_cases c : lsE a = 0
  · rw [if_pos c, c]
    rcases br_loop (f := 16) (fun x y z => bBT a x y z) a (fun i h1 σ e h => bB_step a hn i h1 σ e h) ((a 0).length - 1) 1 (Nat.le_refl _) (by omega) (by omega) with ⟨k1, j, k2⟩ | k
    · rw [k1]
      refine bBX_calls a j _ ?_ ?_
      · intro g; rw [lsE_col, neq_t] at g; exact absurd c g
      · intro _; exact ⟨⟨loop_of_rounds k2, hi, hn, trivial⟩, rfl⟩
    · refine bBR_calls a (brU a ((a 0).length - 1) 1) _ ?_ ?_
      · intro g; rw [lsE_col, neq_t] at g; exact absurd c g
      · intro _; exact ⟨⟨loop_of_rounds k, hi, hn, trivial⟩, rfl⟩
  · rw [if_neg c]
    refine bBX_calls a 0 _ ?_ ?_
    · intro _; rw [lsE_col]; exact ⟨⟨hi, hn, hi, hn, trivial⟩, rfl⟩
    · intro g; rw [lsE_col, neq_f] at g; exact absurd g c
theorem cA_run (a : Nat → List Int) (hn : lenP a) : ∀ (d i : Nat), i + d = (a 0).length →
    Runs Try.prog (CallsD Try.prog) (.rounds (loopAt Try.prog 17 0)) (cAT a 0 (a 0).length i (ctA a i) (ctL a i) (ctS a i)).abs (.exit 0) (cAT a 0 (a 0).length (a 0).length (ctA a (a 0).length) (ctL a (a 0).length) (ctS a (a 0).length)).abs
  | 0, i, h => by
    obtain rfl : i = (a 0).length := by omega
    refine cAL_step a 0 _ _ _ _ _ _ _ ?_ ?_ ?_
    · intro k; rw [lss_t] at k; omega
    · intro k; rw [lss_t] at k; omega
    · intro _; exact ⟨trivial, rfl, rfl⟩
  | d + 1, i, h => by
    have hl : i < (a 0).length := by omega
    have ih := cA_run a hn d (i + 1) (by omega)
    refine cAL_step a 0 _ _ _ _ _ _ _ ?_ ?_ ?_
    · intro _ g
      rw [Int.toNat_natCast, eql_t] at g
      rw [succI hl hn, Int.toNat_natCast]
      rw [ctA, ctL, ctS, if_pos g, if_pos g, if_pos g] at ih
      exact ⟨⟨(natLt hl).1, (natLt hl).2, trivial⟩, ih⟩
    · intro _ g
      rw [Int.toNat_natCast, eql_f] at g
      rw [succI hl hn]
      rw [ctA, ctL, ctS, if_neg g, if_neg g, if_neg g] at ih
      exact ⟨⟨(natLt hl).1, (natLt hl).2, trivial⟩, ih⟩
    · intro k; rw [lss_f] at k; omega
theorem cB_run (a : Nat → List Int) (hn : lenP a) : ∀ (d i : Nat), i + d = (a 0).length →
    Runs Try.prog (CallsD Try.prog) (.rounds (loopAt Try.prog 18 0)) (cBT a 0 i (ctA a i) (ctL a i) (ctS a i)).abs (.exit 0) (cBT a 0 (a 0).length (ctA a (a 0).length) (ctL a (a 0).length) (ctS a (a 0).length)).abs
  | 0, i, h => by
    obtain rfl : i = (a 0).length := by omega
    refine cBL_step a 0 _ _ _ _ _ _ ?_ ?_ ?_
    · intro k; rw [rlP, lss_t] at k; omega
    · intro k; rw [rlP, lss_t] at k; omega
    · intro _; exact ⟨trivial, rfl, rfl⟩
  | d + 1, i, h => by
    have hl : i < (a 0).length := by omega
    have ih := cB_run a hn d (i + 1) (by omega)
    refine cBL_step a 0 _ _ _ _ _ _ ?_ ?_ ?_
    · intro _ g
      rw [Int.toNat_natCast, eql_t] at g
      rw [succI hl hn, Int.toNat_natCast]
      rw [ctA, ctL, ctS, if_pos g, if_pos g, if_pos g] at ih
      exact ⟨⟨(natLt hl).1, (natLt hl).2, (natLt hl).1, (natLt hl).2, trivial⟩, ih⟩
    · intro _ g
      rw [Int.toNat_natCast, eql_f] at g
      rw [succI hl hn]
      rw [ctA, ctL, ctS, if_neg g, if_neg g, if_neg g] at ih
      exact ⟨⟨(natLt hl).1, (natLt hl).2, trivial⟩, ih⟩
    · intro k; rw [rlP, lss_f] at k; omega
theorem cA_ok (a : Nat → List Int) (hi : inPs a) (hn : lenP a) : CallsD Try.prog 17 [.rc (colsP a)] (.tup [.agg [u64 (ctZ a ctA), u64 (ctZ a ctL), u64 (ctZ a ctS)], i64 (lsE a)]) := by
  unfold ctZ
  by_cases c : lsE a = 0
  · rw [if_pos c, if_pos c, if_pos c, c]
    refine cA_calls a (a 0).length (ctA a (a 0).length) (ctL a (a 0).length) (ctS a (a 0).length) _ ?_ ?_
    · intro g; rw [lsE_col, neq_t] at g; exact absurd c g
    · intro _; exact ⟨⟨loop_of_rounds (cA_run a hn (a 0).length 0 (by omega)), hi, hn, trivial⟩, rfl⟩
  · rw [if_neg c, if_neg c, if_neg c]
    refine cA_calls a 0 0 0 0 _ ?_ ?_
    · intro _; rw [lsE_col]; exact ⟨⟨hi, hn, trivial⟩, rfl⟩
    · intro g; rw [lsE_col, neq_f] at g; exact absurd g c
theorem cB_ok (a : Nat → List Int) (hi : inPs a) (hn : lenP a) : CallsD Try.prog 18 [.rc (colsP a)] (.tup [.agg [u64 (ctZ a ctA), u64 (ctZ a ctL), u64 (ctZ a ctS)], i64 (lsE a)]) := by
  unfold ctZ
  by_cases c : lsE a = 0
  · rw [if_pos c, if_pos c, if_pos c, c]
    refine cB_calls a (a 0).length (ctA a (a 0).length) (ctL a (a 0).length) (ctS a (a 0).length) _ ?_ ?_
    · intro g; rw [lsE_col, neq_t] at g; exact absurd c g
    · intro _; exact ⟨⟨loop_of_rounds (cB_run a hn (a 0).length 0 (by omega)), hi, hn, trivial⟩, rfl⟩
  · rw [if_neg c, if_neg c, if_neg c]
    refine cB_calls a 0 0 0 0 _ ?_ ?_
    · intro _; rw [lsE_col]; exact ⟨⟨hi, hn, hi, hn, trivial⟩, rfl⟩
    · intro g; rw [lsE_col, neq_f] at g; exact absurd g c
def brC : List D → Option (D × List Prop)
  | [.rc cols] => bif hasCols kindsP cols then some (.tup [i64 (brN (nthC cols)), i64 (lsE (nthC cols))], [inPs (nthC cols), lenP (nthC cols)]) else none
  | _ => none
theorem brC_okA (args res l) (h : brC args = some (res, l)) (hl : AllP l) : CallsD Try.prog 15 args res := by
  unfold brC at h; split at h
  next cols =>
    cases hk : hasCols kindsP cols with
    | false => rw [hk] at h; cases h
    | true =>
      rw [hk] at h
      simp only [cond_true, Option.some.injEq, Prod.mk.injEq] at h
      obtain ⟨rfl, rfl⟩ := h
      have e := of_hasCols hk
      generalize nthC cols = f at *
      subst e
      obtain ⟨h0, h1, _⟩ := hl
      exact brA_ok f h0 h1
  · cases h
theorem brC_okB (args res l) (h : brC args = some (res, l)) (hl : AllP l) : CallsD Try.prog 16 args res := by
  unfold brC at h; split at h
  next cols =>
    cases hk : hasCols kindsP cols with
    | false => rw [hk] at h; cases h
    | true =>
      rw [hk] at h
      simp only [cond_true, Option.some.injEq, Prod.mk.injEq] at h
      obtain ⟨rfl, rfl⟩ := h
      have e := of_hasCols hk
      generalize nthC cols = f at *
      subst e
      obtain ⟨h0, h1, _⟩ := hl
      exact brB_ok f h0 h1
  · cases h
def ctC : List D → Option (D × List Prop)
  | [.rc cols] => bif hasCols kindsP cols then some (.tup [.agg [u64 (ctZ (nthC cols) ctA), u64 (ctZ (nthC cols) ctL), u64 (ctZ (nthC cols) ctS)], i64 (lsE (nthC cols))], [inPs (nthC cols), lenP (nthC cols)]) else none
  | _ => none
theorem ctC_okA (args res l) (h : ctC args = some (res, l)) (hl : AllP l) : CallsD Try.prog 17 args res := by
  unfold ctC at h; split at h
  next cols =>
    cases hk : hasCols kindsP cols with
    | false => rw [hk] at h; cases h
    | true =>
      rw [hk] at h
      simp only [cond_true, Option.some.injEq, Prod.mk.injEq] at h
      obtain ⟨rfl, rfl⟩ := h
      have e := of_hasCols hk
      generalize nthC cols = f at *
      subst e
      obtain ⟨h0, h1, _⟩ := hl
      exact cA_ok f h0 h1
  · cases h
theorem ctC_okB (args res l) (h : ctC args = some (res, l)) (hl : AllP l) : CallsD Try.prog 18 args res := by
  unfold ctC at h; split at h
  next cols =>
    cases hk : hasCols kindsP cols with
    | false => rw [hk] at h; cases h
    | true =>
      rw [hk] at h
      simp only [cond_true, Option.some.injEq, Prod.mk.injEq] at h
      obtain ⟨rfl, rfl⟩ := h
      have e := of_hasCols hk
      generalize nthC cols = f at *
      subst e
      obtain ⟨h0, h1, _⟩ := hl
      exact cB_ok f h0 h1
  · cases h
def X37 : Contracts := addCon 15 (.call brC) (addCon 16 (.call brC) (addCon 17 (.call ctC) (addCon 18 (.call ctC) X33)))
theorem hX37 : ConOK Try.prog X37 := addCall_ok brC_okA (addCall_ok brC_okB (addCall_ok ctC_okA (addCall_ok ctC_okB hX33)))
end MeterS
