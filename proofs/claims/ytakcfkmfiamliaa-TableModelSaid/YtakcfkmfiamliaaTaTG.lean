/- What the functions compute, and the law. No condition. -/
import Derived.Test.YtakcfkmfiamliaaDamXQ
import Derived.Test.YtakcfkmfiamliaaDamYA
import Derived.Test.YtakcfkmfiamliaaProg
import Derived.KernelRfl
set_option linter.unusedSectionVars false
set_option linter.unusedVariables false
set_option linter.unusedSimpArgs false
section
namespace TableS
open Go Go.Dam Go.Proofs
set_option maxRecDepth 1000000
abbrev i64 (n : Int) : D := .v (.int .i64 n)
abbrev u64 (n : Int) : D := .v (.int .u64 n)
abbrev u32 (n : Int) : D := .v (.int .u32 n)
abbrev bo (b : Bool) : D := .v (.bool b)
abbrev ri (xs : List Int) : D := .rc [.ints .i64 xs]
abbrev ru (xs : List Int) : D := .rc [.ints .u32 xs]
abbrev rb (xs : List Bool) : D := .rc [.bools xs]
@[reducible] def G0 : Glo := ⟨fun _ => [], fun _ => false⟩
variable [Glo]
def X0 : Contracts := noCon
theorem hX0 : ConOK Try.prog X0 := noCon_ok
end TableS
end

section
namespace TableS
open Go Go.Dam Go.Proofs
set_option maxRecDepth 1000000
variable [Glo]
end TableS
end

section
namespace TableS
open Go Go.Dam Go.Proofs
set_option maxRecDepth 1000000
section
variable [Glo]
noncomputable def clnN_T (cp : Nat) : Tr D := .p (.c 0) (.lf (D.v (Value.slice none 0 0)))
theorem clnN_L (cp : Nat) : Leaves (fun l => fnX Try.prog (X0) 100000 l 82 [D.v (Value.slice none 0 cp)]) (clnN_T cp) [] [] := by show _ = _; kernel_rfl
theorem clnN_calls (cp : Nat) (res : D) (h0 : At (fun r => res = r) (clnN_T cp) [] True) : CallsD Try.prog 82 [D.v (Value.slice none 0 cp)] res := tree_calls (hX0) (clnN_L cp) h0
noncomputable def clnNi_T (cp : Nat) : Tr D := .p (.c 0) (.lf (D.v (Value.slice none 0 0)))
theorem clnNi_L (cp : Nat) : Leaves (fun l => fnX Try.prog (X0) 100000 l 77 [D.v (Value.slice none 0 cp)]) (clnNi_T cp) [] [] := by show _ = _; kernel_rfl
theorem clnNi_calls (cp : Nat) (res : D) (h0 : At (fun r => res = r) (clnNi_T cp) [] True) : CallsD Try.prog 77 [D.v (Value.slice none 0 cp)] res := tree_calls (hX0) (clnNi_L cp) h0
noncomputable def clnNu_T (cp : Nat) : Tr D := .p (.c 0) (.lf (D.v (Value.slice none 0 0)))
theorem clnNu_L (cp : Nat) : Leaves (fun l => fnX Try.prog (X0) 100000 l 80 [D.v (Value.slice none 0 cp)]) (clnNu_T cp) [] [] := by show _ = _; kernel_rfl
theorem clnNu_calls (cp : Nat) (res : D) (h0 : At (fun r => res = r) (clnNu_T cp) [] True) : CallsD Try.prog 80 [D.v (Value.slice none 0 cp)] res := tree_calls (hX0) (clnNu_L cp) h0
noncomputable def clnNk_T (cp : Nat) : Tr D := .p (.c 0) (.lf (D.v (Value.slice none 0 0)))
theorem clnNk_L (cp : Nat) : Leaves (fun l => fnX Try.prog (X0) 100000 l 81 [D.v (Value.slice none 0 cp)]) (clnNk_T cp) [] [] := by show _ = _; kernel_rfl
theorem clnNk_calls (cp : Nat) (res : D) (h0 : At (fun r => res = r) (clnNk_T cp) [] True) : CallsD Try.prog 81 [D.v (Value.slice none 0 cp)] res := tree_calls (hX0) (clnNk_L cp) h0
noncomputable def clnNc_T (cp : Nat) : Tr D := .p (.c 0) (.lf (D.v (Value.slice none 0 0)))
theorem clnNc_L (cp : Nat) : Leaves (fun l => fnX Try.prog (X0) 100000 l 83 [D.v (Value.slice none 0 cp)]) (clnNc_T cp) [] [] := by show _ = _; kernel_rfl
theorem clnNc_calls (cp : Nat) (res : D) (h0 : At (fun r => res = r) (clnNc_T cp) [] True) : CallsD Try.prog 83 [D.v (Value.slice none 0 cp)] res := tree_calls (hX0) (clnNc_L cp) h0
end
section
attribute [local instance] GL
noncomputable def clnB_T (ys : List Bool) : Tr D := .p (.c 0) (.s ((Col0.bools ys).len = rowLen0 [.bools ys]) (.s (rowLen0 [.bools ys] * 1 ≤ 17592186044416) (.q (rowLen0 [.bools ys]) (.lf (D.oc [.bools ys])))))
theorem clnB_L (ys : List Bool) : Leaves (fun l => fnX Try.prog (X0) 100000 l 82 [rb ys]) (clnB_T ys) [] [] := by show _ = _; kernel_rfl
theorem clnB_calls (ys : List Bool) (res : D) (h0 : At (fun r => res = r) (clnB_T ys) [] True) : CallsD Try.prog 82 [rb ys] res := tree_calls (hX0) (clnB_L ys) h0
noncomputable def clnI_T (xs : List Int) : Tr D := .p (.c 0) (.s ((Col0.ints .i64 xs).len = rowLen0 [.ints .i64 xs]) (.s (rowLen0 [.ints .i64 xs] * 8 ≤ 17592186044416) (.q (rowLen0 [.ints .i64 xs]) (.lf (D.oc [.ints .i64 xs])))))
theorem clnI_L (xs : List Int) : Leaves (fun l => fnX Try.prog (X0) 100000 l 77 [ri xs]) (clnI_T xs) [] [] := by show _ = _; kernel_rfl
theorem clnI_calls (xs : List Int) (res : D) (h0 : At (fun r => res = r) (clnI_T xs) [] True) : CallsD Try.prog 77 [ri xs] res := tree_calls (hX0) (clnI_L xs) h0
noncomputable def clnU_T (xs : List Int) : Tr D := .p (.c 0) (.s ((Col0.ints .u32 xs).len = rowLen0 [.ints .u32 xs]) (.s (rowLen0 [.ints .u32 xs] * 4 ≤ 17592186044416) (.q (rowLen0 [.ints .u32 xs]) (.lf (D.oc [.ints .u32 xs])))))
theorem clnU_L (xs : List Int) : Leaves (fun l => fnX Try.prog (X0) 100000 l 80 [ru xs]) (clnU_T xs) [] [] := by show _ = _; kernel_rfl
theorem clnU_calls (xs : List Int) (res : D) (h0 : At (fun r => res = r) (clnU_T xs) [] True) : CallsD Try.prog 80 [ru xs] res := tree_calls (hX0) (clnU_L xs) h0
noncomputable def clnK_T (x1 : List Int) (x2 : List Int) (x3 : List Int) (x4 : List Int) (x5 : List Int) (x6 : List Int) : Tr D := .p (.c 0) (.s ((Col0.ints .u64 x6).len = rowLen0 [.ints .i64 x1, .ints .i64 x2, .ints .i64 x3, .ints .i64 x4, .ints .i64 x5, .ints .u64 x6]) (.s ((Col0.ints .i64 x5).len = rowLen0 [.ints .i64 x1, .ints .i64 x2, .ints .i64 x3, .ints .i64 x4, .ints .i64 x5, .ints .u64 x6]) (.s ((Col0.ints .i64 x4).len = rowLen0 [.ints .i64 x1, .ints .i64 x2, .ints .i64 x3, .ints .i64 x4, .ints .i64 x5, .ints .u64 x6]) (.s ((Col0.ints .i64 x3).len = rowLen0 [.ints .i64 x1, .ints .i64 x2, .ints .i64 x3, .ints .i64 x4, .ints .i64 x5, .ints .u64 x6]) (.s ((Col0.ints .i64 x2).len = rowLen0 [.ints .i64 x1, .ints .i64 x2, .ints .i64 x3, .ints .i64 x4, .ints .i64 x5, .ints .u64 x6]) (.s ((Col0.ints .i64 x1).len = rowLen0 [.ints .i64 x1, .ints .i64 x2, .ints .i64 x3, .ints .i64 x4, .ints .i64 x5, .ints .u64 x6]) (.s (rowLen0 [.ints .i64 x1, .ints .i64 x2, .ints .i64 x3, .ints .i64 x4, .ints .i64 x5, .ints .u64 x6] * 48 ≤ 17592186044416) (.q (rowLen0 [.ints .i64 x1, .ints .i64 x2, .ints .i64 x3, .ints .i64 x4, .ints .i64 x5, .ints .u64 x6]) (.lf (D.oc [.ints .i64 x1, .ints .i64 x2, .ints .i64 x3, .ints .i64 x4, .ints .i64 x5, .ints .u64 x6]))))))))))
theorem clnK_L (x1 x2 x3 x4 x5 x6 : List Int) : Leaves (fun l => fnX Try.prog (X0) 100000 l 81 [D.rc [Col.ints .i64 x1, Col.ints .i64 x2, Col.ints .i64 x3, Col.ints .i64 x4, Col.ints .i64 x5, Col.ints .u64 x6]]) (clnK_T x1 x2 x3 x4 x5 x6) [] [] := by show _ = _; kernel_rfl
theorem clnK_calls (x1 x2 x3 x4 x5 x6 : List Int) (res : D) (h0 : At (fun r => res = r) (clnK_T x1 x2 x3 x4 x5 x6) [] True) : CallsD Try.prog 81 [D.rc [Col.ints .i64 x1, Col.ints .i64 x2, Col.ints .i64 x3, Col.ints .i64 x4, Col.ints .i64 x5, Col.ints .u64 x6]] res := tree_calls (hX0) (clnK_L x1 x2 x3 x4 x5 x6) h0
noncomputable def clnC_T (xs : List Int) (ys : List Int) (zs : List Bool) : Tr D := .p (.c 0) (.s ((Col0.bools zs).len = rowLen0 [.ints .u32 xs, .ints .i64 ys, .bools zs]) (.s ((Col0.ints .i64 ys).len = rowLen0 [.ints .u32 xs, .ints .i64 ys, .bools zs]) (.s ((Col0.ints .u32 xs).len = rowLen0 [.ints .u32 xs, .ints .i64 ys, .bools zs]) (.s (rowLen0 [.ints .u32 xs, .ints .i64 ys, .bools zs] * 24 ≤ 17592186044416) (.q (rowLen0 [.ints .u32 xs, .ints .i64 ys, .bools zs]) (.lf (D.oc [.ints .u32 xs, .ints .i64 ys, .bools zs])))))))
theorem clnC_L (xs ys : List Int) (zs : List Bool) : Leaves (fun l => fnX Try.prog (X0) 100000 l 83 [D.rc [Col.ints .u32 xs, Col.ints .i64 ys, Col.bools zs]]) (clnC_T xs ys zs) [] [] := by show _ = _; kernel_rfl
theorem clnC_calls (xs ys : List Int) (zs : List Bool) (res : D) (h0 : At (fun r => res = r) (clnC_T xs ys zs) [] True) : CallsD Try.prog 83 [D.rc [Col.ints .u32 xs, Col.ints .i64 ys, Col.bools zs]] res := tree_calls (hX0) (clnC_L xs ys zs) h0
end
attribute [instance] G0
abbrev kc (x1 x2 x3 x4 x5 x6 : List Int) : D := .rc [.ints .i64 x1, .ints .i64 x2, .ints .i64 x3, .ints .i64 x4, .ints .i64 x5, .ints .u64 x6]
abbrev cc (xs ys : List Int) (zs : List Bool) : D := .rc [.ints .u32 xs, .ints .i64 ys, .bools zs]
abbrev oi (xs : List Int) : D := .oc [.ints .i64 xs]
abbrev ou (xs : List Int) : D := .oc [.ints .u32 xs]
abbrev ob (xs : List Bool) : D := .oc [.bools xs]
abbrev kco (x1 x2 x3 x4 x5 x6 : List Int) : D := .oc [.ints .i64 x1, .ints .i64 x2, .ints .i64 x3, .ints .i64 x4, .ints .i64 x5, .ints .u64 x6]
abbrev cco (xs ys : List Int) (zs : List Bool) : D := .oc [.ints .u32 xs, .ints .i64 ys, .bools zs]
theorem clb_ok (ys : List Bool) (h : ys.length ≤ 200) : CallsD Try.prog 82 [rb ys] (ob ys) :=
 calls_live (cols := [.bools ys]) (fun cp => clnN_calls cp _ ⟨trivial, rfl⟩) (@clnB_calls ys _ ⟨⟨by simp only [rowLen0, Col0.len]; omega, rfl, trivial⟩, rfl⟩)
theorem cli_ok (ys : List Int) (h : ys.length ≤ 200) : CallsD Try.prog 77 [ri ys] (oi ys) :=
 calls_live (cols := [.ints .i64 ys]) (fun cp => clnNi_calls cp _ ⟨trivial, rfl⟩) (@clnI_calls ys _ ⟨⟨by simp only [rowLen0, Col0.len]; omega, rfl, trivial⟩, rfl⟩)
theorem clu_ok (ys : List Int) (h : ys.length ≤ 200) : CallsD Try.prog 80 [ru ys] (ou ys) :=
 calls_live (cols := [.ints .u32 ys]) (fun cp => clnNu_calls cp _ ⟨trivial, rfl⟩) (@clnU_calls ys _ ⟨⟨by simp only [rowLen0, Col0.len]; omega, rfl, trivial⟩, rfl⟩)
def kcS (x1 x2 x3 x4 x5 x6 : List Int) : Prop := x1.length ≤ 200 ∧ x2.length = x1.length ∧ x3.length = x1.length ∧ x4.length = x1.length ∧ x5.length = x1.length ∧ x6.length = x1.length
def ccS (xs ys : List Int) (zs : List Bool) : Prop := xs.length ≤ 200 ∧ ys.length = xs.length ∧ zs.length = xs.length
theorem clk_ok (x1 x2 x3 x4 x5 x6 : List Int) (h : kcS x1 x2 x3 x4 x5 x6) : CallsD Try.prog 81 [kc x1 x2 x3 x4 x5 x6] (kco x1 x2 x3 x4 x5 x6) := by
 obtain ⟨h1, h2, h3, h4, h5, h6⟩ := h
 exact calls_live (cols := [.ints .i64 x1, .ints .i64 x2, .ints .i64 x3, .ints .i64 x4, .ints .i64 x5, .ints .u64 x6]) (fun cp => clnNk_calls cp _ ⟨trivial, rfl⟩) (@clnK_calls x1 x2 x3 x4 x5 x6 _ ⟨⟨by simp only [rowLen0, Col0.len]; omega, rfl, h2, h3, h4, h5, h6, trivial⟩, rfl⟩)
theorem clc_ok (xs ys : List Int) (zs : List Bool) (h : ccS xs ys zs) : CallsD Try.prog 83 [cc xs ys zs] (cco xs ys zs) := by
 obtain ⟨h1, h2, h3⟩ := h
 exact calls_live (cols := [.ints .u32 xs, .ints .i64 ys, .bools zs]) (fun cp => clnNc_calls cp _ ⟨trivial, rfl⟩) (@clnC_calls xs ys zs _ ⟨⟨by simp only [rowLen0, Col0.len]; omega, rfl, h2, h3, trivial⟩, rfl⟩)
def clbC : List D → Option (D × List Prop)
 | [.rc [.bools ys]] => some (ob ys, [ys.length ≤ 200])
 | _ => none
theorem clbC_ok (args res l) (h : clbC args = some (res, l)) (hl : AllP l) : CallsD Try.prog 82 args res := by
 unfold clbC at h; split at h
 ·simp only [Option.some.injEq, Prod.mk.injEq] at h
  obtain ⟨rfl, rfl⟩ := h; obtain ⟨h0, _⟩ := hl
  exact clb_ok _ h0
 ·cases h
def cliC : List D → Option (D × List Prop)
 | [.rc [.ints .i64 ys]] => some (oi ys, [ys.length ≤ 200])
 | _ => none
theorem cliC_ok (args res l) (h : cliC args = some (res, l)) (hl : AllP l) : CallsD Try.prog 77 args res := by
 unfold cliC at h; split at h
 ·simp only [Option.some.injEq, Prod.mk.injEq] at h
  obtain ⟨rfl, rfl⟩ := h; obtain ⟨h0, _⟩ := hl
  exact cli_ok _ h0
 ·cases h
def cluC : List D → Option (D × List Prop)
 | [.rc [.ints .u32 ys]] => some (ou ys, [ys.length ≤ 200])
 | _ => none
theorem cluC_ok (args res l) (h : cluC args = some (res, l)) (hl : AllP l) : CallsD Try.prog 80 args res := by
 unfold cluC at h; split at h
 ·simp only [Option.some.injEq, Prod.mk.injEq] at h
  obtain ⟨rfl, rfl⟩ := h; obtain ⟨h0, _⟩ := hl
  exact clu_ok _ h0
 ·cases h
def clkC : List D → Option (D × List Prop)
 | [.rc [.ints .i64 x1, .ints .i64 x2, .ints .i64 x3, .ints .i64 x4, .ints .i64 x5, .ints .u64 x6]] => some (kco x1 x2 x3 x4 x5 x6, [kcS x1 x2 x3 x4 x5 x6])
 | _ => none
theorem clkC_ok (args res l) (h : clkC args = some (res, l)) (hl : AllP l) : CallsD Try.prog 81 args res := by
 unfold clkC at h; split at h
 ·simp only [Option.some.injEq, Prod.mk.injEq] at h
  obtain ⟨rfl, rfl⟩ := h; obtain ⟨h0, _⟩ := hl
  exact clk_ok _ _ _ _ _ _ h0
 ·cases h
def clcC : List D → Option (D × List Prop)
 | [.rc [.ints .u32 xs, .ints .i64 ys, .bools zs]] => some (cco xs ys zs, [ccS xs ys zs])
 | _ => none
theorem clcC_ok (args res l) (h : clcC args = some (res, l)) (hl : AllP l) : CallsD Try.prog 83 args res := by
 unfold clcC at h; split at h
 ·simp only [Option.some.injEq, Prod.mk.injEq] at h
  obtain ⟨rfl, rfl⟩ := h; obtain ⟨h0, _⟩ := hl
  exact clc_ok _ _ _ h0
 ·cases h
def X1 : Contracts := addCon 82 (.call clbC) (addCon 77 (.call cliC) (addCon 80 (.call cluC) (addCon 81 (.call clkC) (addCon 83 (.call clcC) X0))))
theorem hX1 : ConOK Try.prog X1 := addCall_ok clbC_ok (addCall_ok cliC_ok (addCall_ok cluC_ok (addCall_ok clkC_ok (addCall_ok clcC_ok hX0))))
end TableS
end

section
namespace TableS
open Go Go.Dam Go.Proofs
set_option maxRecDepth 1000000
noncomputable def inT (xs : List Int) (n : Int) (o : Bool) (i : Int) : Cs := ⟨TT.of [(0, ri xs), (1, i64 n), (4, bo o), (5, i64 i)], 18, [], [], none, 0⟩
noncomputable def ctT (xs ys : List Int) (zs : List Bool) (o n i : Int) : Cs := ⟨TT.of [(0, cc xs ys zs), (2, i64 o), (3, i64 n), (4, i64 i)], 19, [], [], none, 0⟩
noncomputable def atT (xs ys : List Int) (zs : List Bool) (k o i : Int) : Cs := ⟨TT.of [(0, cc xs ys zs), (1, u32 k), (4, i64 o), (5, i64 i)], 27, [], [], none, 0⟩
noncomputable def ceT (xs ys : List Int) (zs : List Bool) (p k o : Int) (b : Bool) (n : Int) (s : Bool) (i : Int) : Cs := ⟨TT.of [(0, cc xs ys zs), (1, i64 p), (2, u32 k), (6, i64 o), (7, bo b), (8, i64 n), (9, bo s), (10, i64 i)], 45, [], [], none, 0⟩
noncomputable def siT (xs ys : List Int) (o : Bool) (i : Int) : Cs := ⟨TT.of [(0, ri xs), (1, ri ys), (4, bo o), (5, i64 i)], 26, [], [], none, 0⟩
noncomputable def skT (xs ys : List Int) (o : Bool) (i : Int) : Cs := ⟨TT.of [(0, ru xs), (1, ru ys), (4, bo o), (5, i64 i)], 26, [], [], none, 0⟩
noncomputable def ixT (xs : List Int) (n o m i : Int) : Cs := ⟨TT.of [(0, ri xs), (1, i64 n), (4, i64 o), (7, i64 m), (8, i64 i)], 19, [], [], none, 0⟩
noncomputable def lkT (xs ys : List Int) (zs : List Bool) (k i n : Int) : Cs := ⟨TT.of [(0, cc xs ys zs), (1, u32 k), (4, i64 i), (5, i64 n)], 30, [], [], none, 0⟩
noncomputable def akT (r n i : Int) (k : Nat) (xs : List Int) (us : List Bool) (f : Int) (ys : List Bool) : Cs := ⟨TT.of [(1, (D.ptr 32 0)), (2, i64 r), (3, i64 n), (4, (D.sl 832 0 k ⟨1, 0⟩)), (5, i64 i)], 77, [], [(32, BX.cells [ri xs, rb us, i64 f] false), (832, BX.row [.bools ys] false)], none, 0⟩
end TableS
end

section
namespace TableS
open Go Go.Dam Go.Proofs
set_option maxRecDepth 1000000
theorem succL {i n : Nat} (h : i < n) (hn : n ≤ 200) : opI .add .i64 (i : Int) 1 = ((i + 1 : Nat) : Int) := by
 rw [opI_add, wrap_i64_of (by omega) (by omega)]; omega
theorem natLt {i n : Nat} (h : i < n) : decide (0 ≤ (i : Int)) = true ∧ decide ((i : Int) < (n : Int)) = true := by simp; exact h
/-- The first number that is right, or -1. -/
def findI (p : Nat → Bool) : Nat → Nat → Int
 | 0, _ => -1
 | d + 1, i => if p i then (i : Int) else findI p d (i + 1)
theorem findI_none {p : Nat → Bool} : ∀ (d i : Nat), (∀ j, i ≤ j → j < i + d → p j = false) → findI p d i = -1
 | 0, _, _ => rfl
 | d + 1, i, h => by
  simp only [findI, h i (Nat.le_refl _) (by omega)]
  exact findI_none d (i + 1) fun j a b => h j (by omega) (by omega)
theorem findI_some {p : Nat → Bool} : ∀ (d i j : Nat), i ≤ j → j < i + d → p j = true → (∀ k, i ≤ k → k < j → p k = false) → findI p d i = (j : Int)
 | 0, i, j, _, h, _, _ => by omega
 | d + 1, i, j, h0, h1, h2, h3 => by
  by_cases e : p i = true
  ·have : i = j := by
    rcases Nat.eq_or_lt_of_le h0 with q | q
    ·exact q
    ·rw [h3 i (Nat.le_refl _) q] at e; cases e
   subst this; simp only [findI, e, if_true]
  ·simp only [findI, e]
   have : i ≠ j := fun q => by rw [q] at e; exact e h2
   exact findI_some d (i + 1) j (by omega) (by omega) h2 fun k a b => h3 k (by omega) b
theorem findI_lt {p : Nat → Bool} : ∀ (d i : Nat), findI p d i < 0 ↔ ∀ j, i ≤ j → j < i + d → p j = false
 | 0, i => ⟨fun _ j a b => by omega, fun _ => by simp [findI]⟩
 | d + 1, i => by
  by_cases e : p i = true
  ·simp only [findI, e, if_true]
   exact ⟨fun h => by omega, fun h => by rw [h i (Nat.le_refl _) (by omega)] at e; cases e⟩
  ·simp only [findI, e]
   refine (findI_lt d (i + 1)).trans ⟨fun h j a b => ?_, fun h j a b => h j (by omega) (by omega)⟩
   rcases Nat.eq_or_lt_of_le a with q | q
   ·rw [← q]; simpa using e
   ·exact h j q (by omega)
theorem mem_findI (xs : List Int) (n : Int) : decide (n ∈ xs) = !decide (findI (fun i => xs.getD i 0 == n) xs.length 0 < 0) := by
 rw [Bool.eq_iff_iff]
 simp only [decide_eq_true_eq, Bool.not_eq_true', decide_eq_false_iff_not, findI_lt]
 constructor
 ·intro h q
  obtain ⟨i, hi, e⟩ := List.getElem_of_mem h
  have := q i (by omega) (by omega)
  simp [List.getD_eq_getElem?_getD, List.getElem?_eq_getElem hi, e] at this
 ·intro h
  apply Classical.byContradiction
  intro c
  apply h
  intro j _ hj
  simp only [Nat.zero_add] at hj
  simp only [List.getD_eq_getElem?_getD, List.getElem?_eq_getElem hj, Option.getD_some, beq_eq_false_iff_ne]
  rintro rfl
  exact c (List.getElem_mem hj)
def inB (xs : List Int) (n : Int) : Bool := decide (n ∈ xs)
def eqB (xs ys : List Int) : Bool := decide (xs = ys)
/-- A loop that looks for the first number that is right. -/
theorem look_for {b : Code} (T : Nat → Cs) (n : Nat) (p : Nat → Bool) (C : Int → Prop)
  (hgo : ∀ i, i < n → p i = false → ∀ (σ : St) (e : Ex), Runs Try.prog (CallsD Try.prog) (.rounds b) (T (i + 1)).abs e σ → Runs Try.prog (CallsD Try.prog) (.rounds b) (T i).abs e σ)
  (hno : (∀ (σ : St) (e : Ex), Runs Try.prog (CallsD Try.prog) (.rounds b) (T n).abs e σ → Runs Try.prog (CallsD Try.prog) (.rounds b) (T 0).abs e σ) → C (-1))
  (hye : ∀ j, j < n → p j = true → (∀ (σ : St) (e : Ex), Runs Try.prog (CallsD Try.prog) (.rounds b) (T j).abs e σ → Runs Try.prog (CallsD Try.prog) (.rounds b) (T 0).abs e σ) → C j) : C (findI p n 0) := by
 by_cases h : ∃ j, 0 ≤ j ∧ j < n ∧ ¬ p j = false
 ·obtain ⟨j, _, h1, h2, h3, h4⟩ := scan_first T n (fun i => p i = false) (fun i a c σ e r => hgo i a c σ e r) n 0 (by omega) h
  rw [findI_some n 0 j (by omega) (by omega) (by simpa using h2) (fun k a c => h3 k a c)]
  exact hye j h1 (by simpa using h2) fun σ e r => h4 σ e r
 ·have hf : ∀ j, j < n → p j = false := fun j a => by
   cases e : p j with
   | false => rfl
   | true => exact absurd ⟨j, by omega, a, by simp [e]⟩ h
  rw [findI_none n 0 fun j _ a => hf j (by omega)]
  exact hno fun σ e r => scan_all T n (fun i => p i = false) (fun i a c σ e r => hgo i a c σ e r) r n 0 (by omega) fun j _ a => hf j a
noncomputable def inL_T (xs : List Int) (n : Int) (o : Bool) (i : Int) : Tr (Ex × Cs) := .d (cmpI .lss i ↑(xs.length)) (fun e0 => .s (decide (i < ↑(xs.length)) = true) (.s (decide (0 ≤ i) = true) (.d (cmpI .eql (xs.getD i.toNat 0) n) (fun e1 => .lf (Ex.ret, (inT (xs) (n) (true) (i)))) (fun e1 => .lf (Ex.normal, (inT (xs) (n) (o) (opI .add .i64 i 1))))))) (fun e0 => .lf (Ex.exit 0, (inT (xs) (n) (o) (i))))
theorem inL_L (xs : List Int) (n : Int) (o : Bool) (i : Int) : Leaves (roundT Try.prog (X1) 100000 (loopAt Try.prog 72 0) [[0, 1, 4, 5]] [] (inT xs n o i)) (inL_T xs n o i) [] [] := by refine ⟨fun _ => ⟨fun _ => ?_, fun _ => ?_⟩, fun _ => ?_⟩ <;> (show _ = _; kernel_rfl)
theorem inL_step (xs : List Int) (n : Int) (o : Bool) (i : Int) (σ : St) (e : Ex) (h0 : At (RG Try.prog (loopAt Try.prog 72 0) e σ) (inL_T xs n o i) [true, true] True) (h1 : At (RG Try.prog (loopAt Try.prog 72 0) e σ) (inL_T xs n o i) [true, false] True) (h2 : At (RG Try.prog (loopAt Try.prog 72 0) e σ) (inL_T xs n o i) [false] True) : Runs Try.prog (CallsD Try.prog) (.rounds (loopAt Try.prog 72 0)) (inT xs n o i).abs e σ := tree_rounds (hX1) (inL_L xs n o i) ⟨fun e0 => ⟨fun e1 => h0 e0 e1, fun e1 => h1 e0 e1⟩, fun e0 => h2 e0⟩
noncomputable def inF_T (xs : List Int) (n : Int) (o : Bool) (i : Int) : Tr D := .p (.l [[0, 1, 4, 5]] [] (inT xs n false 0) (Ex.exit 0) (inT xs n o i)) (.s (Runs Try.prog (CallsD Try.prog) (.code (.loop (loopAt Try.prog 72 0))) (inT xs n false 0).abs (Ex.exit 0) (inT xs n o i).abs) (.k ((inT xs n false 0 = inT xs n false 0)) rfl (.lf (bo false))))
theorem inF_L (xs : List Int) (n : Int) (o : Bool) (i : Int) : Leaves (fun l => fnX Try.prog (X1) 100000 l 72 [ri xs, i64 n]) (inF_T xs n o i) [] [] := by show _ = _; kernel_rfl
theorem inF_calls (xs : List Int) (n : Int) (o : Bool) (i : Int) (res : D) (h0 : At (fun r => res = r) (inF_T xs n o i) [] True) : CallsD Try.prog 72 [ri xs, i64 n] res := tree_calls (hX1) (inF_L xs n o i) h0
noncomputable def inR_T (xs : List Int) (n : Int) (o : Bool) (i : Int) : Tr D := .p (.l [[0, 1, 4, 5]] [] (inT xs n false 0) Ex.ret (inT xs n o i)) (.s (Runs Try.prog (CallsD Try.prog) (.code (.loop (loopAt Try.prog 72 0))) (inT xs n false 0).abs (Ex.ret) (inT xs n o i).abs) (.k ((inT xs n false 0 = inT xs n false 0)) rfl (.lf (bo o))))
theorem inR_L (xs : List Int) (n : Int) (o : Bool) (i : Int) : Leaves (fun l => fnX Try.prog (X1) 100000 l 72 [ri xs, i64 n]) (inR_T xs n o i) [] [] := by show _ = _; kernel_rfl
theorem inR_calls (xs : List Int) (n : Int) (o : Bool) (i : Int) (res : D) (h0 : At (fun r => res = r) (inR_T xs n o i) [] True) : CallsD Try.prog 72 [ri xs, i64 n] res := tree_calls (hX1) (inR_L xs n o i) h0
noncomputable def ixL_T (xs : List Int) (n : Int) (o : Int) (m : Int) (i : Int) : Tr (Ex × Cs) := .d (cmpI .lss i m) (fun e0 => .s (decide (i < ↑(xs.length)) = true) (.s (decide (0 ≤ i) = true) (.d (cmpI .eql n (xs.getD i.toNat 0)) (fun e1 => .lf (Ex.ret, (ixT (xs) (n) (i) (m) (i)))) (fun e1 => .lf (Ex.normal, (ixT (xs) (n) (o) (m) (opI .add .i64 i 1))))))) (fun e0 => .lf (Ex.exit 0, (ixT (xs) (n) (o) (m) (i))))
theorem ixL_L (xs : List Int) (n o m i : Int) : Leaves (roundT Try.prog (X1) 100000 (loopAt Try.prog 102 0) [[0, 1, 4, 7, 8]] [] (ixT xs n o m i)) (ixL_T xs n o m i) [] [] := by refine ⟨fun _ => ⟨fun _ => ?_, fun _ => ?_⟩, fun _ => ?_⟩ <;> (show _ = _; kernel_rfl)
theorem ixL_step (xs : List Int) (n : Int) (o : Int) (m : Int) (i : Int) (σ : St) (e : Ex) (h0 : At (RG Try.prog (loopAt Try.prog 102 0) e σ) (ixL_T xs n o m i) [true, true] True) (h1 : At (RG Try.prog (loopAt Try.prog 102 0) e σ) (ixL_T xs n o m i) [true, false] True) (h2 : At (RG Try.prog (loopAt Try.prog 102 0) e σ) (ixL_T xs n o m i) [false] True) : Runs Try.prog (CallsD Try.prog) (.rounds (loopAt Try.prog 102 0)) (ixT xs n o m i).abs e σ := tree_rounds (hX1) (ixL_L xs n o m i) ⟨fun e0 => ⟨fun e1 => h0 e0 e1, fun e1 => h1 e0 e1⟩, fun e0 => h2 e0⟩
noncomputable def ixF_T (xs : List Int) (n : Int) (o : Int) (m : Int) (i : Int) : Tr D := .p (.l [[0, 1, 4, 7, 8]] [] (ixT xs n 0 (↑(xs.length)) 0) (Ex.exit 0) (ixT xs n o m i)) (.s (Runs Try.prog (CallsD Try.prog) (.code (.loop (loopAt Try.prog 102 0))) (ixT xs n 0 (↑(xs.length)) 0).abs (Ex.exit 0) (ixT xs n o m i).abs) (.k ((ixT xs n 0 (↑(xs.length)) 0 = ixT xs n 0 (↑(xs.length)) 0)) rfl (.lf (i64 (-1)))))
theorem ixF_L (xs : List Int) (n o m i : Int) : Leaves (fun l => fnX Try.prog (X1) 100000 l 102 [ri xs, i64 n]) (ixF_T xs n o m i) [] [] := by show _ = _; kernel_rfl
theorem ixF_calls (xs : List Int) (n o m i : Int) (res : D) (h0 : At (fun r => res = r) (ixF_T xs n o m i) [] True) : CallsD Try.prog 102 [ri xs, i64 n] res := tree_calls (hX1) (ixF_L xs n o m i) h0
noncomputable def ixR_T (xs : List Int) (n : Int) (o : Int) (m : Int) (i : Int) : Tr D := .p (.l [[0, 1, 4, 7, 8]] [] (ixT xs n 0 (↑(xs.length)) 0) Ex.ret (ixT xs n o m i)) (.s (Runs Try.prog (CallsD Try.prog) (.code (.loop (loopAt Try.prog 102 0))) (ixT xs n 0 (↑(xs.length)) 0).abs (Ex.ret) (ixT xs n o m i).abs) (.k ((ixT xs n 0 (↑(xs.length)) 0 = ixT xs n 0 (↑(xs.length)) 0)) rfl (.lf (i64 o))))
theorem ixR_L (xs : List Int) (n o m i : Int) : Leaves (fun l => fnX Try.prog (X1) 100000 l 102 [ri xs, i64 n]) (ixR_T xs n o m i) [] [] := by show _ = _; kernel_rfl
theorem ixR_calls (xs : List Int) (n o m i : Int) (res : D) (h0 : At (fun r => res = r) (ixR_T xs n o m i) [] True) : CallsD Try.prog 102 [ri xs, i64 n] res := tree_calls (hX1) (ixR_L xs n o m i) h0
theorem in_ok (xs : List Int) (n : Int) (h : xs.length ≤ 200) : CallsD Try.prog 72 [ri xs, i64 n] (bo (inB xs n)) := by
 unfold inB; rw [mem_findI]
 refine look_for (b := loopAt Try.prog 72 0) (fun i => inT xs n false (i : Int)) xs.length (fun i => xs.getD i 0 == n) (fun v => CallsD Try.prog 72 [ri xs, i64 n] (bo (!decide (v < 0)))) ?_ ?_ ?_
 ·intro i hi hp σ e hr
  refine inL_step xs n false i σ e ?_ ?_ ?_ <;> dsimp only [At, Tr.q, RG, inL_T]
  ·intro _ g; rw [Int.toNat_natCast, eql_t] at g; rw [g] at hp; simp at hp
  ·intro _ _; rw [succL hi h]; exact ⟨⟨(natLt hi).1, (natLt hi).2, trivial⟩, hr⟩
  ·intro g; rw [lss_f] at g; omega
 ·intro hr
  refine inF_calls xs n false xs.length _ ⟨⟨loop_of_rounds (hr _ _ (inL_step xs n false xs.length _ _ ?_ ?_ ?_)), trivial⟩, rfl⟩
  ·intro g; rw [lss_t] at g; omega
  ·intro g; rw [lss_t] at g; omega
  ·intro _; exact ⟨trivial, rfl, rfl⟩
 ·intro j hj hp hr
  refine inR_calls xs n true j _ ⟨⟨loop_of_rounds (hr _ _ (inL_step xs n false j _ _ ?_ ?_ ?_)), trivial⟩, by simp⟩
  ·intro _ _; exact ⟨⟨(natLt hj).1, (natLt hj).2, trivial⟩, rfl, rfl⟩
  ·intro _ g; rw [Int.toNat_natCast, eql_f] at g; simp at hp; exact absurd hp g
  ·intro g; rw [lss_f] at g; omega
def ixN (xs : List Int) (n : Int) : Int := findI (fun i => n == xs.getD i 0) xs.length 0
theorem ix_ok (xs : List Int) (n : Int) (h : xs.length ≤ 200) : CallsD Try.prog 102 [ri xs, i64 n] (i64 (ixN xs n)) := by
 refine look_for (b := loopAt Try.prog 102 0) (fun i => ixT xs n 0 xs.length (i : Int)) xs.length (fun i => n == xs.getD i 0) (fun v => CallsD Try.prog 102 [ri xs, i64 n] (i64 v)) ?_ ?_ ?_
 ·intro i hi hp σ e hr
  refine ixL_step xs n 0 xs.length i σ e ?_ ?_ ?_ <;> dsimp only [At, Tr.q, RG, ixL_T]
  ·intro _ g; rw [Int.toNat_natCast, eql_t] at g; rw [g] at hp; simp at hp
  ·intro _ _; rw [succL hi h]; exact ⟨⟨(natLt hi).1, (natLt hi).2, trivial⟩, hr⟩
  ·intro g; rw [lss_f] at g; omega
 ·intro hr
  refine ixF_calls xs n 0 xs.length xs.length _ ⟨⟨loop_of_rounds (hr _ _ (ixL_step xs n 0 xs.length xs.length _ _ ?_ ?_ ?_)), trivial⟩, rfl⟩
  ·intro g; rw [lss_t] at g; omega
  ·intro g; rw [lss_t] at g; omega
  ·intro _; exact ⟨trivial, rfl, rfl⟩
 ·intro j hj hp hr
  refine ixR_calls xs n j xs.length j _ ⟨⟨loop_of_rounds (hr _ _ (ixL_step xs n 0 xs.length j _ _ ?_ ?_ ?_)), trivial⟩, rfl⟩
  ·intro _ _; exact ⟨⟨(natLt hj).1, (natLt hj).2, trivial⟩, rfl, rfl⟩
  ·intro _ g; rw [Int.toNat_natCast, eql_f] at g; simp at hp; exact absurd hp g
  ·intro g; rw [lss_f] at g; omega
end TableS
end

section
namespace TableS
open Go Go.Dam Go.Proofs
set_option maxRecDepth 1000000
theorem getD_same {xs ys : List Int} (h : xs.length = ys.length) : decide (xs = ys) = decide (findI (fun i => xs.getD i 0 != ys.getD i 0) xs.length 0 < 0) := by
 rw [Bool.eq_iff_iff]
 simp only [decide_eq_true_eq, findI_lt]
 constructor
 ·intro e j _ _; simp [e]
 ·intro q
  apply List.ext_getElem h
  intro i h1 h2
  have := q i (by omega) (by omega)
  simpa [List.getD_eq_getElem?_getD, List.getElem?_eq_getElem h1, List.getElem?_eq_getElem h2] using this
/-- How many numbers are right; whether all are. -/
def cnt (q : Nat → Bool) : Nat → Nat
 | 0 => 0
 | n + 1 => cnt q n + bif q n then 1 else 0
def alls (q : Nat → Bool) : Nat → Bool
 | 0 => true
 | n + 1 => alls q n && q n
theorem cnt_le (q : Nat → Bool) : ∀ n, cnt q n ≤ n
 | 0 => Nat.le_refl _
 | n + 1 => by have := cnt_le q n; simp only [cnt]; cases q n <;> simp <;> omega
theorem alls_iff {q : Nat → Bool} : ∀ {n}, alls q n = true ↔ ∀ i, i < n → q i = true
 | 0 => by simp [alls]
 | n + 1 => by
  simp only [alls, Bool.and_eq_true, alls_iff]
  constructor
  ·intro h i hi
   rcases Nat.lt_or_ge i n with a | a
   ·exact h.1 i a
   ·rw [show i = n by omega]; exact h.2
  ·intro h; exact ⟨fun i hi => h i (by omega), h n (by omega)⟩
theorem cnt1 {q : Nat → Bool} {i n : Nat} (h : i < n) (hn : n ≤ 200) : opI .add .i64 (cnt q i : Int) 1 = ((cnt q i + 1 : Nat) : Int) := by
 have := cnt_le q i
 rw [opI_add, wrap_i64_of (by omega) (by omega)]; omega
noncomputable def siL_T (xs : List Int) (ys : List Int) (o : Bool) (i : Int) : Tr (Ex × Cs) := .d (cmpI .lss i ↑(xs.length)) (fun e0 => .s (decide (i < ↑(xs.length)) = true) (.s (decide (0 ≤ i) = true) (.s (decide (i < ↑(ys.length)) = true) (.s (decide (0 ≤ i) = true) (.d (cmpI .neq (xs.getD i.toNat 0) (ys.getD i.toNat 0)) (fun e1 => .lf (Ex.ret, (siT (xs) (ys) (false) (i)))) (fun e1 => .lf (Ex.normal, (siT (xs) (ys) (o) (opI .add .i64 i 1))))))))) (fun e0 => .lf (Ex.exit 0, (siT (xs) (ys) (o) (i))))
theorem siL_L (xs ys : List Int) (o : Bool) (i : Int) : Leaves (roundT Try.prog (X1) 100000 (loopAt Try.prog 101 0) [[0, 1, 4, 5]] [] (siT xs ys o i)) (siL_T xs ys o i) [] [] := by refine ⟨fun _ => ⟨fun _ => ?_, fun _ => ?_⟩, fun _ => ?_⟩ <;> (show _ = _; kernel_rfl)
theorem siL_step (xs : List Int) (ys : List Int) (o : Bool) (i : Int) (σ : St) (e : Ex) (h0 : At (RG Try.prog (loopAt Try.prog 101 0) e σ) (siL_T xs ys o i) [true, true] True) (h1 : At (RG Try.prog (loopAt Try.prog 101 0) e σ) (siL_T xs ys o i) [true, false] True) (h2 : At (RG Try.prog (loopAt Try.prog 101 0) e σ) (siL_T xs ys o i) [false] True) : Runs Try.prog (CallsD Try.prog) (.rounds (loopAt Try.prog 101 0)) (siT xs ys o i).abs e σ := tree_rounds (hX1) (siL_L xs ys o i) ⟨fun e0 => ⟨fun e1 => h0 e0 e1, fun e1 => h1 e0 e1⟩, fun e0 => h2 e0⟩
noncomputable def siF_T (xs : List Int) (ys : List Int) (o : Bool) (i : Int) : Tr D := .d (cmpI .neq ↑(xs.length) ↑(ys.length)) (fun e0 => .lf (bo false)) (fun e0 => .p (.l [[0, 1, 4, 5]] [] (siT xs ys false 0) (Ex.exit 0) (siT xs ys o i)) (.s (Runs Try.prog (CallsD Try.prog) (.code (.loop (loopAt Try.prog 101 0))) (siT xs ys false 0).abs (Ex.exit 0) (siT xs ys o i).abs) (.k ((siT xs ys false 0 = siT xs ys false 0)) rfl (.lf (bo true)))))
theorem siF_L (xs ys : List Int) (o : Bool) (i : Int) : Leaves (fun l => fnX Try.prog (X1) 100000 l 101 [ri xs, ri ys]) (siF_T xs ys o i) [] [] := by refine ⟨fun _ => ?_, fun _ => ?_⟩ <;> (show _ = _; kernel_rfl)
theorem siF_calls (xs ys : List Int) (o : Bool) (i : Int) (res : D) (h0 : At (fun r => res = r) (siF_T xs ys o i) [true] True) (h1 : At (fun r => res = r) (siF_T xs ys o i) [false] True) : CallsD Try.prog 101 [ri xs, ri ys] res := tree_calls (hX1) (siF_L xs ys o i) ⟨fun e0 => h0 e0, fun e0 => h1 e0⟩
noncomputable def siR_T (xs : List Int) (ys : List Int) (o : Bool) (i : Int) : Tr D := .d (cmpI .neq ↑(xs.length) ↑(ys.length)) (fun e0 => .lf (bo false)) (fun e0 => .p (.l [[0, 1, 4, 5]] [] (siT xs ys false 0) Ex.ret (siT xs ys o i)) (.s (Runs Try.prog (CallsD Try.prog) (.code (.loop (loopAt Try.prog 101 0))) (siT xs ys false 0).abs (Ex.ret) (siT xs ys o i).abs) (.k ((siT xs ys false 0 = siT xs ys false 0)) rfl (.lf (bo o)))))
theorem siR_L (xs ys : List Int) (o : Bool) (i : Int) : Leaves (fun l => fnX Try.prog (X1) 100000 l 101 [ri xs, ri ys]) (siR_T xs ys o i) [] [] := by refine ⟨fun _ => ?_, fun _ => ?_⟩ <;> (show _ = _; kernel_rfl)
theorem siR_calls (xs ys : List Int) (o : Bool) (i : Int) (res : D) (h0 : At (fun r => res = r) (siR_T xs ys o i) [true] True) (h1 : At (fun r => res = r) (siR_T xs ys o i) [false] True) : CallsD Try.prog 101 [ri xs, ri ys] res := tree_calls (hX1) (siR_L xs ys o i) ⟨fun e0 => h0 e0, fun e0 => h1 e0⟩
theorem si_ok (xs ys : List Int) (h : xs.length ≤ 200) : CallsD Try.prog 101 [ri xs, ri ys] (bo (eqB xs ys)) := by
 unfold eqB
 by_cases hl : xs.length = ys.length
 ·rw [getD_same hl]
  refine look_for (b := loopAt Try.prog 101 0) (fun i => siT xs ys false (i : Int)) xs.length (fun i => xs.getD i 0 != ys.getD i 0) (fun v => CallsD Try.prog 101 [ri xs, ri ys] (bo (decide (v < 0)))) ?_ ?_ ?_
  ·intro i hi hp σ e hr
   have hj : i < ys.length := by omega
   refine siL_step xs ys false i σ e ?_ ?_ ?_ <;> dsimp only [At, Tr.q, RG, siL_T]
   ·intro _ g; rw [Int.toNat_natCast, neq_t] at g; simp at hp; exact absurd hp g
   ·intro _ _; rw [succL hi h]; exact ⟨⟨(natLt hj).1, (natLt hj).2, (natLt hi).1, (natLt hi).2, trivial⟩, hr⟩
   ·intro g; rw [lss_f] at g; omega
  ·intro hr
   refine siF_calls xs ys false xs.length _ (fun g => ?_) fun _ => ⟨⟨loop_of_rounds (hr _ _ (siL_step xs ys false xs.length _ _ ?_ ?_ ?_)), trivial⟩, rfl⟩
   ·rw [neq_t] at g; omega
   ·intro g; rw [lss_t] at g; omega
   ·intro g; rw [lss_t] at g; omega
   ·intro _; exact ⟨trivial, rfl, rfl⟩
  ·intro j hj hp hr
   have hj' : j < ys.length := by omega
   refine siR_calls xs ys false j _ (fun g => ?_) fun _ => ⟨⟨loop_of_rounds (hr _ _ (siL_step xs ys false j _ _ ?_ ?_ ?_)), trivial⟩, by simp⟩
   ·rw [neq_t] at g; omega
   ·intro _ _; exact ⟨⟨(natLt hj').1, (natLt hj').2, (natLt hj).1, (natLt hj).2, trivial⟩, rfl, rfl⟩
   ·intro _ g; rw [Int.toNat_natCast, neq_f] at g; simp at hp; exact absurd g hp
   ·intro g; rw [lss_f] at g; omega
 ·rw [decide_eq_false (fun e => hl (by rw [e]))]
  refine siF_calls xs ys false 0 _ (fun _ => ⟨trivial, rfl⟩) fun g => ?_ <;> dsimp only [At, Tr.q, siF_T]
  rw [neq_f] at g; omega
noncomputable def skL_T (xs : List Int) (ys : List Int) (o : Bool) (i : Int) : Tr (Ex × Cs) := .d (cmpI .lss i ↑(xs.length)) (fun e0 => .s (decide (i < ↑(xs.length)) = true) (.s (decide (0 ≤ i) = true) (.s (decide (i < ↑(ys.length)) = true) (.s (decide (0 ≤ i) = true) (.d (cmpI .neq (xs.getD i.toNat 0) (ys.getD i.toNat 0)) (fun e1 => .lf (Ex.ret, (skT (xs) (ys) (false) (i)))) (fun e1 => .lf (Ex.normal, (skT (xs) (ys) (o) (opI .add .i64 i 1))))))))) (fun e0 => .lf (Ex.exit 0, (skT (xs) (ys) (o) (i))))
theorem skL_L (xs ys : List Int) (o : Bool) (i : Int) : Leaves (roundT Try.prog (X1) 100000 (loopAt Try.prog 19 0) [[0, 1, 4, 5]] [] (skT xs ys o i)) (skL_T xs ys o i) [] [] := by refine ⟨fun _ => ⟨fun _ => ?_, fun _ => ?_⟩, fun _ => ?_⟩ <;> (show _ = _; kernel_rfl)
theorem skL_step (xs : List Int) (ys : List Int) (o : Bool) (i : Int) (σ : St) (e : Ex) (h0 : At (RG Try.prog (loopAt Try.prog 19 0) e σ) (skL_T xs ys o i) [true, true] True) (h1 : At (RG Try.prog (loopAt Try.prog 19 0) e σ) (skL_T xs ys o i) [true, false] True) (h2 : At (RG Try.prog (loopAt Try.prog 19 0) e σ) (skL_T xs ys o i) [false] True) : Runs Try.prog (CallsD Try.prog) (.rounds (loopAt Try.prog 19 0)) (skT xs ys o i).abs e σ := tree_rounds (hX1) (skL_L xs ys o i) ⟨fun e0 => ⟨fun e1 => h0 e0 e1, fun e1 => h1 e0 e1⟩, fun e0 => h2 e0⟩
noncomputable def skF_T (xs : List Int) (ys : List Int) (o : Bool) (i : Int) : Tr D := .d (cmpI .neq ↑(xs.length) ↑(ys.length)) (fun e0 => .lf (bo false)) (fun e0 => .p (.l [[0, 1, 4, 5]] [] (skT xs ys false 0) (Ex.exit 0) (skT xs ys o i)) (.s (Runs Try.prog (CallsD Try.prog) (.code (.loop (loopAt Try.prog 19 0))) (skT xs ys false 0).abs (Ex.exit 0) (skT xs ys o i).abs) (.k ((skT xs ys false 0 = skT xs ys false 0)) rfl (.lf (bo true)))))
theorem skF_L (xs ys : List Int) (o : Bool) (i : Int) : Leaves (fun l => fnX Try.prog (X1) 100000 l 19 [ru xs, ru ys]) (skF_T xs ys o i) [] [] := by refine ⟨fun _ => ?_, fun _ => ?_⟩ <;> (show _ = _; kernel_rfl)
theorem skF_calls (xs ys : List Int) (o : Bool) (i : Int) (res : D) (h0 : At (fun r => res = r) (skF_T xs ys o i) [true] True) (h1 : At (fun r => res = r) (skF_T xs ys o i) [false] True) : CallsD Try.prog 19 [ru xs, ru ys] res := tree_calls (hX1) (skF_L xs ys o i) ⟨fun e0 => h0 e0, fun e0 => h1 e0⟩
noncomputable def skR_T (xs : List Int) (ys : List Int) (o : Bool) (i : Int) : Tr D := .d (cmpI .neq ↑(xs.length) ↑(ys.length)) (fun e0 => .lf (bo false)) (fun e0 => .p (.l [[0, 1, 4, 5]] [] (skT xs ys false 0) Ex.ret (skT xs ys o i)) (.s (Runs Try.prog (CallsD Try.prog) (.code (.loop (loopAt Try.prog 19 0))) (skT xs ys false 0).abs (Ex.ret) (skT xs ys o i).abs) (.k ((skT xs ys false 0 = skT xs ys false 0)) rfl (.lf (bo o)))))
theorem skR_L (xs ys : List Int) (o : Bool) (i : Int) : Leaves (fun l => fnX Try.prog (X1) 100000 l 19 [ru xs, ru ys]) (skR_T xs ys o i) [] [] := by refine ⟨fun _ => ?_, fun _ => ?_⟩ <;> (show _ = _; kernel_rfl)
theorem skR_calls (xs ys : List Int) (o : Bool) (i : Int) (res : D) (h0 : At (fun r => res = r) (skR_T xs ys o i) [true] True) (h1 : At (fun r => res = r) (skR_T xs ys o i) [false] True) : CallsD Try.prog 19 [ru xs, ru ys] res := tree_calls (hX1) (skR_L xs ys o i) ⟨fun e0 => h0 e0, fun e0 => h1 e0⟩
theorem sk_ok (xs ys : List Int) (h : xs.length ≤ 200) : CallsD Try.prog 19 [ru xs, ru ys] (bo (eqB xs ys)) := by
 unfold eqB
 by_cases hl : xs.length = ys.length
 ·rw [getD_same hl]
  refine look_for (b := loopAt Try.prog 19 0) (fun i => skT xs ys false (i : Int)) xs.length (fun i => xs.getD i 0 != ys.getD i 0) (fun v => CallsD Try.prog 19 [ru xs, ru ys] (bo (decide (v < 0)))) ?_ ?_ ?_
  ·intro i hi hp σ e hr
   have hj : i < ys.length := by omega
   refine skL_step xs ys false i σ e ?_ ?_ ?_ <;> dsimp only [At, Tr.q, RG, skL_T]
   ·intro _ g; rw [Int.toNat_natCast, neq_t] at g; simp at hp; exact absurd hp g
   ·intro _ _; rw [succL hi h]; exact ⟨⟨(natLt hj).1, (natLt hj).2, (natLt hi).1, (natLt hi).2, trivial⟩, hr⟩
   ·intro g; rw [lss_f] at g; omega
  ·intro hr
   refine skF_calls xs ys false xs.length _ (fun g => ?_) fun _ => ⟨⟨loop_of_rounds (hr _ _ (skL_step xs ys false xs.length _ _ ?_ ?_ ?_)), trivial⟩, rfl⟩
   ·rw [neq_t] at g; omega
   ·intro g; rw [lss_t] at g; omega
   ·intro g; rw [lss_t] at g; omega
   ·intro _; exact ⟨trivial, rfl, rfl⟩
  ·intro j hj hp hr
   have hj' : j < ys.length := by omega
   refine skR_calls xs ys false j _ (fun g => ?_) fun _ => ⟨⟨loop_of_rounds (hr _ _ (skL_step xs ys false j _ _ ?_ ?_ ?_)), trivial⟩, by simp⟩
   ·rw [neq_t] at g; omega
   ·intro _ _; exact ⟨⟨(natLt hj').1, (natLt hj').2, (natLt hj).1, (natLt hj).2, trivial⟩, rfl, rfl⟩
   ·intro _ g; rw [Int.toNat_natCast, neq_f] at g; simp at hp; exact absurd g hp
   ·intro g; rw [lss_f] at g; omega
 ·rw [decide_eq_false (fun e => hl (by rw [e]))]
  refine skF_calls xs ys false 0 _ (fun _ => ⟨trivial, rfl⟩) fun g => ?_ <;> dsimp only [At, Tr.q, skF_T]
  rw [neq_f] at g; omega
noncomputable def ctL_T (xs : List Int) (ys : List Int) (zs : List Bool) (o : Int) (n : Int) (i : Int) : Tr (Ex × Cs) := .d (cmpI .lss i ↑(xs.length)) (fun e0 => .s (decide (i < ↑(xs.length)) = true) (.s (decide (0 ≤ i) = true) (.d (zs.getD i.toNat false) (fun e1 => .lf (Ex.normal, (ctT (xs) (ys) (zs) (o) (opI .add .i64 n 1) (opI .add .i64 i 1)))) (fun e1 => .lf (Ex.normal, (ctT (xs) (ys) (zs) (o) (n) (opI .add .i64 i 1))))))) (fun e0 => .lf (Ex.exit 0, (ctT (xs) (ys) (zs) (o) (n) (i))))
theorem ctL_L (xs ys : List Int) (zs : List Bool) (o n i : Int) : Leaves (roundT Try.prog (X1) 100000 (loopAt Try.prog 70 0) [[0, 2, 3, 4]] [] (ctT xs ys zs o n i)) (ctL_T xs ys zs o n i) [] [] := by refine ⟨fun _ => ⟨fun _ => ?_, fun _ => ?_⟩, fun _ => ?_⟩ <;> (show _ = _; kernel_rfl)
theorem ctL_step (xs : List Int) (ys : List Int) (zs : List Bool) (o : Int) (n : Int) (i : Int) (σ : St) (e : Ex) (h0 : At (RG Try.prog (loopAt Try.prog 70 0) e σ) (ctL_T xs ys zs o n i) [true, true] True) (h1 : At (RG Try.prog (loopAt Try.prog 70 0) e σ) (ctL_T xs ys zs o n i) [true, false] True) (h2 : At (RG Try.prog (loopAt Try.prog 70 0) e σ) (ctL_T xs ys zs o n i) [false] True) : Runs Try.prog (CallsD Try.prog) (.rounds (loopAt Try.prog 70 0)) (ctT xs ys zs o n i).abs e σ := tree_rounds (hX1) (ctL_L xs ys zs o n i) ⟨fun e0 => ⟨fun e1 => h0 e0 e1, fun e1 => h1 e0 e1⟩, fun e0 => h2 e0⟩
noncomputable def ctF_T (xs : List Int) (ys : List Int) (zs : List Bool) (o : Int) (n : Int) (i : Int) : Tr D := .p (.l [[0, 2, 3, 4]] [] (ctT xs ys zs 0 0 0) (Ex.exit 0) (ctT xs ys zs o n i)) (.s (Runs Try.prog (CallsD Try.prog) (.code (.loop (loopAt Try.prog 70 0))) (ctT xs ys zs 0 0 0).abs (Ex.exit 0) (ctT xs ys zs o n i).abs) (.k ((ctT xs ys zs 0 0 0 = ctT xs ys zs 0 0 0)) rfl (.lf (i64 n))))
theorem ctF_L (xs ys : List Int) (zs : List Bool) (o n i : Int) : Leaves (fun l => fnX Try.prog (X1) 100000 l 70 [cc xs ys zs]) (ctF_T xs ys zs o n i) [] [] := by show _ = _; kernel_rfl
theorem ctF_calls (xs ys : List Int) (zs : List Bool) (o n i : Int) (res : D) (h0 : At (fun r => res = r) (ctF_T xs ys zs o n i) [] True) : CallsD Try.prog 70 [cc xs ys zs] res := tree_calls (hX1) (ctF_L xs ys zs o n i) h0
noncomputable def atL_c0 (xs ys : List Int) (zs : List Bool) (k o i : Int) := atT (xs) (ys) (zs) (k) (o) (opI .add .i64 i 1)
noncomputable def atL_T (xs : List Int) (ys : List Int) (zs : List Bool) (k : Int) (o : Int) (i : Int) : Tr (Ex × Cs) := .d (cmpI .lss i ↑(xs.length)) (fun e0 => .s (decide (i < ↑(xs.length)) = true) (.s (decide (0 ≤ i) = true) (.d (zs.getD i.toNat false) (fun e1 => .p (.c 5) (.s (decide (i < ↑(xs.length)) = true) (.s (decide (0 ≤ i) = true) (.d (cmpI .eql (xs.getD i.toNat 0) k) (fun e2 => .lf (Ex.ret, (atT (xs) (ys) (zs) (k) (i) (i)))) (fun e2 => .lf (Ex.normal, (atL_c0 xs ys zs k o i))))))) (fun e1 => .p (.c 6) (.lf (Ex.normal, (atL_c0 xs ys zs k o i))))))) (fun e0 => .lf (Ex.exit 0, (atT (xs) (ys) (zs) (k) (o) (i))))
theorem atL_L (xs ys : List Int) (zs : List Bool) (k o i : Int) : Leaves (roundT Try.prog (X1) 100000 (loopAt Try.prog 99 0) [[0, 1, 4, 5]] [] (atT xs ys zs k o i)) (atL_T xs ys zs k o i) [] [] := by refine ⟨fun _ => ⟨fun _ => ⟨fun _ => ?_, fun _ => ?_⟩, fun _ => ?_⟩, fun _ => ?_⟩ <;> (show _ = _; kernel_rfl)
theorem atL_step (xs : List Int) (ys : List Int) (zs : List Bool) (k : Int) (o : Int) (i : Int) (σ : St) (e : Ex) (h0 : At (RG Try.prog (loopAt Try.prog 99 0) e σ) (atL_T xs ys zs k o i) [true, true, true] True) (h1 : At (RG Try.prog (loopAt Try.prog 99 0) e σ) (atL_T xs ys zs k o i) [true, true, false] True) (h2 : At (RG Try.prog (loopAt Try.prog 99 0) e σ) (atL_T xs ys zs k o i) [true, false] True) (h3 : At (RG Try.prog (loopAt Try.prog 99 0) e σ) (atL_T xs ys zs k o i) [false] True) : Runs Try.prog (CallsD Try.prog) (.rounds (loopAt Try.prog 99 0)) (atT xs ys zs k o i).abs e σ := tree_rounds (hX1) (atL_L xs ys zs k o i) ⟨fun e0 => ⟨fun e1 => ⟨fun e2 => h0 e0 e1 e2, fun e2 => h1 e0 e1 e2⟩, fun e1 => h2 e0 e1⟩, fun e0 => h3 e0⟩
noncomputable def atF_T (xs : List Int) (ys : List Int) (zs : List Bool) (k : Int) (o : Int) (i : Int) : Tr D := .p (.l [[0, 1, 4, 5]] [] (atT xs ys zs k 0 0) (Ex.exit 0) (atT xs ys zs k o i)) (.s (Runs Try.prog (CallsD Try.prog) (.code (.loop (loopAt Try.prog 99 0))) (atT xs ys zs k 0 0).abs (Ex.exit 0) (atT xs ys zs k o i).abs) (.k ((atT xs ys zs k 0 0 = atT xs ys zs k 0 0)) rfl (.lf (i64 (-1)))))
theorem atF_L (xs ys : List Int) (zs : List Bool) (k o i : Int) : Leaves (fun l => fnX Try.prog (X1) 100000 l 99 [cc xs ys zs, u32 k]) (atF_T xs ys zs k o i) [] [] := by show _ = _; kernel_rfl
theorem atF_calls (xs ys : List Int) (zs : List Bool) (k o i : Int) (res : D) (h0 : At (fun r => res = r) (atF_T xs ys zs k o i) [] True) : CallsD Try.prog 99 [cc xs ys zs, u32 k] res := tree_calls (hX1) (atF_L xs ys zs k o i) h0
noncomputable def atR_T (xs : List Int) (ys : List Int) (zs : List Bool) (k : Int) (o : Int) (i : Int) : Tr D := .p (.l [[0, 1, 4, 5]] [] (atT xs ys zs k 0 0) Ex.ret (atT xs ys zs k o i)) (.s (Runs Try.prog (CallsD Try.prog) (.code (.loop (loopAt Try.prog 99 0))) (atT xs ys zs k 0 0).abs (Ex.ret) (atT xs ys zs k o i).abs) (.k ((atT xs ys zs k 0 0 = atT xs ys zs k 0 0)) rfl (.lf (i64 o))))
theorem atR_L (xs ys : List Int) (zs : List Bool) (k o i : Int) : Leaves (fun l => fnX Try.prog (X1) 100000 l 99 [cc xs ys zs, u32 k]) (atR_T xs ys zs k o i) [] [] := by show _ = _; kernel_rfl
theorem atR_calls (xs ys : List Int) (zs : List Bool) (k o i : Int) (res : D) (h0 : At (fun r => res = r) (atR_T xs ys zs k o i) [] True) : CallsD Try.prog 99 [cc xs ys zs, u32 k] res := tree_calls (hX1) (atR_L xs ys zs k o i) h0
noncomputable def ceL_c0 (xs ys : List Int) (zs : List Bool) (p k o : Int) (b : Bool) (n : Int) (s : Bool) (i : Int) := ceT (xs) (ys) (zs) (p) (k) (o) (b) (n) (s) (opI .add .i64 i 1)
noncomputable def ceL_T (xs : List Int) (ys : List Int) (zs : List Bool) (p : Int) (k : Int) (o : Int) (b : Bool) (n : Int) (s : Bool) (i : Int) : Tr (Ex × Cs) := .d (cmpI .lss i ↑(xs.length)) (fun e0 => .s (decide (i < ↑(xs.length)) = true) (.s (decide (0 ≤ i) = true) (.d (zs.getD i.toNat false) (fun e1 => .p (.c 5) (.s (decide (i < ↑(xs.length)) = true) (.s (decide (0 ≤ i) = true) (.d (cmpI .eql (ys.getD i.toNat 0) p) (fun e2 => .d (s) (fun e3 => .p (.c 5) (.s (decide (i < ↑(xs.length)) = true) (.s (decide (0 ≤ i) = true) (.lf (Ex.normal, (ceT (xs) (ys) (zs) (p) (k) (o) (b) (opI .add .i64 n 1) (cmpI .eql (xs.getD i.toNat 0) k) (opI .add .i64 i 1))))))) (fun e3 => .p (.c 5) (.lf (Ex.normal, (ceT (xs) (ys) (zs) (p) (k) (o) (b) (opI .add .i64 n 1) (false) (opI .add .i64 i 1)))))) (fun e2 => .lf (Ex.normal, (ceL_c0 xs ys zs p k o b n s i))))))) (fun e1 => .p (.c 6) (.lf (Ex.normal, (ceL_c0 xs ys zs p k o b n s i))))))) (fun e0 => .lf (Ex.exit 0, (ceT (xs) (ys) (zs) (p) (k) (o) (b) (n) (s) (i))))
theorem ceL_L (xs ys : List Int) (zs : List Bool) (p k o : Int) (b : Bool) (n : Int) (s : Bool) (i : Int) : Leaves (roundT Try.prog (X1) 100000 (loopAt Try.prog 71 0) [[0, 1, 2, 6, 7, 8, 9, 10]] [] (ceT xs ys zs p k o b n s i)) (ceL_T xs ys zs p k o b n s i) [] [] := by refine ⟨fun _ => ⟨fun _ => ⟨fun _ => ⟨fun _ => ?_, fun _ => ?_⟩, fun _ => ?_⟩, fun _ => ?_⟩, fun _ => ?_⟩ <;> (show _ = _; kernel_rfl)
theorem ceL_step (xs : List Int) (ys : List Int) (zs : List Bool) (p : Int) (k : Int) (o : Int) (b : Bool) (n : Int) (s : Bool) (i : Int) (σ : St) (e : Ex) (h0 : At (RG Try.prog (loopAt Try.prog 71 0) e σ) (ceL_T xs ys zs p k o b n s i) [true, true, true, true] True) (h1 : At (RG Try.prog (loopAt Try.prog 71 0) e σ) (ceL_T xs ys zs p k o b n s i) [true, true, true, false] True) (h2 : At (RG Try.prog (loopAt Try.prog 71 0) e σ) (ceL_T xs ys zs p k o b n s i) [true, true, false] True) (h3 : At (RG Try.prog (loopAt Try.prog 71 0) e σ) (ceL_T xs ys zs p k o b n s i) [true, false] True) (h4 : At (RG Try.prog (loopAt Try.prog 71 0) e σ) (ceL_T xs ys zs p k o b n s i) [false] True) : Runs Try.prog (CallsD Try.prog) (.rounds (loopAt Try.prog 71 0)) (ceT xs ys zs p k o b n s i).abs e σ := tree_rounds (hX1) (ceL_L xs ys zs p k o b n s i) ⟨fun e0 => ⟨fun e1 => ⟨fun e2 => ⟨fun e3 => h0 e0 e1 e2 e3, fun e3 => h1 e0 e1 e2 e3⟩, fun e2 => h2 e0 e1 e2⟩, fun e1 => h3 e0 e1⟩, fun e0 => h4 e0⟩
noncomputable def ceF_T (xs : List Int) (ys : List Int) (zs : List Bool) (p : Int) (k : Int) (o : Int) (b : Bool) (n : Int) (s : Bool) (i : Int) : Tr D := .p (.l [[0, 1, 2, 6, 7, 8, 9, 10]] [] (ceT xs ys zs p k 0 false 0 true 0) (Ex.exit 0) (ceT xs ys zs p k o b n s i)) (.s (Runs Try.prog (CallsD Try.prog) (.code (.loop (loopAt Try.prog 71 0))) (ceT xs ys zs p k 0 false 0 true 0).abs (Ex.exit 0) (ceT xs ys zs p k o b n s i).abs) (.k ((ceT xs ys zs p k 0 false 0 true 0 = ceT xs ys zs p k 0 false 0 true 0)) rfl (.lf (D.tup [i64 n, bo s]))))
theorem ceF_L (xs ys : List Int) (zs : List Bool) (p k o : Int) (b : Bool) (n : Int) (s : Bool) (i : Int) : Leaves (fun l => fnX Try.prog (X1) 100000 l 71 [cc xs ys zs, i64 p, u32 k]) (ceF_T xs ys zs p k o b n s i) [] [] := by show _ = _; kernel_rfl
theorem ceF_calls (xs ys : List Int) (zs : List Bool) (p k o : Int) (b : Bool) (n : Int) (s : Bool) (i : Int) (res : D) (h0 : At (fun r => res = r) (ceF_T xs ys zs p k o b n s i) [] True) : CallsD Try.prog 71 [cc xs ys zs, i64 p, u32 k] res := tree_calls (hX1) (ceF_L xs ys zs p k o b n s i) h0
def ctN (n : Nat) (zs : List Bool) : Nat := cnt (fun i => zs.getD i false) n
theorem ct_ok (xs ys : List Int) (zs : List Bool) (h : xs.length ≤ 200) : CallsD Try.prog 70 [cc xs ys zs] (i64 (ctN xs.length zs)) := by
 refine ctF_calls xs ys zs 0 (ctN xs.length zs) xs.length _ ⟨⟨loop_of_rounds ?_, trivial⟩, rfl⟩
 refine scan_all (fun i => ctT xs ys zs 0 (ctN i zs : Nat) (i : Int)) xs.length (fun _ => True) (fun i hi _ σ e hr => ?_) ?_ xs.length 0 (by omega) (fun _ _ _ => trivial)
 ·refine ctL_step xs ys zs 0 _ i σ e ?_ ?_ ?_ <;> dsimp only [At, Tr.q, RG, ctL_T]
  ·intro _ g
   rw [Int.toNat_natCast] at g
   rw [succL hi h]; unfold ctN; rw [cnt1 hi h]
   refine ⟨⟨(natLt hi).1, (natLt hi).2, trivial⟩, ?_⟩
   simp only [ctN, cnt, g, cond_true] at hr; exact hr
  ·intro _ g
   rw [Int.toNat_natCast] at g
   rw [succL hi h]
   refine ⟨⟨(natLt hi).1, (natLt hi).2, trivial⟩, ?_⟩
   simp only [ctN, cnt, g, cond_false, Nat.add_zero] at hr; exact hr
  ·intro g; rw [lss_f] at g; omega
 ·refine ctL_step xs ys zs 0 _ xs.length _ _ ?_ ?_ ?_ <;> dsimp only [At, Tr.q, RG, ctL_T]
  ·intro g; rw [lss_t] at g; omega
  ·intro g; rw [lss_t] at g; omega
  ·intro _; exact ⟨trivial, rfl, rfl⟩
def atN (xs : List Int) (zs : List Bool) (k : Int) : Int := findI (fun i => zs.getD i false && xs.getD i 0 == k) xs.length 0
theorem at_ok (xs ys : List Int) (zs : List Bool) (k : Int) (h : xs.length ≤ 200) : CallsD Try.prog 99 [cc xs ys zs, u32 k] (i64 (atN xs zs k)) := by
 refine look_for (b := loopAt Try.prog 99 0) (fun i => atT xs ys zs k 0 (i : Int)) xs.length (fun i => zs.getD i false && xs.getD i 0 == k) (fun v => CallsD Try.prog 99 [cc xs ys zs, u32 k] (i64 v)) ?_ ?_ ?_
 ·intro i hi hp σ e hr
  refine atL_step xs ys zs k 0 i σ e ?_ ?_ ?_ ?_ <;> dsimp only [At, Tr.q, RG, atL_T]
  ·intro _ g1 g2; rw [Int.toNat_natCast] at g1; rw [Int.toNat_natCast, eql_t] at g2; rw [g1, g2] at hp; simp at hp
  ·intro _ _ _; unfold atL_c0; rw [succL hi h]; exact ⟨⟨(natLt hi).1, (natLt hi).2, (natLt hi).1, (natLt hi).2, trivial⟩, hr⟩
  ·intro _ _; unfold atL_c0; rw [succL hi h]; exact ⟨⟨(natLt hi).1, (natLt hi).2, trivial⟩, hr⟩
  ·intro g; rw [lss_f] at g; omega
 ·intro hr
  refine atF_calls xs ys zs k 0 xs.length _ ⟨⟨loop_of_rounds (hr _ _ (atL_step xs ys zs k 0 xs.length _ _ ?_ ?_ ?_ ?_)), trivial⟩, rfl⟩
  ·intro g; rw [lss_t] at g; omega
  ·intro g; rw [lss_t] at g; omega
  ·intro g; rw [lss_t] at g; omega
  ·intro _; exact ⟨trivial, rfl, rfl⟩
 ·intro j hj hp hr
  simp only [Bool.and_eq_true, beq_iff_eq] at hp
  refine atR_calls xs ys zs k j j _ ⟨⟨loop_of_rounds (hr _ _ (atL_step xs ys zs k 0 j _ _ ?_ ?_ ?_ ?_)), trivial⟩, rfl⟩
  ·intro _ _ _; exact ⟨⟨(natLt hj).1, (natLt hj).2, (natLt hj).1, (natLt hj).2, trivial⟩, rfl, rfl⟩
  ·intro _ _ g; rw [Int.toNat_natCast, eql_f] at g; exact absurd hp.2 g
  ·intro _ g; rw [Int.toNat_natCast, hp.1] at g; cases g
  ·intro g; rw [lss_f] at g; omega
def ceQ (ys : List Int) (zs : List Bool) (p : Int) (i : Nat) : Bool := zs.getD i false && ys.getD i 0 == p
def ceN (n : Nat) (ys : List Int) (zs : List Bool) (p : Int) : Nat := cnt (ceQ ys zs p) n
def ceS (n : Nat) (xs ys : List Int) (zs : List Bool) (p k : Int) : Bool := alls (fun i => !ceQ ys zs p i || xs.getD i 0 == k) n
theorem ce_ok (xs ys : List Int) (zs : List Bool) (p k : Int) (h : xs.length ≤ 200) : CallsD Try.prog 71 [cc xs ys zs, i64 p, u32 k] (.tup [i64 (ceN xs.length ys zs p), bo (ceS xs.length xs ys zs p k)]) := by
 refine ceF_calls xs ys zs p k 0 false (ceN xs.length ys zs p) (ceS xs.length xs ys zs p k) xs.length _ ⟨⟨loop_of_rounds ?_, trivial⟩, rfl⟩
 refine scan_all (fun i => ceT xs ys zs p k 0 false (ceN i ys zs p : Nat) (ceS i xs ys zs p k) (i : Int)) xs.length (fun _ => True) (fun i hi _ σ e hr => ?_) ?_ xs.length 0 (by omega) (fun _ _ _ => trivial)
 ·refine ceL_step xs ys zs p k 0 false _ _ i σ e ?_ ?_ ?_ ?_ ?_ <;> dsimp only [At, Tr.q, RG, ceL_T]
  ·intro _ g1 g2 g3
   rw [Int.toNat_natCast] at g1; rw [Int.toNat_natCast, eql_t] at g2
   have q : ceQ ys zs p i = true := by unfold ceQ; rw [g1, g2]; simp
   rw [succL hi h]; unfold ceN; rw [cnt1 hi h]
   refine ⟨⟨(natLt hi).1, (natLt hi).2, (natLt hi).1, (natLt hi).2, (natLt hi).1, (natLt hi).2, trivial⟩, ?_⟩
   unfold ceS at g3
   simp only [ceN, ceS, cnt, alls, q, cond_true, g3, Bool.true_and, Bool.not_true, Bool.false_or] at hr
   exact hr
  ·intro _ g1 g2 g3
   rw [Int.toNat_natCast] at g1; rw [Int.toNat_natCast, eql_t] at g2
   have q : ceQ ys zs p i = true := by unfold ceQ; rw [g1, g2]; simp
   rw [succL hi h]; unfold ceN; rw [cnt1 hi h]
   refine ⟨⟨(natLt hi).1, (natLt hi).2, (natLt hi).1, (natLt hi).2, trivial⟩, ?_⟩
   unfold ceS at g3
   simp only [ceN, ceS, cnt, alls, q, cond_true, g3, Bool.false_and] at hr
   exact hr
  ·intro _ g1 g2
   rw [Int.toNat_natCast, eql_f] at g2
   have q : ceQ ys zs p i = false := by unfold ceQ; rw [beq_eq_false_iff_ne.2 g2, Bool.and_false]
   unfold ceL_c0; rw [succL hi h]
   refine ⟨⟨(natLt hi).1, (natLt hi).2, (natLt hi).1, (natLt hi).2, trivial⟩, ?_⟩
   simp only [ceN, ceS, cnt, alls, q, cond_false, Nat.add_zero, Bool.not_false, Bool.true_or, Bool.and_true] at hr
   exact hr
  ·intro _ g1
   rw [Int.toNat_natCast] at g1
   have q : ceQ ys zs p i = false := by simp only [ceQ, g1, Bool.false_and]
   unfold ceL_c0; rw [succL hi h]
   refine ⟨⟨(natLt hi).1, (natLt hi).2, trivial⟩, ?_⟩
   simp only [ceN, ceS, cnt, alls, q, cond_false, Nat.add_zero, Bool.not_false, Bool.true_or, Bool.and_true] at hr
   exact hr
  ·intro g; rw [lss_f] at g; omega
 ·refine ceL_step xs ys zs p k 0 false _ _ xs.length _ _ ?_ ?_ ?_ ?_ ?_ <;> dsimp only [At, Tr.q, RG, ceL_T]
  ·intro g; rw [lss_t] at g; omega
  ·intro g; rw [lss_t] at g; omega
  ·intro g; rw [lss_t] at g; omega
  ·intro g; rw [lss_t] at g; omega
  ·intro _; exact ⟨trivial, rfl, rfl⟩
def inC : List D → Option (D × List Prop)
 | [.rc [.ints .i64 xs], .v (.int .i64 n)] => some (bo (inB xs n), [xs.length ≤ 200])
 | _ => none
theorem inC_ok (args res l) (h : inC args = some (res, l)) (hl : AllP l) : CallsD Try.prog 72 args res := by
 unfold inC at h; split at h
 ·simp only [Option.some.injEq, Prod.mk.injEq] at h
  obtain ⟨rfl, rfl⟩ := h; obtain ⟨h0, _⟩ := hl
  exact in_ok _ _ h0
 ·cases h
def ixC : List D → Option (D × List Prop)
 | [.rc [.ints .i64 xs], .v (.int .i64 n)] => some (i64 (ixN xs n), [xs.length ≤ 200])
 | _ => none
theorem ixC_ok (args res l) (h : ixC args = some (res, l)) (hl : AllP l) : CallsD Try.prog 102 args res := by
 unfold ixC at h; split at h
 ·simp only [Option.some.injEq, Prod.mk.injEq] at h
  obtain ⟨rfl, rfl⟩ := h; obtain ⟨h0, _⟩ := hl
  exact ix_ok _ _ h0
 ·cases h
def siC : List D → Option (D × List Prop)
 | [.rc [.ints .i64 xs], .rc [.ints .i64 ys]] => some (bo (eqB xs ys), [xs.length ≤ 200])
 | _ => none
theorem siC_ok (args res l) (h : siC args = some (res, l)) (hl : AllP l) : CallsD Try.prog 101 args res := by
 unfold siC at h; split at h
 ·simp only [Option.some.injEq, Prod.mk.injEq] at h
  obtain ⟨rfl, rfl⟩ := h; obtain ⟨h0, _⟩ := hl
  exact si_ok _ _ h0
 ·cases h
def skC : List D → Option (D × List Prop)
 | [.rc [.ints .u32 xs], .rc [.ints .u32 ys]] => some (bo (eqB xs ys), [xs.length ≤ 200])
 | _ => none
theorem skC_ok (args res l) (h : skC args = some (res, l)) (hl : AllP l) : CallsD Try.prog 19 args res := by
 unfold skC at h; split at h
 ·simp only [Option.some.injEq, Prod.mk.injEq] at h
  obtain ⟨rfl, rfl⟩ := h; obtain ⟨h0, _⟩ := hl
  exact sk_ok _ _ h0
 ·cases h
def ctC : List D → Option (D × List Prop)
 | [.rc [.ints .u32 xs, .ints .i64 ys, .bools zs]] => some (i64 (ctN xs.length zs), [xs.length ≤ 200])
 | _ => none
theorem ctC_ok (args res l) (h : ctC args = some (res, l)) (hl : AllP l) : CallsD Try.prog 70 args res := by
 unfold ctC at h; split at h
 ·simp only [Option.some.injEq, Prod.mk.injEq] at h
  obtain ⟨rfl, rfl⟩ := h; obtain ⟨h0, _⟩ := hl
  exact ct_ok _ _ _ h0
 ·cases h
def atC : List D → Option (D × List Prop)
 | [.rc [.ints .u32 xs, .ints .i64 ys, .bools zs], .v (.int .u32 k)] => some (i64 (atN xs zs k), [xs.length ≤ 200])
 | _ => none
theorem atC_ok (args res l) (h : atC args = some (res, l)) (hl : AllP l) : CallsD Try.prog 99 args res := by
 unfold atC at h; split at h
 ·simp only [Option.some.injEq, Prod.mk.injEq] at h
  obtain ⟨rfl, rfl⟩ := h; obtain ⟨h0, _⟩ := hl
  exact at_ok _ _ _ _ h0
 ·cases h
def ceC : List D → Option (D × List Prop)
 | [.rc [.ints .u32 xs, .ints .i64 ys, .bools zs], .v (.int .i64 p), .v (.int .u32 k)] => some ((.tup [i64 (ceN xs.length ys zs p), bo (ceS xs.length xs ys zs p k)]), [xs.length ≤ 200])
 | _ => none
theorem ceC_ok (args res l) (h : ceC args = some (res, l)) (hl : AllP l) : CallsD Try.prog 71 args res := by
 unfold ceC at h; split at h
 ·simp only [Option.some.injEq, Prod.mk.injEq] at h
  obtain ⟨rfl, rfl⟩ := h; obtain ⟨h0, _⟩ := hl
  exact ce_ok _ _ _ _ _ h0
 ·cases h
def X2 : Contracts := addCon 72 (.call inC) (addCon 102 (.call ixC) (addCon 101 (.call siC) (addCon 19 (.call skC) (addCon 70 (.call ctC) (addCon 99 (.call atC) (addCon 71 (.call ceC) X1))))))
theorem hX2 : ConOK Try.prog X2 := addCall_ok inC_ok (addCall_ok ixC_ok (addCall_ok siC_ok (addCall_ok skC_ok (addCall_ok ctC_ok (addCall_ok atC_ok (addCall_ok ceC_ok hX1))))))
end TableS
end

section
namespace TableS
open Go Go.Dam Go.Proofs
set_option maxRecDepth 1000000
noncomputable def frT (o : Bool) (k : Nat) (i : Int) (nx : List Int) (us : List Bool) (f : Int) (l : List Int) : Cs := ⟨TT.of [(1, D.ptr 32 0), (2, D.v (Value.slice none 0 0)), (3, bo o), (4, D.sl 9001 0 k ⟨1, 0⟩), (5, i64 i)], 34, [], [(32, BX.cells [ri nx, rb us, i64 f] false), (9001, BX.row [.ints .i64 l] false)], none, 0⟩
noncomputable def alT (o : Bool) (k : Nat) (i : Int) (ps nx : List Int) (h t : Int) (l : List Int) : Cs := ⟨TT.of [(1, D.ptr 32 0), (2, D.v (Value.slice none 0 0)), (3, bo o), (4, D.sl 9001 0 k ⟨1, 0⟩), (5, i64 i)], 34, [], [(32, BX.cells [ri ps, ri nx, i64 h, i64 t] false), (9001, BX.row [.ints .i64 l] false)], none, 0⟩
noncomputable def lcT (r n la i : Int) (k : Nat) (ps nx : List Int) (h t : Int) (ys : List Bool) : Cs := ⟨TT.of [(1, D.ptr 32 0), (2, i64 r), (3, i64 n), (4, D.sl 832 0 k ⟨1, 0⟩), (5, i64 la), (6, i64 i)], 92, [], [(32, BX.cells [ri ps, ri nx, i64 h, i64 t] false), (832, BX.row [.bools ys] false)], none, 0⟩
noncomputable def mdT (n : Int) (xs : List Int) (i : Int) (j k : Nat) (ps nx : List Int) : Cs := ⟨TT.of [(0, i64 n), (1, ri xs), (4, D.ptr 128 0), (5, D.ptr 160 0), (6, i64 i)], 67, [], [(128, BX.cells [.v (.slice none 0 0), .v (.slice none 0 0), i64 0, i64 0] false), (160, BX.cells [D.sl 9001 0 j ⟨1, 0⟩, D.sl 9002 0 k ⟨1, 0⟩, i64 (-1), i64 (-1)] false), (9001, BX.row [.ints .i64 ps] false), (9002, BX.row [.ints .i64 nx] false)], none, 0⟩
noncomputable def akT2 (r : Int) (k : Nat) (us0 : List Bool) (m i : Int) (xs : List Int) (us : List Bool) (f : Int) (ys : List Bool) : Cs := ⟨TT.of [(1, (D.ptr 32 0)), (2, i64 r), (4, (D.sl 832 0 k ⟨1, 0⟩)), (53, rb us0), (54, i64 m), (55, i64 i)], 77, [], [(32, BX.cells [ri xs, rb us, i64 f] false), (832, BX.row [.bools ys] false)], none, 0⟩
noncomputable def lcT2 (r la : Int) (k : Nat) (m i : Int) (ps nx : List Int) (h t : Int) (ys : List Bool) : Cs := ⟨TT.of [(1, D.ptr 32 0), (2, i64 r), (5, i64 la), (62, D.sl 832 0 k ⟨1, 0⟩), (63, i64 m), (64, i64 i)], 92, [], [(32, BX.cells [ri ps, ri nx, i64 h, i64 t] false), (832, BX.row [.bools ys] false)], none, 0⟩
noncomputable def mdT2 (xs : List Int) (i : Int) (j k : Nat) (h t : Int) (ps nx : List Int) : Cs := ⟨TT.of [(1, ri xs), (4, D.ptr 128 0), (5, D.ptr 160 0), (7, i64 i)], 67, [], [(128, BX.cells [.v (.slice none 0 0), .v (.slice none 0 0), i64 0, i64 0] false), (160, BX.cells [D.sl 9001 0 j ⟨1, 0⟩, D.sl 9002 0 k ⟨1, 0⟩, i64 h, i64 t] false), (9001, BX.row [.ints .i64 ps] false), (9002, BX.row [.ints .i64 nx] false)], none, 0⟩
end TableS
end
