/- What the functions compute, and the law. No condition. -/
import Derived.Test.YtakcfkmfiamliaaTaUO
import Derived.Test.YtakcfkmfiamliaaTaUD
import Derived.Test.YtakcfkmfiamliaaTaTZ
import Derived.Test.YtakcfkmfiamliaaDamYA
import Derived.Test.YtakcfkmfiamliaaRows
set_option linter.unusedSectionVars false
set_option linter.unusedVariables false
set_option linter.unusedSimpArgs false
section
namespace TableS
open Go Go.Dam Go.Proofs
set_option maxRecDepth 1000000
set_option linter.unusedVariables false
set_option linter.unusedSectionVars false
set_option linter.unusedSimpArgs false
def tA : Tb := ⟨2, [5, 0], [10, 0], [1, 0], [2, 0], [10, 0], [0, 0], [0, 0], [-1, -1], [true, false], 1, zc1.set 1 5, zc1, zc2.set 1 true, [-1, -1], [-1, -1], 0, 0⟩
def tBB : Tb := ⟨2, [5, 7], [10, 10], [1, 1], [2, 2], [10, 10], [0, 0], [0, 0], [-1, -1], [true, true], -1, (zc1.set 1 5).set 5 7, zc1.set 5 1, (zc2.set 1 true).set 5 true, [1, -1], [-1, 0], 1, 0⟩
def tC : Tb := ⟨2, [5, 7], [10, 10], [1, 1], [2, 2], [10, 10], [0, 0], [0, 0], [-1, -1], [true, true], -1, (zc1.set 1 5).set 5 7, zc1.set 5 1, (zc2.set 1 true).set 5 true, [-1, 0], [1, -1], 0, 1⟩
def tD : Tb := ⟨2, [5, 9], [10, 10], [1, 1], [2, 2], [10, 10], [0, 0], [0, 2], [-1, -1], [true, true], -1, (zc1.set 1 5).set 8 9, zc1.set 8 1, (zc2.set 1 true).set 8 true, [1, -1], [-1, 0], 1, 0⟩
def tS : Tb := ⟨2, [5, 9], [10, 10], [1, 1], [2, 2], [3, 10], [0, 0], [7, 2], [-1, -1], [true, true], -1, (zc1.set 1 5).set 8 9, zc1.set 8 1, (zc2.set 1 true).set 8 true, [1, -1], [-1, 0], 1, 0⟩
theorem q1 : usR tN 5 10 1 2 0 = tA := by kernel_rfl
theorem q2 : usR tA 7 10 1 2 0 = tBB := by kernel_rfl
theorem q3 : usR tBB 5 10 1 2 1 = tC := by kernel_rfl
theorem q6 : usR tC 9 10 1 2 2 = tD := by kernel_rfl
theorem q7 : seT tD 5 10 1 2 3 0 7 = tS := by kernel_rfl
theorem q8 : kyV tC = [5, 7] := by kernel_rfl
theorem q9 : kyV tS = [9, 5] := by kernel_rfl
theorem okU0 : okT tN := by unfold okT okI inU in64 kcS ccS; decide +kernel
theorem okU1 : okT tA := by unfold okT okI inU in64 kcS ccS; decide +kernel
theorem okU2 : okT tBB := by unfold okT okI inU in64 kcS ccS; decide +kernel
theorem kC : okT tC := by unfold okT okI inU in64 kcS ccS; decide +kernel
/-- A use, or a setting, makes this table. -/
def isU (n : Int) (ks x1 x2 x3 x4 x5 x6 nx : List Int) (us : List Bool) (fr : Int) (kx px : List Int) (ux : List Bool) (ps no : List Int) (h t : Int) (k b r p a : Int) (U : Tb) (g : Int) (v : Bool) : Prop := okT ⟨n, ks, x1, x2, x3, x4, x5, x6, nx, us, fr, kx, px, ux, ps, no, h, t⟩ ∧ inU k ∧ usR ⟨n, ks, x1, x2, x3, x4, x5, x6, nx, us, fr, kx, px, ux, ps, no, h, t⟩ k b r p a = U ∧ usG ⟨n, ks, x1, x2, x3, x4, x5, x6, nx, us, fr, kx, px, ux, ps, no, h, t⟩ k b r p = g ∧ decide (usW ⟨n, ks, x1, x2, x3, x4, x5, x6, nx, us, fr, kx, px, ux, ps, no, h, t⟩ k b r p) = v ∧ usE ⟨n, ks, x1, x2, x3, x4, x5, x6, nx, us, fr, kx, px, ux, ps, no, h, t⟩ b r p = 0
def isS (n : Int) (ks x1 x2 x3 x4 x5 x6 nx : List Int) (us : List Bool) (fr : Int) (kx px : List Int) (ux : List Bool) (ps no : List Int) (h t : Int) (k b r p v q a : Int) (U : Tb) : Prop := (okT ⟨n, ks, x1, x2, x3, x4, x5, x6, nx, us, fr, kx, px, ux, ps, no, h, t⟩ ∧ inU k ∧ in64 v) ∧ seT ⟨n, ks, x1, x2, x3, x4, x5, x6, nx, us, fr, kx, px, ux, ps, no, h, t⟩ k b r p v q a = U ∧ seE ⟨n, ks, x1, x2, x3, x4, x5, x6, nx, us, fr, kx, px, ux, ps, no, h, t⟩ k b r p v q = 0
def nwP (U0 : Tb) : List D → Option (D × List Prop)
  | [.v (.int .i64 n)] => some (.tup [U0.o, i64 0], [n = 2, U0 = tN])
  | _ => none
def usP (U1 U2 U3 U4 : Tb) : List D → Option (D × List Prop)
  | [.agg [.v (.int .i64 n), .rc [.ints .u32 ks], .rc [.ints .i64 x1, .ints .i64 x2, .ints .i64 x3, .ints .i64 x4, .ints .i64 x5, .ints .u64 x6], .rc [.ints .i64 nx], .rc [.bools us], .v (.int .i64 fr), .rc [.ints .u32 kx, .ints .i64 px, .bools ux], .rc [.ints .i64 ps], .rc [.ints .i64 no], .v (.int .i64 h), .v (.int .i64 t)], .v (.int .u32 k), .agg [.v (.int .i64 b), .v (.int .i64 r), .v (.int .i64 p)], .v (.int .u64 a)] =>
    if k = 5 ∧ a = 0 then some (.tup [U1.o, u32 0, bo false, i64 0], [isU n ks x1 x2 x3 x4 x5 x6 nx us fr kx px ux ps no h t k b r p a U1 0 false])
    else if k = 7 then some (.tup [U2.o, u32 0, bo false, i64 0], [isU n ks x1 x2 x3 x4 x5 x6 nx us fr kx px ux ps no h t k b r p a U2 0 false])
    else if k = 5 then some (.tup [U3.o, u32 0, bo false, i64 0], [isU n ks x1 x2 x3 x4 x5 x6 nx us fr kx px ux ps no h t k b r p a U3 0 false])
    else some (.tup [U4.o, u32 7, bo true, i64 0], [isU n ks x1 x2 x3 x4 x5 x6 nx us fr kx px ux ps no h t k b r p a U4 7 true])
  | _ => none
def seP (U5 : Tb) : List D → Option (D × List Prop)
  | [.agg [.v (.int .i64 n), .rc [.ints .u32 ks], .rc [.ints .i64 x1, .ints .i64 x2, .ints .i64 x3, .ints .i64 x4, .ints .i64 x5, .ints .u64 x6], .rc [.ints .i64 nx], .rc [.bools us], .v (.int .i64 fr), .rc [.ints .u32 kx, .ints .i64 px, .bools ux], .rc [.ints .i64 ps], .rc [.ints .i64 no], .v (.int .i64 h), .v (.int .i64 t)], .v (.int .u32 k), .agg [.v (.int .i64 b), .v (.int .i64 r), .v (.int .i64 p), .v (.int .i64 v), .v (.int .i64 q), .v (.int .u64 a)]] => some (.tup [U5.o, i64 0], [isS n ks x1 x2 x3 x4 x5 x6 nx us fr kx px ux ps no h t k b r p v q a U5])
  | _ => none
theorem isU_ok {T : Tb} {k b r p a : Int} {U : Tb} {g : Int} {v : Bool} (h : isU T.n T.ks T.x1 T.x2 T.x3 T.x4 T.x5 T.x6 T.nx T.us T.fr T.kx T.px T.ux T.ps T.no T.h T.t k b r p a U g v) : CallsD Try.prog 14 [T.d, u32 k, .agg [i64 b, i64 r, i64 p], u64 a] (.tup [U.o, u32 g, bo v, i64 0]) := by
  obtain ⟨h1, h2, h3, h4, h5, h6⟩ := h
  have := us_ok T k b r p a ⟨h1, h2⟩
  rw [show usR T k b r p a = U from h3, show usG T k b r p = g from h4, show decide (usW T k b r p) = v from h5, show usE T b r p = 0 from h6] at this
  exact this
theorem nwP_ok (U0 : Tb) (args res l) (h : nwP U0 args = some (res, l)) (hl : AllP l) : CallsD Try.prog 10 args res := by
  unfold nwP at h; split at h
  · simp only [Option.some.injEq, Prod.mk.injEq] at h
    obtain ⟨rfl, rfl⟩ := h
    obtain ⟨rfl, rfl, _⟩ := hl
    exact nw_ok
  · cases h
theorem usP_ok (U1 U2 U3 U4 : Tb) (args res l) (h : usP U1 U2 U3 U4 args = some (res, l)) (hl : AllP l) : CallsD Try.prog 14 args res := by
  unfold usP at h; split at h
  next n ks x1 x2 x3 x4 x5 x6 nx us fr kx px ux ps no h' t k b r p a =>
    have key := fun U g v => @isU_ok ⟨n, ks, x1, x2, x3, x4, x5, x6, nx, us, fr, kx, px, ux, ps, no, h', t⟩ k b r p a U g v
    repeat' split at h
    all_goals
      simp only [Option.some.injEq, Prod.mk.injEq] at h
      obtain ⟨rfl, rfl⟩ := h
      exact key _ _ _ hl.1
  · cases h
theorem seP_ok (U5 : Tb) (args res l) (h : seP U5 args = some (res, l)) (hl : AllP l) : CallsD Try.prog 22 args res := by
  unfold seP at h; split at h
  next n ks x1 x2 x3 x4 x5 x6 nx us fr kx px ux ps no h' t k b r p v q a =>
    simp only [Option.some.injEq, Prod.mk.injEq] at h
    obtain ⟨rfl, rfl⟩ := h
    obtain ⟨⟨h1, h2, h3⟩, _⟩ := hl
    have := se_ok ⟨n, ks, x1, x2, x3, x4, x5, x6, nx, us, fr, kx, px, ux, ps, no, h', t⟩ k b r p v q a h1
    rw [h2, h3] at this
    exact this
  · cases h
def isK (n : Int) (ks x1 x2 x3 x4 x5 x6 nx : List Int) (us : List Bool) (fr : Int) (kx px : List Int) (ux : List Bool) (ps no : List Int) (h t : Int) : Prop := okT ⟨n, ks, x1, x2, x3, x4, x5, x6, nx, us, fr, kx, px, ux, ps, no, h, t⟩ ∧ tcV ⟨n, ks, x1, x2, x3, x4, x5, x6, nx, us, fr, kx, px, ux, ps, no, h, t⟩ = 0
def isG (n : Int) (ks x1 x2 x3 x4 x5 x6 nx : List Int) (us : List Bool) (fr : Int) (kx px : List Int) (ux : List Bool) (ps no : List Int) (h t : Int) (k : Int) : Prop := (okT ⟨n, ks, x1, x2, x3, x4, x5, x6, nx, us, fr, kx, px, ux, ps, no, h, t⟩ ∧ inU k) ∧ gtN ⟨n, ks, x1, x2, x3, x4, x5, x6, nx, us, fr, kx, px, ux, ps, no, h, t⟩ k x1 = 10 ∧ gtN ⟨n, ks, x1, x2, x3, x4, x5, x6, nx, us, fr, kx, px, ux, ps, no, h, t⟩ k x2 = 1 ∧ gtN ⟨n, ks, x1, x2, x3, x4, x5, x6, nx, us, fr, kx, px, ux, ps, no, h, t⟩ k x3 = 2 ∧ gtN ⟨n, ks, x1, x2, x3, x4, x5, x6, nx, us, fr, kx, px, ux, ps, no, h, t⟩ k x4 = 3 ∧ gtN ⟨n, ks, x1, x2, x3, x4, x5, x6, nx, us, fr, kx, px, ux, ps, no, h, t⟩ k x5 = 0 ∧ gtN ⟨n, ks, x1, x2, x3, x4, x5, x6, nx, us, fr, kx, px, ux, ps, no, h, t⟩ k x6 = 7 ∧ gtE ⟨n, ks, x1, x2, x3, x4, x5, x6, nx, us, fr, kx, px, ux, ps, no, h, t⟩ k = 0
def kyP : List D → Option (D × List Prop)
  | [.agg [.v (.int .i64 n), .rc [.ints .u32 ks], .rc [.ints .i64 x1, .ints .i64 x2, .ints .i64 x3, .ints .i64 x4, .ints .i64 x5, .ints .u64 x6], .rc [.ints .i64 nx], .rc [.bools us], .v (.int .i64 fr), .rc [.ints .u32 kx, .ints .i64 px, .bools ux], .rc [.ints .i64 ps], .rc [.ints .i64 no], .v (.int .i64 h), .v (.int .i64 t)]] => some (.tup [ou (kyV ⟨n, ks, x1, x2, x3, x4, x5, x6, nx, us, fr, kx, px, ux, ps, no, h, t⟩), i64 0], [isK n ks x1 x2 x3 x4 x5 x6 nx us fr kx px ux ps no h t])
  | _ => none
def gtP : List D → Option (D × List Prop)
  | [.agg [.v (.int .i64 n), .rc [.ints .u32 ks], .rc [.ints .i64 x1, .ints .i64 x2, .ints .i64 x3, .ints .i64 x4, .ints .i64 x5, .ints .u64 x6], .rc [.ints .i64 nx], .rc [.bools us], .v (.int .i64 fr), .rc [.ints .u32 kx, .ints .i64 px, .bools ux], .rc [.ints .i64 ps], .rc [.ints .i64 no], .v (.int .i64 h), .v (.int .i64 t)], .v (.int .u32 k)] => some (.tup [.agg [i64 10, i64 1, i64 2, i64 3, i64 0, u64 7], i64 0], [isG n ks x1 x2 x3 x4 x5 x6 nx us fr kx px ux ps no h t k])
  | _ => none
def skP : List D → Option (D × List Prop)
  | [.rc [.ints .u32 xs], .sh 2 [.v (.int .u32 a), .v (.int .u32 b)]] => some (bo (eqB xs [a, b]), [xs.length ≤ 200])
  | _ => none
theorem kyP_ok (args res l) (h : kyP args = some (res, l)) (hl : AllP l) : CallsD Try.prog 12 args res := by
  unfold kyP at h; split at h
  · simp only [Option.some.injEq, Prod.mk.injEq] at h
    obtain ⟨rfl, rfl⟩ := h
    obtain ⟨⟨h1, h2⟩, _⟩ := hl
    have := ky_ok _ h1
    rw [h2] at this; exact this
  · cases h
theorem gtP_ok (args res l) (h : gtP args = some (res, l)) (hl : AllP l) : CallsD Try.prog 20 args res := by
  unfold gtP at h; split at h
  next n ks x1 x2 x3 x4 x5 x6 nx us fr kx px ux ps no h' t k =>
    simp only [Option.some.injEq, Prod.mk.injEq] at h
    obtain ⟨rfl, rfl⟩ := h
    obtain ⟨⟨h0, h1, h2, h3, h4, h5, h6, h7⟩, _⟩ := hl
    have := gt_ok _ _ h0
    rw [h7] at this
    simp only at this
    rw [h1, h2, h3, h4, h5, h6] at this; exact this
  · cases h
theorem calls_in {P : Program} {f : FuncId} {args args' : List D} {e : D} (h : ReadsL args' args) (k : CallsD P f args e) : CallsD P f args' e := fun w A vs hv low glo => k w A vs (h.repL hv) low glo
theorem skP_ok (args res l) (h : skP args = some (res, l)) (hl : AllP l) : CallsD Try.prog 19 args res := by
  unfold skP at h; split at h
  next xs a b =>
    simp only [Option.some.injEq, Prod.mk.injEq] at h
    obtain ⟨rfl, rfl⟩ := h
    exact calls_in (.cons (.refl _) (.cons (sh_rc (fun g => by cases g) [.ints .u32 [a, b]]) .nil)) (sk_ok xs [a, b] hl.1)
  · cases h
noncomputable def X17 (U0 U1 U2 U3 U4 U5 : Tb) : Contracts := addCon 19 (.call skP) (addCon 12 (.call kyP) (addCon 20 (.call gtP) (addCon 10 (.call (nwP U0)) (addCon 14 (.call (usP U1 U2 U3 U4)) (addCon 22 (.call (seP U5)) X14)))))
theorem hX17 (U0 U1 U2 U3 U4 U5 : Tb) : ConOK Try.prog (X17 U0 U1 U2 U3 U4 U5) := addCall_ok skP_ok (addCall_ok kyP_ok (addCall_ok gtP_ok (addCall_ok (nwP_ok U0) (addCall_ok (usP_ok U1 U2 U3 U4) (addCall_ok (seP_ok U5) hX14)))))
end TableS
end

section
namespace TableS
open Go Go.Dam Go.Proofs
set_option maxRecDepth 1000000
set_option linter.unusedVariables false
set_option linter.unusedSectionVars false
set_option linter.unusedSimpArgs false
theorem aly_p0 (U0 U1 U2 U3 U4 U5 : Tb) : fnX Try.prog (X17 U0 U1 U2 U3 U4 U5) 100000 [.c 27, .d true, .c 1, .d true, .c 2] 28 [] = some (bo true, [eqB (kyV U5) [9, 5] = true, rowLen0 [Col0.ints IntKind.u32 (kyV U5)] = rowLen0 [Col0.ints IntKind.u32 (kyV U5)], (kyV U5).length ≤ 200, eqB (kyV U3) [5, 7] = true, rowLen0 [Col0.ints IntKind.u32 (kyV U3)] = rowLen0 [Col0.ints IntKind.u32 (kyV U3)], (kyV U3).length ≤ 200, rowLen0 [Col0.ints IntKind.u32 U5.ks] = rowLen0 [Col0.ints IntKind.u32 U5.ks], rowLen0 [Col0.ints IntKind.i64 U5.x1, Col0.ints IntKind.i64 U5.x2, Col0.ints IntKind.i64 U5.x3, Col0.ints IntKind.i64 U5.x4, Col0.ints IntKind.i64 U5.x5, Col0.ints IntKind.u64 U5.x6] = rowLen0 [Col0.ints IntKind.i64 U5.x1, Col0.ints IntKind.i64 U5.x2, Col0.ints IntKind.i64 U5.x3, Col0.ints IntKind.i64 U5.x4, Col0.ints IntKind.i64 U5.x5, Col0.ints IntKind.u64 U5.x6], rowLen0 [Col0.ints IntKind.i64 U5.nx] = rowLen0 [Col0.ints IntKind.i64 U5.nx], rowLen0 [Col0.bools U5.us] = rowLen0 [Col0.bools U5.us], rowLen0 [Col0.ints IntKind.u32 U5.kx, Col0.ints IntKind.i64 U5.px, Col0.bools U5.ux] = rowLen0 [Col0.ints IntKind.u32 U5.kx, Col0.ints IntKind.i64 U5.px, Col0.bools U5.ux], rowLen0 [Col0.ints IntKind.i64 U5.ps] = rowLen0 [Col0.ints IntKind.i64 U5.ps], rowLen0 [Col0.ints IntKind.i64 U5.no] = rowLen0 [Col0.ints IntKind.i64 U5.no], isG U5.n U5.ks U5.x1 U5.x2 U5.x3 U5.x4 U5.x5 U5.x6 U5.nx U5.us U5.fr U5.kx U5.px U5.ux U5.ps U5.no U5.h U5.t 5, rowLen0 [Col0.ints IntKind.u32 U5.ks] = rowLen0 [Col0.ints IntKind.u32 U5.ks], rowLen0 [Col0.ints IntKind.i64 U5.x1, Col0.ints IntKind.i64 U5.x2, Col0.ints IntKind.i64 U5.x3, Col0.ints IntKind.i64 U5.x4, Col0.ints IntKind.i64 U5.x5, Col0.ints IntKind.u64 U5.x6] = rowLen0 [Col0.ints IntKind.i64 U5.x1, Col0.ints IntKind.i64 U5.x2, Col0.ints IntKind.i64 U5.x3, Col0.ints IntKind.i64 U5.x4, Col0.ints IntKind.i64 U5.x5, Col0.ints IntKind.u64 U5.x6], rowLen0 [Col0.ints IntKind.i64 U5.nx] = rowLen0 [Col0.ints IntKind.i64 U5.nx], rowLen0 [Col0.bools U5.us] = rowLen0 [Col0.bools U5.us], rowLen0 [Col0.ints IntKind.u32 U5.kx, Col0.ints IntKind.i64 U5.px, Col0.bools U5.ux] = rowLen0 [Col0.ints IntKind.u32 U5.kx, Col0.ints IntKind.i64 U5.px, Col0.bools U5.ux], rowLen0 [Col0.ints IntKind.i64 U5.ps] = rowLen0 [Col0.ints IntKind.i64 U5.ps], rowLen0 [Col0.ints IntKind.i64 U5.no] = rowLen0 [Col0.ints IntKind.i64 U5.no], isK U5.n U5.ks U5.x1 U5.x2 U5.x3 U5.x4 U5.x5 U5.x6 U5.nx U5.us U5.fr U5.kx U5.px U5.ux U5.ps U5.no U5.h U5.t, rowLen0 [Col0.ints IntKind.u32 U4.ks] = rowLen0 [Col0.ints IntKind.u32 U4.ks], rowLen0 [Col0.ints IntKind.i64 U4.x1, Col0.ints IntKind.i64 U4.x2, Col0.ints IntKind.i64 U4.x3, Col0.ints IntKind.i64 U4.x4, Col0.ints IntKind.i64 U4.x5, Col0.ints IntKind.u64 U4.x6] = rowLen0 [Col0.ints IntKind.i64 U4.x1, Col0.ints IntKind.i64 U4.x2, Col0.ints IntKind.i64 U4.x3, Col0.ints IntKind.i64 U4.x4, Col0.ints IntKind.i64 U4.x5, Col0.ints IntKind.u64 U4.x6], rowLen0 [Col0.ints IntKind.i64 U4.nx] = rowLen0 [Col0.ints IntKind.i64 U4.nx], rowLen0 [Col0.bools U4.us] = rowLen0 [Col0.bools U4.us], rowLen0 [Col0.ints IntKind.u32 U4.kx, Col0.ints IntKind.i64 U4.px, Col0.bools U4.ux] = rowLen0 [Col0.ints IntKind.u32 U4.kx, Col0.ints IntKind.i64 U4.px, Col0.bools U4.ux], rowLen0 [Col0.ints IntKind.i64 U4.ps] = rowLen0 [Col0.ints IntKind.i64 U4.ps], rowLen0 [Col0.ints IntKind.i64 U4.no] = rowLen0 [Col0.ints IntKind.i64 U4.no], isS U4.n U4.ks U4.x1 U4.x2 U4.x3 U4.x4 U4.x5 U4.x6 U4.nx U4.us U4.fr U4.kx U4.px U4.ux U4.ps U4.no U4.h U4.t 5 10 1 2 3 0 7 U5, rowLen0 [Col0.ints IntKind.u32 U3.ks] = rowLen0 [Col0.ints IntKind.u32 U3.ks], rowLen0 [Col0.ints IntKind.i64 U3.x1, Col0.ints IntKind.i64 U3.x2, Col0.ints IntKind.i64 U3.x3, Col0.ints IntKind.i64 U3.x4, Col0.ints IntKind.i64 U3.x5, Col0.ints IntKind.u64 U3.x6] = rowLen0 [Col0.ints IntKind.i64 U3.x1, Col0.ints IntKind.i64 U3.x2, Col0.ints IntKind.i64 U3.x3, Col0.ints IntKind.i64 U3.x4, Col0.ints IntKind.i64 U3.x5, Col0.ints IntKind.u64 U3.x6], rowLen0 [Col0.ints IntKind.i64 U3.nx] = rowLen0 [Col0.ints IntKind.i64 U3.nx], rowLen0 [Col0.bools U3.us] = rowLen0 [Col0.bools U3.us], rowLen0 [Col0.ints IntKind.u32 U3.kx, Col0.ints IntKind.i64 U3.px, Col0.bools U3.ux] = rowLen0 [Col0.ints IntKind.u32 U3.kx, Col0.ints IntKind.i64 U3.px, Col0.bools U3.ux], rowLen0 [Col0.ints IntKind.i64 U3.ps] = rowLen0 [Col0.ints IntKind.i64 U3.ps], rowLen0 [Col0.ints IntKind.i64 U3.no] = rowLen0 [Col0.ints IntKind.i64 U3.no], isU U3.n U3.ks U3.x1 U3.x2 U3.x3 U3.x4 U3.x5 U3.x6 U3.nx U3.us U3.fr U3.kx U3.px U3.ux U3.ps U3.no U3.h U3.t 9 10 1 2 2 U4 7 true, rowLen0 [Col0.ints IntKind.u32 U3.ks] = rowLen0 [Col0.ints IntKind.u32 U3.ks], rowLen0 [Col0.ints IntKind.i64 U3.x1, Col0.ints IntKind.i64 U3.x2, Col0.ints IntKind.i64 U3.x3, Col0.ints IntKind.i64 U3.x4, Col0.ints IntKind.i64 U3.x5, Col0.ints IntKind.u64 U3.x6] = rowLen0 [Col0.ints IntKind.i64 U3.x1, Col0.ints IntKind.i64 U3.x2, Col0.ints IntKind.i64 U3.x3, Col0.ints IntKind.i64 U3.x4, Col0.ints IntKind.i64 U3.x5, Col0.ints IntKind.u64 U3.x6], rowLen0 [Col0.ints IntKind.i64 U3.nx] = rowLen0 [Col0.ints IntKind.i64 U3.nx], rowLen0 [Col0.bools U3.us] = rowLen0 [Col0.bools U3.us], rowLen0 [Col0.ints IntKind.u32 U3.kx, Col0.ints IntKind.i64 U3.px, Col0.bools U3.ux] = rowLen0 [Col0.ints IntKind.u32 U3.kx, Col0.ints IntKind.i64 U3.px, Col0.bools U3.ux], rowLen0 [Col0.ints IntKind.i64 U3.ps] = rowLen0 [Col0.ints IntKind.i64 U3.ps], rowLen0 [Col0.ints IntKind.i64 U3.no] = rowLen0 [Col0.ints IntKind.i64 U3.no], isK U3.n U3.ks U3.x1 U3.x2 U3.x3 U3.x4 U3.x5 U3.x6 U3.nx U3.us U3.fr U3.kx U3.px U3.ux U3.ps U3.no U3.h U3.t, rowLen0 [Col0.ints IntKind.u32 U2.ks] = rowLen0 [Col0.ints IntKind.u32 U2.ks], rowLen0 [Col0.ints IntKind.i64 U2.x1, Col0.ints IntKind.i64 U2.x2, Col0.ints IntKind.i64 U2.x3, Col0.ints IntKind.i64 U2.x4, Col0.ints IntKind.i64 U2.x5, Col0.ints IntKind.u64 U2.x6] = rowLen0 [Col0.ints IntKind.i64 U2.x1, Col0.ints IntKind.i64 U2.x2, Col0.ints IntKind.i64 U2.x3, Col0.ints IntKind.i64 U2.x4, Col0.ints IntKind.i64 U2.x5, Col0.ints IntKind.u64 U2.x6], rowLen0 [Col0.ints IntKind.i64 U2.nx] = rowLen0 [Col0.ints IntKind.i64 U2.nx], rowLen0 [Col0.bools U2.us] = rowLen0 [Col0.bools U2.us], rowLen0 [Col0.ints IntKind.u32 U2.kx, Col0.ints IntKind.i64 U2.px, Col0.bools U2.ux] = rowLen0 [Col0.ints IntKind.u32 U2.kx, Col0.ints IntKind.i64 U2.px, Col0.bools U2.ux], rowLen0 [Col0.ints IntKind.i64 U2.ps] = rowLen0 [Col0.ints IntKind.i64 U2.ps], rowLen0 [Col0.ints IntKind.i64 U2.no] = rowLen0 [Col0.ints IntKind.i64 U2.no], isU U2.n U2.ks U2.x1 U2.x2 U2.x3 U2.x4 U2.x5 U2.x6 U2.nx U2.us U2.fr U2.kx U2.px U2.ux U2.ps U2.no U2.h U2.t 5 10 1 2 1 U3 0 false, rowLen0 [Col0.ints IntKind.u32 U1.ks] = rowLen0 [Col0.ints IntKind.u32 U1.ks], rowLen0 [Col0.ints IntKind.i64 U1.x1, Col0.ints IntKind.i64 U1.x2, Col0.ints IntKind.i64 U1.x3, Col0.ints IntKind.i64 U1.x4, Col0.ints IntKind.i64 U1.x5, Col0.ints IntKind.u64 U1.x6] = rowLen0 [Col0.ints IntKind.i64 U1.x1, Col0.ints IntKind.i64 U1.x2, Col0.ints IntKind.i64 U1.x3, Col0.ints IntKind.i64 U1.x4, Col0.ints IntKind.i64 U1.x5, Col0.ints IntKind.u64 U1.x6], rowLen0 [Col0.ints IntKind.i64 U1.nx] = rowLen0 [Col0.ints IntKind.i64 U1.nx], rowLen0 [Col0.bools U1.us] = rowLen0 [Col0.bools U1.us], rowLen0 [Col0.ints IntKind.u32 U1.kx, Col0.ints IntKind.i64 U1.px, Col0.bools U1.ux] = rowLen0 [Col0.ints IntKind.u32 U1.kx, Col0.ints IntKind.i64 U1.px, Col0.bools U1.ux], rowLen0 [Col0.ints IntKind.i64 U1.ps] = rowLen0 [Col0.ints IntKind.i64 U1.ps], rowLen0 [Col0.ints IntKind.i64 U1.no] = rowLen0 [Col0.ints IntKind.i64 U1.no], isU U1.n U1.ks U1.x1 U1.x2 U1.x3 U1.x4 U1.x5 U1.x6 U1.nx U1.us U1.fr U1.kx U1.px U1.ux U1.ps U1.no U1.h U1.t 7 10 1 2 0 U2 0 false, rowLen0 [Col0.ints IntKind.u32 U0.ks] = rowLen0 [Col0.ints IntKind.u32 U0.ks], rowLen0 [Col0.ints IntKind.i64 U0.x1, Col0.ints IntKind.i64 U0.x2, Col0.ints IntKind.i64 U0.x3, Col0.ints IntKind.i64 U0.x4, Col0.ints IntKind.i64 U0.x5, Col0.ints IntKind.u64 U0.x6] = rowLen0 [Col0.ints IntKind.i64 U0.x1, Col0.ints IntKind.i64 U0.x2, Col0.ints IntKind.i64 U0.x3, Col0.ints IntKind.i64 U0.x4, Col0.ints IntKind.i64 U0.x5, Col0.ints IntKind.u64 U0.x6], rowLen0 [Col0.ints IntKind.i64 U0.nx] = rowLen0 [Col0.ints IntKind.i64 U0.nx], rowLen0 [Col0.bools U0.us] = rowLen0 [Col0.bools U0.us], rowLen0 [Col0.ints IntKind.u32 U0.kx, Col0.ints IntKind.i64 U0.px, Col0.bools U0.ux] = rowLen0 [Col0.ints IntKind.u32 U0.kx, Col0.ints IntKind.i64 U0.px, Col0.bools U0.ux], rowLen0 [Col0.ints IntKind.i64 U0.ps] = rowLen0 [Col0.ints IntKind.i64 U0.ps], rowLen0 [Col0.ints IntKind.i64 U0.no] = rowLen0 [Col0.ints IntKind.i64 U0.no], isU U0.n U0.ks U0.x1 U0.x2 U0.x3 U0.x4 U0.x5 U0.x6 U0.nx U0.us U0.fr U0.kx U0.px U0.ux U0.ps U0.no U0.h U0.t 5 10 1 2 0 U1 0 false, (2 : Int) = (2 : Int), U0 = tN]) := by kernel_rfl
theorem aly_calls (U0 U1 U2 U3 U4 U5 : Tb) (res : D)
  (e0 : (eqB (kyV U3) [5, 7]) = true)
  (e1 : (eqB (kyV U5) [9, 5]) = true)
  (h0 : (((kyV U5).length ≤ 200) ∧ ((kyV U3).length ≤ 200) ∧ (isG U5.n U5.ks U5.x1 U5.x2 U5.x3 U5.x4 U5.x5 U5.x6 U5.nx U5.us U5.fr U5.kx U5.px U5.ux U5.ps U5.no U5.h U5.t 5) ∧ (isK U5.n U5.ks U5.x1 U5.x2 U5.x3 U5.x4 U5.x5 U5.x6 U5.nx U5.us U5.fr U5.kx U5.px U5.ux U5.ps U5.no U5.h U5.t) ∧ (isS U4.n U4.ks U4.x1 U4.x2 U4.x3 U4.x4 U4.x5 U4.x6 U4.nx U4.us U4.fr U4.kx U4.px U4.ux U4.ps U4.no U4.h U4.t 5 10 1 2 3 0 7 U5) ∧ (isU U3.n U3.ks U3.x1 U3.x2 U3.x3 U3.x4 U3.x5 U3.x6 U3.nx U3.us U3.fr U3.kx U3.px U3.ux U3.ps U3.no U3.h U3.t 9 10 1 2 2 U4 7 true) ∧ (isK U3.n U3.ks U3.x1 U3.x2 U3.x3 U3.x4 U3.x5 U3.x6 U3.nx U3.us U3.fr U3.kx U3.px U3.ux U3.ps U3.no U3.h U3.t) ∧ (isU U2.n U2.ks U2.x1 U2.x2 U2.x3 U2.x4 U2.x5 U2.x6 U2.nx U2.us U2.fr U2.kx U2.px U2.ux U2.ps U2.no U2.h U2.t 5 10 1 2 1 U3 0 false) ∧ (isU U1.n U1.ks U1.x1 U1.x2 U1.x3 U1.x4 U1.x5 U1.x6 U1.nx U1.us U1.fr U1.kx U1.px U1.ux U1.ps U1.no U1.h U1.t 7 10 1 2 0 U2 0 false) ∧ (isU U0.n U0.ks U0.x1 U0.x2 U0.x3 U0.x4 U0.x5 U0.x6 U0.nx U0.us U0.fr U0.kx U0.px U0.ux U0.ps U0.no U0.h U0.t 5 10 1 2 0 U1 0 false) ∧ (U0 = tN) ∧ True) ∧ res = bo true) : CallsD Try.prog 28 [] res := by
  exact of_path (hX17 U0 U1 U2 U3 U4 U5) (aly_p0 U0 U1 U2 U3 U4 U5) ⟨e1, rfl, (h0).1.1, e0, rfl, (h0).1.2.1, rfl, rfl, rfl, rfl, rfl, rfl, rfl, (h0).1.2.2.1, rfl, rfl, rfl, rfl, rfl, rfl, rfl, (h0).1.2.2.2.1, rfl, rfl, rfl, rfl, rfl, rfl, rfl, (h0).1.2.2.2.2.1, rfl, rfl, rfl, rfl, rfl, rfl, rfl, (h0).1.2.2.2.2.2.1, rfl, rfl, rfl, rfl, rfl, rfl, rfl, (h0).1.2.2.2.2.2.2.1, rfl, rfl, rfl, rfl, rfl, rfl, rfl, (h0).1.2.2.2.2.2.2.2.1, rfl, rfl, rfl, rfl, rfl, rfl, rfl, (h0).1.2.2.2.2.2.2.2.2.1, rfl, rfl, rfl, rfl, rfl, rfl, rfl, (h0).1.2.2.2.2.2.2.2.2.2.1, rfl, (h0).1.2.2.2.2.2.2.2.2.2.2.1, trivial⟩ (h0).2
theorem okD : okT tD := by unfold okT okI inU in64 kcS ccS; decide +kernel
theorem okS : okT tS := by unfold okT okI inU in64 kcS ccS; decide +kernel
theorem alive_ok : CallsD Try.prog 28 [] (bo true) := by
  have u0 : isU tN.n tN.ks tN.x1 tN.x2 tN.x3 tN.x4 tN.x5 tN.x6 tN.nx tN.us tN.fr tN.kx tN.px tN.ux tN.ps tN.no tN.h tN.t 5 10 1 2 0 tA 0 false := ⟨okU0, by unfold inU; omega, q1, by kernel_rfl, by kernel_rfl, by kernel_rfl⟩
  have u1 : isU tA.n tA.ks tA.x1 tA.x2 tA.x3 tA.x4 tA.x5 tA.x6 tA.nx tA.us tA.fr tA.kx tA.px tA.ux tA.ps tA.no tA.h tA.t 7 10 1 2 0 tBB 0 false := ⟨okU1, by unfold inU; omega, q2, by kernel_rfl, by kernel_rfl, by kernel_rfl⟩
  have u2 : isU tBB.n tBB.ks tBB.x1 tBB.x2 tBB.x3 tBB.x4 tBB.x5 tBB.x6 tBB.nx tBB.us tBB.fr tBB.kx tBB.px tBB.ux tBB.ps tBB.no tBB.h tBB.t 5 10 1 2 1 tC 0 false := ⟨okU2, by unfold inU; omega, q3, by kernel_rfl, by kernel_rfl, by kernel_rfl⟩
  have u3 : isU tC.n tC.ks tC.x1 tC.x2 tC.x3 tC.x4 tC.x5 tC.x6 tC.nx tC.us tC.fr tC.kx tC.px tC.ux tC.ps tC.no tC.h tC.t 9 10 1 2 2 tD 7 true := ⟨kC, by unfold inU; omega, q6, by kernel_rfl, by kernel_rfl, by kernel_rfl⟩
  have s0 : isS tD.n tD.ks tD.x1 tD.x2 tD.x3 tD.x4 tD.x5 tD.x6 tD.nx tD.us tD.fr tD.kx tD.px tD.ux tD.ps tD.no tD.h tD.t 5 10 1 2 3 0 7 tS := ⟨⟨okD, by unfold inU; omega, by unfold in64; omega⟩, q7, by kernel_rfl⟩
  have k0 : isK tC.n tC.ks tC.x1 tC.x2 tC.x3 tC.x4 tC.x5 tC.x6 tC.nx tC.us tC.fr tC.kx tC.px tC.ux tC.ps tC.no tC.h tC.t := ⟨kC, by kernel_rfl⟩
  have k1 : isK tS.n tS.ks tS.x1 tS.x2 tS.x3 tS.x4 tS.x5 tS.x6 tS.nx tS.us tS.fr tS.kx tS.px tS.ux tS.ps tS.no tS.h tS.t := ⟨okS, by kernel_rfl⟩
  have g0 : isG tS.n tS.ks tS.x1 tS.x2 tS.x3 tS.x4 tS.x5 tS.x6 tS.nx tS.us tS.fr tS.kx tS.px tS.ux tS.ps tS.no tS.h tS.t 5 := ⟨⟨okS, by unfold inU; omega⟩, by kernel_rfl, by kernel_rfl, by kernel_rfl, by kernel_rfl, by kernel_rfl, by kernel_rfl, by kernel_rfl⟩
  refine aly_calls tN tA tBB tC tD tS _ (by rw [show kyV tC = [5, 7] from q8]; rfl) (by rw [show kyV tS = [9, 5] from q9]; rfl) ⟨?_, rfl⟩
  (repeat' (first | assumption | exact trivial | apply And.intro)) <;> first | rfl | (rw [show kyV tC = [5, 7] from q8]; decide) | (rw [show kyV tS = [9, 5] from q9]; decide)
theorem aliveC_ok (args res l) (h : aliveC args = some (res, l)) (hl : AllP l) : CallsD Try.prog 28 args res := by
  unfold aliveC at h; split at h
  · simp only [Option.some.injEq, Prod.mk.injEq] at h
    obtain ⟨rfl, rfl⟩ := h
    exact alive_ok
  · cases h
theorem hX12a : ConOK Try.prog X12a := addCall_ok aliveC_ok hX12
end TableS
end

section
namespace TableS
open Go Go.Dam Go.Proofs
set_option maxRecDepth 1000000
set_option linter.unusedVariables false
set_option linter.unusedSectionVars false
set_option linter.unusedSimpArgs false
/-! A table with another bucket. -/
theorem put_okT {T : Tb} (h : okT T) {i : Nat} {b r p v q a : Int} (hv : in64 v) : okT (T.put i b r p v q a) := by
  obtain ⟨h1, h2, h3, h4, h5, h6, ⟨k0, k1, k2, k3, k4, k5⟩, h8, h9, h10⟩ := h
  refine ⟨h1, h2, fun j hj => ?_, h4, h5, h6, ⟨?_, ?_, ?_, ?_, ?_, ?_⟩, h8, h9, h10⟩
  · simp only [Tb.put, List.length_set] at hj ⊢
    by_cases e : i = j
    · subst e
      rw [getD_set_self (by omega)]; exact hv
    · rw [getD_set_ne e]; exact h3 j hj
  all_goals (simp only [Tb.put, List.length_set]; assumption)
theorem put_rcV {T : Tb} (ho : okT T) (h : rcV T = 0) {i : Nat} (hi : (i : Int) < T.n) (hu : T.us.getD i false = true) {b r p v q a : Int} (hb : bkV b r p v q = 0) : rcV (T.put i b r p v q a) = 0 := by
  obtain ⟨⟨s1, s2, s3, s4, s5, s6⟩, a1, a2, a3, a4, a5⟩ := rcV_is h
  obtain ⟨_, _, _, _, _, _, ⟨k0, k1, k2, k3, k4, k5⟩, _⟩ := ho
  have hs : (T.put i b r p v q a).sz := ⟨s1, s2, s3, by simp only [Tb.put, List.length_set]; exact s4, s5, s6⟩
  unfold rcV
  rw [if_pos ⟨hs, a1, a2, a3, a4⟩, if_pos]
  rw [findI_lt]
  intro j _ hj
  have hj' : (j : Int) < T.n := by
    have : (T.put i b r p v q a).n = T.n := rfl
    rw [this] at hj; omega
  have hbad := a5 j hj'
  by_cases e : i = j
  · subst e
    unfold t18Bad at hbad ⊢
    rw [if_pos hu] at hbad
    have hu' : (T.put i b r p v q a).us.getD i false = true := hu
    rw [if_pos hu']
    simp only [Bool.or_eq_false_iff] at hbad ⊢
    refine ⟨hbad.1, hbad.2.1, hbad.2.2.1, ?_⟩
    rw [decide_eq_false_iff_not]
    intro n
    apply n
    unfold bk6
    simp only [Tb.put]
    rw [getD_set_self (by omega), getD_set_self (by omega), getD_set_self (by omega), getD_set_self (by omega), getD_set_self (by omega)]
    exact hb
  · have e6 : bk6 (T.put i b r p v q a) j = bk6 T j := by
      unfold bk6; simp only [Tb.put]; rw [getD_set_ne e, getD_set_ne e, getD_set_ne e, getD_set_ne e, getD_set_ne e]
    have ez : z6 (T.put i b r p v q a) j = z6 T j := by
      unfold z6; simp only [Tb.put]; rw [getD_set_ne e, getD_set_ne e, getD_set_ne e, getD_set_ne e, getD_set_ne e, getD_set_ne e]
    unfold t18Bad at hbad ⊢
    rw [e6, ez]
    exact hbad
theorem put_list (T : Tb) (i : Nat) (b r p v q a : Int) (h : tcV T = 0) (h' : tcV (T.put i b r p v q a) = 0) : kyV (T.put i b r p v q a) = kyV T := by
  unfold kyV; rw [if_pos h, if_pos h']; rfl
theorem put_same {T : Tb} (ho : okT T) {i : Nat} {b r p v q a k : Int} (h : tcV T = 0) (h' : tcV (T.put i b r p v q a) = 0) (he : fdE T.kx T.px T.ux k = 0) (hi : fdI T.kx T.px T.ux k = i) (hlt : (i : Int) < T.n) :
    gtN (T.put i b r p v q a) k (T.put i b r p v q a).x1 = b ∧ gtN (T.put i b r p v q a) k (T.put i b r p v q a).x2 = r ∧ gtN (T.put i b r p v q a) k (T.put i b r p v q a).x3 = p ∧
    gtN (T.put i b r p v q a) k (T.put i b r p v q a).x4 = v ∧ gtN (T.put i b r p v q a) k (T.put i b r p v q a).x5 = q ∧ gtN (T.put i b r p v q a) k (T.put i b r p v q a).x6 = a ∧ gtE (T.put i b r p v q a) k = 0 := by
  obtain ⟨⟨s1, s2, s3, s4, s5, s6⟩, _⟩ := tcV_is h
  obtain ⟨_, _, _, _, _, _, ⟨k0, k1, k2, k3, k4, k5⟩, _⟩ := ho
  have g : ∀ xs : List Int, gtN (T.put i b r p v q a) k xs = xs.getD i 0 := fun xs => by
    unfold gtN; rw [if_pos ⟨h', he⟩, show fdI (T.put i b r p v q a).kx (T.put i b r p v q a).px (T.put i b r p v q a).ux k = i from hi, Int.toNat_natCast]
  refine ⟨?_, ?_, ?_, ?_, ?_, ?_, ?_⟩
  · rw [g]; exact getD_set_self (by omega)
  · rw [g]; exact getD_set_self (by omega)
  · rw [g]; exact getD_set_self (by omega)
  · rw [g]; exact getD_set_self (by omega)
  · rw [g]; exact getD_set_self (by omega)
  · rw [g]; exact getD_set_self (by omega)
  · unfold gtE; rw [if_pos h', if_pos (show fdE (T.put i b r p v q a).kx (T.put i b r p v q a).px (T.put i b r p v q a).ux k = 0 from he)]
theorem put_other {T : Tb} (ho : okT T) {i : Nat} {b r p v q a k m : Int} (h : tcV T = 0) (h' : tcV (T.put i b r p v q a) = 0) (hk : inU k) (hm : inU m) (he : fdE T.kx T.px T.ux k = 0) (hi : fdI T.kx T.px T.ux k = i) (hn : m ≠ k) :
    gtN (T.put i b r p v q a) m (T.put i b r p v q a).x1 = gtN T m T.x1 ∧ gtN (T.put i b r p v q a) m (T.put i b r p v q a).x2 = gtN T m T.x2 ∧ gtN (T.put i b r p v q a) m (T.put i b r p v q a).x3 = gtN T m T.x3 ∧
    gtN (T.put i b r p v q a) m (T.put i b r p v q a).x4 = gtN T m T.x4 ∧ gtN (T.put i b r p v q a) m (T.put i b r p v q a).x5 = gtN T m T.x5 ∧ gtN (T.put i b r p v q a) m (T.put i b r p v q a).x6 = gtN T m T.x6 ∧ gtE (T.put i b r p v q a) m = gtE T m := by
  have g : ∀ (xs : List Int) (x : Int), gtN (T.put i b r p v q a) m (xs.set i x) = gtN T m xs := fun xs x => by
    unfold gtN
    by_cases c : fdE T.kx T.px T.ux m = 0
    · rw [if_pos ⟨h', c⟩, if_pos ⟨h, c⟩]
      obtain ⟨j, e1, _, _, e2⟩ := tc_find ho h hm c
      obtain ⟨j', e3, _, _, e4⟩ := tc_find ho h hk he
      have hne : i ≠ j := fun e => by
        have : j' = i := by omega
        subst this; subst e
        exact hn (e2.symm.trans e4)
      rw [show fdI (T.put i b r p v q a).kx (T.put i b r p v q a).px (T.put i b r p v q a).ux m = j from e1, e1, Int.toNat_natCast]
      exact getD_set_ne hne
    · rw [if_neg (fun n => c n.2), if_neg (fun n => c n.2)]
  refine ⟨g _ _, g _ _, g _ _, g _ _, g _ _, g _ _, ?_⟩
  unfold gtE; rw [if_pos h, if_pos h']; rfl
end TableS
end

section
namespace TableS
open Go Go.Dam Go.Proofs Go.RowKit Go.ChangeShapes Go.WideShapes
set_option maxRecDepth 1000000
set_option linter.unusedVariables false
set_option linter.unusedSectionVars false
set_option linter.unusedSimpArgs false
/-- What is known of any table that comes in. -/
def okW (T : Tb) : Prop := (∀ i, i < T.kx.length → inU (T.kx.getD i 0)) ∧ (∀ i, i < T.ks.length → inU (T.ks.getD i 0)) ∧ (∀ i, i < T.x1.length → in64 (T.x4.getD i 0)) ∧
  T.x2.length = T.x1.length ∧ T.x3.length = T.x1.length ∧ T.x4.length = T.x1.length ∧ T.x5.length = T.x1.length ∧ T.x6.length = T.x1.length ∧ T.px.length = T.kx.length ∧ T.ux.length = T.kx.length
theorem okT_of {T : Tb} (h : okW T) (g : T.great = false) : okT T := by
  obtain ⟨h1, h2, h3, e2, e3, e4, e5, e6, e7, e8⟩ := h
  simp only [Tb.great, gr2, Bool.or_eq_false_iff, decide_eq_false_iff_not] at g
  obtain ⟨g1, g2, g3, ⟨g4, g5⟩, g6, g7⟩ := g
  exact ⟨⟨by omega, h1⟩, h2, h3, by omega, by omega, by omega, ⟨by omega, e2, e3, e4, e5, e6⟩, ⟨by omega, e7, e8⟩, by omega, by omega⟩
theorem notLive : ¬ Live := fun h => by cases h
def bKinds : List IntKind := [.i64, .i64, .i64, .i64, .i64, .u64]
def tKinds : List FK := [.one (.int .i64), .row [.int .u32], .row (bKinds.map CK.int), .row [.int .i64], .row [.bool], .one (.int .i64), .row [.int .u32, .int .i64, .bool], .row [.int .i64], .row [.int .i64], .one (.int .i64), .one (.int .i64)]
theorem ffits_cons {w : World} {k : FK} {ks : List FK} {vs : List Value} (h : FFits w (k :: ks) vs) : ∃ v vs', vs = v :: vs' ∧ k.ok w v ∧ FFits w ks vs' := by
  cases vs with
  | nil => cases h
  | cons v vs' => exact ⟨v, vs', rfl, h.1, h.2⟩
theorem wf_i64 {n : Int} (h : (Lit.int .i64 n).wf = true) : in64 n := by
  unfold in64
  simp [Lit.wf, IntKind.has, IntKind.min, IntKind.max, IntKind.signed, IntKind.bits] at h; omega
def inQ (n : Int) : Prop := 0 ≤ n ∧ n < 18446744073709551616
theorem wf_u64 {n : Int} (h : (Lit.int .u64 n).wf = true) : inQ n := by
  unfold inQ
  simp [Lit.wf, IntKind.has, IntKind.min, IntKind.max, IntKind.signed, IntKind.bits] at h; omega
theorem rep_nums {w : World} {A : Nat → Prop} (ks : List IntKind) (f : Nat → Int) : RepS w A (.agg (mkL ks f)) (.agg (mkVal ks f).toArray) := rep_ints ks f
theorem one_int {w : World} {k : IntKind} {v : Value} (h : (FK.one (.int k)).ok w v) : ∃ n, v = .int k n := by
  obtain ⟨n, e, _⟩ := h; exact ⟨n, e⟩
theorem row_ints {w : World} {k : IntKind} {v : Value} (h : (FK.row [.int k]).ok w v) : ∃ xs, RepS w (fun k => k < w.heap.size) (.rc [.ints k xs]) v ∧ ∀ i, i < xs.length → (Lit.int k (xs.getD i 0)).wf = true := by
  obtain ⟨cols, n, hc, hr⟩ := h
  obtain ⟨xs, cs, rfl, e, hw, hc⟩ := colsOf_int hc
  have := colsOf_nil hc; subst this; subst e
  exact ⟨xs, hr.rep notLive rfl (fun c hc m f q => by simp at hc; subst hc; cases q), hw⟩
theorem row_bools {w : World} {v : Value} (h : (FK.row [.bool]).ok w v) : ∃ xs, RepS w (fun k => k < w.heap.size) (.rc [.bools xs]) v := by
  obtain ⟨cols, n, hc, hr⟩ := h
  obtain ⟨xs, cs, rfl, e, hc⟩ := colsOf_bool hc
  have := colsOf_nil hc; subst this; subst e
  exact ⟨xs, hr.rep notLive rfl (fun c hc m f q => by simp at hc; subst hc; cases q)⟩
theorem row_cells {w : World} {v : Value} (h : (FK.row [.int .u32, .int .i64, .bool]).ok w v) : ∃ kx px ux, RepS w (fun k => k < w.heap.size) (cc kx px ux) v ∧ px.length = kx.length ∧ ux.length = kx.length ∧ ∀ i, i < kx.length → inU (kx.getD i 0) := by
  obtain ⟨cols, n, hc, hr⟩ := h
  obtain ⟨kx, cs, rfl, e, hw, hc⟩ := colsOf_int hc
  obtain ⟨px, cs, rfl, e2, _, hc⟩ := colsOf_int hc
  obtain ⟨ux, cs, rfl, e3, hc⟩ := colsOf_bool hc
  have := colsOf_nil hc; subst this; subst e
  exact ⟨kx, px, ux, hr.rep notLive rfl (fun c hc m f q => by simp at hc; rcases hc with rfl | rfl | rfl <;> cases q), e2, e3, fun i hi => wf_u32 (hw i hi)⟩
theorem row_buckets {w : World} {v : Value} (h : (FK.row (bKinds.map CK.int)).ok w v) : ∃ x1 x2 x3 x4 x5 x6, RepS w (fun k => k < w.heap.size) (kr x1 x2 x3 x4 x5 x6) v ∧
    (x2.length = x1.length ∧ x3.length = x1.length ∧ x4.length = x1.length ∧ x5.length = x1.length ∧ x6.length = x1.length) ∧ ∀ i, i < x1.length → in64 (x4.getD i 0) := by
  obtain ⟨cols, n, hc, hr⟩ := h
  obtain ⟨x1, cs, rfl, e, _, hc⟩ := colsOf_int hc
  obtain ⟨x2, cs, rfl, e2, _, hc⟩ := colsOf_int hc
  obtain ⟨x3, cs, rfl, e3, _, hc⟩ := colsOf_int hc
  obtain ⟨x4, cs, rfl, e4, hw, hc⟩ := colsOf_int hc
  obtain ⟨x5, cs, rfl, e5, _, hc⟩ := colsOf_int hc
  obtain ⟨x6, cs, rfl, e6, _, hc⟩ := colsOf_int hc
  have := colsOf_nil hc; subst this; subst e
  exact ⟨x1, x2, x3, x4, x5, x6, hr.rep notLive rfl (fun c hc m f q => by simp at hc; rcases hc with rfl | rfl | rfl | rfl | rfl | rfl <;> cases q), ⟨e2, e3, e4, e5, e6⟩, fun i hi => wf_i64 (hw i hi)⟩
/-- A table that comes in. -/
theorem table_in {w : World} {vs : List Value} (h : FFits w tKinds vs) : ∃ T : Tb, okW T ∧ RepS w (fun k => k < w.heap.size) T.d (.agg vs.toArray) := by
  obtain ⟨v0, vs, rfl, h0, h⟩ := ffits_cons h
  obtain ⟨v1, vs, rfl, h1, h⟩ := ffits_cons h
  obtain ⟨v2, vs, rfl, h2, h⟩ := ffits_cons h
  obtain ⟨v3, vs, rfl, h3, h⟩ := ffits_cons h
  obtain ⟨v4, vs, rfl, h4, h⟩ := ffits_cons h
  obtain ⟨v5, vs, rfl, h5, h⟩ := ffits_cons h
  obtain ⟨v6, vs, rfl, h6, h⟩ := ffits_cons h
  obtain ⟨v7, vs, rfl, h7, h⟩ := ffits_cons h
  obtain ⟨v8, vs, rfl, h8, h⟩ := ffits_cons h
  obtain ⟨v9, vs, rfl, h9, h⟩ := ffits_cons h
  obtain ⟨v10, vs, rfl, h10, h⟩ := ffits_cons h
  have : vs = [] := by cases vs with | nil => rfl | cons => cases h
  subst this
  obtain ⟨n, rfl⟩ := one_int h0
  obtain ⟨ks, r1, k1⟩ := row_ints h1
  obtain ⟨x1, x2, x3, x4, x5, x6, r2, ⟨e2, e3, e4, e5, e6⟩, k2⟩ := row_buckets h2
  obtain ⟨nx, r3, _⟩ := row_ints h3
  obtain ⟨us, r4⟩ := row_bools h4
  obtain ⟨fr, rfl⟩ := one_int h5
  obtain ⟨kx, px, ux, r6, e7, e8, k6⟩ := row_cells h6
  obtain ⟨ps, r7, _⟩ := row_ints h7
  obtain ⟨no, r8, _⟩ := row_ints h8
  obtain ⟨hh, rfl⟩ := one_int h9
  obtain ⟨t, rfl⟩ := one_int h10
  refine ⟨⟨n, ks, x1, x2, x3, x4, x5, x6, nx, us, fr, kx, px, ux, ps, no, hh, t⟩, ⟨k6, fun i hi => wf_u32 (k1 i hi), k2, e2, e3, e4, e5, e6, e7, e8⟩, ?_⟩
  simp only [RepS]
  refine ⟨_, rfl, ?_⟩
  simp only [RepL]
  exact ⟨_, _, rfl, rfl, _, _, rfl, r1, _, _, rfl, r2, _, _, rfl, r3, _, _, rfl, r4, _, _, rfl, rfl, _, _, rfl, r6, _, _, rfl, r7, _, _, rfl, r8, _, _, rfl, rfl, _, _, rfl, rfl, rfl⟩
end TableS
end

section
namespace TableS
open Go Go.Dam Go.Proofs
set_option maxRecDepth 1000000
set_option linter.unusedVariables false
set_option linter.unusedSectionVars false
set_option linter.unusedSimpArgs false
noncomputable def kl_c0 (T : Tb) (k b r p v q a : Int) := gtN (seT T k b r p v q a) k (seT T k b r p v q a).x3 == p && true
noncomputable def kl_c1 (T : Tb) (k b r p v q a : Int) := gtN (seT T k b r p v q a) k (seT T k b r p v q a).x6 == a && true
noncomputable def kl_c2 (T : Tb) (k m b r p v q a : Int) := gtN T m T.x3 == gtN (seT T k b r p v q a) m (seT T k b r p v q a).x3 && true
noncomputable def kl_c3 (T : Tb) (k m b r p v q a : Int) := gtN T m T.x6 == gtN (seT T k b r p v q a) m (seT T k b r p v q a).x6 && true
noncomputable def kl_c4 (T : Tb) (k b r p v q a : Int) := gtN (seT T k b r p v q a) k (seT T k b r p v q a).x2 == r && (kl_c0 T k b r p v q a)
noncomputable def kl_c5 (T : Tb) (k b r p v q a : Int) := gtN (seT T k b r p v q a) k (seT T k b r p v q a).x5 == q && (kl_c1 T k b r p v q a)
noncomputable def kl_c6 (T : Tb) (k b r p v q a : Int) := gtN (seT T k b r p v q a) k (seT T k b r p v q a).x4 == v && (kl_c5 T k b r p v q a)
noncomputable def kl_c7 (T : Tb) (k m b r p v q a : Int) := gtN T m T.x2 == gtN (seT T k b r p v q a) m (seT T k b r p v q a).x2 && (kl_c2 T k m b r p v q a)
noncomputable def kl_c8 (T : Tb) (k m b r p v q a : Int) := gtN T m T.x5 == gtN (seT T k b r p v q a) m (seT T k b r p v q a).x5 && (kl_c3 T k m b r p v q a)
noncomputable def kl_c9 (T : Tb) (k m b r p v q a : Int) := gtN T m T.x4 == gtN (seT T k b r p v q a) m (seT T k b r p v q a).x4 && (kl_c8 T k m b r p v q a)
noncomputable def kl_c10 (T : Tb) (k b r p v q a : Int) := gtN (seT T k b r p v q a) k (seT T k b r p v q a).x1 == b && (kl_c4 T k b r p v q a) && (kl_c6 T k b r p v q a)
noncomputable def kl_c11 (T : Tb) (k m b r p v q a : Int) := gtN T m T.x1 == gtN (seT T k b r p v q a) m (seT T k b r p v q a).x1 && (kl_c7 T k m b r p v q a) && (kl_c9 T k m b r p v q a)
noncomputable def kl_T (T : Tb) (k : Int) (m : Int) (b : Int) (r : Int) (p : Int) (v : Int) (q : Int) (a : Int) : Tr D := .d (T.great) (fun e0 => .p (.c 7) (.lf (bo true))) (fun e0 => .p (.c 1) (.s (okT T) (.d (cmpI BinOp.neq (rcV T) 0) (fun e1 => .p (.c 4) (.lf (bo true))) (fun e1 => .p (.c 1) (.d (cmpI BinOp.neq (bkV b r p v q) 0) (fun e2 => .p (.c 1) (.lf (bo true))) (fun e2 => .p (.c 1) (.s (okT T) (.s (okT T ∧ inU k ∧ in64 v) (.d (cmpI BinOp.neq (tcV T) 0) (fun e3 => .p (.c 3) (.d (cmpI BinOp.eql (tcV T) 0) (fun e4 => .p (.c 0) (.lf (D.v (Value.bool (cmpI BinOp.eql (seE T k b r p v q) 6))))) (fun e4 => .p (.c 0) (.lf (bo false))))) (fun e3 => .p (.c 0) (.d (cmpI BinOp.neq (seE T k b r p v q) 0) (fun e4 => .p (.c 1) (.d (cmpI BinOp.eql (tcV T) 0) (fun e5 => .p (.c 0) (.lf (D.v (Value.bool (cmpI BinOp.eql (seE T k b r p v q) 6))))) (fun e5 => .p (.c 0) (.lf (bo false))))) (fun e4 => .p (.c 1) (.s (okT (seT T k b r p v q a)) (.q (rowLen0 [Col0.ints IntKind.i64 (seT T k b r p v q a).no]) (.q (rowLen0 [Col0.ints IntKind.i64 (seT T k b r p v q a).ps]) (.q (rowLen0 [Col0.ints IntKind.u32 (seT T k b r p v q a).kx, Col0.ints IntKind.i64 (seT T k b r p v q a).px, Col0.bools (seT T k b r p v q a).ux]) (.q (rowLen0 [Col0.bools (seT T k b r p v q a).us]) (.q (rowLen0 [Col0.ints IntKind.i64 (seT T k b r p v q a).nx]) (.q (rowLen0 [Col0.ints IntKind.i64 (seT T k b r p v q a).x1, Col0.ints IntKind.i64 (seT T k b r p v q a).x2, Col0.ints IntKind.i64 (seT T k b r p v q a).x3, Col0.ints IntKind.i64 (seT T k b r p v q a).x4, Col0.ints IntKind.i64 (seT T k b r p v q a).x5, Col0.ints IntKind.u64 (seT T k b r p v q a).x6]) (.q (rowLen0 [Col0.ints IntKind.u32 (seT T k b r p v q a).ks]) (.s (okT (seT T k b r p v q a) ∧ inU k) (.q (rowLen0 [Col0.ints IntKind.i64 (seT T k b r p v q a).no]) (.q (rowLen0 [Col0.ints IntKind.i64 (seT T k b r p v q a).ps]) (.q (rowLen0 [Col0.ints IntKind.u32 (seT T k b r p v q a).kx, Col0.ints IntKind.i64 (seT T k b r p v q a).px, Col0.bools (seT T k b r p v q a).ux]) (.q (rowLen0 [Col0.bools (seT T k b r p v q a).us]) (.q (rowLen0 [Col0.ints IntKind.i64 (seT T k b r p v q a).nx]) (.q (rowLen0 [Col0.ints IntKind.i64 (seT T k b r p v q a).x1, Col0.ints IntKind.i64 (seT T k b r p v q a).x2, Col0.ints IntKind.i64 (seT T k b r p v q a).x3, Col0.ints IntKind.i64 (seT T k b r p v q a).x4, Col0.ints IntKind.i64 (seT T k b r p v q a).x5, Col0.ints IntKind.u64 (seT T k b r p v q a).x6]) (.q (rowLen0 [Col0.ints IntKind.u32 (seT T k b r p v q a).ks]) (.s (okT T ∧ inU m) (.s (okT (seT T k b r p v q a) ∧ inU m) (.q (rowLen0 [Col0.ints IntKind.i64 (seT T k b r p v q a).no]) (.q (rowLen0 [Col0.ints IntKind.i64 (seT T k b r p v q a).ps]) (.q (rowLen0 [Col0.ints IntKind.u32 (seT T k b r p v q a).kx, Col0.ints IntKind.i64 (seT T k b r p v q a).px, Col0.bools (seT T k b r p v q a).ux]) (.q (rowLen0 [Col0.bools (seT T k b r p v q a).us]) (.q (rowLen0 [Col0.ints IntKind.i64 (seT T k b r p v q a).nx]) (.q (rowLen0 [Col0.ints IntKind.i64 (seT T k b r p v q a).x1, Col0.ints IntKind.i64 (seT T k b r p v q a).x2, Col0.ints IntKind.i64 (seT T k b r p v q a).x3, Col0.ints IntKind.i64 (seT T k b r p v q a).x4, Col0.ints IntKind.i64 (seT T k b r p v q a).x5, Col0.ints IntKind.u64 (seT T k b r p v q a).x6]) (.q (rowLen0 [Col0.ints IntKind.u32 (seT T k b r p v q a).ks]) (.d (cmpI BinOp.eql (tcV (seT T k b r p v q a)) 0) (fun e5 => .p (.c 1) (.s ((kyV T).length ≤ 200) (.q (rowLen0 [Col0.ints IntKind.u32 (kyV (seT T k b r p v q a))]) (.q (rowLen0 [Col0.ints IntKind.u32 (kyV T)]) (.d (eqB (kyV T) (kyV (seT T k b r p v q a))) (fun e6 => .p (.c 0) (.d (cmpI BinOp.eql (gtE (seT T k b r p v q a) k) 0) (fun e7 => .p (.c 1) (.d (kl_c10 T k b r p v q a) (fun e8 => .p (.c 2) (.d (cmpI BinOp.eql m k) (fun e9 => .p (.c 7) (.s (okT (seT T k b r p v q a)) (.q (rowLen0 [Col0.ints IntKind.i64 (seT T k b r p v q a).no]) (.q (rowLen0 [Col0.ints IntKind.i64 (seT T k b r p v q a).ps]) (.q (rowLen0 [Col0.ints IntKind.u32 (seT T k b r p v q a).kx, Col0.ints IntKind.i64 (seT T k b r p v q a).px, Col0.bools (seT T k b r p v q a).ux]) (.q (rowLen0 [Col0.bools (seT T k b r p v q a).us]) (.q (rowLen0 [Col0.ints IntKind.i64 (seT T k b r p v q a).nx]) (.q (rowLen0 [Col0.ints IntKind.i64 (seT T k b r p v q a).x1, Col0.ints IntKind.i64 (seT T k b r p v q a).x2, Col0.ints IntKind.i64 (seT T k b r p v q a).x3, Col0.ints IntKind.i64 (seT T k b r p v q a).x4, Col0.ints IntKind.i64 (seT T k b r p v q a).x5, Col0.ints IntKind.u64 (seT T k b r p v q a).x6]) (.q (rowLen0 [Col0.ints IntKind.u32 (seT T k b r p v q a).ks]) (.lf (D.v (Value.bool (cmpI BinOp.eql (rcV (seT T k b r p v q a)) 0))))))))))))) (fun e9 => .p (.c 2) (.d (kl_c11 T k m b r p v q a) (fun e10 => .p (.c 3) (.d (cmpI BinOp.eql (gtE T m) (gtE (seT T k b r p v q a) m)) (fun e11 => .p (.c 1) (.s (okT (seT T k b r p v q a)) (.q (rowLen0 [Col0.ints IntKind.i64 (seT T k b r p v q a).no]) (.q (rowLen0 [Col0.ints IntKind.i64 (seT T k b r p v q a).ps]) (.q (rowLen0 [Col0.ints IntKind.u32 (seT T k b r p v q a).kx, Col0.ints IntKind.i64 (seT T k b r p v q a).px, Col0.bools (seT T k b r p v q a).ux]) (.q (rowLen0 [Col0.bools (seT T k b r p v q a).us]) (.q (rowLen0 [Col0.ints IntKind.i64 (seT T k b r p v q a).nx]) (.q (rowLen0 [Col0.ints IntKind.i64 (seT T k b r p v q a).x1, Col0.ints IntKind.i64 (seT T k b r p v q a).x2, Col0.ints IntKind.i64 (seT T k b r p v q a).x3, Col0.ints IntKind.i64 (seT T k b r p v q a).x4, Col0.ints IntKind.i64 (seT T k b r p v q a).x5, Col0.ints IntKind.u64 (seT T k b r p v q a).x6]) (.q (rowLen0 [Col0.ints IntKind.u32 (seT T k b r p v q a).ks]) (.lf (D.v (Value.bool (cmpI BinOp.eql (rcV (seT T k b r p v q a)) 0))))))))))))) (fun e11 => .p (.c 1) (.lf (bo false))))) (fun e10 => .p (.c 6) (.lf (bo false))))))) (fun e8 => .p (.c 6) (.lf (bo false))))) (fun e7 => .p (.c 9) (.lf (bo false))))) (fun e6 => .p (.c 11) (.lf (bo false)))))))) (fun e5 => .p (.c 14) (.lf (bo false)))))))))))))))))))))))))))))))))))))))))
theorem kl_L (T : Tb) (k m b r p v q a : Int) : Leaves (fun l => fnX Try.prog (X12a) 100000 l 6 [T.d, u32 k, u32 m, D.agg [i64 b, i64 r, i64 p, i64 v, i64 q, u64 a]]) (kl_T T k m b r p v q a) [] [] := by refine ⟨fun _ => ?_, fun _ => ⟨fun _ => ?_, fun _ => ⟨fun _ => ?_, fun _ => ⟨fun _ => ⟨fun _ => ?_, fun _ => ?_⟩, fun _ => ⟨fun _ => ⟨fun _ => ?_, fun _ => ?_⟩, fun _ => ⟨fun _ => ⟨fun _ => ⟨fun _ => ⟨fun _ => ⟨fun _ => ?_, fun _ => ⟨fun _ => ⟨fun _ => ?_, fun _ => ?_⟩, fun _ => ?_⟩⟩, fun _ => ?_⟩, fun _ => ?_⟩, fun _ => ?_⟩, fun _ => ?_⟩⟩⟩⟩⟩⟩ <;> (show _ = _; kernel_rfl)
theorem kl_calls (T : Tb) (k m b r p v q a : Int) (res : D) (h0 : At (fun r => res = r) (kl_T T k m b r p v q a) [true] True) (h1 : At (fun r => res = r) (kl_T T k m b r p v q a) [false, true] True) (h2 : At (fun r => res = r) (kl_T T k m b r p v q a) [false, false, true] True) (h3 : At (fun r => res = r) (kl_T T k m b r p v q a) [false, false, false, true, true] True) (h4 : At (fun r => res = r) (kl_T T k m b r p v q a) [false, false, false, true, false] True) (h5 : At (fun r => res = r) (kl_T T k m b r p v q a) [false, false, false, false, true, true] True) (h6 : At (fun r => res = r) (kl_T T k m b r p v q a) [false, false, false, false, true, false] True) (h7 : At (fun r => res = r) (kl_T T k m b r p v q a) [false, false, false, false, false, true, true, true, true, true] True) (h8 : At (fun r => res = r) (kl_T T k m b r p v q a) [false, false, false, false, false, true, true, true, true, false, true, true] True) (h9 : At (fun r => res = r) (kl_T T k m b r p v q a) [false, false, false, false, false, true, true, true, true, false, true, false] True) (h10 : At (fun r => res = r) (kl_T T k m b r p v q a) [false, false, false, false, false, true, true, true, true, false, false] True) (h11 : At (fun r => res = r) (kl_T T k m b r p v q a) [false, false, false, false, false, true, true, true, false] True) (h12 : At (fun r => res = r) (kl_T T k m b r p v q a) [false, false, false, false, false, true, true, false] True) (h13 : At (fun r => res = r) (kl_T T k m b r p v q a) [false, false, false, false, false, true, false] True) (h14 : At (fun r => res = r) (kl_T T k m b r p v q a) [false, false, false, false, false, false] True) : CallsD Try.prog 6 [T.d, u32 k, u32 m, D.agg [i64 b, i64 r, i64 p, i64 v, i64 q, u64 a]] res := tree_calls (hX12a) (kl_L T k m b r p v q a) ⟨fun e0 => h0 e0, fun e0 => ⟨fun e1 => h1 e0 e1, fun e1 => ⟨fun e2 => h2 e0 e1 e2, fun e2 => ⟨fun e3 => ⟨fun e4 => h3 e0 e1 e2 e3 e4, fun e4 => h4 e0 e1 e2 e3 e4⟩, fun e3 => ⟨fun e4 => ⟨fun e5 => h5 e0 e1 e2 e3 e4 e5, fun e5 => h6 e0 e1 e2 e3 e4 e5⟩, fun e4 => ⟨fun e5 => ⟨fun e6 => ⟨fun e7 => ⟨fun e8 => ⟨fun e9 => h7 e0 e1 e2 e3 e4 e5 e6 e7 e8 e9, fun e9 => ⟨fun e10 => ⟨fun e11 => h8 e0 e1 e2 e3 e4 e5 e6 e7 e8 e9 e10 e11, fun e11 => h9 e0 e1 e2 e3 e4 e5 e6 e7 e8 e9 e10 e11⟩, fun e10 => h10 e0 e1 e2 e3 e4 e5 e6 e7 e8 e9 e10⟩⟩, fun e8 => h11 e0 e1 e2 e3 e4 e5 e6 e7 e8⟩, fun e7 => h12 e0 e1 e2 e3 e4 e5 e6 e7⟩, fun e6 => h13 e0 e1 e2 e3 e4 e5 e6⟩, fun e5 => h14 e0 e1 e2 e3 e4 e5⟩⟩⟩⟩⟩⟩
theorem keeps_ok (T : Tb) (k m b r p v q a : Int) (hh : okW T ∧ inU k ∧ inU m ∧ (in64 b ∧ in64 r ∧ in64 p ∧ in64 v ∧ in64 q ∧ inQ a)) :
    CallsD Try.prog 6 [T.d, u32 k, u32 m, .agg [i64 b, i64 r, i64 p, i64 v, i64 q, u64 a]] (bo true) := by
  obtain ⟨hw, hk, hm, _, _, _, hv, _⟩ := hh
  cases f0 : T.great with
  | true =>
    refine kl_calls T k m b r p v q a _ ?_ ?_ ?_ ?_ ?_ ?_ ?_ ?_ ?_ ?_ ?_ ?_ ?_ ?_ ?_ <;> dsimp only [At, Tr.q, kl_T]
    · intro _; exact ⟨trivial, rfl⟩
    all_goals (intro g; rw [f0] at g; cases g)
  | false =>
    have ho := okT_of hw f0
    by_cases f1 : rcV T = 0
    · have f3 := tcV_of ho f1
      by_cases f2 : bkV b r p v q = 0
      · have f1' : cmpI .neq (rcV T) 0 = false := by rw [neq_f]; exact f1
        have f2' : cmpI .neq (bkV b r p v q) 0 = false := by rw [neq_f]; exact f2
        have f3' : cmpI .neq (tcV T) 0 = false := by rw [neq_f]; exact f3
        by_cases f4 : fdE T.kx T.px T.ux k = 0
        · obtain ⟨i, hi, hlt, hu, _⟩ := tc_find ho f3 hk f4
          have hU : seT T k b r p v q a = T.put i b r p v q a := by unfold seT; rw [if_pos ⟨f3, f2, f4⟩, hi, Int.toNat_natCast]
          have hS : seE T k b r p v q = 0 := by unfold seE; rw [if_pos f3, if_pos f2, if_pos f4]
          have hoU : okT (seT T k b r p v q a) := by rw [hU]; exact put_okT ho hv
          have hrU : rcV (seT T k b r p v q a) = 0 := by rw [hU]; exact put_rcV ho f1 hlt hu f2
          have htU := tcV_of hoU hrU
          have htU2 : tcV (T.put i b r p v q a) = 0 := by rw [← hU]; exact htU
          have hky : kyV (seT T k b r p v q a) = kyV T := by rw [hU]; exact put_list T i b r p v q a f3 htU2
          obtain ⟨y1, y2, y3, y4, y5, y6, y7⟩ := put_same (i := i) (b := b) (r := r) (p := p) (v := v) (q := q) (a := a) ho f3 htU2 f4 hi hlt
          rw [← hU] at y1 y2 y3 y4 y5 y6 y7
          have hlen : (kyV T).length ≤ 200 := by
            unfold kyV; rw [if_pos f3, List.length_map]
            obtain ⟨l1, l2⟩ := tc_list f3
            have := okL_len l2
            have := (tcV_is f3).1.2.1
            rw [l1]; omega
          have f4' : cmpI .neq (seE T k b r p v q) 0 = false := by rw [neq_f]; exact hS
          have f5 : cmpI .eql (tcV (seT T k b r p v q a)) 0 = true := by rw [eql_t]; exact htU
          have f6 : eqB (kyV T) (kyV (seT T k b r p v q a)) = true := by rw [hky]; simp [eqB]
          have f7 : cmpI .eql (gtE (seT T k b r p v q a) k) 0 = true := by rw [eql_t]; exact y7
          have f8 : kl_c10 T k b r p v q a = true := by
            unfold kl_c10 kl_c4 kl_c0 kl_c6 kl_c5 kl_c1; rw [y1, y2, y3, y4, y5, y6]; simp
          have f9 : m ≠ k → kl_c11 T k m b r p v q a = true ∧ cmpI .eql (gtE T m) (gtE (seT T k b r p v q a) m) = true := fun hn => by
            obtain ⟨z1, z2, z3, z4, z5, z6, z7⟩ := put_other (i := i) (b := b) (r := r) (p := p) (v := v) (q := q) (a := a) ho f3 htU2 hk hm f4 hi hn
            rw [← hU] at z1 z2 z3 z4 z5 z6 z7
            refine ⟨?_, by rw [eql_t]; exact z7.symm⟩
            unfold kl_c11 kl_c7 kl_c2 kl_c9 kl_c8 kl_c3; rw [z1, z2, z3, z4, z5, z6]; simp
          have hres : (bo true : D) = D.v (Value.bool (cmpI BinOp.eql (rcV (seT T k b r p v q a)) 0)) := by
            have : cmpI BinOp.eql (rcV (seT T k b r p v q a)) 0 = true := by rw [eql_t]; exact hrU
            rw [this]
          refine kl_calls T k m b r p v q a _ ?_ ?_ ?_ ?_ ?_ ?_ ?_ ?_ ?_ ?_ ?_ ?_ ?_ ?_ ?_ <;> dsimp only [At, Tr.q, kl_T]
          · intro g; rw [f0] at g; cases g
          · intro _ g; rw [f1'] at g; cases g
          · intro _ _ g; rw [f2'] at g; cases g
          · intro _ _ _ g; rw [f3'] at g; cases g
          · intro _ _ _ g; rw [f3'] at g; cases g
          · intro _ _ _ _ g; rw [f4'] at g; cases g
          · intro _ _ _ _ g; rw [f4'] at g; cases g
          · intro _ _ _ _ _ _ _ _ _ _
            exact ⟨⟨hoU, hlen, ⟨hoU, hm⟩, ⟨ho, hm⟩, ⟨hoU, hk⟩, hoU, ⟨ho, hk, hv⟩, ho, ho, trivial⟩, hres⟩
          · intro _ _ _ _ _ _ _ _ _ _ _ _
            exact ⟨⟨hoU, hlen, ⟨hoU, hm⟩, ⟨ho, hm⟩, ⟨hoU, hk⟩, hoU, ⟨ho, hk, hv⟩, ho, ho, trivial⟩, hres⟩
          · intro _ _ _ _ _ _ _ _ _ g _ g2; rw [eql_f] at g; rw [(f9 g).2] at g2; cases g2
          · intro _ _ _ _ _ _ _ _ _ g g2; rw [eql_f] at g; rw [(f9 g).1] at g2; cases g2
          · intro _ _ _ _ _ _ _ _ g; rw [f8] at g; cases g
          · intro _ _ _ _ _ _ _ g; rw [f7] at g; cases g
          · intro _ _ _ _ _ _ g; rw [f6] at g; cases g
          · intro _ _ _ _ _ g; rw [f5] at g; cases g
        · have hS : seE T k b r p v q = 6 := by unfold seE; rw [if_pos f3, if_pos f2, if_neg f4]
          have f4' : cmpI .neq (seE T k b r p v q) 0 = true := by rw [neq_t, hS]; omega
          have f6' : ¬ cmpI .neq (seE T k b r p v q) 0 = false := by rw [f4']; simp
          have hres : (bo true : D) = D.v (Value.bool (cmpI BinOp.eql (seE T k b r p v q) 6)) := by
            have : cmpI BinOp.eql (seE T k b r p v q) 6 = true := by rw [eql_t]; exact hS
            rw [this]
          have f5' : ¬ cmpI .eql (tcV T) 0 = false := by rw [eql_f]; exact fun n => n f3
          refine kl_calls T k m b r p v q a _ ?_ ?_ ?_ ?_ ?_ ?_ ?_ ?_ ?_ ?_ ?_ ?_ ?_ ?_ ?_ <;> dsimp only [At, Tr.q, kl_T]
          · intro g; rw [f0] at g; cases g
          · intro _ g; rw [f1'] at g; cases g
          · intro _ _ g; rw [f2'] at g; cases g
          · intro _ _ _ g; rw [f3'] at g; cases g
          · intro _ _ _ g; rw [f3'] at g; cases g
          · intro _ _ _ _ _ _
            exact ⟨⟨⟨ho, hk, hv⟩, ho, ho, trivial⟩, hres⟩
          · intro _ _ _ _ _ g; exact absurd g f5'
          all_goals (intro _ _ _ _ g; exact absurd g f6')
      · have f1' : cmpI .neq (rcV T) 0 = false := by rw [neq_f]; exact f1
        have f2' : ¬ cmpI .neq (bkV b r p v q) 0 = false := by rw [neq_f]; exact f2
        refine kl_calls T k m b r p v q a _ ?_ ?_ ?_ ?_ ?_ ?_ ?_ ?_ ?_ ?_ ?_ ?_ ?_ ?_ ?_ <;> dsimp only [At, Tr.q, kl_T]
        · intro g; rw [f0] at g; cases g
        · intro _ g; rw [f1'] at g; cases g
        · intro _ _ _; exact ⟨⟨ho, trivial⟩, rfl⟩
        all_goals (intro _ _ g; exact absurd g f2')
    · have f1' : ¬ cmpI .neq (rcV T) 0 = false := by rw [neq_f]; exact f1
      refine kl_calls T k m b r p v q a _ ?_ ?_ ?_ ?_ ?_ ?_ ?_ ?_ ?_ ?_ ?_ ?_ ?_ ?_ ?_ <;> dsimp only [At, Tr.q, kl_T]
      · intro g; rw [f0] at g; cases g
      · intro _ _; exact ⟨⟨ho, trivial⟩, rfl⟩
      all_goals (intro _ g; exact absurd g f1')
end TableS
end

section
namespace Go.Proofs.Ytakcfkmfiamliaa.tableKeeps
open Go.ChangeShapes Go.WideShapes Go.ChangeAt Go.RowKit Go.Dam _root_.TableS
set_option linter.unusedVariables false
set_option maxRecDepth 100000
theorem walk (W : World) (v0 v1 v2 v3 : Value) (l0 : List Value) (n1 : Int) (n2 : Int) (f3 : Nat → Int) (h0 : v0 = .agg l0.toArray) (w0 : FFits W tKinds l0) (h1 : v1 = .int .u32 n1) (w1 : (Lit.int .u32 n1).wf = true) (h2 : v2 = .int .u32 n2) (w2 : (Lit.int .u32 n2).wf = true) (h3 : v3 = .agg (mkVal bKinds f3).toArray) (w3 : ∀ j k, bKinds[j]? = some k → (Lit.int k (f3 j)).wf = true) :
    Calls Try.prog 6 #[v0, v1, v2, v3] W (fun e W' => e = .returned (.bool true) ∧ Below W.heap.size W W') := by
  obtain ⟨T0, t0, r0⟩ := table_in w0
  subst h0; subst h1; subst h2; subst h3
  refine (keeps_ok T0 n1 n2 (f3 0) (f3 1) (f3 2) (f3 3) (f3 4) (f3 5) ⟨t0, Go.Dam.wf_u32 w1, Go.Dam.wf_u32 w2, ⟨TableS.wf_i64 (w3 0 .i64 rfl), TableS.wf_i64 (w3 1 .i64 rfl), TableS.wf_i64 (w3 2 .i64 rfl), TableS.wf_i64 (w3 3 .i64 rfl), TableS.wf_i64 (w3 4 .i64 rfl), TableS.wf_u64 (w3 5 .u64 rfl)⟩⟩ W (fun k => k < W.heap.size) [_, _, _, _] ?_ (fun _ h => h) (fun g h => absurd rfl h)).mono ?_
  · exact ⟨_, _, rfl, r0, ⟨_, _, rfl, rfl, ⟨_, _, rfl, rfl, ⟨_, _, rfl, rep_nums _ _, rfl⟩⟩⟩⟩
  · rintro e w' ⟨v, A', bl, rfl, hr, _, _, _, _, hb⟩
    have hv : v = .bool true := by
      simp only [RepO, RepS] at hr
      exact hr.1
    exact ⟨by rw [hv], hb⟩
theorem own : ownKnob Try.prog.godebug = none := by kernel_rfl
theorem laidOut : laidOutB Try.prog = true := by kernel_rfl
theorem lifted (os : Os) (started : os.Started) (H : Type) (enc : TypeId × Value → H) :
    ReturnsInHanded {} Try.checked os 6 .any (Rows.tableKeepsSpec.pre6 enc Try.prog Try.f6 Rows.tableKeepsRow.domain false) (Rows.tableKeepsSpec.post enc Try.prog Try.f6 false true false false) := by
  refine returnsInHanded_of_change_sized (C := Try.checked) own started (by kernel_rfl) Try.func6
    (ChangeSpec.witness6 (enc := enc) (C := Try.checked) false ⟨#[], #[.agg #[.int .i64 0, .slice none 0 0, .slice none 0 0, .slice none 0 0, .slice none 0 0, .int .i64 0, .slice none 0 0, .slice none 0 0, .slice none 0 0, .int .i64 0, .int .i64 0], .int .u32 0, .int .u32 0, .agg #[.int .i64 0, .int .i64 0, .int .i64 0, .int .i64 0, .int .i64 0, .int .u64 0]], []⟩ 8 (by kernel_rfl) (by kernel_rfl) (by kernel_rfl) (by kernel_rfl)) ?_
  intro W base args ds gs before hval0 hW hcnd hsz0 _
  have hval : ∀ (j : Nat) t v, Try.f6.params[j]? = some t → args[j]? = some v → Value.okWide Try.prog W .any base t v := hval0
  have hW' := hW
  obtain ⟨p, q, hA0, hV, rfl, hfz, hnd⟩ := hW
  have hA : DataW.TrodAll enc Try.prog W 0 (fun _ => true) true Try.f6.params.toList args.toList ds p := hA0
  rw [Try.params6] at hA hval
  obtain ⟨v0, vs0, d0, ds0, p0, q0, hargs, rfl, rfl, h0, r0⟩ := trodAll_cons hA
  obtain ⟨v1, vs1, d1, ds1, p1, q1, rfl, rfl, rfl, h1, r1⟩ := trodAll_cons r0
  obtain ⟨v2, vs2, d2, ds2, p2, q2, rfl, rfl, rfl, h2, r2⟩ := trodAll_cons r1
  obtain ⟨v3, vs3, d3, ds3, p3, q3, rfl, rfl, rfl, h3, r3⟩ := trodAll_cons r2
  obtain ⟨rfl, rfl, rfl⟩ := trodAll_nil r3
  obtain rfl : args = #[v0, v1, v2, v3] := by cases args; simp_all
  obtain ⟨rfl, rfl⟩ := trodVars_none hV
  have lt : ∀ {t : TypeId} {v : Value} {d : DataW H} {ps : List MemPlace}, DataW.Trod enc Try.prog W 0 (fun _ => true) true t v d ps → ∀ x ∈ ps, x.block < W.heap.size := fun h => by
    obtain ⟨m, hm⟩ := h; exact DataW.trod_lt m _ _ _ hm
  obtain ⟨l0, e0, w0⟩ := open_flat (n := 5) (ks := tKinds) (by kernel_rfl) (by rw [Try.underlying32]) (hval 0 32 v0 rfl rfl) h0
  obtain ⟨n1, e1, _, _, w1⟩ := open_int (k := .u32) Try.underlying33 (hval 1 33 v1 rfl rfl) h1
  obtain ⟨n2, e2, _, _, w2⟩ := open_int (k := .u32) Try.underlying33 (hval 2 33 v2 rfl rfl) h2
  obtain ⟨f3, e3, w3⟩ := open_ints (n := 5) (ks := bKinds) (by kernel_rfl) (by rw [Try.underlying58]) (hval 3 58 v3 rfl rfl) h3
  clear hA0 hval0 hsz0
  refine (walk W v0 v1 v2 v3 l0 n1 n2 f3 e0 w0 e1 w1 e2 w2 e3 w3).mono fun e W' ⟨he, bel⟩ => ?_
  subst he
  exact ⟨_, rfl, _, _, _, [], _, [], hW', trodAll_mk1 (shut_bool Try.underlying4 _),
    (trodAll_cons_mk (Below.trod laidOut (by kernel_rfl) (of_decide_eq_true (by kernel_rfl)) h0 bel (lt h0)) (trodAll_cons_mk (Below.trod laidOut (by kernel_rfl) (of_decide_eq_true (by kernel_rfl)) h1 bel (lt h1)) (trodAll_cons_mk (Below.trod laidOut (by kernel_rfl) (of_decide_eq_true (by kernel_rfl)) h2 bel (lt h2)) (trodAll_cons_mk (Below.trod laidOut (by kernel_rfl) (of_decide_eq_true (by kernel_rfl)) h3 bel (lt h3)) trodAll_mk0)))), rfl, bel.frame _, fun h => by cases h⟩
theorem over : Rows.tableKeepsRow.holds Try.pinned (OpenSpec.ofChange Rows.tableKeepsSpec) :=
  OpenClaim.holds_of_wide 6 Try.f6 rfl rfl rfl rfl rfl rfl rfl ⟨rfl, rfl, rfl, rfl, rfl⟩ rfl rfl rfl rfl rfl (by kernel_rfl) Try.func6 (by kernel_rfl)
    (of_decide_eq_true (by kernel_rfl)) (by unfold Func.isWrapper; first | (rw [if_pos (by decide +kernel)]; kernel_rfl) | (rw [if_neg (by decide +kernel)]; exact ⟨rfl, rfl⟩))
    (fun os started H enc _ => lifted os started H enc)
theorem proved : Rows.TableKeepsSaid := over
#print axioms proved
end Go.Proofs.Ytakcfkmfiamliaa.tableKeeps
namespace Go.Proofs.Ytakcfkmfiamliaa
theorem tableKeeps_holds : Rows.TableKeepsSaid := tableKeeps.proved
end Go.Proofs.Ytakcfkmfiamliaa
end
