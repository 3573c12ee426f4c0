/- The functions of the folder meter and what they reach: what they compute. No condition. -/
import Derived.Test.YtkbdboclckpmgaaMetQ
set_option linter.unusedSectionVars false
set_option linter.unusedVariables false
set_option linter.unusedSimpArgs false
namespace MeterS
open Go Go.Dam Go.Proofs
set_option maxRecDepth 1000000
set_option linter.unusedVariables false
set_option linter.unusedSectionVars false
set_option linter.unusedSimpArgs false
variable [Glo]
theorem alive_p0  : fnX Try.prog X10 100000 [.c 1, PE.u, .c 54, PE.u, .c 0, PE.u, .c 6, PE.u, .c 22] 28 [] = some (D.v (Value.bool true), [(0 : Int) = (0 : Int),
  (0 : Int) ≤ opI BinOp.sub IntKind.u64 (0 : Int) (0 : Int),
  opI BinOp.sub IntKind.u64 (0 : Int) (0 : Int) < (18446744073709551616 : Int),
  (0 : Int) = (0 : Int),
  (0 : Int) ≤ opI BinOp.sub IntKind.u64 (0 : Int) (0 : Int),
  opI BinOp.sub IntKind.u64 (0 : Int) (0 : Int) < (18446744073709551616 : Int),
  (0 : Int) = (0 : Int),
  (0 : Int) ≤ opI BinOp.sub IntKind.u64 (0 : Int) (0 : Int),
  opI BinOp.sub IntKind.u64 (0 : Int) (0 : Int) < (18446744073709551616 : Int),
  (0 : Int) ≤ (4 : Int),
  (4 : Int) < (18446744073709551616 : Int),
  (0 : Int) ≤ (4 : Int),
  (4 : Int) < (18446744073709551616 : Int),
  (0 : Int) ≤ (4 : Int),
  (4 : Int) < (18446744073709551616 : Int),
  (0 : Int) ≤ (7 : Int),
  (7 : Int) < (18446744073709551616 : Int)]) := by kernel_rfl
theorem alive_calls  (res : D)
  (h0 : (((0 : Int) ≤ opI BinOp.sub IntKind.u64 (0 : Int) (0 : Int)) ∧ (opI BinOp.sub IntKind.u64 (0 : Int) (0 : Int) < (18446744073709551616 : Int)) ∧ ((0 : Int) ≤ opI BinOp.sub IntKind.u64 (0 : Int) (0 : Int)) ∧ (opI BinOp.sub IntKind.u64 (0 : Int) (0 : Int) < (18446744073709551616 : Int)) ∧ ((0 : Int) ≤ opI BinOp.sub IntKind.u64 (0 : Int) (0 : Int)) ∧ (opI BinOp.sub IntKind.u64 (0 : Int) (0 : Int) < (18446744073709551616 : Int)) ∧ ((0 : Int) ≤ (4 : Int)) ∧ ((4 : Int) < (18446744073709551616 : Int)) ∧ ((0 : Int) ≤ (4 : Int)) ∧ ((4 : Int) < (18446744073709551616 : Int)) ∧ ((0 : Int) ≤ (4 : Int)) ∧ ((4 : Int) < (18446744073709551616 : Int)) ∧ ((0 : Int) ≤ (7 : Int)) ∧ ((7 : Int) < (18446744073709551616 : Int)) ∧ True) ∧ res = D.v (Value.bool true)) :
  CallsD Try.prog 28 [] res := by
  exact of_path hX10 (alive_p0 ) ⟨rfl, (h0).1.1, (h0).1.2.1, rfl, (h0).1.2.2.1, (h0).1.2.2.2.1, rfl, (h0).1.2.2.2.2.1, (h0).1.2.2.2.2.2.1, (h0).1.2.2.2.2.2.2.1, (h0).1.2.2.2.2.2.2.2.1, (h0).1.2.2.2.2.2.2.2.2.1, (h0).1.2.2.2.2.2.2.2.2.2.1, (h0).1.2.2.2.2.2.2.2.2.2.2.1, (h0).1.2.2.2.2.2.2.2.2.2.2.2.1, (h0).1.2.2.2.2.2.2.2.2.2.2.2.2.1, (h0).1.2.2.2.2.2.2.2.2.2.2.2.2.2.1, trivial⟩ (h0).2
theorem alive_ok : CallsD Try.prog 28 [] (.v (.bool true)) := by
  refine alive_calls _ ?_
  exact ⟨by decide, rfl⟩
def aliveC : List D → Option (D × List Prop)
  | [] => some (.v (.bool true), [])
  | _ => none
theorem aliveC_ok (args res l) (h : aliveC args = some (res, l)) (hl : AllP l) : CallsD Try.prog 28 args res := by
  unfold aliveC at h; split at h
  · simp only [Option.some.injEq, Prod.mk.injEq] at h
    obtain ⟨rfl, rfl⟩ := h
    exact alive_ok
  · cases h
def X12 : Contracts := addCon 28 (.call aliveC) X11
theorem hX12 : ConOK Try.prog X12 := addCall_ok aliveC_ok hX11
end MeterS

namespace MeterS
open Go Go.Dam Go.Proofs
set_option maxRecDepth 1000000
set_option linter.unusedVariables false
set_option linter.unusedSectionVars false
set_option linter.unusedSimpArgs false
variable [Glo]
theorem law6_p0 (b : Int) (r : Int) (p : Int) (f : Int) (t : Int) (xs : List Int) (ys : List Int) : fnX Try.prog X11 100000 [.d true] 6 [D.agg [D.v (Value.int IntKind.i64 b), D.v (Value.int IntKind.i64 r), D.v (Value.int IntKind.i64 p)],
  D.v (Value.int IntKind.u64 f), D.v (Value.int IntKind.u64 t), D.rc [Col.ints IntKind.u64 xs, Col.ints IntKind.i64 ys]] = some (D.v (Value.bool true), [cmpI BinOp.gtr (↑(rowLen [Col.ints IntKind.u64 xs, Col.ints IntKind.i64 ys])) 70 = true]) := by kernel_rfl
theorem law6_p1 (b : Int) (r : Int) (p : Int) (f : Int) (t : Int) (xs : List Int) (ys : List Int) : fnX Try.prog X11 100000 [.d false, .d true, .c 1, .d true, .c 1, .d true, .c 1, .d true, .c 1, .d true, .c 1] 6 [D.agg [D.v (Value.int IntKind.i64 b), D.v (Value.int IntKind.i64 r), D.v (Value.int IntKind.i64 p)],
  D.v (Value.int IntKind.u64 f), D.v (Value.int IntKind.u64 t), D.rc [Col.ints IntKind.u64 xs, Col.ints IntKind.i64 ys]] = some (D.v (Value.bool (cmpI BinOp.eql (ovE b r p xs ys) (ovE b r p xs ys))), [((ovV b r p xs ys).isSome == (ovV b r p xs ys).isSome) = true,
  cmpI BinOp.eql (ovK (ovV b r p xs ys)) (ovK (ovV b r p xs ys)) = true,
  cmpI BinOp.eql (ovI (ovV b r p xs ys)) (ovI (ovV b r p xs ys)) = true,
  cmpI BinOp.eql (bE b r p f t) (bE b r p f t) = true,
  cmpI BinOp.eql (bV b r p f t) (bV b r p f t) = true,
  0 ≤ f,
  f < 18446744073709551616,
  0 ≤ t,
  t < 18446744073709551616,
  0 ≤ f,
  f < 18446744073709551616,
  0 ≤ t,
  t < 18446744073709551616,
  cmpI BinOp.gtr (↑(rowLen [Col.ints IntKind.u64 xs, Col.ints IntKind.i64 ys])) 70 = false]) := by kernel_rfl
theorem law6_p2 (b : Int) (r : Int) (p : Int) (f : Int) (t : Int) (xs : List Int) (ys : List Int) : fnX Try.prog X11 100000 [.d false, .d true, .c 1, .d true, .c 1, .d true, .c 1, .d true, .c 1, .d false, .c 1] 6 [D.agg [D.v (Value.int IntKind.i64 b), D.v (Value.int IntKind.i64 r), D.v (Value.int IntKind.i64 p)],
  D.v (Value.int IntKind.u64 f), D.v (Value.int IntKind.u64 t), D.rc [Col.ints IntKind.u64 xs, Col.ints IntKind.i64 ys]] = some (D.v (Value.bool false), [((ovV b r p xs ys).isSome == (ovV b r p xs ys).isSome) = false,
  cmpI BinOp.eql (ovK (ovV b r p xs ys)) (ovK (ovV b r p xs ys)) = true,
  cmpI BinOp.eql (ovI (ovV b r p xs ys)) (ovI (ovV b r p xs ys)) = true,
  cmpI BinOp.eql (bE b r p f t) (bE b r p f t) = true,
  cmpI BinOp.eql (bV b r p f t) (bV b r p f t) = true,
  0 ≤ f,
  f < 18446744073709551616,
  0 ≤ t,
  t < 18446744073709551616,
  0 ≤ f,
  f < 18446744073709551616,
  0 ≤ t,
  t < 18446744073709551616,
  cmpI BinOp.gtr (↑(rowLen [Col.ints IntKind.u64 xs, Col.ints IntKind.i64 ys])) 70 = false]) := by kernel_rfl
theorem law6_p3 (b : Int) (r : Int) (p : Int) (f : Int) (t : Int) (xs : List Int) (ys : List Int) : fnX Try.prog X11 100000 [.d false, .d true, .c 1, .d true, .c 1, .d true, .c 1, .d false, .c 4] 6 [D.agg [D.v (Value.int IntKind.i64 b), D.v (Value.int IntKind.i64 r), D.v (Value.int IntKind.i64 p)],
  D.v (Value.int IntKind.u64 f), D.v (Value.int IntKind.u64 t), D.rc [Col.ints IntKind.u64 xs, Col.ints IntKind.i64 ys]] = some (D.v (Value.bool false), [cmpI BinOp.eql (ovK (ovV b r p xs ys)) (ovK (ovV b r p xs ys)) = false,
  cmpI BinOp.eql (ovI (ovV b r p xs ys)) (ovI (ovV b r p xs ys)) = true,
  cmpI BinOp.eql (bE b r p f t) (bE b r p f t) = true,
  cmpI BinOp.eql (bV b r p f t) (bV b r p f t) = true,
  0 ≤ f,
  f < 18446744073709551616,
  0 ≤ t,
  t < 18446744073709551616,
  0 ≤ f,
  f < 18446744073709551616,
  0 ≤ t,
  t < 18446744073709551616,
  cmpI BinOp.gtr (↑(rowLen [Col.ints IntKind.u64 xs, Col.ints IntKind.i64 ys])) 70 = false]) := by kernel_rfl
theorem law6_p4 (b : Int) (r : Int) (p : Int) (f : Int) (t : Int) (xs : List Int) (ys : List Int) : fnX Try.prog X11 100000 [.d false, .d true, .c 1, .d true, .c 1, .d false, .c 7] 6 [D.agg [D.v (Value.int IntKind.i64 b), D.v (Value.int IntKind.i64 r), D.v (Value.int IntKind.i64 p)],
  D.v (Value.int IntKind.u64 f), D.v (Value.int IntKind.u64 t), D.rc [Col.ints IntKind.u64 xs, Col.ints IntKind.i64 ys]] = some (D.v (Value.bool false), [cmpI BinOp.eql (ovI (ovV b r p xs ys)) (ovI (ovV b r p xs ys)) = false,
  cmpI BinOp.eql (bE b r p f t) (bE b r p f t) = true,
  cmpI BinOp.eql (bV b r p f t) (bV b r p f t) = true,
  0 ≤ f,
  f < 18446744073709551616,
  0 ≤ t,
  t < 18446744073709551616,
  0 ≤ f,
  f < 18446744073709551616,
  0 ≤ t,
  t < 18446744073709551616,
  cmpI BinOp.gtr (↑(rowLen [Col.ints IntKind.u64 xs, Col.ints IntKind.i64 ys])) 70 = false]) := by kernel_rfl
theorem law6_p5 (b : Int) (r : Int) (p : Int) (f : Int) (t : Int) (xs : List Int) (ys : List Int) : fnX Try.prog X11 100000 [.d false, .d true, .c 1, .d false, .c 10] 6 [D.agg [D.v (Value.int IntKind.i64 b), D.v (Value.int IntKind.i64 r), D.v (Value.int IntKind.i64 p)],
  D.v (Value.int IntKind.u64 f), D.v (Value.int IntKind.u64 t), D.rc [Col.ints IntKind.u64 xs, Col.ints IntKind.i64 ys]] = some (D.v (Value.bool false), [cmpI BinOp.eql (bE b r p f t) (bE b r p f t) = false,
  cmpI BinOp.eql (bV b r p f t) (bV b r p f t) = true,
  0 ≤ f,
  f < 18446744073709551616,
  0 ≤ t,
  t < 18446744073709551616,
  0 ≤ f,
  f < 18446744073709551616,
  0 ≤ t,
  t < 18446744073709551616,
  cmpI BinOp.gtr (↑(rowLen [Col.ints IntKind.u64 xs, Col.ints IntKind.i64 ys])) 70 = false]) := by kernel_rfl
theorem law6_p6 (b : Int) (r : Int) (p : Int) (f : Int) (t : Int) (xs : List Int) (ys : List Int) : fnX Try.prog X11 100000 [.d false, .d false, .c 13] 6 [D.agg [D.v (Value.int IntKind.i64 b), D.v (Value.int IntKind.i64 r), D.v (Value.int IntKind.i64 p)],
  D.v (Value.int IntKind.u64 f), D.v (Value.int IntKind.u64 t), D.rc [Col.ints IntKind.u64 xs, Col.ints IntKind.i64 ys]] = some (D.v (Value.bool false), [cmpI BinOp.eql (bV b r p f t) (bV b r p f t) = false,
  0 ≤ f,
  f < 18446744073709551616,
  0 ≤ t,
  t < 18446744073709551616,
  0 ≤ f,
  f < 18446744073709551616,
  0 ≤ t,
  t < 18446744073709551616,
  cmpI BinOp.gtr (↑(rowLen [Col.ints IntKind.u64 xs, Col.ints IntKind.i64 ys])) 70 = false]) := by kernel_rfl
theorem law6_calls (b : Int) (r : Int) (p : Int) (f : Int) (t : Int) (xs : List Int) (ys : List Int) (res : D)
  (h0 : ((cmpI BinOp.gtr (↑(rowLen [Col.ints IntKind.u64 xs, Col.ints IntKind.i64 ys])) 70) = true) → (True) ∧ res = D.v (Value.bool true))
  (h1 : ((cmpI BinOp.gtr (↑(rowLen [Col.ints IntKind.u64 xs, Col.ints IntKind.i64 ys])) 70) = false) → ((cmpI BinOp.eql (bV b r p f t) (bV b r p f t)) = true) → ((cmpI BinOp.eql (bE b r p f t) (bE b r p f t)) = true) → ((cmpI BinOp.eql (ovI (ovV b r p xs ys)) (ovI (ovV b r p xs ys))) = true) → ((cmpI BinOp.eql (ovK (ovV b r p xs ys)) (ovK (ovV b r p xs ys))) = true) → (((ovV b r p xs ys).isSome == (ovV b r p xs ys).isSome) = true) → ((0 ≤ f) ∧ (f < 18446744073709551616) ∧ (0 ≤ t) ∧ (t < 18446744073709551616) ∧ (0 ≤ f) ∧ (f < 18446744073709551616) ∧ (0 ≤ t) ∧ (t < 18446744073709551616) ∧ True) ∧ res = D.v (Value.bool (cmpI BinOp.eql (ovE b r p xs ys) (ovE b r p xs ys))))
  (h2 : ((cmpI BinOp.gtr (↑(rowLen [Col.ints IntKind.u64 xs, Col.ints IntKind.i64 ys])) 70) = false) → ((cmpI BinOp.eql (bV b r p f t) (bV b r p f t)) = true) → ((cmpI BinOp.eql (bE b r p f t) (bE b r p f t)) = true) → ((cmpI BinOp.eql (ovI (ovV b r p xs ys)) (ovI (ovV b r p xs ys))) = true) → ((cmpI BinOp.eql (ovK (ovV b r p xs ys)) (ovK (ovV b r p xs ys))) = true) → (((ovV b r p xs ys).isSome == (ovV b r p xs ys).isSome) = false) → ((0 ≤ f) ∧ (f < 18446744073709551616) ∧ (0 ≤ t) ∧ (t < 18446744073709551616) ∧ (0 ≤ f) ∧ (f < 18446744073709551616) ∧ (0 ≤ t) ∧ (t < 18446744073709551616) ∧ True) ∧ res = D.v (Value.bool false))
  (h3 : ((cmpI BinOp.gtr (↑(rowLen [Col.ints IntKind.u64 xs, Col.ints IntKind.i64 ys])) 70) = false) → ((cmpI BinOp.eql (bV b r p f t) (bV b r p f t)) = true) → ((cmpI BinOp.eql (bE b r p f t) (bE b r p f t)) = true) → ((cmpI BinOp.eql (ovI (ovV b r p xs ys)) (ovI (ovV b r p xs ys))) = true) → ((cmpI BinOp.eql (ovK (ovV b r p xs ys)) (ovK (ovV b r p xs ys))) = false) → ((0 ≤ f) ∧ (f < 18446744073709551616) ∧ (0 ≤ t) ∧ (t < 18446744073709551616) ∧ (0 ≤ f) ∧ (f < 18446744073709551616) ∧ (0 ≤ t) ∧ (t < 18446744073709551616) ∧ True) ∧ res = D.v (Value.bool false))
  (h4 : ((cmpI BinOp.gtr (↑(rowLen [Col.ints IntKind.u64 xs, Col.ints IntKind.i64 ys])) 70) = false) → ((cmpI BinOp.eql (bV b r p f t) (bV b r p f t)) = true) → ((cmpI BinOp.eql (bE b r p f t) (bE b r p f t)) = true) → ((cmpI BinOp.eql (ovI (ovV b r p xs ys)) (ovI (ovV b r p xs ys))) = false) → ((0 ≤ f) ∧ (f < 18446744073709551616) ∧ (0 ≤ t) ∧ (t < 18446744073709551616) ∧ (0 ≤ f) ∧ (f < 18446744073709551616) ∧ (0 ≤ t) ∧ (t < 18446744073709551616) ∧ True) ∧ res = D.v (Value.bool false))
  (h5 : ((cmpI BinOp.gtr (↑(rowLen [Col.ints IntKind.u64 xs, Col.ints IntKind.i64 ys])) 70) = false) → ((cmpI BinOp.eql (bV b r p f t) (bV b r p f t)) = true) → ((cmpI BinOp.eql (bE b r p f t) (bE b r p f t)) = false) → ((0 ≤ f) ∧ (f < 18446744073709551616) ∧ (0 ≤ t) ∧ (t < 18446744073709551616) ∧ (0 ≤ f) ∧ (f < 18446744073709551616) ∧ (0 ≤ t) ∧ (t < 18446744073709551616) ∧ True) ∧ res = D.v (Value.bool false))
  (h6 : ((cmpI BinOp.gtr (↑(rowLen [Col.ints IntKind.u64 xs, Col.ints IntKind.i64 ys])) 70) = false) → ((cmpI BinOp.eql (bV b r p f t) (bV b r p f t)) = false) → ((0 ≤ f) ∧ (f < 18446744073709551616) ∧ (0 ≤ t) ∧ (t < 18446744073709551616) ∧ (0 ≤ f) ∧ (f < 18446744073709551616) ∧ (0 ≤ t) ∧ (t < 18446744073709551616) ∧ True) ∧ res = D.v (Value.bool false)) :
  CallsD Try.prog 6 [D.agg [D.v (Value.int IntKind.i64 b), D.v (Value.int IntKind.i64 r), D.v (Value.int IntKind.i64 p)],
  D.v (Value.int IntKind.u64 f), D.v (Value.int IntKind.u64 t), D.rc [Col.ints IntKind.u64 xs, Col.ints IntKind.i64 ys]] res := by
  cases e0 : (cmpI BinOp.gtr (↑(rowLen [Col.ints IntKind.u64 xs, Col.ints IntKind.i64 ys])) 70) with
  | true =>
    exact of_path hX11 (law6_p0 b r p f t xs ys) ⟨e0, trivial⟩ (h0 e0).2
  | false =>
    cases e1 : (cmpI BinOp.eql (bV b r p f t) (bV b r p f t)) with
    | true =>
      cases e2 : (cmpI BinOp.eql (bE b r p f t) (bE b r p f t)) with
      | true =>
        cases e3 : (cmpI BinOp.eql (ovI (ovV b r p xs ys)) (ovI (ovV b r p xs ys))) with
        | true =>
          cases e4 : (cmpI BinOp.eql (ovK (ovV b r p xs ys)) (ovK (ovV b r p xs ys))) with
          | true =>
            cases e5 : ((ovV b r p xs ys).isSome == (ovV b r p xs ys).isSome) with
            | true =>
              exact of_path hX11 (law6_p1 b r p f t xs ys) ⟨e5, e4, e3, e2, e1, (h1 e0 e1 e2 e3 e4 e5).1.1, (h1 e0 e1 e2 e3 e4 e5).1.2.1, (h1 e0 e1 e2 e3 e4 e5).1.2.2.1, (h1 e0 e1 e2 e3 e4 e5).1.2.2.2.1, (h1 e0 e1 e2 e3 e4 e5).1.2.2.2.2.1, (h1 e0 e1 e2 e3 e4 e5).1.2.2.2.2.2.1, (h1 e0 e1 e2 e3 e4 e5).1.2.2.2.2.2.2.1, (h1 e0 e1 e2 e3 e4 e5).1.2.2.2.2.2.2.2.1, e0, trivial⟩ (h1 e0 e1 e2 e3 e4 e5).2
            | false =>
              exact of_path hX11 (law6_p2 b r p f t xs ys) ⟨e5, e4, e3, e2, e1, (h2 e0 e1 e2 e3 e4 e5).1.1, (h2 e0 e1 e2 e3 e4 e5).1.2.1, (h2 e0 e1 e2 e3 e4 e5).1.2.2.1, (h2 e0 e1 e2 e3 e4 e5).1.2.2.2.1, (h2 e0 e1 e2 e3 e4 e5).1.2.2.2.2.1, (h2 e0 e1 e2 e3 e4 e5).1.2.2.2.2.2.1, (h2 e0 e1 e2 e3 e4 e5).1.2.2.2.2.2.2.1, (h2 e0 e1 e2 e3 e4 e5).1.2.2.2.2.2.2.2.1, e0, trivial⟩ (h2 e0 e1 e2 e3 e4 e5).2
          | false =>
            exact of_path hX11 (law6_p3 b r p f t xs ys) ⟨e4, e3, e2, e1, (h3 e0 e1 e2 e3 e4).1.1, (h3 e0 e1 e2 e3 e4).1.2.1, (h3 e0 e1 e2 e3 e4).1.2.2.1, (h3 e0 e1 e2 e3 e4).1.2.2.2.1, (h3 e0 e1 e2 e3 e4).1.2.2.2.2.1, (h3 e0 e1 e2 e3 e4).1.2.2.2.2.2.1, (h3 e0 e1 e2 e3 e4).1.2.2.2.2.2.2.1, (h3 e0 e1 e2 e3 e4).1.2.2.2.2.2.2.2.1, e0, trivial⟩ (h3 e0 e1 e2 e3 e4).2
        | false =>
          exact of_path hX11 (law6_p4 b r p f t xs ys) ⟨e3, e2, e1, (h4 e0 e1 e2 e3).1.1, (h4 e0 e1 e2 e3).1.2.1, (h4 e0 e1 e2 e3).1.2.2.1, (h4 e0 e1 e2 e3).1.2.2.2.1, (h4 e0 e1 e2 e3).1.2.2.2.2.1, (h4 e0 e1 e2 e3).1.2.2.2.2.2.1, (h4 e0 e1 e2 e3).1.2.2.2.2.2.2.1, (h4 e0 e1 e2 e3).1.2.2.2.2.2.2.2.1, e0, trivial⟩ (h4 e0 e1 e2 e3).2
      | false =>
        exact of_path hX11 (law6_p5 b r p f t xs ys) ⟨e2, e1, (h5 e0 e1 e2).1.1, (h5 e0 e1 e2).1.2.1, (h5 e0 e1 e2).1.2.2.1, (h5 e0 e1 e2).1.2.2.2.1, (h5 e0 e1 e2).1.2.2.2.2.1, (h5 e0 e1 e2).1.2.2.2.2.2.1, (h5 e0 e1 e2).1.2.2.2.2.2.2.1, (h5 e0 e1 e2).1.2.2.2.2.2.2.2.1, e0, trivial⟩ (h5 e0 e1 e2).2
    | false =>
      exact of_path hX11 (law6_p6 b r p f t xs ys) ⟨e1, (h6 e0 e1).1.1, (h6 e0 e1).1.2.1, (h6 e0 e1).1.2.2.1, (h6 e0 e1).1.2.2.2.1, (h6 e0 e1).1.2.2.2.2.1, (h6 e0 e1).1.2.2.2.2.2.1, (h6 e0 e1).1.2.2.2.2.2.2.1, (h6 e0 e1).1.2.2.2.2.2.2.2.1, e0, trivial⟩ (h6 e0 e1).2
theorem law6_ok (b r p f t : Int) (xs ys : List Int) (f0 : 0 ≤ f) (f1 : f < 18446744073709551616) (t0 : 0 ≤ t) (t1 : t < 18446744073709551616) :
    CallsD Try.prog 6 [.agg [i64 b, i64 r, i64 p], u64 f, u64 t, crow xs ys] (.v (.bool true)) := by
  refine law6_calls b r p f t xs ys _ ?_ ?_ ?_ ?_ ?_ ?_ ?_
  · intro _; exact ⟨trivial, rfl⟩
  · intros; refine ⟨by ((repeat' apply And.intro) <;> first | trivial | omega | (apply decide_eq_true; omega)), ?_⟩; simp [cmpI]
  all_goals
    intros
    simp [cmpI] at *
end MeterS
