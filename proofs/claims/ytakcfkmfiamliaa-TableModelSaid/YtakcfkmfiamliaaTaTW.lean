/- What the functions compute, and the law. No condition. -/
import Derived.Test.YtakcfkmfiamliaaTaTT
set_option linter.unusedSectionVars false
set_option linter.unusedVariables false
set_option linter.unusedSimpArgs false
section
namespace TableS
open Go Go.Dam Go.Proofs
set_option maxRecDepth 1000000
noncomputable def lmA_T (b : Int) (r : Int) (p : Int) : Tr D := .d (cmpI .lss b 1) (fun e0 => .p (.c 14) (.lf (i64 8))) (fun e0 => .p (.c 1) (.d (cmpI .gtr b 1000000000) (fun e1 => .p (.c 11) (.lf (i64 8))) (fun e1 => .p (.c 1) (.d (cmpI .lss r 0) (fun e2 => .p (.c 8) (.lf (i64 8))) (fun e2 => .p (.c 1) (.d (cmpI .gtr r 1000000000) (fun e3 => .p (.c 5) (.lf (i64 8))) (fun e3 => .p (.c 1) (.d (cmpI .lss p 1) (fun e4 => .p (.c 2) (.lf (i64 8))) (fun e4 => .p (.c 1) (.d (cmpI .gtr p 1000000000) (fun e5 => .lf (i64 8)) (fun e5 => .lf (i64 0))))))))))))
theorem lmA_L (b r p : Int) : Leaves (fun l => fnX Try.prog (X8) 100000 l 73 [D.agg [i64 b, i64 r, i64 p]]) (lmA_T b r p) [] [] := by refine ⟨fun _ => ?_, fun _ => ⟨fun _ => ?_, fun _ => ⟨fun _ => ?_, fun _ => ⟨fun _ => ?_, fun _ => ⟨fun _ => ?_, fun _ => ⟨fun _ => ?_, fun _ => ?_⟩⟩⟩⟩⟩⟩ <;> (show _ = _; kernel_rfl)
theorem lmA_calls (b r p : Int) (res : D) (h0 : At (fun r => res = r) (lmA_T b r p) [true] True) (h1 : At (fun r => res = r) (lmA_T b r p) [false, true] True) (h2 : At (fun r => res = r) (lmA_T b r p) [false, false, true] True) (h3 : At (fun r => res = r) (lmA_T b r p) [false, false, false, true] True) (h4 : At (fun r => res = r) (lmA_T b r p) [false, false, false, false, true] True) (h5 : At (fun r => res = r) (lmA_T b r p) [false, false, false, false, false, true] True) (h6 : At (fun r => res = r) (lmA_T b r p) [false, false, false, false, false, false] True) : CallsD Try.prog 73 [D.agg [i64 b, i64 r, i64 p]] res := tree_calls (hX8) (lmA_L b r p) ⟨fun e0 => h0 e0, fun e0 => ⟨fun e1 => h1 e0 e1, fun e1 => ⟨fun e2 => h2 e0 e1 e2, fun e2 => ⟨fun e3 => h3 e0 e1 e2 e3, fun e3 => ⟨fun e4 => h4 e0 e1 e2 e3 e4, fun e4 => ⟨fun e5 => h5 e0 e1 e2 e3 e4 e5, fun e5 => h6 e0 e1 e2 e3 e4 e5⟩⟩⟩⟩⟩⟩
noncomputable def lmB_T (b : Int) (r : Int) (p : Int) : Tr D := .d (cmpI .lss b 1) (fun e0 => .p (.c 14) (.lf (i64 8))) (fun e0 => .p (.c 1) (.d (cmpI .gtr b 1000000000) (fun e1 => .p (.c 11) (.lf (i64 8))) (fun e1 => .p (.c 1) (.d (cmpI .lss r 0) (fun e2 => .p (.c 8) (.lf (i64 8))) (fun e2 => .p (.c 1) (.d (cmpI .gtr r 1000000000) (fun e3 => .p (.c 5) (.lf (i64 8))) (fun e3 => .p (.c 1) (.d (cmpI .lss p 1) (fun e4 => .p (.c 2) (.lf (i64 8))) (fun e4 => .p (.c 1) (.d (cmpI .gtr p 1000000000) (fun e5 => .lf (i64 8)) (fun e5 => .lf (i64 0))))))))))))
theorem lmB_L (b r p : Int) : Leaves (fun l => fnX Try.prog (X8) 100000 l 32 [D.agg [i64 b, i64 r, i64 p]]) (lmB_T b r p) [] [] := by refine ⟨fun _ => ?_, fun _ => ⟨fun _ => ?_, fun _ => ⟨fun _ => ?_, fun _ => ⟨fun _ => ?_, fun _ => ⟨fun _ => ?_, fun _ => ⟨fun _ => ?_, fun _ => ?_⟩⟩⟩⟩⟩⟩ <;> (show _ = _; kernel_rfl)
theorem lmB_calls (b r p : Int) (res : D) (h0 : At (fun r => res = r) (lmB_T b r p) [true] True) (h1 : At (fun r => res = r) (lmB_T b r p) [false, true] True) (h2 : At (fun r => res = r) (lmB_T b r p) [false, false, true] True) (h3 : At (fun r => res = r) (lmB_T b r p) [false, false, false, true] True) (h4 : At (fun r => res = r) (lmB_T b r p) [false, false, false, false, true] True) (h5 : At (fun r => res = r) (lmB_T b r p) [false, false, false, false, false, true] True) (h6 : At (fun r => res = r) (lmB_T b r p) [false, false, false, false, false, false] True) : CallsD Try.prog 32 [D.agg [i64 b, i64 r, i64 p]] res := tree_calls (hX8) (lmB_L b r p) ⟨fun e0 => h0 e0, fun e0 => ⟨fun e1 => h1 e0 e1, fun e1 => ⟨fun e2 => h2 e0 e1 e2, fun e2 => ⟨fun e3 => h3 e0 e1 e2 e3, fun e3 => ⟨fun e4 => h4 e0 e1 e2 e3 e4, fun e4 => ⟨fun e5 => h5 e0 e1 e2 e3 e4 e5, fun e5 => h6 e0 e1 e2 e3 e4 e5⟩⟩⟩⟩⟩⟩
noncomputable def bkA_T (b : Int) (r : Int) (p : Int) (v : Int) (q : Int) (t : Int) : Tr D := .d (cmpI .lss b 1) (fun e0 => .p (.c 15) (.lf (i64 8))) (fun e0 => .p (.c 1) (.d (cmpI .gtr b 1000000000) (fun e1 => .p (.c 12) (.lf (i64 8))) (fun e1 => .p (.c 1) (.d (cmpI .lss r 0) (fun e2 => .p (.c 9) (.lf (i64 8))) (fun e2 => .p (.c 1) (.d (cmpI .gtr r 1000000000) (fun e3 => .p (.c 6) (.lf (i64 8))) (fun e3 => .p (.c 1) (.d (cmpI .lss p 1) (fun e4 => .p (.c 3) (.lf (i64 8))) (fun e4 => .p (.c 1) (.d (cmpI .gtr p 1000000000) (fun e5 => .p (.c 0) (.lf (i64 8))) (fun e5 => .p (.c 0) (.d (cmpI .lss v 0) (fun e6 => .p (.c 14) (.lf (i64 8))) (fun e6 => .p (.c 0) (.d (cmpI .lss (opI .sub .i64 b v) 0) (fun e7 => .p (.c 12) (.lf (i64 8))) (fun e7 => .p (.c 1) (.d (cmpI .lss q 0) (fun e8 => .p (.c 9) (.lf (i64 8))) (fun e8 => .p (.c 4) (.d (cmpI .geq q p) (fun e9 => .p (.c 3) (.lf (i64 8))) (fun e9 => .p (.c 1) (.d (cmpI .eql (opI .sub .i64 b v) 0) (fun e10 => .p (.c 2) (.d (cmpI .gtr q 0) (fun e11 => .lf (i64 8)) (fun e11 => .lf (i64 0)))) (fun e10 => .p (.c 3) (.lf (i64 0)))))))))))))))))))))))
theorem bkA_L (b r p v q t : Int) : Leaves (fun l => fnX Try.prog (X8) 100000 l 65 [D.agg [i64 b, i64 r, i64 p, i64 v, i64 q, u64 t]]) (bkA_T b r p v q t) [] [] := by refine ⟨fun _ => ?_, fun _ => ⟨fun _ => ?_, fun _ => ⟨fun _ => ?_, fun _ => ⟨fun _ => ?_, fun _ => ⟨fun _ => ?_, fun _ => ⟨fun _ => ?_, fun _ => ⟨fun _ => ?_, fun _ => ⟨fun _ => ?_, fun _ => ⟨fun _ => ?_, fun _ => ⟨fun _ => ?_, fun _ => ⟨fun _ => ⟨fun _ => ?_, fun _ => ?_⟩, fun _ => ?_⟩⟩⟩⟩⟩⟩⟩⟩⟩⟩⟩ <;> (show _ = _; kernel_rfl)
theorem bkA_calls (b r p v q t : Int) (res : D) (h0 : At (fun r => res = r) (bkA_T b r p v q t) [true] True) (h1 : At (fun r => res = r) (bkA_T b r p v q t) [false, true] True) (h2 : At (fun r => res = r) (bkA_T b r p v q t) [false, false, true] True) (h3 : At (fun r => res = r) (bkA_T b r p v q t) [false, false, false, true] True) (h4 : At (fun r => res = r) (bkA_T b r p v q t) [false, false, false, false, true] True) (h5 : At (fun r => res = r) (bkA_T b r p v q t) [false, false, false, false, false, true] True) (h6 : At (fun r => res = r) (bkA_T b r p v q t) [false, false, false, false, false, false, true] True) (h7 : At (fun r => res = r) (bkA_T b r p v q t) [false, false, false, false, false, false, false, true] True) (h8 : At (fun r => res = r) (bkA_T b r p v q t) [false, false, false, false, false, false, false, false, true] True) (h9 : At (fun r => res = r) (bkA_T b r p v q t) [false, false, false, false, false, false, false, false, false, true] True) (h10 : At (fun r => res = r) (bkA_T b r p v q t) [false, false, false, false, false, false, false, false, false, false, true, true] True) (h11 : At (fun r => res = r) (bkA_T b r p v q t) [false, false, false, false, false, false, false, false, false, false, true, false] True) (h12 : At (fun r => res = r) (bkA_T b r p v q t) [false, false, false, false, false, false, false, false, false, false, false] True) : CallsD Try.prog 65 [D.agg [i64 b, i64 r, i64 p, i64 v, i64 q, u64 t]] res := tree_calls (hX8) (bkA_L b r p v q t) ⟨fun e0 => h0 e0, fun e0 => ⟨fun e1 => h1 e0 e1, fun e1 => ⟨fun e2 => h2 e0 e1 e2, fun e2 => ⟨fun e3 => h3 e0 e1 e2 e3, fun e3 => ⟨fun e4 => h4 e0 e1 e2 e3 e4, fun e4 => ⟨fun e5 => h5 e0 e1 e2 e3 e4 e5, fun e5 => ⟨fun e6 => h6 e0 e1 e2 e3 e4 e5 e6, fun e6 => ⟨fun e7 => h7 e0 e1 e2 e3 e4 e5 e6 e7, fun e7 => ⟨fun e8 => h8 e0 e1 e2 e3 e4 e5 e6 e7 e8, fun e8 => ⟨fun e9 => h9 e0 e1 e2 e3 e4 e5 e6 e7 e8 e9, fun e9 => ⟨fun e10 => ⟨fun e11 => h10 e0 e1 e2 e3 e4 e5 e6 e7 e8 e9 e10 e11, fun e11 => h11 e0 e1 e2 e3 e4 e5 e6 e7 e8 e9 e10 e11⟩, fun e10 => h12 e0 e1 e2 e3 e4 e5 e6 e7 e8 e9 e10⟩⟩⟩⟩⟩⟩⟩⟩⟩⟩⟩
noncomputable def bkB_T (b : Int) (r : Int) (p : Int) (v : Int) (q : Int) (t : Int) : Tr D := .d (cmpI .lss b 1) (fun e0 => .p (.c 41) (.lf (i64 8))) (fun e0 => .p (.c 1) (.d (cmpI .gtr b 1000000000) (fun e1 => .p (.c 38) (.lf (i64 8))) (fun e1 => .p (.c 1) (.d (cmpI .lss r 0) (fun e2 => .p (.c 35) (.lf (i64 8))) (fun e2 => .p (.c 1) (.d (cmpI .gtr r 1000000000) (fun e3 => .p (.c 32) (.lf (i64 8))) (fun e3 => .p (.c 1) (.d (cmpI .lss p 1) (fun e4 => .p (.c 29) (.lf (i64 8))) (fun e4 => .p (.c 1) (.d (cmpI .gtr p 1000000000) (fun e5 => .p (.c 26) (.lf (i64 8))) (fun e5 => .p (.c 2) (.d (cmpI .lss v 0) (fun e6 => .p (.c 22) (.lf (i64 8))) (fun e6 => .p (.c 4) (.d (cmpI .gtr v b) (fun e7 => .p (.c 16) (.lf (i64 8))) (fun e7 => .p (.c 1) (.d (cmpI .lss q 0) (fun e8 => .p (.c 13) (.lf (i64 8))) (fun e8 => .p (.c 4) (.d (cmpI .geq q p) (fun e9 => .p (.c 7) (.lf (i64 8))) (fun e9 => .p (.c 5) (.d (cmpI .eql v b) (fun e10 => .p (.c 2) (.d (cmpI .neq q 0) (fun e11 => .lf (i64 8)) (fun e11 => .lf (i64 0)))) (fun e10 => .p (.c 3) (.lf (i64 0)))))))))))))))))))))))
theorem bkB_L (b r p v q t : Int) : Leaves (fun l => fnX Try.prog (X8) 100000 l 31 [D.agg [i64 b, i64 r, i64 p, i64 v, i64 q, u64 t]]) (bkB_T b r p v q t) [] [] := by refine ⟨fun _ => ?_, fun _ => ⟨fun _ => ?_, fun _ => ⟨fun _ => ?_, fun _ => ⟨fun _ => ?_, fun _ => ⟨fun _ => ?_, fun _ => ⟨fun _ => ?_, fun _ => ⟨fun _ => ?_, fun _ => ⟨fun _ => ?_, fun _ => ⟨fun _ => ?_, fun _ => ⟨fun _ => ?_, fun _ => ⟨fun _ => ⟨fun _ => ?_, fun _ => ?_⟩, fun _ => ?_⟩⟩⟩⟩⟩⟩⟩⟩⟩⟩⟩ <;> (show _ = _; kernel_rfl)
theorem bkB_calls (b r p v q t : Int) (res : D) (h0 : At (fun r => res = r) (bkB_T b r p v q t) [true] True) (h1 : At (fun r => res = r) (bkB_T b r p v q t) [false, true] True) (h2 : At (fun r => res = r) (bkB_T b r p v q t) [false, false, true] True) (h3 : At (fun r => res = r) (bkB_T b r p v q t) [false, false, false, true] True) (h4 : At (fun r => res = r) (bkB_T b r p v q t) [false, false, false, false, true] True) (h5 : At (fun r => res = r) (bkB_T b r p v q t) [false, false, false, false, false, true] True) (h6 : At (fun r => res = r) (bkB_T b r p v q t) [false, false, false, false, false, false, true] True) (h7 : At (fun r => res = r) (bkB_T b r p v q t) [false, false, false, false, false, false, false, true] True) (h8 : At (fun r => res = r) (bkB_T b r p v q t) [false, false, false, false, false, false, false, false, true] True) (h9 : At (fun r => res = r) (bkB_T b r p v q t) [false, false, false, false, false, false, false, false, false, true] True) (h10 : At (fun r => res = r) (bkB_T b r p v q t) [false, false, false, false, false, false, false, false, false, false, true, true] True) (h11 : At (fun r => res = r) (bkB_T b r p v q t) [false, false, false, false, false, false, false, false, false, false, true, false] True) (h12 : At (fun r => res = r) (bkB_T b r p v q t) [false, false, false, false, false, false, false, false, false, false, false] True) : CallsD Try.prog 31 [D.agg [i64 b, i64 r, i64 p, i64 v, i64 q, u64 t]] res := tree_calls (hX8) (bkB_L b r p v q t) ⟨fun e0 => h0 e0, fun e0 => ⟨fun e1 => h1 e0 e1, fun e1 => ⟨fun e2 => h2 e0 e1 e2, fun e2 => ⟨fun e3 => h3 e0 e1 e2 e3, fun e3 => ⟨fun e4 => h4 e0 e1 e2 e3 e4, fun e4 => ⟨fun e5 => h5 e0 e1 e2 e3 e4 e5, fun e5 => ⟨fun e6 => h6 e0 e1 e2 e3 e4 e5 e6, fun e6 => ⟨fun e7 => h7 e0 e1 e2 e3 e4 e5 e6 e7, fun e7 => ⟨fun e8 => h8 e0 e1 e2 e3 e4 e5 e6 e7 e8, fun e8 => ⟨fun e9 => h9 e0 e1 e2 e3 e4 e5 e6 e7 e8 e9, fun e9 => ⟨fun e10 => ⟨fun e11 => h10 e0 e1 e2 e3 e4 e5 e6 e7 e8 e9 e10 e11, fun e11 => h11 e0 e1 e2 e3 e4 e5 e6 e7 e8 e9 e10 e11⟩, fun e10 => h12 e0 e1 e2 e3 e4 e5 e6 e7 e8 e9 e10⟩⟩⟩⟩⟩⟩⟩⟩⟩⟩⟩
noncomputable def fd_T (kx : List Int) (px : List Int) (ux : List Bool) (k : Int) : Tr D := .s (okI kx) (.d (cmpI .neq (pcV kx px ux) 0) (fun e0 => .lf (D.tup [i64 0, i64 (pcV kx px ux)])) (fun e0 => .s (lkS kx ux k) (.s (decide ((lkI kx ux k : Int) < (kx.length : Int)) = true) (.s (decide ((0 : Int) ≤ (lkI kx ux k : Int)) = true) (.d (!ux.getD (lkI kx ux k : Int).toNat false) (fun e1 => .lf (D.tup [i64 0, i64 6])) (fun e1 => .s (decide ((lkI kx ux k : Int) < (kx.length : Int)) = true) (.s (decide ((0 : Int) ≤ (lkI kx ux k : Int)) = true) (.lf (D.tup [i64 (px.getD (lkI kx ux k : Int).toNat 0), i64 0])))))))))
theorem fd_L (kx px : List Int) (ux : List Bool) (k : Int) : Leaves (fun l => fnX Try.prog (X8) 100000 l 64 [cc kx px ux, u32 k]) (fd_T kx px ux k) [] [] := by refine ⟨fun _ => ?_, fun _ => ⟨fun _ => ?_, fun _ => ?_⟩⟩ <;> (show _ = _; kernel_rfl)
theorem fd_calls (kx px : List Int) (ux : List Bool) (k : Int) (res : D) (h0 : At (fun r => res = r) (fd_T kx px ux k) [true] True) (h1 : At (fun r => res = r) (fd_T kx px ux k) [false, true] True) (h2 : At (fun r => res = r) (fd_T kx px ux k) [false, false] True) : CallsD Try.prog 64 [cc kx px ux, u32 k] res := tree_calls (hX8) (fd_L kx px ux k) ⟨fun e0 => h0 e0, fun e0 => ⟨fun e1 => h1 e0 e1, fun e1 => h2 e0 e1⟩⟩
noncomputable def gr13_T (nx : List Int) (us : List Bool) (f : Int) : Tr D := .d (cmpI .gtr (nx.length : Int) 100) (fun e0 => .p (.c 2) (.lf (bo true))) (fun e0 => .p (.c 2) (.lf (D.v (Value.bool (cmpI .gtr (us.length : Int) 100)))))
theorem gr13_L (nx : List Int) (us : List Bool) (f : Int) : Leaves (fun l => fnX Try.prog (X8) 100000 l 34 [D.agg [ri nx, rb us, i64 f]]) (gr13_T nx us f) [] [] := by refine ⟨fun _ => ?_, fun _ => ?_⟩ <;> (show _ = _; kernel_rfl)
theorem gr13_calls (nx : List Int) (us : List Bool) (f : Int) (res : D) (h0 : At (fun r => res = r) (gr13_T nx us f) [true] True) (h1 : At (fun r => res = r) (gr13_T nx us f) [false] True) : CallsD Try.prog 34 [D.agg [ri nx, rb us, i64 f]] res := tree_calls (hX8) (gr13_L nx us f) ⟨fun e0 => h0 e0, fun e0 => h1 e0⟩
noncomputable def gr15_T (ps : List Int) (nx : List Int) (h : Int) (t : Int) : Tr D := .d (cmpI .gtr (ps.length : Int) 100) (fun e0 => .p (.c 2) (.lf (bo true))) (fun e0 => .p (.c 2) (.lf (D.v (Value.bool (cmpI .gtr (nx.length : Int) 100)))))
theorem gr15_L (ps nx : List Int) (h t : Int) : Leaves (fun l => fnX Try.prog (X8) 100000 l 35 [D.agg [ri ps, ri nx, i64 h, i64 t]]) (gr15_T ps nx h t) [] [] := by refine ⟨fun _ => ?_, fun _ => ?_⟩ <;> (show _ = _; kernel_rfl)
theorem gr15_calls (ps nx : List Int) (h t : Int) (res : D) (h0 : At (fun r => res = r) (gr15_T ps nx h t) [true] True) (h1 : At (fun r => res = r) (gr15_T ps nx h t) [false] True) : CallsD Try.prog 35 [D.agg [ri ps, ri nx, i64 h, i64 t]] res := tree_calls (hX8) (gr15_L ps nx h t) ⟨fun e0 => h0 e0, fun e0 => h1 e0⟩
/-- The error of a limit; of a bucket. -/
def limV (b r p : Int) : Int := if 1 ≤ b ∧ b ≤ 1000000000 ∧ 0 ≤ r ∧ r ≤ 1000000000 ∧ 1 ≤ p ∧ p ≤ 1000000000 then 0 else 8
def bkV (b r p v q : Int) : Int := if 1 ≤ b ∧ b ≤ 1000000000 ∧ 0 ≤ r ∧ r ≤ 1000000000 ∧ 1 ≤ p ∧ p ≤ 1000000000 ∧ 0 ≤ v ∧ v ≤ b ∧ 0 ≤ q ∧ q < p ∧ ¬ (v = b ∧ 0 < q) then 0 else 8
theorem lmA_ok (b r p : Int) : CallsD Try.prog 73 [.agg [i64 b, i64 r, i64 p]] (i64 (limV b r p)) := by
 refine lmA_calls b r p _ ?_ ?_ ?_ ?_ ?_ ?_ ?_ <;> dsimp only [At, Tr.q, lmA_T]
 all_goals
  intros
  simp only [lss_t, lss_f, gtr_t, gtr_f, geq_t, geq_f, eql_t, eql_f, neq_t, neq_f] at *
  refine ⟨trivial, ?_⟩
  unfold limV
  simp only [D.v.injEq, Value.int.injEq, true_and]
  split <;> omega
theorem lmB_ok (b r p : Int) : CallsD Try.prog 32 [.agg [i64 b, i64 r, i64 p]] (i64 (limV b r p)) := by
 refine lmB_calls b r p _ ?_ ?_ ?_ ?_ ?_ ?_ ?_ <;> dsimp only [At, Tr.q, lmB_T]
 all_goals
  intros
  simp only [lss_t, lss_f, gtr_t, gtr_f, geq_t, geq_f, eql_t, eql_f, neq_t, neq_f] at *
  refine ⟨trivial, ?_⟩
  unfold limV
  simp only [D.v.injEq, Value.int.injEq, true_and]
  split <;> omega
def in64 (v : Int) : Prop := -9223372036854775808 ≤ v ∧ v < 9223372036854775808
theorem bkA_ok (b r p v q t : Int) (hv : in64 v) : CallsD Try.prog 65 [.agg [i64 b, i64 r, i64 p, i64 v, i64 q, u64 t]] (i64 (bkV b r p v q)) := by
 obtain ⟨v0, v1⟩ := hv
 have hs : 1 ≤ b → b ≤ 1000000000 → 0 ≤ v → opI .sub .i64 b v = b - v := fun a c d => by
  rw [opI_sub, wrap_i64_of (by omega) (by omega)]
 refine bkA_calls b r p v q t _ ?_ ?_ ?_ ?_ ?_ ?_ ?_ ?_ ?_ ?_ ?_ ?_ ?_ <;> dsimp only [At, Tr.q, bkA_T]
 all_goals
  intros
  simp only [lss_t, lss_f, gtr_t, gtr_f, geq_t, geq_f, eql_t, eql_f, neq_t, neq_f] at *
  refine ⟨trivial, ?_⟩
  unfold bkV
  simp only [D.v.injEq, Value.int.injEq, true_and]
  split <;> omega
theorem bkB_ok (b r p v q t : Int) : CallsD Try.prog 31 [.agg [i64 b, i64 r, i64 p, i64 v, i64 q, u64 t]] (i64 (bkV b r p v q)) := by
 refine bkB_calls b r p v q t _ ?_ ?_ ?_ ?_ ?_ ?_ ?_ ?_ ?_ ?_ ?_ ?_ ?_ <;> dsimp only [At, Tr.q, bkB_T]
 all_goals
  intros
  simp only [lss_t, lss_f, gtr_t, gtr_f, geq_t, geq_f, eql_t, eql_f, neq_t, neq_f] at *
  refine ⟨trivial, ?_⟩
  unfold bkV
  simp only [D.v.injEq, Value.int.injEq, true_and]
  split <;> omega
/-- What is found: the place, the error. -/
def fdI (kx px : List Int) (ux : List Bool) (k : Int) : Int := if pcV kx px ux = 0 then (if ux.getD (lkI kx ux k) false = true then px.getD (lkI kx ux k) 0 else 0) else 0
def fdE (kx px : List Int) (ux : List Bool) (k : Int) : Int := if pcV kx px ux = 0 then (if ux.getD (lkI kx ux k) false = true then 0 else 6) else 8
theorem pcV_two (kx px : List Int) (ux : List Bool) : pcV kx px ux = 0 ∨ pcV kx px ux = 8 := by unfold pcV; split <;> (try split) <;> simp
theorem pcV_is {kx px : List Int} {ux : List Bool} (h : pcV kx px ux = 0) : kx.length = 16 ∧ ctN 16 ux ≤ 12 ∧ ∀ i, i < 16 → pcBad kx px ux i = false := by
 unfold pcV at h; split at h
 next c =>
  split at h
  next d => exact ⟨c.1, c.2, fun i hi => (findI_lt 16 0).1 d i (by omega) (by omega)⟩
  next => cases h
 next => cases h
theorem lkI_lt {kx : List Int} (ux : List Bool) {k : Int} (h : inU k) : lkI kx ux k < 16 := by
 have hh := homeN_lt h
 exact (lkW_lt (xs := kx) (zs := ux) (k := k) 16 (homeN k).toNat 0 (by omega)).1
theorem fd_ok (kx px : List Int) (ux : List Bool) (k : Int) (h : okI kx ∧ inU k) : CallsD Try.prog 64 [cc kx px ux, u32 k] (.tup [i64 (fdI kx px ux k), i64 (fdE kx px ux k)]) := by
 obtain ⟨h, hk⟩ := h
 have hp := pcV_two kx px ux
 have hlt := lkI_lt (kx := kx) ux hk
 have side : pcV kx px ux = 0 → lkS kx ux k ∧ kx.length = 16 := fun e => by
  obtain ⟨c1, c2, _⟩ := pcV_is e
  exact ⟨⟨c1, hk, ctN_free (by omega)⟩, c1⟩
 refine fd_calls kx px ux k _ ?_ ?_ ?_ <;> dsimp only [At, Tr.q, fd_T]
 ·intro g; rw [neq_t] at g
  refine ⟨⟨h, trivial⟩, ?_⟩
  unfold fdI fdE; rw [if_neg g, if_neg g]
  have : pcV kx px ux = 8 := by omega
  rw [this]
 ·intro g g2
  rw [neq_f] at g
  obtain ⟨s1, s2⟩ := side g
  have b := natLt (n := kx.length) (i := lkI kx ux k) (by omega)
  refine ⟨⟨b.1, b.2, s1, h, trivial⟩, ?_⟩
  rw [Int.toNat_natCast] at g2
  have g3 : ux.getD (lkI kx ux k) false = false := by simpa using g2
  unfold fdI fdE; rw [if_pos g, if_pos g, g3]; rfl
 ·intro g g2
  rw [neq_f] at g
  obtain ⟨s1, s2⟩ := side g
  have b := natLt (n := kx.length) (i := lkI kx ux k) (by omega)
  refine ⟨⟨b.1, b.2, b.1, b.2, s1, h, trivial⟩, ?_⟩
  rw [Int.toNat_natCast] at g2
  have g3 : ux.getD (lkI kx ux k) false = true := by simpa using g2
  unfold fdI fdE; rw [if_pos g, if_pos g, if_pos g3, if_pos g3, Int.toNat_natCast]
def gr2 (n m : Nat) : Bool := decide (100 < n) || decide (100 < m)
theorem gtr100 (n : Nat) : cmpI .gtr (n : Int) 100 = decide (100 < n) := by
 rw [Bool.eq_iff_iff, gtr_t, decide_eq_true_eq]; omega
theorem gr13_ok (nx : List Int) (us : List Bool) (f : Int) : CallsD Try.prog 34 [.agg [ri nx, rb us, i64 f]] (bo (gr2 nx.length us.length)) := by
 refine gr13_calls nx us f _ ?_ ?_ <;> dsimp only [At, Tr.q, gr13_T]
 ·intro g; rw [gtr100] at g; exact ⟨trivial, by unfold gr2; rw [g]; rfl⟩
 ·intro g; rw [gtr100] at g; exact ⟨trivial, by unfold gr2; rw [gtr100, g]; rfl⟩
theorem gr15_ok (ps nx : List Int) (h t : Int) : CallsD Try.prog 35 [.agg [ri ps, ri nx, i64 h, i64 t]] (bo (gr2 ps.length nx.length)) := by
 refine gr15_calls ps nx h t _ ?_ ?_ <;> dsimp only [At, Tr.q, gr15_T]
 ·intro g; rw [gtr100] at g; exact ⟨trivial, by unfold gr2; rw [g]; rfl⟩
 ·intro g; rw [gtr100] at g; exact ⟨trivial, by unfold gr2; rw [gtr100, g]; rfl⟩
def lmC : List D → Option (D × List Prop)
 | [.agg [.v (.int .i64 b), .v (.int .i64 r), .v (.int .i64 p)]] => some (i64 (limV b r p), [])
 | _ => none
theorem lmC_okA (args res l) (h : lmC args = some (res, l)) (hl : AllP l) : CallsD Try.prog 73 args res := by
 unfold lmC at h; split at h
 ·simp only [Option.some.injEq, Prod.mk.injEq] at h
  obtain ⟨rfl, rfl⟩ := h
  exact lmA_ok _ _ _
 ·cases h
theorem lmC_okB (args res l) (h : lmC args = some (res, l)) (hl : AllP l) : CallsD Try.prog 32 args res := by
 unfold lmC at h; split at h
 ·simp only [Option.some.injEq, Prod.mk.injEq] at h
  obtain ⟨rfl, rfl⟩ := h
  exact lmB_ok _ _ _
 ·cases h
def bkC : List D → Option (D × List Prop)
 | [.agg [.v (.int .i64 b), .v (.int .i64 r), .v (.int .i64 p), .v (.int .i64 v), .v (.int .i64 q), .v (.int .u64 t)]] => some (i64 (bkV b r p v q), [in64 v])
 | _ => none
theorem bkC_ok (args res l) (h : bkC args = some (res, l)) (hl : AllP l) : CallsD Try.prog 65 args res := by
 unfold bkC at h; split at h
 ·simp only [Option.some.injEq, Prod.mk.injEq] at h
  obtain ⟨rfl, rfl⟩ := h; obtain ⟨h0, _⟩ := hl
  exact bkA_ok _ _ _ _ _ _ h0
 ·cases h
def bkD : List D → Option (D × List Prop)
 | [.agg [.v (.int .i64 b), .v (.int .i64 r), .v (.int .i64 p), .v (.int .i64 v), .v (.int .i64 q), .v (.int .u64 t)]] => some (i64 (bkV b r p v q), [])
 | _ => none
theorem bkD_ok (args res l) (h : bkD args = some (res, l)) (hl : AllP l) : CallsD Try.prog 31 args res := by
 unfold bkD at h; split at h
 ·simp only [Option.some.injEq, Prod.mk.injEq] at h
  obtain ⟨rfl, rfl⟩ := h
  exact bkB_ok _ _ _ _ _ _
 ·cases h
def fdC : List D → Option (D × List Prop)
 | [.rc [.ints .u32 kx, .ints .i64 px, .bools ux], .v (.int .u32 k)] => some ((.tup [i64 (fdI kx px ux k), i64 (fdE kx px ux k)]), [okI kx ∧ inU k])
 | _ => none
theorem fdC_ok (args res l) (h : fdC args = some (res, l)) (hl : AllP l) : CallsD Try.prog 64 args res := by
 unfold fdC at h; split at h
 ·simp only [Option.some.injEq, Prod.mk.injEq] at h
  obtain ⟨rfl, rfl⟩ := h; obtain ⟨h0, _⟩ := hl
  exact fd_ok _ _ _ _ h0
 ·cases h
def gr13C : List D → Option (D × List Prop)
 | [.agg [.rc [.ints .i64 nx], .rc [.bools us], .v (.int .i64 f)]] => some (bo (gr2 nx.length us.length), [])
 | _ => none
theorem gr13C_ok (args res l) (h : gr13C args = some (res, l)) (hl : AllP l) : CallsD Try.prog 34 args res := by
 unfold gr13C at h; split at h
 ·simp only [Option.some.injEq, Prod.mk.injEq] at h
  obtain ⟨rfl, rfl⟩ := h
  exact gr13_ok _ _ _
 ·cases h
def gr15C : List D → Option (D × List Prop)
 | [.agg [.rc [.ints .i64 ps], .rc [.ints .i64 nx], .v (.int .i64 h), .v (.int .i64 t)]] => some (bo (gr2 ps.length nx.length), [])
 | _ => none
theorem gr15C_ok (args res l) (h : gr15C args = some (res, l)) (hl : AllP l) : CallsD Try.prog 35 args res := by
 unfold gr15C at h; split at h
 ·simp only [Option.some.injEq, Prod.mk.injEq] at h
  obtain ⟨rfl, rfl⟩ := h
  exact gr15_ok _ _ _ _
 ·cases h
def X9 : Contracts := addCon 73 (.call lmC) (addCon 32 (.call lmC) (addCon 65 (.call bkC) (addCon 31 (.call bkD) (addCon 64 (.call fdC) (addCon 34 (.call gr13C) (addCon 35 (.call gr15C) X8))))))
theorem hX9 : ConOK Try.prog X9 := addCall_ok lmC_okA (addCall_ok lmC_okB (addCall_ok bkC_ok (addCall_ok bkD_ok (addCall_ok fdC_ok (addCall_ok gr13C_ok (addCall_ok gr15C_ok hX8))))))
abbrev kr (x1 x2 x3 x4 x5 x6 : List Int) : D := .rc [.ints .i64 x1, .ints .i64 x2, .ints .i64 x3, .ints .i64 x4, .ints .i64 x5, .ints .u64 x6]
/-- A table, laid out. -/
abbrev tbD (n : Int) (ks x1 x2 x3 x4 x5 x6 nx : List Int) (us : List Bool) (fr : Int) (kx px : List Int) (ux : List Bool) (ps no : List Int) (h t : Int) : D := .agg [i64 n, ru ks, kr x1 x2 x3 x4 x5 x6, ri nx, rb us, i64 fr, cc kx px ux, ri ps, ri no, i64 h, i64 t]
end TableS
end

section
namespace TableS
open Go Go.Dam Go.Proofs
set_option maxRecDepth 1000000
/-- A table: what it holds. -/
structure Tb where
 n : Int
 ks : List Int
 x1 : List Int
 x2 : List Int
 x3 : List Int
 x4 : List Int
 x5 : List Int
 x6 : List Int
 nx : List Int
 us : List Bool
 fr : Int
 kx : List Int
 px : List Int
 ux : List Bool
 ps : List Int
 no : List Int
 h : Int
 t : Int
abbrev Tb.d (T : Tb) : D := tbD T.n T.ks T.x1 T.x2 T.x3 T.x4 T.x5 T.x6 T.nx T.us T.fr T.kx T.px T.ux T.ps T.no T.h T.t
noncomputable def Tb.b (T : Tb) : BX := BX.cells [i64 T.n, ru T.ks, kr T.x1 T.x2 T.x3 T.x4 T.x5 T.x6, ri T.nx, rb T.us, i64 T.fr, cc T.kx T.px T.ux, ri T.ps, ri T.no, i64 T.h, i64 T.t] false
noncomputable def t17T (T : Tb) (o u : Int) (m : Nat) (g i : Int) (l : List Int) : Cs := ⟨TT.of [(1, D.ptr 32 0), (2, i64 o), (5, D.sl 1952 0 m ⟨1, 0⟩), (7, i64 u), (68, rb T.us), (69, i64 g), (70, i64 i)], 147, [], [(32, T.b), (1952, BX.row [.ints .i64 l] false)], none, 0⟩
noncomputable def t18T (T : Tb) (o : Int) (m : Nat) (i : Int) (l : List Int) : Cs := ⟨TT.of [(1, D.ptr 32 0), (2, i64 o), (3, D.sl 2208 0 m ⟨1, 0⟩), (5, i64 i)], 160, [], [(32, T.b), (2208, BX.row [.ints .i64 l] false)], none, 0⟩
noncomputable def t17U (T : Tb) (o u g i : Int) : Cs := ⟨TT.of [(2, i64 o), (7, i64 u), (134, cc T.kx T.px T.ux), (135, i64 g), (136, i64 i)], 147, [], [], none, 0⟩
end TableS
end

section
namespace TableS
open Go Go.Dam Go.Proofs
set_option maxRecDepth 1000000
noncomputable def t17L_c0 (T : Tb) (u : Int) (m : Nat) (g i : Int) (l : List Int) := t17T T (8) (opI .add .i64 u 1) (m) (g) (i) (l)
noncomputable def t17L_c1 (T : Tb) (i : Int) := cmpI .neq (fdE T.kx T.px T.ux (T.ks.getD i.toNat 0)) 0
noncomputable def t17L_c2 (T : Tb) (i : Int) := cmpI .neq (fdI T.kx T.px T.ux (T.ks.getD i.toNat 0)) i
noncomputable def t17L_c3 (T : Tb) (i : Int) := T.x2.getD i.toNat 0 == 0 && (T.x3.getD i.toNat 0 == 0 && true)
noncomputable def t17L_c4 (T : Tb) (i : Int) := T.x5.getD i.toNat 0 == 0 && (T.x6.getD i.toNat 0 == 0 && true)
noncomputable def t17L_c5 (T : Tb) (i : Int) := T.x1.getD i.toNat 0 == 0 && (t17L_c3 T i) && (T.x4.getD i.toNat 0 == 0 && (t17L_c4 T i))
noncomputable def t17L_c6 (T : Tb) (i : Int) := bkV (T.x1.getD i.toNat 0) (T.x2.getD i.toNat 0) (T.x3.getD i.toNat 0) (T.x4.getD i.toNat 0) (T.x5.getD i.toNat 0)
noncomputable def t17L_T (T : Tb) (o : Int) (u : Int) (m : Nat) (g : Int) (i : Int) (l : List Int) : Tr (Ex × Cs) := .d (cmpI .lss i g) (fun e0 => .s (decide (i < (T.us.length : Int)) = true) (.s (decide (0 ≤ i) = true) (.s (l.length ≤ 200) (.s (m = l.length) (.d (!T.us.getD i.toNat false == inB l i) (fun e1 => .p (.c 3) (.lf (Ex.ret, (t17T T (8) (u) (m) (g) (i) (l))))) (fun e1 => .p (.c 1) (.d (!T.us.getD i.toNat false) (fun e2 => .p (.c 5) (.s (decide (i < (T.ks.length : Int)) = true) (.s (decide (0 ≤ i) = true) (.d (cmpI .neq (T.ks.getD i.toNat 0) 0) (fun e3 => .p (.c 8) (.lf (Ex.ret, (t17T T (8) (u) (m) (g) (i) (l))))) (fun e3 => .p (.c 7) (.s (decide (i < (T.x1.length : Int)) = true) (.s (decide (0 ≤ i) = true) (.d (!(t17L_c5 T i)) (fun e4 => .lf (Ex.ret, (t17T T (8) (u) (m) (g) (i) (l)))) (fun e4 => .p (.d true) (.k _ e2 (.lf (Ex.normal, (t17T T (o) (u) (m) (g) (opI .add .i64 i 1) (l)))))))))))))) (fun e2 => .p (.c 8) (.p (.d false) (.k _ e2 (.s (decide (i < (T.ks.length : Int)) = true) (.s (decide (0 ≤ i) = true) (.s (okI T.kx ∧ inU (T.ks.getD i.toNat 0)) (.d (t17L_c1 T i) (fun e3 => .p (.c 9) (.lf (Ex.ret, (t17L_c0 T u m g i l)))) (fun e3 => .p (.c 1) (.d (t17L_c2 T i) (fun e4 => .p (.c 6) (.lf (Ex.ret, (t17L_c0 T u m g i l)))) (fun e4 => .p (.c 5) (.s (decide (i < (T.x1.length : Int)) = true) (.s (decide (0 ≤ i) = true) (.s (in64 (T.x4.getD i.toNat 0)) (.d (cmpI .neq (t17L_c6 T i) 0) (fun e5 => .lf (Ex.ret, (t17L_c0 T u m g i l))) (fun e5 => .lf (Ex.normal, (t17T T (o) (opI .add .i64 u 1) (m) (g) (opI .add .i64 i 1) (l))))))))))))))))))))))))) (fun e0 => .lf (Ex.exit 0, (t17T T (o) (u) (m) (g) (i) (l))))
theorem t17L_L (T : Tb) (o u : Int) (m : Nat) (g i : Int) (l : List Int) : Leaves (roundT Try.prog (X9) 100000 (loopAt Try.prog 17 0) [[1, 2, 5, 7, 68, 69, 70]] [(32, 32), (1952, 1952)] (t17T T o u m g i l)) (t17L_T T o u m g i l) [] [] := by refine ⟨fun _ => ⟨fun _ => ?_, fun _ => ⟨fun _ => ⟨fun _ => ?_, fun _ => ⟨fun _ => ?_, fun _ => ?_⟩⟩, fun _ => ⟨fun _ => ?_, fun _ => ⟨fun _ => ?_, fun _ => ⟨fun _ => ?_, fun _ => ?_⟩⟩⟩⟩⟩, fun _ => ?_⟩ <;> (show _ = _; kernel_rfl)
theorem t17L_step (T : Tb) (o : Int) (u : Int) (m : Nat) (g : Int) (i : Int) (l : List Int) (σ : St) (e : Ex) (h0 : At (RG Try.prog (loopAt Try.prog 17 0) e σ) (t17L_T T o u m g i l) [true, true] True) (h1 : At (RG Try.prog (loopAt Try.prog 17 0) e σ) (t17L_T T o u m g i l) [true, false, true, true] True) (h2 : At (RG Try.prog (loopAt Try.prog 17 0) e σ) (t17L_T T o u m g i l) [true, false, true, false, true] True) (h3 : At (RG Try.prog (loopAt Try.prog 17 0) e σ) (t17L_T T o u m g i l) [true, false, true, false, false] True) (h4 : At (RG Try.prog (loopAt Try.prog 17 0) e σ) (t17L_T T o u m g i l) [true, false, false, true] True) (h5 : At (RG Try.prog (loopAt Try.prog 17 0) e σ) (t17L_T T o u m g i l) [true, false, false, false, true] True) (h6 : At (RG Try.prog (loopAt Try.prog 17 0) e σ) (t17L_T T o u m g i l) [true, false, false, false, false, true] True) (h7 : At (RG Try.prog (loopAt Try.prog 17 0) e σ) (t17L_T T o u m g i l) [true, false, false, false, false, false] True) (h8 : At (RG Try.prog (loopAt Try.prog 17 0) e σ) (t17L_T T o u m g i l) [false] True) : Runs Try.prog (CallsD Try.prog) (.rounds (loopAt Try.prog 17 0)) (t17T T o u m g i l).abs e σ := tree_rounds (hX9) (t17L_L T o u m g i l) ⟨fun e0 => ⟨fun e1 => h0 e0 e1, fun e1 => ⟨fun e2 => ⟨fun e3 => h1 e0 e1 e2 e3, fun e3 => ⟨fun e4 => h2 e0 e1 e2 e3 e4, fun e4 => h3 e0 e1 e2 e3 e4⟩⟩, fun e2 => ⟨fun e3 => h4 e0 e1 e2 e3, fun e3 => ⟨fun e4 => h5 e0 e1 e2 e3 e4, fun e4 => ⟨fun e5 => h6 e0 e1 e2 e3 e4 e5, fun e5 => h7 e0 e1 e2 e3 e4 e5⟩⟩⟩⟩⟩, fun e0 => h8 e0⟩
noncomputable def t17M_T (T : Tb) (o : Int) (u : Int) (g : Int) (i : Int) : Tr (Ex × Cs) := .d (cmpI .lss i g) (fun e0 => .s (decide (i < (T.kx.length : Int)) = true) (.s (decide (0 ≤ i) = true) (.d (T.ux.getD i.toNat false) (fun e1 => .lf (Ex.normal, (t17U T (o) (opI .sub .i64 u 1) (g) (opI .add .i64 i 1)))) (fun e1 => .lf (Ex.normal, (t17U T (o) (u) (g) (opI .add .i64 i 1))))))) (fun e0 => .lf (Ex.exit 2, (t17U T (o) (u) (g) (i))))
theorem t17M_L (T : Tb) (o u g i : Int) : Leaves (roundT Try.prog (X9) 100000 (loopAt Try.prog 17 1) [[2, 7, 134, 135, 136]] [] (t17U T o u g i)) (t17M_T T o u g i) [] [] := by refine ⟨fun _ => ⟨fun _ => ?_, fun _ => ?_⟩, fun _ => ?_⟩ <;> (show _ = _; kernel_rfl)
theorem t17M_step (T : Tb) (o : Int) (u : Int) (g : Int) (i : Int) (σ : St) (e : Ex) (h0 : At (RG Try.prog (loopAt Try.prog 17 1) e σ) (t17M_T T o u g i) [true, true] True) (h1 : At (RG Try.prog (loopAt Try.prog 17 1) e σ) (t17M_T T o u g i) [true, false] True) (h2 : At (RG Try.prog (loopAt Try.prog 17 1) e σ) (t17M_T T o u g i) [false] True) : Runs Try.prog (CallsD Try.prog) (.rounds (loopAt Try.prog 17 1)) (t17U T o u g i).abs e σ := tree_rounds (hX9) (t17M_L T o u g i) ⟨fun e0 => ⟨fun e1 => h0 e0 e1, fun e1 => h1 e0 e1⟩, fun e0 => h2 e0⟩
noncomputable def t17F_T (T : Tb) (u : Int) (v : Int) : Tr D := .d (cmpI .lss T.n 1) (fun e0 => .p (.c 16) (.lf (i64 8))) (fun e0 => .p (.c 0) (.d (cmpI .gtr T.n 8) (fun e1 => .p (.c 14) (.lf (i64 8))) (fun e1 => .p (.c 5) (.d (!((T.ks.length : Int) == T.n && ((T.x1.length : Int) == T.n && ((T.nx.length : Int) == T.n && ((T.ps.length : Int) == T.n && true))))) (fun e2 => .p (.c 7) (.lf (i64 8))) (fun e2 => .p (.c 2) (.s (T.us.length ≤ 200) (.d (cmpI .neq (akV T.nx T.us T.fr) 0) (fun e3 => .p (.c 3) (.lf (i64 8))) (fun e3 => .p (.c 2) (.s (okI T.kx) (.d (cmpI .neq (pcV T.kx T.px T.ux) 0) (fun e4 => .lf (i64 8)) (fun e4 => .d (cmpI .neq (lcV T.ps T.no T.h T.t) 0) (fun e5 => .lf (i64 8)) (fun e5 => .p (.l [[1, 2, 5, 7, 68, 69, 70]] [(32, 32), (1952, 1952)] (t17T T 0 0 ((llL T.ps T.no T.h T.t).length) ((T.us.length : Int)) 0 (llL T.ps T.no T.h T.t)) (Ex.exit 0) (t17T T 0 u ((llL T.ps T.no T.h T.t).length) ((T.us.length : Int)) ((T.us.length : Int)) (llL T.ps T.no T.h T.t))) (.p (.l [[2, 7, 134, 135, 136]] [] (t17U T 0 u ((T.kx.length : Int)) 0) (Ex.exit 2) (t17U T 0 v (T.kx.length : Int) (T.kx.length : Int))) (.s (Runs Try.prog (CallsD Try.prog) (.code (.loop (loopAt Try.prog 17 0))) (t17T T 0 0 ((llL T.ps T.no T.h T.t).length) ((T.us.length : Int)) 0 (llL T.ps T.no T.h T.t)).abs (Ex.exit 0) (t17T T 0 u ((llL T.ps T.no T.h T.t).length) ((T.us.length : Int)) ((T.us.length : Int)) (llL T.ps T.no T.h T.t)).abs) (.k ((t17T T 0 0 ((llL T.ps T.no T.h T.t).length) ((T.us.length : Int)) 0 (llL T.ps T.no T.h T.t) = t17T T 0 0 ((llL T.ps T.no T.h T.t).length) ((T.us.length : Int)) 0 (llL T.ps T.no T.h T.t))) rfl (.s (Runs Try.prog (CallsD Try.prog) (.code (.loop (loopAt Try.prog 17 1))) (t17U T 0 u ((T.kx.length : Int)) 0).abs (Ex.exit 2) (t17U T 0 v (T.kx.length : Int) (T.kx.length : Int)).abs) (.k ((t17U T 0 u ((T.kx.length : Int)) 0 = t17U T 0 u ((T.kx.length : Int)) 0)) rfl (.d (cmpI .neq v 0) (fun e6 => .lf (i64 8)) (fun e6 => .lf (i64 0))))))))))))))))))))
theorem t17F_L (T : Tb) (u v : Int) : Leaves (fun l => fnX Try.prog (X9) 100000 l 17 [T.d]) (t17F_T T u v) [] [] := by refine ⟨fun _ => ?_, fun _ => ⟨fun _ => ?_, fun _ => ⟨fun _ => ?_, fun _ => ⟨fun _ => ?_, fun _ => ⟨fun _ => ?_, fun _ => ⟨fun _ => ?_, fun _ => ⟨fun _ => ?_, fun _ => ?_⟩⟩⟩⟩⟩⟩⟩ <;> (show _ = _; kernel_rfl)
theorem t17F_calls (T : Tb) (u v : Int) (res : D) (h0 : At (fun r => res = r) (t17F_T T u v) [true] True) (h1 : At (fun r => res = r) (t17F_T T u v) [false, true] True) (h2 : At (fun r => res = r) (t17F_T T u v) [false, false, true] True) (h3 : At (fun r => res = r) (t17F_T T u v) [false, false, false, true] True) (h4 : At (fun r => res = r) (t17F_T T u v) [false, false, false, false, true] True) (h5 : At (fun r => res = r) (t17F_T T u v) [false, false, false, false, false, true] True) (h6 : At (fun r => res = r) (t17F_T T u v) [false, false, false, false, false, false, true] True) (h7 : At (fun r => res = r) (t17F_T T u v) [false, false, false, false, false, false, false] True) : CallsD Try.prog 17 [T.d] res := tree_calls (hX9) (t17F_L T u v) ⟨fun e0 => h0 e0, fun e0 => ⟨fun e1 => h1 e0 e1, fun e1 => ⟨fun e2 => h2 e0 e1 e2, fun e2 => ⟨fun e3 => h3 e0 e1 e2 e3, fun e3 => ⟨fun e4 => h4 e0 e1 e2 e3 e4, fun e4 => ⟨fun e5 => h5 e0 e1 e2 e3 e4 e5, fun e5 => ⟨fun e6 => h6 e0 e1 e2 e3 e4 e5 e6, fun e6 => h7 e0 e1 e2 e3 e4 e5 e6⟩⟩⟩⟩⟩⟩⟩
noncomputable def t17R_T (T : Tb) (o : Int) (u : Int) (i : Int) : Tr D := .d (cmpI .lss T.n 1) (fun e0 => .p (.c 16) (.lf (i64 8))) (fun e0 => .p (.c 0) (.d (cmpI .gtr T.n 8) (fun e1 => .p (.c 14) (.lf (i64 8))) (fun e1 => .p (.c 5) (.d (!((T.ks.length : Int) == T.n && ((T.x1.length : Int) == T.n && ((T.nx.length : Int) == T.n && ((T.ps.length : Int) == T.n && true))))) (fun e2 => .p (.c 7) (.lf (i64 8))) (fun e2 => .p (.c 2) (.s (T.us.length ≤ 200) (.d (cmpI .neq (akV T.nx T.us T.fr) 0) (fun e3 => .p (.c 3) (.lf (i64 8))) (fun e3 => .p (.c 2) (.s (okI T.kx) (.d (cmpI .neq (pcV T.kx T.px T.ux) 0) (fun e4 => .lf (i64 8)) (fun e4 => .d (cmpI .neq (lcV T.ps T.no T.h T.t) 0) (fun e5 => .lf (i64 8)) (fun e5 => .p (.l [[1, 2, 5, 7, 68, 69, 70]] [(32, 32), (1952, 1952)] (t17T T 0 0 ((llL T.ps T.no T.h T.t).length) ((T.us.length : Int)) 0 (llL T.ps T.no T.h T.t)) Ex.ret (t17T T o u ((llL T.ps T.no T.h T.t).length) ((T.us.length : Int)) i (llL T.ps T.no T.h T.t))) (.s (Runs Try.prog (CallsD Try.prog) (.code (.loop (loopAt Try.prog 17 0))) (t17T T 0 0 ((llL T.ps T.no T.h T.t).length) ((T.us.length : Int)) 0 (llL T.ps T.no T.h T.t)).abs (Ex.ret) (t17T T o u ((llL T.ps T.no T.h T.t).length) ((T.us.length : Int)) i (llL T.ps T.no T.h T.t)).abs) (.k ((t17T T 0 0 ((llL T.ps T.no T.h T.t).length) ((T.us.length : Int)) 0 (llL T.ps T.no T.h T.t) = t17T T 0 0 ((llL T.ps T.no T.h T.t).length) ((T.us.length : Int)) 0 (llL T.ps T.no T.h T.t))) rfl (.lf (i64 o))))))))))))))))
theorem t17R_L (T : Tb) (o u i : Int) : Leaves (fun l => fnX Try.prog (X9) 100000 l 17 [T.d]) (t17R_T T o u i) [] [] := by refine ⟨fun _ => ?_, fun _ => ⟨fun _ => ?_, fun _ => ⟨fun _ => ?_, fun _ => ⟨fun _ => ?_, fun _ => ⟨fun _ => ?_, fun _ => ⟨fun _ => ?_, fun _ => ?_⟩⟩⟩⟩⟩⟩ <;> (show _ = _; kernel_rfl)
theorem t17R_calls (T : Tb) (o u i : Int) (res : D) (h0 : At (fun r => res = r) (t17R_T T o u i) [true] True) (h1 : At (fun r => res = r) (t17R_T T o u i) [false, true] True) (h2 : At (fun r => res = r) (t17R_T T o u i) [false, false, true] True) (h3 : At (fun r => res = r) (t17R_T T o u i) [false, false, false, true] True) (h4 : At (fun r => res = r) (t17R_T T o u i) [false, false, false, false, true] True) (h5 : At (fun r => res = r) (t17R_T T o u i) [false, false, false, false, false, true] True) (h6 : At (fun r => res = r) (t17R_T T o u i) [false, false, false, false, false, false] True) : CallsD Try.prog 17 [T.d] res := tree_calls (hX9) (t17R_L T o u i) ⟨fun e0 => h0 e0, fun e0 => ⟨fun e1 => h1 e0 e1, fun e1 => ⟨fun e2 => h2 e0 e1 e2, fun e2 => ⟨fun e3 => h3 e0 e1 e2 e3, fun e3 => ⟨fun e4 => h4 e0 e1 e2 e3 e4, fun e4 => ⟨fun e5 => h5 e0 e1 e2 e3 e4 e5, fun e5 => h6 e0 e1 e2 e3 e4 e5⟩⟩⟩⟩⟩⟩
/-- Is a place's bucket empty? -/
def z6 (T : Tb) (i : Nat) : Bool := T.x1.getD i 0 == 0 && (T.x2.getD i 0 == 0 && (T.x3.getD i 0 == 0 && (T.x4.getD i 0 == 0 && (T.x5.getD i 0 == 0 && T.x6.getD i 0 == 0))))
def bk6 (T : Tb) (i : Nat) : Int := bkV (T.x1.getD i 0) (T.x2.getD i 0) (T.x3.getD i 0) (T.x4.getD i 0) (T.x5.getD i 0)
theorem z17 (T : Tb) (i : Nat) : t17L_c5 T (i : Int) = z6 T i := by
 unfold t17L_c5 t17L_c3 t17L_c4 z6; simp only [Int.toNat_natCast, Bool.and_true, Bool.and_assoc]
def t17Bad (T : Tb) (l : List Int) (i : Nat) : Bool :=
 (!(T.us.getD i false == inB l i)) || (if T.us.getD i false = true then decide (fdE T.kx T.px T.ux (T.ks.getD i 0) ≠ 0 ∨ fdI T.kx T.px T.ux (T.ks.getD i 0) ≠ i ∨ bk6 T i ≠ 0) else decide (T.ks.getD i 0 ≠ 0) || !z6 T i)
/-- What is known of any table. -/
def okT (T : Tb) : Prop := okI T.kx ∧ (∀ i, i < T.ks.length → inU (T.ks.getD i 0)) ∧ (∀ i, i < T.x1.length → in64 (T.x4.getD i 0)) ∧ T.nx.length ≤ 200 ∧ T.us.length ≤ 200 ∧ T.no.length ≤ 200 ∧ kcS T.x1 T.x2 T.x3 T.x4 T.x5 T.x6 ∧ ccS T.kx T.px T.ux ∧ T.ks.length ≤ 200 ∧ T.ps.length ≤ 200
/-- The sizes of a table. -/
def Tb.sz (T : Tb) : Prop := 1 ≤ T.n ∧ T.n ≤ 8 ∧ (T.ks.length : Int) = T.n ∧ (T.x1.length : Int) = T.n ∧ (T.nx.length : Int) = T.n ∧ (T.ps.length : Int) = T.n
instance (T : Tb) : Decidable T.sz := by unfold Tb.sz; exact inferInstance
def tcV (T : Tb) : Int :=
 if T.sz ∧ akV T.nx T.us T.fr = 0 ∧ pcV T.kx T.px T.ux = 0 ∧ lcV T.ps T.no T.h T.t = 0 then
  (if findI (t17Bad T (llL T.ps T.no T.h T.t)) T.us.length 0 < 0 ∧ ctN T.us.length T.us = ctN T.kx.length T.ux then 0 else 8) else 8
theorem sz4 (T : Tb) : (!((T.ks.length : Int) == T.n && ((T.x1.length : Int) == T.n && ((T.nx.length : Int) == T.n && ((T.ps.length : Int) == T.n && true))))) = false ↔ (T.ks.length : Int) = T.n ∧ (T.x1.length : Int) = T.n ∧ (T.nx.length : Int) = T.n ∧ (T.ps.length : Int) = T.n := by simp
theorem akV_len {nx : List Int} {us : List Bool} {f : Int} (h : akV nx us f = 0) : us.length = nx.length := by
 unfold akV at h; split at h
 next c => exact c.2.2
 next => cases h
theorem t17M_all (T : Tb) (u : Nat) (hu : u ≤ 200) (h : T.kx.length ≤ 200) :
  Runs Try.prog (CallsD Try.prog) (.code (.loop (loopAt Try.prog 17 1))) (t17U T 0 u T.kx.length 0).abs (.exit 2) (t17U T 0 ((u : Int) - ctN T.kx.length T.ux) T.kx.length T.kx.length).abs := by
 refine loop_of_rounds ?_
 have z := scan_all (P := Try.prog) (F := CallsD Try.prog) (b := loopAt Try.prog 17 1) (fun i => t17U T 0 ((u : Int) - ctN i T.ux) T.kx.length (i : Int)) T.kx.length (fun _ => True) (fun i hi _ σ e hr => ?_)
  (σ := (t17U T 0 ((u : Int) - ctN T.kx.length T.ux) T.kx.length T.kx.length).abs) (e := .exit 2) ?_ T.kx.length 0 (by omega) (fun _ _ _ => trivial)
 ·simpa [ctN, cnt] using z
 ·have hc := cnt_le (fun i => T.ux.getD i false) i
  have e1 : opI .sub .i64 ((u : Int) - ctN i T.ux) 1 = (u : Int) - ((ctN i T.ux + 1 : Nat) : Int) := by unfold ctN; rw [opI_sub, wrap_i64_of (by omega) (by omega)]; omega
  refine t17M_step T 0 _ T.kx.length i σ e ?_ ?_ ?_ <;> dsimp only [At, Tr.q, RG, t17M_T]
  ·intro _ g
   rw [Int.toNat_natCast] at g
   rw [succL hi h, e1]
   refine ⟨⟨(natLt hi).1, (natLt hi).2, trivial⟩, ?_⟩
   have e2 : ctN (i + 1) T.ux = ctN i T.ux + 1 := by simp only [ctN, cnt, g, cond_true]
   rw [e2] at hr; exact hr
  ·intro _ g
   rw [Int.toNat_natCast] at g
   rw [succL hi h]
   refine ⟨⟨(natLt hi).1, (natLt hi).2, trivial⟩, ?_⟩
   have e2 : ctN (i + 1) T.ux = ctN i T.ux := by simp only [ctN, cnt, g, cond_false, Nat.add_zero]
   rw [e2] at hr; exact hr
  ·intro g; rw [lss_f] at g; omega
 ·refine t17M_step T 0 _ T.kx.length T.kx.length _ _ ?_ ?_ ?_ <;> dsimp only [At, Tr.q, RG, t17M_T]
  ·intro g; rw [lss_t] at g; omega
  ·intro g; rw [lss_t] at g; omega
  ·intro _; exact ⟨trivial, rfl, rfl⟩
theorem tc_ok (T : Tb) (h : okT T) : CallsD Try.prog 17 [T.d] (i64 (tcV T)) := by
 unfold tcV
 obtain ⟨hI, hK, hB, hnx, hus, hno, _⟩ := h
 by_cases c : T.sz ∧ akV T.nx T.us T.fr = 0 ∧ pcV T.kx T.px T.ux = 0 ∧ lcV T.ps T.no T.h T.t = 0
 ·rw [if_pos c]
  obtain ⟨⟨s1, s2, s3, s4, s5, s6⟩, a1, a2, a3⟩ := c
  have hun := akV_len a1
  have hl : (llL T.ps T.no T.h T.t).length ≤ 200 := by
   unfold llL; rw [if_pos a3]
   have := okL_len (chain_ok (okL_nil _) (lcV_chain a3)); omega
  generalize hlq : llL T.ps T.no T.h T.t = l at *
  have hct := cnt_le (fun i => T.us.getD i false) T.us.length
  have hM := t17M_all T (ctN T.us.length T.us) (by unfold ctN; omega) hI.1
  have hsz := (sz4 T).2 ⟨s3, s4, s5, s6⟩
  have nsz : ¬ (!((T.ks.length : Int) == T.n && ((T.x1.length : Int) == T.n && ((T.nx.length : Int) == T.n && ((T.ps.length : Int) == T.n && true))))) = true := by rw [hsz]; simp
  refine look_for (b := loopAt Try.prog 17 0) (fun i => t17T T 0 (ctN i T.us : Nat) l.length T.us.length (i : Int) l) T.us.length (t17Bad T l) (fun v => CallsD Try.prog 17 [T.d] (i64 (if v < 0 ∧ ctN T.us.length T.us = ctN T.kx.length T.ux then 0 else 8))) ?_ ?_ ?_
  ·intro i hi hp σ e hr
   have n1 := natLt hi
   have n2 := natLt (n := T.ks.length) (i := i) (by omega)
   have n3 := natLt (n := T.x1.length) (i := i) (by omega)
   have hk : inU (T.ks.getD (i : Int).toNat 0) := by rw [Int.toNat_natCast]; exact hK i (by omega)
   have hb : in64 (T.x4.getD (i : Int).toNat 0) := by rw [Int.toNat_natCast]; exact hB i (by omega)
   simp only [t17Bad, Bool.or_eq_false_iff] at hp
   refine t17L_step T 0 _ _ T.us.length i l σ e ?_ ?_ ?_ ?_ ?_ ?_ ?_ ?_ ?_ <;> dsimp only [At, Tr.q, RG, t17L_T]
   ·intro _ g; rw [Int.toNat_natCast, hp.1] at g; cases g
   all_goals try (intro _ _ g1; rw [Int.toNat_natCast] at g1)
   ·intro g2
    have g1' : T.us.getD i false = false := by simpa using g1
    rw [Int.toNat_natCast, neq_t] at g2
    have := hp.2; rw [g1', if_neg (by simp), Bool.or_eq_false_iff, decide_eq_false_iff_not] at this; exact absurd g2 this.1
   ·intro _ g2
    have g1' : T.us.getD i false = false := by simpa using g1
    rw [z17] at g2
    have := hp.2; rw [g1', if_neg (by simp), Bool.or_eq_false_iff, g2] at this; cases this.2
   ·intro _ _
    have g1' : T.us.getD i false = false := by simpa using g1
    rw [succL hi hus]
    refine ⟨⟨n3.1, n3.2, n2.1, n2.2, rfl, hl, n1.1, n1.2, trivial⟩, ?_⟩
    have e2 : ctN (i + 1) T.us = ctN i T.us := by simp only [ctN, cnt, g1', cond_false, Nat.add_zero]
    rw [e2] at hr; exact hr
   ·intro g2
    have g1' : T.us.getD i false = true := by simpa using g1
    unfold t17L_c1 at g2; rw [Int.toNat_natCast, neq_t] at g2
    have := hp.2; rw [g1', if_pos rfl, decide_eq_false_iff_not] at this; exact absurd (.inl g2) this
   ·intro _ g2
    have g1' : T.us.getD i false = true := by simpa using g1
    unfold t17L_c2 at g2; rw [Int.toNat_natCast, neq_t] at g2
    have := hp.2; rw [g1', if_pos rfl, decide_eq_false_iff_not] at this; exact absurd (.inr (.inl g2)) this
   ·intro _ _ g2
    have g1' : T.us.getD i false = true := by simpa using g1
    unfold t17L_c6 at g2; rw [Int.toNat_natCast, neq_t] at g2
    have := hp.2; rw [g1', if_pos rfl, decide_eq_false_iff_not] at this; exact absurd (.inr (.inr g2)) this
   ·intro _ _ _
    have g1' : T.us.getD i false = true := by simpa using g1
    have e2 : ctN (i + 1) T.us = ctN i T.us + 1 := by simp only [ctN, cnt, g1', cond_true]
    have e3 := cnt1 (q := fun i => T.us.getD i false) hi hus
    rw [succL hi hus]; unfold ctN; rw [e3]
    refine ⟨⟨hb, n3.1, n3.2, ⟨hI, hk⟩, n2.1, n2.2, rfl, hl, n1.1, n1.2, trivial⟩, ?_⟩
    rw [e2] at hr; exact hr
   ·intro g; rw [lss_f] at g; omega
  ·intro hr
   have hL : Runs Try.prog (CallsD Try.prog) (.code (.loop (loopAt Try.prog 17 0))) (t17T T 0 0 l.length T.us.length 0 l).abs (.exit 0) (t17T T 0 (ctN T.us.length T.us : Nat) l.length T.us.length T.us.length l).abs := by
    refine loop_of_rounds (hr _ _ ?_)
    have c0 : ¬ cmpI .lss ((T.us.length : Nat) : Int) (T.us.length : Int) = true := by rw [lss_t]; omega
    refine t17L_step T 0 _ _ T.us.length T.us.length l _ _ ?_ ?_ ?_ ?_ ?_ ?_ ?_ ?_ ?_ <;> dsimp only [At, Tr.q, RG, t17L_T]
    all_goals first | (intro g; exact absurd g c0) | (intro _; exact ⟨trivial, rfl, rfl⟩)
   refine t17F_calls T (ctN T.us.length T.us : Nat) ((ctN T.us.length T.us : Nat) - (ctN T.kx.length T.ux : Nat)) _ ?_ ?_ ?_ ?_ ?_ ?_ ?_ ?_ <;> dsimp only [At, Tr.q, t17F_T]
   ·intro g; rw [lss_t] at g; omega
   ·intro _ g; rw [gtr_t] at g; omega
   ·intro _ _ g; exact absurd g nsz
   ·intro _ _ _ g; rw [neq_t] at g; exact absurd a1 g
   ·intro _ _ _ _ g; rw [neq_t] at g; exact absurd a2 g
   ·intro _ _ _ _ _ g; rw [neq_t] at g; exact absurd a3 g
   ·intro _ _ _ _ _ _ g; rw [neq_t] at g
    rw [hlq]
    exact ⟨⟨hM, hL, hI, hus, trivial⟩, by rw [if_neg (by omega)]⟩
   ·intro _ _ _ _ _ _ g; rw [neq_f] at g
    rw [hlq]
    exact ⟨⟨hM, hL, hI, hus, trivial⟩, by rw [if_pos (by omega)]⟩
  ·intro j hj hp hr
   have n1 := natLt hj
   have n2 := natLt (n := T.ks.length) (i := j) (by omega)
   have n3 := natLt (n := T.x1.length) (i := j) (by omega)
   have hk : inU (T.ks.getD (j : Int).toNat 0) := by rw [Int.toNat_natCast]; exact hK j (by omega)
   have hb : in64 (T.x4.getD (j : Int).toNat 0) := by rw [Int.toNat_natCast]; exact hB j (by omega)
   have hu : ∃ u : Int, Runs Try.prog (CallsD Try.prog) (.rounds (loopAt Try.prog 17 0)) (t17T T 0 (ctN j T.us : Nat) l.length T.us.length j l).abs .ret (t17T T 8 u l.length T.us.length j l).abs := by
    by_cases d1 : (!(T.us.getD j false == inB l j)) = true
    ·refine ⟨(ctN j T.us : Nat), t17L_step T 0 _ _ T.us.length j l _ _ ?_ ?_ ?_ ?_ ?_ ?_ ?_ ?_ ?_⟩
     ·intro _ _; exact ⟨⟨rfl, hl, n1.1, n1.2, trivial⟩, rfl, rfl⟩
     all_goals first | (intro _ g; rw [Int.toNat_natCast, d1] at g; cases g) | (intro g; rw [lss_f] at g; omega)
    ·have d1' : (!(T.us.getD j false == inB l j)) = false := by simpa using d1
     simp only [t17Bad, d1', Bool.false_or] at hp
     cases g1' : T.us.getD j false with
     | false =>
      rw [g1', if_neg (by simp), Bool.or_eq_true, decide_eq_true_eq] at hp
      refine ⟨(ctN j T.us : Nat), t17L_step T 0 _ _ T.us.length j l _ _ ?_ ?_ ?_ ?_ ?_ ?_ ?_ ?_ ?_⟩
      ·intro _ _; exact ⟨⟨rfl, hl, n1.1, n1.2, trivial⟩, rfl, rfl⟩
      ·intro _ _ _ _; exact ⟨⟨n2.1, n2.2, rfl, hl, n1.1, n1.2, trivial⟩, rfl, rfl⟩
      ·intro _ _ _ _ _; exact ⟨⟨n3.1, n3.2, n2.1, n2.2, rfl, hl, n1.1, n1.2, trivial⟩, rfl, rfl⟩
      ·intro _ _ _ g2 g3
       rw [Int.toNat_natCast, neq_f] at g2
       rw [z17] at g3
       rcases hp with hp | hp
       ·exact absurd g2 hp
       ·rw [hp] at g3; cases g3
      all_goals first | (intro _ _ g; rw [Int.toNat_natCast, g1'] at g; cases g) | (intro g; rw [lss_f] at g; omega)
     | true =>
      rw [g1', if_pos rfl, decide_eq_true_eq] at hp
      refine ⟨opI .add .i64 (ctN j T.us : Nat) 1, t17L_step T 0 _ _ T.us.length j l _ _ ?_ ?_ ?_ ?_ ?_ ?_ ?_ ?_ ?_⟩
      ·intro _ g; rw [Int.toNat_natCast, d1'] at g; cases g
      ·intro _ _ g; rw [Int.toNat_natCast, g1'] at g; cases g
      ·intro _ _ g; rw [Int.toNat_natCast, g1'] at g; cases g
      ·intro _ _ g; rw [Int.toNat_natCast, g1'] at g; cases g
      ·intro _ _ _ _; exact ⟨⟨⟨hI, hk⟩, n2.1, n2.2, rfl, hl, n1.1, n1.2, trivial⟩, rfl, rfl⟩
      ·intro _ _ _ _ _; exact ⟨⟨⟨hI, hk⟩, n2.1, n2.2, rfl, hl, n1.1, n1.2, trivial⟩, rfl, rfl⟩
      ·intro _ _ _ _ _ _; exact ⟨⟨hb, n3.1, n3.2, ⟨hI, hk⟩, n2.1, n2.2, rfl, hl, n1.1, n1.2, trivial⟩, rfl, rfl⟩
      ·intro _ _ _ g1 g2 g3
       unfold t17L_c1 at g1; unfold t17L_c2 at g2; unfold t17L_c6 at g3
       rw [Int.toNat_natCast, neq_f] at g1 g2 g3
       rcases hp with hp | hp | hp
       ·exact absurd g1 hp
       ·exact absurd g2 hp
       ·exact absurd g3 hp
      ·intro g; rw [lss_f] at g; omega
   obtain ⟨u, hu⟩ := hu
   refine t17R_calls T 8 u j _ ?_ ?_ ?_ ?_ ?_ ?_ ?_ <;> dsimp only [At, Tr.q, t17R_T]
   ·intro g; rw [lss_t] at g; omega
   ·intro _ g; rw [gtr_t] at g; omega
   ·intro _ _ g; exact absurd g nsz
   ·intro _ _ _ g; rw [neq_t] at g; exact absurd a1 g
   ·intro _ _ _ _ g; rw [neq_t] at g; exact absurd a2 g
   ·intro _ _ _ _ _ g; rw [neq_t] at g; exact absurd a3 g
   ·intro _ _ _ _ _ _
    rw [hlq]
    exact ⟨⟨loop_of_rounds (hr _ _ hu), hI, hus, trivial⟩, by rw [if_neg (by omega)]⟩
 ·rw [if_neg c]
  refine t17R_calls T 8 0 0 _ ?_ ?_ ?_ ?_ ?_ ?_ ?_ <;> dsimp only [At, Tr.q, t17R_T]
  ·intro _; exact ⟨trivial, rfl⟩
  ·intro _ _; exact ⟨trivial, rfl⟩
  ·intro _ _ _; exact ⟨trivial, rfl⟩
  ·intro _ _ _ _; exact ⟨⟨hus, trivial⟩, rfl⟩
  ·intro _ _ _ _ _; exact ⟨⟨hI, hus, trivial⟩, rfl⟩
  ·intro _ _ _ _ _ _; exact ⟨⟨hI, hus, trivial⟩, rfl⟩
  ·intro g1 g2 g3 g4 g5 g6
   rw [lss_f] at g1; rw [gtr_f] at g2; rw [sz4] at g3; rw [neq_f] at g4 g5 g6
   exact absurd ⟨⟨by omega, by omega, g3⟩, g4, g5, g6⟩ c
end TableS
end
