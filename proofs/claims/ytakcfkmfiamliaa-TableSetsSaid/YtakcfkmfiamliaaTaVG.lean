/- What the functions compute, and the law. No condition. -/
import Derived.Test.YtakcfkmfiamliaaTaXB
import Derived.Test.YtakcfkmfiamliaaTaTZ
import Derived.Test.YtakcfkmfiamliaaDamYA
set_option linter.unusedSectionVars false
set_option linter.unusedVariables false
set_option linter.unusedSimpArgs false
section
namespace TableS
open Go Go.Dam Go.Proofs
set_option maxRecDepth 1000000
noncomputable def nl : D := D.v (Value.slice none 0 0)
noncomputable def b0B : BX := BX.cells [i64 0, nl, nl, nl, nl, i64 0, nl, nl, nl, i64 0, i64 0] false
noncomputable def ownB (T : Tb) (d1 d2 d3 d4 d5 d6 d7 : Nat) : BX := BX.cells [i64 T.n, D.sl d1 0 T.ks.length ⟨1, 0⟩, D.sl d2 0 T.x1.length ⟨6, 0⟩, D.sl d3 0 T.nx.length ⟨1, 0⟩, D.sl d4 0 T.us.length ⟨1, 0⟩, i64 T.fr, D.sl d5 0 T.kx.length ⟨3, 0⟩, D.sl d6 0 T.ps.length ⟨1, 0⟩, D.sl d7 0 T.no.length ⟨1, 0⟩, i64 T.h, i64 T.t] false
noncomputable def bkB (y1 y2 y3 y4 y5 y6 : List Int) : BX := BX.row [.ints .i64 y1, .ints .i64 y2, .ints .i64 y3, .ints .i64 y4, .ints .i64 y5, .ints .u64 y6] false
noncomputable def l6T (T : Tb) (b r p a : Int) (y1 y2 y3 y4 y5 y6 : List Int) (i : Int) : Cs := ⟨TT.of [(2, u64 a), (3, D.ptr 96 0), (4, D.ptr 128 0), (6, D.ptr 192 0), (7, i64 0), (8, D.ptr 256 0), (9, i64 i)], 52, [],
 [(96, T.b), (128, BX.cells [i64 b, i64 r, i64 p] false), (192, b0B), (256, ownB T 736 737 738 739 740 741 742), (736, BX.row [.ints .u32 T.ks] false), (737, bkB y1 y2 y3 y4 y5 y6), (738, BX.row [.ints .i64 T.nx] false), (739, BX.row [.bools T.us] false), (740, BX.row [.ints .u32 T.kx, .ints .i64 T.px, .bools T.ux] false), (741, BX.row [.ints .i64 T.ps] false), (742, BX.row [.ints .i64 T.no] false)], none, 0⟩
noncomputable def lmT (T : Tb) (b r p a : Int) (y1 y2 y3 y4 y5 y6 : List Int) (i : Int) : Cs := ⟨TT.of [(2, u64 a), (4, D.ptr 128 0), (6, D.ptr 192 0), (7, i64 0), (10, D.ptr 320 0), (29, D.sl 131648 0 T.us.length ⟨1, 0⟩), (30, i64 T.us.length), (31, i64 i)], 54, [],
 [(128, BX.cells [i64 b, i64 r, i64 p] false), (192, b0B), (320, ownB T 131232 131328 131520 131648 131904 132064 132192), (131648, BX.row [.bools T.us] false), (131232, BX.row [.ints .u32 T.ks] false), (131328, bkB y1 y2 y3 y4 y5 y6), (131520, BX.row [.ints .i64 T.nx] false), (131904, BX.row [.ints .u32 T.kx, .ints .i64 T.px, .bools T.ux] false), (132064, BX.row [.ints .i64 T.ps] false), (132192, BX.row [.ints .i64 T.no] false)], none, 0⟩
/-- What Change makes of a bucket: its level and its tick. -/
def cgV (b r p v q t b2 n : Int) : Int := mostI .lss (MeterS.fiV b r p v q t n) b2
def cgS (b r p v q t b2 r2 p2 n : Int) : Prop := bkS b r p v q t n ∧ in64 v ∧ limV b2 r2 p2 = 0
def cgC : List D → Option (D × List Prop)
 | [.agg [.v (.int .i64 b), .v (.int .i64 r), .v (.int .i64 p), .v (.int .i64 v), .v (.int .i64 q), .v (.int .u64 t)], .agg [.v (.int .i64 b2), .v (.int .i64 r2), .v (.int .i64 p2)], .v (.int .u64 n)] => some (.tup [.agg [i64 b2, i64 r2, i64 p2, i64 (cgV b r p v q t b2 n), i64 0, u64 (MeterS.fiT t n)], i64 0], [cgS b r p v q t b2 r2 p2 n])
 | _ => none
noncomputable def X28 : Contracts := addCon 74 (.call cgC) (addCon 75 (.call cgC) X27)
end TableS
end

section
namespace TableS
open Go Go.Dam Go.Proofs
set_option maxRecDepth 1000000
theorem cgA_p0 (b r p v q t b2 r2 p2 n : Int) : fnX Try.prog (X27) 100000 [.d false, .d false] 74 [D.agg [i64 b, i64 r, i64 p, i64 v, i64 q, u64 t], D.agg [i64 b2, i64 r2, i64 p2], u64 n] = some (D.tup [D.agg [i64 b2, i64 r2, i64 p2, i64 (mostI .lss (MeterS.fiV b r p v q t n) b2), i64 0, u64 (MeterS.fiT t n)], i64 0], [bkS b r p v q t n, cmpI .neq (limV b2 r2 p2) 0 = false, cmpI .neq (bkV b r p v q) 0 = false, in64 v]) := by kernel_rfl
theorem cgA_calls (b r p v q t b2 r2 p2 n : Int) (res : D)
 (e0 : (cmpI .neq (bkV b r p v q) 0) = false)
 (e1 : (cmpI .neq (limV b2 r2 p2) 0) = false)
 (h0 : ((bkS b r p v q t n) ∧ (in64 v) ∧ True) ∧ res = D.tup [D.agg [i64 b2, i64 r2, i64 p2, i64 (mostI .lss (MeterS.fiV b r p v q t n) b2), i64 0, u64 (MeterS.fiT t n)], i64 0]) : CallsD Try.prog 74 [D.agg [i64 b, i64 r, i64 p, i64 v, i64 q, u64 t], D.agg [i64 b2, i64 r2, i64 p2], u64 n] res := by
 obtain ⟨⟨k0, k1, _⟩, kr⟩ := h0
 exact of_path (hX27) (cgA_p0 b r p v q t b2 r2 p2 n) ⟨k0, e1, e0, k1, trivial⟩ kr
theorem cgB_p0 (b r p v q t b2 r2 p2 n : Int) : fnX Try.prog (X27) 100000 [.d false, .d false] 75 [D.agg [i64 b, i64 r, i64 p, i64 v, i64 q, u64 t], D.agg [i64 b2, i64 r2, i64 p2], u64 n] = some (D.tup [D.agg [i64 b2, i64 r2, i64 p2, i64 (mostI .lss (MeterS.fiV b r p v q t n) b2), i64 0, u64 (MeterS.fiT t n)], i64 0], [bkS b r p v q t n, cmpI .neq (limV b2 r2 p2) 0 = false, cmpI .neq (bkV b r p v q) 0 = false]) := by kernel_rfl
theorem cgB_calls (b r p v q t b2 r2 p2 n : Int) (res : D)
 (e0 : (cmpI .neq (bkV b r p v q) 0) = false)
 (e1 : (cmpI .neq (limV b2 r2 p2) 0) = false)
 (h0 : ((bkS b r p v q t n) ∧ True) ∧ res = D.tup [D.agg [i64 b2, i64 r2, i64 p2, i64 (mostI .lss (MeterS.fiV b r p v q t n) b2), i64 0, u64 (MeterS.fiT t n)], i64 0]) : CallsD Try.prog 75 [D.agg [i64 b, i64 r, i64 p, i64 v, i64 q, u64 t], D.agg [i64 b2, i64 r2, i64 p2], u64 n] res := by
 obtain ⟨⟨k0, _⟩, kr⟩ := h0
 exact of_path (hX27) (cgB_p0 b r p v q t b2 r2 p2 n) ⟨k0, e1, e0, trivial⟩ kr
theorem cg_ok {b r p v q t b2 r2 p2 n : Int} (h : cgS b r p v q t b2 r2 p2 n) : cmpI .neq (bkV b r p v q) 0 = false ∧ cmpI .neq (limV b2 r2 p2) 0 = false :=
 ⟨by rw [neq_f]; exact h.1.1, by rw [neq_f]; exact h.2.2⟩
theorem cgA_ok (b r p v q t b2 r2 p2 n : Int) (h : cgS b r p v q t b2 r2 p2 n) : CallsD Try.prog 74 [.agg [i64 b, i64 r, i64 p, i64 v, i64 q, u64 t], .agg [i64 b2, i64 r2, i64 p2], u64 n] (.tup [.agg [i64 b2, i64 r2, i64 p2, i64 (cgV b r p v q t b2 n), i64 0, u64 (MeterS.fiT t n)], i64 0]) :=
 cgA_calls b r p v q t b2 r2 p2 n _ (cg_ok h).1 (cg_ok h).2 ⟨⟨h.1, h.2.1, trivial⟩, rfl⟩
theorem cgB_ok (b r p v q t b2 r2 p2 n : Int) (h : cgS b r p v q t b2 r2 p2 n) : CallsD Try.prog 75 [.agg [i64 b, i64 r, i64 p, i64 v, i64 q, u64 t], .agg [i64 b2, i64 r2, i64 p2], u64 n] (.tup [.agg [i64 b2, i64 r2, i64 p2, i64 (cgV b r p v q t b2 n), i64 0, u64 (MeterS.fiT t n)], i64 0]) :=
 cgB_calls b r p v q t b2 r2 p2 n _ (cg_ok h).1 (cg_ok h).2 ⟨⟨h.1, trivial⟩, rfl⟩
theorem cgAC_ok (args res l) (h : cgC args = some (res, l)) (hl : AllP l) : CallsD Try.prog 74 args res := by
 unfold cgC at h; split at h
 ·simp only [Option.some.injEq, Prod.mk.injEq] at h
  obtain ⟨rfl, rfl⟩ := h; obtain ⟨h0, _⟩ := hl
  exact cgA_ok _ _ _ _ _ _ _ _ _ _ h0
 ·cases h
theorem cgBC_ok (args res l) (h : cgC args = some (res, l)) (hl : AllP l) : CallsD Try.prog 75 args res := by
 unfold cgC at h; split at h
 ·simp only [Option.some.injEq, Prod.mk.injEq] at h
  obtain ⟨rfl, rfl⟩ := h; obtain ⟨h0, _⟩ := hl
  exact cgB_ok _ _ _ _ _ _ _ _ _ _ h0
 ·cases h
theorem hX28 : ConOK Try.prog X28 := addCall_ok cgAC_ok (addCall_ok cgBC_ok hX27)
noncomputable def l6L_T (T : Tb) (b : Int) (r : Int) (p : Int) (a : Int) (y1 : List Int) (y2 : List Int) (y3 : List Int) (y4 : List Int) (y5 : List Int) (y6 : List Int) (i : Int) : Tr (Ex × Cs) := .d (cmpI .lss i T.n) (fun e0 => .s (decide (i < ↑(T.us.length)) = true) (.s (decide (0 ≤ i) = true) (.d (T.us.getD i.toNat false) (fun e1 => .s (decide (i < ↑(rowLen [Col.ints .i64 T.x1, Col.ints .i64 T.x2, Col.ints .i64 T.x3, Col.ints .i64 T.x4, Col.ints .i64 T.x5, Col.ints .u64 T.x6])) = true) (.s (decide (0 ≤ i) = true) (.s (cgS (T.x1.getD i.toNat 0) (T.x2.getD i.toNat 0) (T.x3.getD i.toNat 0) (T.x4.getD i.toNat 0) (T.x5.getD i.toNat 0) (T.x6.getD i.toNat 0) b r p a) (.s (decide (i < ↑T.x1.length) = true) (.s (decide (0 ≤ i) = true) (.s ((Col0.ints .u64 y6).len = y1.length) (.s ((Col0.ints .i64 y5).len = y1.length) (.s ((Col0.ints .i64 y4).len = y1.length) (.s ((Col0.ints .i64 y3).len = y1.length) (.s ((Col0.ints .i64 y2).len = y1.length) (.s ((Col0.ints .i64 y1).len = y1.length) (.s (i.toNat < y1.length) (.lf (Ex.normal, (l6T T (b) (r) (p) (a) (y1.set i.toNat b) (y2.set i.toNat r) (y3.set i.toNat p) (y4.set i.toNat (cgV (T.x1.getD i.toNat 0) (T.x2.getD i.toNat 0) (T.x3.getD i.toNat 0) (T.x4.getD i.toNat 0) (T.x5.getD i.toNat 0) (T.x6.getD i.toNat 0) b a)) (y5.set i.toNat 0) (y6.set i.toNat (MeterS.fiT (T.x6.getD i.toNat 0) a)) (opI .add .i64 i 1)))))))))))))))) (fun e1 => .lf (Ex.normal, (l6T T (b) (r) (p) (a) (y1) (y2) (y3) (y4) (y5) (y6) (opI .add .i64 i 1))))))) (fun e0 => .lf (Ex.exit 0, (l6T T (b) (r) (p) (a) (y1) (y2) (y3) (y4) (y5) (y6) (i))))
theorem l6L_L (T : Tb) (b r p a : Int) (y1 y2 y3 y4 y5 y6 : List Int) (i : Int) : Leaves (roundT Try.prog (X28) 100000 (loopAt Try.prog 27 0) [[2, 3, 4, 6, 7, 8, 9]] [(96, 96), (128, 128), (192, 192), (256, 256), (736, 736), (737, 737), (738, 738), (739, 739), (740, 740), (741, 741), (742, 742)] (l6T T b r p a y1 y2 y3 y4 y5 y6 i)) (l6L_T T b r p a y1 y2 y3 y4 y5 y6 i) [] [] := by refine ⟨fun _ => ⟨fun _ => ?_, fun _ => ?_⟩, fun _ => ?_⟩ <;> (show _ = _; kernel_rfl)
theorem l6L_step (T : Tb) (b : Int) (r : Int) (p : Int) (a : Int) (y1 : List Int) (y2 : List Int) (y3 : List Int) (y4 : List Int) (y5 : List Int) (y6 : List Int) (i : Int) (σ : St) (e : Ex) (h0 : At (RG Try.prog (loopAt Try.prog 27 0) e σ) (l6L_T T b r p a y1 y2 y3 y4 y5 y6 i) [true, true] True) (h1 : At (RG Try.prog (loopAt Try.prog 27 0) e σ) (l6L_T T b r p a y1 y2 y3 y4 y5 y6 i) [true, false] True) (h2 : At (RG Try.prog (loopAt Try.prog 27 0) e σ) (l6L_T T b r p a y1 y2 y3 y4 y5 y6 i) [false] True) : Runs Try.prog (CallsD Try.prog) (.rounds (loopAt Try.prog 27 0)) (l6T T b r p a y1 y2 y3 y4 y5 y6 i).abs e σ := tree_rounds (hX28) (l6L_L T b r p a y1 y2 y3 y4 y5 y6 i) ⟨fun e0 => ⟨fun e1 => h0 e0 e1, fun e1 => h1 e0 e1⟩, fun e0 => h2 e0⟩
noncomputable def l6F_T (T : Tb) (b : Int) (r : Int) (p : Int) (a : Int) (y1 : List Int) (y2 : List Int) (y3 : List Int) (y4 : List Int) (y5 : List Int) (y6 : List Int) (i : Int) : Tr D := .s (okT T) (.d (cmpI .neq (rcV T) 0) (fun e0 => .s (okT T) (.lf (D.tup [D.agg [i64 0, D.v (Value.slice none 0 0), D.v (Value.slice none 0 0), D.v (Value.slice none 0 0), D.v (Value.slice none 0 0), i64 0, D.v (Value.slice none 0 0), D.v (Value.slice none 0 0), D.v (Value.slice none 0 0), i64 0, i64 0], i64 (rcV T)]))) (fun e0 => .d (cmpI .neq (limV b r p) 0) (fun e1 => .lf (D.tup [D.agg [i64 0, D.v (Value.slice none 0 0), D.v (Value.slice none 0 0), D.v (Value.slice none 0 0), D.v (Value.slice none 0 0), i64 0, D.v (Value.slice none 0 0), D.v (Value.slice none 0 0), D.v (Value.slice none 0 0), i64 0, i64 0], i64 (limV b r p)])) (fun e1 => .p (.l [[2, 3, 4, 6, 7, 8, 9]] [(96, 96), (128, 128), (192, 192), (256, 256), (736, 736), (737, 737), (738, 738), (739, 739), (740, 740), (741, 741), (742, 742)] (l6T T b r p a T.x1 T.x2 T.x3 T.x4 T.x5 T.x6 0) (Ex.exit 0) (l6T T b r p a y1 y2 y3 y4 y5 y6 i)) (.s (twS T) (.s (Runs Try.prog (CallsD Try.prog) (.code (.loop (loopAt Try.prog 27 0))) (l6T T b r p a T.x1 T.x2 T.x3 T.x4 T.x5 T.x6 0).abs (Ex.exit 0) (l6T T b r p a y1 y2 y3 y4 y5 y6 i).abs) (.k ((l6T T b r p a T.x1 T.x2 T.x3 T.x4 T.x5 T.x6 0 = l6T T b r p a T.x1 T.x2 T.x3 T.x4 T.x5 T.x6 0)) rfl (.s (T.no.length = rowLen0 [.ints .i64 T.no]) (.s (T.ps.length = rowLen0 [.ints .i64 T.ps]) (.s (T.kx.length = rowLen0 [.ints .u32 T.kx, .ints .i64 T.px, .bools T.ux]) (.s (T.us.length = T.us.length) (.s (T.nx.length = rowLen0 [.ints .i64 T.nx]) (.s (T.x1.length = y1.length) (.s (T.ks.length = rowLen0 [.ints .u32 T.ks]) (.lf (D.tup [D.agg [i64 T.n, D.oc [.ints .u32 T.ks], D.oc [.ints .i64 y1, .ints .i64 y2, .ints .i64 y3, .ints .i64 y4, .ints .i64 y5, .ints .u64 y6], D.oc [.ints .i64 T.nx], D.oc [.bools T.us], i64 T.fr, D.oc [.ints .u32 T.kx, .ints .i64 T.px, .bools T.ux], D.oc [.ints .i64 T.ps], D.oc [.ints .i64 T.no], i64 T.h, i64 T.t], i64 0])))))))))))))))
theorem l6F_L (T : Tb) (b r p a : Int) (y1 y2 y3 y4 y5 y6 : List Int) (i : Int) : Leaves (fun l => fnX Try.prog (X28) 100000 l 27 [T.d, D.agg [i64 b, i64 r, i64 p], u64 a]) (l6F_T T b r p a y1 y2 y3 y4 y5 y6 i) [] [] := by refine ⟨fun _ => ?_, fun _ => ⟨fun _ => ?_, fun _ => ?_⟩⟩ <;> (show _ = _; kernel_rfl)
theorem l6F_calls (T : Tb) (b r p a : Int) (y1 y2 y3 y4 y5 y6 : List Int) (i : Int) (res : D) (h0 : At (fun r => res = r) (l6F_T T b r p a y1 y2 y3 y4 y5 y6 i) [true] True) (h1 : At (fun r => res = r) (l6F_T T b r p a y1 y2 y3 y4 y5 y6 i) [false, true] True) (h2 : At (fun r => res = r) (l6F_T T b r p a y1 y2 y3 y4 y5 y6 i) [false, false] True) : CallsD Try.prog 27 [T.d, D.agg [i64 b, i64 r, i64 p], u64 a] res := tree_calls (hX28) (l6F_L T b r p a y1 y2 y3 y4 y5 y6 i) ⟨fun e0 => h0 e0, fun e0 => ⟨fun e1 => h1 e0 e1, fun e1 => h2 e0 e1⟩⟩
noncomputable def lmL_T (T : Tb) (b : Int) (r : Int) (p : Int) (a : Int) (y1 : List Int) (y2 : List Int) (y3 : List Int) (y4 : List Int) (y5 : List Int) (y6 : List Int) (i : Int) : Tr (Ex × Cs) := .d (cmpI .lss i ↑T.us.length) (fun e0 => .s (decide (i < ↑T.us.length) = true) (.s (decide (0 ≤ i) = true) (.s (i.toNat < T.us.length) (.d (T.us.getD i.toNat false) (fun e1 => .s (decide (i < ↑T.x1.length) = true) (.s (decide (0 ≤ i) = true) (.s (i.toNat < y1.length) (.s (cgS (y1.getD i.toNat 0) (y2.getD i.toNat 0) (y3.getD i.toNat 0) (y4.getD i.toNat 0) (y5.getD i.toNat 0) (y6.getD i.toNat 0) b r p a) (.s (decide (i < ↑T.x1.length) = true) (.s (decide (0 ≤ i) = true) (.s ((Col0.ints .u64 y6).len = y1.length) (.s ((Col0.ints .i64 y5).len = y1.length) (.s ((Col0.ints .i64 y4).len = y1.length) (.s ((Col0.ints .i64 y3).len = y1.length) (.s ((Col0.ints .i64 y2).len = y1.length) (.s ((Col0.ints .i64 y1).len = y1.length) (.s (i.toNat < y1.length) (.lf (Ex.normal, (lmT T (b) (r) (p) (a) (y1.set i.toNat b) (y2.set i.toNat r) (y3.set i.toNat p) (y4.set i.toNat (cgV (y1.getD i.toNat 0) (y2.getD i.toNat 0) (y3.getD i.toNat 0) (y4.getD i.toNat 0) (y5.getD i.toNat 0) (y6.getD i.toNat 0) b a)) (y5.set i.toNat 0) (y6.set i.toNat (MeterS.fiT (y6.getD i.toNat 0) a)) (opI .add .i64 i 1))))))))))))))))) (fun e1 => .lf (Ex.normal, (lmT T (b) (r) (p) (a) (y1) (y2) (y3) (y4) (y5) (y6) (opI .add .i64 i 1)))))))) (fun e0 => .lf (Ex.exit 0, (lmT T (b) (r) (p) (a) (y1) (y2) (y3) (y4) (y5) (y6) (i))))
theorem lmL_L (T : Tb) (b r p a : Int) (y1 y2 y3 y4 y5 y6 : List Int) (i : Int) : Leaves (roundT Try.prog (X28) 100000 (loopAt Try.prog 26 0) [[2, 4, 6, 7, 10, 29, 30, 31]] [(128, 128), (192, 192), (320, 320), (131648, 131648), (131232, 131232), (131328, 131328), (131520, 131520), (131904, 131904), (132064, 132064), (132192, 132192)] (lmT T b r p a y1 y2 y3 y4 y5 y6 i)) (lmL_T T b r p a y1 y2 y3 y4 y5 y6 i) [] [] := by refine ⟨fun _ => ⟨fun _ => ?_, fun _ => ?_⟩, fun _ => ?_⟩ <;> (show _ = _; kernel_rfl)
theorem lmL_step (T : Tb) (b : Int) (r : Int) (p : Int) (a : Int) (y1 : List Int) (y2 : List Int) (y3 : List Int) (y4 : List Int) (y5 : List Int) (y6 : List Int) (i : Int) (σ : St) (e : Ex) (h0 : At (RG Try.prog (loopAt Try.prog 26 0) e σ) (lmL_T T b r p a y1 y2 y3 y4 y5 y6 i) [true, true] True) (h1 : At (RG Try.prog (loopAt Try.prog 26 0) e σ) (lmL_T T b r p a y1 y2 y3 y4 y5 y6 i) [true, false] True) (h2 : At (RG Try.prog (loopAt Try.prog 26 0) e σ) (lmL_T T b r p a y1 y2 y3 y4 y5 y6 i) [false] True) : Runs Try.prog (CallsD Try.prog) (.rounds (loopAt Try.prog 26 0)) (lmT T b r p a y1 y2 y3 y4 y5 y6 i).abs e σ := tree_rounds (hX28) (lmL_L T b r p a y1 y2 y3 y4 y5 y6 i) ⟨fun e0 => ⟨fun e1 => h0 e0 e1, fun e1 => h1 e0 e1⟩, fun e0 => h2 e0⟩
noncomputable def lmF_T (T : Tb) (b : Int) (r : Int) (p : Int) (a : Int) (y1 : List Int) (y2 : List Int) (y3 : List Int) (y4 : List Int) (y5 : List Int) (y6 : List Int) (i : Int) : Tr D := .s (okT T) (.d (cmpI .neq (tcV T) 0) (fun e0 => .lf (D.tup [D.agg [i64 0, D.v (Value.slice none 0 0), D.v (Value.slice none 0 0), D.v (Value.slice none 0 0), D.v (Value.slice none 0 0), i64 0, D.v (Value.slice none 0 0), D.v (Value.slice none 0 0), D.v (Value.slice none 0 0), i64 0, i64 0], i64 (tcV T)])) (fun e0 => .d (cmpI .neq (limV b r p) 0) (fun e1 => .lf (D.tup [D.agg [i64 0, D.v (Value.slice none 0 0), D.v (Value.slice none 0 0), D.v (Value.slice none 0 0), D.v (Value.slice none 0 0), i64 0, D.v (Value.slice none 0 0), D.v (Value.slice none 0 0), D.v (Value.slice none 0 0), i64 0, i64 0], i64 (limV b r p)])) (fun e1 => .p (.l [[2, 4, 6, 7, 10, 29, 30, 31]] [(128, 128), (192, 192), (320, 320), (131648, 131648), (131232, 131232), (131328, 131328), (131520, 131520), (131904, 131904), (132064, 132064), (132192, 132192)] (lmT T b r p a T.x1 T.x2 T.x3 T.x4 T.x5 T.x6 0) (Ex.exit 0) (lmT T b r p a y1 y2 y3 y4 y5 y6 i)) (.s (T.ks.length ≤ 200) (.s (kcS T.x1 T.x2 T.x3 T.x4 T.x5 T.x6) (.s (T.nx.length ≤ 200) (.s (T.us.length ≤ 200) (.s (ccS T.kx T.px T.ux) (.s (T.ps.length ≤ 200) (.s (T.no.length ≤ 200) (.s (Runs Try.prog (CallsD Try.prog) (.code (.loop (loopAt Try.prog 26 0))) (lmT T b r p a T.x1 T.x2 T.x3 T.x4 T.x5 T.x6 0).abs (Ex.exit 0) (lmT T b r p a y1 y2 y3 y4 y5 y6 i).abs) (.k ((lmT T b r p a T.x1 T.x2 T.x3 T.x4 T.x5 T.x6 0 = lmT T b r p a T.x1 T.x2 T.x3 T.x4 T.x5 T.x6 0)) rfl (.s (T.no.length = rowLen0 [.ints .i64 T.no]) (.s (T.ps.length = rowLen0 [.ints .i64 T.ps]) (.s (T.kx.length = rowLen0 [.ints .u32 T.kx, .ints .i64 T.px, .bools T.ux]) (.s (T.us.length = T.us.length) (.s (T.nx.length = rowLen0 [.ints .i64 T.nx]) (.s (T.x1.length = y1.length) (.s (T.ks.length = rowLen0 [.ints .u32 T.ks]) (.lf (D.tup [D.agg [i64 T.n, D.oc [.ints .u32 T.ks], D.oc [.ints .i64 y1, .ints .i64 y2, .ints .i64 y3, .ints .i64 y4, .ints .i64 y5, .ints .u64 y6], D.oc [.ints .i64 T.nx], D.oc [.bools T.us], i64 T.fr, D.oc [.ints .u32 T.kx, .ints .i64 T.px, .bools T.ux], D.oc [.ints .i64 T.ps], D.oc [.ints .i64 T.no], i64 T.h, i64 T.t], i64 0])))))))))))))))))))))
theorem lmF_L (T : Tb) (b r p a : Int) (y1 y2 y3 y4 y5 y6 : List Int) (i : Int) : Leaves (fun l => fnX Try.prog (X28) 100000 l 26 [T.d, D.agg [i64 b, i64 r, i64 p], u64 a]) (lmF_T T b r p a y1 y2 y3 y4 y5 y6 i) [] [] := by refine ⟨fun _ => ?_, fun _ => ⟨fun _ => ?_, fun _ => ?_⟩⟩ <;> (show _ = _; kernel_rfl)
theorem lmF_calls (T : Tb) (b r p a : Int) (y1 y2 y3 y4 y5 y6 : List Int) (i : Int) (res : D) (h0 : At (fun r => res = r) (lmF_T T b r p a y1 y2 y3 y4 y5 y6 i) [true] True) (h1 : At (fun r => res = r) (lmF_T T b r p a y1 y2 y3 y4 y5 y6 i) [false, true] True) (h2 : At (fun r => res = r) (lmF_T T b r p a y1 y2 y3 y4 y5 y6 i) [false, false] True) : CallsD Try.prog 26 [T.d, D.agg [i64 b, i64 r, i64 p], u64 a] res := tree_calls (hX28) (lmF_L T b r p a y1 y2 y3 y4 y5 y6 i) ⟨fun e0 => h0 e0, fun e0 => ⟨fun e1 => h1 e0 e1, fun e1 => h2 e0 e1⟩⟩
end TableS
end

section
namespace TableS
open Go Go.Dam Go.Proofs
set_option maxRecDepth 1000000
/-- A column in which the places that are used, below m, are written. -/
def upd (us : List Bool) (f : Nat → Int) (xs : List Int) : Nat → List Int
 | 0 => xs
 | m + 1 => if us.getD m false = true then (upd us f xs m).set m (f m) else upd us f xs m
theorem upd_len (us : List Bool) (f : Nat → Int) (xs : List Int) : ∀ m, (upd us f xs m).length = xs.length
 | 0 => rfl
 | m + 1 => by unfold upd; split <;> simp [upd_len us f xs m]
theorem upd_get (us : List Bool) (f : Nat → Int) (xs : List Int) : ∀ m j, m ≤ j → (upd us f xs m).getD j 0 = xs.getD j 0
 | 0, _, _ => rfl
 | m + 1, j, h => by
  have ih := upd_get us f xs m j (by omega)
  unfold upd; split
  ·rw [getD_set_ne (by omega)]; exact ih
  ·exact ih
theorem upd_yes {us : List Bool} {f : Nat → Int} {xs : List Int} {m : Nat} (h : us.getD m false = true) : upd us f xs (m + 1) = (upd us f xs m).set m (f m) := by rw [upd, if_pos h]
theorem upd_no {us : List Bool} {f : Nat → Int} {xs : List Int} {m : Nat} (h : us.getD m false = false) : upd us f xs (m + 1) = upd us f xs m := by rw [upd, if_neg (by rw [h]; simp)]
/-- The buckets of the places below m changed to another limit. -/
def Tb.lim (T : Tb) (b r p a : Int) (m : Nat) : Tb := { T with
 x1 := upd T.us (fun _ => b) T.x1 m, x2 := upd T.us (fun _ => r) T.x2 m, x3 := upd T.us (fun _ => p) T.x3 m,
 x4 := upd T.us (fun i => cgV (T.x1.getD i 0) (T.x2.getD i 0) (T.x3.getD i 0) (T.x4.getD i 0) (T.x5.getD i 0) (T.x6.getD i 0) b a) T.x4 m,
 x5 := upd T.us (fun _ => 0) T.x5 m, x6 := upd T.us (fun i => MeterS.fiT (T.x6.getD i 0) a) T.x6 m }
def lmV (T : Tb) (b r p a : Int) : Tb := if tcV T = 0 ∧ limV b r p = 0 then T.lim b r p a T.us.length else t0
def lmE (T : Tb) (b r p : Int) : Int := if tcV T = 0 then limV b r p else tcV T
def lmS (T : Tb) (a : Int) : Prop := okT T ∧ (∀ i, i < T.x1.length → 0 ≤ T.x6.getD i 0 ∧ T.x6.getD i 0 < 18446744073709551616) ∧ 0 ≤ a ∧ a < 18446744073709551616
theorem lm_cg {T : Tb} {b r p a : Int} (h : lmS T a) {L F : List Int} (v : Inv T L F) (hl : limV b r p = 0) {i : Nat} (hi : i < T.us.length) (hu : T.us.getD i false = true) :
  cgS (T.x1.getD i 0) (T.x2.getD i 0) (T.x3.getD i 0) (T.x4.getD i 0) (T.x5.getD i 0) (T.x6.getD i 0) b r p a := by
 obtain ⟨ho, h6, ha⟩ := h
 have lens := okT_lens ho v
 have ul := inv_us_len v
 exact ⟨⟨v.bk i (by omega) hu, h6 i (by omega), ha⟩, ho.2.2.1 i (by omega), hl⟩
theorem l6_ok (T : Tb) (b r p a : Int) (h : lmS T a) : CallsD Try.prog 27 [T.d, .agg [i64 b, i64 r, i64 p], u64 a] (.tup [(lmV T b r p a).o, i64 (lmE T b r p)]) := by
 have ho := h.1
 have er := tc_eq_rc ho
 by_cases c1 : tcV T = 0
 ·by_cases c2 : limV b r p = 0
  ·obtain ⟨L, F, v⟩ := tc_inv ho c1
   have lens := okT_lens ho v
   have ul := inv_us_len v
   have w := okT_twS ho
   have eV : lmV T b r p a = T.lim b r p a T.us.length := by unfold lmV; rw [if_pos ⟨c1, c2⟩]
   have eE : lmE T b r p = 0 := by unfold lmE; rw [if_pos c1]; exact c2
   have u200 := ho.2.2.2.2.1
   rw [eV, eE]
   have run : Runs Try.prog (CallsD Try.prog) (.rounds (loopAt Try.prog 27 0)) (l6T T b r p a T.x1 T.x2 T.x3 T.x4 T.x5 T.x6 0).abs (.exit 0)
     (l6T T b r p a (T.lim b r p a T.us.length).x1 (T.lim b r p a T.us.length).x2 (T.lim b r p a T.us.length).x3 (T.lim b r p a T.us.length).x4 (T.lim b r p a T.us.length).x5 (T.lim b r p a T.us.length).x6 T.us.length).abs := by
    refine scan_all (fun i => l6T T b r p a (T.lim b r p a i).x1 (T.lim b r p a i).x2 (T.lim b r p a i).x3 (T.lim b r p a i).x4 (T.lim b r p a i).x5 (T.lim b r p a i).x6 (i : Int)) T.us.length (fun _ => True) (fun i hi _ σ e hr => ?_) ?_ T.us.length 0 (by omega) (fun _ _ _ => trivial)
    ·have i1 : i < T.x1.length := by omega
     cases hu : T.us.getD i false with
     | true =>
      have cg := lm_cg h v c2 hi hu
      simp only [Tb.lim, upd_yes hu] at hr
      refine l6L_step T b r p a _ _ _ _ _ _ i σ e ?_ ?_ ?_ <;> dsimp only [At, Tr.q, RG, l6L_T]
      ·intro _ _
       rw [succL hi (by omega)]
       simp only [Int.toNat_natCast, Col0.len, Tb.lim, upd_len]
       exact ⟨⟨by omega, by omega, by omega, by omega, by omega, by omega, by omega, (natLt i1).1, (natLt i1).2, cg, (natLt i1).1, (natLt i1).2, (natLt hi).1, (natLt hi).2, trivial⟩, hr⟩
      ·intro _ g; rw [Int.toNat_natCast, hu] at g; cases g
      ·intro g; rw [lss_f] at g; omega
     | false =>
      simp only [Tb.lim, upd_no hu] at hr
      refine l6L_step T b r p a _ _ _ _ _ _ i σ e ?_ ?_ ?_ <;> dsimp only [At, Tr.q, RG, l6L_T]
      ·intro _ g; rw [Int.toNat_natCast, hu] at g; cases g
      ·intro _ _
       rw [succL hi (by omega)]
       exact ⟨⟨(natLt hi).1, (natLt hi).2, trivial⟩, hr⟩
      ·intro g; rw [lss_f] at g; omega
    ·refine l6L_step T b r p a _ _ _ _ _ _ T.us.length _ _ ?_ ?_ ?_ <;> dsimp only [At, Tr.q, RG, l6L_T]
     ·intro g; rw [lss_t] at g; omega
     ·intro g; rw [lss_t] at g; omega
     ·intro _; exact ⟨trivial, rfl, rfl⟩
   refine l6F_calls T b r p a (T.lim b r p a T.us.length).x1 (T.lim b r p a T.us.length).x2 (T.lim b r p a T.us.length).x3 (T.lim b r p a T.us.length).x4 (T.lim b r p a T.us.length).x5 (T.lim b r p a T.us.length).x6 T.us.length _ ?_ ?_ ?_ <;> dsimp only [At, Tr.q, l6F_T]
   ·intro g; rw [neq_t, ← er] at g; exact absurd c1 g
   ·intro _ g; rw [neq_t] at g; exact absurd c2 g
   ·intro _ _
    refine ⟨⟨rfl, (upd_len _ _ _ _).symm, rfl, rfl, rfl, rfl, rfl, loop_of_rounds run, w, ho, trivial⟩, rfl⟩
  ·have eV : lmV T b r p a = t0 := by unfold lmV; rw [if_neg (fun n => c2 n.2)]
   have eE : lmE T b r p = limV b r p := by unfold lmE; rw [if_pos c1]
   rw [eV, eE]
   refine calls_reads (ReadsNs.tup (.cons nilT (.refl _))) ?_
   refine l6F_calls T b r p a T.x1 T.x2 T.x3 T.x4 T.x5 T.x6 0 _ ?_ ?_ ?_ <;> dsimp only [At, Tr.q, l6F_T]
   ·intro g; rw [neq_t, ← er] at g; exact absurd c1 g
   ·intro _ _; exact ⟨⟨ho, trivial⟩, rfl⟩
   ·intro _ g; rw [neq_f] at g; exact absurd g c2
 ·have eV : lmV T b r p a = t0 := by unfold lmV; rw [if_neg (fun n => c1 n.1)]
  have eE : lmE T b r p = rcV T := by unfold lmE; rw [if_neg c1]; exact er
  rw [eV, eE]
  refine calls_reads (ReadsNs.tup (.cons nilT (.refl _))) ?_
  refine l6F_calls T b r p a T.x1 T.x2 T.x3 T.x4 T.x5 T.x6 0 _ ?_ ?_ ?_ <;> dsimp only [At, Tr.q, l6F_T]
  ·intro _; exact ⟨⟨ho, ho, trivial⟩, rfl⟩
  ·intro g; rw [neq_f, ← er] at g; exact absurd g c1
  ·intro g; rw [neq_f, ← er] at g; exact absurd g c1
theorem lm_ok (T : Tb) (b r p a : Int) (h : lmS T a) : CallsD Try.prog 26 [T.d, .agg [i64 b, i64 r, i64 p], u64 a] (.tup [(lmV T b r p a).o, i64 (lmE T b r p)]) := by
 have ho := h.1
 by_cases c1 : tcV T = 0
 ·by_cases c2 : limV b r p = 0
  ·obtain ⟨L, F, v⟩ := tc_inv ho c1
   have lens := okT_lens ho v
   have ul := inv_us_len v
   have w := okT_twS ho
   have eV : lmV T b r p a = T.lim b r p a T.us.length := by unfold lmV; rw [if_pos ⟨c1, c2⟩]
   have eE : lmE T b r p = 0 := by unfold lmE; rw [if_pos c1]; exact c2
   have u200 := ho.2.2.2.2.1
   rw [eV, eE]
   have run : Runs Try.prog (CallsD Try.prog) (.rounds (loopAt Try.prog 26 0)) (lmT T b r p a T.x1 T.x2 T.x3 T.x4 T.x5 T.x6 0).abs (.exit 0)
     (lmT T b r p a (T.lim b r p a T.us.length).x1 (T.lim b r p a T.us.length).x2 (T.lim b r p a T.us.length).x3 (T.lim b r p a T.us.length).x4 (T.lim b r p a T.us.length).x5 (T.lim b r p a T.us.length).x6 T.us.length).abs := by
    refine scan_all (fun i => lmT T b r p a (T.lim b r p a i).x1 (T.lim b r p a i).x2 (T.lim b r p a i).x3 (T.lim b r p a i).x4 (T.lim b r p a i).x5 (T.lim b r p a i).x6 (i : Int)) T.us.length (fun _ => True) (fun i hi _ σ e hr => ?_) ?_ T.us.length 0 (by omega) (fun _ _ _ => trivial)
    ·have i1 : i < T.x1.length := by omega
     cases hu : T.us.getD i false with
     | true =>
      have cg := lm_cg h v c2 hi hu
      simp only [Tb.lim, upd_yes hu] at hr
      refine lmL_step T b r p a _ _ _ _ _ _ i σ e ?_ ?_ ?_ <;> dsimp only [At, Tr.q, RG, lmL_T]
      ·intro _ _
       rw [succL hi (by omega)]
       simp only [Int.toNat_natCast, Col0.len, Tb.lim, upd_len, fun us f xs => upd_get us f xs i i (Nat.le_refl i)]
       exact ⟨⟨by omega, by omega, by omega, by omega, by omega, by omega, by omega, (natLt i1).1, (natLt i1).2, cg, by omega, (natLt i1).1, (natLt i1).2, hi, (natLt hi).1, (natLt hi).2, trivial⟩, hr⟩
      ·intro _ g; rw [Int.toNat_natCast, hu] at g; cases g
      ·intro g; rw [lss_f] at g; omega
     | false =>
      simp only [Tb.lim, upd_no hu] at hr
      refine lmL_step T b r p a _ _ _ _ _ _ i σ e ?_ ?_ ?_ <;> dsimp only [At, Tr.q, RG, lmL_T]
      ·intro _ g; rw [Int.toNat_natCast, hu] at g; cases g
      ·intro _ _
       rw [succL hi (by omega)]
       exact ⟨⟨by rw [Int.toNat_natCast]; exact hi, (natLt hi).1, (natLt hi).2, trivial⟩, hr⟩
      ·intro g; rw [lss_f] at g; omega
    ·refine lmL_step T b r p a _ _ _ _ _ _ T.us.length _ _ ?_ ?_ ?_ <;> dsimp only [At, Tr.q, RG, lmL_T]
     ·intro g; rw [lss_t] at g; omega
     ·intro g; rw [lss_t] at g; omega
     ·intro _; exact ⟨trivial, rfl, rfl⟩
   refine lmF_calls T b r p a (T.lim b r p a T.us.length).x1 (T.lim b r p a T.us.length).x2 (T.lim b r p a T.us.length).x3 (T.lim b r p a T.us.length).x4 (T.lim b r p a T.us.length).x5 (T.lim b r p a T.us.length).x6 T.us.length _ ?_ ?_ ?_ <;> dsimp only [At, Tr.q, lmF_T]
   ·intro g; rw [neq_t] at g; exact absurd c1 g
   ·intro _ g; rw [neq_t] at g; exact absurd c2 g
   ·intro _ _
    refine ⟨⟨rfl, (upd_len _ _ _ _).symm, rfl, rfl, rfl, rfl, rfl, loop_of_rounds run, w.2.2.2.2.2.2, w.2.2.2.2.2.1, w.2.2.2.2.1, w.2.2.2.1, w.2.2.1, w.2.1, w.1, ho, trivial⟩, rfl⟩
  ·have eV : lmV T b r p a = t0 := by unfold lmV; rw [if_neg (fun n => c2 n.2)]
   have eE : lmE T b r p = limV b r p := by unfold lmE; rw [if_pos c1]
   rw [eV, eE]
   refine calls_reads (ReadsNs.tup (.cons nilT (.refl _))) ?_
   refine lmF_calls T b r p a T.x1 T.x2 T.x3 T.x4 T.x5 T.x6 0 _ ?_ ?_ ?_ <;> dsimp only [At, Tr.q, lmF_T]
   ·intro g; rw [neq_t] at g; exact absurd c1 g
   ·intro _ _; exact ⟨⟨ho, trivial⟩, rfl⟩
   ·intro _ g; rw [neq_f] at g; exact absurd g c2
 ·have eV : lmV T b r p a = t0 := by unfold lmV; rw [if_neg (fun n => c1 n.1)]
  have eE : lmE T b r p = tcV T := by unfold lmE; rw [if_neg c1]
  rw [eV, eE]
  refine calls_reads (ReadsNs.tup (.cons nilT (.refl _))) ?_
  refine lmF_calls T b r p a T.x1 T.x2 T.x3 T.x4 T.x5 T.x6 0 _ ?_ ?_ ?_ <;> dsimp only [At, Tr.q, lmF_T]
  ·intro _; exact ⟨⟨ho, trivial⟩, rfl⟩
  ·intro g; rw [neq_f] at g; exact absurd g c1
  ·intro g; rw [neq_f] at g; exact absurd g c1
end TableS
end

section
namespace TableS
open Go Go.Dam Go.Proofs
set_option maxRecDepth 1000000
noncomputable def gt6_T (T : Tb) (k : Int) : Tr D := .s (okT T) (.d (cmpI .neq (rcV T) 0) (fun e0 => .s (okT T) (.lf (D.tup [D.agg [i64 0, i64 0, i64 0, i64 0, i64 0, u64 0], i64 (rcV T)]))) (fun e0 => .s (a6S T k) (.d (cmpI .lss (plV T k) 0) (fun e1 => .lf (D.tup [D.agg [i64 0, i64 0, i64 0, i64 0, i64 0, u64 0], i64 6])) (fun e1 => .s (a6S T k) (.s (decide (plV T k < ↑(rowLen [Col.ints .i64 T.x1, Col.ints .i64 T.x2, Col.ints .i64 T.x3, Col.ints .i64 T.x4, Col.ints .i64 T.x5, Col.ints .u64 T.x6])) = true) (.s (decide (0 ≤ plV T k) = true) (.lf (D.tup [D.agg [i64 (T.x1.getD (plV T k).toNat 0), i64 (T.x2.getD (plV T k).toNat 0), i64 (T.x3.getD (plV T k).toNat 0), i64 (T.x4.getD (plV T k).toNat 0), i64 (T.x5.getD (plV T k).toNat 0), u64 (T.x6.getD (plV T k).toNat 0)], i64 0]))))))))
theorem gt6_L (T : Tb) (k : Int) : Leaves (fun l => fnX Try.prog (X27) 100000 l 21 [T.d, u32 k]) (gt6_T T k) [] [] := by refine ⟨fun _ => ?_, fun _ => ⟨fun _ => ?_, fun _ => ?_⟩⟩ <;> (show _ = _; kernel_rfl)
theorem gt6_calls (T : Tb) (k : Int) (res : D) (h0 : At (fun r => res = r) (gt6_T T k) [true] True) (h1 : At (fun r => res = r) (gt6_T T k) [false, true] True) (h2 : At (fun r => res = r) (gt6_T T k) [false, false] True) : CallsD Try.prog 21 [T.d, u32 k] res := tree_calls (hX27) (gt6_L T k) ⟨fun e0 => h0 e0, fun e0 => ⟨fun e1 => h1 e0 e1, fun e1 => h2 e0 e1⟩⟩
noncomputable def st6_T (T : Tb) (k : Int) (b : Int) (r : Int) (p : Int) (v : Int) (q : Int) (a : Int) : Tr D := .s (okT T) (.d (cmpI .neq (rcV T) 0) (fun e0 => .s (okT T) (.lf (D.tup [D.agg [i64 0, D.v (Value.slice none 0 0), D.v (Value.slice none 0 0), D.v (Value.slice none 0 0), D.v (Value.slice none 0 0), i64 0, D.v (Value.slice none 0 0), D.v (Value.slice none 0 0), D.v (Value.slice none 0 0), i64 0, i64 0], i64 (rcV T)]))) (fun e0 => .d (cmpI .neq (bkV b r p v q) 0) (fun e1 => .lf (D.tup [D.agg [i64 0, D.v (Value.slice none 0 0), D.v (Value.slice none 0 0), D.v (Value.slice none 0 0), D.v (Value.slice none 0 0), i64 0, D.v (Value.slice none 0 0), D.v (Value.slice none 0 0), D.v (Value.slice none 0 0), i64 0, i64 0], i64 (bkV b r p v q)])) (fun e1 => .s (a6S T k) (.d (cmpI .lss (plV T k) 0) (fun e2 => .lf (D.tup [D.agg [i64 0, D.v (Value.slice none 0 0), D.v (Value.slice none 0 0), D.v (Value.slice none 0 0), D.v (Value.slice none 0 0), i64 0, D.v (Value.slice none 0 0), D.v (Value.slice none 0 0), D.v (Value.slice none 0 0), i64 0, i64 0], i64 6])) (fun e2 => .s (twS T) (.s (a6S T k) (.s (decide (plV T k < ↑(rowLen0 [.ints .i64 T.x1, .ints .i64 T.x2, .ints .i64 T.x3, .ints .i64 T.x4, .ints .i64 T.x5, .ints .u64 T.x6])) = true) (.s (decide (0 ≤ plV T k) = true) (.s ((Col0.ints .u64 T.x6).len = rowLen0 [.ints .i64 T.x1, .ints .i64 T.x2, .ints .i64 T.x3, .ints .i64 T.x4, .ints .i64 T.x5, .ints .u64 T.x6]) (.s ((Col0.ints .i64 T.x5).len = rowLen0 [.ints .i64 T.x1, .ints .i64 T.x2, .ints .i64 T.x3, .ints .i64 T.x4, .ints .i64 T.x5, .ints .u64 T.x6]) (.s ((Col0.ints .i64 T.x4).len = rowLen0 [.ints .i64 T.x1, .ints .i64 T.x2, .ints .i64 T.x3, .ints .i64 T.x4, .ints .i64 T.x5, .ints .u64 T.x6]) (.s ((Col0.ints .i64 T.x3).len = rowLen0 [.ints .i64 T.x1, .ints .i64 T.x2, .ints .i64 T.x3, .ints .i64 T.x4, .ints .i64 T.x5, .ints .u64 T.x6]) (.s ((Col0.ints .i64 T.x2).len = rowLen0 [.ints .i64 T.x1, .ints .i64 T.x2, .ints .i64 T.x3, .ints .i64 T.x4, .ints .i64 T.x5, .ints .u64 T.x6]) (.s ((Col0.ints .i64 T.x1).len = rowLen0 [.ints .i64 T.x1, .ints .i64 T.x2, .ints .i64 T.x3, .ints .i64 T.x4, .ints .i64 T.x5, .ints .u64 T.x6]) (.s ((plV T k).toNat < rowLen0 [.ints .i64 T.x1, .ints .i64 T.x2, .ints .i64 T.x3, .ints .i64 T.x4, .ints .i64 T.x5, .ints .u64 T.x6]) (.q (rowLen0 [.ints .i64 T.no]) (.q (rowLen0 [.ints .i64 T.ps]) (.q (rowLen0 [.ints .u32 T.kx, .ints .i64 T.px, .bools T.ux]) (.q (rowLen0 [.bools T.us]) (.q (rowLen0 [.ints .i64 T.nx]) (.s (rowLen0 [.ints .i64 T.x1, .ints .i64 T.x2, .ints .i64 T.x3, .ints .i64 T.x4, .ints .i64 T.x5, .ints .u64 T.x6] = rowLen0 [.ints .i64 (T.x1.set (plV T k).toNat b), .ints .i64 (T.x2.set (plV T k).toNat r), .ints .i64 (T.x3.set (plV T k).toNat p), .ints .i64 (T.x4.set (plV T k).toNat v), .ints .i64 (T.x5.set (plV T k).toNat q), .ints .u64 (T.x6.set (plV T k).toNat a)]) (.q (rowLen0 [.ints .u32 T.ks]) (.lf (D.tup [D.agg [i64 T.n, D.oc [.ints .u32 T.ks], D.oc [.ints .i64 (T.x1.set (plV T k).toNat b), .ints .i64 (T.x2.set (plV T k).toNat r), .ints .i64 (T.x3.set (plV T k).toNat p), .ints .i64 (T.x4.set (plV T k).toNat v), .ints .i64 (T.x5.set (plV T k).toNat q), .ints .u64 (T.x6.set (plV T k).toNat a)], D.oc [.ints .i64 T.nx], D.oc [.bools T.us], i64 T.fr, D.oc [.ints .u32 T.kx, .ints .i64 T.px, .bools T.ux], D.oc [.ints .i64 T.ps], D.oc [.ints .i64 T.no], i64 T.h, i64 T.t], i64 0]))))))))))))))))))))))))
theorem st6_L (T : Tb) (k b r p v q a : Int) : Leaves (fun l => fnX Try.prog (X27) 100000 l 23 [T.d, u32 k, D.agg [i64 b, i64 r, i64 p, i64 v, i64 q, u64 a]]) (st6_T T k b r p v q a) [] [] := by refine ⟨fun _ => ?_, fun _ => ⟨fun _ => ?_, fun _ => ⟨fun _ => ?_, fun _ => ?_⟩⟩⟩ <;> (show _ = _; kernel_rfl)
theorem st6_calls (T : Tb) (k b r p v q a : Int) (res : D) (h0 : At (fun r => res = r) (st6_T T k b r p v q a) [true] True) (h1 : At (fun r => res = r) (st6_T T k b r p v q a) [false, true] True) (h2 : At (fun r => res = r) (st6_T T k b r p v q a) [false, false, true] True) (h3 : At (fun r => res = r) (st6_T T k b r p v q a) [false, false, false] True) : CallsD Try.prog 23 [T.d, u32 k, D.agg [i64 b, i64 r, i64 p, i64 v, i64 q, u64 a]] res := tree_calls (hX27) (st6_L T k b r p v q a) ⟨fun e0 => h0 e0, fun e0 => ⟨fun e1 => h1 e0 e1, fun e1 => ⟨fun e2 => h2 e0 e1 e2, fun e2 => h3 e0 e1 e2⟩⟩⟩
noncomputable def dr6_T (T : Tb) (k : Int) : Tr D := .s (okT T) (.d (cmpI .neq (rcV T) 0) (fun e0 => .s (okT T) (.lf (D.tup [D.agg [i64 0, D.v (Value.slice none 0 0), D.v (Value.slice none 0 0), D.v (Value.slice none 0 0), D.v (Value.slice none 0 0), i64 0, D.v (Value.slice none 0 0), D.v (Value.slice none 0 0), D.v (Value.slice none 0 0), i64 0, i64 0], i64 (rcV T)]))) (fun e0 => .s (a6S T k) (.d (cmpI .lss (plV T k) 0) (fun e1 => .lf (D.tup [D.agg [i64 0, D.v (Value.slice none 0 0), D.v (Value.slice none 0 0), D.v (Value.slice none 0 0), D.v (Value.slice none 0 0), i64 0, D.v (Value.slice none 0 0), D.v (Value.slice none 0 0), D.v (Value.slice none 0 0), i64 0, i64 0], i64 6])) (fun e1 => .s (dd6S T k) (.q (rowLen0 [.ints .i64 (T.without k (plV T k).toNat).no]) (.q (rowLen0 [.ints .i64 (T.without k (plV T k).toNat).ps]) (.q (rowLen0 [.ints .u32 (T.without k (plV T k).toNat).kx, .ints .i64 (T.without k (plV T k).toNat).px, .bools (T.without k (plV T k).toNat).ux]) (.q (rowLen0 [.bools (T.without k (plV T k).toNat).us]) (.q (rowLen0 [.ints .i64 (T.without k (plV T k).toNat).nx]) (.q (rowLen0 [.ints .i64 (T.without k (plV T k).toNat).x1, .ints .i64 (T.without k (plV T k).toNat).x2, .ints .i64 (T.without k (plV T k).toNat).x3, .ints .i64 (T.without k (plV T k).toNat).x4, .ints .i64 (T.without k (plV T k).toNat).x5, .ints .u64 (T.without k (plV T k).toNat).x6]) (.q (rowLen0 [.ints .u32 (T.without k (plV T k).toNat).ks]) (.lf (D.tup [D.agg [i64 (T.without k (plV T k).toNat).n, D.oc [.ints .u32 (T.without k (plV T k).toNat).ks], D.oc [.ints .i64 (T.without k (plV T k).toNat).x1, .ints .i64 (T.without k (plV T k).toNat).x2, .ints .i64 (T.without k (plV T k).toNat).x3, .ints .i64 (T.without k (plV T k).toNat).x4, .ints .i64 (T.without k (plV T k).toNat).x5, .ints .u64 (T.without k (plV T k).toNat).x6], D.oc [.ints .i64 (T.without k (plV T k).toNat).nx], D.oc [.bools (T.without k (plV T k).toNat).us], i64 (T.without k (plV T k).toNat).fr, D.oc [.ints .u32 (T.without k (plV T k).toNat).kx, .ints .i64 (T.without k (plV T k).toNat).px, .bools (T.without k (plV T k).toNat).ux], D.oc [.ints .i64 (T.without k (plV T k).toNat).ps], D.oc [.ints .i64 (T.without k (plV T k).toNat).no], i64 (T.without k (plV T k).toNat).h, i64 (T.without k (plV T k).toNat).t], i64 0])))))))))))))
theorem dr6_L (T : Tb) (k : Int) : Leaves (fun l => fnX Try.prog (X27) 100000 l 25 [T.d, u32 k]) (dr6_T T k) [] [] := by refine ⟨fun _ => ?_, fun _ => ⟨fun _ => ?_, fun _ => ?_⟩⟩ <;> (show _ = _; kernel_rfl)
theorem dr6_calls (T : Tb) (k : Int) (res : D) (h0 : At (fun r => res = r) (dr6_T T k) [true] True) (h1 : At (fun r => res = r) (dr6_T T k) [false, true] True) (h2 : At (fun r => res = r) (dr6_T T k) [false, false] True) : CallsD Try.prog 25 [T.d, u32 k] res := tree_calls (hX27) (dr6_L T k) ⟨fun e0 => h0 e0, fun e0 => ⟨fun e1 => h1 e0 e1, fun e1 => h2 e0 e1⟩⟩
/-- Where a key of a right table is. -/
theorem pl_two {T : Tb} (ho : okT T) (c : tcV T = 0) {k : Int} (hk : inU k) :
  (fdE T.kx T.px T.ux k = 0 ∧ plV T k = fdI T.kx T.px T.ux k ∧ 0 ≤ plV T k ∧ plV T k < T.n) ∨ (fdE T.kx T.px T.ux k ≠ 0 ∧ plV T k = -1) := by
 by_cases f : fdE T.kx T.px T.ux k = 0
 ·obtain ⟨i, e, e2, _⟩ := tc_find ho c hk f
  have ep : plV T k = fdI T.kx T.px T.ux k := by unfold plV; rw [if_pos f]
  exact .inl ⟨f, ep, by omega, by omega⟩
 ·exact .inr ⟨f, by unfold plV; rw [if_neg f]⟩
theorem gt6_ok (T : Tb) (k : Int) (h : okT T ∧ inU k) : CallsD Try.prog 21 [T.d, u32 k] (.tup [.agg [i64 (gtN T k T.x1), i64 (gtN T k T.x2), i64 (gtN T k T.x3), i64 (gtN T k T.x4), i64 (gtN T k T.x5), u64 (gtN T k T.x6)], i64 (gtE T k)]) := by
 obtain ⟨ho, hk⟩ := h
 have er := tc_eq_rc ho
 by_cases c : tcV T = 0
 ·have c' : rcV T = 0 := by rw [← er]; exact c
  have a6 : a6S T k := ⟨ho, hk, c⟩
  obtain ⟨L, F, v⟩ := tc_inv ho c
  have lens := okT_lens ho v
  rcases pl_two ho c hk with ⟨f, e, p0, p1⟩ | ⟨f, e⟩
  ·unfold gtN gtE
   rw [if_pos ⟨c, f⟩, if_pos ⟨c, f⟩, if_pos ⟨c, f⟩, if_pos ⟨c, f⟩, if_pos ⟨c, f⟩, if_pos ⟨c, f⟩, if_pos c, if_pos f, ← e]
   refine gt6_calls T k _ ?_ ?_ ?_ <;> dsimp only [At, Tr.q, gt6_T]
   ·intro g; rw [neq_t] at g; exact absurd c' g
   ·intro _ g; rw [lss_t] at g; omega
   ·intro _ _; exact ⟨⟨decide_eq_true p0, decide_eq_true (by show plV T k < (T.x1.length : Int); omega), a6, a6, ho, trivial⟩, rfl⟩
  ·have n : ¬ (tcV T = 0 ∧ fdE T.kx T.px T.ux k = 0) := fun n => f n.2
   unfold gtN gtE
   rw [if_neg n, if_neg n, if_neg n, if_neg n, if_neg n, if_neg n, if_pos c, if_neg f]
   refine gt6_calls T k _ ?_ ?_ ?_ <;> dsimp only [At, Tr.q, gt6_T]
   ·intro g; rw [neq_t] at g; exact absurd c' g
   ·intro _ _; exact ⟨⟨a6, ho, trivial⟩, rfl⟩
   ·intro _ g; rw [lss_f] at g; omega
 ·have n : ¬ (tcV T = 0 ∧ fdE T.kx T.px T.ux k = 0) := fun n => c n.1
  unfold gtN gtE
  rw [if_neg n, if_neg n, if_neg n, if_neg n, if_neg n, if_neg n, if_neg c, er]
  have c' : rcV T ≠ 0 := by rw [← er]; exact c
  refine gt6_calls T k _ ?_ ?_ ?_ <;> dsimp only [At, Tr.q, gt6_T]
  ·intro _; exact ⟨⟨ho, ho, trivial⟩, rfl⟩
  ·intro g; rw [neq_f] at g; exact absurd g c'
  ·intro g; rw [neq_f] at g; exact absurd g c'
theorem st6_ok (T : Tb) (k b r p v q a : Int) (h : okT T ∧ inU k ∧ in64 v) : CallsD Try.prog 23 [T.d, u32 k, .agg [i64 b, i64 r, i64 p, i64 v, i64 q, u64 a]] (.tup [(seT T k b r p v q a).o, i64 (seE T k b r p v q)]) := by
 obtain ⟨ho, hk, _⟩ := h
 have er := tc_eq_rc ho
 have w := okT_twS ho
 have no : ∀ {e : Int}, ¬ (tcV T = 0 ∧ bkV b r p v q = 0 ∧ fdE T.kx T.px T.ux k = 0) → CallsD Try.prog 23 [T.d, u32 k, .agg [i64 b, i64 r, i64 p, i64 v, i64 q, u64 a]] (.tup [D.agg [i64 0, D.v (Value.slice none 0 0), D.v (Value.slice none 0 0), D.v (Value.slice none 0 0), D.v (Value.slice none 0 0), i64 0, D.v (Value.slice none 0 0), D.v (Value.slice none 0 0), D.v (Value.slice none 0 0), i64 0, i64 0], i64 e]) → CallsD Try.prog 23 [T.d, u32 k, .agg [i64 b, i64 r, i64 p, i64 v, i64 q, u64 a]] (.tup [(seT T k b r p v q a).o, i64 e]) := fun n h => by
  unfold seT; rw [if_neg n]
  exact calls_reads (ReadsNs.tup (.cons nilT (.refl _))) h
 by_cases c : tcV T = 0
 ·have c' : rcV T = 0 := by rw [← er]; exact c
  have a6 : a6S T k := ⟨ho, hk, c⟩
  obtain ⟨L, F, iv⟩ := tc_inv ho c
  have lens := okT_lens ho iv
  by_cases c2 : bkV b r p v q = 0
  ·rcases pl_two ho c hk with ⟨f, e, p0, p1⟩ | ⟨f, e⟩
   ·unfold seT seE
    rw [if_pos ⟨c, c2, f⟩, if_pos c, if_pos c2, if_pos f, ← e]
    refine st6_calls T k b r p v q a _ ?_ ?_ ?_ ?_ <;> dsimp only [At, Tr.q, st6_T]
    ·intro g; rw [neq_t] at g; exact absurd c' g
    ·intro _ g; rw [neq_t] at g; exact absurd c2 g
    ·intro _ _ g; rw [lss_t] at g; omega
    ·intro _ _ _
     refine ⟨?_, rfl⟩
     (repeat' (first | assumption | apply And.intro)) <;> first | exact trivial | rfl | ((try refine @decide_eq_true _ _ ?_); first | omega | (simp only [rowLen0, Col0.len, List.length_set] <;> omega))
   ·unfold seE
    rw [if_pos c, if_pos c2, if_neg f]
    refine no (fun n => f n.2.2) ?_
    refine st6_calls T k b r p v q a _ ?_ ?_ ?_ ?_ <;> dsimp only [At, Tr.q, st6_T]
    ·intro g; rw [neq_t] at g; exact absurd c' g
    ·intro _ g; rw [neq_t] at g; exact absurd c2 g
    ·intro _ _ _; exact ⟨⟨a6, ho, trivial⟩, rfl⟩
    ·intro _ _ g; rw [lss_f] at g; omega
  ·unfold seE
   rw [if_pos c, if_neg c2]
   refine no (fun n => c2 n.2.1) ?_
   refine st6_calls T k b r p v q a _ ?_ ?_ ?_ ?_ <;> dsimp only [At, Tr.q, st6_T]
   ·intro g; rw [neq_t] at g; exact absurd c' g
   ·intro _ _; exact ⟨⟨ho, trivial⟩, rfl⟩
   ·intro _ g; rw [neq_f] at g; exact absurd g c2
   ·intro _ g; rw [neq_f] at g; exact absurd g c2
 ·have c' : rcV T ≠ 0 := by rw [← er]; exact c
  unfold seE
  rw [if_neg c, er]
  refine no (fun n => c n.1) ?_
  refine st6_calls T k b r p v q a _ ?_ ?_ ?_ ?_ <;> dsimp only [At, Tr.q, st6_T]
  ·intro _; exact ⟨⟨ho, ho, trivial⟩, rfl⟩
  ·intro g; rw [neq_f] at g; exact absurd g c'
  ·intro g; rw [neq_f] at g; exact absurd g c'
  ·intro g; rw [neq_f] at g; exact absurd g c'
theorem dr6_ok (T : Tb) (k : Int) (h : okT T ∧ inU k) : CallsD Try.prog 25 [T.d, u32 k] (.tup [(drX T k).o, i64 (drE T k)]) := by
 obtain ⟨ho, hk⟩ := h
 have er := tc_eq_rc ho
 by_cases c : tcV T = 0
 ·have c' : rcV T = 0 := by rw [← er]; exact c
  have a6 : a6S T k := ⟨ho, hk, c⟩
  unfold drX drE
  by_cases f : plV T k < 0
  ·rw [if_neg (fun n => n.2 f), if_pos c, if_pos f]
   refine calls_reads (ReadsNs.tup (.cons nilT (.refl _))) ?_
   refine dr6_calls T k _ ?_ ?_ ?_ <;> dsimp only [At, Tr.q, dr6_T]
   ·intro g; rw [neq_t] at g; exact absurd c' g
   ·intro _ _; exact ⟨⟨a6, ho, trivial⟩, rfl⟩
   ·intro _ g; rw [lss_f] at g; omega
  ·rw [if_pos ⟨c, f⟩, if_pos c, if_neg f]
   refine dr6_calls T k _ ?_ ?_ ?_ <;> dsimp only [At, Tr.q, dr6_T]
   ·intro g; rw [neq_t] at g; exact absurd c' g
   ·intro _ g; rw [lss_t] at g; omega
   ·intro _ _; exact ⟨⟨⟨ho, hk, c, by omega⟩, a6, ho, trivial⟩, rfl⟩
 ·have c' : rcV T ≠ 0 := by rw [← er]; exact c
  unfold drX drE
  rw [if_neg (fun n => c n.1), if_neg c, er]
  refine calls_reads (ReadsNs.tup (.cons nilT (.refl _))) ?_
  refine dr6_calls T k _ ?_ ?_ ?_ <;> dsimp only [At, Tr.q, dr6_T]
  ·intro _; exact ⟨⟨ho, ho, trivial⟩, rfl⟩
  ·intro g; rw [neq_f] at g; exact absurd g c'
  ·intro g; rw [neq_f] at g; exact absurd g c'
def gt6f (T : Tb) (k : Int) : D × List Prop := (.tup [.agg [i64 (gtN T k T.x1), i64 (gtN T k T.x2), i64 (gtN T k T.x3), i64 (gtN T k T.x4), i64 (gtN T k T.x5), u64 (gtN T k T.x6)], i64 (gtE T k)], [okT T ∧ inU k])
def gt6C : List D → Option (D × List Prop) := conTK gt6f
theorem gt6C_ok (args res l) (h : gt6C args = some (res, l)) (hl : AllP l) : CallsD Try.prog 21 args res := conTK_ok (f := gt6f) (fun T k h => gt6_ok T k h.1) args res l h hl
def dr6f (T : Tb) (k : Int) : D × List Prop := (.tup [(drX T k).o, i64 (drE T k)], [okT T ∧ inU k])
def dr6C : List D → Option (D × List Prop) := conTK dr6f
theorem dr6C_ok (args res l) (h : dr6C args = some (res, l)) (hl : AllP l) : CallsD Try.prog 25 args res := conTK_ok (f := dr6f) (fun T k h => dr6_ok T k h.1) args res l h hl
/-- A contract of a function of a table, a limit and a tick. -/
def conTL (f : Tb → Int → Int → Int → Int → D × List Prop) : List D → Option (D × List Prop)
 | [d, .agg [.v (.int .i64 b), .v (.int .i64 r), .v (.int .i64 p)], .v (.int .u64 a)] => match tbOf d with
  | some T => some (f T b r p a)
  | none => none
 | _ => none
theorem conTL_ok {f : Tb → Int → Int → Int → Int → D × List Prop} {g : FuncId} (hf : ∀ T b r p a, AllP (f T b r p a).2 → CallsD Try.prog g [T.d, .agg [i64 b, i64 r, i64 p], u64 a] (f T b r p a).1) (args res l) (h : conTL f args = some (res, l)) (hl : AllP l) : CallsD Try.prog g args res := by
 unfold conTL at h
 split at h
 next d b r p a =>
  split at h
  next T ht =>
   simp only [Option.some.injEq] at h
   have e := tbOf_d ht
   subst e
   have := hf T b r p a (by rw [h]; exact hl)
   rw [h] at this; exact this
  ·cases h
 ·cases h
noncomputable def limf (T : Tb) (b r p a : Int) : D × List Prop := (.tup [(lmV T b r p a).o, i64 (lmE T b r p)], [lmS T a])
noncomputable def lim6C : List D → Option (D × List Prop) := conTL limf
theorem limXA_ok (args res l) (h : lim6C args = some (res, l)) (hl : AllP l) : CallsD Try.prog 26 args res := conTL_ok (f := limf) (fun T b r p a h => lm_ok T b r p a h.1) args res l h hl
theorem limXB_ok (args res l) (h : lim6C args = some (res, l)) (hl : AllP l) : CallsD Try.prog 27 args res := conTL_ok (f := limf) (fun T b r p a h => l6_ok T b r p a h.1) args res l h hl
theorem st6C_ok (args res l) (h : seC args = some (res, l)) (hl : AllP l) : CallsD Try.prog 23 args res := by
 unfold seC at h; split at h
 ·simp only [Option.some.injEq, Prod.mk.injEq] at h
  obtain ⟨rfl, rfl⟩ := h
  exact st6_ok _ _ _ _ _ _ _ _ hl.1
 ·cases h
noncomputable def X29 : Contracts := addCon 26 (.call lim6C) (addCon 27 (.call lim6C) (addCon 21 (.call gt6C) (addCon 23 (.call seC) (addCon 25 (.call dr6C) X28))))
theorem hX29 : ConOK Try.prog X29 := addCall_ok limXA_ok (addCall_ok limXB_ok (addCall_ok gt6C_ok (addCall_ok st6C_ok (addCall_ok dr6C_ok hX28))))
end TableS
end

section
namespace TableS
open Go Go.Dam Go.Proofs Go.RowKit Go.ChangeShapes Go.WideShapes
set_option maxRecDepth 1000000
/-- What is known of any table that comes in. -/
def okW (T : Tb) : Prop := (∀ i, i < T.kx.length → inU (T.kx.getD i 0)) ∧ (∀ i, i < T.ks.length → inU (T.ks.getD i 0)) ∧ (∀ i, i < T.x1.length → in64 (T.x4.getD i 0)) ∧
 T.x2.length = T.x1.length ∧ T.x3.length = T.x1.length ∧ T.x4.length = T.x1.length ∧ T.x5.length = T.x1.length ∧ T.x6.length = T.x1.length ∧ T.px.length = T.kx.length ∧ T.ux.length = T.kx.length ∧ ∀ i, i < T.x1.length → 0 ≤ T.x6.getD i 0 ∧ T.x6.getD i 0 < 18446744073709551616
theorem okT_of {T : Tb} (h : okW T) (g : T.great = false) : okT T := by
 obtain ⟨h1, h2, h3, e2, e3, e4, e5, e6, e7, e8, _⟩ := h
 simp only [Tb.great, gr2, Bool.or_eq_false_iff, decide_eq_false_iff_not] at g
 obtain ⟨g1, g2, g3, ⟨g4, g5⟩, g6, g7⟩ := g
 exact ⟨⟨by omega, h1⟩, h2, h3, by omega, by omega, by omega, ⟨by omega, e2, e3, e4, e5, e6⟩, ⟨by omega, e7, e8⟩, by omega, by omega⟩
theorem notLive : ¬ Live := fun h => by cases h
def bKinds : List IntKind := [.i64, .i64, .i64, .i64, .i64, .u64]
def lKinds : List IntKind := [.i64, .i64, .i64]
def tKinds : List FK := [.one (.int .i64), .row [.int .u32], .row (bKinds.map CK.int), .row [.int .i64], .row [.bool], .one (.int .i64), .row [.int .u32, .int .i64, .bool], .row [.int .i64], .row [.int .i64], .one (.int .i64), .one (.int .i64)]
theorem ffits_cons {w : World} {k : FK} {ks : List FK} {vs : List Value} (h : FFits w (k :: ks) vs) : ∃ v vs', vs = v :: vs' ∧ k.ok w v ∧ FFits w ks vs' := by
 cases vs with
 | nil => cases h
 | cons v vs' => exact ⟨v, vs', rfl, h.1, h.2⟩
theorem wf_i64 {n : Int} (h : (Lit.int .i64 n).wf = true) : in64 n := by
 unfold in64
 simp [Lit.wf, IntKind.has, IntKind.min, IntKind.max, IntKind.signed, IntKind.bits] at h; omega
def inQ (n : Int) : Prop := 0 ≤ n ∧ n < 18446744073709551616
theorem wf_u64 {n : Int} (h : (Lit.int .u64 n).wf = true) : inQ n := by
 unfold inQ
 simp [Lit.wf, IntKind.has, IntKind.min, IntKind.max, IntKind.signed, IntKind.bits] at h; omega
theorem rep_nums {w : World} {A : Nat → Prop} (ks : List IntKind) (f : Nat → Int) : RepS w A (.agg (mkL ks f)) (.agg (mkVal ks f).toArray) := rep_ints ks f
theorem one_int {w : World} {k : IntKind} {v : Value} (h : (FK.one (.int k)).ok w v) : ∃ n, v = .int k n := by
 obtain ⟨n, e, _⟩ := h; exact ⟨n, e⟩
theorem row_ints {w : World} {k : IntKind} {v : Value} (h : (FK.row [.int k]).ok w v) : ∃ xs, RepS w (fun k => k < w.heap.size) (.rc [.ints k xs]) v ∧ ∀ i, i < xs.length → (Lit.int k (xs.getD i 0)).wf = true := by
 obtain ⟨cols, n, hc, hr⟩ := h
 obtain ⟨xs, cs, rfl, e, hw, hc⟩ := colsOf_int hc
 have := colsOf_nil hc; subst this; subst e
 exact ⟨xs, hr.rep notLive rfl (fun c hc m f q => by simp at hc; subst hc; cases q), hw⟩
theorem row_bools {w : World} {v : Value} (h : (FK.row [.bool]).ok w v) : ∃ xs, RepS w (fun k => k < w.heap.size) (.rc [.bools xs]) v := by
 obtain ⟨cols, n, hc, hr⟩ := h
 obtain ⟨xs, cs, rfl, e, hc⟩ := colsOf_bool hc
 have := colsOf_nil hc; subst this; subst e
 exact ⟨xs, hr.rep notLive rfl (fun c hc m f q => by simp at hc; subst hc; cases q)⟩
theorem row_cells {w : World} {v : Value} (h : (FK.row [.int .u32, .int .i64, .bool]).ok w v) : ∃ kx px ux, RepS w (fun k => k < w.heap.size) (cc kx px ux) v ∧ px.length = kx.length ∧ ux.length = kx.length ∧ ∀ i, i < kx.length → inU (kx.getD i 0) := by
 obtain ⟨cols, n, hc, hr⟩ := h
 obtain ⟨kx, cs, rfl, e, hw, hc⟩ := colsOf_int hc
 obtain ⟨px, cs, rfl, e2, _, hc⟩ := colsOf_int hc
 obtain ⟨ux, cs, rfl, e3, hc⟩ := colsOf_bool hc
 have := colsOf_nil hc; subst this; subst e
 exact ⟨kx, px, ux, hr.rep notLive rfl (fun c hc m f q => by simp at hc; rcases hc with rfl | rfl | rfl <;> cases q), e2, e3, fun i hi => wf_u32 (hw i hi)⟩
theorem row_buckets {w : World} {v : Value} (h : (FK.row (bKinds.map CK.int)).ok w v) : ∃ x1 x2 x3 x4 x5 x6, RepS w (fun k => k < w.heap.size) (kr x1 x2 x3 x4 x5 x6) v ∧
  (x2.length = x1.length ∧ x3.length = x1.length ∧ x4.length = x1.length ∧ x5.length = x1.length ∧ x6.length = x1.length) ∧ (∀ i, i < x1.length → in64 (x4.getD i 0)) ∧ ∀ i, i < x1.length → inQ (x6.getD i 0) := by
 obtain ⟨cols, n, hc, hr⟩ := h
 obtain ⟨x1, cs, rfl, e, _, hc⟩ := colsOf_int hc
 obtain ⟨x2, cs, rfl, e2, _, hc⟩ := colsOf_int hc
 obtain ⟨x3, cs, rfl, e3, _, hc⟩ := colsOf_int hc
 obtain ⟨x4, cs, rfl, e4, hw, hc⟩ := colsOf_int hc
 obtain ⟨x5, cs, rfl, e5, _, hc⟩ := colsOf_int hc
 obtain ⟨x6, cs, rfl, e6, h6, hc⟩ := colsOf_int hc
 have := colsOf_nil hc; subst this; subst e
 exact ⟨x1, x2, x3, x4, x5, x6, hr.rep notLive rfl (fun c hc m f q => by simp at hc; rcases hc with rfl | rfl | rfl | rfl | rfl | rfl <;> cases q), ⟨e2, e3, e4, e5, e6⟩, fun i hi => wf_i64 (hw i hi), fun i hi => wf_u64 (h6 i hi)⟩
/-- A table that comes in. -/
theorem table_in {w : World} {vs : List Value} (h : FFits w tKinds vs) : ∃ T : Tb, okW T ∧ RepS w (fun k => k < w.heap.size) T.d (.agg vs.toArray) := by
 obtain ⟨v0, vs, rfl, h0, h⟩ := ffits_cons h
 obtain ⟨v1, vs, rfl, h1, h⟩ := ffits_cons h
 obtain ⟨v2, vs, rfl, h2, h⟩ := ffits_cons h
 obtain ⟨v3, vs, rfl, h3, h⟩ := ffits_cons h
 obtain ⟨v4, vs, rfl, h4, h⟩ := ffits_cons h
 obtain ⟨v5, vs, rfl, h5, h⟩ := ffits_cons h
 obtain ⟨v6, vs, rfl, h6, h⟩ := ffits_cons h
 obtain ⟨v7, vs, rfl, h7, h⟩ := ffits_cons h
 obtain ⟨v8, vs, rfl, h8, h⟩ := ffits_cons h
 obtain ⟨v9, vs, rfl, h9, h⟩ := ffits_cons h
 obtain ⟨v10, vs, rfl, h10, h⟩ := ffits_cons h
 have : vs = [] := by cases vs with | nil => rfl | cons => cases h
 subst this
 obtain ⟨n, rfl⟩ := one_int h0
 obtain ⟨ks, r1, k1⟩ := row_ints h1
 obtain ⟨x1, x2, x3, x4, x5, x6, r2, ⟨e2, e3, e4, e5, e6⟩, k2, k3⟩ := row_buckets h2
 obtain ⟨nx, r3, _⟩ := row_ints h3
 obtain ⟨us, r4⟩ := row_bools h4
 obtain ⟨fr, rfl⟩ := one_int h5
 obtain ⟨kx, px, ux, r6, e7, e8, k6⟩ := row_cells h6
 obtain ⟨ps, r7, _⟩ := row_ints h7
 obtain ⟨no, r8, _⟩ := row_ints h8
 obtain ⟨hh, rfl⟩ := one_int h9
 obtain ⟨t, rfl⟩ := one_int h10
 refine ⟨⟨n, ks, x1, x2, x3, x4, x5, x6, nx, us, fr, kx, px, ux, ps, no, hh, t⟩, ⟨k6, fun i hi => wf_u32 (k1 i hi), k2, e2, e3, e4, e5, e6, e7, e8, k3⟩, ?_⟩
 simp only [RepS]
 refine ⟨_, rfl, ?_⟩
 simp only [RepL]
 exact ⟨_, _, rfl, rfl, _, _, rfl, r1, _, _, rfl, r2, _, _, rfl, r3, _, _, rfl, r4, _, _, rfl, rfl, _, _, rfl, r6, _, _, rfl, r7, _, _, rfl, r8, _, _, rfl, rfl, _, _, rfl, rfl, rfl⟩
end TableS
end
