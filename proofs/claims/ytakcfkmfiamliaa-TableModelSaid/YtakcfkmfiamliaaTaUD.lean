/- What the functions compute, and the law. No condition. -/
import Derived.Test.YtakcfkmfiamliaaTaUL
import Derived.Test.YtakcfkmfiamliaaTaUG
set_option linter.unusedSectionVars false
set_option linter.unusedVariables false
set_option linter.unusedSimpArgs false
section
namespace TableS
open Go Go.Dam Go.Proofs
set_option maxRecDepth 1000000
noncomputable def us_c0 (T : Tb) := if tkO T.nx T.us T.fr then T.nx.set T.fr.toNat (-1) else []
noncomputable def us_c1 (T : Tb) := if tkO T.nx T.us T.fr then T.us.set T.fr.toNat true else []
noncomputable def us_c2 (T : Tb) := dpR T.kx T.px T.ux (T.ks.getD (laI T.ps T.no T.h T.t).toNat 0)
noncomputable def us_c3 (T : Tb) := T.ks.set (plV T (T.ks.getD (laI T.ps T.no T.h T.t).toNat 0)).toNat 0
noncomputable def us_c4 (T : Tb) := T.x1.set (plV T (T.ks.getD (laI T.ps T.no T.h T.t).toNat 0)).toNat 0
noncomputable def us_c5 (T : Tb) := T.x2.set (plV T (T.ks.getD (laI T.ps T.no T.h T.t).toNat 0)).toNat 0
noncomputable def us_c6 (T : Tb) := T.x3.set (plV T (T.ks.getD (laI T.ps T.no T.h T.t).toNat 0)).toNat 0
noncomputable def us_c7 (T : Tb) := T.x4.set (plV T (T.ks.getD (laI T.ps T.no T.h T.t).toNat 0)).toNat 0
noncomputable def us_c8 (T : Tb) := T.x5.set (plV T (T.ks.getD (laI T.ps T.no T.h T.t).toNat 0)).toNat 0
noncomputable def us_c9 (T : Tb) := T.x6.set (plV T (T.ks.getD (laI T.ps T.no T.h T.t).toNat 0)).toNat 0
noncomputable def us_c10 (T : Tb) (k : Int) := if toO T.ps T.no T.h T.t (plV T k) then toP T.ps T.no T.h (plV T k) else []
noncomputable def us_c11 (T : Tb) (k : Int) := if toO T.ps T.no T.h T.t (plV T k) then toN T.ps T.no T.h (plV T k) else []
noncomputable def us_c12 (T : Tb) (k : Int) := if ppO T.kx T.px T.ux k (if tkO T.nx T.us T.fr then T.fr else 0) then T.kx.set (lkI T.kx T.ux k) k else []
noncomputable def us_c13 (T : Tb) := if dpO T.kx T.px T.ux (T.ks.getD (laI T.ps T.no T.h T.t).toNat 0) then (us_c2 T).kx.set (us_c2 T).i 0 else []
noncomputable def us_c14 (T : Tb) := if dpO T.kx T.px T.ux (T.ks.getD (laI T.ps T.no T.h T.t).toNat 0) then (us_c2 T).px.set (us_c2 T).i 0 else []
noncomputable def us_c15 (T : Tb) (k : Int) := if ppO T.kx T.px T.ux k (if tkO T.nx T.us T.fr then T.fr else 0) then T.ux.set (lkI T.kx T.ux k) true else []
noncomputable def us_c16 (T : Tb) := if dpO T.kx T.px T.ux (T.ks.getD (laI T.ps T.no T.h T.t).toNat 0) then (us_c2 T).ux.set (us_c2 T).i false else []
noncomputable def us_c17 (T : Tb) : Int := if gvO T.nx T.us T.fr (plV T (T.ks.getD (laI T.ps T.no T.h T.t).toNat 0)) then plV T (T.ks.getD (laI T.ps T.no T.h T.t).toNat 0) else 0
noncomputable def us_c18 (T : Tb) := if toO T.ps T.no T.h T.t (if tkO T.nx T.us T.fr then T.fr else 0) then toP T.ps T.no T.h (if tkO T.nx T.us T.fr then T.fr else 0) else []
noncomputable def us_c19 (T : Tb) := if toO T.ps T.no T.h T.t (if tkO T.nx T.us T.fr then T.fr else 0) then toN T.ps T.no T.h (if tkO T.nx T.us T.fr then T.fr else 0) else []
noncomputable def us_c20 (T : Tb) (k : Int) := if ppO T.kx T.px T.ux k (if tkO T.nx T.us T.fr then T.fr else 0) then T.px.set (lkI T.kx T.ux k) (if tkO T.nx T.us T.fr then T.fr else 0) else []
noncomputable def us_c21 (T : Tb) := if rmO T.ps T.no T.h T.t (plV T (T.ks.getD (laI T.ps T.no T.h T.t).toNat 0)) then rmP T.ps T.no (plV T (T.ks.getD (laI T.ps T.no T.h T.t).toNat 0)) else []
noncomputable def us_c22 (T : Tb) := if rmO T.ps T.no T.h T.t (plV T (T.ks.getD (laI T.ps T.no T.h T.t).toNat 0)) then rmN T.ps T.no (plV T (T.ks.getD (laI T.ps T.no T.h T.t).toNat 0)) else []
noncomputable def us_c23 (T : Tb) := if gvO T.nx T.us T.fr (plV T (T.ks.getD (laI T.ps T.no T.h T.t).toNat 0)) then T.nx.set (plV T (T.ks.getD (laI T.ps T.no T.h T.t).toNat 0)).toNat T.fr else []
noncomputable def us_c24 (T : Tb) : Int := if rmO T.ps T.no T.h T.t (plV T (T.ks.getD (laI T.ps T.no T.h T.t).toNat 0)) then rmH T.ps T.no T.h (plV T (T.ks.getD (laI T.ps T.no T.h T.t).toNat 0)) else 0
noncomputable def us_c25 (T : Tb) : Int := if rmO T.ps T.no T.h T.t (plV T (T.ks.getD (laI T.ps T.no T.h T.t).toNat 0)) then rmT T.ps T.no T.t (plV T (T.ks.getD (laI T.ps T.no T.h T.t).toNat 0)) else 0
noncomputable def us_c26 (T : Tb) := if gvO T.nx T.us T.fr (plV T (T.ks.getD (laI T.ps T.no T.h T.t).toNat 0)) then T.us.set (plV T (T.ks.getD (laI T.ps T.no T.h T.t).toNat 0)).toNat false else []
noncomputable def us_c27 (T : Tb) := if tkO (us_c23 T) (us_c26 T) (us_c17 T) then (us_c23 T).set (us_c17 T).toNat (-1) else []
noncomputable def us_c28 (T : Tb) := if tkO (us_c23 T) (us_c26 T) (us_c17 T) then (us_c26 T).set (us_c17 T).toNat true else []
noncomputable def us_c29 (T : Tb) := rowLen0 [.ints .i64 T.x1, .ints .i64 T.x2, .ints .i64 T.x3, .ints .i64 T.x4, .ints .i64 T.x5, .ints .u64 T.x6]
noncomputable def us_c30 (T : Tb) : Int := if tkO (us_c23 T) (us_c26 T) (us_c17 T) then if gvO T.nx T.us T.fr (plV T (T.ks.getD (laI T.ps T.no T.h T.t).toNat 0)) then plV T (T.ks.getD (laI T.ps T.no T.h T.t).toNat 0) else 0 else 0
noncomputable def us_c31 (T : Tb) (k : Int) := if ppO (us_c13 T) (us_c14 T) (us_c16 T) k (us_c30 T) then (us_c13 T).set (lkI (us_c13 T) (us_c16 T) k) k else []
noncomputable def us_c32 (T : Tb) (k : Int) := if ppO (us_c13 T) (us_c14 T) (us_c16 T) k (us_c30 T) then (us_c16 T).set (lkI (us_c13 T) (us_c16 T) k) true else []
noncomputable def us_c33 (T : Tb) (k : Int) := if ppO (us_c13 T) (us_c14 T) (us_c16 T) k (us_c30 T) then (us_c14 T).set (lkI (us_c13 T) (us_c16 T) k) (us_c30 T) else []
noncomputable def us_c34 (T : Tb) := if toO (us_c21 T) (us_c22 T) (us_c24 T) (us_c25 T) (us_c30 T) then toP (us_c21 T) (us_c22 T) (us_c24 T) (us_c30 T) else []
noncomputable def us_c35 (T : Tb) := if toO (us_c21 T) (us_c22 T) (us_c24 T) (us_c25 T) (us_c30 T) then toN (us_c21 T) (us_c22 T) (us_c24 T) (us_c30 T) else []
noncomputable def us_T (T : Tb) (k : Int) (b : Int) (r : Int) (p : Int) (a : Int) : Tr D := .s (okT T) (.d (cmpI .neq (tcV T) 0) (fun e0 => .lf (D.tup [D.agg [i64 0, D.v (Value.slice none 0 0), D.v (Value.slice none 0 0), D.v (Value.slice none 0 0), D.v (Value.slice none 0 0), i64 0, D.v (Value.slice none 0 0), D.v (Value.slice none 0 0), D.v (Value.slice none 0 0), i64 0, i64 0], u32 0, bo false, i64 (tcV T)])) (fun e0 => .d (cmpI .neq (limV b r p) 0) (fun e1 => .p (.d true) (.k _ e1 (.lf (D.tup [D.agg [i64 0, D.v (Value.slice none 0 0), D.v (Value.slice none 0 0), D.v (Value.slice none 0 0), D.v (Value.slice none 0 0), i64 0, D.v (Value.slice none 0 0), D.v (Value.slice none 0 0), D.v (Value.slice none 0 0), i64 0, i64 0], u32 0, bo false, i64 (limV b r p)])))) (fun e1 => .p (.c 0) (.s (T.ks.length ≤ 200) (.s (kcS T.x1 T.x2 T.x3 T.x4 T.x5 T.x6) (.s (T.nx.length ≤ 200) (.s (T.us.length ≤ 200) (.s (ccS T.kx T.px T.ux) (.s (T.ps.length ≤ 200) (.s (T.no.length ≤ 200) (.s (okT T ∧ inU k) (.q (rowLen0 [.ints .i64 T.no]) (.q (rowLen0 [.ints .i64 T.ps]) (.q (rowLen0 [.ints .u32 T.kx, .ints .i64 T.px, .bools T.ux]) (.q (rowLen0 [.bools T.us]) (.q (rowLen0 [.ints .i64 T.nx]) (.q (rowLen0 [.ints .i64 T.x1, .ints .i64 T.x2, .ints .i64 T.x3, .ints .i64 T.x4, .ints .i64 T.x5, .ints .u64 T.x6]) (.q (rowLen0 [.ints .u32 T.ks]) (.d (cmpI .lss (plV T k) 0) (fun e2 => .s (T.us.length ≤ 200 ∧ T.nx.length ≤ 200) (.q (rowLen0 [.bools T.us]) (.q (rowLen0 [.ints .i64 T.nx]) (.d (cmpI .neq (tkE T.nx T.us T.fr) 0) (fun e3 => .q (rowLen0 [.ints .i64 T.no]) (.q (rowLen0 [.ints .i64 T.ps]) (.s (decide (laI T.ps T.no T.h T.t < ↑(rowLen0 [.ints .u32 T.ks])) = true) (.s (decide (0 ≤ laI T.ps T.no T.h T.t) = true) (.s ((laI T.ps T.no T.h T.t).toNat < rowLen0 [.ints .u32 T.ks]) (.s (okT T ∧ inU (T.ks.getD (laI T.ps T.no T.h T.t).toNat 0)) (.q (rowLen0 [.ints .i64 T.no]) (.q (rowLen0 [.ints .i64 T.ps]) (.q (rowLen0 [.ints .u32 T.kx, .ints .i64 T.px, .bools T.ux]) (.q (rowLen0 [.bools T.us]) (.q (rowLen0 [.ints .i64 T.nx]) (.q (rowLen0 [.ints .i64 T.x1, .ints .i64 T.x2, .ints .i64 T.x3, .ints .i64 T.x4, .ints .i64 T.x5, .ints .u64 T.x6]) (.q (rowLen0 [.ints .u32 T.ks]) (.q (rowLen0 [.ints .i64 T.no]) (.q (rowLen0 [.ints .i64 T.ps]) (.s (okI T.kx ∧ inU (T.ks.getD (laI T.ps T.no T.h T.t).toNat 0) ∧ ccS T.kx T.px T.ux) (.q (rowLen0 [.ints .u32 T.kx, .ints .i64 T.px, .bools T.ux]) (.s (T.us.length ≤ 200 ∧ T.nx.length ≤ 200) (.q (rowLen0 [.bools T.us]) (.q (rowLen0 [.ints .i64 T.nx]) (.s (decide (plV T (T.ks.getD (laI T.ps T.no T.h T.t).toNat 0) < ↑(rowLen0 [.ints .u32 T.ks])) = true) (.s (decide (0 ≤ plV T (T.ks.getD (laI T.ps T.no T.h T.t).toNat 0)) = true) (.s ((Col0.ints .u32 T.ks).len = rowLen0 [.ints .u32 T.ks]) (.s ((plV T (T.ks.getD (laI T.ps T.no T.h T.t).toNat 0)).toNat < rowLen0 [.ints .u32 T.ks]) (.s (decide (plV T (T.ks.getD (laI T.ps T.no T.h T.t).toNat 0) < ↑(us_c29 T)) = true) (.s (decide (0 ≤ plV T (T.ks.getD (laI T.ps T.no T.h T.t).toNat 0)) = true) (.s ((Col0.ints .u64 T.x6).len = rowLen0 [.ints .i64 T.x1, .ints .i64 T.x2, .ints .i64 T.x3, .ints .i64 T.x4, .ints .i64 T.x5, .ints .u64 T.x6]) (.s ((Col0.ints .i64 T.x5).len = rowLen0 [.ints .i64 T.x1, .ints .i64 T.x2, .ints .i64 T.x3, .ints .i64 T.x4, .ints .i64 T.x5, .ints .u64 T.x6]) (.s ((Col0.ints .i64 T.x4).len = rowLen0 [.ints .i64 T.x1, .ints .i64 T.x2, .ints .i64 T.x3, .ints .i64 T.x4, .ints .i64 T.x5, .ints .u64 T.x6]) (.s ((Col0.ints .i64 T.x3).len = rowLen0 [.ints .i64 T.x1, .ints .i64 T.x2, .ints .i64 T.x3, .ints .i64 T.x4, .ints .i64 T.x5, .ints .u64 T.x6]) (.s ((Col0.ints .i64 T.x2).len = rowLen0 [.ints .i64 T.x1, .ints .i64 T.x2, .ints .i64 T.x3, .ints .i64 T.x4, .ints .i64 T.x5, .ints .u64 T.x6]) (.s ((Col0.ints .i64 T.x1).len = rowLen0 [.ints .i64 T.x1, .ints .i64 T.x2, .ints .i64 T.x3, .ints .i64 T.x4, .ints .i64 T.x5, .ints .u64 T.x6]) (.s ((plV T (T.ks.getD (laI T.ps T.no T.h T.t).toNat 0)).toNat < rowLen0 [.ints .i64 T.x1, .ints .i64 T.x2, .ints .i64 T.x3, .ints .i64 T.x4, .ints .i64 T.x5, .ints .u64 T.x6]) (.s ((us_c26 T).length ≤ 200 ∧ (us_c23 T).length ≤ 200) (.q (rowLen0 [.bools (us_c26 T)]) (.q (rowLen0 [.ints .i64 (us_c23 T)]) (.s (okI (us_c13 T) ∧ inU k ∧ ccS (us_c13 T) (us_c14 T) (us_c16 T)) (.q (rowLen0 [.ints .u32 (us_c13 T), .ints .i64 (us_c14 T), .bools (us_c16 T)]) (.s (decide ((us_c30 T) < ↑(rowLen0 [.ints .u32 T.ks])) = true) (.s (decide (0 ≤ if tkO (us_c23 T) (us_c26 T) (us_c17 T) then if gvO T.nx T.us T.fr (plV T (T.ks.getD (laI T.ps T.no T.h T.t).toNat 0)) then plV T (T.ks.getD (laI T.ps T.no T.h T.t).toNat 0) else 0 else 0) = true) (.s ((Col0.ints .u32 (us_c3 T)).len = rowLen0 [.ints .u32 (us_c3 T)]) (.s ((us_c30 T).toNat < rowLen0 [.ints .u32 (us_c3 T)]) (.s (decide ((us_c30 T) < ↑(us_c29 T)) = true) (.s (decide (0 ≤ if tkO (us_c23 T) (us_c26 T) (us_c17 T) then if gvO T.nx T.us T.fr (plV T (T.ks.getD (laI T.ps T.no T.h T.t).toNat 0)) then plV T (T.ks.getD (laI T.ps T.no T.h T.t).toNat 0) else 0 else 0) = true) (.s ((Col0.ints .u64 (us_c9 T)).len = rowLen0 [.ints .i64 (us_c4 T), .ints .i64 (us_c5 T), .ints .i64 (us_c6 T), .ints .i64 (us_c7 T), .ints .i64 (us_c8 T), .ints .u64 (us_c9 T)]) (.s ((Col0.ints .i64 (us_c8 T)).len = rowLen0 [.ints .i64 (us_c4 T), .ints .i64 (us_c5 T), .ints .i64 (us_c6 T), .ints .i64 (us_c7 T), .ints .i64 (us_c8 T), .ints .u64 (us_c9 T)]) (.s ((Col0.ints .i64 (us_c7 T)).len = rowLen0 [.ints .i64 (us_c4 T), .ints .i64 (us_c5 T), .ints .i64 (us_c6 T), .ints .i64 (us_c7 T), .ints .i64 (us_c8 T), .ints .u64 (us_c9 T)]) (.s ((Col0.ints .i64 (us_c6 T)).len = rowLen0 [.ints .i64 (us_c4 T), .ints .i64 (us_c5 T), .ints .i64 (us_c6 T), .ints .i64 (us_c7 T), .ints .i64 (us_c8 T), .ints .u64 (us_c9 T)]) (.s ((Col0.ints .i64 (us_c5 T)).len = rowLen0 [.ints .i64 (us_c4 T), .ints .i64 (us_c5 T), .ints .i64 (us_c6 T), .ints .i64 (us_c7 T), .ints .i64 (us_c8 T), .ints .u64 (us_c9 T)]) (.s ((Col0.ints .i64 (us_c4 T)).len = rowLen0 [.ints .i64 (us_c4 T), .ints .i64 (us_c5 T), .ints .i64 (us_c6 T), .ints .i64 (us_c7 T), .ints .i64 (us_c8 T), .ints .u64 (us_c9 T)]) (.s ((us_c30 T).toNat < rowLen0 [.ints .i64 (us_c4 T), .ints .i64 (us_c5 T), .ints .i64 (us_c6 T), .ints .i64 (us_c7 T), .ints .i64 (us_c8 T), .ints .u64 (us_c9 T)]) (.q (rowLen0 [.ints .i64 (us_c22 T)]) (.q (rowLen0 [.ints .i64 (us_c21 T)]) (.q (rowLen0 [.ints .i64 (us_c35 T)]) (.q (rowLen0 [.ints .i64 (us_c34 T)]) (.q (rowLen0 [.ints .u32 (us_c31 T k), .ints .i64 (us_c33 T k), .bools (us_c32 T k)]) (.q (rowLen0 [.bools (us_c28 T)]) (.q (rowLen0 [.ints .i64 (us_c27 T)]) (.s (rowLen0 [.ints .i64 T.x1, .ints .i64 T.x2, .ints .i64 T.x3, .ints .i64 T.x4, .ints .i64 T.x5, .ints .u64 T.x6] = rowLen0 [.ints .i64 ((us_c4 T).set (us_c30 T).toNat b), .ints .i64 ((us_c5 T).set (us_c30 T).toNat r), .ints .i64 ((us_c6 T).set (us_c30 T).toNat p), .ints .i64 ((us_c7 T).set (us_c30 T).toNat b), .ints .i64 ((us_c8 T).set (us_c30 T).toNat 0), .ints .u64 ((us_c9 T).set (us_c30 T).toNat a)]) (.s (rowLen0 [.ints .u32 T.ks] = rowLen0 [.ints .u32 ((us_c3 T).set (us_c30 T).toNat k)]) (.lf (D.tup [D.agg [i64 T.n, D.oc [.ints .u32 ((us_c3 T).set (us_c30 T).toNat k)], D.oc [.ints .i64 ((us_c4 T).set (us_c30 T).toNat b), .ints .i64 ((us_c5 T).set (us_c30 T).toNat r), .ints .i64 ((us_c6 T).set (us_c30 T).toNat p), .ints .i64 ((us_c7 T).set (us_c30 T).toNat b), .ints .i64 ((us_c8 T).set (us_c30 T).toNat 0), .ints .u64 ((us_c9 T).set (us_c30 T).toNat a)], D.oc [.ints .i64 (us_c27 T)], D.oc [.bools (us_c28 T)], i64 (if tkO (us_c23 T) (us_c26 T) (us_c17 T) then (us_c23 T).getD (us_c17 T).toNat 0 else 0), D.oc [.ints .u32 (us_c31 T k), .ints .i64 (us_c33 T k), .bools (us_c32 T k)], D.oc [.ints .i64 (us_c34 T)], D.oc [.ints .i64 (us_c35 T)], i64 (if toO (us_c21 T) (us_c22 T) (us_c24 T) (us_c25 T) (us_c30 T) then if tkO (us_c23 T) (us_c26 T) (us_c17 T) then if gvO T.nx T.us T.fr (plV T (T.ks.getD (laI T.ps T.no T.h T.t).toNat 0)) then plV T (T.ks.getD (laI T.ps T.no T.h T.t).toNat 0) else 0 else 0 else 0), i64 (if toO (us_c21 T) (us_c22 T) (us_c24 T) (us_c25 T) (us_c30 T) then toT (us_c21 T) (us_c22 T) (us_c24 T) (us_c25 T) (us_c30 T) else 0)], u32 (T.ks.getD (laI T.ps T.no T.h T.t).toNat 0), bo true, i64 0])))))))))))))))))))))))))))))))))))))))))))))))))))))))))))))) (fun e3 => .s (T.us.length ≤ 200 ∧ T.nx.length ≤ 200) (.q (rowLen0 [.bools T.us]) (.q (rowLen0 [.ints .i64 T.nx]) (.s (okI T.kx ∧ inU k ∧ ccS T.kx T.px T.ux) (.q (rowLen0 [.ints .u32 T.kx, .ints .i64 T.px, .bools T.ux]) (.s (decide ((if tkO T.nx T.us T.fr then T.fr else 0) < ↑(rowLen0 [.ints .u32 T.ks])) = true) (.s (decide (0 ≤ if tkO T.nx T.us T.fr then T.fr else 0) = true) (.s ((Col0.ints .u32 T.ks).len = rowLen0 [.ints .u32 T.ks]) (.s ((if tkO T.nx T.us T.fr then T.fr else 0).toNat < rowLen0 [.ints .u32 T.ks]) (.s (decide ((if tkO T.nx T.us T.fr then T.fr else 0) < ↑(us_c29 T)) = true) (.s (decide (0 ≤ if tkO T.nx T.us T.fr then T.fr else 0) = true) (.s ((Col0.ints .u64 T.x6).len = rowLen0 [.ints .i64 T.x1, .ints .i64 T.x2, .ints .i64 T.x3, .ints .i64 T.x4, .ints .i64 T.x5, .ints .u64 T.x6]) (.s ((Col0.ints .i64 T.x5).len = rowLen0 [.ints .i64 T.x1, .ints .i64 T.x2, .ints .i64 T.x3, .ints .i64 T.x4, .ints .i64 T.x5, .ints .u64 T.x6]) (.s ((Col0.ints .i64 T.x4).len = rowLen0 [.ints .i64 T.x1, .ints .i64 T.x2, .ints .i64 T.x3, .ints .i64 T.x4, .ints .i64 T.x5, .ints .u64 T.x6]) (.s ((Col0.ints .i64 T.x3).len = rowLen0 [.ints .i64 T.x1, .ints .i64 T.x2, .ints .i64 T.x3, .ints .i64 T.x4, .ints .i64 T.x5, .ints .u64 T.x6]) (.s ((Col0.ints .i64 T.x2).len = rowLen0 [.ints .i64 T.x1, .ints .i64 T.x2, .ints .i64 T.x3, .ints .i64 T.x4, .ints .i64 T.x5, .ints .u64 T.x6]) (.s ((Col0.ints .i64 T.x1).len = rowLen0 [.ints .i64 T.x1, .ints .i64 T.x2, .ints .i64 T.x3, .ints .i64 T.x4, .ints .i64 T.x5, .ints .u64 T.x6]) (.s ((if tkO T.nx T.us T.fr then T.fr else 0).toNat < rowLen0 [.ints .i64 T.x1, .ints .i64 T.x2, .ints .i64 T.x3, .ints .i64 T.x4, .ints .i64 T.x5, .ints .u64 T.x6]) (.q (rowLen0 [.ints .i64 T.no]) (.q (rowLen0 [.ints .i64 T.ps]) (.q (rowLen0 [.ints .i64 (us_c19 T)]) (.q (rowLen0 [.ints .i64 (us_c18 T)]) (.q (rowLen0 [.ints .u32 (us_c12 T k), .ints .i64 (us_c20 T k), .bools (us_c15 T k)]) (.q (rowLen0 [.bools (us_c1 T)]) (.q (rowLen0 [.ints .i64 (us_c0 T)]) (.s (rowLen0 [.ints .i64 T.x1, .ints .i64 T.x2, .ints .i64 T.x3, .ints .i64 T.x4, .ints .i64 T.x5, .ints .u64 T.x6] = rowLen0 [.ints .i64 (T.x1.set (if tkO T.nx T.us T.fr then T.fr else 0).toNat b), .ints .i64 (T.x2.set (if tkO T.nx T.us T.fr then T.fr else 0).toNat r), .ints .i64 (T.x3.set (if tkO T.nx T.us T.fr then T.fr else 0).toNat p), .ints .i64 (T.x4.set (if tkO T.nx T.us T.fr then T.fr else 0).toNat b), .ints .i64 (T.x5.set (if tkO T.nx T.us T.fr then T.fr else 0).toNat 0), .ints .u64 (T.x6.set (if tkO T.nx T.us T.fr then T.fr else 0).toNat a)]) (.s (rowLen0 [.ints .u32 T.ks] = rowLen0 [.ints .u32 (T.ks.set (if tkO T.nx T.us T.fr then T.fr else 0).toNat k)]) (.lf (D.tup [D.agg [i64 T.n, D.oc [.ints .u32 (T.ks.set (if tkO T.nx T.us T.fr then T.fr else 0).toNat k)], D.oc [.ints .i64 (T.x1.set (if tkO T.nx T.us T.fr then T.fr else 0).toNat b), .ints .i64 (T.x2.set (if tkO T.nx T.us T.fr then T.fr else 0).toNat r), .ints .i64 (T.x3.set (if tkO T.nx T.us T.fr then T.fr else 0).toNat p), .ints .i64 (T.x4.set (if tkO T.nx T.us T.fr then T.fr else 0).toNat b), .ints .i64 (T.x5.set (if tkO T.nx T.us T.fr then T.fr else 0).toNat 0), .ints .u64 (T.x6.set (if tkO T.nx T.us T.fr then T.fr else 0).toNat a)], D.oc [.ints .i64 (us_c0 T)], D.oc [.bools (us_c1 T)], i64 (if tkO T.nx T.us T.fr then T.nx.getD T.fr.toNat 0 else 0), D.oc [.ints .u32 (us_c12 T k), .ints .i64 (us_c20 T k), .bools (us_c15 T k)], D.oc [.ints .i64 (us_c18 T)], D.oc [.ints .i64 (us_c19 T)], i64 (if toO T.ps T.no T.h T.t (if tkO T.nx T.us T.fr then T.fr else 0) then if tkO T.nx T.us T.fr then T.fr else 0 else 0), i64 (if toO T.ps T.no T.h T.t (if tkO T.nx T.us T.fr then T.fr else 0) then toT T.ps T.no T.h T.t (if tkO T.nx T.us T.fr then T.fr else 0) else 0)], u32 0, bo false, i64 0]))))))))))))))))))))))))))))))))) (fun e2 => .q (rowLen0 [.ints .i64 T.no]) (.q (rowLen0 [.ints .i64 T.ps]) (.q (rowLen0 [.ints .i64 (us_c11 T k)]) (.q (rowLen0 [.ints .i64 (us_c10 T k)]) (.q (rowLen0 [.ints .u32 T.kx, .ints .i64 T.px, .bools T.ux]) (.q (rowLen0 [.bools T.us]) (.q (rowLen0 [.ints .i64 T.nx]) (.q (rowLen0 [.ints .i64 T.x1, .ints .i64 T.x2, .ints .i64 T.x3, .ints .i64 T.x4, .ints .i64 T.x5, .ints .u64 T.x6]) (.q (rowLen0 [.ints .u32 T.ks]) (.lf (D.tup [D.agg [i64 T.n, D.oc [.ints .u32 T.ks], D.oc [.ints .i64 T.x1, .ints .i64 T.x2, .ints .i64 T.x3, .ints .i64 T.x4, .ints .i64 T.x5, .ints .u64 T.x6], D.oc [.ints .i64 T.nx], D.oc [.bools T.us], i64 T.fr, D.oc [.ints .u32 T.kx, .ints .i64 T.px, .bools T.ux], D.oc [.ints .i64 (us_c10 T k)], D.oc [.ints .i64 (us_c11 T k)], i64 (if toO T.ps T.no T.h T.t (plV T k) then plV T k else 0), i64 (if toO T.ps T.no T.h T.t (plV T k) then toT T.ps T.no T.h T.t (plV T k) else 0)], u32 0, bo false, i64 0]))))))))))))))))))))))))))))))
theorem us_L (T : Tb) (k b r p a : Int) : Leaves (fun l => fnX Try.prog (X14) 100000 l 14 [T.d, u32 k, D.agg [i64 b, i64 r, i64 p], u64 a]) (us_T T k b r p a) [] [] := by refine ⟨fun _ => ?_, fun _ => ⟨fun _ => ?_, fun _ => ⟨fun _ => ⟨fun _ => ?_, fun _ => ?_⟩, fun _ => ?_⟩⟩⟩ <;> (show _ = _; kernel_rfl)
theorem us_calls (T : Tb) (k b r p a : Int) (res : D) (h0 : At (fun r => res = r) (us_T T k b r p a) [true] True) (h1 : At (fun r => res = r) (us_T T k b r p a) [false, true] True) (h2 : At (fun r => res = r) (us_T T k b r p a) [false, false, true, true] True) (h3 : At (fun r => res = r) (us_T T k b r p a) [false, false, true, false] True) (h4 : At (fun r => res = r) (us_T T k b r p a) [false, false, false] True) : CallsD Try.prog 14 [T.d, u32 k, D.agg [i64 b, i64 r, i64 p], u64 a] res := tree_calls (hX14) (us_L T k b r p a) ⟨fun e0 => h0 e0, fun e0 => ⟨fun e1 => h1 e0 e1, fun e1 => ⟨fun e2 => ⟨fun e3 => h2 e0 e1 e2 e3, fun e3 => h3 e0 e1 e2 e3⟩, fun e2 => h4 e0 e1 e2⟩⟩⟩
end TableS
end

section
namespace TableS
open Go Go.Dam Go.Proofs
set_option maxRecDepth 1000000
/-- From a place on by the links, up to a place. -/
def Seg (nx : List Int) : Int → List Int → Int → Prop
 | i, [], m => i = m
 | i, x :: l, m => i = x ∧ (0 ≤ x ∧ x < (nx.length : Int)) ∧ Seg nx (nx.getD x.toNat 0) l m
theorem seg_app {nx : List Int} : ∀ {A B : List Int} {i m : Int}, Seg nx i (A ++ B) m ↔ ∃ k, Seg nx i A k ∧ Seg nx k B m
 | [], B, i, m => ⟨fun h => ⟨i, rfl, h⟩, fun ⟨k, h, g⟩ => by cases h; exact g⟩
 | x :: A, B, i, m => by
  simp only [List.cons_append, Seg, seg_app]
  exact ⟨fun ⟨a, b, k, c, d⟩ => ⟨k, ⟨a, b, c⟩, d⟩, fun ⟨k, ⟨a, b, c⟩, d⟩ => ⟨a, b, k, c, d⟩⟩
theorem seg_set {nx : List Int} {p : Nat} {v : Int} : ∀ {A : List Int} {i m : Int}, (p : Int) ∉ A → Seg nx i A m → Seg (nx.set p v) i A m
 | [], _, _, _, h => h
 | x :: A, i, m, hp, h => by
  obtain ⟨a, b, c⟩ := h
  simp only [List.mem_cons, not_or] at hp
  refine ⟨a, by rw [List.length_set]; exact b, ?_⟩
  rw [getD_set_ne (by omega)]
  exact seg_set hp.2 c
/-- The last link of a list turned. -/
theorem seg_last {nx : List Int} {A : List Int} {a i m v : Int} (hn : (A ++ [a]).Nodup) (h : Seg nx i (A ++ [a]) m) : Seg (nx.set a.toNat v) i (A ++ [a]) v := by
 obtain ⟨k, h1, h2⟩ := seg_app.1 h
 obtain ⟨e, b, _⟩ := h2
 have ha : a ∉ A := fun hm => by
  rw [List.nodup_append] at hn
  exact hn.2.2 a hm a (by simp) rfl
 refine seg_app.2 ⟨k, seg_set (by rw [show ((a.toNat : Nat) : Int) = a by omega]; exact ha) h1, e, by rw [List.length_set]; exact b, ?_⟩
 rw [getD_set_self (by omega)]; rfl
theorem seg_range {nx : List Int} : ∀ {A : List Int} {i m : Int}, Seg nx i A m → ∀ x ∈ A, 0 ≤ x ∧ x < (nx.length : Int)
 | [], _, _, _ => by simp
 | y :: A, i, m, ⟨_, b, c⟩ => fun x hx => by
  rcases List.mem_cons.1 hx with e | e
  ·subst e; exact b
  ·exact seg_range c x e
theorem seg_rng {nx : List Int} {A : List Int} {i : Int} (h : Seg nx i A (-1)) : A = [] ∧ i = -1 ∨ ∃ B, A = i :: B := by
 cases A with
 | nil => exact .inl ⟨rfl, h⟩
 | cons x B => obtain ⟨a, _⟩ := h; subst a; exact .inr ⟨B, rfl⟩
theorem seg_chain {nx : List Int} : ∀ {d : Nat} {i : Int} {t l : List Int}, Seg nx i t (-1) → (l ++ t).Nodup → t.length < d → chain nx d i l = some (l ++ t)
 | 0, _, _, _, _, _, h => by omega
 | d + 1, i, [], l, h, _, _ => by
  simp only [chain]; rw [if_pos (show i = -1 from h), List.append_nil]
 | d + 1, i, x :: t, l, ⟨a, b, s⟩, hn, hd => by
  subst a
  simp only [chain]
  have hi : i ∉ l := fun hm => by
   rw [List.nodup_append] at hn
   exact hn.2.2 i hm i (by simp) rfl
  rw [if_neg (by omega), if_neg (by rintro (c | c | c) <;> first | omega | exact hi c)]
  rw [seg_chain s (by rw [List.append_assoc]; exact hn) (by simp only [List.length_cons] at hd; omega), List.append_assoc]; rfl
theorem seg_chL {nx : List Int} {f : Int} {t : List Int} (h : Seg nx f t (-1)) (ho : okL nx.length t) : chL nx f = t ∧ chB nx f = true := by
 have := seg_chain (l := []) h ho.1 (d := nx.length + 1) (by have := okL_len ho; omega)
 unfold chL chB; rw [this]; exact ⟨rfl, rfl⟩
/-- An arena with its free list. -/
def Ar (nx : List Int) (us : List Bool) (f : Int) (F : List Int) : Prop :=
 1 ≤ nx.length ∧ nx.length ≤ 16 ∧ us.length = nx.length ∧ F.Nodup ∧ Seg nx f F (-1) ∧ ∀ i, i < nx.length → us.getD i false = !decide ((i : Int) ∈ F) ∧ (us.getD i false = true → nx.getD i 0 = -1)
theorem ar_okL {nx : List Int} {us : List Bool} {f : Int} {F : List Int} (h : Ar nx us f F) : okL nx.length F := ⟨h.2.2.2.1, seg_range h.2.2.2.2.1⟩
theorem ar_c13 {nx : List Int} {us : List Bool} {f : Int} {F : List Int} (h : Ar nx us f F) : c13V nx us f = 0 := by
 obtain ⟨e1, e2⟩ := seg_chL h.2.2.2.2.1 (ar_okL h)
 obtain ⟨c1, c2, c3, c4, c5, c6⟩ := h
 unfold c13V
 rw [if_pos ⟨c1, c2, c3, e2⟩, if_pos]
 rw [findI_lt]
 intro j _ hj
 obtain ⟨g1, g2⟩ := c6 j (by omega)
 unfold c13Bad inB
 rw [e1]
 cases u : us.getD j false with
 | true =>
  rw [u] at g1 g2
  rw [g2 rfl]
  have : decide ((j : Int) ∈ F) = false := by cases d : decide ((j : Int) ∈ F) <;> simp [d] at g1 ⊢
  rw [this]; rfl
 | false =>
  rw [u] at g1
  have : decide ((j : Int) ∈ F) = true := by cases d : decide ((j : Int) ∈ F) <;> simp [d] at g1 ⊢
  rw [this]; rfl
theorem walkA_seg {nx : List Int} {us : List Bool} : ∀ {d : Nat} {i : Int} {ys ys' : List Bool} {l : List Int}, seenU nx.length us ys l → walkA nx d i ys = some ys' →
  (l.Nodup) → ∃ t, Seg nx i t (-1) ∧ (l ++ t).Nodup ∧ (∀ x ∈ t, us.getD x.toNat false = false) ∧ seenU nx.length us ys' (l ++ t)
 | 0, _, _, _, _, _, h, _ => by cases h
 | d + 1, i, ys, ys', l, hs, h, hn => by
  simp only [walkA] at h
  split at h
  next c => simp only [Option.some.injEq] at h; subst h; exact ⟨[], c, by simpa using hn, by simp, by simpa using hs⟩
  next c =>
   split at h
   ·cases h
   next c2 =>
    have i0 : 0 ≤ i := by omega
    have i1 : i < (nx.length : Int) := by omega
    have hy : ys.getD i.toNat false = false := by
     cases y : ys.getD i.toNat false with
     | false => rfl
     | true => exact absurd (.inr (.inr y)) c2
    have hq := hs.2 i.toNat (by omega)
    rw [hy, show ((i.toNat : Nat) : Int) = i by omega] at hq
    have hq2 := hq.symm
    rw [Bool.or_eq_false_iff, decide_eq_false_iff_not] at hq2
    have hn2 : (l ++ [i]).Nodup := by
     rw [List.nodup_append]
     exact ⟨hn, by simp, fun a ha b hb e => by simp at hb; subst hb; subst e; exact hq2.2 ha⟩
    obtain ⟨t, s1, s2, s3, s4⟩ := walkA_seg (seenU_set hs i0 i1) h hn2
    rw [List.append_assoc] at s2 s4
    refine ⟨i :: t, ⟨rfl, ⟨i0, i1⟩, s1⟩, s2, fun x hx => ?_, s4⟩
    rcases List.mem_cons.1 hx with e | e
    ·subst e; exact hq2.1
    ·exact s3 x e
theorem akV_ar {nx : List Int} {us : List Bool} {f : Int} (h : akV nx us f = 0) : ∃ F, Ar nx us f F := by
 unfold akV at h; split at h
 next c =>
  obtain ⟨c1, c2, c3⟩ := c
  split at h
  next ys w =>
   split at h
   next g =>
    obtain ⟨t, s1, s2, s3, s4⟩ := walkA_seg (us := us) (l := []) ⟨by omega, fun j hj => by simp⟩ w (by simp)
    rw [List.nil_append] at s2 s4
    refine ⟨t, c1, c2, c3, s2, s1, fun i hi => ?_⟩
    have g1 := (findI_lt _ _).1 g i (by omega) (by omega)
    have g2 := s4.2 i hi
    unfold akBad at g1
    rw [Bool.or_eq_false_iff] at g1
    have g3 : ys.getD i false = true := by simpa using g1.1
    rw [g3] at g2
    constructor
    ·cases u : us.getD i false with
     | false =>
      rw [u, Bool.false_or] at g2
      rw [← g2]; rfl
     | true =>
      have : (i : Int) ∉ t := fun hm => by
       have := s3 _ hm
       rw [show ((i : Int).toNat) = i by omega, u] at this; cases this
      simp [this]
    ·intro u
     have := g1.2
     rw [u, Bool.true_and] at this
     simpa using this
   next => cases h
  next => cases h
 next => cases h
/-- The links back. -/
def Back (ps : List Int) : Int → List Int → Prop
 | _, [] => True
 | la, x :: l => ps.getD x.toNat 0 = la ∧ Back ps x l
def lastOr (la : Int) : List Int → Int
 | [] => la
 | x :: l => lastOr x l
theorem lastOr_snoc (la a : Int) : ∀ A : List Int, lastOr la (A ++ [a]) = a
 | [] => rfl
 | x :: A => lastOr_snoc x a A
theorem lastOr_app : ∀ (A B : List Int) (la : Int), lastOr la (A ++ B) = lastOr (lastOr la A) B
 | [], _, _ => rfl
 | x :: A, B, la => lastOr_app A B x
theorem back_app {ps : List Int} : ∀ {A B : List Int} {la : Int}, Back ps la (A ++ B) ↔ Back ps la A ∧ Back ps (lastOr la A) B
 | [], B, la => ⟨fun h => ⟨trivial, h⟩, fun h => h.2⟩
 | x :: A, B, la => by
  simp only [List.cons_append, Back, lastOr, back_app]
  exact ⟨fun ⟨a, b, c⟩ => ⟨⟨a, b⟩, c⟩, fun ⟨⟨a, b⟩, c⟩ => ⟨a, b, c⟩⟩
theorem back_set {ps : List Int} {p : Nat} {v : Int} : ∀ {A : List Int} {la : Int}, (p : Int) ∉ A → (∀ x ∈ A, 0 ≤ x) → Back ps la A → Back (ps.set p v) la A
 | [], _, _, _, _ => trivial
 | x :: A, la, hp, h0, ⟨a, b⟩ => by
  simp only [List.mem_cons, not_or] at hp
  have := h0 x (by simp)
  refine ⟨?_, back_set hp.2 (fun y hy => h0 y (by simp [hy])) b⟩
  rw [getD_set_ne (by omega)]; exact a
/-- An order with its list. -/
def Or (ps no : List Int) (h t : Int) (L : List Int) : Prop :=
 1 ≤ ps.length ∧ ps.length ≤ 16 ∧ no.length = ps.length ∧ L.Nodup ∧ Seg no h L (-1) ∧ Back ps (-1) L ∧ t = lastOr (-1) L ∧ ∀ i, i < ps.length → (i : Int) ∉ L → ps.getD i 0 = -1 ∧ no.getD i 0 = -1
theorem or_okL {ps no : List Int} {h t : Int} {L : List Int} (o : Or ps no h t L) : okL no.length L := ⟨o.2.2.2.1, seg_range o.2.2.2.2.1⟩
theorem walkL_or {ps nx : List Int} (hn : nx.length = ps.length) : ∀ {d : Nat} {la i : Int} {ys : List Bool} {q : Int × List Bool} {l : List Int}, seenAs nx.length ys l → walkL ps nx d la i ys = some q → l.Nodup →
  ∃ t, Seg nx i t (-1) ∧ (l ++ t).Nodup ∧ Back ps la t ∧ q.1 = lastOr la t ∧ seenAs nx.length q.2 (l ++ t)
 | 0, _, _, _, _, _, _, h, _ => by cases h
 | d + 1, la, i, ys, q, l, hs, h, hd => by
  simp only [walkL] at h
  split at h
  next c => simp only [Option.some.injEq] at h; subst h; exact ⟨[], c, by simpa using hd, trivial, rfl, by simpa using hs⟩
  next c =>
   split at h
   ·cases h
   next c2 =>
    have i0 : 0 ≤ i := by omega
    have i1 : i < (nx.length : Int) := by omega
    have hy : ys.getD i.toNat false = false := by
     cases y : ys.getD i.toNat false with
     | false => rfl
     | true => exact absurd (.inr (.inr (.inl y))) c2
    have hp : ps.getD i.toNat 0 = la := Classical.byContradiction fun n => c2 (.inr (.inr (.inr n)))
    have hq := hs.2 i.toNat (by omega)
    rw [hy, show ((i.toNat : Nat) : Int) = i by omega] at hq
    have hq2 := hq.symm
    rw [decide_eq_false_iff_not] at hq2
    have hn2 : (l ++ [i]).Nodup := by
     rw [List.nodup_append]
     exact ⟨hd, by simp, fun a ha b hb e => by simp at hb; subst hb; subst e; exact hq2 ha⟩
    obtain ⟨t, s1, s2, s3, s4, s5⟩ := walkL_or hn (seenAs_set hs i0 i1) h hn2
    rw [List.append_assoc] at s2 s5
    exact ⟨i :: t, ⟨rfl, ⟨i0, i1⟩, s1⟩, s2, ⟨hp, s3⟩, s4, s5⟩
theorem lcV_or {ps nx : List Int} {h t : Int} (e : lcV ps nx h t = 0) : ∃ L, Or ps nx h t L := by
 obtain ⟨c1, c2, c3, la, ys, w, g, e2⟩ := lcV_is e
 rw [← c3] at w
 obtain ⟨L, s1, s2, s3, s4, s5⟩ := walkL_or c3 (seenAs_nil _) w (by simp)
 rw [List.nil_append] at s2 s5
 refine ⟨L, c1, c2, c3, s2, s1, s3, by rw [e2]; exact s4, fun i hi hm => ?_⟩
 have g1 := (findI_lt _ _).1 g i (by omega) (by omega)
 have g2 := s5.2 i (by omega)
 rw [decide_eq_false hm] at g2
 simp only at g2
 unfold lcBad at g1
 rw [g2] at g1
 simpa using g1
theorem mkN_at2 {n : Nat} {xs : List Int} (h : okL n xs) : ∀ m, m ≤ xs.length → ∀ k, k + 1 < m → (mkN n xs m).getD (xs.getD k 0).toNat 0 = xs.getD (k + 1) 0
 | 0, _ => fun k hk => by omega
 | m + 1, hm => fun k hk => by
  have i2 := mkN_at2 h m (by omega)
  have c : m ≠ 0 := by omega
  simp only [mkN, if_neg c]
  have bm := okL_getD h (i := m - 1) (by omega)
  have bk := okL_getD h (i := k) (by omega)
  by_cases e : k = m - 1
  ·subst e
   rw [getD_set_self (by rw [mkN_len]; omega), show m - 1 + 1 = m by omega]
  ·rw [getD_set_ne (fun q => e (nodup_getD h.1 (by omega) (by omega) (by omega))), i2 k (by omega)]
theorem seg_get {nx : List Int} : ∀ {L : List Int} {i : Int}, Seg nx i L (-1) → (i = if L.length = 0 then -1 else L.getD 0 0) ∧ ∀ k, k < L.length → nx.getD (L.getD k 0).toNat 0 = if k + 1 < L.length then L.getD (k + 1) 0 else -1
 | [], i, h => ⟨h, fun k hk => by simp at hk⟩
 | x :: L, i, ⟨a, b, s⟩ => by
  obtain ⟨g1, g2⟩ := seg_get s
  refine ⟨by simp [a], fun k hk => ?_⟩
  cases k with
  | zero =>
   rw [show (x :: L).getD 0 0 = x from rfl, g1]
   cases L <;> simp
  | succ k =>
   have := g2 k (by simpa using hk)
   rw [show (x :: L).getD (k + 1) 0 = L.getD k 0 from rfl, this]
   simp
theorem back_get {ps : List Int} : ∀ {L : List Int} {la : Int}, Back ps la L → ∀ k, k < L.length → ps.getD (L.getD k 0).toNat 0 = if k = 0 then la else L.getD (k - 1) 0
 | [], _, _ => fun k hk => by simp at hk
 | x :: L, la, ⟨a, b⟩ => fun k hk => by
  cases k with
  | zero => exact a
  | succ k =>
   have := back_get b k (by simpa using hk)
   rw [show (x :: L).getD (k + 1) 0 = L.getD k 0 from rfl, this]
   cases k <;> simp
theorem lastOr_get : ∀ {L : List Int} {la : Int}, lastOr la L = if L.length = 0 then la else L.getD (L.length - 1) 0
 | [], _ => rfl
 | x :: L, la => by
  simp only [lastOr]
  rw [lastOr_get]
  cases L <;> simp
theorem ext_getD {a b : List Int} (hl : a.length = b.length) (h : ∀ j, j < a.length → a.getD j 0 = b.getD j 0) : a = b := by
 apply List.ext_getElem hl
 intro j h1 h2
 have := h j h1
 rwa [List.getD_eq_getElem?_getD, List.getD_eq_getElem?_getD, List.getElem?_eq_getElem h1, List.getElem?_eq_getElem h2] at this
theorem mem_getD {L : List Int} {x : Int} (h : x ∈ L) : ∃ k, k < L.length ∧ L.getD k 0 = x := by
 obtain ⟨k, hk, e⟩ := List.getElem_of_mem h
 exact ⟨k, hk, by rw [List.getD_eq_getElem?_getD, List.getElem?_eq_getElem hk]; exact e⟩
theorem getD_mem {L : List Int} {k : Nat} (h : k < L.length) : L.getD k 0 ∈ L := by
 rw [List.getD_eq_getElem?_getD, List.getElem?_eq_getElem h]; exact List.getElem_mem h
/-- An order is what its list makes. -/
theorem or_mk {ps no : List Int} {h t : Int} {L : List Int} (o : Or ps no h t L) : ps = mkP ps.length L L.length ∧ no = mkN ps.length L L.length ∧ h = mkH L L.length ∧ t = mkT L L.length := by
 have ho := or_okL o
 obtain ⟨c1, c2, c3, c4, c5, c6, c7, c8⟩ := o
 rw [c3] at ho
 obtain ⟨p1, p2⟩ := mkP_at ho _ (Nat.le_refl _)
 have n1 := mkN_at2 ho _ (Nat.le_refl _)
 have n2 := mkN_at ho _ (Nat.le_refl _)
 have bg := back_get c6
 obtain ⟨sh, sg⟩ := seg_get c5
 refine ⟨ext_getD (by rw [mkP_len]) fun j hj => ?_, ext_getD (by rw [mkN_len]; exact c3) fun j hj => ?_, ?_, ?_⟩
 ·by_cases m : (j : Int) ∈ L
  ·obtain ⟨k, hk, e⟩ := mem_getD m
   have b := bg k hk
   rw [e, show (j : Int).toNat = j by omega] at b
   rw [b]
   by_cases k0 : k = 0
   ·subst k0
    rw [if_pos rfl]
    symm; exact p2 j hj fun k' a b' q => by
     have := nodup_getD ho.1 b' hk (by omega); omega
   ·rw [if_neg k0]
    have := p1 k (by omega) hk
    rw [e, show (j : Int).toNat = j by omega] at this
    exact this.symm
  ·rw [(c8 j hj m).1]
   symm; exact p2 j hj fun k' a b' q => m (by rw [← q]; exact getD_mem b')
 ·rw [c3] at hj
  by_cases m : (j : Int) ∈ L
  ·obtain ⟨k, hk, e⟩ := mem_getD m
   have b := sg k hk
   rw [e, show (j : Int).toNat = j by omega] at b
   rw [b]
   by_cases k1 : k + 1 < L.length
   ·rw [if_pos k1]
    have := n1 k k1
    rw [e, show (j : Int).toNat = j by omega] at this
    exact this.symm
   ·rw [if_neg k1]
    symm; exact n2 j hj fun k' a q => by
     have := nodup_getD ho.1 (by omega) hk (show L.getD k' 0 = L.getD k 0 by omega); omega
  ·rw [(c8 j hj m).2]
   symm; exact n2 j hj fun k' a q => m (by rw [← q]; exact getD_mem (by omega))
 ·unfold mkH; exact sh
 ·unfold mkT; rw [c7]; exact lastOr_get
theorem or_c15 {ps no : List Int} {h t : Int} {L : List Int} (o : Or ps no h t L) : c15V ps no h t = 0 := by
 obtain ⟨e1, e2, e3, e4⟩ := or_mk o
 obtain ⟨g1, g2⟩ := seg_chL o.2.2.2.2.1 (or_okL o)
 have b := or_okL o
 obtain ⟨c1, c2, c3, _⟩ := o
 unfold c15V
 rw [if_pos]
 refine ⟨c1, c2, c3, g2, ?_⟩
 unfold c15S sm15 eqB
 rw [g1, ← e1, ← e2, ← e3, ← e4]
 simp
theorem or_lc {ps no : List Int} {h t : Int} {L : List Int} (o : Or ps no h t L) : lcV ps no h t = 0 := lcV_of (or_c15 o)
theorem ar_ak {nx : List Int} {us : List Bool} {f : Int} {F : List Int} (h : Ar nx us f F) : akV nx us f = 0 := akV_of (ar_c13 h)
end TableS
end

section
namespace TableS
open Go Go.Dam Go.Proofs
set_option maxRecDepth 1000000
theorem ar_take {nx : List Int} {us : List Bool} {f : Int} {F : List Int} (a : Ar nx us f F) (hf : f ≠ -1) :
  ∃ F', F = f :: F' ∧ 0 ≤ f ∧ f < (nx.length : Int) ∧ Ar (nx.set f.toNat (-1)) (us.set f.toNat true) (nx.getD f.toNat 0) F' := by
 obtain ⟨c1, c2, c3, c4, c5, c6⟩ := a
 rcases seg_rng c5 with ⟨_, e⟩ | ⟨F', e⟩
 ·exact absurd e hf
 ·subst e
  obtain ⟨_, b, s⟩ := c5
  rw [List.nodup_cons] at c4
  refine ⟨F', rfl, b.1, b.2, by rw [List.length_set]; exact c1, by rw [List.length_set]; exact c2, by rw [List.length_set, List.length_set]; exact c3, c4.2, seg_set (by rw [show ((f.toNat : Nat) : Int) = f by omega]; exact c4.1) s, fun i hi => ?_⟩
  rw [List.length_set] at hi
  obtain ⟨g1, g2⟩ := c6 i hi
  by_cases e : i = f.toNat
  ·subst e
   rw [getB_set_self (by omega), getD_set_self (by omega)]
   refine ⟨?_, fun _ => rfl⟩
   rw [show ((f.toNat : Nat) : Int) = f by omega]; simp [c4.1]
  ·rw [getB_set_ne (by omega), getD_set_ne (by omega)]
   refine ⟨?_, g2⟩
   rw [g1]
   have : (i : Int) ≠ f := by omega
   simp [this]
theorem ar_give {nx : List Int} {us : List Bool} {f p : Int} {F : List Int} (a : Ar nx us f F) (h0 : 0 ≤ p) (h1 : p < (nx.length : Int)) (hu : us.getD p.toNat false = true) :
  Ar (nx.set p.toNat f) (us.set p.toNat false) p (p :: F) := by
 obtain ⟨c1, c2, c3, c4, c5, c6⟩ := a
 have hp : p ∉ F := fun m => by
  have := (c6 p.toNat (by omega)).1
  rw [hu, show ((p.toNat : Nat) : Int) = p by omega] at this
  simp [m] at this
 refine ⟨by rw [List.length_set]; exact c1, by rw [List.length_set]; exact c2, by rw [List.length_set, List.length_set]; exact c3, List.nodup_cons.2 ⟨hp, c4⟩, ⟨rfl, ⟨h0, by rw [List.length_set]; exact h1⟩, ?_⟩, fun i hi => ?_⟩
 ·rw [getD_set_self (by omega)]
  exact seg_set (by rw [show ((p.toNat : Nat) : Int) = p by omega]; exact hp) c5
 ·rw [List.length_set] at hi
  obtain ⟨g1, g2⟩ := c6 i hi
  by_cases e : i = p.toNat
  ·subst e
   rw [getB_set_self (by omega), show ((p.toNat : Nat) : Int) = p by omega]
   exact ⟨by simp, fun h => by cases h⟩
  ·rw [getB_set_ne (by omega), getD_set_ne (by omega)]
   refine ⟨?_, g2⟩
   rw [g1]
   have : (i : Int) ≠ p := by omega
   simp [this]
/-- A list without a place. -/
def wo (L : List Int) (p : Int) : List Int := L.filter fun x => decide (x ≠ p)
theorem wo_none {L : List Int} {p : Int} (h : p ∉ L) : wo L p = L := by
 unfold wo; rw [List.filter_eq_self]
 intro x hx; simp; intro e; subst e; exact h hx
theorem wo_split {A B : List Int} {p : Int} (h : (A ++ p :: B).Nodup) : wo (A ++ p :: B) p = A ++ B := by
 rw [List.nodup_append, List.nodup_cons] at h
 have e1 : wo A p = A := wo_none fun m => h.2.2 p m p (by simp) rfl
 have e2 : wo B p = B := wo_none h.2.1.1
 unfold wo at e1 e2 ⊢
 rw [List.filter_append, List.filter_cons, e1, e2]; simp
theorem mem_wo {L : List Int} {p x : Int} : x ∈ wo L p ↔ x ∈ L ∧ x ≠ p := by
 unfold wo; rw [List.mem_filter]; simp
theorem last_split (A : List Int) : A = [] ∨ ∃ B a, A = B ++ [a] := by
 rcases List.eq_nil_or_concat A with e | ⟨B, a, e⟩
 ·exact .inl e
 ·exact .inr ⟨B, a, by rw [e, List.concat_eq_append]⟩
theorem or_mem {ps no : List Int} {h t p : Int} {L : List Int} (o : Or ps no h t L) (h0 : 0 ≤ p) (h1 : p < (ps.length : Int)) : (h = p ∨ ps.getD p.toNat 0 ≠ -1) ↔ p ∈ L := by
 obtain ⟨c1, c2, c3, c4, c5, c6, c7, c8⟩ := o
 constructor
 ·rintro (e | e)
  ·subst e
   rcases seg_rng c5 with ⟨_, q⟩ | ⟨B, q⟩
   ·omega
   ·rw [q]; simp
  ·exact Classical.byContradiction fun n => e (c8 p.toNat (by omega) (by rw [show ((p.toNat : Nat) : Int) = p by omega]; exact n)).1
 ·intro m
  obtain ⟨A, B, e⟩ := List.append_of_mem m
  subst e
  obtain ⟨k, s1, s2⟩ := seg_app.1 c5
  obtain ⟨b1, b2⟩ := back_app.1 c6
  rcases last_split A with e | ⟨A', a, e⟩
  ·subst e
   exact .inl (by rw [show h = k from s1]; exact s2.1)
  ·subst e
   refine .inr ?_
   rw [b2.1, lastOr_snoc]
   have := seg_range s1 a (by simp)
   omega
theorem or_cut {ps no : List Int} {h t p : Int} {A B : List Int} (o : Or ps no h t (A ++ p :: B)) : Or (rmP ps no p) (rmN ps no p) (rmH ps no h p) (rmT ps no t p) (A ++ B) := by
 obtain ⟨c1, c2, c3, c4, c5, c6, c7, c8⟩ := o
 obtain ⟨k, s1, ek, rp, s2⟩ := seg_app.1 c5
 subst ek
 obtain ⟨b1, b2, b3⟩ := back_app.1 c6
 have hr := seg_range s1
 have hr2 := seg_range s2
 rw [lastOr_app] at c7
 have c7' : t = lastOr k B := c7
 have hn : (A ++ B).Nodup ∧ k ∉ A ∧ k ∉ B ∧ ∀ x ∈ A, x ∉ B := by
  rw [List.nodup_append, List.nodup_cons] at c4
  refine ⟨List.nodup_append.2 ⟨c4.1, c4.2.1.2, fun a ha b hb => c4.2.2 a ha b (by simp [hb])⟩, fun m => c4.2.2 k m k (by simp) rfl, c4.2.1.1, fun x hx hb => c4.2.2 x hx x (by simp [hb]) rfl⟩
 obtain ⟨n1, n2, n3, n4⟩ := hn
 have nk : ((k.toNat : Nat) : Int) = k := by omega
 -- the links on
 have lenP : (rmP ps no k).length = ps.length := by unfold rmP; split <;> simp
 have lenN : (rmN ps no k).length = no.length := by unfold rmN; split <;> simp
 have bA : ∀ x ∈ A, 0 ≤ x := fun x hx => (hr x hx).1
 have bB : ∀ x ∈ B, 0 ≤ x := fun x hx => (hr2 x hx).1
 have hseg : Seg (rmN ps no k) (rmH ps no h k) (A ++ B) (-1) := by
  unfold rmN rmH
  rcases last_split A with e | ⟨A', a, e⟩
  ·subst e
   rw [show ps.getD k.toNat 0 = -1 from b2, if_pos rfl, if_pos rfl, List.nil_append]
   exact seg_set (by rw [nk]; exact n3) s2
  ·subst e
   rw [lastOr_snoc] at b2
   have ra := hr a (by simp)
   rw [b2, if_neg (by omega), if_neg (by omega)]
   refine seg_app.2 ⟨no.getD k.toNat 0, seg_set (by rw [nk]; exact n2) (seg_last ?_ s1), seg_set (by rw [nk]; exact n3) (seg_set (by rw [show ((a.toNat : Nat) : Int) = a by omega]; exact n4 a (by simp)) s2)⟩
   rw [List.nodup_append] at n1; exact n1.1
 have hback : Back (rmP ps no k) (-1) (A ++ B) := by
  unfold rmP
  cases B with
  | nil =>
   rw [show no.getD k.toNat 0 = -1 from s2, if_pos rfl, List.append_nil]
   exact back_set (by rw [nk]; exact n2) bA b1
  | cons b B =>
   obtain ⟨e, rb, s3⟩ := s2
   obtain ⟨b4, b5⟩ := b3
   rw [e, if_neg (by omega), b2]
   have nb : ((b.toNat : Nat) : Int) = b := by omega
   have nbA : b ∉ A := fun m => n4 b m (by simp)
   refine back_app.2 ⟨back_set (by rw [nk]; exact n2) bA (back_set (by rw [nb]; exact nbA) bA b1), ?_, ?_⟩
   ·have : b ≠ k := fun q => n3 (by rw [← q]; simp)
    rw [getD_set_ne (by omega), getD_set_self (by omega)]
   ·have hB : ∀ x ∈ B, 0 ≤ x := fun x hx => bB x (by simp [hx])
    have n5 : b ∉ B := by
     rw [List.nodup_append, List.nodup_cons] at n1; exact n1.2.1.1
    exact back_set (by rw [nk]; exact fun m => n3 (by simp [m])) hB (back_set (by rw [nb]; exact n5) hB b5)
 have hlast : rmT ps no t k = lastOr (-1) (A ++ B) := by
  unfold rmT
  rw [lastOr_app]
  cases B with
  | nil => rw [show no.getD k.toNat 0 = -1 from s2, if_pos rfl, b2]; rfl
  | cons b B => rw [s2.1, if_neg (by have := s2.2.1; omega), c7']; rfl
 refine ⟨by rw [lenP]; exact c1, by rw [lenP]; exact c2, by rw [lenP, lenN]; exact c3, n1, hseg, hback, hlast, fun i hi hm => ?_⟩
 rw [lenP] at hi
 have hmA : (i : Int) ∉ A := fun m => hm (by simp [m])
 have hmB : (i : Int) ∉ B := fun m => hm (by simp [m])
 by_cases e : (i : Int) = k
 ·have : k.toNat = i := by omega
  unfold rmP rmN
  rw [this]
  constructor
  ·split
   ·rw [getD_set_self (by omega)]
   ·rw [getD_set_self (by rw [List.length_set]; omega)]
  ·split
   ·rw [getD_set_self (by omega)]
   ·rw [getD_set_self (by rw [List.length_set]; omega)]
 ·obtain ⟨g1, g2⟩ := c8 i hi (by simp only [List.mem_append, List.mem_cons, not_or]; exact ⟨hmA, e, hmB⟩)
  have ik : k.toNat ≠ i := by omega
  unfold rmP rmN
  constructor
  ·split
   ·rw [getD_set_ne ik]; exact g1
   next c =>
    rw [getD_set_ne ik]
    cases B with
    | nil => exact absurd s2 c
    | cons b B =>
     have := s2.2.1
     have nb : (i : Int) ≠ b := fun q => hmB (by simp [q])
     rw [s2.1, getD_set_ne (by omega)]; exact g1
  ·split
   ·rw [getD_set_ne ik]; exact g2
   next c =>
    rw [getD_set_ne ik]
    rcases last_split A with e' | ⟨A', a, e'⟩
    ·subst e'; exact absurd b2 c
    ·subst e'
     rw [lastOr_snoc] at b2
     have := hr a (by simp)
     have na : (i : Int) ≠ a := fun q => hmA (by simp [q])
     rw [b2, getD_set_ne (by omega)]; exact g2
theorem or_remove {ps no : List Int} {h t p : Int} {L : List Int} (o : Or ps no h t L) (hp : p ∈ L) : Or (rmP ps no p) (rmN ps no p) (rmH ps no h p) (rmT ps no t p) (wo L p) := by
 obtain ⟨A, B, e⟩ := List.append_of_mem hp
 subst e
 rw [wo_split o.2.2.2.1]
 exact or_cut o
/-- A place put in front. -/
theorem or_push {ps no : List Int} {h t p : Int} {L : List Int} (o : Or ps no h t L) (hp : p ∉ L) (h0 : 0 ≤ p) (h1 : p < (ps.length : Int)) :
  Or (if h = -1 then ps else ps.set h.toNat p) (no.set p.toNat h) p (if h = -1 then p else t) (p :: L) := by
 obtain ⟨c1, c2, c3, c4, c5, c6, c7, c8⟩ := o
 have np : ((p.toNat : Nat) : Int) = p := by omega
 have hr := seg_range c5
 obtain ⟨q1, q2⟩ := c8 p.toNat (by omega) (by rw [np]; exact hp)
 have hh : h = -1 ∧ L = [] ∨ ∃ B, L = h :: B ∧ 0 ≤ h ∧ h < (no.length : Int) ∧ h ≠ p := by
  rcases seg_rng c5 with ⟨e, e2⟩ | ⟨B, e⟩
  ·exact .inl ⟨e2, e⟩
  ·have := hr h (by rw [e]; simp)
   exact .inr ⟨B, e, this.1, this.2, fun q => hp (by rw [e, q]; simp)⟩
 have lenP : (if h = -1 then ps else ps.set h.toNat p).length = ps.length := by split <;> simp
 refine ⟨by rw [lenP]; exact c1, by rw [lenP]; exact c2, by rw [lenP, List.length_set]; exact c3, List.nodup_cons.2 ⟨hp, c4⟩, ⟨rfl, ⟨h0, by rw [List.length_set]; omega⟩, ?_⟩, ⟨?_, ?_⟩, ?_, fun i hi hm => ?_⟩
 ·rw [getD_set_self (by omega)]
  exact seg_set (by rw [np]; exact hp) c5
 ·rcases hh with ⟨e, _⟩ | ⟨B, e, r0, r1, r2⟩
  ·rw [if_pos e]; exact q1
  ·rw [if_neg (by omega), getD_set_ne (by omega)]; exact q1
 ·rcases hh with ⟨_, e⟩ | ⟨B, e, r0, r1, r2⟩
  ·subst e; trivial
  ·subst e
   rw [if_neg (by omega)]
   rw [List.nodup_cons] at c4
   refine ⟨by rw [getD_set_self (by omega)], back_set (by rw [show ((h.toNat : Nat) : Int) = h by omega]; exact c4.1) (fun x hx => (hr x (by simp [hx])).1) c6.2⟩
 ·rcases hh with ⟨e, e2⟩ | ⟨B, e, r0, r1, r2⟩
  ·subst e2; rw [if_pos e]; rfl
  ·subst e; rw [if_neg (by omega)]; exact c7
 ·rw [lenP] at hi
  simp only [List.mem_cons, not_or] at hm
  obtain ⟨g1, g2⟩ := c8 i hi hm.2
  rw [getD_set_ne (by omega)]
  refine ⟨?_, g2⟩
  rcases hh with ⟨e, _⟩ | ⟨B, e, r0, r1, r2⟩
  ·rw [if_pos e]; exact g1
  ·have : (i : Int) ≠ h := fun q => hm.2 (by rw [e, q]; simp)
   rw [if_neg (by omega), getD_set_ne (by omega)]; exact g1
theorem or_touch {ps no : List Int} {h t p : Int} {L : List Int} (o : Or ps no h t L) (h0 : 0 ≤ p) (h1 : p < (ps.length : Int)) :
  Or (toP ps no h p) (toN ps no h p) p (toT ps no h t p) (p :: wo L p) := by
 have hm := or_mem o h0 h1
 by_cases m : p ∈ L
 ·have c := hm.2 m
  have r := or_remove o m
  have lenP : (rmP ps no p).length = ps.length := by unfold rmP; split <;> simp
  have := or_push r (p := p) (fun q => (mem_wo.1 q).2 rfl) h0 (by omega)
  unfold toP toN toT toH
  simp only [if_pos c]
  exact this
 ·have c := fun q => m (hm.1 q)
  rw [wo_none m]
  unfold toP toN toT toH
  simp only [if_neg c]
  exact or_push o m h0 h1
/-- What is last. -/
theorem or_tail {ps no : List Int} {h t : Int} {L : List Int} (o : Or ps no h t L) (hl : L ≠ []) : ∃ A, L = A ++ [t] := by
 rcases last_split L with e | ⟨A, a, e⟩
 ·exact absurd e hl
 ·refine ⟨A, ?_⟩
  have := o.2.2.2.2.2.2.1
  rw [e, lastOr_snoc] at this
  rw [this]; exact e
end TableS
end

section
namespace TableS
open Go Go.Dam Go.Proofs
set_option maxRecDepth 1000000
/-! What is right by the reference is right by the code: indexes and tables. -/
theorem c14V_is {kx px : List Int} {ux : List Bool} (h : c14V kx px ux = 0) : kx.length = 16 ∧ ctN 16 ux ≤ 12 ∧ ∀ i, i < 16 → c14Bad kx px ux i = false := by
 unfold c14V at h; split at h
 next c =>
  split at h
  next d => exact ⟨c.1, c.2, fun i hi => (findI_lt 16 0).1 d i (by omega) (by omega)⟩
  next => cases h
 next => cases h
theorem gapW_spec {ux : List Bool} {i : Nat} : ∀ (D k d : Nat), k < 16 → d < D → (k + d) % 16 = i → (∀ t, t < d → (k + t) % 16 ≠ i) → gapW ux i D k = false → ∀ t, t < d → ux.getD ((k + t) % 16) false = true
 | 0, k, d, _, h, _, _, _ => by omega
 | D + 1, k, d, hk, hd, he, hm, hg => fun t ht => by
  have hki : k ≠ i := fun e => by have := hm 0 (by omega); rw [Nat.add_zero, Nat.mod_eq_of_lt hk] at this; exact this e
  simp only [gapW, if_neg hki] at hg
  split at hg
  ·cases hg
  next hu =>
   rcases t with _ | t
   ·rw [Nat.add_zero, Nat.mod_eq_of_lt hk]; simpa using hu
   ·have := gapW_spec D ((k + 1) % 16) (d - 1) (by omega) (by omega) (by omega) (fun t' ht' => by have := hm (t' + 1) (by omega); rwa [show ((k + 1) % 16 + t') % 16 = (k + (t' + 1)) % 16 by omega]) hg t (by omega)
    rwa [show ((k + 1) % 16 + t) % 16 = (k + (t + 1)) % 16 by omega] at this
theorem pcV_of {kx px : List Int} {ux : List Bool} (ho : okI kx) (h : c14V kx px ux = 0) : pcV kx px ux = 0 := by
 obtain ⟨c1, c2, c3⟩ := c14V_is h
 have hfree := ctN_free (ux := ux) (n := 16) (by omega)
 have hus : ∀ i, i < 16 → ux.getD i false = true → 0 ≤ px.getD i 0 ∧ px.getD i 0 < 16 ∧ atN kx ux (kx.getD i 0) = i ∧ gapW ux i 16 (homeN (kx.getD i 0)).toNat = false := fun i hi hu => by
  have := c3 i hi
  simp only [c14Bad, hu, if_true, Bool.or_eq_false_iff, decide_eq_false_iff_not, not_or, ne_eq, Decidable.not_not] at this
  exact ⟨by omega, by omega, this.1.2.2, this.2⟩
 unfold pcV
 rw [if_pos ⟨c1, c2⟩, if_pos]
 rw [findI_lt]
 intro i _ hi
 have hi : i < 16 := by omega
 unfold pcBad
 split
 next hu =>
  obtain ⟨p0, p1, p2, p3⟩ := hus i hi hu
  have hk := ho.2 i (by omega)
  have hh := homeN_lt hk
  obtain ⟨s, s1, s2, s3, s4⟩ := lkI_spec (xs := kx) hk hfree
  have hgap := gapW_spec (ux := ux) (i := i) 16 (homeN (kx.getD i 0)).toNat ((i + 16 - (homeN (kx.getD i 0)).toNat) % 16) (by omega) (by omega) (by omega) (fun t ht => by omega) p3
  have hle : s ≤ (i + 16 - (homeN (kx.getD i 0)).toNat) % 16 := by
   rcases Nat.lt_or_ge ((i + 16 - (homeN (kx.getD i 0)).toNat) % 16) s with c | c
   ·have := (s3 _ c).2
    rw [show ((homeN (kx.getD i 0)).toNat + (i + 16 - (homeN (kx.getD i 0)).toNat) % 16) % 16 = i by omega] at this
    exact absurd rfl this
   ·exact c
  have hlk : lkI kx ux (kx.getD i 0) = i := by
   rcases Nat.lt_or_eq_of_le hle with c | c
   ·have hu2 := hgap s c
    rw [← s2] at hu2
    have hl := lkI_lt (kx := kx) ux hk
    have hkey : kx.getD (lkI kx ux (kx.getD i 0)) 0 = kx.getD i 0 := Decidable.not_not.1 fun n => s4 ⟨hu2, n⟩
    have := (hus _ hl hu2).2.2.1
    rw [hkey, p2] at this; omega
   ·rw [s2, c]; omega
  rw [hlk]
  simp only [decide_eq_false_iff_not, not_or, ne_eq, Decidable.not_not]
  exact ⟨by omega, by omega, trivial⟩
 next hu =>
  have := c3 i hi
  simp only [c14Bad, if_neg hu] at this
  exact this
theorem rcV_is {T : Tb} (h : rcV T = 0) : T.sz ∧ c13V T.nx T.us T.fr = 0 ∧ c14V T.kx T.px T.ux = 0 ∧ c15V T.ps T.no T.h T.t = 0 ∧ ctN T.kx.length T.ux = (chL T.no T.h).length ∧
  ∀ i : Nat, (i : Int) < T.n → t18Bad T (chL T.no T.h) i = false := by
 unfold rcV at h; split at h
 next c =>
  split at h
  next d => exact ⟨c.1, c.2.1, c.2.2.1, c.2.2.2.1, c.2.2.2.2, fun i hi => (findI_lt _ 0).1 d i (by omega) (by have := c.1.1; omega)⟩
  next => cases h
 next => cases h
theorem cnt_pos {q : Nat → Bool} : ∀ {n : Nat}, 0 < cnt q n → ∃ j, j < n ∧ q j = true
 | 0, h => by simp [cnt] at h
 | n + 1, h => by
  cases e : q n with
  | true => exact ⟨n, by omega, e⟩
  | false =>
   simp only [cnt, e, cond_false, Nat.add_zero] at h
   obtain ⟨j, a, b⟩ := cnt_pos h
   exact ⟨j, by omega, b⟩
/-- A used place of a right table has its cell. -/
theorem rc_cell {T : Tb} (ho : okT T) (h : rcV T = 0) {i : Nat} (hi : (i : Int) < T.n) (hu : T.us.getD i false = true) :
  fdE T.kx T.px T.ux (T.ks.getD i 0) = 0 ∧ fdI T.kx T.px T.ux (T.ks.getD i 0) = i := by
 obtain ⟨⟨s1, s2, s3, s4, s5, s6⟩, a1, a2, a3, a4, a5⟩ := rcV_is h
 have hp := pcV_of ho.1 a2
 obtain ⟨b1, b2, b3⟩ := pcV_is hp
 have hb := a5 i hi
 simp only [t18Bad, Bool.or_eq_false_iff, hu, Bool.not_eq_false'] at hb
 obtain ⟨_, c1, c2, _⟩ := hb
 have c1 : ceN T.kx.length T.px T.ux i = 1 := by
  have : decide (ceN T.kx.length T.px T.ux i = 1) = true := by
   cases e : decide (ceN T.kx.length T.px T.ux i = 1) with
   | true => rfl
   | false => rw [e] at c1; cases c1
  exact of_decide_eq_true this
 obtain ⟨j, hj, hq⟩ := cnt_pos (q := ceQ T.px T.ux i) (n := T.kx.length) (by unfold ceN at c1; omega)
 simp only [ceQ, Bool.and_eq_true, beq_iff_eq] at hq
 have hks : T.kx.getD j 0 = T.ks.getD i 0 := by
  have := alls_iff.1 c2 j hj
  have hq' : ceQ T.px T.ux i j = true := by simp only [ceQ, Bool.and_eq_true, beq_iff_eq]; exact hq
  rw [hq'] at this
  simpa using this
 have hpc := b3 j (by omega)
 simp only [pcBad, hq.1, if_true, decide_eq_false_iff_not, not_or, ne_eq, Decidable.not_not] at hpc
 rw [← hks]
 unfold fdE fdI
 rw [if_pos hp, if_pos hp, hpc.2.2, if_pos hq.1, if_pos hq.1]
 exact ⟨rfl, hq.2⟩
theorem toNat_nodup {l : List Int} (h : l.Nodup) (h0 : ∀ x ∈ l, 0 ≤ x) : (l.map Int.toNat).Nodup := map_nodup h fun x hx y hy e => by
 have := h0 x hx; have := h0 y hy; omega
theorem tcV_of {T : Tb} (ho : okT T) (h : rcV T = 0) : tcV T = 0 := by
 obtain ⟨hs, a1, a2, a3, a4, a5⟩ := rcV_is h
 have hs' := hs
 obtain ⟨s1, s2, s3, s4, s5, s6⟩ := hs'
 have hak := akV_of a1
 have hpc := pcV_of ho.1 a2
 have hlc := lcV_of a3
 have hun := akV_len hak
 obtain ⟨_, _, c3, c4, _⟩ := c15V_is a3
 have hl := chB_okL c4
 have hll : llL T.ps T.no T.h T.t = chL T.no T.h := by unfold llL; rw [if_pos hlc]
 unfold tcV
 rw [if_pos ⟨hs, hak, hpc, hlc⟩, hll, if_pos]
 refine ⟨?_, ?_⟩
 ·rw [findI_lt]
  intro i _ hi
  have hi' : (i : Int) < T.n := by omega
  have hb := a5 i hi'
  simp only [t18Bad, Bool.or_eq_false_iff] at hb
  obtain ⟨d1, d2, d3, d4⟩ := hb
  simp only [t17Bad, d1, Bool.false_or]
  split
  next hu =>
   rw [if_pos hu, decide_eq_false_iff_not] at d4
   obtain ⟨e1, e2⟩ := rc_cell ho h hi' hu
   rw [decide_eq_false_iff_not, e1, e2]
   rintro (q | q | q)
   ·exact q rfl
   ·exact q rfl
   ·exact d4 q
  next hu => rw [if_neg hu] at d4; exact d4
 ·rw [a4, ctN_filter]
  have hin : ∀ i, i < T.us.length → T.us.getD i false = inB (chL T.no T.h) i := fun i hi => by
   have hb := a5 i (by omega)
   simp only [t18Bad, Bool.or_eq_false_iff, Bool.not_eq_false', beq_iff_eq] at hb
   exact hb.1
  apply Nat.le_antisymm
  ·have := nodup_le (L := (List.range T.us.length).filter fun i => T.us.getD i false) (M := (chL T.no T.h).map Int.toNat) (List.nodup_range.sublist List.filter_sublist) (fun x hx => by
    rw [List.mem_filter, List.mem_range] at hx
    have hq := hx.2
    rw [hin x hx.1] at hq
    exact List.mem_map.2 ⟨(x : Int), of_decide_eq_true hq, by omega⟩)
   rwa [List.length_map] at this
  ·have := nodup_le (L := (chL T.no T.h).map Int.toNat) (M := (List.range T.us.length).filter fun i => T.us.getD i false) (toNat_nodup hl.1 fun x hx => (hl.2 x hx).1) (fun x hx => by
    obtain ⟨y, hy, rfl⟩ := List.mem_map.1 hx
    have hb := hl.2 y hy
    have hlt : y.toNat < T.us.length := by omega
    rw [List.mem_filter, List.mem_range]
    refine ⟨hlt, ?_⟩
    rw [hin _ hlt, show ((y.toNat : Nat) : Int) = y by omega]
    exact decide_eq_true hy)
   rwa [List.length_map] at this
end TableS
end
