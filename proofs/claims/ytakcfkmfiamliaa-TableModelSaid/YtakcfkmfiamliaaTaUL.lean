/- What the functions compute, and the law. No condition. -/
import Derived.Test.YtakcfkmfiamliaaTaUG
set_option linter.unusedSectionVars false
set_option linter.unusedVariables false
set_option linter.unusedSimpArgs false
section
namespace TableS
open Go Go.Dam Go.Proofs
set_option maxRecDepth 1000000
noncomputable def tc_c0 (ps no : List Int) (p : Int) := (ps.set (no.getD p.toNat 0).toNat (ps.getD p.toNat 0)).set p.toNat (-1)
noncomputable def tc_c1 (ps no : List Int) (p : Int) := (no.set (ps.getD p.toNat 0).toNat (no.getD p.toNat 0)).set p.toNat (-1)
noncomputable def tc_T (ps : List Int) (no : List Int) (h : Int) (t : Int) (p : Int) : Tr D := .d (cmpI .neq (lcV ps no h t) 0) (fun e0 => .p (.d true) (.k _ e0 (.lf (D.tup [D.agg [D.v (Value.slice none 0 0), D.v (Value.slice none 0 0), i64 0, i64 0], i64 (lcV ps no h t)])))) (fun e0 => .d (cmpI .lss p 0) (fun e1 => .p (.c 5) (.lf (D.tup [D.agg [D.v (Value.slice none 0 0), D.v (Value.slice none 0 0), i64 0, i64 0], i64 2]))) (fun e1 => .p (.c 3) (.d (cmpI .geq p (ps.length : Int)) (fun e2 => .p (.c 0) (.lf (D.tup [D.agg [D.v (Value.slice none 0 0), D.v (Value.slice none 0 0), i64 0, i64 0], i64 2]))) (fun e2 => .p (.c 0) (.s (ps.length ≤ 200 ∧ no.length ≤ 200) (.d (cmpI .eql h p) (fun e3 => .p (.c 5) (.s (decide (p < (ps.length : Int)) = true) (.s (decide (0 ≤ p) = true) (.s (p.toNat < ps.length) (.s (decide (p < (no.length : Int)) = true) (.s (decide (0 ≤ p) = true) (.s (p.toNat < no.length) (.d (cmpI .eql (ps.getD p.toNat 0) (-1)) (fun e4 => .d (cmpI .eql (no.getD p.toNat 0) (-1)) (fun e5 => .p (.d true) (.s (decide (p < (ps.length : Int)) = true) (.s (decide (0 ≤ p) = true) (.s (ps.length = ps.length) (.s (p.toNat < ps.length) (.s (decide (p < (no.length : Int)) = true) (.s (decide (0 ≤ p) = true) (.s (no.length = no.length) (.s (p.toNat < no.length) (.s (decide (p < (no.length : Int)) = true) (.s (decide (0 ≤ p) = true) (.s ((Col0.ints .i64 (no.set p.toNat (-1))).len = (no.set p.toNat (-1)).length) (.s (p.toNat < (no.set p.toNat (-1)).length) (.k _ e5 (.s (no.length = rowLen0 [.ints .i64 ((no.set p.toNat (-1)).set p.toNat (no.getD p.toNat 0))]) (.s (ps.length = (ps.set p.toNat (-1)).length) (.lf (D.tup [D.agg [D.oc [.ints .i64 (ps.set p.toNat (-1))], D.oc [.ints .i64 ((no.set p.toNat (-1)).set p.toNat (no.getD p.toNat 0))], i64 p, i64 p], i64 0])))))))))))))))))) (fun e5 => .p (.d false) (.s (decide (no.getD p.toNat 0 < (ps.length : Int)) = true) (.s (decide (0 ≤ no.getD p.toNat 0) = true) (.s (ps.length = ps.length) (.s ((no.getD p.toNat 0).toNat < ps.length) (.s (decide (p < (ps.length : Int)) = true) (.s (decide (0 ≤ p) = true) (.s ((ps.set (no.getD p.toNat 0).toNat (ps.getD p.toNat 0)).length = (ps.set (no.getD p.toNat 0).toNat (ps.getD p.toNat 0)).length) (.s (p.toNat < (ps.set (no.getD p.toNat 0).toNat (ps.getD p.toNat 0)).length) (.s (decide (p < (no.length : Int)) = true) (.s (decide (0 ≤ p) = true) (.s (no.length = no.length) (.s (p.toNat < no.length) (.s (decide (p < (no.length : Int)) = true) (.s (decide (0 ≤ p) = true) (.s ((Col0.ints .i64 (no.set p.toNat (-1))).len = (no.set p.toNat (-1)).length) (.s (p.toNat < (no.set p.toNat (-1)).length) (.k _ e5 (.s (decide (no.getD p.toNat 0 < (ps.length : Int)) = true) (.s (decide (0 ≤ no.getD p.toNat 0) = true) (.s ((Col0.ints .i64 (tc_c0 ps no p)).len = (tc_c0 ps no p).length) (.s ((no.getD p.toNat 0).toNat < (tc_c0 ps no p).length) (.s (no.length = rowLen0 [.ints .i64 ((no.set p.toNat (-1)).set p.toNat (no.getD p.toNat 0))]) (.s (ps.length = rowLen0 [.ints .i64 ((tc_c0 ps no p).set (no.getD p.toNat 0).toNat p)]) (.lf (D.tup [D.agg [D.oc [.ints .i64 ((tc_c0 ps no p).set (no.getD p.toNat 0).toNat p)], D.oc [.ints .i64 ((no.set p.toNat (-1)).set p.toNat (no.getD p.toNat 0))], i64 p, i64 t], i64 0]))))))))))))))))))))))))))) (fun e4 => .s (decide (ps.getD p.toNat 0 < (no.length : Int)) = true) (.s (decide (0 ≤ ps.getD p.toNat 0) = true) (.s (no.length = no.length) (.s ((ps.getD p.toNat 0).toNat < no.length) (.d (cmpI .eql (no.getD p.toNat 0) (-1)) (fun e5 => .s (decide (p < (ps.length : Int)) = true) (.s (decide (0 ≤ p) = true) (.s (ps.length = ps.length) (.s (p.toNat < ps.length) (.s (decide (p < (no.length : Int)) = true) (.s (decide (0 ≤ p) = true) (.s ((no.set (ps.getD p.toNat 0).toNat (no.getD p.toNat 0)).length = (no.set (ps.getD p.toNat 0).toNat (no.getD p.toNat 0)).length) (.s (p.toNat < (no.set (ps.getD p.toNat 0).toNat (no.getD p.toNat 0)).length) (.s (decide (p < (no.length : Int)) = true) (.s (decide (0 ≤ p) = true) (.s ((Col0.ints .i64 (tc_c1 ps no p)).len = (tc_c1 ps no p).length) (.s (p.toNat < (tc_c1 ps no p).length) (.d (cmpI .eql h (-1)) (fun e6 => .s (no.length = rowLen0 [.ints .i64 ((tc_c1 ps no p).set p.toNat h)]) (.s (ps.length = (ps.set p.toNat (-1)).length) (.lf (D.tup [D.agg [D.oc [.ints .i64 (ps.set p.toNat (-1))], D.oc [.ints .i64 ((tc_c1 ps no p).set p.toNat h)], i64 p, i64 p], i64 0])))) (fun e6 => .s (decide (h < (ps.length : Int)) = true) (.s (decide (0 ≤ h) = true) (.s ((Col0.ints .i64 (ps.set p.toNat (-1))).len = (ps.set p.toNat (-1)).length) (.s (h.toNat < (ps.set p.toNat (-1)).length) (.s (no.length = rowLen0 [.ints .i64 ((tc_c1 ps no p).set p.toNat h)]) (.s (ps.length = rowLen0 [.ints .i64 ((ps.set p.toNat (-1)).set h.toNat p)]) (.lf (D.tup [D.agg [D.oc [.ints .i64 ((ps.set p.toNat (-1)).set h.toNat p)], D.oc [.ints .i64 ((tc_c1 ps no p).set p.toNat h)], i64 p, i64 (ps.getD p.toNat 0)], i64 0]))))))))))))))))))))) (fun e5 => .s (decide (no.getD p.toNat 0 < (ps.length : Int)) = true) (.s (decide (0 ≤ no.getD p.toNat 0) = true) (.s (ps.length = ps.length) (.s ((no.getD p.toNat 0).toNat < ps.length) (.s (decide (p < (ps.length : Int)) = true) (.s (decide (0 ≤ p) = true) (.s ((ps.set (no.getD p.toNat 0).toNat (ps.getD p.toNat 0)).length = (ps.set (no.getD p.toNat 0).toNat (ps.getD p.toNat 0)).length) (.s (p.toNat < (ps.set (no.getD p.toNat 0).toNat (ps.getD p.toNat 0)).length) (.s (decide (p < (no.length : Int)) = true) (.s (decide (0 ≤ p) = true) (.s ((no.set (ps.getD p.toNat 0).toNat (no.getD p.toNat 0)).length = (no.set (ps.getD p.toNat 0).toNat (no.getD p.toNat 0)).length) (.s (p.toNat < (no.set (ps.getD p.toNat 0).toNat (no.getD p.toNat 0)).length) (.s (decide (p < (no.length : Int)) = true) (.s (decide (0 ≤ p) = true) (.s ((Col0.ints .i64 (tc_c1 ps no p)).len = (tc_c1 ps no p).length) (.s (p.toNat < (tc_c1 ps no p).length) (.d (cmpI .eql h (-1)) (fun e6 => .s (no.length = rowLen0 [.ints .i64 ((tc_c1 ps no p).set p.toNat h)]) (.s (ps.length = (tc_c0 ps no p).length) (.lf (D.tup [D.agg [D.oc [.ints .i64 (tc_c0 ps no p)], D.oc [.ints .i64 ((tc_c1 ps no p).set p.toNat h)], i64 p, i64 p], i64 0])))) (fun e6 => .s (decide (h < (ps.length : Int)) = true) (.s (decide (0 ≤ h) = true) (.s ((Col0.ints .i64 (tc_c0 ps no p)).len = (tc_c0 ps no p).length) (.s (h.toNat < (tc_c0 ps no p).length) (.s (no.length = rowLen0 [.ints .i64 ((tc_c1 ps no p).set p.toNat h)]) (.s (ps.length = rowLen0 [.ints .i64 ((tc_c0 ps no p).set h.toNat p)]) (.lf (D.tup [D.agg [D.oc [.ints .i64 ((tc_c0 ps no p).set h.toNat p)], D.oc [.ints .i64 ((tc_c1 ps no p).set p.toNat h)], i64 p, i64 t], i64 0])))))))))))))))))))))))))))))))))))))) (fun e3 => .p (.c 4) (.s (decide (p < (ps.length : Int)) = true) (.s (decide (0 ≤ p) = true) (.s (p.toNat < ps.length) (.d (cmpI .neq (ps.getD p.toNat 0) (-1)) (fun e4 => .s (decide (p < (ps.length : Int)) = true) (.s (decide (0 ≤ p) = true) (.s (p.toNat < ps.length) (.s (decide (p < (no.length : Int)) = true) (.s (decide (0 ≤ p) = true) (.s (p.toNat < no.length) (.d (cmpI .eql (ps.getD p.toNat 0) (-1)) (fun e5 => .d (cmpI .eql (no.getD p.toNat 0) (-1)) (fun e6 => .p (.d true) (.s (decide (p < (ps.length : Int)) = true) (.s (decide (0 ≤ p) = true) (.s (ps.length = ps.length) (.s (p.toNat < ps.length) (.s (decide (p < (no.length : Int)) = true) (.s (decide (0 ≤ p) = true) (.s (no.length = no.length) (.s (p.toNat < no.length) (.s (decide (p < (no.length : Int)) = true) (.s (decide (0 ≤ p) = true) (.s ((Col0.ints .i64 (no.set p.toNat (-1))).len = (no.set p.toNat (-1)).length) (.s (p.toNat < (no.set p.toNat (-1)).length) (.k _ e6 (.s (no.length = rowLen0 [.ints .i64 ((no.set p.toNat (-1)).set p.toNat (no.getD p.toNat 0))]) (.s (ps.length = (ps.set p.toNat (-1)).length) (.lf (D.tup [D.agg [D.oc [.ints .i64 (ps.set p.toNat (-1))], D.oc [.ints .i64 ((no.set p.toNat (-1)).set p.toNat (no.getD p.toNat 0))], i64 p, i64 p], i64 0])))))))))))))))))) (fun e6 => .p (.d false) (.s (decide (no.getD p.toNat 0 < (ps.length : Int)) = true) (.s (decide (0 ≤ no.getD p.toNat 0) = true) (.s (ps.length = ps.length) (.s ((no.getD p.toNat 0).toNat < ps.length) (.s (decide (p < (ps.length : Int)) = true) (.s (decide (0 ≤ p) = true) (.s ((ps.set (no.getD p.toNat 0).toNat (ps.getD p.toNat 0)).length = (ps.set (no.getD p.toNat 0).toNat (ps.getD p.toNat 0)).length) (.s (p.toNat < (ps.set (no.getD p.toNat 0).toNat (ps.getD p.toNat 0)).length) (.s (decide (p < (no.length : Int)) = true) (.s (decide (0 ≤ p) = true) (.s (no.length = no.length) (.s (p.toNat < no.length) (.s (decide (p < (no.length : Int)) = true) (.s (decide (0 ≤ p) = true) (.s ((Col0.ints .i64 (no.set p.toNat (-1))).len = (no.set p.toNat (-1)).length) (.s (p.toNat < (no.set p.toNat (-1)).length) (.k _ e6 (.s (decide (no.getD p.toNat 0 < (ps.length : Int)) = true) (.s (decide (0 ≤ no.getD p.toNat 0) = true) (.s ((Col0.ints .i64 (tc_c0 ps no p)).len = (tc_c0 ps no p).length) (.s ((no.getD p.toNat 0).toNat < (tc_c0 ps no p).length) (.s (no.length = rowLen0 [.ints .i64 ((no.set p.toNat (-1)).set p.toNat (no.getD p.toNat 0))]) (.s (ps.length = rowLen0 [.ints .i64 ((tc_c0 ps no p).set (no.getD p.toNat 0).toNat p)]) (.lf (D.tup [D.agg [D.oc [.ints .i64 ((tc_c0 ps no p).set (no.getD p.toNat 0).toNat p)], D.oc [.ints .i64 ((no.set p.toNat (-1)).set p.toNat (no.getD p.toNat 0))], i64 p, i64 t], i64 0]))))))))))))))))))))))))))) (fun e5 => .s (decide (ps.getD p.toNat 0 < (no.length : Int)) = true) (.s (decide (0 ≤ ps.getD p.toNat 0) = true) (.s (no.length = no.length) (.s ((ps.getD p.toNat 0).toNat < no.length) (.d (cmpI .eql (no.getD p.toNat 0) (-1)) (fun e6 => .s (decide (p < (ps.length : Int)) = true) (.s (decide (0 ≤ p) = true) (.s (ps.length = ps.length) (.s (p.toNat < ps.length) (.s (decide (p < (no.length : Int)) = true) (.s (decide (0 ≤ p) = true) (.s ((no.set (ps.getD p.toNat 0).toNat (no.getD p.toNat 0)).length = (no.set (ps.getD p.toNat 0).toNat (no.getD p.toNat 0)).length) (.s (p.toNat < (no.set (ps.getD p.toNat 0).toNat (no.getD p.toNat 0)).length) (.s (decide (p < (no.length : Int)) = true) (.s (decide (0 ≤ p) = true) (.s ((Col0.ints .i64 (tc_c1 ps no p)).len = (tc_c1 ps no p).length) (.s (p.toNat < (tc_c1 ps no p).length) (.d (cmpI .eql h (-1)) (fun e7 => .s (no.length = rowLen0 [.ints .i64 ((tc_c1 ps no p).set p.toNat h)]) (.s (ps.length = (ps.set p.toNat (-1)).length) (.lf (D.tup [D.agg [D.oc [.ints .i64 (ps.set p.toNat (-1))], D.oc [.ints .i64 ((tc_c1 ps no p).set p.toNat h)], i64 p, i64 p], i64 0])))) (fun e7 => .s (decide (h < (ps.length : Int)) = true) (.s (decide (0 ≤ h) = true) (.s ((Col0.ints .i64 (ps.set p.toNat (-1))).len = (ps.set p.toNat (-1)).length) (.s (h.toNat < (ps.set p.toNat (-1)).length) (.s (no.length = rowLen0 [.ints .i64 ((tc_c1 ps no p).set p.toNat h)]) (.s (ps.length = rowLen0 [.ints .i64 ((ps.set p.toNat (-1)).set h.toNat p)]) (.lf (D.tup [D.agg [D.oc [.ints .i64 ((ps.set p.toNat (-1)).set h.toNat p)], D.oc [.ints .i64 ((tc_c1 ps no p).set p.toNat h)], i64 p, i64 (ps.getD p.toNat 0)], i64 0]))))))))))))))))))))) (fun e6 => .s (decide (no.getD p.toNat 0 < (ps.length : Int)) = true) (.s (decide (0 ≤ no.getD p.toNat 0) = true) (.s (ps.length = ps.length) (.s ((no.getD p.toNat 0).toNat < ps.length) (.s (decide (p < (ps.length : Int)) = true) (.s (decide (0 ≤ p) = true) (.s ((ps.set (no.getD p.toNat 0).toNat (ps.getD p.toNat 0)).length = (ps.set (no.getD p.toNat 0).toNat (ps.getD p.toNat 0)).length) (.s (p.toNat < (ps.set (no.getD p.toNat 0).toNat (ps.getD p.toNat 0)).length) (.s (decide (p < (no.length : Int)) = true) (.s (decide (0 ≤ p) = true) (.s ((no.set (ps.getD p.toNat 0).toNat (no.getD p.toNat 0)).length = (no.set (ps.getD p.toNat 0).toNat (no.getD p.toNat 0)).length) (.s (p.toNat < (no.set (ps.getD p.toNat 0).toNat (no.getD p.toNat 0)).length) (.s (decide (p < (no.length : Int)) = true) (.s (decide (0 ≤ p) = true) (.s ((Col0.ints .i64 (tc_c1 ps no p)).len = (tc_c1 ps no p).length) (.s (p.toNat < (tc_c1 ps no p).length) (.d (cmpI .eql h (-1)) (fun e7 => .s (no.length = rowLen0 [.ints .i64 ((tc_c1 ps no p).set p.toNat h)]) (.s (ps.length = (tc_c0 ps no p).length) (.lf (D.tup [D.agg [D.oc [.ints .i64 (tc_c0 ps no p)], D.oc [.ints .i64 ((tc_c1 ps no p).set p.toNat h)], i64 p, i64 p], i64 0])))) (fun e7 => .s (decide (h < (ps.length : Int)) = true) (.s (decide (0 ≤ h) = true) (.s ((Col0.ints .i64 (tc_c0 ps no p)).len = (tc_c0 ps no p).length) (.s (h.toNat < (tc_c0 ps no p).length) (.s (no.length = rowLen0 [.ints .i64 ((tc_c1 ps no p).set p.toNat h)]) (.s (ps.length = rowLen0 [.ints .i64 ((tc_c0 ps no p).set h.toNat p)]) (.lf (D.tup [D.agg [D.oc [.ints .i64 ((tc_c0 ps no p).set h.toNat p)], D.oc [.ints .i64 ((tc_c1 ps no p).set p.toNat h)], i64 p, i64 t], i64 0]))))))))))))))))))))))))))))))))))))) (fun e4 => .s (decide (p < (no.length : Int)) = true) (.s (decide (0 ≤ p) = true) (.s (no.length = no.length) (.s (p.toNat < no.length) (.d (cmpI .eql h (-1)) (fun e5 => .s (no.length = rowLen0 [.ints .i64 (no.set p.toNat h)]) (.q (ps.length) (.lf (D.tup [D.agg [D.oc [.ints .i64 ps], D.oc [.ints .i64 (no.set p.toNat h)], i64 p, i64 p], i64 0])))) (fun e5 => .s (decide (h < (ps.length : Int)) = true) (.s (decide (0 ≤ h) = true) (.s (ps.length = ps.length) (.s (h.toNat < ps.length) (.s (no.length = rowLen0 [.ints .i64 (no.set p.toNat h)]) (.s (ps.length = rowLen0 [.ints .i64 (ps.set h.toNat p)]) (.lf (D.tup [D.agg [D.oc [.ints .i64 (ps.set h.toNat p)], D.oc [.ints .i64 (no.set p.toNat h)], i64 p, i64 t], i64 0]))))))))))))))))))))))))
theorem tc_L (ps no : List Int) (h t p : Int) : Leaves (fun l => fnX Try.prog (X12) 100000 l 50 [D.agg [ri ps, ri no, i64 h, i64 t], i64 p]) (tc_T ps no h t p) [] [] := by refine ⟨fun _ => ?_, fun _ => ⟨fun _ => ?_, fun _ => ⟨fun _ => ?_, fun _ => ⟨fun _ => ⟨fun _ => ⟨fun _ => ?_, fun _ => ?_⟩, fun _ => ⟨fun _ => ⟨fun _ => ?_, fun _ => ?_⟩, fun _ => ⟨fun _ => ?_, fun _ => ?_⟩⟩⟩, fun _ => ⟨fun _ => ⟨fun _ => ⟨fun _ => ?_, fun _ => ?_⟩, fun _ => ⟨fun _ => ⟨fun _ => ?_, fun _ => ?_⟩, fun _ => ⟨fun _ => ?_, fun _ => ?_⟩⟩⟩, fun _ => ⟨fun _ => ?_, fun _ => ?_⟩⟩⟩⟩⟩⟩ <;> (show _ = _; kernel_rfl)
theorem tc_calls (ps no : List Int) (h t p : Int) (res : D) (h0 : At (fun r => res = r) (tc_T ps no h t p) [true] True) (h1 : At (fun r => res = r) (tc_T ps no h t p) [false, true] True) (h2 : At (fun r => res = r) (tc_T ps no h t p) [false, false, true] True) (h3 : At (fun r => res = r) (tc_T ps no h t p) [false, false, false, true, true, true] True) (h4 : At (fun r => res = r) (tc_T ps no h t p) [false, false, false, true, true, false] True) (h5 : At (fun r => res = r) (tc_T ps no h t p) [false, false, false, true, false, true, true] True) (h6 : At (fun r => res = r) (tc_T ps no h t p) [false, false, false, true, false, true, false] True) (h7 : At (fun r => res = r) (tc_T ps no h t p) [false, false, false, true, false, false, true] True) (h8 : At (fun r => res = r) (tc_T ps no h t p) [false, false, false, true, false, false, false] True) (h9 : At (fun r => res = r) (tc_T ps no h t p) [false, false, false, false, true, true, true] True) (h10 : At (fun r => res = r) (tc_T ps no h t p) [false, false, false, false, true, true, false] True) (h11 : At (fun r => res = r) (tc_T ps no h t p) [false, false, false, false, true, false, true, true] True) (h12 : At (fun r => res = r) (tc_T ps no h t p) [false, false, false, false, true, false, true, false] True) (h13 : At (fun r => res = r) (tc_T ps no h t p) [false, false, false, false, true, false, false, true] True) (h14 : At (fun r => res = r) (tc_T ps no h t p) [false, false, false, false, true, false, false, false] True) (h15 : At (fun r => res = r) (tc_T ps no h t p) [false, false, false, false, false, true] True) (h16 : At (fun r => res = r) (tc_T ps no h t p) [false, false, false, false, false, false] True) : CallsD Try.prog 50 [D.agg [ri ps, ri no, i64 h, i64 t], i64 p] res := tree_calls (hX12) (tc_L ps no h t p) ⟨fun e0 => h0 e0, fun e0 => ⟨fun e1 => h1 e0 e1, fun e1 => ⟨fun e2 => h2 e0 e1 e2, fun e2 => ⟨fun e3 => ⟨fun e4 => ⟨fun e5 => h3 e0 e1 e2 e3 e4 e5, fun e5 => h4 e0 e1 e2 e3 e4 e5⟩, fun e4 => ⟨fun e5 => ⟨fun e6 => h5 e0 e1 e2 e3 e4 e5 e6, fun e6 => h6 e0 e1 e2 e3 e4 e5 e6⟩, fun e5 => ⟨fun e6 => h7 e0 e1 e2 e3 e4 e5 e6, fun e6 => h8 e0 e1 e2 e3 e4 e5 e6⟩⟩⟩, fun e3 => ⟨fun e4 => ⟨fun e5 => ⟨fun e6 => h9 e0 e1 e2 e3 e4 e5 e6, fun e6 => h10 e0 e1 e2 e3 e4 e5 e6⟩, fun e5 => ⟨fun e6 => ⟨fun e7 => h11 e0 e1 e2 e3 e4 e5 e6 e7, fun e7 => h12 e0 e1 e2 e3 e4 e5 e6 e7⟩, fun e6 => ⟨fun e7 => h13 e0 e1 e2 e3 e4 e5 e6 e7, fun e7 => h14 e0 e1 e2 e3 e4 e5 e6 e7⟩⟩⟩, fun e4 => ⟨fun e5 => h15 e0 e1 e2 e3 e4 e5, fun e5 => h16 e0 e1 e2 e3 e4 e5⟩⟩⟩⟩⟩⟩
/-- A place touched. -/
def toO (ps no : List Int) (h t p : Int) : Prop := lcV ps no h t = 0 ∧ 0 ≤ p ∧ p < (ps.length : Int)
instance (ps no : List Int) (h t p : Int) : Decidable (toO ps no h t p) := by unfold toO; exact inferInstance
def toH (ps no : List Int) (h p : Int) : Int := if h = p ∨ ps.getD p.toNat 0 ≠ -1 then rmH ps no h p else h
def toP (ps no : List Int) (h p : Int) : List Int := if toH ps no h p = -1 then (if h = p ∨ ps.getD p.toNat 0 ≠ -1 then rmP ps no p else ps) else (if h = p ∨ ps.getD p.toNat 0 ≠ -1 then rmP ps no p else ps).set (toH ps no h p).toNat p
def toN (ps no : List Int) (h p : Int) : List Int := (if h = p ∨ ps.getD p.toNat 0 ≠ -1 then rmN ps no p else no).set p.toNat (toH ps no h p)
def toT (ps no : List Int) (h t p : Int) : Int := if toH ps no h p = -1 then p else (if h = p ∨ ps.getD p.toNat 0 ≠ -1 then rmT ps no t p else t)
def toE (ps no : List Int) (h t p : Int) : Int := if lcV ps no h t = 0 then (if 0 ≤ p ∧ p < (ps.length : Int) then 0 else 2) else lcV ps no h t
theorem to_ok (ps no : List Int) (h t p : Int) : CallsD Try.prog 50 [.agg [ri ps, ri no, i64 h, i64 t], i64 p]
  (.tup [.agg [oi (if toO ps no h t p then toP ps no h p else []), oi (if toO ps no h t p then toN ps no h p else []), i64 (if toO ps no h t p then p else 0), i64 (if toO ps no h t p then toT ps no h t p else 0)], i64 (toE ps no h t p)]) := by
 by_cases hO : toO ps no h t p
 ·have hO' := hO
  obtain ⟨c, p0, p1⟩ := hO'
  obtain ⟨c1, c2, c3, la, ys, hw, _⟩ := lcV_is c
  obtain ⟨r1, r2⟩ := lcV_rng c p.toNat (by omega)
  have r3 := walkL_first hw
  unfold rng at r1 r2 r3
  have hE : toE ps no h t p = 0 := by unfold toE; rw [if_pos c, if_pos ⟨p0, p1⟩]
  simp only [if_pos hO]; rw [hE]
  unfold toP toN toT toH
  refine tc_calls ps no h t p _ ?_ ?_ ?_ ?_ ?_ ?_ ?_ ?_ ?_ ?_ ?_ ?_ ?_ ?_ ?_ ?_ ?_ <;> dsimp only [At, Tr.q, tc_T]
  ·intro g; rw [neq_t] at g; exact absurd c g
  ·intro _ g; rw [lss_t] at g; omega
  ·intro _ _ g; rw [geq_t] at g; omega
  ·intro _ _ _ g g1 g2
   rw [eql_t] at g
   have hI : h = p ∨ ps.getD p.toNat 0 ≠ -1 := .inl g
   rw [eql_t] at g1; rw [eql_t] at g2
   simp only [if_pos hI]; unfold rmP rmN rmH rmT
   refine ⟨?_, ?_⟩
   ·(repeat' apply And.intro) <;> first | exact trivial | rfl | assumption | omega | (simp only [rowLen0, Col0.len, tc_c0, tc_c1, List.length_set]; done) | (simp only [rowLen0, Col0.len, tc_c0, tc_c1, List.length_set]; omega) | (apply decide_eq_true; omega) | (apply decide_eq_true; simp only [rowLen0, Col0.len, tc_c0, tc_c1, List.length_set]; omega)
   ·simp only [if_pos g1, if_pos g2] <;> first | rfl | (simp only [tc_c0, tc_c1]; done) | (unfold tc_c0 tc_c1; rfl) | (unfold tc_c0; rfl) | (unfold tc_c1; rfl)
  ·intro _ _ _ g g1 g2
   rw [eql_t] at g
   have hI : h = p ∨ ps.getD p.toNat 0 ≠ -1 := .inl g
   rw [eql_t] at g1; rw [eql_f] at g2
   simp only [if_pos hI]; unfold rmP rmN rmH rmT
   refine ⟨?_, ?_⟩
   ·(repeat' apply And.intro) <;> first | exact trivial | rfl | assumption | omega | (simp only [rowLen0, Col0.len, tc_c0, tc_c1, List.length_set]; done) | (simp only [rowLen0, Col0.len, tc_c0, tc_c1, List.length_set]; omega) | (apply decide_eq_true; omega) | (apply decide_eq_true; simp only [rowLen0, Col0.len, tc_c0, tc_c1, List.length_set]; omega)
   ·simp only [if_pos g1, if_neg g2] <;> first | rfl | (simp only [tc_c0, tc_c1]; done) | (unfold tc_c0 tc_c1; rfl) | (unfold tc_c0; rfl) | (unfold tc_c1; rfl)
  ·intro _ _ _ g g1 g2 g3
   rw [eql_t] at g
   have hI : h = p ∨ ps.getD p.toNat 0 ≠ -1 := .inl g
   rw [eql_f] at g1; rw [eql_t] at g2
   rw [eql_t] at g3
   simp only [if_pos hI]; unfold rmP rmN rmH rmT
   refine ⟨?_, ?_⟩
   ·(repeat' apply And.intro) <;> first | exact trivial | rfl | assumption | omega | (simp only [rowLen0, Col0.len, tc_c0, tc_c1, List.length_set]; done) | (simp only [rowLen0, Col0.len, tc_c0, tc_c1, List.length_set]; omega) | (apply decide_eq_true; omega) | (apply decide_eq_true; simp only [rowLen0, Col0.len, tc_c0, tc_c1, List.length_set]; omega)
   ·simp only [if_neg g1, if_pos g2, if_pos g3] <;> first | rfl | (simp only [tc_c0, tc_c1]; done) | (unfold tc_c0 tc_c1; rfl) | (unfold tc_c0; rfl) | (unfold tc_c1; rfl)
  ·intro _ _ _ g g1 g2 g3
   rw [eql_t] at g
   have hI : h = p ∨ ps.getD p.toNat 0 ≠ -1 := .inl g
   rw [eql_f] at g1; rw [eql_t] at g2
   rw [eql_f] at g3
   simp only [if_pos hI]; unfold rmP rmN rmH rmT
   refine ⟨?_, ?_⟩
   ·(repeat' apply And.intro) <;> first | exact trivial | rfl | assumption | omega | (simp only [rowLen0, Col0.len, tc_c0, tc_c1, List.length_set]; done) | (simp only [rowLen0, Col0.len, tc_c0, tc_c1, List.length_set]; omega) | (apply decide_eq_true; omega) | (apply decide_eq_true; simp only [rowLen0, Col0.len, tc_c0, tc_c1, List.length_set]; omega)
   ·simp only [if_neg g1, if_pos g2, if_neg g3] <;> first | rfl | (simp only [tc_c0, tc_c1]; done) | (unfold tc_c0 tc_c1; rfl) | (unfold tc_c0; rfl) | (unfold tc_c1; rfl)
  ·intro _ _ _ g g1 g2 g3
   rw [eql_t] at g
   have hI : h = p ∨ ps.getD p.toNat 0 ≠ -1 := .inl g
   rw [eql_f] at g1; rw [eql_f] at g2
   rw [eql_t] at g3
   simp only [if_pos hI]; unfold rmP rmN rmH rmT
   refine ⟨?_, ?_⟩
   ·(repeat' apply And.intro) <;> first | exact trivial | rfl | assumption | omega | (simp only [rowLen0, Col0.len, tc_c0, tc_c1, List.length_set]; done) | (simp only [rowLen0, Col0.len, tc_c0, tc_c1, List.length_set]; omega) | (apply decide_eq_true; omega) | (apply decide_eq_true; simp only [rowLen0, Col0.len, tc_c0, tc_c1, List.length_set]; omega)
   ·simp only [if_neg g1, if_neg g2, if_pos g3] <;> first | rfl | (simp only [tc_c0, tc_c1]; done) | (unfold tc_c0 tc_c1; rfl) | (unfold tc_c0; rfl) | (unfold tc_c1; rfl)
  ·intro _ _ _ g g1 g2 g3
   rw [eql_t] at g
   have hI : h = p ∨ ps.getD p.toNat 0 ≠ -1 := .inl g
   rw [eql_f] at g1; rw [eql_f] at g2
   rw [eql_f] at g3
   simp only [if_pos hI]; unfold rmP rmN rmH rmT
   refine ⟨?_, ?_⟩
   ·(repeat' apply And.intro) <;> first | exact trivial | rfl | assumption | omega | (simp only [rowLen0, Col0.len, tc_c0, tc_c1, List.length_set]; done) | (simp only [rowLen0, Col0.len, tc_c0, tc_c1, List.length_set]; omega) | (apply decide_eq_true; omega) | (apply decide_eq_true; simp only [rowLen0, Col0.len, tc_c0, tc_c1, List.length_set]; omega)
   ·simp only [if_neg g1, if_neg g2, if_neg g3] <;> first | rfl | (simp only [tc_c0, tc_c1]; done) | (unfold tc_c0 tc_c1; rfl) | (unfold tc_c0; rfl) | (unfold tc_c1; rfl)
  ·intro _ _ _ g g' g1 g2
   rw [eql_f] at g; rw [neq_t] at g'
   have hI : h = p ∨ ps.getD p.toNat 0 ≠ -1 := .inr g'
   rw [eql_t] at g1; rw [eql_t] at g2
   exact absurd g1 g'
  ·intro _ _ _ g g' g1 g2
   rw [eql_f] at g; rw [neq_t] at g'
   have hI : h = p ∨ ps.getD p.toNat 0 ≠ -1 := .inr g'
   rw [eql_t] at g1; rw [eql_f] at g2
   exact absurd g1 g'
  ·intro _ _ _ g g' g1 g2 g3
   rw [eql_f] at g; rw [neq_t] at g'
   have hI : h = p ∨ ps.getD p.toNat 0 ≠ -1 := .inr g'
   rw [eql_f] at g1; rw [eql_t] at g2
   rw [eql_t] at g3
   simp only [if_pos hI]; unfold rmP rmN rmH rmT
   refine ⟨?_, ?_⟩
   ·(repeat' apply And.intro) <;> first | exact trivial | rfl | assumption | omega | (simp only [rowLen0, Col0.len, tc_c0, tc_c1, List.length_set]; done) | (simp only [rowLen0, Col0.len, tc_c0, tc_c1, List.length_set]; omega) | (apply decide_eq_true; omega) | (apply decide_eq_true; simp only [rowLen0, Col0.len, tc_c0, tc_c1, List.length_set]; omega)
   ·simp only [if_neg g1, if_pos g2, if_pos g3] <;> first | rfl | (simp only [tc_c0, tc_c1]; done) | (unfold tc_c0 tc_c1; rfl) | (unfold tc_c0; rfl) | (unfold tc_c1; rfl)
  ·intro _ _ _ g g' g1 g2 g3
   rw [eql_f] at g; rw [neq_t] at g'
   have hI : h = p ∨ ps.getD p.toNat 0 ≠ -1 := .inr g'
   rw [eql_f] at g1; rw [eql_t] at g2
   rw [eql_f] at g3
   simp only [if_pos hI]; unfold rmP rmN rmH rmT
   refine ⟨?_, ?_⟩
   ·(repeat' apply And.intro) <;> first | exact trivial | rfl | assumption | omega | (simp only [rowLen0, Col0.len, tc_c0, tc_c1, List.length_set]; done) | (simp only [rowLen0, Col0.len, tc_c0, tc_c1, List.length_set]; omega) | (apply decide_eq_true; omega) | (apply decide_eq_true; simp only [rowLen0, Col0.len, tc_c0, tc_c1, List.length_set]; omega)
   ·simp only [if_neg g1, if_pos g2, if_neg g3] <;> first | rfl | (simp only [tc_c0, tc_c1]; done) | (unfold tc_c0 tc_c1; rfl) | (unfold tc_c0; rfl) | (unfold tc_c1; rfl)
  ·intro _ _ _ g g' g1 g2 g3
   rw [eql_f] at g; rw [neq_t] at g'
   have hI : h = p ∨ ps.getD p.toNat 0 ≠ -1 := .inr g'
   rw [eql_f] at g1; rw [eql_f] at g2
   rw [eql_t] at g3
   simp only [if_pos hI]; unfold rmP rmN rmH rmT
   refine ⟨?_, ?_⟩
   ·(repeat' apply And.intro) <;> first | exact trivial | rfl | assumption | omega | (simp only [rowLen0, Col0.len, tc_c0, tc_c1, List.length_set]; done) | (simp only [rowLen0, Col0.len, tc_c0, tc_c1, List.length_set]; omega) | (apply decide_eq_true; omega) | (apply decide_eq_true; simp only [rowLen0, Col0.len, tc_c0, tc_c1, List.length_set]; omega)
   ·simp only [if_neg g1, if_neg g2, if_pos g3] <;> first | rfl | (simp only [tc_c0, tc_c1]; done) | (unfold tc_c0 tc_c1; rfl) | (unfold tc_c0; rfl) | (unfold tc_c1; rfl)
  ·intro _ _ _ g g' g1 g2 g3
   rw [eql_f] at g; rw [neq_t] at g'
   have hI : h = p ∨ ps.getD p.toNat 0 ≠ -1 := .inr g'
   rw [eql_f] at g1; rw [eql_f] at g2
   rw [eql_f] at g3
   simp only [if_pos hI]; unfold rmP rmN rmH rmT
   refine ⟨?_, ?_⟩
   ·(repeat' apply And.intro) <;> first | exact trivial | rfl | assumption | omega | (simp only [rowLen0, Col0.len, tc_c0, tc_c1, List.length_set]; done) | (simp only [rowLen0, Col0.len, tc_c0, tc_c1, List.length_set]; omega) | (apply decide_eq_true; omega) | (apply decide_eq_true; simp only [rowLen0, Col0.len, tc_c0, tc_c1, List.length_set]; omega)
   ·simp only [if_neg g1, if_neg g2, if_neg g3] <;> first | rfl | (simp only [tc_c0, tc_c1]; done) | (unfold tc_c0 tc_c1; rfl) | (unfold tc_c0; rfl) | (unfold tc_c1; rfl)
  ·intro _ _ _ g g' g3
   rw [eql_f] at g; rw [neq_f] at g'; rw [eql_t] at g3
   have hI : ¬ (h = p ∨ ps.getD p.toNat 0 ≠ -1) := by rintro (q | q); exact g q; exact q g'
   simp only [if_neg hI]
   refine ⟨?_, ?_⟩
   ·(repeat' apply And.intro) <;> first | exact trivial | rfl | assumption | omega | (simp only [rowLen0, Col0.len, tc_c0, tc_c1, List.length_set]; done) | (simp only [rowLen0, Col0.len, tc_c0, tc_c1, List.length_set]; omega) | (apply decide_eq_true; omega) | (apply decide_eq_true; simp only [rowLen0, Col0.len, tc_c0, tc_c1, List.length_set]; omega)
   ·simp only [if_pos g3]
  ·intro _ _ _ g g' g3
   rw [eql_f] at g; rw [neq_f] at g'; rw [eql_f] at g3
   have hI : ¬ (h = p ∨ ps.getD p.toNat 0 ≠ -1) := by rintro (q | q); exact g q; exact q g'
   simp only [if_neg hI]
   refine ⟨?_, ?_⟩
   ·(repeat' apply And.intro) <;> first | exact trivial | rfl | assumption | omega | (simp only [rowLen0, Col0.len, tc_c0, tc_c1, List.length_set]; done) | (simp only [rowLen0, Col0.len, tc_c0, tc_c1, List.length_set]; omega) | (apply decide_eq_true; omega) | (apply decide_eq_true; simp only [rowLen0, Col0.len, tc_c0, tc_c1, List.length_set]; omega)
   ·simp only [if_neg g3]
 ·simp only [if_neg hO]
  refine calls_reads (ReadsNs.tup (.cons nilO (.refl _))) ?_
  unfold toE
  have out : ∀ {P : Prop}, cmpI .neq (lcV ps no h t) 0 = false → cmpI .lss p 0 = false → cmpI .geq p (ps.length : Int) = false → P := fun g1 g2 g3 => by
   rw [neq_f] at g1; rw [lss_f] at g2; rw [geq_f] at g3
   exact absurd ⟨g1, by omega, by omega⟩ hO
  refine tc_calls ps no h t p _ ?_ ?_ ?_ ?_ ?_ ?_ ?_ ?_ ?_ ?_ ?_ ?_ ?_ ?_ ?_ ?_ ?_ <;> dsimp only [At, Tr.q, tc_T]
  ·intro g; rw [neq_t] at g; exact ⟨trivial, by rw [if_neg g]⟩
  ·intro g g2; rw [neq_f] at g; rw [lss_t] at g2; exact ⟨trivial, by rw [if_pos g, if_neg (by omega)]⟩
  ·intro g g2 g3; rw [neq_f] at g; rw [geq_t] at g3; exact ⟨trivial, by rw [if_pos g, if_neg (by omega)]⟩
  all_goals (intro g1 g2 g3; exact out g1 g2 g3)
def toC : List D → Option (D × List Prop)
 | [.agg [.rc [.ints .i64 ps], .rc [.ints .i64 no], .v (.int .i64 h), .v (.int .i64 t)], .v (.int .i64 p)] => some ((.tup [.agg [oi (if toO ps no h t p then toP ps no h p else []), oi (if toO ps no h t p then toN ps no h p else []), i64 (if toO ps no h t p then p else 0), i64 (if toO ps no h t p then toT ps no h t p else 0)], i64 (toE ps no h t p)]), [])
 | _ => none
theorem toC_ok (args res l) (h : toC args = some (res, l)) (hl : AllP l) : CallsD Try.prog 50 args res := by
 unfold toC at h; split at h
 ·simp only [Option.some.injEq, Prod.mk.injEq] at h
  obtain ⟨rfl, rfl⟩ := h
  exact to_ok _ _ _ _ _
 ·cases h
end TableS
end

section
namespace TableS
open Go Go.Dam Go.Proofs
set_option maxRecDepth 1000000
noncomputable def ppT (kx px : List Int) (ux : List Bool) (k p e i n g j : Int) : Cs := ⟨TT.of [(0, cc kx px ux), (1, u32 k), (2, i64 p), (6, D.v (Value.slice none 0 0)), (7, i64 e), (9, i64 i), (11, i64 n), (37, cc kx px ux), (38, i64 g), (39, i64 j)], 59, [], [], none, 0⟩
noncomputable def pdT (e i : Int) (m : Nat) (j : Int) (kx px : List Int) (ux : List Bool) : Cs := ⟨TT.of [(4, D.v (Value.slice none 0 0)), (5, i64 e), (7, i64 i), (9, D.sl 960 0 m ⟨3, 0⟩), (10, i64 j)], 71, [], [(960, BX.row [.ints .u32 kx, .ints .i64 px, .bools ux] false)], none, 0⟩
def X13 : Contracts := addCon 46 (.call tkC) (addCon 87 (.call gvC) (addCon 85 (.call rmC) (addCon 50 (.call toC) X12)))
theorem hX13 : ConOK Try.prog X13 := addCall_ok tkC_ok (addCall_ok gvC_ok (addCall_ok rmC_ok (addCall_ok toC_ok hX12)))
end TableS
end

section
namespace TableS
open Go Go.Dam Go.Proofs
set_option maxRecDepth 1000000
noncomputable def ppL_T (kx : List Int) (px : List Int) (ux : List Bool) (k : Int) (p : Int) (er : Int) (i : Int) (n : Int) (g : Int) (j : Int) : Tr (Ex × Cs) := .d (cmpI .lss j g) (fun e0 => .s (decide (j < (kx.length : Int)) = true) (.s (decide (0 ≤ j) = true) (.d (ux.getD j.toNat false) (fun e1 => .lf (Ex.normal, (ppT (kx) (px) (ux) (k) (p) (er) (i) (opI .add .i64 n 1) (g) (opI .add .i64 j 1)))) (fun e1 => .lf (Ex.normal, (ppT (kx) (px) (ux) (k) (p) (er) (i) (n) (g) (opI .add .i64 j 1))))))) (fun e0 => .lf (Ex.exit 0, (ppT (kx) (px) (ux) (k) (p) (er) (i) (n) (g) (j))))
theorem ppL_L (kx px : List Int) (ux : List Bool) (k p er i n g j : Int) : Leaves (roundT Try.prog (X13) 100000 (loopAt Try.prog 49 0) [[0, 1, 2, 6, 7, 9, 11, 37, 38, 39]] [] (ppT kx px ux k p er i n g j)) (ppL_T kx px ux k p er i n g j) [] [] := by refine ⟨fun _ => ⟨fun _ => ?_, fun _ => ?_⟩, fun _ => ?_⟩ <;> (show _ = _; kernel_rfl)
theorem ppL_step (kx : List Int) (px : List Int) (ux : List Bool) (k : Int) (p : Int) (er : Int) (i : Int) (n : Int) (g : Int) (j : Int) (σ : St) (e : Ex) (h0 : At (RG Try.prog (loopAt Try.prog 49 0) e σ) (ppL_T kx px ux k p er i n g j) [true, true] True) (h1 : At (RG Try.prog (loopAt Try.prog 49 0) e σ) (ppL_T kx px ux k p er i n g j) [true, false] True) (h2 : At (RG Try.prog (loopAt Try.prog 49 0) e σ) (ppL_T kx px ux k p er i n g j) [false] True) : Runs Try.prog (CallsD Try.prog) (.rounds (loopAt Try.prog 49 0)) (ppT kx px ux k p er i n g j).abs e σ := tree_rounds (hX13) (ppL_L kx px ux k p er i n g j) ⟨fun e0 => ⟨fun e1 => h0 e0 e1, fun e1 => h1 e0 e1⟩, fun e0 => h2 e0⟩
noncomputable def pp_T (kx : List Int) (px : List Int) (ux : List Bool) (k : Int) (p : Int) (n : Int) : Tr D := .s (okI kx) (.d (cmpI .neq (pcV kx px ux) 0) (fun e0 => .lf (D.tup [D.v (Value.slice none 0 0), i64 (pcV kx px ux)])) (fun e0 => .d (cmpI .lss p 0) (fun e1 => .p (.c 1) (.lf (D.tup [D.v (Value.slice none 0 0), i64 2]))) (fun e1 => .p (.c 0) (.d (cmpI .geq p 16) (fun e2 => .lf (D.tup [D.v (Value.slice none 0 0), i64 2])) (fun e2 => .s (lkS kx ux k) (.s (decide ((lkI kx ux k : Int) < (kx.length : Int)) = true) (.s (decide ((0 : Int) ≤ (lkI kx ux k : Int)) = true) (.d (ux.getD (lkI kx ux k : Int).toNat false) (fun e3 => .lf (D.tup [D.v (Value.slice none 0 0), i64 14])) (fun e3 => .p (.l [[0, 1, 2, 6, 7, 9, 11, 37, 38, 39]] [] (ppT kx px ux k p 0 (lkI kx ux k : Int) 0 ((kx.length : Int)) 0) (Ex.exit 0) (ppT kx px ux k p 0 (lkI kx ux k : Int) n (kx.length : Int) (kx.length : Int))) (.s (Runs Try.prog (CallsD Try.prog) (.code (.loop (loopAt Try.prog 49 0))) (ppT kx px ux k p 0 (lkI kx ux k : Int) 0 ((kx.length : Int)) 0).abs (Ex.exit 0) (ppT kx px ux k p 0 (lkI kx ux k : Int) n (kx.length : Int) (kx.length : Int)).abs) (.k ((ppT kx px ux k p 0 (lkI kx ux k : Int) 0 ((kx.length : Int)) 0 = ppT kx px ux k p 0 (lkI kx ux k : Int) 0 ((kx.length : Int)) 0)) rfl (.d (cmpI .geq n 12) (fun e4 => .lf (D.tup [D.v (Value.slice none 0 0), i64 18])) (fun e4 => .s (ccS kx px ux) (.s (decide ((lkI kx ux k : Int) < (kx.length : Int)) = true) (.s (decide ((0 : Int) ≤ (lkI kx ux k : Int)) = true) (.s (ux.length = kx.length) (.s (px.length = kx.length) (.s (kx.length = kx.length) (.s ((lkI kx ux k : Int).toNat < kx.length) (.s (kx.length = (kx.set (lkI kx ux k : Int).toNat k).length) (.lf (D.tup [D.oc [.ints .u32 (kx.set (lkI kx ux k : Int).toNat k), .ints .i64 (px.set (lkI kx ux k : Int).toNat p), .bools (ux.set (lkI kx ux k : Int).toNat true)], i64 0]))))))))))))))))))))))
theorem pp_L (kx px : List Int) (ux : List Bool) (k p n : Int) : Leaves (fun l => fnX Try.prog (X13) 100000 l 49 [cc kx px ux, u32 k, i64 p]) (pp_T kx px ux k p n) [] [] := by refine ⟨fun _ => ?_, fun _ => ⟨fun _ => ?_, fun _ => ⟨fun _ => ?_, fun _ => ⟨fun _ => ?_, fun _ => ⟨fun _ => ?_, fun _ => ?_⟩⟩⟩⟩⟩ <;> (show _ = _; kernel_rfl)
theorem pp_calls (kx px : List Int) (ux : List Bool) (k p n : Int) (res : D) (h0 : At (fun r => res = r) (pp_T kx px ux k p n) [true] True) (h1 : At (fun r => res = r) (pp_T kx px ux k p n) [false, true] True) (h2 : At (fun r => res = r) (pp_T kx px ux k p n) [false, false, true] True) (h3 : At (fun r => res = r) (pp_T kx px ux k p n) [false, false, false, true] True) (h4 : At (fun r => res = r) (pp_T kx px ux k p n) [false, false, false, false, true] True) (h5 : At (fun r => res = r) (pp_T kx px ux k p n) [false, false, false, false, false] True) : CallsD Try.prog 49 [cc kx px ux, u32 k, i64 p] res := tree_calls (hX13) (pp_L kx px ux k p n) ⟨fun e0 => h0 e0, fun e0 => ⟨fun e1 => h1 e0 e1, fun e1 => ⟨fun e2 => h2 e0 e1 e2, fun e2 => ⟨fun e3 => h3 e0 e1 e2 e3, fun e3 => ⟨fun e4 => h4 e0 e1 e2 e3 e4, fun e4 => h5 e0 e1 e2 e3 e4⟩⟩⟩⟩⟩
def ppO (kx px : List Int) (ux : List Bool) (k p : Int) : Prop := pcV kx px ux = 0 ∧ (0 ≤ p ∧ p < 16) ∧ ux.getD (lkI kx ux k) false = false ∧ ctN kx.length ux < 12
instance (kx px : List Int) (ux : List Bool) (k p : Int) : Decidable (ppO kx px ux k p) := by unfold ppO; exact inferInstance
def ppE (kx px : List Int) (ux : List Bool) (k p : Int) : Int := if pcV kx px ux = 0 then (if 0 ≤ p ∧ p < 16 then (if ux.getD (lkI kx ux k) false = true then 14 else if ctN kx.length ux < 12 then 0 else 18) else 2) else pcV kx px ux
theorem ppL_all (kx px : List Int) (ux : List Bool) (k p e i : Int) (h : kx.length ≤ 200) :
  Runs Try.prog (CallsD Try.prog) (.code (.loop (loopAt Try.prog 49 0))) (ppT kx px ux k p e i 0 kx.length 0).abs (.exit 0) (ppT kx px ux k p e i (ctN kx.length ux : Nat) kx.length kx.length).abs := by
 refine loop_of_rounds ?_
 refine scan_all (fun j => ppT kx px ux k p e i (ctN j ux : Nat) kx.length (j : Int)) kx.length (fun _ => True) (fun j hi _ σ ex hr => ?_) ?_ kx.length 0 (by omega) (fun _ _ _ => trivial)
 ·refine ppL_step kx px ux k p e i _ kx.length j σ ex ?_ ?_ ?_ <;> dsimp only [At, Tr.q, RG, ppL_T]
  ·intro _ g
   rw [Int.toNat_natCast] at g
   rw [succL hi h]; unfold ctN; rw [cnt1 hi h]
   refine ⟨⟨(natLt hi).1, (natLt hi).2, trivial⟩, ?_⟩
   simp only [ctN, cnt, g, cond_true] at hr; exact hr
  ·intro _ g
   rw [Int.toNat_natCast] at g
   rw [succL hi h]
   refine ⟨⟨(natLt hi).1, (natLt hi).2, trivial⟩, ?_⟩
   simp only [ctN, cnt, g, cond_false, Nat.add_zero] at hr; exact hr
  ·intro g; rw [lss_f] at g; omega
 ·refine ppL_step kx px ux k p e i _ kx.length kx.length _ _ ?_ ?_ ?_ <;> dsimp only [At, Tr.q, RG, ppL_T]
  ·intro g; rw [lss_t] at g; omega
  ·intro g; rw [lss_t] at g; omega
  ·intro _; exact ⟨trivial, rfl, rfl⟩
theorem nilC (e : Int) : ReadsN (D.tup [D.v (Value.slice none 0 0), i64 e]) (.tup [cco [] [] [], i64 e]) := ReadsNs.tup (.cons (.nil rfl) (.refl _))
theorem pp_ok (kx px : List Int) (ux : List Bool) (k p : Int) (h : okI kx ∧ inU k ∧ ccS kx px ux) : CallsD Try.prog 49 [cc kx px ux, u32 k, i64 p]
  (.tup [cco (if ppO kx px ux k p then kx.set (lkI kx ux k) k else []) (if ppO kx px ux k p then px.set (lkI kx ux k) p else []) (if ppO kx px ux k p then ux.set (lkI kx ux k) true else []), i64 (ppE kx px ux k p)]) := by
 obtain ⟨h, hk, hc⟩ := h
 have hlt := lkI_lt (kx := kx) ux hk
 have hl := ppL_all kx px ux k p 0 (lkI kx ux k : Int) h.1
 have side : pcV kx px ux = 0 → lkS kx ux k ∧ kx.length = 16 := fun e => by
  obtain ⟨c1, c2, _⟩ := pcV_is e
  exact ⟨⟨c1, hk, ctN_free (by omega)⟩, c1⟩
 have hc' := hc
 obtain ⟨_, hc1, hc2⟩ := hc'
 by_cases hO : ppO kx px ux k p
 ·have hO' := hO
  obtain ⟨c, ⟨p0, p1⟩, hu, hn⟩ := hO'
  obtain ⟨s1, s2⟩ := side c
  have hE : ppE kx px ux k p = 0 := by unfold ppE; rw [if_pos c, if_pos ⟨p0, p1⟩, if_neg (by rw [hu]; simp), if_pos hn]
  simp only [if_pos hO]; rw [hE]
  have b := natLt (n := kx.length) (i := lkI kx ux k) (by omega)
  refine pp_calls kx px ux k p (ctN kx.length ux : Nat) _ ?_ ?_ ?_ ?_ ?_ ?_ <;> dsimp only [At, Tr.q, pp_T]
  ·intro g; rw [neq_t] at g; exact absurd c g
  ·intro _ g; rw [lss_t] at g; omega
  ·intro _ _ g; rw [geq_t] at g; omega
  ·intro _ _ _ g; rw [Int.toNat_natCast, hu] at g; cases g
  ·intro _ _ _ _ g; rw [geq_t] at g; omega
  ·intro _ _ _ _ _
   refine ⟨⟨by rw [List.length_set], by rw [Int.toNat_natCast]; omega, rfl, by omega, by omega, b.1, b.2, hc, hl, b.1, b.2, s1, h, trivial⟩, ?_⟩
   rw [Int.toNat_natCast]
 ·simp only [if_neg hO]
  refine calls_reads (nilC _) ?_
  unfold ppE
  refine pp_calls kx px ux k p (ctN kx.length ux : Nat) _ ?_ ?_ ?_ ?_ ?_ ?_ <;> dsimp only [At, Tr.q, pp_T]
  ·intro g; rw [neq_t] at g; exact ⟨⟨h, trivial⟩, by rw [if_neg g]⟩
  ·intro g g2; rw [neq_f] at g; rw [lss_t] at g2; exact ⟨⟨h, trivial⟩, by rw [if_pos g, if_neg (by omega)]⟩
  ·intro g g2 g3; rw [neq_f] at g; rw [geq_t] at g3; exact ⟨⟨h, trivial⟩, by rw [if_pos g, if_neg (by omega)]⟩
  ·intro g g2 g3 g4
   rw [neq_f] at g; rw [lss_f] at g2; rw [geq_f] at g3; rw [Int.toNat_natCast] at g4
   obtain ⟨s1, s2⟩ := side g
   have b := natLt (n := kx.length) (i := lkI kx ux k) (by omega)
   exact ⟨⟨b.1, b.2, s1, h, trivial⟩, by rw [if_pos g, if_pos ⟨by omega, by omega⟩, if_pos g4]⟩
  ·intro g g2 g3 g4 g5
   rw [neq_f] at g; rw [lss_f] at g2; rw [geq_f] at g3; rw [Int.toNat_natCast] at g4; rw [geq_t] at g5
   obtain ⟨s1, s2⟩ := side g
   have b := natLt (n := kx.length) (i := lkI kx ux k) (by omega)
   exact ⟨⟨hl, b.1, b.2, s1, h, trivial⟩, by rw [if_pos g, if_pos ⟨by omega, by omega⟩, if_neg (by rw [g4]; simp), if_neg (by omega)]⟩
  ·intro g g2 g3 g4 g5
   rw [neq_f] at g; rw [lss_f] at g2; rw [geq_f] at g3; rw [Int.toNat_natCast] at g4; rw [geq_f] at g5
   exact absurd ⟨g, ⟨by omega, by omega⟩, g4, by omega⟩ hO
def ppC : List D → Option (D × List Prop)
 | [.rc [.ints .u32 kx, .ints .i64 px, .bools ux], .v (.int .u32 k), .v (.int .i64 p)] => some ((.tup [cco (if ppO kx px ux k p then kx.set (lkI kx ux k) k else []) (if ppO kx px ux k p then px.set (lkI kx ux k) p else []) (if ppO kx px ux k p then ux.set (lkI kx ux k) true else []), i64 (ppE kx px ux k p)]), [okI kx ∧ inU k ∧ ccS kx px ux])
 | _ => none
theorem ppC_ok (args res l) (h : ppC args = some (res, l)) (hl : AllP l) : CallsD Try.prog 49 args res := by
 unfold ppC at h; split at h
 ·simp only [Option.some.injEq, Prod.mk.injEq] at h
  obtain ⟨rfl, rfl⟩ := h; obtain ⟨h0, _⟩ := hl
  exact pp_ok _ _ _ _ _ h0
 ·cases h
end TableS
end

section
namespace TableS
open Go Go.Dam Go.Proofs
set_option maxRecDepth 1000000
noncomputable def pdL_c0 (j : Int) := opI .and .i64 (opI .add .i64 j 1) 15
noncomputable def pdL_c1 (i j : Int) := opI .and .i64 (opI .sub .i64 j i) 15
noncomputable def pdL_c2 (i j : Int) (kx : List Int) := opI .sub .i64 (opI .sub .i64 (homeN (kx.getD j.toNat 0)) i) 1
noncomputable def pdL_c3 (i j : Int) (kx : List Int) := cmpI .geq (opI .and .i64 (pdL_c2 i j kx) 15) (pdL_c1 i j)
noncomputable def pdL_T (er : Int) (i : Int) (m : Nat) (j : Int) (kx : List Int) (px : List Int) (ux : List Bool) : Tr (Ex × Cs) := .s (decide (j < ↑m) = true) (.s (decide (0 ≤ j) = true) (.s (j.toNat < kx.length) (.d (ux.getD j.toNat false) (fun e0 => .s (decide (j < ↑m) = true) (.s (decide (0 ≤ j) = true) (.s (j.toNat < kx.length) (.s (inU (kx.getD j.toNat 0)) (.d (pdL_c3 i j kx) (fun e1 => .s (decide (j < ↑m) = true) (.s (decide (0 ≤ j) = true) (.s (j.toNat < kx.length) (.s (decide (i < ↑m) = true) (.s (decide (0 ≤ i) = true) (.s (ux.length = kx.length) (.s (px.length = kx.length) (.s (kx.length = kx.length) (.s (i.toNat < kx.length) (.lf (Ex.normal, (pdT (er) (j) (m) (pdL_c0 j) (kx.set i.toNat (kx.getD j.toNat 0)) (px.set i.toNat (px.getD j.toNat 0)) (ux.set i.toNat (ux.getD j.toNat false)))))))))))))) (fun e1 => .lf (Ex.normal, (pdT (er) (i) (m) (pdL_c0 j) (kx) (px) (ux))))))))) (fun e0 => .lf (Ex.exit 0, (pdT (er) (i) (m) (j) (kx) (px) (ux)))))))
theorem pdL_L (er i : Int) (m : Nat) (j : Int) (kx px : List Int) (ux : List Bool) : Leaves (roundT Try.prog (X13) 100000 (loopAt Try.prog 86 0) [[4, 5, 7, 9, 10]] [(960, 960)] (pdT er i m j kx px ux)) (pdL_T er i m j kx px ux) [] [] := by refine ⟨fun _ => ⟨fun _ => ?_, fun _ => ?_⟩, fun _ => ?_⟩ <;> (show _ = _; kernel_rfl)
theorem pdL_step (er : Int) (i : Int) (m : Nat) (j : Int) (kx : List Int) (px : List Int) (ux : List Bool) (σ : St) (e : Ex) (h0 : At (RG Try.prog (loopAt Try.prog 86 0) e σ) (pdL_T er i m j kx px ux) [true, true] True) (h1 : At (RG Try.prog (loopAt Try.prog 86 0) e σ) (pdL_T er i m j kx px ux) [true, false] True) (h2 : At (RG Try.prog (loopAt Try.prog 86 0) e σ) (pdL_T er i m j kx px ux) [false] True) : Runs Try.prog (CallsD Try.prog) (.rounds (loopAt Try.prog 86 0)) (pdT er i m j kx px ux).abs e σ := tree_rounds (hX13) (pdL_L er i m j kx px ux) ⟨fun e0 => ⟨fun e1 => h0 e0 e1, fun e1 => h1 e0 e1⟩, fun e0 => h2 e0⟩
noncomputable def pd_T (kx : List Int) (px : List Int) (ux : List Bool) (k : Int) (i : Int) (j : Int) (ky : List Int) (py : List Int) (uy : List Bool) : Tr D := .s (okI kx) (.d (cmpI .neq (pcV kx px ux) 0) (fun e0 => .lf (D.tup [D.v (Value.slice none 0 0), i64 (pcV kx px ux)])) (fun e0 => .s (lkS kx ux k) (.s (decide ((lkI kx ux k : Int) < (kx.length : Int)) = true) (.s (decide ((0 : Int) ≤ (lkI kx ux k : Int)) = true) (.d (!ux.getD (lkI kx ux k : Int).toNat false) (fun e1 => .lf (D.tup [D.v (Value.slice none 0 0), i64 6])) (fun e1 => .p (.l [[4, 5, 7, 9, 10]] [(960, 960)] (pdT 0 (lkI kx ux k : Int) (kx.length) (opI .and .i64 (opI .add .i64 (lkI kx ux k : Int) 1) 15) kx px ux) (Ex.exit 0) (pdT 0 i (kx.length) j ky py uy)) (.s (ccS kx px ux) (.s (Runs Try.prog (CallsD Try.prog) (.code (.loop (loopAt Try.prog 86 0))) (pdT 0 (lkI kx ux k : Int) (kx.length) (opI .and .i64 (opI .add .i64 (lkI kx ux k : Int) 1) 15) kx px ux).abs (Ex.exit 0) (pdT 0 i (kx.length) j ky py uy).abs) (.k ((pdT 0 (lkI kx ux k : Int) (kx.length) (opI .and .i64 (opI .add .i64 (lkI kx ux k : Int) 1) 15) kx px ux = pdT 0 (lkI kx ux k : Int) (kx.length) (opI .and .i64 (opI .add .i64 (lkI kx ux k : Int) 1) 15) kx px ux)) rfl (.s (decide (i < (kx.length : Int)) = true) (.s (decide (0 ≤ i) = true) (.s (uy.length = ky.length) (.s (py.length = ky.length) (.s (ky.length = ky.length) (.s (i.toNat < ky.length) (.s (kx.length = (ky.set i.toNat 0).length) (.lf (D.tup [D.oc [.ints .u32 (ky.set i.toNat 0), .ints .i64 (py.set i.toNat 0), .bools (uy.set i.toNat false)], i64 0]))))))))))))))))))
theorem pd_L (kx px : List Int) (ux : List Bool) (k i j : Int) (ky py : List Int) (uy : List Bool) : Leaves (fun l => fnX Try.prog (X13) 100000 l 86 [cc kx px ux, u32 k]) (pd_T kx px ux k i j ky py uy) [] [] := by refine ⟨fun _ => ?_, fun _ => ⟨fun _ => ?_, fun _ => ?_⟩⟩ <;> (show _ = _; kernel_rfl)
theorem pd_calls (kx px : List Int) (ux : List Bool) (k i j : Int) (ky py : List Int) (uy : List Bool) (res : D) (h0 : At (fun r => res = r) (pd_T kx px ux k i j ky py uy) [true] True) (h1 : At (fun r => res = r) (pd_T kx px ux k i j ky py uy) [false, true] True) (h2 : At (fun r => res = r) (pd_T kx px ux k i j ky py uy) [false, false] True) : CallsD Try.prog 86 [cc kx px ux, u32 k] res := tree_calls (hX13) (pd_L kx px ux k i j ky py uy) ⟨fun e0 => h0 e0, fun e0 => ⟨fun e1 => h1 e0 e1, fun e1 => h2 e0 e1⟩⟩
/-- The cells behind a dropped one move up. -/
structure Dp where
 i : Nat
 j : Nat
 kx : List Int
 px : List Int
 ux : List Bool
def dpC (kx : List Int) (i j : Nat) : Bool := cmpI .geq (opI .and .i64 (opI .sub .i64 (opI .sub .i64 (homeN (kx.getD j 0)) i) 1) 15) (opI .and .i64 (opI .sub .i64 j i) 15)
def dpW : Nat → Dp → Dp
 | 0, R => R
 | d + 1, R => if R.ux.getD R.j false = true then
   (if dpC R.kx R.i R.j = true then dpW d ⟨R.j, (R.j + 1) % 16, R.kx.set R.i (R.kx.getD R.j 0), R.px.set R.i (R.px.getD R.j 0), R.ux.set R.i (R.ux.getD R.j false)⟩ else dpW d { R with j := (R.j + 1) % 16 }) else R
def dpOk (R : Dp) : Prop := R.i < 16 ∧ R.j < 16 ∧ R.kx.length = 16 ∧ R.px.length = 16 ∧ R.ux.length = 16 ∧ (∀ j, j < 16 → inU (R.kx.getD j 0)) ∧ R.ux.getD R.i false = true
theorem getB_set_self {l : List Bool} {i : Nat} {x : Bool} (h : i < l.length) : (l.set i x).getD i false = x := by
 rw [List.getD_eq_getElem?_getD, List.getElem?_set_self h]; rfl
theorem getB_set_ne {l : List Bool} {i j : Nat} {x : Bool} (h : i ≠ j) : (l.set i x).getD j false = l.getD j false := by
 rw [List.getD_eq_getElem?_getD, List.getElem?_set_ne h, ← List.getD_eq_getElem?_getD]
theorem pd_run : ∀ (D d : Nat) (R : Dp), dpOk R → d < D → R.ux.getD ((R.j + d) % 16) false = false →
  dpOk (dpW D R) ∧ Runs Try.prog (CallsD Try.prog) (.rounds (loopAt Try.prog 86 0)) (pdT 0 R.i 16 R.j R.kx R.px R.ux).abs (.exit 0) (pdT 0 (dpW D R).i 16 (dpW D R).j (dpW D R).kx (dpW D R).px (dpW D R).ux).abs
 | 0, d, R, _, h, _ => by omega
 | D + 1, d, R, ho, hd, hf => by
  obtain ⟨o1, o2, o3, o4, o5, o6, o7⟩ := ho
  have bi := natLt (n := 16) (i := R.i) o1
  have bj := natLt (n := 16) (i := R.j) o2
  have hk : inU (R.kx.getD (R.j : Int).toNat 0) := by rw [Int.toNat_natCast]; exact o6 R.j o2
  have nx : opI .and .i64 (opI .add .i64 (R.j : Int) 1) 15 = (((R.j + 1) % 16 : Nat) : Int) := by
   rw [opI_add, wrap_i64_of (by omega) (by omega), and15 (by omega) (by omega)]; omega
  have e3 : pdL_c3 (R.i : Int) (R.j : Int) R.kx = dpC R.kx R.i R.j := rfl
  by_cases c : R.ux.getD R.j false = true
  ·have hd0 : d ≠ 0 := fun e => by
    subst e
    rw [Nat.add_zero, Nat.mod_eq_of_lt o2, c] at hf; cases hf
   by_cases c2 : dpC R.kx R.i R.j = true
   ·have e : dpW (D + 1) R = dpW D ⟨R.j, (R.j + 1) % 16, R.kx.set R.i (R.kx.getD R.j 0), R.px.set R.i (R.px.getD R.j 0), R.ux.set R.i (R.ux.getD R.j false)⟩ := by simp only [dpW, if_pos c, if_pos c2]
    have hne : R.i ≠ (R.j + d) % 16 := fun q => by rw [← q, o7] at hf; cases hf
    have ih := pd_run D (d - 1) ⟨R.j, (R.j + 1) % 16, R.kx.set R.i (R.kx.getD R.j 0), R.px.set R.i (R.px.getD R.j 0), R.ux.set R.i (R.ux.getD R.j false)⟩
     ⟨o2, by show (R.j + 1) % 16 < 16; omega, by show (List.set _ _ _).length = 16; rw [List.length_set]; exact o3, by show (List.set _ _ _).length = 16; rw [List.length_set]; exact o4, by show (List.set _ _ _).length = 16; rw [List.length_set]; exact o5, fun j hj => by
      show inU ((R.kx.set R.i (R.kx.getD R.j 0)).getD j 0)
      by_cases q : R.i = j
      ·subst q; rw [getD_set_self (by omega)]; exact o6 R.j o2
      ·rw [getD_set_ne q]; exact o6 j hj, by
      show (R.ux.set R.i (R.ux.getD R.j false)).getD R.j false = true
      by_cases q : R.i = R.j
      ·rw [q, getB_set_self (by omega)]; exact c
      ·rw [getB_set_ne q]; exact c⟩ (by omega) (by
      show (R.ux.set R.i (R.ux.getD R.j false)).getD (((R.j + 1) % 16 + (d - 1)) % 16) false = false
      rw [show ((R.j + 1) % 16 + (d - 1)) % 16 = (R.j + d) % 16 by omega, getB_set_ne hne]; exact hf)
    rw [e]
    refine ⟨ih.1, ?_⟩
    refine pdL_step 0 R.i 16 R.j R.kx R.px R.ux _ _ ?_ ?_ ?_ <;> dsimp only [At, Tr.q, RG, pdL_T]
    ·intro _ _
     rw [show pdL_c0 (R.j : Int) = (((R.j + 1) % 16 : Nat) : Int) from nx]
     refine ⟨?_, ?_⟩
     ·(repeat' apply And.intro) <;> first | exact trivial | rfl | assumption | exact hk.1 | exact hk.2 | exact bi.1 | exact bi.2 | exact bj.1 | exact bj.2 | omega | (simp only [Int.toNat_natCast]; omega)
     ·simp only [Int.toNat_natCast]; exact ih.2
    ·intro _ g
     rw [e3, c2] at g; cases g
    ·intro g; rw [Int.toNat_natCast, c] at g; cases g
   ·have e : dpW (D + 1) R = dpW D { R with j := (R.j + 1) % 16 } := by simp only [dpW, if_pos c, if_neg c2]
    have ih := pd_run D (d - 1) { R with j := (R.j + 1) % 16 } ⟨o1, by show (R.j + 1) % 16 < 16; omega, o3, o4, o5, o6, o7⟩ (by omega) (by
     show R.ux.getD (((R.j + 1) % 16 + (d - 1)) % 16) false = false
     rw [show ((R.j + 1) % 16 + (d - 1)) % 16 = (R.j + d) % 16 by omega]; exact hf)
    rw [e]
    refine ⟨ih.1, ?_⟩
    refine pdL_step 0 R.i 16 R.j R.kx R.px R.ux _ _ ?_ ?_ ?_ <;> dsimp only [At, Tr.q, RG, pdL_T]
    ·intro _ g
     rw [e3] at g
     exact absurd g c2
    ·intro _ _
     rw [show pdL_c0 (R.j : Int) = (((R.j + 1) % 16 : Nat) : Int) from nx]
     refine ⟨?_, ih.2⟩
     (repeat' apply And.intro) <;> first | exact trivial | rfl | assumption | exact hk.1 | exact hk.2 | exact bi.1 | exact bi.2 | exact bj.1 | exact bj.2 | omega | (simp only [Int.toNat_natCast]; omega)
    ·intro g; rw [Int.toNat_natCast, c] at g; cases g
  ·have e : dpW (D + 1) R = R := by simp only [dpW, if_neg c]
   rw [e]
   refine ⟨⟨o1, o2, o3, o4, o5, o6, o7⟩, ?_⟩
   refine pdL_step 0 R.i 16 R.j R.kx R.px R.ux _ _ ?_ ?_ ?_ <;> dsimp only [At, Tr.q, RG, pdL_T]
   ·intro g; rw [Int.toNat_natCast] at g; exact absurd g c
   ·intro g; rw [Int.toNat_natCast] at g; exact absurd g c
   ·intro _
    refine ⟨?_, rfl, rfl⟩
    (repeat' apply And.intro) <;> first | exact trivial | rfl | assumption | exact bj.1 | exact bj.2 | omega | (simp only [Int.toNat_natCast]; omega)
def dpO (kx px : List Int) (ux : List Bool) (k : Int) : Prop := pcV kx px ux = 0 ∧ ux.getD (lkI kx ux k) false = true
instance (kx px : List Int) (ux : List Bool) (k : Int) : Decidable (dpO kx px ux k) := by unfold dpO; exact inferInstance
def dpR (kx px : List Int) (ux : List Bool) (k : Int) : Dp := dpW 16 ⟨lkI kx ux k, (lkI kx ux k + 1) % 16, kx, px, ux⟩
def dpE (kx px : List Int) (ux : List Bool) (k : Int) : Int := if pcV kx px ux = 0 then (if ux.getD (lkI kx ux k) false = true then 0 else 6) else pcV kx px ux
theorem pd_ok (kx px : List Int) (ux : List Bool) (k : Int) (h : okI kx ∧ inU k ∧ ccS kx px ux) : CallsD Try.prog 86 [cc kx px ux, u32 k]
  (.tup [cco (if dpO kx px ux k then (dpR kx px ux k).kx.set (dpR kx px ux k).i 0 else []) (if dpO kx px ux k then (dpR kx px ux k).px.set (dpR kx px ux k).i 0 else []) (if dpO kx px ux k then (dpR kx px ux k).ux.set (dpR kx px ux k).i false else []), i64 (dpE kx px ux k)]) := by
 obtain ⟨h, hk, hc⟩ := h
 have hlt := lkI_lt (kx := kx) ux hk
 have side : pcV kx px ux = 0 → lkS kx ux k ∧ kx.length = 16 := fun e => by
  obtain ⟨c1, c2, _⟩ := pcV_is e
  exact ⟨⟨c1, hk, ctN_free (by omega)⟩, c1⟩
 have hc' := hc
 obtain ⟨_, hc1, hc2⟩ := hc'
 by_cases hO : dpO kx px ux k
 ·have hO' := hO
  obtain ⟨c, hu⟩ := hO'
  obtain ⟨s1, s2⟩ := side c
  obtain ⟨_, _, f, hf, hz⟩ := s1
  have hE : dpE kx px ux k = 0 := by unfold dpE; rw [if_pos c, if_pos hu]
  simp only [if_pos hO]; rw [hE]
  have b := natLt (n := kx.length) (i := lkI kx ux k) (by omega)
  obtain ⟨r1, r2⟩ := pd_run 16 ((f + 16 - (lkI kx ux k + 1) % 16) % 16) ⟨lkI kx ux k, (lkI kx ux k + 1) % 16, kx, px, ux⟩ ⟨hlt, by show (lkI kx ux k + 1) % 16 < 16; omega, s2, by show px.length = 16; omega, by show ux.length = 16; omega, fun j hj => h.2 j (by omega), hu⟩ (by omega) (by
   show ux.getD (((lkI kx ux k + 1) % 16 + (f + 16 - (lkI kx ux k + 1) % 16) % 16) % 16) false = false
   rw [show ((lkI kx ux k + 1) % 16 + (f + 16 - (lkI kx ux k + 1) % 16) % 16) % 16 = f by omega]; exact hz)
  have r3 : dpOk (dpR kx px ux k) := r1
  have r4 := loop_of_rounds r2
  have nx : opI .and .i64 (opI .add .i64 (lkI kx ux k : Int) 1) 15 = (((lkI kx ux k + 1) % 16 : Nat) : Int) := by
   rw [opI_add, wrap_i64_of (by omega) (by omega), and15 (by omega) (by omega)]; omega
  obtain ⟨q1, q2, q3, q4, q5, _⟩ := r3
  refine pd_calls kx px ux k (dpR kx px ux k).i (dpR kx px ux k).j (dpR kx px ux k).kx (dpR kx px ux k).px (dpR kx px ux k).ux _ ?_ ?_ ?_ <;> dsimp only [At, Tr.q, pd_T]
  ·intro g; rw [neq_t] at g; exact absurd c g
  ·intro _ g; rw [Int.toNat_natCast, hu] at g; cases g
  ·intro _ _
   refine ⟨⟨by rw [List.length_set]; omega, by rw [Int.toNat_natCast]; omega, rfl, by omega, by omega, (natLt (n := 16) q1).1, by rw [s2]; exact (natLt (n := 16) q1).2, ?_, hc, b.1, b.2, ⟨s2, hk, f, hf, hz⟩, h, trivial⟩, by rw [Int.toNat_natCast]⟩
   rw [nx, s2]; exact r4
 ·simp only [if_neg hO]
  refine calls_reads (nilC _) ?_
  unfold dpE
  refine pd_calls kx px ux k 0 0 [] [] [] _ ?_ ?_ ?_ <;> dsimp only [At, Tr.q, pd_T]
  ·intro g; rw [neq_t] at g; exact ⟨⟨h, trivial⟩, by rw [if_neg g]⟩
  ·intro g g2; rw [neq_f] at g; rw [Int.toNat_natCast] at g2
   obtain ⟨s1, s2⟩ := side g
   have b := natLt (n := kx.length) (i := lkI kx ux k) (by omega)
   have g3 : ux.getD (lkI kx ux k) false = false := by simpa using g2
   exact ⟨⟨b.1, b.2, s1, h, trivial⟩, by rw [if_pos g, if_neg (by rw [g3]; simp)]⟩
  ·intro g g2; rw [neq_f] at g; rw [Int.toNat_natCast] at g2
   exact absurd ⟨g, by simpa using g2⟩ hO
def pdC : List D → Option (D × List Prop)
 | [.rc [.ints .u32 kx, .ints .i64 px, .bools ux], .v (.int .u32 k)] => some ((.tup [cco (if dpO kx px ux k then (dpR kx px ux k).kx.set (dpR kx px ux k).i 0 else []) (if dpO kx px ux k then (dpR kx px ux k).px.set (dpR kx px ux k).i 0 else []) (if dpO kx px ux k then (dpR kx px ux k).ux.set (dpR kx px ux k).i false else []), i64 (dpE kx px ux k)]), [okI kx ∧ inU k ∧ ccS kx px ux])
 | _ => none
theorem pdC_ok (args res l) (h : pdC args = some (res, l)) (hl : AllP l) : CallsD Try.prog 86 args res := by
 unfold pdC at h; split at h
 ·simp only [Option.some.injEq, Prod.mk.injEq] at h
  obtain ⟨rfl, rfl⟩ := h; obtain ⟨h0, _⟩ := hl
  exact pd_ok _ _ _ _ h0
 ·cases h
end TableS
end

section
namespace TableS
open Go Go.Dam Go.Proofs
set_option maxRecDepth 1000000
noncomputable def lim_T  : Tr D := .lf (D.agg [i64 10, i64 1, i64 2])
theorem lim_L  : Leaves (fun l => fnX Try.prog (X13) 100000 l 29 []) (lim_T) [] [] := by show _ = _; kernel_rfl
theorem lim_calls  (res : D) (h0 : At (fun r => res = r) (lim_T) [] True) : CallsD Try.prog 29 [] res := tree_calls (hX13) (lim_L) h0
theorem lim_ok : CallsD Try.prog 29 [] (.agg [i64 10, i64 1, i64 2]) := lim_calls _ ⟨trivial, rfl⟩
def limC : List D → Option (D × List Prop)
 | [] => some (.agg [i64 10, i64 1, i64 2], [])
 | _ => none
theorem limC_ok (args res l) (h : limC args = some (res, l)) (hl : AllP l) : CallsD Try.prog 29 args res := by
 unfold limC at h; split at h
 ·simp only [Option.some.injEq, Prod.mk.injEq] at h
  obtain ⟨rfl, rfl⟩ := h
  exact lim_ok
 ·cases h
def X14 : Contracts := addCon 49 (.call ppC) (addCon 86 (.call pdC) (addCon 29 (.call limC) X13))
theorem hX14 : ConOK Try.prog X14 := addCall_ok ppC_ok (addCall_ok pdC_ok (addCall_ok limC_ok hX13))
end TableS
end
