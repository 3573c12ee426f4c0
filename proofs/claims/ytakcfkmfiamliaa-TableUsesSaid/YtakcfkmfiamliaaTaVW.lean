/- What the functions compute, and the law. No condition. -/
import Derived.Test.YtakcfkmfiamliaaTaVQ
set_option linter.unusedSectionVars false
set_option linter.unusedVariables false
set_option linter.unusedSimpArgs false
section
namespace TableS
open Go Go.Dam Go.Proofs
set_option maxRecDepth 1000000
noncomputable def tc5_T (ps : List Int) (no : List Int) (h : Int) (t : Int) (p : Int) : Tr D := .s (no.length ≤ 200) (.d (cmpI .neq (c15V ps no h t) 0) (fun e0 => .p (.d true) (.p (.d true) (.s (no.length ≤ 200) (.k _ e0 (.s (no.length ≤ 200) (.k _ e0 (.s (no.length ≤ 200) (.lf (D.tup [D.agg [D.v (Value.slice none 0 0), D.v (Value.slice none 0 0), i64 0, i64 0], i64 (c15V ps no h t)]))))))))) (fun e0 => .d (cmpI .lss p 0) (fun e1 => .p (.c 5) (.p (.d false) (.p (.d true) (.p (.c 4) (.s (no.length ≤ 200) (.k _ e0 (.k _ e1 (.lf (D.tup [D.agg [D.v (Value.slice none 0 0), D.v (Value.slice none 0 0), i64 0, i64 0], i64 2]))))))))) (fun e1 => .p (.c 3) (.d (cmpI .geq p (ps.length : Int)) (fun e2 => .p (.c 0) (.p (.d false) (.p (.d false) (.p (.c 3) (.p (.d true) (.s (no.length ≤ 200) (.k _ e0 (.k _ e1 (.k _ e2 (.lf (D.tup [D.agg [D.v (Value.slice none 0 0), D.v (Value.slice none 0 0), i64 0, i64 0], i64 2]))))))))))) (fun e2 => .p (.c 0) (.s (no.length ≤ 200) (.s ((chL no h).length ≤ 200) (.q (rowLen0 [.ints .i64 (chL no h)]) (.s ((wo (chL no h) p).length = (wo (chL no h) p).length) (.q ((wo (chL no h) p).length) (.s ((1 + (wo (chL no h) p).length) * 8 ≤ 17592186044416) (.s (mdS ((ps.length : Int)) ([p] ++ wo (chL no h) p)) (.s (1 + (wo (chL no h) p).length = rowLen0 [.ints .i64 ([p] ++ wo (chL no h) p)]) (.q (rowLen0 [.ints .i64 (mkN ((ps.length : Int)).toNat ([p] ++ wo (chL no h) p) ([p] ++ wo (chL no h) p).length)]) (.q (rowLen0 [.ints .i64 (mkP ((ps.length : Int)).toNat ([p] ++ wo (chL no h) p) ([p] ++ wo (chL no h) p).length)]) (.lf (D.tup [D.agg [D.oc [.ints .i64 (mkP ((ps.length : Int)).toNat ([p] ++ wo (chL no h) p) ([p] ++ wo (chL no h) p).length)], D.oc [.ints .i64 (mkN ((ps.length : Int)).toNat ([p] ++ wo (chL no h) p) ([p] ++ wo (chL no h) p).length)], i64 (mkH ([p] ++ wo (chL no h) p) ([p] ++ wo (chL no h) p).length), i64 (mkT ([p] ++ wo (chL no h) p) ([p] ++ wo (chL no h) p).length)], i64 0])))))))))))))))))
theorem tc5_L (ps no : List Int) (h t p : Int) : Leaves (fun l => fnX Try.prog (X19) 100000 l 52 [D.agg [ri ps, ri no, i64 h, i64 t], i64 p]) (tc5_T ps no h t p) [] [] := by refine ⟨fun _ => ?_, fun _ => ⟨fun _ => ?_, fun _ => ⟨fun _ => ?_, fun _ => ?_⟩⟩⟩ <;> (show _ = _; kernel_rfl)
theorem tc5_calls (ps no : List Int) (h t p : Int) (res : D) (h0 : At (fun r => res = r) (tc5_T ps no h t p) [true] True) (h1 : At (fun r => res = r) (tc5_T ps no h t p) [false, true] True) (h2 : At (fun r => res = r) (tc5_T ps no h t p) [false, false, true] True) (h3 : At (fun r => res = r) (tc5_T ps no h t p) [false, false, false] True) : CallsD Try.prog 52 [D.agg [ri ps, ri no, i64 h, i64 t], i64 p] res := tree_calls (hX19) (tc5_L ps no h t p) ⟨fun e0 => h0 e0, fun e0 => ⟨fun e1 => h1 e0 e1, fun e1 => ⟨fun e2 => h2 e0 e1 e2, fun e2 => h3 e0 e1 e2⟩⟩⟩
noncomputable def rm5_T (ps : List Int) (no : List Int) (h : Int) (t : Int) (p : Int) : Tr D := .s (no.length ≤ 200) (.d (cmpI .neq (c15V ps no h t) 0) (fun e0 => .p (.d true) (.p (.d true) (.s (no.length ≤ 200) (.k _ e0 (.s (no.length ≤ 200) (.k _ e0 (.s (no.length ≤ 200) (.lf (D.tup [D.agg [D.v (Value.slice none 0 0), D.v (Value.slice none 0 0), i64 0, i64 0], i64 (c15V ps no h t)]))))))))) (fun e0 => .d (cmpI .lss p 0) (fun e1 => .p (.c 5) (.p (.d false) (.p (.d true) (.p (.c 4) (.s (no.length ≤ 200) (.k _ e0 (.k _ e1 (.lf (D.tup [D.agg [D.v (Value.slice none 0 0), D.v (Value.slice none 0 0), i64 0, i64 0], i64 2]))))))))) (fun e1 => .p (.c 3) (.d (cmpI .geq p (ps.length : Int)) (fun e2 => .p (.c 0) (.p (.d false) (.p (.d false) (.p (.c 3) (.p (.d true) (.s (no.length ≤ 200) (.k _ e0 (.k _ e1 (.k _ e2 (.lf (D.tup [D.agg [D.v (Value.slice none 0 0), D.v (Value.slice none 0 0), i64 0, i64 0], i64 2]))))))))))) (fun e2 => .p (.c 0) (.s (no.length ≤ 200) (.s ((chL no h).length ≤ 200) (.q (rowLen0 [.ints .i64 (chL no h)]) (.d (!inB (chL no h) p) (fun e3 => .lf (D.tup [D.agg [D.v (Value.slice none 0 0), D.v (Value.slice none 0 0), i64 0, i64 0], i64 6])) (fun e3 => .s ((chL no h).length ≤ 200) (.q (rowLen0 [.ints .i64 (chL no h)]) (.s (mdS ((ps.length : Int)) (wo (chL no h) p)) (.q ((wo (chL no h) p).length) (.q (rowLen0 [.ints .i64 (mkN ((ps.length : Int)).toNat (wo (chL no h) p) (wo (chL no h) p).length)]) (.q (rowLen0 [.ints .i64 (mkP ((ps.length : Int)).toNat (wo (chL no h) p) (wo (chL no h) p).length)]) (.lf (D.tup [D.agg [D.oc [.ints .i64 (mkP ((ps.length : Int)).toNat (wo (chL no h) p) (wo (chL no h) p).length)], D.oc [.ints .i64 (mkN ((ps.length : Int)).toNat (wo (chL no h) p) (wo (chL no h) p).length)], i64 (mkH (wo (chL no h) p) (wo (chL no h) p).length), i64 (mkT (wo (chL no h) p) (wo (chL no h) p).length)], i64 0])))))))))))))))))
theorem rm5_L (ps no : List Int) (h t p : Int) : Leaves (fun l => fnX Try.prog (X19) 100000 l 96 [D.agg [ri ps, ri no, i64 h, i64 t], i64 p]) (rm5_T ps no h t p) [] [] := by refine ⟨fun _ => ?_, fun _ => ⟨fun _ => ?_, fun _ => ⟨fun _ => ?_, fun _ => ⟨fun _ => ?_, fun _ => ?_⟩⟩⟩⟩ <;> (show _ = _; kernel_rfl)
theorem rm5_calls (ps no : List Int) (h t p : Int) (res : D) (h0 : At (fun r => res = r) (rm5_T ps no h t p) [true] True) (h1 : At (fun r => res = r) (rm5_T ps no h t p) [false, true] True) (h2 : At (fun r => res = r) (rm5_T ps no h t p) [false, false, true] True) (h3 : At (fun r => res = r) (rm5_T ps no h t p) [false, false, false, true] True) (h4 : At (fun r => res = r) (rm5_T ps no h t p) [false, false, false, false] True) : CallsD Try.prog 96 [D.agg [ri ps, ri no, i64 h, i64 t], i64 p] res := tree_calls (hX19) (rm5_L ps no h t p) ⟨fun e0 => h0 e0, fun e0 => ⟨fun e1 => h1 e0 e1, fun e1 => ⟨fun e2 => h2 e0 e1 e2, fun e2 => ⟨fun e3 => h3 e0 e1 e2 e3, fun e3 => h4 e0 e1 e2 e3⟩⟩⟩⟩
noncomputable def tr_T (T : Tb) : Tr D := .s ((Col0.ints .u32 T.ks).len = rowLen0 [.ints .u32 T.ks]) (.s (rowLen0 [.ints .u32 T.ks] * 4 ≤ 17592186044416) (.s ((Col0.ints .u64 T.x6).len = rowLen0 [.ints .i64 T.x1, .ints .i64 T.x2, .ints .i64 T.x3, .ints .i64 T.x4, .ints .i64 T.x5, .ints .u64 T.x6]) (.s ((Col0.ints .i64 T.x5).len = rowLen0 [.ints .i64 T.x1, .ints .i64 T.x2, .ints .i64 T.x3, .ints .i64 T.x4, .ints .i64 T.x5, .ints .u64 T.x6]) (.s ((Col0.ints .i64 T.x4).len = rowLen0 [.ints .i64 T.x1, .ints .i64 T.x2, .ints .i64 T.x3, .ints .i64 T.x4, .ints .i64 T.x5, .ints .u64 T.x6]) (.s ((Col0.ints .i64 T.x3).len = rowLen0 [.ints .i64 T.x1, .ints .i64 T.x2, .ints .i64 T.x3, .ints .i64 T.x4, .ints .i64 T.x5, .ints .u64 T.x6]) (.s ((Col0.ints .i64 T.x2).len = rowLen0 [.ints .i64 T.x1, .ints .i64 T.x2, .ints .i64 T.x3, .ints .i64 T.x4, .ints .i64 T.x5, .ints .u64 T.x6]) (.s ((Col0.ints .i64 T.x1).len = rowLen0 [.ints .i64 T.x1, .ints .i64 T.x2, .ints .i64 T.x3, .ints .i64 T.x4, .ints .i64 T.x5, .ints .u64 T.x6]) (.s (rowLen0 [.ints .i64 T.x1, .ints .i64 T.x2, .ints .i64 T.x3, .ints .i64 T.x4, .ints .i64 T.x5, .ints .u64 T.x6] * 48 ≤ 17592186044416) (.s (T.nx.length ≤ 200 ∧ T.us.length ≤ 200) (.s ((Col0.bools T.ux).len = rowLen0 [.ints .u32 T.kx, .ints .i64 T.px, .bools T.ux]) (.s ((Col0.ints .i64 T.px).len = rowLen0 [.ints .u32 T.kx, .ints .i64 T.px, .bools T.ux]) (.s ((Col0.ints .u32 T.kx).len = rowLen0 [.ints .u32 T.kx, .ints .i64 T.px, .bools T.ux]) (.s (rowLen0 [.ints .u32 T.kx, .ints .i64 T.px, .bools T.ux] * 24 ≤ 17592186044416) (.s (T.ps.length ≤ 200 ∧ T.no.length ≤ 200) (.q (rowLen0 [.ints .i64 T.no]) (.q (rowLen0 [.ints .i64 T.ps]) (.q (rowLen0 [.ints .u32 T.kx, .ints .i64 T.px, .bools T.ux]) (.q (rowLen0 [.bools T.us]) (.q (rowLen0 [.ints .i64 T.nx]) (.q (rowLen0 [.ints .i64 T.x1, .ints .i64 T.x2, .ints .i64 T.x3, .ints .i64 T.x4, .ints .i64 T.x5, .ints .u64 T.x6]) (.q (rowLen0 [.ints .u32 T.ks]) (.lf (D.agg [i64 T.n, D.oc [.ints .u32 T.ks], D.oc [.ints .i64 T.x1, .ints .i64 T.x2, .ints .i64 T.x3, .ints .i64 T.x4, .ints .i64 T.x5, .ints .u64 T.x6], D.oc [.ints .i64 T.nx], D.oc [.bools T.us], i64 T.fr, D.oc [.ints .u32 T.kx, .ints .i64 T.px, .bools T.ux], D.oc [.ints .i64 T.ps], D.oc [.ints .i64 T.no], i64 T.h, i64 T.t])))))))))))))))))))))))
theorem tr_L (T : Tb) : Leaves (fun l => fnX Try.prog (X19) 100000 l 9 [T.d]) (tr_T T) [] [] := by show _ = _; kernel_rfl
theorem tr_calls (T : Tb) (res : D) (h0 : At (fun r => res = r) (tr_T T) [] True) : CallsD Try.prog 9 [T.d] res := tree_calls (hX19) (tr_L T) h0
/-! The reference's orders are the code's. -/
theorem c15V_two (ps no : List Int) (h t : Int) : c15V ps no h t = 0 ∨ c15V ps no h t = 8 := by
 unfold c15V; split <;> first | exact .inl rfl | exact .inr rfl
theorem lcV_two (ps no : List Int) (h t : Int) : lcV ps no h t = 0 ∨ lcV ps no h t = 8 := by
 unfold lcV; (repeat' split) <;> first | exact .inl rfl | exact .inr rfl
theorem lc_eq (ps no : List Int) (h t : Int) : c15V ps no h t = lcV ps no h t := by
 have := lc_c15 ps no h t
 rcases c15V_two ps no h t with a | a <;> rcases lcV_two ps no h t with b | b <;> omega
theorem tc5_ok (ps no : List Int) (h t p : Int) (hn : no.length ≤ 200) : CallsD Try.prog 52 [.agg [ri ps, ri no, i64 h, i64 t], i64 p]
  (.tup [.agg [oi (if toO ps no h t p then toP ps no h p else []), oi (if toO ps no h t p then toN ps no h p else []), i64 (if toO ps no h t p then p else 0), i64 (if toO ps no h t p then toT ps no h t p else 0)], i64 (toE ps no h t p)]) := by
 by_cases c : lcV ps no h t = 0
 ·have c' : c15V ps no h t = 0 := by rw [lc_eq]; exact c
  obtain ⟨L, o⟩ := lcV_or c
  have hL := (seg_chL o.2.2.2.2.1 (or_okL o)).1
  have l1 := okL_len (or_okL o)
  have l5 := o.2.1
  by_cases r : 0 ≤ p ∧ p < (ps.length : Int)
  ·have hO : toO ps no h t p := ⟨c, r⟩
   have w := or_touch o r.1 r.2
   obtain ⟨m1, m2, m3, m4⟩ := or_mk w
   rw [toP_len] at m1 m2
   have lw := okL_len (or_okL w)
   rw [toN_len, List.length_cons] at lw
   have hmem : ∀ x ∈ p :: wo L p, 0 ≤ x ∧ x < (ps.length : Int) := fun x hx => by
    have := seg_range w.2.2.2.2.1 x hx
    rw [toN_len] at this
    have := o.2.2.1
    omega
   simp only [if_pos hO]
   unfold toE; rw [if_pos c, if_pos r]
   refine tc5_calls ps no h t p _ ?_ ?_ ?_ ?_ <;> dsimp only [At, Tr.q, tc5_T]
   ·intro g; rw [neq_t] at g; exact absurd c' g
   ·intro _ g; rw [lss_t] at g; omega
   ·intro _ _ g; rw [geq_t] at g; omega
   ·intro _ _ _
    rw [hL]
    refine ⟨⟨?_, ⟨by omega, by omega, by show (p :: wo L p).length ≤ 200; rw [List.length_cons]; omega, hmem⟩, by omega, rfl, by omega, hn, hn, trivial⟩, ?_⟩
    ·show 1 + (wo L p).length = (p :: wo L p).length; rw [List.length_cons]; omega
    ·rw [Int.toNat_natCast]
     show _ = D.tup [D.agg [oi (mkP ps.length (p :: wo L p) (p :: wo L p).length), oi (mkN ps.length (p :: wo L p) (p :: wo L p).length), i64 (mkH (p :: wo L p) (p :: wo L p).length), i64 (mkT (p :: wo L p) (p :: wo L p).length)], i64 0]
     rw [← m1, ← m2, ← m3, ← m4]
  ·have hO : ¬ toO ps no h t p := fun o => r o.2
   simp only [if_neg hO]
   unfold toE; rw [if_pos c, if_neg r]
   refine calls_reads (ReadsNs.tup (.cons nilO (.refl _))) ?_
   refine tc5_calls ps no h t p _ ?_ ?_ ?_ ?_ <;> dsimp only [At, Tr.q, tc5_T]
   ·intro g; rw [neq_t] at g; exact absurd c' g
   ·intro _ _; exact ⟨⟨hn, hn, trivial⟩, rfl⟩
   ·intro _ _ _; exact ⟨⟨hn, hn, trivial⟩, rfl⟩
   ·intro _ g g2; rw [lss_f] at g; rw [geq_f] at g2; exact absurd ⟨g, g2⟩ r
 ·have c' : c15V ps no h t ≠ 0 := by rw [lc_eq]; exact c
  have hO : ¬ toO ps no h t p := fun o => c o.1
  simp only [if_neg hO]
  unfold toE; rw [if_neg c, ← lc_eq]
  refine calls_reads (ReadsNs.tup (.cons nilO (.refl _))) ?_
  refine tc5_calls ps no h t p _ ?_ ?_ ?_ ?_ <;> dsimp only [At, Tr.q, tc5_T]
  ·intro _; exact ⟨⟨hn, hn, hn, hn, trivial⟩, rfl⟩
  ·intro g; rw [neq_f] at g; exact absurd g c'
  ·intro g; rw [neq_f] at g; exact absurd g c'
  ·intro g; rw [neq_f] at g; exact absurd g c'
theorem rm5_ok (ps no : List Int) (h t p : Int) (hn : no.length ≤ 200) : CallsD Try.prog 96 [.agg [ri ps, ri no, i64 h, i64 t], i64 p]
  (.tup [.agg [oi (if rmO ps no h t p then rmP ps no p else []), oi (if rmO ps no h t p then rmN ps no p else []), i64 (if rmO ps no h t p then rmH ps no h p else 0), i64 (if rmO ps no h t p then rmT ps no t p else 0)], i64 (rmE ps no h t p)]) := by
 by_cases c : lcV ps no h t = 0
 ·have c' : c15V ps no h t = 0 := by rw [lc_eq]; exact c
  obtain ⟨L, o⟩ := lcV_or c
  have hL := (seg_chL o.2.2.2.2.1 (or_okL o)).1
  have l1 := okL_len (or_okL o)
  have l5 := o.2.1
  by_cases r : 0 ≤ p ∧ p < (ps.length : Int)
  ·have hin := or_mem o r.1 r.2
   by_cases q : p ∈ L
   ·have hO : rmO ps no h t p := ⟨c, r, hin.2 q⟩
    have w := or_remove o q
    obtain ⟨m1, m2, m3, m4⟩ := or_mk w
    rw [rmP_len] at m1 m2
    have lw := okL_len (or_okL w)
    rw [rmN_len] at lw
    have hmem : ∀ x ∈ wo L p, 0 ≤ x ∧ x < (ps.length : Int) := fun x hx => by
     have := seg_range w.2.2.2.2.1 x hx
     rw [rmN_len] at this
     have := o.2.2.1
     omega
    simp only [if_pos hO]
    unfold rmE; rw [if_pos c, if_pos r, if_pos (hin.2 q)]
    refine rm5_calls ps no h t p _ ?_ ?_ ?_ ?_ ?_ <;> dsimp only [At, Tr.q, rm5_T]
    ·intro g; rw [neq_t] at g; exact absurd c' g
    ·intro _ g; rw [lss_t] at g; omega
    ·intro _ _ g; rw [geq_t] at g; omega
    ·intro _ _ _ g; rw [hL] at g; unfold inB at g; simp [q] at g
    ·intro _ _ _ _
     rw [hL]
     refine ⟨⟨⟨by omega, by omega, by omega, hmem⟩, by omega, by omega, hn, hn, trivial⟩, ?_⟩
     rw [Int.toNat_natCast, ← m1, ← m2, ← m3, ← m4]
   ·have hO : ¬ rmO ps no h t p := fun o => q (hin.1 o.2.2)
    simp only [if_neg hO]
    unfold rmE; rw [if_pos c, if_pos r, if_neg (fun n => q (hin.1 n))]
    refine calls_reads (ReadsNs.tup (.cons nilO (.refl _))) ?_
    refine rm5_calls ps no h t p _ ?_ ?_ ?_ ?_ ?_ <;> dsimp only [At, Tr.q, rm5_T]
    ·intro g; rw [neq_t] at g; exact absurd c' g
    ·intro _ g; rw [lss_t] at g; omega
    ·intro _ _ g; rw [geq_t] at g; omega
    ·intro _ _ _ _; exact ⟨⟨by rw [hL]; omega, hn, hn, trivial⟩, rfl⟩
    ·intro _ _ _ g; rw [hL] at g; unfold inB at g; simp [q] at g
  ·have hO : ¬ rmO ps no h t p := fun o => r o.2.1
   simp only [if_neg hO]
   unfold rmE; rw [if_pos c, if_neg r]
   refine calls_reads (ReadsNs.tup (.cons nilO (.refl _))) ?_
   refine rm5_calls ps no h t p _ ?_ ?_ ?_ ?_ ?_ <;> dsimp only [At, Tr.q, rm5_T]
   ·intro g; rw [neq_t] at g; exact absurd c' g
   ·intro _ _; exact ⟨⟨hn, hn, trivial⟩, rfl⟩
   ·intro _ _ _; exact ⟨⟨hn, hn, trivial⟩, rfl⟩
   ·intro _ g g2; rw [lss_f] at g; rw [geq_f] at g2; exact absurd ⟨g, g2⟩ r
   ·intro _ g g2; rw [lss_f] at g; rw [geq_f] at g2; exact absurd ⟨g, g2⟩ r
 ·have c' : c15V ps no h t ≠ 0 := by rw [lc_eq]; exact c
  have hO : ¬ rmO ps no h t p := fun o => c o.1
  simp only [if_neg hO]
  unfold rmE; rw [if_neg c, ← lc_eq]
  refine calls_reads (ReadsNs.tup (.cons nilO (.refl _))) ?_
  refine rm5_calls ps no h t p _ ?_ ?_ ?_ ?_ ?_ <;> dsimp only [At, Tr.q, rm5_T]
  ·intro _; exact ⟨⟨hn, hn, hn, hn, trivial⟩, rfl⟩
  ·intro g; rw [neq_f] at g; exact absurd g c'
  ·intro g; rw [neq_f] at g; exact absurd g c'
  ·intro g; rw [neq_f] at g; exact absurd g c'
  ·intro g; rw [neq_f] at g; exact absurd g c'
theorem tr_ok (T : Tb) (h : T.ks.length ≤ 200 ∧ kcS T.x1 T.x2 T.x3 T.x4 T.x5 T.x6 ∧ T.nx.length ≤ 200 ∧ T.us.length ≤ 200 ∧ ccS T.kx T.px T.ux ∧ T.ps.length ≤ 200 ∧ T.no.length ≤ 200) : CallsD Try.prog 9 [T.d] T.o := by
 obtain ⟨h1, h2, h3, h4, h5, h6, h7⟩ := h
 obtain ⟨k1, k2, k3, k4, k5, k6⟩ := h2
 obtain ⟨c1, c2, c3⟩ := h5
 refine tr_calls T _ ⟨?_, rfl⟩
 (repeat' (first | assumption | apply And.intro)) <;> first | exact trivial | rfl | (simp only [rowLen0, Col0.len] <;> omega)
def toD : List D → Option (D × List Prop)
 | [.agg [.rc [.ints .i64 ps], .rc [.ints .i64 nx], .v (.int .i64 h), .v (.int .i64 t)], .v (.int .i64 p)] => some ((.tup [.agg [oi (if toO ps nx h t p then toP ps nx h p else []), oi (if toO ps nx h t p then toN ps nx h p else []), i64 (if toO ps nx h t p then p else 0), i64 (if toO ps nx h t p then toT ps nx h t p else 0)], i64 (toE ps nx h t p)]), [nx.length ≤ 200])
 | _ => none
theorem toD_ok (args res l) (h : toD args = some (res, l)) (hl : AllP l) : CallsD Try.prog 52 args res := by
 unfold toD at h; split at h
 ·simp only [Option.some.injEq, Prod.mk.injEq] at h
  obtain ⟨rfl, rfl⟩ := h; obtain ⟨h0, _⟩ := hl
  exact tc5_ok _ _ _ _ _ h0
 ·cases h
def rmD : List D → Option (D × List Prop)
 | [.agg [.rc [.ints .i64 ps], .rc [.ints .i64 nx], .v (.int .i64 h), .v (.int .i64 t)], .v (.int .i64 p)] => some ((.tup [.agg [oi (if rmO ps nx h t p then rmP ps nx p else []), oi (if rmO ps nx h t p then rmN ps nx p else []), i64 (if rmO ps nx h t p then rmH ps nx h p else 0), i64 (if rmO ps nx h t p then rmT ps nx t p else 0)], i64 (rmE ps nx h t p)]), [nx.length ≤ 200])
 | _ => none
theorem rmD_ok (args res l) (h : rmD args = some (res, l)) (hl : AllP l) : CallsD Try.prog 96 args res := by
 unfold rmD at h; split at h
 ·simp only [Option.some.injEq, Prod.mk.injEq] at h
  obtain ⟨rfl, rfl⟩ := h; obtain ⟨h0, _⟩ := hl
  exact rm5_ok _ _ _ _ _ h0
 ·cases h
end TableS
end

section
namespace TableS
open Go Go.Dam Go.Proofs
set_option maxRecDepth 1000000
noncomputable def ptL_T (kx : List Int) (px : List Int) (ux : List Bool) (k : Int) (p : Int) (i : Int) : Tr (Ex × Cs) := .s (decide (i < ↑kx.length) = true) (.s (decide (0 ≤ i) = true) (.s (i.toNat < kx.length) (.d (ux.getD i.toNat false) (fun e0 => .q (false) (.lf (Ex.normal, (ptT (kx) (px) (ux) (k) (p) (opI .rem .i64 (opI .add .i64 i 1) 16))))) (fun e0 => .lf (Ex.exit 0, (ptT (kx) (px) (ux) (k) (p) (i)))))))
theorem ptL_L (kx px : List Int) (ux : List Bool) (k p i : Int) : Leaves (roundT Try.prog (X19) 100000 (loopAt Try.prog 57 0) [[1, 2, 6, 7, 8, 9]] [(960, 960)] (ptT kx px ux k p i)) (ptL_T kx px ux k p i) [] [] := by refine ⟨fun _ => ?_, fun _ => ?_⟩ <;> (show _ = _; kernel_rfl)
theorem ptL_step (kx : List Int) (px : List Int) (ux : List Bool) (k : Int) (p : Int) (i : Int) (σ : St) (e : Ex) (h0 : At (RG Try.prog (loopAt Try.prog 57 0) e σ) (ptL_T kx px ux k p i) [true] True) (h1 : At (RG Try.prog (loopAt Try.prog 57 0) e σ) (ptL_T kx px ux k p i) [false] True) : Runs Try.prog (CallsD Try.prog) (.rounds (loopAt Try.prog 57 0)) (ptT kx px ux k p i).abs e σ := tree_rounds (hX19) (ptL_L kx px ux k p i) ⟨fun e0 => h0 e0, fun e0 => h1 e0⟩
noncomputable def pt4_T (kx : List Int) (px : List Int) (ux : List Bool) (k : Int) (p : Int) (i : Int) : Tr D := .s (okI kx) (.d (cmpI .neq (c14V kx px ux) 0) (fun e0 => .s (okI kx) (.lf (D.tup [D.v (Value.slice none 0 0), i64 (c14V kx px ux)]))) (fun e0 => .d (cmpI .lss p 0) (fun e1 => .p (.c 1) (.lf (D.tup [D.v (Value.slice none 0 0), i64 2]))) (fun e1 => .p (.c 0) (.d (cmpI .geq p 16) (fun e2 => .lf (D.tup [D.v (Value.slice none 0 0), i64 2])) (fun e2 => .s (kx.length ≤ 200) (.d (cmpI .geq (atN kx ux k) 0) (fun e3 => .lf (D.tup [D.v (Value.slice none 0 0), i64 14])) (fun e3 => .s (kx.length ≤ 200) (.d (cmpI .eql (↑(ctN kx.length ux)) 12) (fun e4 => .lf (D.tup [D.v (Value.slice none 0 0), i64 18])) (fun e4 => .p (.l [[1, 2, 6, 7, 8, 9]] [(960, 960)] (ptT kx px ux k p (homeN k)) (Ex.exit 0) (ptT kx px ux k p i)) (.s (ux.length = kx.length) (.s (px.length = kx.length) (.s (kx.length = kx.length) (.s (kx.length * 24 ≤ 17592186044416) (.s (inU k) (.s (Runs Try.prog (CallsD Try.prog) (.code (.loop (loopAt Try.prog 57 0))) (ptT kx px ux k p (homeN k)).abs (Ex.exit 0) (ptT kx px ux k p i).abs) (.k ((ptT kx px ux k p (homeN k) = ptT kx px ux k p (homeN k))) rfl (.s (decide (i < ↑kx.length) = true) (.s (decide (0 ≤ i) = true) (.s (ux.length = kx.length) (.s (px.length = kx.length) (.s (kx.length = kx.length) (.s (i.toNat < kx.length) (.s (kx.length = rowLen0 [.ints .u32 (kx.set i.toNat k), .ints .i64 (px.set i.toNat p), .bools (ux.set i.toNat true)]) (.lf (D.tup [D.oc [.ints .u32 (kx.set i.toNat k), .ints .i64 (px.set i.toNat p), .bools (ux.set i.toNat true)], i64 0])))))))))))))))))))))))))
theorem pt4_L (kx px : List Int) (ux : List Bool) (k p i : Int) : Leaves (fun l => fnX Try.prog (X19) 100000 l 57 [cc kx px ux, u32 k, i64 p]) (pt4_T kx px ux k p i) [] [] := by refine ⟨fun _ => ?_, fun _ => ⟨fun _ => ?_, fun _ => ⟨fun _ => ?_, fun _ => ⟨fun _ => ?_, fun _ => ⟨fun _ => ?_, fun _ => ?_⟩⟩⟩⟩⟩ <;> (show _ = _; kernel_rfl)
theorem pt4_calls (kx px : List Int) (ux : List Bool) (k p i : Int) (res : D) (h0 : At (fun r => res = r) (pt4_T kx px ux k p i) [true] True) (h1 : At (fun r => res = r) (pt4_T kx px ux k p i) [false, true] True) (h2 : At (fun r => res = r) (pt4_T kx px ux k p i) [false, false, true] True) (h3 : At (fun r => res = r) (pt4_T kx px ux k p i) [false, false, false, true] True) (h4 : At (fun r => res = r) (pt4_T kx px ux k p i) [false, false, false, false, true] True) (h5 : At (fun r => res = r) (pt4_T kx px ux k p i) [false, false, false, false, false] True) : CallsD Try.prog 57 [cc kx px ux, u32 k, i64 p] res := tree_calls (hX19) (pt4_L kx px ux k p i) ⟨fun e0 => h0 e0, fun e0 => ⟨fun e1 => h1 e0 e1, fun e1 => ⟨fun e2 => h2 e0 e1 e2, fun e2 => ⟨fun e3 => h3 e0 e1 e2 e3, fun e3 => ⟨fun e4 => h4 e0 e1 e2 e3 e4, fun e4 => h5 e0 e1 e2 e3 e4⟩⟩⟩⟩⟩
noncomputable def bhL_T (c : Int) (k : Int) (b : Bool) (i : Int) : Tr (Ex × Cs) := .d (cmpI .eql i c) (fun e0 => .lf (Ex.ret, (bhT (c) (k) (true) (i)))) (fun e0 => .d (cmpI .eql i k) (fun e1 => .lf (Ex.ret, (bhT (c) (k) (false) (i)))) (fun e1 => .q (false) (.lf (Ex.normal, (bhT (c) (k) (b) (opI .rem .i64 (opI .add .i64 i 1) 16))))))
theorem bhL_L (c k : Int) (b : Bool) (i : Int) : Leaves (roundT Try.prog (X19) 100000 (loopAt Try.prog 108 0) [[0, 2, 6, 7]] [] (bhT c k b i)) (bhL_T c k b i) [] [] := by refine ⟨fun _ => ?_, fun _ => ⟨fun _ => ?_, fun _ => ?_⟩⟩ <;> (show _ = _; kernel_rfl)
theorem bhL_step (c : Int) (k : Int) (b : Bool) (i : Int) (σ : St) (e : Ex) (h0 : At (RG Try.prog (loopAt Try.prog 108 0) e σ) (bhL_T c k b i) [true] True) (h1 : At (RG Try.prog (loopAt Try.prog 108 0) e σ) (bhL_T c k b i) [false, true] True) (h2 : At (RG Try.prog (loopAt Try.prog 108 0) e σ) (bhL_T c k b i) [false, false] True) : Runs Try.prog (CallsD Try.prog) (.rounds (loopAt Try.prog 108 0)) (bhT c k b i).abs e σ := tree_rounds (hX19) (bhL_L c k b i) ⟨fun e0 => h0 e0, fun e0 => ⟨fun e1 => h1 e0 e1, fun e1 => h2 e0 e1⟩⟩
noncomputable def bhF_c0 (e : Int) := opI .rem .i64 (opI .add .i64 e 1) 16
noncomputable def bhF_T (c : Int) (e : Int) (k : Int) (b : Bool) (i : Int) : Tr D := .p (.l [[0, 2, 6, 7]] [] (bhT c k false (bhF_c0 e)) Ex.ret (bhT c k b i)) (.q (false) (.s (Runs Try.prog (CallsD Try.prog) (.code (.loop (loopAt Try.prog 108 0))) (bhT c k false (bhF_c0 e)).abs (Ex.ret) (bhT c k b i).abs) (.k ((bhT c k false (bhF_c0 e) = bhT c k false (bhF_c0 e))) rfl (.lf (bo b)))))
theorem bhF_L (c e k : Int) (b : Bool) (i : Int) : Leaves (fun l => fnX Try.prog (X19) 100000 l 108 [i64 c, i64 e, i64 k]) (bhF_T c e k b i) [] [] := by show _ = _; kernel_rfl
theorem bhF_calls (c e k : Int) (b : Bool) (i : Int) (res : D) (h0 : At (fun r => res = r) (bhF_T c e k b i) [] True) : CallsD Try.prog 108 [i64 c, i64 e, i64 k] res := tree_calls (hX19) (bhF_L c e k b i) h0
/-! The reference's index is the code's: Put. -/
theorem c14V_two (kx px : List Int) (ux : List Bool) : c14V kx px ux = 0 ∨ c14V kx px ux = 8 := by
 unfold c14V; (repeat' split) <;> first | exact .inl rfl | exact .inr rfl
theorem pc_eq {kx px : List Int} {ux : List Bool} (ho : okI kx) (hc : ccS kx px ux) : c14V kx px ux = pcV kx px ux := by
 have := pc_c14 ho hc
 rcases c14V_two kx px ux with a | a <;> rcases pcV_two kx px ux with b | b <;> omega
theorem ix_atN {kx px : List Int} {ux : List Bool} (x : Ix kx px ux) {k : Int} (hk : inU k) : (0 ≤ atN kx ux k ↔ ux.getD (lkI kx ux k) false = true) ∧ (0 ≤ atN kx ux k → atN kx ux k = (lkI kx ux k : Int)) := by
 obtain ⟨h1, _, h⟩ := ix_look x hk
 have l := x.1.1
 have hlt := findI_lt (p := fun i => ux.getD i false && kx.getD i 0 == k) kx.length 0
 rcases h with ⟨h2, h3⟩ | ⟨h2, h3⟩
 ·have e : atN kx ux k = (lkI kx ux k : Int) := by
   unfold atN
   rw [l]
   refine findI_some 16 0 _ (by omega) (by omega) (by show (ux.getD (lkI kx ux k) false && kx.getD (lkI kx ux k) 0 == k) = true; rw [h2, h3]; simp) fun j _ hj => ?_
   cases uj : ux.getD j false with
   | false => rfl
   | true =>
    rw [Bool.true_and]
    have : ¬ kx.getD j 0 = k := fun e => by have := x.2.2.2.2.2.1 j _ (by omega) h1 uj h2 (by rw [e, h3]); omega
    simpa using this
  exact ⟨⟨fun _ => h2, fun _ => by omega⟩, fun _ => e⟩
 ·have e : atN kx ux k < 0 := by
   unfold atN
   rw [hlt]
   intro j _ hj
   show (ux.getD j false && kx.getD j 0 == k) = false
   cases uj : ux.getD j false with
   | false => rfl
   | true =>
    rw [Bool.true_and]
    have := h3 j (by omega) uj
    simpa using this
  exact ⟨⟨fun q => by omega, fun q => by rw [h2] at q; cases q⟩, fun q => by omega⟩
theorem pt_run (kx px : List Int) (ux : List Bool) (k p : Int) (hx : kx.length = 16) : ∀ (d i : Nat), i < 16 → d ≤ 16 → (∀ t, t < d → ux.getD ((i + t) % 16) false = true) → ux.getD ((i + d) % 16) false = false →
  Runs Try.prog (CallsD Try.prog) (.rounds (loopAt Try.prog 57 0)) (ptT kx px ux k p i).abs (.exit 0) (ptT kx px ux k p (((i + d) % 16 : Nat) : Int)).abs
 | 0, i, hi, _, _, hf => by
  rw [Nat.add_zero, Nat.mod_eq_of_lt hi] at hf ⊢
  have b := natLt (n := kx.length) (i := i) (by omega)
  refine ptL_step kx px ux k p i _ _ ?_ ?_ <;> dsimp only [At, Tr.q, RG, ptL_T]
  ·intro g; rw [Int.toNat_natCast, hf] at g; cases g
  ·intro _; exact ⟨⟨by rw [Int.toNat_natCast]; omega, b.1, b.2, trivial⟩, rfl, rfl⟩
 | d + 1, i, hi, hd, ht, hf => by
  have h0 := ht 0 (by omega)
  rw [Nat.add_zero, Nat.mod_eq_of_lt hi] at h0
  have b := natLt (n := kx.length) (i := i) (by omega)
  have ih := pt_run kx px ux k p hx d ((i + 1) % 16) (by omega) (by omega) (fun t q => by
   have := ht (t + 1) (by omega)
   rwa [show ((i + 1) % 16 + t) % 16 = (i + (t + 1)) % 16 by omega]) (by rwa [show ((i + 1) % 16 + d) % 16 = (i + (d + 1)) % 16 by omega])
  rw [show ((i + 1) % 16 + d) % 16 = (i + (d + 1)) % 16 by omega] at ih
  refine ptL_step kx px ux k p i _ _ ?_ ?_ <;> dsimp only [At, Tr.q, RG, ptL_T]
  ·intro _
   rw [next16 i hi]
   exact ⟨⟨by rw [Int.toNat_natCast]; omega, b.1, b.2, trivial⟩, ih⟩
  ·intro g; rw [Int.toNat_natCast, h0] at g; cases g
theorem p4_ok (kx px : List Int) (ux : List Bool) (k p : Int) (h : okI kx ∧ inU k ∧ ccS kx px ux) : CallsD Try.prog 57 [cc kx px ux, u32 k, i64 p]
  (.tup [cco (if ppO kx px ux k p then kx.set (lkI kx ux k) k else []) (if ppO kx px ux k p then px.set (lkI kx ux k) p else []) (if ppO kx px ux k p then ux.set (lkI kx ux k) true else []), i64 (ppE kx px ux k p)]) := by
 obtain ⟨ho, hk, hc⟩ := h
 have he := pc_eq ho hc
 obtain ⟨c0, c1, c2⟩ := hc
 by_cases c : pcV kx px ux = 0
 ·have c' : c14V kx px ux = 0 := by rw [he]; exact c
  have x := pcV_ix ho ⟨c0, c1, c2⟩ c
  obtain ⟨a1, a2⟩ := ix_atN x hk
  have l := x.1.1
  have hle := x.2.1
  have nc : ¬ (c14V kx px ux ≠ 0) := fun n => n c'
  by_cases r : 0 ≤ p ∧ p < 16
  ·by_cases u : ux.getD (lkI kx ux k) false = true
   ·have hO : ¬ ppO kx px ux k p := fun o => by rw [o.2.2.1] at u; cases u
    simp only [if_neg hO]
    unfold ppE; rw [if_pos c, if_pos r, if_pos u]
    refine calls_reads (nilC 14) ?_
    refine pt4_calls kx px ux k p 0 _ ?_ ?_ ?_ ?_ ?_ ?_ <;> dsimp only [At, Tr.q, pt4_T]
    ·intro g; rw [neq_t] at g; exact absurd c' g
    ·intro _ g; rw [lss_t] at g; omega
    ·intro _ _ g; rw [geq_t] at g; omega
    ·intro _ _ _ _; exact ⟨⟨by omega, ho, trivial⟩, rfl⟩
    ·intro _ _ _ g; rw [geq_f] at g; have := a1.2 u; omega
    ·intro _ _ _ g; rw [geq_f] at g; have := a1.2 u; omega
   ·have hu : ux.getD (lkI kx ux k) false = false := by simpa using u
    have hat : atN kx ux k < 0 := by
     rcases Int.lt_or_le (atN kx ux k) 0 with q | q
     ·exact q
     ·exact absurd (a1.1 q) u
    by_cases n : ctN kx.length ux < 12
    ·have hO : ppO kx px ux k p := ⟨c, r, hu, n⟩
     obtain ⟨b1, b2, _⟩ := ix_look x hk
     have hh := hmN_lt hk
     have hb := homeN_lt hk
     simp only [if_pos hO]
     unfold ppE; rw [if_pos c, if_pos r, if_neg u, if_pos n]
     have hrun := pt_run kx px ux k p l (ds (hmN k) (lkI kx ux k)) (hmN k) hh (by unfold ds; omega) b2 (by rw [show (hmN k + ds (hmN k) (lkI kx ux k)) % 16 = lkI kx ux k by unfold ds; omega]; exact hu)
     rw [show (hmN k + ds (hmN k) (lkI kx ux k)) % 16 = lkI kx ux k by unfold ds; omega, show ((hmN k : Nat) : Int) = homeN k by unfold hmN; omega] at hrun
     refine pt4_calls kx px ux k p (lkI kx ux k) _ ?_ ?_ ?_ ?_ ?_ ?_ <;> dsimp only [At, Tr.q, pt4_T]
     ·intro g; rw [neq_t] at g; exact absurd c' g
     ·intro _ g; rw [lss_t] at g; omega
     ·intro _ _ g; rw [geq_t] at g; omega
     ·intro _ _ _ g; rw [geq_t] at g; omega
     ·intro _ _ _ _ g; rw [eql_t] at g; omega
     ·intro _ _ _ _ _
      have b := natLt (n := kx.length) (i := lkI kx ux k) (by omega)
      have hl := loop_of_rounds hrun
      rw [Int.toNat_natCast]
      refine ⟨?_, rfl⟩
      (repeat' (first | assumption | apply And.intro)) <;> first | exact trivial | rfl | exact b.1 | exact b.2 | omega | (simp only [rowLen0, Col0.len, List.length_set])
    ·have hO : ¬ ppO kx px ux k p := fun o => n o.2.2.2
     simp only [if_neg hO]
     unfold ppE; rw [if_pos c, if_pos r, if_neg u, if_neg n]
     refine calls_reads (nilC 18) ?_
     refine pt4_calls kx px ux k p 0 _ ?_ ?_ ?_ ?_ ?_ ?_ <;> dsimp only [At, Tr.q, pt4_T]
     ·intro g; rw [neq_t] at g; exact absurd c' g
     ·intro _ g; rw [lss_t] at g; omega
     ·intro _ _ g; rw [geq_t] at g; omega
     ·intro _ _ _ g; rw [geq_t] at g; omega
     ·intro _ _ _ _ _; exact ⟨⟨by omega, by omega, ho, trivial⟩, rfl⟩
     ·intro _ _ _ _ g; rw [eql_f] at g; rw [l] at g n; omega
  ·have hO : ¬ ppO kx px ux k p := fun o => r o.2.1
   simp only [if_neg hO]
   unfold ppE; rw [if_pos c, if_neg r]
   refine calls_reads (nilC 2) ?_
   refine pt4_calls kx px ux k p 0 _ ?_ ?_ ?_ ?_ ?_ ?_ <;> dsimp only [At, Tr.q, pt4_T]
   ·intro g; rw [neq_t] at g; exact absurd c' g
   ·intro _ _; exact ⟨⟨ho, trivial⟩, rfl⟩
   ·intro _ _ _; exact ⟨⟨ho, trivial⟩, rfl⟩
   ·intro _ g g2; rw [lss_f] at g; rw [geq_f] at g2; exact absurd ⟨g, g2⟩ r
   ·intro _ g g2; rw [lss_f] at g; rw [geq_f] at g2; exact absurd ⟨g, g2⟩ r
   ·intro _ g g2; rw [lss_f] at g; rw [geq_f] at g2; exact absurd ⟨g, g2⟩ r
 ·have c' : c14V kx px ux ≠ 0 := by rw [he]; exact c
  have hO : ¬ ppO kx px ux k p := fun o => c o.1
  simp only [if_neg hO]
  unfold ppE; rw [if_neg c, ← he]
  refine calls_reads (nilC _) ?_
  refine pt4_calls kx px ux k p 0 _ ?_ ?_ ?_ ?_ ?_ ?_ <;> dsimp only [At, Tr.q, pt4_T]
  ·intro _; exact ⟨⟨ho, ho, trivial⟩, rfl⟩
  all_goals (intro g; rw [neq_f] at g; exact absurd g c')
theorem p4C_ok (args res l) (h : ppC args = some (res, l)) (hl : AllP l) : CallsD Try.prog 57 args res := by
 unfold ppC at h; split at h
 ·simp only [Option.some.injEq, Prod.mk.injEq] at h
  obtain ⟨rfl, rfl⟩ := h; obtain ⟨h0, _⟩ := hl
  exact p4_ok _ _ _ _ _ h0
 ·cases h
end TableS
end

section
namespace TableS
open Go Go.Dam Go.Proofs
set_option maxRecDepth 1000000
/-- Is a cell met before the cell k? -/
def bhW (c k : Nat) : Nat → Nat → Bool
 | 0, _ => false
 | d + 1, i => if i = c then true else if i = k then false else bhW c k d ((i + 1) % 16)
theorem bh_run (c k : Nat) : ∀ (D d i : Nat) (b : Bool), i < 16 → d < D → (i + d) % 16 = k →
  ∃ j : Int, Runs Try.prog (CallsD Try.prog) (.rounds (loopAt Try.prog 108 0)) (bhT c k b i).abs .ret (bhT c k (bhW c k D i) j).abs
 | 0, d, i, b, _, h, _ => by omega
 | D + 1, d, i, b, hi, hd, he => by
  by_cases e1 : i = c
  ·refine ⟨i, ?_⟩
   have : bhW c k (D + 1) i = true := by simp only [bhW, if_pos e1]
   rw [this]
   refine bhL_step c k b i _ _ ?_ ?_ ?_ <;> dsimp only [At, Tr.q, RG, bhL_T]
   ·intro _; exact ⟨trivial, rfl, rfl⟩
   ·intro g; rw [eql_f] at g; omega
   ·intro g; rw [eql_f] at g; omega
  ·by_cases e2 : i = k
   ·refine ⟨i, ?_⟩
    have : bhW c k (D + 1) i = false := by simp only [bhW, if_neg e1, if_pos e2]
    rw [this]
    refine bhL_step c k b i _ _ ?_ ?_ ?_ <;> dsimp only [At, Tr.q, RG, bhL_T]
    ·intro g; rw [eql_t] at g; omega
    ·intro _ _; exact ⟨trivial, rfl, rfl⟩
    ·intro _ g; rw [eql_f] at g; omega
   ·have d0 : d ≠ 0 := fun q => e2 (by rw [← he, q, Nat.add_zero, Nat.mod_eq_of_lt hi])
    obtain ⟨j, r⟩ := bh_run c k D (d - 1) ((i + 1) % 16) b (by omega) (by omega) (by omega)
    refine ⟨j, ?_⟩
    have : bhW c k (D + 1) i = bhW c k D ((i + 1) % 16) := by simp only [bhW, if_neg e1, if_neg e2]
    rw [this]
    refine bhL_step c k b i _ _ ?_ ?_ ?_ <;> dsimp only [At, Tr.q, RG, bhL_T]
    ·intro g; rw [eql_t] at g; omega
    ·intro _ g; rw [eql_t] at g; omega
    ·intro _ _; rw [next16 i hi]; exact ⟨trivial, r⟩
def in16 (x : Int) : Prop := 0 ≤ x ∧ x < 16
def bhV (c e k : Int) : Bool := bhW c.toNat k.toNat 16 ((e.toNat + 1) % 16)
theorem bh_ok (c e k : Int) (h : in16 c ∧ in16 e ∧ in16 k) : CallsD Try.prog 108 [i64 c, i64 e, i64 k] (bo (bhV c e k)) := by
 obtain ⟨⟨c0, c1⟩, ⟨e0, e1⟩, k0, k1⟩ := h
 obtain ⟨cn, rfl⟩ : ∃ n : Nat, c = n := ⟨c.toNat, by omega⟩
 obtain ⟨en, rfl⟩ : ∃ n : Nat, e = n := ⟨e.toNat, by omega⟩
 obtain ⟨kn, rfl⟩ : ∃ n : Nat, k = n := ⟨k.toNat, by omega⟩
 unfold bhV
 simp only [Int.toNat_natCast]
 obtain ⟨j, r⟩ := bh_run cn kn 16 ((kn + 16 - (en + 1) % 16) % 16) ((en + 1) % 16) false (by omega) (by omega) (by omega)
 have r2 := loop_of_rounds r
 refine bhF_calls cn en kn (bhW cn kn 16 ((en + 1) % 16)) j _ ⟨⟨?_, trivial⟩, rfl⟩
 unfold bhF_c0
 rw [next16 en (by omega)]
 exact r2
theorem bh_all : ∀ h : Nat, h < 16 → ∀ i : Nat, i < 16 → ∀ j : Nat, j < 16 → i ≠ j → bhW h j 16 ((i + 1) % 16) = !decide (ds i j ≤ (h + 15 - i) % 16) := by decide +kernel
def bhC : List D → Option (D × List Prop)
 | [.v (.int .i64 c), .v (.int .i64 e), .v (.int .i64 k)] => some (bo (bhV c e k), [in16 c ∧ in16 e ∧ in16 k])
 | _ => none
theorem bhC_ok (args res l) (h : bhC args = some (res, l)) (hl : AllP l) : CallsD Try.prog 108 args res := by
 unfold bhC at h; split at h
 ·simp only [Option.some.injEq, Prod.mk.injEq] at h
  obtain ⟨rfl, rfl⟩ := h; obtain ⟨h0, _⟩ := hl
  exact bh_ok _ _ _ h0
 ·cases h
/-- A table told by its description. -/
def tbOf : D → Option Tb
 | .agg [.v (.int .i64 n), .rc [.ints .u32 ks], .rc [.ints .i64 x1, .ints .i64 x2, .ints .i64 x3, .ints .i64 x4, .ints .i64 x5, .ints .u64 x6], .rc [.ints .i64 nx], .rc [.bools us], .v (.int .i64 fr), .rc [.ints .u32 kx, .ints .i64 px, .bools ux], .rc [.ints .i64 ps], .rc [.ints .i64 no], .v (.int .i64 h), .v (.int .i64 t)] => some ⟨n, ks, x1, x2, x3, x4, x5, x6, nx, us, fr, kx, px, ux, ps, no, h, t⟩
 | _ => none
theorem tbOf_d {d : D} {T : Tb} (h : tbOf d = some T) : d = T.d := by
 unfold tbOf at h
 split at h
 ·simp only [Option.some.injEq] at h; subst h; rfl
 ·cases h
/-- A contract of a function of one table. -/
def conT (f : Tb → D × List Prop) : List D → Option (D × List Prop)
 | [d] => match tbOf d with
  | some T => some (f T)
  | none => none
 | _ => none
theorem conT_ok {f : Tb → D × List Prop} {g : FuncId} (hf : ∀ T, AllP (f T).2 → CallsD Try.prog g [T.d] (f T).1) (args res l) (h : conT f args = some (res, l)) (hl : AllP l) : CallsD Try.prog g args res := by
 unfold conT at h
 split at h
 next d =>
  split at h
  next T ht =>
   simp only [Option.some.injEq] at h
   have e := tbOf_d ht
   subst e
   have := hf T (by rw [h]; exact hl)
   rw [h] at this; exact this
  ·cases h
 ·cases h
def twS (T : Tb) : Prop := T.ks.length ≤ 200 ∧ kcS T.x1 T.x2 T.x3 T.x4 T.x5 T.x6 ∧ T.nx.length ≤ 200 ∧ T.us.length ≤ 200 ∧ ccS T.kx T.px T.ux ∧ T.ps.length ≤ 200 ∧ T.no.length ≤ 200
def twrC : List D → Option (D × List Prop) := conT fun T => (T.o, [twS T])
theorem twrC_ok (args res l) (h : twrC args = some (res, l)) (hl : AllP l) : CallsD Try.prog 9 args res := conT_ok (f := fun T => (T.o, [twS T])) (fun T h => tr_ok T h.1) args res l h hl
noncomputable def X20 : Contracts := addCon 9 (.call twrC) (addCon 108 (.call bhC) (addCon 57 (.call ppC) (addCon 52 (.call toD) (addCon 96 (.call rmD) X19))))
theorem hX20 : ConOK Try.prog X20 := addCall_ok twrC_ok (addCall_ok bhC_ok (addCall_ok p4C_ok (addCall_ok toD_ok (addCall_ok rmD_ok hX19))))
end TableS
end

section
namespace TableS
open Go Go.Dam Go.Proofs
set_option maxRecDepth 1000000
noncomputable def d4L_c0 (j : Int) := opI .rem .i64 (opI .add .i64 j 1) 16
noncomputable def d4L_T (m : Nat) (o : Int) (j : Int) (kx : List Int) (px : List Int) (ux : List Bool) : Tr (Ex × Cs) := .s (decide (j < ↑m) = true) (.s (decide (0 ≤ j) = true) (.s (j.toNat < kx.length) (.d (ux.getD j.toNat false) (fun e0 => .s (decide (j < ↑m) = true) (.s (decide (0 ≤ j) = true) (.s (j.toNat < kx.length) (.s (inU (kx.getD j.toNat 0)) (.s (in16 (homeN (kx.getD j.toNat 0)) ∧ in16 o ∧ in16 j) (.d (bhV (homeN (kx.getD j.toNat 0)) o j) (fun e1 => .q (false) (.lf (Ex.normal, (d4T (m) (o) (d4L_c0 j) (kx) (px) (ux))))) (fun e1 => .s (decide (j < ↑m) = true) (.s (decide (0 ≤ j) = true) (.s (j.toNat < kx.length) (.s (decide (o < ↑m) = true) (.s (decide (0 ≤ o) = true) (.s (ux.length = kx.length) (.s (px.length = kx.length) (.s (kx.length = kx.length) (.s (o.toNat < kx.length) (.s (decide (j < ↑m) = true) (.s (decide (0 ≤ j) = true) (.s ((Col0.bools (ux.set o.toNat (ux.getD j.toNat false))).len = rowLen0 [.ints .u32 (kx.set o.toNat (kx.getD j.toNat 0)), .ints .i64 (px.set o.toNat (px.getD j.toNat 0)), .bools (ux.set o.toNat (ux.getD j.toNat false))]) (.s ((Col0.ints .i64 (px.set o.toNat (px.getD j.toNat 0))).len = rowLen0 [.ints .u32 (kx.set o.toNat (kx.getD j.toNat 0)), .ints .i64 (px.set o.toNat (px.getD j.toNat 0)), .bools (ux.set o.toNat (ux.getD j.toNat false))]) (.s ((Col0.ints .u32 (kx.set o.toNat (kx.getD j.toNat 0))).len = rowLen0 [.ints .u32 (kx.set o.toNat (kx.getD j.toNat 0)), .ints .i64 (px.set o.toNat (px.getD j.toNat 0)), .bools (ux.set o.toNat (ux.getD j.toNat false))]) (.s (j.toNat < rowLen0 [.ints .u32 (kx.set o.toNat (kx.getD j.toNat 0)), .ints .i64 (px.set o.toNat (px.getD j.toNat 0)), .bools (ux.set o.toNat (ux.getD j.toNat false))]) (.q (false) (.lf (Ex.normal, (d4T (m) (j) (d4L_c0 j) ((kx.set o.toNat (kx.getD j.toNat 0)).set j.toNat 0) ((px.set o.toNat (px.getD j.toNat 0)).set j.toNat 0) ((ux.set o.toNat (ux.getD j.toNat false)).set j.toNat false)))))))))))))))))))))))))) (fun e0 => .lf (Ex.exit 0, (d4T (m) (o) (j) (kx) (px) (ux)))))))
theorem d4L_L (m : Nat) (o j : Int) (kx px : List Int) (ux : List Bool) : Leaves (roundT Try.prog (X20) 100000 (loopAt Try.prog 97 0) [[4, 5, 6, 7, 8]] [(672, 672)] (d4T m o j kx px ux)) (d4L_T m o j kx px ux) [] [] := by refine ⟨fun _ => ⟨fun _ => ?_, fun _ => ?_⟩, fun _ => ?_⟩ <;> (show _ = _; kernel_rfl)
theorem d4L_step (m : Nat) (o : Int) (j : Int) (kx : List Int) (px : List Int) (ux : List Bool) (σ : St) (e : Ex) (h0 : At (RG Try.prog (loopAt Try.prog 97 0) e σ) (d4L_T m o j kx px ux) [true, true] True) (h1 : At (RG Try.prog (loopAt Try.prog 97 0) e σ) (d4L_T m o j kx px ux) [true, false] True) (h2 : At (RG Try.prog (loopAt Try.prog 97 0) e σ) (d4L_T m o j kx px ux) [false] True) : Runs Try.prog (CallsD Try.prog) (.rounds (loopAt Try.prog 97 0)) (d4T m o j kx px ux).abs e σ := tree_rounds (hX20) (d4L_L m o j kx px ux) ⟨fun e0 => ⟨fun e1 => h0 e0 e1, fun e1 => h1 e0 e1⟩, fun e0 => h2 e0⟩
noncomputable def d4_c0 (kx : List Int) (ux : List Bool) (k : Int) := opI .rem .i64 (opI .add .i64 (atN kx ux k) 1) 16
noncomputable def d4_c1 (kx px : List Int) (ux : List Bool) (k : Int) := d4T kx.length (atN kx ux k) (d4_c0 kx ux k) (kx.set (atN kx ux k).toNat 0) (px.set (atN kx ux k).toNat 0) (ux.set (atN kx ux k).toNat false)
noncomputable def d4_T (kx : List Int) (px : List Int) (ux : List Bool) (k : Int) (e : Int) (j : Int) (ky : List Int) (py : List Int) (uy : List Bool) : Tr D := .s (okI kx) (.d (cmpI .neq (c14V kx px ux) 0) (fun e0 => .s (okI kx) (.lf (D.tup [D.v (Value.slice none 0 0), i64 (c14V kx px ux)]))) (fun e0 => .s (kx.length ≤ 200) (.d (cmpI .lss (atN kx ux k) 0) (fun e1 => .lf (D.tup [D.v (Value.slice none 0 0), i64 6])) (fun e1 => .p (.l [[4, 5, 6, 7, 8]] [(672, 672)] (d4_c1 kx px ux k) (Ex.exit 0) (d4T kx.length e j ky py uy)) (.s (ux.length = kx.length) (.s (px.length = kx.length) (.s (kx.length = kx.length) (.s (kx.length * 24 ≤ 17592186044416) (.s (decide (atN kx ux k < (kx.length : Int)) = true) (.s (decide (0 ≤ atN kx ux k) = true) (.s (ux.length = kx.length) (.s (px.length = kx.length) (.s (kx.length = kx.length) (.s ((atN kx ux k).toNat < kx.length) (.q (false) (.s (Runs Try.prog (CallsD Try.prog) (.code (.loop (loopAt Try.prog 97 0))) (d4_c1 kx px ux k).abs (Ex.exit 0) (d4T kx.length e j ky py uy).abs) (.k ((d4T kx.length (atN kx ux k) (d4_c0 kx ux k) (kx.set (atN kx ux k).toNat 0) (px.set (atN kx ux k).toNat 0) (ux.set (atN kx ux k).toNat false) = d4T kx.length (atN kx ux k) (d4_c0 kx ux k) (kx.set (atN kx ux k).toNat 0) (px.set (atN kx ux k).toNat 0) (ux.set (atN kx ux k).toNat false))) rfl (.s (kx.length = rowLen0 [.ints .u32 ky, .ints .i64 py, .bools uy]) (.lf (D.tup [D.oc [.ints .u32 ky, .ints .i64 py, .bools uy], i64 0]))))))))))))))))))))
theorem d4_L (kx px : List Int) (ux : List Bool) (k e j : Int) (ky py : List Int) (uy : List Bool) : Leaves (fun l => fnX Try.prog (X20) 100000 l 97 [cc kx px ux, u32 k]) (d4_T kx px ux k e j ky py uy) [] [] := by refine ⟨fun _ => ?_, fun _ => ⟨fun _ => ?_, fun _ => ?_⟩⟩ <;> (show _ = _; kernel_rfl)
theorem d4_calls (kx px : List Int) (ux : List Bool) (k e j : Int) (ky py : List Int) (uy : List Bool) (res : D) (h0 : At (fun r => res = r) (d4_T kx px ux k e j ky py uy) [true] True) (h1 : At (fun r => res = r) (d4_T kx px ux k e j ky py uy) [false, true] True) (h2 : At (fun r => res = r) (d4_T kx px ux k e j ky py uy) [false, false] True) : CallsD Try.prog 97 [cc kx px ux, u32 k] res := tree_calls (hX20) (d4_L kx px ux k e j ky py uy) ⟨fun e0 => h0 e0, fun e0 => ⟨fun e1 => h1 e0 e1, fun e1 => h2 e0 e1⟩⟩
end TableS
end

section
namespace TableS
open Go Go.Dam Go.Proofs
set_option maxRecDepth 1000000
theorem d4_run : ∀ (D d : Nat) (R : Dp), dpOk R → d < D → R.ux.getD ((R.j + d) % 16) false = false → 1 ≤ ds R.i R.j ∧ ds R.i R.j + d ≤ 15 →
  Runs Try.prog (CallsD Try.prog) (.rounds (loopAt Try.prog 97 0)) (d4T 16 R.i R.j (R.kx.set R.i 0) (R.px.set R.i 0) (R.ux.set R.i false)).abs (.exit 0)
   (d4T 16 (dpW D R).i (dpW D R).j ((dpW D R).kx.set (dpW D R).i 0) ((dpW D R).px.set (dpW D R).i 0) ((dpW D R).ux.set (dpW D R).i false)).abs
 | 0, d, R, _, h, _, _ => by omega
 | D + 1, d, R, ho, hd, hf, hs => by
  have ho' := ho
  obtain ⟨o1, o2, o3, o4, o5, o6, o7⟩ := ho'
  have hij : R.i ≠ R.j := fun e => by have := hs.1; unfold ds at this; omega
  have bi : decide (0 ≤ (R.i : Int)) = true := decide_eq_true (by omega)
  have bj : decide (0 ≤ (R.j : Int)) = true := decide_eq_true (by omega)
  have bi2 : decide ((R.i : Int) < ((16 : Nat) : Int)) = true := decide_eq_true (by omega)
  have bj2 : decide ((R.j : Int) < ((16 : Nat) : Int)) = true := decide_eq_true (by omega)
  have g1 : (R.kx.set R.i 0).getD R.j 0 = R.kx.getD R.j 0 := getD_set_ne hij
  have g2 : (R.px.set R.i 0).getD R.j 0 = R.px.getD R.j 0 := getD_set_ne hij
  have g3 : (R.ux.set R.i false).getD R.j false = R.ux.getD R.j false := getB_set_ne hij
  have hk := o6 R.j o2
  have hh := hmN_lt hk
  have hb := homeN_lt hk
  have hq := dpC_is (kx := R.kx) o1 o2 hk
  have hbv : bhV (homeN (R.kx.getD R.j 0)) R.i R.j = !dpC R.kx R.i R.j := by
   rw [hq]
   unfold bhV
   simp only [Int.toNat_natCast]
   exact bh_all _ hh R.i o1 R.j o2 hij
  have nx : d4L_c0 (R.j : Int) = (((R.j + 1) % 16 : Nat) : Int) := next16 R.j o2
  by_cases c : R.ux.getD R.j false = true
  ·have hd0 : d ≠ 0 := fun e => by
    subst e
    rw [Nat.add_zero, Nat.mod_eq_of_lt o2, c] at hf; cases hf
   have huu : R.ux.set R.i (R.ux.getD R.j false) = R.ux := by
    rw [c]
    apply List.ext_getElem (by simp)
    intro n h1 h2
    by_cases e : R.i = n
    ·subst e
     rw [List.getElem_set_self]
     rw [List.getD_eq_getElem?_getD, List.getElem?_eq_getElem h2] at o7
     exact o7.symm
    ·rw [List.getElem_set_ne e]
   by_cases c2 : dpC R.kx R.i R.j = true
   ·have e : dpW (D + 1) R = dpW D ⟨R.j, (R.j + 1) % 16, R.kx.set R.i (R.kx.getD R.j 0), R.px.set R.i (R.px.getD R.j 0), R.ux⟩ := by simp only [dpW, if_pos c, if_pos c2, huu]
    have ih := d4_run D (d - 1) ⟨R.j, (R.j + 1) % 16, R.kx.set R.i (R.kx.getD R.j 0), R.px.set R.i (R.px.getD R.j 0), R.ux⟩
     ⟨o2, by show (R.j + 1) % 16 < 16; omega, by show (List.set _ _ _).length = 16; rw [List.length_set]; exact o3, by show (List.set _ _ _).length = 16; rw [List.length_set]; exact o4, o5, fun j hj => by
      show inU ((R.kx.set R.i (R.kx.getD R.j 0)).getD j 0)
      by_cases q : R.i = j
      ·subst q; rw [getD_set_self (by omega)]; exact o6 R.j o2
      ·rw [getD_set_ne q]; exact o6 j hj, c⟩ (by omega) (by
      show R.ux.getD (((R.j + 1) % 16 + (d - 1)) % 16) false = false
      rw [show ((R.j + 1) % 16 + (d - 1)) % 16 = (R.j + d) % 16 by omega]; exact hf) (by
      show 1 ≤ ds R.j ((R.j + 1) % 16) ∧ ds R.j ((R.j + 1) % 16) + (d - 1) ≤ 15
      unfold ds at hs ⊢; omega)
    rw [e]
    refine d4L_step 16 R.i R.j _ _ _ _ _ ?_ ?_ ?_ <;> dsimp only [At, Tr.q, RG, d4L_T]
    ·intro _ g
     rw [Int.toNat_natCast, g1, hbv, c2] at g; cases g
    ·intro _ _
     simp only [Int.toNat_natCast, g1, g2, g3, nx, List.set_set, huu]
     refine ⟨?_, ih⟩
     (repeat' (first | assumption | apply And.intro)) <;> first | exact trivial | rfl | omega | (simp only [rowLen0, Col0.len, List.length_set] <;> omega)
    ·intro g; rw [Int.toNat_natCast, g3, c] at g; cases g
   ·have e : dpW (D + 1) R = dpW D { R with j := (R.j + 1) % 16 } := by simp only [dpW, if_pos c, if_neg c2]
    have ih := d4_run D (d - 1) { R with j := (R.j + 1) % 16 } ⟨o1, by show (R.j + 1) % 16 < 16; omega, o3, o4, o5, o6, o7⟩ (by omega) (by
     show R.ux.getD (((R.j + 1) % 16 + (d - 1)) % 16) false = false
     rw [show ((R.j + 1) % 16 + (d - 1)) % 16 = (R.j + d) % 16 by omega]; exact hf) (by
     show 1 ≤ ds R.i ((R.j + 1) % 16) ∧ ds R.i ((R.j + 1) % 16) + (d - 1) ≤ 15
     unfold ds at hs ⊢; omega)
    rw [e]
    have c3 : dpC R.kx R.i R.j = false := by simpa using c2
    refine d4L_step 16 R.i R.j _ _ _ _ _ ?_ ?_ ?_ <;> dsimp only [At, Tr.q, RG, d4L_T]
    ·intro _ _
     simp only [Int.toNat_natCast, g1, nx]
     refine ⟨?_, ih⟩
     (repeat' (first | assumption | apply And.intro)) <;> first | exact trivial | rfl | omega | (simp only [rowLen0, Col0.len, List.length_set] <;> omega)
    ·intro _ g
     rw [Int.toNat_natCast, g1, hbv, c3] at g; cases g
    ·intro g; rw [Int.toNat_natCast, g3, c] at g; cases g
  ·have e : dpW (D + 1) R = R := by simp only [dpW, if_neg c]
   rw [e]
   refine d4L_step 16 R.i R.j _ _ _ _ _ ?_ ?_ ?_ <;> dsimp only [At, Tr.q, RG, d4L_T]
   ·intro g; rw [Int.toNat_natCast, g3] at g; exact absurd g c
   ·intro g; rw [Int.toNat_natCast, g3] at g; exact absurd g c
   ·intro _
    refine ⟨?_, rfl, rfl⟩
    (repeat' (first | assumption | apply And.intro)) <;> first | exact trivial | rfl | omega | (simp only [rowLen0, Col0.len, List.length_set, Int.toNat_natCast] <;> omega)
end TableS
end

section
namespace TableS
open Go Go.Dam Go.Proofs
set_option maxRecDepth 1000000
/-! The reference's index is the code's: Drop. -/
theorem d4_ok (kx px : List Int) (ux : List Bool) (k : Int) (h : okI kx ∧ inU k ∧ ccS kx px ux) : CallsD Try.prog 97 [cc kx px ux, u32 k]
  (.tup [cco (if dpO kx px ux k then (dpR kx px ux k).kx.set (dpR kx px ux k).i 0 else []) (if dpO kx px ux k then (dpR kx px ux k).px.set (dpR kx px ux k).i 0 else []) (if dpO kx px ux k then (dpR kx px ux k).ux.set (dpR kx px ux k).i false else []), i64 (dpE kx px ux k)]) := by
 obtain ⟨ho, hk, hc⟩ := h
 have he := pc_eq ho hc
 have hc' := hc
 obtain ⟨c0, c1, c2⟩ := hc
 by_cases c : pcV kx px ux = 0
 ·have c' : c14V kx px ux = 0 := by rw [he]; exact c
  have x := pcV_ix ho ⟨c0, c1, c2⟩ c
  obtain ⟨a1, a2⟩ := ix_atN x hk
  have l := x.1.1
  have l2 : px.length = 16 := by omega
  have l3 : ux.length = 16 := by omega
  have hle := x.2.1
  have hlt := lkI_lt (kx := kx) ux hk
  by_cases u : ux.getD (lkI kx ux k) false = true
  ·have hO : dpO kx px ux k := ⟨c, u⟩
   have hat := a2 (a1.2 u)
   obtain ⟨f, hf, hz⟩ := ctN_free (n := 16) (ux := ux) (by omega)
   have hne : f ≠ lkI kx ux k := fun q => by rw [q, u] at hz; cases hz
   have hd : (f + 16 - (lkI kx ux k + 1) % 16) % 16 ≤ 14 := by omega
   have hfree : ux.getD (((lkI kx ux k + 1) % 16 + (f + 16 - (lkI kx ux k + 1) % 16) % 16) % 16) false = false := by
    rw [show ((lkI kx ux k + 1) % 16 + (f + 16 - (lkI kx ux k + 1) % 16) % 16) % 16 = f by omega]; exact hz
   have ok0 : dpOk ⟨lkI kx ux k, (lkI kx ux k + 1) % 16, kx, px, ux⟩ := ⟨hlt, by show (lkI kx ux k + 1) % 16 < 16; omega, l, l2, l3, fun j hj => ho.2 j (by omega), u⟩
   obtain ⟨r1, _⟩ := pd_run 16 ((f + 16 - (lkI kx ux k + 1) % 16) % 16) _ ok0 (by omega) hfree
   have r2 := d4_run 16 ((f + 16 - (lkI kx ux k + 1) % 16) % 16) _ ok0 (by omega) hfree (by
    show 1 ≤ ds (lkI kx ux k) ((lkI kx ux k + 1) % 16) ∧ ds (lkI kx ux k) ((lkI kx ux k + 1) % 16) + _ ≤ 15
    unfold ds; omega)
   have r3 : dpOk (dpR kx px ux k) := r1
   have r4 := loop_of_rounds r2
   obtain ⟨q1, q2, q3, q4, q5, _⟩ := r3
   have hE : dpE kx px ux k = 0 := by unfold dpE; rw [if_pos c, if_pos u]
   have b := natLt (n := kx.length) (i := lkI kx ux k) (by omega)
   have nx : opI .rem .i64 (opI .add .i64 (lkI kx ux k : Int) 1) 16 = (((lkI kx ux k + 1) % 16 : Nat) : Int) := next16 _ hlt
   simp only [if_pos hO]; rw [hE]
   refine d4_calls kx px ux k (dpR kx px ux k).i (dpR kx px ux k).j ((dpR kx px ux k).kx.set (dpR kx px ux k).i 0) ((dpR kx px ux k).px.set (dpR kx px ux k).i 0) ((dpR kx px ux k).ux.set (dpR kx px ux k).i false) _ ?_ ?_ ?_ <;> dsimp only [At, Tr.q, d4_T]
   ·intro g; rw [neq_t] at g; exact absurd c' g
   ·intro _ g; rw [lss_t] at g; omega
   ·intro _ _
    have hc1 : d4_c1 kx px ux k = d4T 16 (lkI kx ux k) (((lkI kx ux k + 1) % 16 : Nat) : Int) (kx.set (lkI kx ux k) 0) (px.set (lkI kx ux k) 0) (ux.set (lkI kx ux k) false) := by
     show d4T kx.length (atN kx ux k) (opI .rem .i64 (opI .add .i64 (atN kx ux k) 1) 16) (kx.set (atN kx ux k).toNat 0) (px.set (atN kx ux k).toNat 0) (ux.set (atN kx ux k).toNat false) = _
     rw [hat, nx, l, Int.toNat_natCast]
    rw [hat, hc1, l]
    refine ⟨⟨?_, r4, ?_⟩, rfl⟩
    ·simp only [rowLen0, Col0.len, List.length_set]; omega
    ·have b1 := b.1
     have b2 := b.2
     (repeat' (first | assumption | apply And.intro)) <;> first | exact trivial | rfl | assumption | omega | (simp only [rowLen0, Col0.len, List.length_set, Int.toNat_natCast] <;> omega) | (rw [← l]; assumption) | (rw [Int.toNat_natCast]; exact hlt)
  ·have hO : ¬ dpO kx px ux k := fun o => u o.2
   simp only [if_neg hO]
   unfold dpE; rw [if_pos c, if_neg u]
   refine calls_reads (nilC _) ?_
   refine d4_calls kx px ux k 0 0 [] [] [] _ ?_ ?_ ?_ <;> dsimp only [At, Tr.q, d4_T]
   ·intro g; rw [neq_t] at g; exact absurd c' g
   ·intro _ _; exact ⟨⟨by omega, ho, trivial⟩, rfl⟩
   ·intro _ g; rw [lss_f] at g; exact absurd (a1.1 (by omega)) u
 ·have hO : ¬ dpO kx px ux k := fun o => c o.1
  have hne : c14V kx px ux ≠ 0 := fun e => c (by rw [← he]; exact e)
  simp only [if_neg hO]
  unfold dpE; rw [if_neg c, ← he]
  refine calls_reads (nilC _) ?_
  refine d4_calls kx px ux k 0 0 [] [] [] _ ?_ ?_ ?_ <;> dsimp only [At, Tr.q, d4_T]
  ·intro _; exact ⟨⟨ho, ho, trivial⟩, rfl⟩
  ·intro g; rw [neq_f] at g; exact absurd g hne
  ·intro g; rw [neq_f] at g; exact absurd g hne
theorem d4C_ok (args res l) (h : pdC args = some (res, l)) (hl : AllP l) : CallsD Try.prog 97 args res := by
 unfold pdC at h; split at h
 ·simp only [Option.some.injEq, Prod.mk.injEq] at h
  obtain ⟨rfl, rfl⟩ := h; obtain ⟨h0, _⟩ := hl
  exact d4_ok _ _ _ _ h0
 ·cases h
end TableS
end
