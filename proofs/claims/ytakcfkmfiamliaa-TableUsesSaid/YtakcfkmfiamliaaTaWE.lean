/- What the functions compute, and the law. No condition. -/
import Derived.Test.YtakcfkmfiamliaaTaVW
set_option linter.unusedSectionVars false
set_option linter.unusedVariables false
set_option linter.unusedSimpArgs false
section
namespace TableS
open Go Go.Dam Go.Proofs
set_option maxRecDepth 1000000
noncomputable def a6L_T (T : Tb) (k : Int) (o : Int) (i : Int) : Tr (Ex × Cs) := .d (cmpI .lss i T.n) (fun e0 => .s (decide (i < (T.us.length : Int)) = true) (.s (decide (0 ≤ i) = true) (.d (T.us.getD i.toNat false) (fun e1 => .p (.c 5) (.s (decide (i < (T.ks.length : Int)) = true) (.s (decide (0 ≤ i) = true) (.d (cmpI .eql (T.ks.getD i.toNat 0) k) (fun e2 => .lf (Ex.ret, (a6T T (k) (i) (i)))) (fun e2 => .lf (Ex.normal, (a6T T (k) (o) (opI .add .i64 i 1)))))))) (fun e1 => .p (.c 6) (.lf (Ex.normal, (a6T T (k) (o) (opI .add .i64 i 1)))))))) (fun e0 => .lf (Ex.exit 0, (a6T T (k) (o) (i))))
theorem a6L_L (T : Tb) (k o i : Int) : Leaves (roundT Try.prog (X19) 100000 (loopAt Try.prog 51 0) [[1, 2, 4, 5]] [(64, 64)] (a6T T k o i)) (a6L_T T k o i) [] [] := by refine ⟨fun _ => ⟨fun _ => ⟨fun _ => ?_, fun _ => ?_⟩, fun _ => ?_⟩, fun _ => ?_⟩ <;> (show _ = _; kernel_rfl)
theorem a6L_step (T : Tb) (k : Int) (o : Int) (i : Int) (σ : St) (e : Ex) (h0 : At (RG Try.prog (loopAt Try.prog 51 0) e σ) (a6L_T T k o i) [true, true, true] True) (h1 : At (RG Try.prog (loopAt Try.prog 51 0) e σ) (a6L_T T k o i) [true, true, false] True) (h2 : At (RG Try.prog (loopAt Try.prog 51 0) e σ) (a6L_T T k o i) [true, false] True) (h3 : At (RG Try.prog (loopAt Try.prog 51 0) e σ) (a6L_T T k o i) [false] True) : Runs Try.prog (CallsD Try.prog) (.rounds (loopAt Try.prog 51 0)) (a6T T k o i).abs e σ := tree_rounds (hX19) (a6L_L T k o i) ⟨fun e0 => ⟨fun e1 => ⟨fun e2 => h0 e0 e1 e2, fun e2 => h1 e0 e1 e2⟩, fun e1 => h2 e0 e1⟩, fun e0 => h3 e0⟩
noncomputable def a6F_T (T : Tb) (k : Int) (i : Int) : Tr D := .p (.l [[1, 2, 4, 5]] [(64, 64)] (a6T T k 0 0) (Ex.exit 0) (a6T T k 0 i)) (.s (Runs Try.prog (CallsD Try.prog) (.code (.loop (loopAt Try.prog 51 0))) (a6T T k 0 0).abs (Ex.exit 0) (a6T T k 0 i).abs) (.k ((a6T T k 0 0 = a6T T k 0 0)) rfl (.lf (i64 (-1)))))
theorem a6F_L (T : Tb) (k i : Int) : Leaves (fun l => fnX Try.prog (X19) 100000 l 51 [T.d, u32 k]) (a6F_T T k i) [] [] := by show _ = _; kernel_rfl
theorem a6F_calls (T : Tb) (k i : Int) (res : D) (h0 : At (fun r => res = r) (a6F_T T k i) [] True) : CallsD Try.prog 51 [T.d, u32 k] res := tree_calls (hX19) (a6F_L T k i) h0
noncomputable def a6R_T (T : Tb) (k : Int) (o : Int) (i : Int) : Tr D := .p (.l [[1, 2, 4, 5]] [(64, 64)] (a6T T k 0 0) Ex.ret (a6T T k o i)) (.s (Runs Try.prog (CallsD Try.prog) (.code (.loop (loopAt Try.prog 51 0))) (a6T T k 0 0).abs (Ex.ret) (a6T T k o i).abs) (.k ((a6T T k 0 0 = a6T T k 0 0)) rfl (.lf (i64 o))))
theorem a6R_L (T : Tb) (k o i : Int) : Leaves (fun l => fnX Try.prog (X19) 100000 l 51 [T.d, u32 k]) (a6R_T T k o i) [] [] := by show _ = _; kernel_rfl
theorem a6R_calls (T : Tb) (k o i : Int) (res : D) (h0 : At (fun r => res = r) (a6R_T T k o i) [] True) : CallsD Try.prog 51 [T.d, u32 k] res := tree_calls (hX19) (a6R_L T k o i) h0
/-! Where a key is, by the reference. -/
theorem a6_run {T : Tb} {k : Int} (hn : T.n ≤ 200) (hk : (T.ks.length : Int) = T.n) (hu : (T.us.length : Int) = T.n) {m : Nat} (hm : (m : Int) ≤ T.n) {o : Int} {e : Ex} {σ : St}
  (hno : ∀ i : Nat, i < m → T.us.getD i false = true → T.ks.getD i 0 ≠ k)
  (hr : Runs Try.prog (CallsD Try.prog) (.rounds (loopAt Try.prog 51 0)) (a6T T k o m).abs e σ) : ∀ (d i : Nat), i + d = m →
  Runs Try.prog (CallsD Try.prog) (.rounds (loopAt Try.prog 51 0)) (a6T T k o i).abs e σ
 | 0, i, h => by rw [Nat.add_zero] at h; subst h; exact hr
 | d + 1, i, h => by
  have ih := a6_run hn hk hu hm hno hr d (i + 1) (by omega)
  have nx : opI .add .i64 (i : Int) 1 = ((i + 1 : Nat) : Int) := by rw [opI_add, wrap_i64_of (by omega) (by omega)]; omega
  have b1 : decide (0 ≤ (i : Int)) = true := decide_eq_true (by omega)
  have b2 : decide ((i : Int) < (T.us.length : Int)) = true := decide_eq_true (by omega)
  have b3 : decide ((i : Int) < (T.ks.length : Int)) = true := decide_eq_true (by omega)
  refine a6L_step T k o i _ _ ?_ ?_ ?_ ?_ <;> dsimp only [At, Tr.q, RG, a6L_T]
  ·intro _ g1 g2; rw [Int.toNat_natCast] at g1 g2; rw [eql_t] at g2; exact absurd g2 (hno i (by omega) g1)
  ·intro _ _ _; rw [nx]; exact ⟨⟨b1, b3, b1, b2, trivial⟩, ih⟩
  ·intro _ _; rw [nx]; exact ⟨⟨b1, b2, trivial⟩, ih⟩
  ·intro g; rw [lss_f] at g; omega
theorem a6_ok (T : Tb) (k : Int) (h : okT T ∧ inU k ∧ tcV T = 0) : CallsD Try.prog 51 [T.d, u32 k] (i64 (plV T k)) := by
 obtain ⟨ho, hk, c⟩ := h
 obtain ⟨L, F, v⟩ := tc_inv ho c
 have lens := okT_lens ho v
 have ul := inv_us_len v
 have hn : T.n ≤ 200 := by have := v.sz.2.1; omega
 have h0 := v.sz.1
 rcases inv_pl v hk with ⟨i, ep, hi, hu, ek⟩ | ⟨ep, hn2⟩
 ·have b1 : decide (0 ≤ (i : Int)) = true := decide_eq_true (by omega)
  have b2 : decide ((i : Int) < (T.us.length : Int)) = true := decide_eq_true (by omega)
  have b3 : decide ((i : Int) < (T.ks.length : Int)) = true := decide_eq_true (by omega)
  have r := a6_run (T := T) (k := k) (m := i) (o := 0) (e := .ret) (σ := (a6T T k i i).abs) hn lens.1 ul (by omega) (fun j hj uj e => by
   have := inv_keys v (i := j) (j := i) (by omega) hi uj hu (by rw [e, ek]); omega) (by
   refine a6L_step T k 0 i _ _ ?_ ?_ ?_ ?_ <;> dsimp only [At, Tr.q, RG, a6L_T]
   ·intro _ _ _; exact ⟨⟨b1, b3, b1, b2, trivial⟩, rfl, rfl⟩
   ·intro _ _ g; rw [Int.toNat_natCast, eql_f] at g; exact absurd ek g
   ·intro _ g; rw [Int.toNat_natCast, hu] at g; cases g
   ·intro g; rw [lss_f] at g; omega) i 0 (by omega)
  rw [ep]
  exact a6R_calls T k i i _ ⟨⟨loop_of_rounds r, trivial⟩, rfl⟩
 ·obtain ⟨m, em⟩ : ∃ m : Nat, T.n = m := ⟨T.n.toNat, by omega⟩
  have r := a6_run (T := T) (k := k) (m := m) (o := 0) (e := .exit 0) (σ := (a6T T k 0 m).abs) hn lens.1 ul (by omega) (fun j hj uj e => hn2 j (by omega) uj e) (by
   refine a6L_step T k 0 m _ _ ?_ ?_ ?_ ?_ <;> dsimp only [At, Tr.q, RG, a6L_T]
   ·intro g; rw [lss_t] at g; omega
   ·intro g; rw [lss_t] at g; omega
   ·intro g; rw [lss_t] at g; omega
   ·intro _; exact ⟨trivial, rfl, rfl⟩) m 0 (by omega)
  rw [ep]
  exact a6F_calls T k m _ ⟨⟨loop_of_rounds r, trivial⟩, rfl⟩
/-- A contract of a function of one table and a key. -/
def conTK (f : Tb → Int → D × List Prop) : List D → Option (D × List Prop)
 | [d, .v (.int .u32 k)] => match tbOf d with
  | some T => some (f T k)
  | none => none
 | _ => none
theorem conTK_ok {f : Tb → Int → D × List Prop} {g : FuncId} (hf : ∀ T k, AllP (f T k).2 → CallsD Try.prog g [T.d, u32 k] (f T k).1) (args res l) (h : conTK f args = some (res, l)) (hl : AllP l) : CallsD Try.prog g args res := by
 unfold conTK at h
 split at h
 next d k =>
  split at h
  next T ht =>
   simp only [Option.some.injEq] at h
   have e := tbOf_d ht
   subst e
   have := hf T k (by rw [h]; exact hl)
   rw [h] at this; exact this
  ·cases h
 ·cases h
def a6S (T : Tb) (k : Int) : Prop := okT T ∧ inU k ∧ tcV T = 0
def a6C : List D → Option (D × List Prop) := conTK fun T k => (i64 (plV T k), [a6S T k])
theorem a6C_ok (args res l) (h : a6C args = some (res, l)) (hl : AllP l) : CallsD Try.prog 51 args res := conTK_ok (f := fun T k => (i64 (plV T k), [a6S T k])) (fun T k h => a6_ok T k h.1) args res l h hl
noncomputable def X21 : Contracts := addCon 51 (.call a6C) (addCon 97 (.call pdC) X20)
theorem hX21 : ConOK Try.prog X21 := addCall_ok a6C_ok (addCall_ok d4C_ok hX20)
end TableS
end

section
namespace TableS
open Go Go.Dam Go.Proofs
set_option maxRecDepth 1000000
noncomputable def dd6_c0 (T : Tb) (k : Int) := if rmO T.ps T.no T.h T.t (plV T k) then rmP T.ps T.no (plV T k) else []
noncomputable def dd6_c1 (T : Tb) (k : Int) := if rmO T.ps T.no T.h T.t (plV T k) then rmN T.ps T.no (plV T k) else []
noncomputable def dd6_c2 (T : Tb) (k : Int) := if gvO T.nx T.us T.fr (plV T k) then T.nx.set (plV T k).toNat T.fr else []
noncomputable def dd6_c3 (T : Tb) (k : Int) := if gvO T.nx T.us T.fr (plV T k) then T.us.set (plV T k).toNat false else []
noncomputable def dd6_c4 (T : Tb) (k : Int) := if dpO T.kx T.px T.ux k then (dpR T.kx T.px T.ux k).kx.set (dpR T.kx T.px T.ux k).i 0 else []
noncomputable def dd6_c5 (T : Tb) (k : Int) := if dpO T.kx T.px T.ux k then (dpR T.kx T.px T.ux k).px.set (dpR T.kx T.px T.ux k).i 0 else []
noncomputable def dd6_c6 (T : Tb) (k : Int) := if dpO T.kx T.px T.ux k then (dpR T.kx T.px T.ux k).ux.set (dpR T.kx T.px T.ux k).i false else []
noncomputable def dd6_T (T : Tb) (k : Int) : Tr D := .s (a6S T k) (.s (twS T) (.s (T.no.length ≤ 200) (.s (okI T.kx ∧ inU k ∧ ccS T.kx T.px T.ux) (.s (T.us.length ≤ 200 ∧ T.nx.length ≤ 200) (.s (decide (plV T k < ↑(rowLen0 [.ints .u32 T.ks])) = true) (.s (decide (0 ≤ plV T k) = true) (.s ((Col0.ints .u32 T.ks).len = rowLen0 [.ints .u32 T.ks]) (.s ((plV T k).toNat < rowLen0 [.ints .u32 T.ks]) (.s (decide (plV T k < ↑(rowLen0 [.ints .i64 T.x1, .ints .i64 T.x2, .ints .i64 T.x3, .ints .i64 T.x4, .ints .i64 T.x5, .ints .u64 T.x6])) = true) (.s (decide (0 ≤ plV T k) = true) (.s ((Col0.ints .u64 T.x6).len = rowLen0 [.ints .i64 T.x1, .ints .i64 T.x2, .ints .i64 T.x3, .ints .i64 T.x4, .ints .i64 T.x5, .ints .u64 T.x6]) (.s ((Col0.ints .i64 T.x5).len = rowLen0 [.ints .i64 T.x1, .ints .i64 T.x2, .ints .i64 T.x3, .ints .i64 T.x4, .ints .i64 T.x5, .ints .u64 T.x6]) (.s ((Col0.ints .i64 T.x4).len = rowLen0 [.ints .i64 T.x1, .ints .i64 T.x2, .ints .i64 T.x3, .ints .i64 T.x4, .ints .i64 T.x5, .ints .u64 T.x6]) (.s ((Col0.ints .i64 T.x3).len = rowLen0 [.ints .i64 T.x1, .ints .i64 T.x2, .ints .i64 T.x3, .ints .i64 T.x4, .ints .i64 T.x5, .ints .u64 T.x6]) (.s ((Col0.ints .i64 T.x2).len = rowLen0 [.ints .i64 T.x1, .ints .i64 T.x2, .ints .i64 T.x3, .ints .i64 T.x4, .ints .i64 T.x5, .ints .u64 T.x6]) (.s ((Col0.ints .i64 T.x1).len = rowLen0 [.ints .i64 T.x1, .ints .i64 T.x2, .ints .i64 T.x3, .ints .i64 T.x4, .ints .i64 T.x5, .ints .u64 T.x6]) (.s ((plV T k).toNat < rowLen0 [.ints .i64 T.x1, .ints .i64 T.x2, .ints .i64 T.x3, .ints .i64 T.x4, .ints .i64 T.x5, .ints .u64 T.x6]) (.q (rowLen0 [.ints .i64 (dd6_c1 T k)]) (.q (rowLen0 [.ints .i64 (dd6_c0 T k)]) (.q (rowLen0 [.ints .u32 (dd6_c4 T k), .ints .i64 (dd6_c5 T k), .bools (dd6_c6 T k)]) (.q (rowLen0 [.bools (dd6_c3 T k)]) (.q (rowLen0 [.ints .i64 (dd6_c2 T k)]) (.s (rowLen0 [.ints .i64 T.x1, .ints .i64 T.x2, .ints .i64 T.x3, .ints .i64 T.x4, .ints .i64 T.x5, .ints .u64 T.x6] = rowLen0 [.ints .i64 (T.x1.set (plV T k).toNat 0), .ints .i64 (T.x2.set (plV T k).toNat 0), .ints .i64 (T.x3.set (plV T k).toNat 0), .ints .i64 (T.x4.set (plV T k).toNat 0), .ints .i64 (T.x5.set (plV T k).toNat 0), .ints .u64 (T.x6.set (plV T k).toNat 0)]) (.s (rowLen0 [.ints .u32 T.ks] = rowLen0 [.ints .u32 (T.ks.set (plV T k).toNat 0)]) (.lf (D.agg [i64 T.n, D.oc [.ints .u32 (T.ks.set (plV T k).toNat 0)], D.oc [.ints .i64 (T.x1.set (plV T k).toNat 0), .ints .i64 (T.x2.set (plV T k).toNat 0), .ints .i64 (T.x3.set (plV T k).toNat 0), .ints .i64 (T.x4.set (plV T k).toNat 0), .ints .i64 (T.x5.set (plV T k).toNat 0), .ints .u64 (T.x6.set (plV T k).toNat 0)], D.oc [.ints .i64 (dd6_c2 T k)], D.oc [.bools (dd6_c3 T k)], i64 (if gvO T.nx T.us T.fr (plV T k) then plV T k else 0), D.oc [.ints .u32 (dd6_c4 T k), .ints .i64 (dd6_c5 T k), .bools (dd6_c6 T k)], D.oc [.ints .i64 (dd6_c0 T k)], D.oc [.ints .i64 (dd6_c1 T k)], i64 (if rmO T.ps T.no T.h T.t (plV T k) then rmH T.ps T.no T.h (plV T k) else 0), i64 (if rmO T.ps T.no T.h T.t (plV T k) then rmT T.ps T.no T.t (plV T k) else 0)]))))))))))))))))))))))))))
theorem dd6_L (T : Tb) (k : Int) : Leaves (fun l => fnX Try.prog (X21) 100000 l 54 [T.d, u32 k]) (dd6_T T k) [] [] := by show _ = _; kernel_rfl
theorem dd6_calls (T : Tb) (k : Int) (res : D) (h0 : At (fun r => res = r) (dd6_T T k) [] True) : CallsD Try.prog 54 [T.d, u32 k] res := tree_calls (hX21) (dd6_L T k) h0
def dd6S (T : Tb) (k : Int) : Prop := okT T ∧ inU k ∧ tcV T = 0 ∧ 0 ≤ plV T k
theorem dd6_ok (T : Tb) (k : Int) (h : dd6S T k) : CallsD Try.prog 54 [T.d, u32 k] (T.without k (plV T k).toNat).o := by
 obtain ⟨ho, hk, c, hp⟩ := h
 obtain ⟨L, F, v⟩ := tc_inv ho c
 have ho' := ho
 obtain ⟨d8, _, _, d1, d2, d3, d4, d5, d6, d7⟩ := ho'
 have lens := okT_lens ho v
 rcases inv_pl v hk with ⟨i, ep, hi, hu, ek⟩ | ⟨ep, hn⟩
 ·have lc := or_lc v.od
  have tm : (i : Int) ∈ L := by have := v.us i hi; rw [hu] at this; simpa using this.symm
  have ps6 : (T.ps.length : Int) = T.n := v.sz.2.2.2.2.2
  have nx5 : (T.nx.length : Int) = T.n := v.sz.2.2.2.2.1
  have hrm : rmO T.ps T.no T.h T.t i := ⟨lc, ⟨by omega, by omega⟩, (or_mem v.od (by omega) (by omega)).2 tm⟩
  have hgv : gvO T.nx T.us T.fr i := ⟨ar_ak v.ar, by omega, by omega, by rw [Int.toNat_natCast]; exact hu⟩
  have hdp : dpO T.kx T.px T.ux k := by
   obtain ⟨j, hj, uj, e1, e2⟩ := inv_cell v hi hu
   refine ⟨ix_pc v.ix, ?_⟩
   have := ix_at v.ix hj uj
   rw [e1, ek] at this
   rw [this]; exact uj
  have tws : twS T := ⟨d6, d4, d1, d2, d5, d7, d3⟩
  have a6s : a6S T k := ⟨ho, hk, c⟩
  refine dd6_calls T k _ ?_ <;> dsimp only [At, Tr.q, dd6_T]
  simp only [dd6_c0, dd6_c1, dd6_c2, dd6_c3, dd6_c4, dd6_c5, dd6_c6, ep, if_pos hrm, if_pos hgv, if_pos hdp]
  refine ⟨?_, rfl⟩
  (repeat' (first | assumption | apply And.intro)) <;> first | exact trivial | rfl | ((try refine @decide_eq_true _ _ ?_); first | omega | (simp only [rowLen0, Col0.len, List.length_set, Int.toNat_natCast] <;> omega))
 ·omega
def dd6C : List D → Option (D × List Prop) := conTK fun T k => ((T.without k (plV T k).toNat).o, [dd6S T k])
theorem dd6C_ok (args res l) (h : dd6C args = some (res, l)) (hl : AllP l) : CallsD Try.prog 54 args res := conTK_ok (f := fun T k => ((T.without k (plV T k).toNat).o, [dd6S T k])) (fun T k h => dd6_ok T k h.1) args res l h hl
end TableS
end

section
namespace TableS
open Go Go.Dam Go.Proofs
set_option maxRecDepth 1000000
noncomputable def X22 : Contracts := addCon 54 (.call dd6C) X21
theorem hX22 : ConOK Try.prog X22 := addCall_ok dd6C_ok hX21
noncomputable def us6_c0 (T : Tb) := if tkO T.nx T.us T.fr then T.nx.set T.fr.toNat (-1) else []
noncomputable def us6_c1 (T : Tb) := if tkO T.nx T.us T.fr then T.us.set T.fr.toNat true else []
noncomputable def us6_c2 (T : Tb) (b r p : Int) := T.x1.set (if tkO T.nx T.us T.fr then T.fr else 0).toNat (flZ b r p b)
noncomputable def us6_c3 (T : Tb) (b r p : Int) := T.x2.set (if tkO T.nx T.us T.fr then T.fr else 0).toNat (flZ b r p r)
noncomputable def us6_c4 (T : Tb) (b r p : Int) := T.x3.set (if tkO T.nx T.us T.fr then T.fr else 0).toNat (flZ b r p p)
noncomputable def us6_c5 (T : Tb) (b r p : Int) := T.x4.set (if tkO T.nx T.us T.fr then T.fr else 0).toNat (flZ b r p b)
noncomputable def us6_c6 (T : Tb) (b r p a : Int) := T.x6.set (if tkO T.nx T.us T.fr then T.fr else 0).toNat (flZ b r p a)
noncomputable def us6_c7 (T : Tb) := opI .sub .i64 (↑(rowLen0 [.ints .u32 (ltV T)])) 1
noncomputable def us6_c8 (T : Tb) (k : Int) := if toO T.ps T.no T.h T.t (plV T k) then toP T.ps T.no T.h (plV T k) else []
noncomputable def us6_c9 (T : Tb) (k : Int) := if toO T.ps T.no T.h T.t (plV T k) then toN T.ps T.no T.h (plV T k) else []
noncomputable def us6_c10 (T : Tb) := T.without ((ltV T).getD (us6_c7 T).toNat 0) (plV T ((ltV T).getD (us6_c7 T).toNat 0)).toNat
noncomputable def us6_c11 (T : Tb) : Int := if tkO (us6_c10 T).nx (us6_c10 T).us (us6_c10 T).fr then (us6_c10 T).fr else 0
noncomputable def us6_c12 (T : Tb) (k : Int) := if ppO T.kx T.px T.ux k (if tkO T.nx T.us T.fr then T.fr else 0) then T.kx.set (lkI T.kx T.ux k) k else []
noncomputable def us6_c13 (T : Tb) := if tkO (us6_c10 T).nx (us6_c10 T).us (us6_c10 T).fr then (us6_c10 T).nx.set (us6_c10 T).fr.toNat (-1) else []
noncomputable def us6_c14 (T : Tb) := if tkO (us6_c10 T).nx (us6_c10 T).us (us6_c10 T).fr then (us6_c10 T).us.set (us6_c10 T).fr.toNat true else []
noncomputable def us6_c15 (T : Tb) (k : Int) := if ppO T.kx T.px T.ux k (if tkO T.nx T.us T.fr then T.fr else 0) then T.ux.set (lkI T.kx T.ux k) true else []
noncomputable def us6_c16 (T : Tb) (k : Int) := if ppO (us6_c10 T).kx (us6_c10 T).px (us6_c10 T).ux k (us6_c11 T) then (us6_c10 T).kx.set (lkI (us6_c10 T).kx (us6_c10 T).ux k) k else []
noncomputable def us6_c17 (T : Tb) := if toO T.ps T.no T.h T.t (if tkO T.nx T.us T.fr then T.fr else 0) then toP T.ps T.no T.h (if tkO T.nx T.us T.fr then T.fr else 0) else []
noncomputable def us6_c18 (T : Tb) := if toO T.ps T.no T.h T.t (if tkO T.nx T.us T.fr then T.fr else 0) then toN T.ps T.no T.h (if tkO T.nx T.us T.fr then T.fr else 0) else []
noncomputable def us6_c19 (T : Tb) (k : Int) := if ppO (us6_c10 T).kx (us6_c10 T).px (us6_c10 T).ux k (us6_c11 T) then (us6_c10 T).ux.set (lkI (us6_c10 T).kx (us6_c10 T).ux k) true else []
noncomputable def us6_c20 (T : Tb) (k : Int) := if ppO T.kx T.px T.ux k (if tkO T.nx T.us T.fr then T.fr else 0) then T.px.set (lkI T.kx T.ux k) (if tkO T.nx T.us T.fr then T.fr else 0) else []
noncomputable def us6_c21 (T : Tb) (k : Int) := if ppO (us6_c10 T).kx (us6_c10 T).px (us6_c10 T).ux k (us6_c11 T) then (us6_c10 T).px.set (lkI (us6_c10 T).kx (us6_c10 T).ux k) (us6_c11 T) else []
noncomputable def us6_c22 (T : Tb) := if toO (us6_c10 T).ps (us6_c10 T).no (us6_c10 T).h (us6_c10 T).t (us6_c11 T) then toP (us6_c10 T).ps (us6_c10 T).no (us6_c10 T).h (us6_c11 T) else []
noncomputable def us6_c23 (T : Tb) := if toO (us6_c10 T).ps (us6_c10 T).no (us6_c10 T).h (us6_c10 T).t (us6_c11 T) then toN (us6_c10 T).ps (us6_c10 T).no (us6_c10 T).h (us6_c11 T) else []
noncomputable def us6_T (T : Tb) (k : Int) (b : Int) (r : Int) (p : Int) (a : Int) : Tr D := .s (okT T) (.d (cmpI .neq (rcV T) 0) (fun e0 => .s (okT T) (.lf (D.tup [D.agg [i64 0, D.v (Value.slice none 0 0), D.v (Value.slice none 0 0), D.v (Value.slice none 0 0), D.v (Value.slice none 0 0), i64 0, D.v (Value.slice none 0 0), D.v (Value.slice none 0 0), D.v (Value.slice none 0 0), i64 0, i64 0], u32 0, bo false, i64 (rcV T)]))) (fun e0 => .d (cmpI .neq (limV b r p) 0) (fun e1 => .lf (D.tup [D.agg [i64 0, D.v (Value.slice none 0 0), D.v (Value.slice none 0 0), D.v (Value.slice none 0 0), D.v (Value.slice none 0 0), i64 0, D.v (Value.slice none 0 0), D.v (Value.slice none 0 0), D.v (Value.slice none 0 0), i64 0, i64 0], u32 0, bo false, i64 (limV b r p)])) (fun e1 => .s (twS T) (.s (a6S T k) (.d (cmpI .geq (plV T k) 0) (fun e2 => .s (T.no.length ≤ 200) (.q (rowLen0 [.ints .i64 (us6_c9 T k)]) (.q (rowLen0 [.ints .i64 (us6_c8 T k)]) (.q (rowLen0 [.ints .u32 T.kx, .ints .i64 T.px, .bools T.ux]) (.q (rowLen0 [.bools T.us]) (.q (rowLen0 [.ints .i64 T.nx]) (.q (rowLen0 [.ints .i64 T.x1, .ints .i64 T.x2, .ints .i64 T.x3, .ints .i64 T.x4, .ints .i64 T.x5, .ints .u64 T.x6]) (.q (rowLen0 [.ints .u32 T.ks]) (.lf (D.tup [D.agg [i64 T.n, D.oc [.ints .u32 T.ks], D.oc [.ints .i64 T.x1, .ints .i64 T.x2, .ints .i64 T.x3, .ints .i64 T.x4, .ints .i64 T.x5, .ints .u64 T.x6], D.oc [.ints .i64 T.nx], D.oc [.bools T.us], i64 T.fr, D.oc [.ints .u32 T.kx, .ints .i64 T.px, .bools T.ux], D.oc [.ints .i64 (us6_c8 T k)], D.oc [.ints .i64 (us6_c9 T k)], i64 (if toO T.ps T.no T.h T.t (plV T k) then plV T k else 0), i64 (if toO T.ps T.no T.h T.t (plV T k) then toT T.ps T.no T.h T.t (plV T k) else 0)], u32 0, bo false, i64 0])))))))))) (fun e2 => .s (T.nx.length ≤ 200) (.d (cmpI .eql (c3U T.nx T.us T.fr) T.n) (fun e3 => .s (ltS T) (.s (decide (opI .sub .i64 (↑(rowLen0 [.ints .u32 (ltV T)])) 1 < ↑(rowLen0 [.ints .u32 (ltV T)])) = true) (.s (decide (0 ≤ opI .sub .i64 (↑(rowLen0 [.ints .u32 (ltV T)])) 1) = true) (.s ((us6_c7 T).toNat < rowLen0 [.ints .u32 (ltV T)]) (.s (dd6S T ((ltV T).getD (us6_c7 T).toNat 0)) (.s ((us6_c10 T).us.length ≤ 200 ∧ (us6_c10 T).nx.length ≤ 200) (.q (rowLen0 [.bools (us6_c10 T).us]) (.q (rowLen0 [.ints .i64 (us6_c10 T).nx]) (.s (decide ((us6_c11 T) < ↑(rowLen0 [.ints .u32 (us6_c10 T).ks])) = true) (.s (decide (0 ≤ if tkO (us6_c10 T).nx (us6_c10 T).us (us6_c10 T).fr then (us6_c10 T).fr else 0) = true) (.s ((Col0.ints .u32 (us6_c10 T).ks).len = rowLen0 [.ints .u32 (us6_c10 T).ks]) (.s ((us6_c11 T).toNat < rowLen0 [.ints .u32 (us6_c10 T).ks]) (.s (decide ((us6_c11 T) < ↑(rowLen0 [.ints .i64 (us6_c10 T).x1, .ints .i64 (us6_c10 T).x2, .ints .i64 (us6_c10 T).x3, .ints .i64 (us6_c10 T).x4, .ints .i64 (us6_c10 T).x5, .ints .u64 (us6_c10 T).x6])) = true) (.s (decide (0 ≤ if tkO (us6_c10 T).nx (us6_c10 T).us (us6_c10 T).fr then (us6_c10 T).fr else 0) = true) (.s ((Col0.ints .u64 (us6_c10 T).x6).len = rowLen0 [.ints .i64 (us6_c10 T).x1, .ints .i64 (us6_c10 T).x2, .ints .i64 (us6_c10 T).x3, .ints .i64 (us6_c10 T).x4, .ints .i64 (us6_c10 T).x5, .ints .u64 (us6_c10 T).x6]) (.s ((Col0.ints .i64 (us6_c10 T).x5).len = rowLen0 [.ints .i64 (us6_c10 T).x1, .ints .i64 (us6_c10 T).x2, .ints .i64 (us6_c10 T).x3, .ints .i64 (us6_c10 T).x4, .ints .i64 (us6_c10 T).x5, .ints .u64 (us6_c10 T).x6]) (.s ((Col0.ints .i64 (us6_c10 T).x4).len = rowLen0 [.ints .i64 (us6_c10 T).x1, .ints .i64 (us6_c10 T).x2, .ints .i64 (us6_c10 T).x3, .ints .i64 (us6_c10 T).x4, .ints .i64 (us6_c10 T).x5, .ints .u64 (us6_c10 T).x6]) (.s ((Col0.ints .i64 (us6_c10 T).x3).len = rowLen0 [.ints .i64 (us6_c10 T).x1, .ints .i64 (us6_c10 T).x2, .ints .i64 (us6_c10 T).x3, .ints .i64 (us6_c10 T).x4, .ints .i64 (us6_c10 T).x5, .ints .u64 (us6_c10 T).x6]) (.s ((Col0.ints .i64 (us6_c10 T).x2).len = rowLen0 [.ints .i64 (us6_c10 T).x1, .ints .i64 (us6_c10 T).x2, .ints .i64 (us6_c10 T).x3, .ints .i64 (us6_c10 T).x4, .ints .i64 (us6_c10 T).x5, .ints .u64 (us6_c10 T).x6]) (.s ((Col0.ints .i64 (us6_c10 T).x1).len = rowLen0 [.ints .i64 (us6_c10 T).x1, .ints .i64 (us6_c10 T).x2, .ints .i64 (us6_c10 T).x3, .ints .i64 (us6_c10 T).x4, .ints .i64 (us6_c10 T).x5, .ints .u64 (us6_c10 T).x6]) (.s ((us6_c11 T).toNat < rowLen0 [.ints .i64 (us6_c10 T).x1, .ints .i64 (us6_c10 T).x2, .ints .i64 (us6_c10 T).x3, .ints .i64 (us6_c10 T).x4, .ints .i64 (us6_c10 T).x5, .ints .u64 (us6_c10 T).x6]) (.s (okI (us6_c10 T).kx ∧ inU k ∧ ccS (us6_c10 T).kx (us6_c10 T).px (us6_c10 T).ux) (.q (rowLen0 [.ints .u32 (us6_c10 T).kx, .ints .i64 (us6_c10 T).px, .bools (us6_c10 T).ux]) (.s ((us6_c10 T).no.length ≤ 200) (.q (rowLen0 [.ints .i64 (us6_c10 T).no]) (.q (rowLen0 [.ints .i64 (us6_c10 T).ps]) (.q (rowLen0 [.ints .i64 (us6_c23 T)]) (.q (rowLen0 [.ints .i64 (us6_c22 T)]) (.q (rowLen0 [.ints .u32 (us6_c16 T k), .ints .i64 (us6_c21 T k), .bools (us6_c19 T k)]) (.q (rowLen0 [.bools (us6_c14 T)]) (.q (rowLen0 [.ints .i64 (us6_c13 T)]) (.s (rowLen0 [.ints .i64 (us6_c10 T).x1, .ints .i64 (us6_c10 T).x2, .ints .i64 (us6_c10 T).x3, .ints .i64 (us6_c10 T).x4, .ints .i64 (us6_c10 T).x5, .ints .u64 (us6_c10 T).x6] = rowLen0 [.ints .i64 ((us6_c10 T).x1.set (us6_c11 T).toNat (flZ b r p b)), .ints .i64 ((us6_c10 T).x2.set (us6_c11 T).toNat (flZ b r p r)), .ints .i64 ((us6_c10 T).x3.set (us6_c11 T).toNat (flZ b r p p)), .ints .i64 ((us6_c10 T).x4.set (us6_c11 T).toNat (flZ b r p b)), .ints .i64 ((us6_c10 T).x5.set (us6_c11 T).toNat 0), .ints .u64 ((us6_c10 T).x6.set (us6_c11 T).toNat (flZ b r p a))]) (.s (rowLen0 [.ints .u32 (us6_c10 T).ks] = rowLen0 [.ints .u32 ((us6_c10 T).ks.set (us6_c11 T).toNat k)]) (.lf (D.tup [D.agg [i64 (us6_c10 T).n, D.oc [.ints .u32 ((us6_c10 T).ks.set (us6_c11 T).toNat k)], D.oc [.ints .i64 ((us6_c10 T).x1.set (us6_c11 T).toNat (flZ b r p b)), .ints .i64 ((us6_c10 T).x2.set (us6_c11 T).toNat (flZ b r p r)), .ints .i64 ((us6_c10 T).x3.set (us6_c11 T).toNat (flZ b r p p)), .ints .i64 ((us6_c10 T).x4.set (us6_c11 T).toNat (flZ b r p b)), .ints .i64 ((us6_c10 T).x5.set (us6_c11 T).toNat 0), .ints .u64 ((us6_c10 T).x6.set (us6_c11 T).toNat (flZ b r p a))], D.oc [.ints .i64 (us6_c13 T)], D.oc [.bools (us6_c14 T)], i64 (if tkO (us6_c10 T).nx (us6_c10 T).us (us6_c10 T).fr then (us6_c10 T).nx.getD (us6_c10 T).fr.toNat 0 else 0), D.oc [.ints .u32 (us6_c16 T k), .ints .i64 (us6_c21 T k), .bools (us6_c19 T k)], D.oc [.ints .i64 (us6_c22 T)], D.oc [.ints .i64 (us6_c23 T)], i64 (if toO (us6_c10 T).ps (us6_c10 T).no (us6_c10 T).h (us6_c10 T).t (us6_c11 T) then if tkO (us6_c10 T).nx (us6_c10 T).us (us6_c10 T).fr then (us6_c10 T).fr else 0 else 0), i64 (if toO (us6_c10 T).ps (us6_c10 T).no (us6_c10 T).h (us6_c10 T).t (us6_c11 T) then toT (us6_c10 T).ps (us6_c10 T).no (us6_c10 T).h (us6_c10 T).t (us6_c11 T) else 0)], u32 ((ltV T).getD (us6_c7 T).toNat 0), bo true, i64 0]))))))))))))))))))))))))))))))))))) (fun e3 => .s (T.us.length ≤ 200 ∧ T.nx.length ≤ 200) (.q (rowLen0 [.bools T.us]) (.q (rowLen0 [.ints .i64 T.nx]) (.s (decide ((if tkO T.nx T.us T.fr then T.fr else 0) < ↑(rowLen0 [.ints .u32 T.ks])) = true) (.s (decide (0 ≤ if tkO T.nx T.us T.fr then T.fr else 0) = true) (.s ((Col0.ints .u32 T.ks).len = rowLen0 [.ints .u32 T.ks]) (.s ((if tkO T.nx T.us T.fr then T.fr else 0).toNat < rowLen0 [.ints .u32 T.ks]) (.s (decide ((if tkO T.nx T.us T.fr then T.fr else 0) < ↑(rowLen0 [.ints .i64 T.x1, .ints .i64 T.x2, .ints .i64 T.x3, .ints .i64 T.x4, .ints .i64 T.x5, .ints .u64 T.x6])) = true) (.s (decide (0 ≤ if tkO T.nx T.us T.fr then T.fr else 0) = true) (.s ((Col0.ints .u64 T.x6).len = rowLen0 [.ints .i64 T.x1, .ints .i64 T.x2, .ints .i64 T.x3, .ints .i64 T.x4, .ints .i64 T.x5, .ints .u64 T.x6]) (.s ((Col0.ints .i64 T.x5).len = rowLen0 [.ints .i64 T.x1, .ints .i64 T.x2, .ints .i64 T.x3, .ints .i64 T.x4, .ints .i64 T.x5, .ints .u64 T.x6]) (.s ((Col0.ints .i64 T.x4).len = rowLen0 [.ints .i64 T.x1, .ints .i64 T.x2, .ints .i64 T.x3, .ints .i64 T.x4, .ints .i64 T.x5, .ints .u64 T.x6]) (.s ((Col0.ints .i64 T.x3).len = rowLen0 [.ints .i64 T.x1, .ints .i64 T.x2, .ints .i64 T.x3, .ints .i64 T.x4, .ints .i64 T.x5, .ints .u64 T.x6]) (.s ((Col0.ints .i64 T.x2).len = rowLen0 [.ints .i64 T.x1, .ints .i64 T.x2, .ints .i64 T.x3, .ints .i64 T.x4, .ints .i64 T.x5, .ints .u64 T.x6]) (.s ((Col0.ints .i64 T.x1).len = rowLen0 [.ints .i64 T.x1, .ints .i64 T.x2, .ints .i64 T.x3, .ints .i64 T.x4, .ints .i64 T.x5, .ints .u64 T.x6]) (.s ((if tkO T.nx T.us T.fr then T.fr else 0).toNat < rowLen0 [.ints .i64 T.x1, .ints .i64 T.x2, .ints .i64 T.x3, .ints .i64 T.x4, .ints .i64 T.x5, .ints .u64 T.x6]) (.s (okI T.kx ∧ inU k ∧ ccS T.kx T.px T.ux) (.q (rowLen0 [.ints .u32 T.kx, .ints .i64 T.px, .bools T.ux]) (.s (T.no.length ≤ 200) (.q (rowLen0 [.ints .i64 T.no]) (.q (rowLen0 [.ints .i64 T.ps]) (.q (rowLen0 [.ints .i64 (us6_c18 T)]) (.q (rowLen0 [.ints .i64 (us6_c17 T)]) (.q (rowLen0 [.ints .u32 (us6_c12 T k), .ints .i64 (us6_c20 T k), .bools (us6_c15 T k)]) (.q (rowLen0 [.bools (us6_c1 T)]) (.q (rowLen0 [.ints .i64 (us6_c0 T)]) (.s (rowLen0 [.ints .i64 T.x1, .ints .i64 T.x2, .ints .i64 T.x3, .ints .i64 T.x4, .ints .i64 T.x5, .ints .u64 T.x6] = rowLen0 [.ints .i64 (us6_c2 T b r p), .ints .i64 (us6_c3 T b r p), .ints .i64 (us6_c4 T b r p), .ints .i64 (us6_c5 T b r p), .ints .i64 (T.x5.set (if tkO T.nx T.us T.fr then T.fr else 0).toNat 0), .ints .u64 (us6_c6 T b r p a)]) (.s (rowLen0 [.ints .u32 T.ks] = rowLen0 [.ints .u32 (T.ks.set (if tkO T.nx T.us T.fr then T.fr else 0).toNat k)]) (.lf (D.tup [D.agg [i64 T.n, D.oc [.ints .u32 (T.ks.set (if tkO T.nx T.us T.fr then T.fr else 0).toNat k)], D.oc [.ints .i64 (us6_c2 T b r p), .ints .i64 (us6_c3 T b r p), .ints .i64 (us6_c4 T b r p), .ints .i64 (us6_c5 T b r p), .ints .i64 (T.x5.set (if tkO T.nx T.us T.fr then T.fr else 0).toNat 0), .ints .u64 (us6_c6 T b r p a)], D.oc [.ints .i64 (us6_c0 T)], D.oc [.bools (us6_c1 T)], i64 (if tkO T.nx T.us T.fr then T.nx.getD T.fr.toNat 0 else 0), D.oc [.ints .u32 (us6_c12 T k), .ints .i64 (us6_c20 T k), .bools (us6_c15 T k)], D.oc [.ints .i64 (us6_c17 T)], D.oc [.ints .i64 (us6_c18 T)], i64 (if toO T.ps T.no T.h T.t (if tkO T.nx T.us T.fr then T.fr else 0) then if tkO T.nx T.us T.fr then T.fr else 0 else 0), i64 (if toO T.ps T.no T.h T.t (if tkO T.nx T.us T.fr then T.fr else 0) then toT T.ps T.no T.h T.t (if tkO T.nx T.us T.fr then T.fr else 0) else 0)], u32 0, bo false, i64 0])))))))))))))))))))))))))))))))))))))
theorem us6_L (T : Tb) (k b r p a : Int) : Leaves (fun l => fnX Try.prog (X22) 100000 l 15 [T.d, u32 k, D.agg [i64 b, i64 r, i64 p], u64 a]) (us6_T T k b r p a) [] [] := by refine ⟨fun _ => ?_, fun _ => ⟨fun _ => ?_, fun _ => ⟨fun _ => ?_, fun _ => ⟨fun _ => ?_, fun _ => ?_⟩⟩⟩⟩ <;> (show _ = _; kernel_rfl)
theorem us6_calls (T : Tb) (k b r p a : Int) (res : D) (h0 : At (fun r => res = r) (us6_T T k b r p a) [true] True) (h1 : At (fun r => res = r) (us6_T T k b r p a) [false, true] True) (h2 : At (fun r => res = r) (us6_T T k b r p a) [false, false, true] True) (h3 : At (fun r => res = r) (us6_T T k b r p a) [false, false, false, true] True) (h4 : At (fun r => res = r) (us6_T T k b r p a) [false, false, false, false] True) : CallsD Try.prog 15 [T.d, u32 k, D.agg [i64 b, i64 r, i64 p], u64 a] res := tree_calls (hX22) (us6_L T k b r p a) ⟨fun e0 => h0 e0, fun e0 => ⟨fun e1 => h1 e0 e1, fun e1 => ⟨fun e2 => h2 e0 e1 e2, fun e2 => ⟨fun e3 => h3 e0 e1 e2 e3, fun e3 => h4 e0 e1 e2 e3⟩⟩⟩⟩
end TableS
end

section
namespace TableS
open Go Go.Dam Go.Proofs
set_option maxRecDepth 1000000
/-! The reference's Use is the code's. -/
theorem c3U_inv {T : Tb} {L F : List Int} (v : Inv T L F) : c3U T.nx T.us T.fr = T.n ↔ T.fr = -1 := by
 have ak := ar_ak v.ar
 have hF := (seg_chL v.ar.2.2.2.2.1 (ar_okL v.ar)).1
 have ul := inv_us_len v
 unfold c3U
 rw [if_pos ak, hF, ul]
 constructor
 ·intro e
  have : F.length = 0 := by omega
  have eF : F = [] := List.length_eq_zero_iff.1 this
  have := v.ar.2.2.2.2.1
  rw [eF] at this
  exact this
 ·intro e
  have := (inv_last v e).1
  rw [this]; simp
theorem us6_ok (T : Tb) (k b r p a : Int) (h : okT T ∧ inU k) : CallsD Try.prog 15 [T.d, u32 k, .agg [i64 b, i64 r, i64 p], u64 a] (.tup [(usR T k b r p a).o, u32 (usG T k b r p), bo (decide (usW T k b r p)), i64 (usE T b r p)]) := by
 obtain ⟨ho, hk⟩ := h
 have er := tc_eq_rc ho
 by_cases c : tcV T = 0 ∧ limV b r p = 0
 ·obtain ⟨c1, c2⟩ := c
  have f1 : cmpI .neq (rcV T) 0 = false := by rw [neq_f, ← er]; exact c1
  have f2 : cmpI .neq (limV b r p) 0 = false := by rw [neq_f]; exact c2
  obtain ⟨L, F, v⟩ := tc_inv ho c1
  have hE : usE T b r p = 0 := by unfold usE; rw [if_pos c1]; exact c2
  have ho' := ho
  obtain ⟨d8, _, _, d1, d2, d3, d4, d5, d6, d7⟩ := ho'
  have lens := okT_lens ho v
  have lk := v.ix.1.1
  have tws : twS T := ⟨d6, d4, d1, d2, d5, d7, d3⟩
  have a6s : a6S T k := ⟨ho, hk, c1⟩
  have z : ∀ x, flZ b r p x = x := fun x => by unfold flZ; rw [if_pos c2]
  rcases inv_pl v hk with ⟨i, ep, hi, hu, ek⟩ | ⟨ep, hn⟩
  ·have c3 : ¬ plV T k < 0 := by omega
   have f3 : cmpI .geq (plV T k) 0 = true := by rw [geq_t]; omega
   have hW : ¬ usW T k b r p := fun n => c3 n.2.2.1
   have hT : toO T.ps T.no T.h T.t (plV T k) := ⟨or_lc v.od, by omega, by have := v.sz.2.2.2.2.2; omega⟩
   have eR : usR T k b r p a = T.touch (plV T k) := by unfold usR; rw [if_pos ⟨c1, c2⟩, if_neg c3]
   unfold usG
   rw [hE, eR, if_neg hW, decide_eq_false hW]
   refine us6_calls T k b r p a _ ?_ ?_ ?_ ?_ ?_ <;> dsimp only [At, Tr.q, us6_T]
   all_goals simp only [f1, f2, f3, reduceCtorEq, false_implies, true_implies, implies_true, forall_const, true_and, and_true, us6_c8, us6_c9, if_pos hT]
   exact ⟨⟨d3, a6s, tws, ho⟩, rfl⟩
  ·by_cases c4 : T.fr = -1
   ·have hW : usW T k b r p := ⟨c1, c2, by omega, c4⟩
    have f3 : cmpI .geq (plV T k) 0 = false := by rw [geq_f]; omega
    have f4 : cmpI .eql (c3U T.nx T.us T.fr) T.n = true := by rw [eql_t]; exact (c3U_inv v).2 c4
    obtain ⟨v1, ho1⟩ := less_inv ho v c4
    have hn1 := less_no ho v c4 hn
    obtain ⟨hF, i, A, ei, eA, hi, hu⟩ := inv_last v c4
    have et : T.t.toNat = i := by omega
    have hg : inU (T.ks.getD i 0) := ho.2.1 i (by omega)
    obtain ⟨g1, g2, g3, g4, g5, g6⟩ := plus_side ho1 v1 hk (by show ((T.t.toNat : Nat) : Int) ≠ -1; omega) hn1
    have eR : usR T k b r p a = T.less.plus k b r p a := by unfold usR; rw [if_pos ⟨c1, c2⟩, if_pos (by omega), if_pos c4]
    have hpl : plV T (T.ks.getD i 0) = i := by
     obtain ⟨e1, e2⟩ := inv_has v hg hi hu rfl
     unfold plV; rw [if_pos e1, e2]
    obtain ⟨lt1, lt2⟩ := inv_lt v
    have hlen : (ltV T).length = A.length + 1 := by rw [lt2, eA]; simp
    have hA : A.length ≤ 100 := by
     have := okL_len (or_okL v.od)
     have := v.od.2.2.1
     have := v.sz.2.1
     have := v.sz.2.2.2.2.2
     have : L.length = A.length + 1 := by rw [eA]; simp
     omega
    have e7 : us6_c7 T = (A.length : Int) := by
     show opI .sub .i64 ((ltV T).length : Int) 1 = _
     rw [hlen, opI_sub, wrap_i64_of (by omega) (by omega)]; omega
    have eg : (ltV T).getD (us6_c7 T).toNat 0 = T.ks.getD i 0 := by
     rw [e7, lt2, eA, Int.toNat_natCast, List.getD_eq_getElem?_getD]
     simp [et]
    have e10 : us6_c10 T = T.less := by
     unfold us6_c10; rw [eg, hpl]; unfold Tb.less; rw [et, Int.toNat_natCast]
    have dd : dd6S T (T.ks.getD i 0) := ⟨ho, hg, c1, by omega⟩
    have e7' : opI .sub .i64 ((rowLen0 [.ints .u32 (ltV T)] : Nat) : Int) 1 = (A.length : Int) := e7
    have eg2 : (ltV T).getD A.length 0 = T.ks.getD i 0 := by rw [← eg, e7, Int.toNat_natCast]
    have e12 : opI .sub .i64 ((A.length + 1 : Nat) : Int) 1 = (A.length : Int) := by rw [opI_sub, wrap_i64_of (by omega) (by omega)]; omega
    have e11 : (rowLen0 [.ints .u32 (ltV T)] : Nat) = A.length + 1 := hlen
    have lens1 := okT_lens ho1 v1
    have qk : T.less.n = T.n := rfl
    obtain ⟨o8, _, _, o1, o2, o3, o4, o5, o6, o7⟩ := ho1
    have b1 : decide (0 ≤ (A.length : Int)) = true := decide_eq_true (by omega)
    have b2 : decide ((A.length : Int) < ((A.length + 1 : Nat) : Int)) = true := decide_eq_true (by omega)
    unfold usG
    rw [hE, eR, if_pos hW, decide_eq_true hW]
    refine us6_calls T k b r p a _ ?_ ?_ ?_ ?_ ?_ <;> dsimp only [At, Tr.q, us6_T]
    all_goals simp only [f1, f2, f3, f4, reduceCtorEq, false_implies, true_implies, implies_true, forall_const, true_and, and_true, us6_c11, us6_c13, us6_c14, us6_c16, us6_c19, us6_c21, us6_c22, us6_c23, e10, e7, eg2, e12, e11, Int.toNat_natCast, et, if_pos g1, if_pos g3, if_pos g4, z]
    refine ⟨?_, rfl⟩
    (repeat' (first | assumption | apply And.intro)) <;> first | exact trivial | rfl | ((try refine @decide_eq_true _ _ ?_); first | omega | (simp only [rowLen0, Col0.len, List.length_set] <;> omega))
   ·have hW : ¬ usW T k b r p := fun n => c4 n.2.2.2
    have f3 : cmpI .geq (plV T k) 0 = false := by rw [geq_f]; omega
    have f4 : cmpI .eql (c3U T.nx T.us T.fr) T.n = false := by rw [eql_f]; exact fun e => c4 ((c3U_inv v).1 e)
    obtain ⟨g1, g2, g3, g4, g5, g6⟩ := plus_side ho v hk c4 hn
    have eR : usR T k b r p a = T.plus k b r p a := by unfold usR; rw [if_pos ⟨c1, c2⟩, if_pos (by omega), if_neg c4]
    unfold usG
    rw [hE, eR, if_neg hW, decide_eq_false hW]
    refine us6_calls T k b r p a _ ?_ ?_ ?_ ?_ ?_ <;> dsimp only [At, Tr.q, us6_T]
    all_goals simp only [f1, f2, f3, f4, reduceCtorEq, false_implies, true_implies, implies_true, forall_const, true_and, and_true, us6_c0, us6_c1, us6_c2, us6_c3, us6_c4, us6_c5, us6_c6, us6_c12, us6_c15, us6_c17, us6_c18, us6_c20, if_pos g1, if_pos g3, if_pos g4, z]
    refine ⟨?_, rfl⟩
    (repeat' (first | assumption | apply And.intro)) <;> first | exact trivial | rfl | ((try refine @decide_eq_true _ _ ?_); first | omega | (simp only [rowLen0, Col0.len, List.length_set] <;> omega))
 ·have hW : ¬ usW T k b r p := fun n => c ⟨n.1, n.2.1⟩
  unfold usR usG
  rw [if_neg c, if_neg hW, decide_eq_false hW]
  refine calls_reads (ReadsNs.tup (.cons nilT (.refl _))) ?_
  unfold usE
  by_cases c1 : tcV T = 0
  ·have f1 : cmpI .neq (rcV T) 0 = false := by rw [neq_f, ← er]; exact c1
   have f2 : cmpI .neq (limV b r p) 0 = true := by rw [neq_t]; exact fun n => c ⟨c1, n⟩
   rw [if_pos c1]
   refine us6_calls T k b r p a _ ?_ ?_ ?_ ?_ ?_ <;> dsimp only [At, Tr.q, us6_T]
   all_goals simp only [f1, f2, reduceCtorEq, false_implies, true_implies, implies_true, forall_const, true_and, and_true]
   all_goals exact ho
  ·have f1 : cmpI .neq (rcV T) 0 = true := by rw [neq_t, ← er]; exact c1
   rw [if_neg c1, er]
   refine us6_calls T k b r p a _ ?_ ?_ ?_ ?_ ?_ <;> dsimp only [At, Tr.q, us6_T]
   all_goals simp only [f1, reduceCtorEq, false_implies, true_implies, implies_true, forall_const, true_and, and_true]
   all_goals exact ⟨ho, ho⟩
end TableS
end

section
namespace TableS
open Go Go.Dam Go.Proofs
set_option maxRecDepth 1000000
theorem us6C_ok (args res l) (h : usC args = some (res, l)) (hl : AllP l) : CallsD Try.prog 15 args res := by
 unfold usC at h; split at h
 ·simp only [Option.some.injEq, Prod.mk.injEq] at h
  obtain ⟨rfl, rfl⟩ := h
  exact us6_ok _ _ _ _ _ _ hl.1
 ·cases h
noncomputable def X23 : Contracts := addCon 15 (.call usC) X22
theorem hX23 : ConOK Try.prog X23 := addCall_ok us6C_ok hX22
end TableS
end

section
namespace TableS
open Go Go.Dam Go.Proofs
set_option maxRecDepth 1000000
/-- A row without elements may be no row. -/
theorem calls_nilRow {P : Program} {f : FuncId} {a : D} {xs : List Int} {res : D} (h0 : xs = []) (h : CallsD P f [a, .rc [.ints .i64 xs]] res) : CallsD P f [a, .v (.slice none 0 0)] res := by
 intro w A vs hv low glo
 refine h w A vs ?_ low glo
 subst h0
 simp only [RepL, RepS] at hv ⊢
 obtain ⟨x, l, rfl, hx, y, l2, rfl, rfl, rfl⟩ := hv
 refine ⟨x, _, rfl, hx, _, [], rfl, ?_, rfl⟩
 refine ⟨none, 0, rfl, fun g => ?_, ?_, fun g => absurd rfl g, fun i j c hi => ?_⟩
 ·cases g
 ·simp [rowLen, Col.len]
 ·simp [rowLen, Col.len] at hi
/-- An order of n places with nothing in it. -/
theorem mdN_ok (n : Int) (h : mdS n []) : CallsD Try.prog 78 [i64 n, .v (.slice none 0 0)] (.agg [oi (mkP n.toNat [] 0), oi (mkN n.toNat [] 0), i64 (mkH [] 0), i64 (mkT [] 0)]) := calls_nilRow rfl (md_ok n [] h)
def mdZ : List D → Option (D × List Prop)
 | [.v (.int .i64 n), .v (.slice none 0 0)] => some ((.agg [oi (mkP n.toNat [] 0), oi (mkN n.toNat [] 0), i64 (mkH [] 0), i64 (mkT [] 0)]), [mdS n []])
 | _ => none
theorem mdZ_ok (args res l) (h : mdZ args = some (res, l)) (hl : AllP l) : CallsD Try.prog 78 args res := by
 unfold mdZ at h; split at h
 ·simp only [Option.some.injEq, Prod.mk.injEq] at h
  obtain ⟨rfl, rfl⟩ := h; obtain ⟨h0, _⟩ := hl
  exact mdN_ok _ h0
 ·cases h
noncomputable def X24 : Contracts := addCon 78 (.call mdZ) X23
theorem hX24 : ConOK Try.prog X24 := addCall_ok mdZ_ok hX23
end TableS
end

section
namespace TableS
open Go Go.Dam Go.Proofs
set_option maxRecDepth 1000000
theorem nw0_p0 (n : Int) : fnX Try.prog (X14) 100000 [.d true, .c 1] 10 [i64 n] = some (D.tup [D.agg [i64 0, D.v (Value.slice none 0 0), D.v (Value.slice none 0 0), D.v (Value.slice none 0 0), D.v (Value.slice none 0 0), i64 0, D.v (Value.slice none 0 0), D.v (Value.slice none 0 0), D.v (Value.slice none 0 0), i64 0, i64 0], i64 2], [cmpI .lss n 1 = true]) := by kernel_rfl
theorem nw0_calls (n : Int) (res : D)
 (e0 : (cmpI .lss n 1) = true)
 (h0 : (True) ∧ res = D.tup [D.agg [i64 0, D.v (Value.slice none 0 0), D.v (Value.slice none 0 0), D.v (Value.slice none 0 0), D.v (Value.slice none 0 0), i64 0, D.v (Value.slice none 0 0), D.v (Value.slice none 0 0), D.v (Value.slice none 0 0), i64 0, i64 0], i64 2]) : CallsD Try.prog 10 [i64 n] res := by
 obtain ⟨_, kr⟩ := h0
 exact of_path (hX14) (nw0_p0 n) ⟨e0, trivial⟩ kr
theorem nw0b_p0 (n : Int) : fnX Try.prog (X14) 100000 [.d false, .c 0, .d true] 10 [i64 n] = some (D.tup [D.agg [i64 0, D.v (Value.slice none 0 0), D.v (Value.slice none 0 0), D.v (Value.slice none 0 0), D.v (Value.slice none 0 0), i64 0, D.v (Value.slice none 0 0), D.v (Value.slice none 0 0), D.v (Value.slice none 0 0), i64 0, i64 0], i64 2], [cmpI .gtr n 8 = true, cmpI .lss n 1 = false]) := by kernel_rfl
theorem nw0b_calls (n : Int) (res : D)
 (e0 : (cmpI .lss n 1) = false)
 (e1 : (cmpI .gtr n 8) = true)
 (h0 : (True) ∧ res = D.tup [D.agg [i64 0, D.v (Value.slice none 0 0), D.v (Value.slice none 0 0), D.v (Value.slice none 0 0), D.v (Value.slice none 0 0), i64 0, D.v (Value.slice none 0 0), D.v (Value.slice none 0 0), D.v (Value.slice none 0 0), i64 0, i64 0], i64 2]) : CallsD Try.prog 10 [i64 n] res := by
 obtain ⟨_, kr⟩ := h0
 exact of_path (hX14) (nw0b_p0 n) ⟨e1, e0, trivial⟩ kr
/-- A new table of n places. -/
def nwX (n : Nat) : List Int := ((List.range (n - 1)).map fun i => ((i + 1 : Nat) : Int)) ++ [-1]
def zr (n : Nat) : List Int := List.replicate n 0
def mr (n : Nat) : List Int := List.replicate n (-1)
def nwT (n : Nat) : Tb := ⟨n, zr n, zr n, zr n, zr n, zr n, zr n, zr n, nwX n, List.replicate n false, 0, zc1, zc1, zc2, mr n, mr n, -1, -1⟩
def owR (cs : List Col0) : D := .ow (rowLen0 cs) cs.length (rowCells0 cs)
def nwD (n : Nat) : D := .tup [.agg [i64 n, owR [.ints .u32 (zr n)], owR [.ints .i64 (zr n), .ints .i64 (zr n), .ints .i64 (zr n), .ints .i64 (zr n), .ints .i64 (zr n), .ints .u64 (zr n)], owR [.ints .i64 (nwX n)], ob (List.replicate n false), i64 0, cco zc1 zc1 zc2, oi (mr n), oi (mr n), i64 (-1), i64 (-1)], i64 0]
def nwP (n : Nat) : List PE := [.c 5, .u, .c (7 + n), .u, .c (n - 1)]
def nwL (n : Nat) : List Prop := [n = n, 16 = 16, n = n, n = n, n = n, n ≤ 200, true = true, (n : Int) = n, ((8 * n : Nat) : Int) ≤ 1099511627776, (n : Int) ≤ 1099511627776, true = true, true = true, true = true, true = true, true = true, true = true, (n : Int) = n, (n : Int) ≤ 1099511627776, (n : Int) ≤ 1099511627776]
theorem nw_all : ∀ n : Nat, 1 ≤ n → n ≤ 8 → fnX Try.prog X14 100000 (nwP n) 10 [i64 n] = some (nwD n, nwL n)
 | 0, h, _ => by omega
 | 1, _, _ => by kernel_rfl
 | 2, _, _ => by kernel_rfl
 | 3, _, _ => by kernel_rfl
 | 4, _, _ => by kernel_rfl
 | 5, _, _ => by kernel_rfl
 | 6, _, _ => by kernel_rfl
 | 7, _, _ => by kernel_rfl
 | 8, _, _ => by kernel_rfl
 | n + 9, _, h => by omega
theorem owR_reads (cs : List Col0) : ReadsN (owR cs) (.oc cs) := fun w A u bl hr => by
 refine ⟨bl, ?_, rfl⟩
 simp only [owR, RepO] at hr ⊢
 exact hr
def nwV (n : Int) : Tb := if 1 ≤ n ∧ n ≤ 8 then nwT n.toNat else t0
def nwE (n : Int) : Int := if 1 ≤ n ∧ n ≤ 8 then 0 else 2
theorem nw_ok2 (n : Int) : CallsD Try.prog 10 [i64 n] (.tup [(nwV n).o, i64 (nwE n)]) := by
 unfold nwV nwE
 by_cases c : 1 ≤ n ∧ n ≤ 8
 ·rw [if_pos c, if_pos c]
  obtain ⟨m, rfl⟩ : ∃ m : Nat, n = m := ⟨n.toNat, by omega⟩
  rw [Int.toNat_natCast]
  refine calls_reads (ReadsNs.tup (.cons (ReadsNs.agg (.cons (.refl _) (.cons (owR_reads _) (.cons (owR_reads _) (.cons (owR_reads _) (.refl _)))))) (.refl _))) ?_
  exact of_path hX14 (nw_all m (by omega) (by omega)) ⟨rfl, rfl, rfl, rfl, rfl, by omega, rfl, rfl, by omega, by omega, rfl, rfl, rfl, rfl, rfl, rfl, rfl, by omega, by omega, trivial⟩ rfl
 ·rw [if_neg c, if_neg c]
  refine calls_reads (ReadsNs.tup (.cons nilT (.refl _))) ?_
  by_cases d : n < 1
  ·exact nw0_calls n _ (by rw [lss_t]; exact d) ⟨trivial, rfl⟩
  ·exact nw0b_calls n _ (by rw [lss_f]; omega) (by rw [gtr_t]; omega) ⟨trivial, rfl⟩
def nwG : List D → Option (D × List Prop)
 | [.v (.int .i64 n)] => some ((.tup [(nwV n).o, i64 (nwE n)]), [])
 | _ => none
theorem nwG_ok (args res l) (h : nwG args = some (res, l)) (hl : AllP l) : CallsD Try.prog 10 args res := by
 unfold nwG at h; split at h
 ·simp only [Option.some.injEq, Prod.mk.injEq] at h
  obtain ⟨rfl, rfl⟩ := h
  exact nw_ok2 _
 ·cases h
end TableS
end

section
namespace TableS
open Go Go.Dam Go.Proofs
set_option maxRecDepth 1000000
theorem n60_p0 (n : Int) : fnX Try.prog (X24) 100000 [.d true, .c 1] 11 [i64 n] = some (D.tup [D.agg [i64 0, D.v (Value.slice none 0 0), D.v (Value.slice none 0 0), D.v (Value.slice none 0 0), D.v (Value.slice none 0 0), i64 0, D.v (Value.slice none 0 0), D.v (Value.slice none 0 0), D.v (Value.slice none 0 0), i64 0, i64 0], i64 2], [cmpI .lss n 1 = true]) := by kernel_rfl
theorem n60_calls (n : Int) (res : D)
 (e0 : (cmpI .lss n 1) = true)
 (h0 : (True) ∧ res = D.tup [D.agg [i64 0, D.v (Value.slice none 0 0), D.v (Value.slice none 0 0), D.v (Value.slice none 0 0), D.v (Value.slice none 0 0), i64 0, D.v (Value.slice none 0 0), D.v (Value.slice none 0 0), D.v (Value.slice none 0 0), i64 0, i64 0], i64 2]) : CallsD Try.prog 11 [i64 n] res := by
 obtain ⟨_, kr⟩ := h0
 exact of_path (hX24) (n60_p0 n) ⟨e0, trivial⟩ kr
theorem n60b_p0 (n : Int) : fnX Try.prog (X24) 100000 [.d false, .c 0, .d true] 11 [i64 n] = some (D.tup [D.agg [i64 0, D.v (Value.slice none 0 0), D.v (Value.slice none 0 0), D.v (Value.slice none 0 0), D.v (Value.slice none 0 0), i64 0, D.v (Value.slice none 0 0), D.v (Value.slice none 0 0), D.v (Value.slice none 0 0), i64 0, i64 0], i64 2], [cmpI .gtr n 8 = true, cmpI .lss n 1 = false]) := by kernel_rfl
theorem n60b_calls (n : Int) (res : D)
 (e0 : (cmpI .lss n 1) = false)
 (e1 : (cmpI .gtr n 8) = true)
 (h0 : (True) ∧ res = D.tup [D.agg [i64 0, D.v (Value.slice none 0 0), D.v (Value.slice none 0 0), D.v (Value.slice none 0 0), D.v (Value.slice none 0 0), i64 0, D.v (Value.slice none 0 0), D.v (Value.slice none 0 0), D.v (Value.slice none 0 0), i64 0, i64 0], i64 2]) : CallsD Try.prog 11 [i64 n] res := by
 obtain ⟨_, kr⟩ := h0
 exact of_path (hX24) (n60b_p0 n) ⟨e1, e0, trivial⟩ kr
def n6D (n : Nat) : D := .tup [.agg [i64 n, owR [.ints .u32 (zr n)], owR [.ints .i64 (zr n), .ints .i64 (zr n), .ints .i64 (zr n), .ints .i64 (zr n), .ints .i64 (zr n), .ints .u64 (zr n)], owR [.ints .i64 (nwX n)], owR [.bools (List.replicate n false)], i64 0, owR [.ints .u32 zc1, .ints .i64 zc1, .bools zc2], oi (mr n), oi (mr n), i64 (-1), i64 (-1)], i64 0]
def n6L (n : Nat) : List Prop := [n = n, n = n, mdS n []]
theorem n6_all : ∀ n : Nat, 1 ≤ n → n ≤ 8 → fnX Try.prog X24 100000 [.c 5, .u, .c (2 * n + 3)] 11 [i64 n] = some (n6D n, n6L n)
 | 0, h, _ => by omega
 | 1, _, _ => by kernel_rfl
 | 2, _, _ => by kernel_rfl
 | 3, _, _ => by kernel_rfl
 | 4, _, _ => by kernel_rfl
 | 5, _, _ => by kernel_rfl
 | 6, _, _ => by kernel_rfl
 | 7, _, _ => by kernel_rfl
 | 8, _, _ => by kernel_rfl
 | n + 9, _, h => by omega
theorem nw6_ok (n : Int) : CallsD Try.prog 11 [i64 n] (.tup [(nwV n).o, i64 (nwE n)]) := by
 unfold nwV nwE
 by_cases c : 1 ≤ n ∧ n ≤ 8
 ·rw [if_pos c, if_pos c]
  obtain ⟨m, rfl⟩ : ∃ m : Nat, n = m := ⟨n.toNat, by omega⟩
  rw [Int.toNat_natCast]
  refine calls_reads (ReadsNs.tup (.cons (ReadsNs.agg (.cons (.refl _) (.cons (owR_reads _) (.cons (owR_reads _) (.cons (owR_reads _) (.cons (owR_reads _) (.cons (.refl _) (.cons (owR_reads _) (.refl _))))))))) (.refl _))) ?_
  exact of_path hX24 (n6_all m (by omega) (by omega)) ⟨rfl, rfl, ⟨by omega, by omega, by simp, by simp⟩, trivial⟩ rfl
 ·rw [if_neg c, if_neg c]
  refine calls_reads (ReadsNs.tup (.cons nilT (.refl _))) ?_
  by_cases d : n < 1
  ·exact n60_calls n _ (by rw [lss_t]; exact d) ⟨trivial, rfl⟩
  ·exact n60b_calls n _ (by rw [lss_f]; omega) (by rw [gtr_t]; omega) ⟨trivial, rfl⟩
theorem n6C_ok (args res l) (h : nwG args = some (res, l)) (hl : AllP l) : CallsD Try.prog 11 args res := by
 unfold nwG at h; split at h
 ·simp only [Option.some.injEq, Prod.mk.injEq] at h
  obtain ⟨rfl, rfl⟩ := h
  exact nw6_ok _
 ·cases h
end TableS
end

section
namespace TableS
open Go Go.Dam Go.Proofs
set_option maxRecDepth 1000000
noncomputable def ky6_T (T : Tb) : Tr D := .s (okT T) (.d (cmpI .neq (rcV T) 0) (fun e0 => .s (okT T) (.lf (D.tup [D.v (Value.slice none 0 0), i64 (rcV T)]))) (fun e0 => .s (ltS T) (.q (rowLen0 [.ints .u32 (ltV T)]) (.lf (D.tup [D.oc [.ints .u32 (ltV T)], i64 0])))))
theorem ky6_L (T : Tb) : Leaves (fun l => fnX Try.prog (X23) 100000 l 13 [T.d]) (ky6_T T) [] [] := by refine ⟨fun _ => ?_, fun _ => ?_⟩ <;> (show _ = _; kernel_rfl)
theorem ky6_calls (T : Tb) (res : D) (h0 : At (fun r => res = r) (ky6_T T) [true] True) (h1 : At (fun r => res = r) (ky6_T T) [false] True) : CallsD Try.prog 13 [T.d] res := tree_calls (hX23) (ky6_L T) ⟨fun e0 => h0 e0, fun e0 => h1 e0⟩
/-! Keys of the reference keeps Keys' contract. -/
theorem ky6_ok (T : Tb) (h : okT T) : CallsD Try.prog 13 [T.d] (.tup [ou (kyV T), i64 (tcV T)]) := by
 have e := tc_eq_rc h
 by_cases c : rcV T = 0
 ·have t : tcV T = 0 := by rw [e]; exact c
  obtain ⟨L, F, v⟩ := tc_inv h t
  have l := inv_lt v
  have k := inv_ky h v
  refine ky6_calls T _ ?_ ?_ <;> dsimp only [At, Tr.q, ky6_T]
  ·intro g; rw [neq_t] at g; exact absurd c g
  ·intro _; exact ⟨⟨l.1, h, trivial⟩, by rw [k, l.2, t]⟩
 ·have t : ¬ tcV T = 0 := by rw [e]; exact c
  have k : kyV T = [] := by unfold kyV; rw [if_neg t]
  rw [k, e]
  refine calls_reads (ReadsNs.tup (.cons (.nil rfl) (.refl _))) ?_
  refine ky6_calls T _ ?_ ?_ <;> dsimp only [At, Tr.q, ky6_T]
  ·intro _; exact ⟨⟨h, h, trivial⟩, rfl⟩
  ·intro g; rw [neq_f] at g; exact absurd g c
def ky6C : List D → Option (D × List Prop) := conT fun T => (.tup [ou (kyV T), i64 (tcV T)], [okT T])
theorem ky6C_ok (args res l) (h : ky6C args = some (res, l)) (hl : AllP l) : CallsD Try.prog 13 args res := conT_ok (f := fun T => (.tup [ou (kyV T), i64 (tcV T)], [okT T])) (fun T h => ky6_ok T h.1) args res l h hl
/-! Same, of equal arguments. -/
noncomputable def s3T (nx : List Int) (us : List Bool) (fr : Int) (o : Bool) (i : Int) : Cs := ⟨TT.of [(2, D.ptr 64 0), (3, D.ptr 96 0), (4, bo o), (5, i64 i)], 66, [], [(64, BX.cells [ri nx, rb us, i64 fr] false), (96, BX.cells [ri nx, rb us, i64 fr] false)], none, 0⟩
noncomputable def s4T (kx px : List Int) (ux : List Bool) (o : Bool) (i : Int) : Cs := ⟨TT.of [(0, cc kx px ux), (1, cc kx px ux), (4, bo o), (5, i64 i)], 26, [], [], none, 0⟩
noncomputable def s3U (nx : List Int) (us : List Bool) (fr : Int) (o : Bool) (i : Int) : Cs := ⟨TT.of [(2, D.ptr 64 0), (3, D.ptr 96 0), (4, bo o), (6, i64 i)], 66, [], [(64, BX.cells [ri nx, rb us, i64 fr] false), (96, BX.cells [ri nx, rb us, i64 fr] false)], none, 0⟩
noncomputable def s6T (T : Tb) (o : Bool) (i : Int) : Cs := ⟨TT.of [(2, D.ptr 64 0), (3, D.ptr 96 0), (4, bo o), (5, i64 i)], 70, [], [(64, T.b), (96, T.b)], none, 0⟩
def s3C : List D → Option (D × List Prop)
 | [.agg [.rc [.ints .i64 n1], .rc [.bools u1], .v (.int .i64 f1)], .agg [.rc [.ints .i64 n2], .rc [.bools u2], .v (.int .i64 f2)]] => some (bo true, [n1 = n2 ∧ u1 = u2 ∧ f1 = f2 ∧ n1.length ≤ 200 ∧ u1.length ≤ 200])
 | _ => none
def s4C : List D → Option (D × List Prop)
 | [.rc [.ints .u32 k1, .ints .i64 p1, .bools u1], .rc [.ints .u32 k2, .ints .i64 p2, .bools u2]] => some (bo true, [k1 = k2 ∧ p1 = p2 ∧ u1 = u2 ∧ k1.length ≤ 200])
 | _ => none
/-- To draw Same by. -/
noncomputable def X25 : Contracts := addCon 58 (.call s3C) (addCon 59 (.call s4C) (addCon 13 (.call ky6C) X23))
end TableS
end
