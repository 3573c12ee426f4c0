/- What the functions compute, and the law. No condition. -/
import Derived.Test.YtakcfkmfiamliaaTaUD
import Derived.Test.YtakcfkmfiamliaaTaVE
set_option linter.unusedSectionVars false
set_option linter.unusedVariables false
set_option linter.unusedSimpArgs false
section
namespace TableS
open Go Go.Dam Go.Proofs
set_option maxRecDepth 1000000
/-- A table without its last key. -/
def Tb.less (T : Tb) : Tb := T.without (T.ks.getD T.t.toNat 0) T.t.toNat
def usW (T : Tb) (k b r p : Int) : Prop := tcV T = 0 ∧ limV b r p = 0 ∧ plV T k < 0 ∧ T.fr = -1
instance (T : Tb) (k b r p : Int) : Decidable (usW T k b r p) := by unfold usW; exact inferInstance
/-- A table after a use; who had to go; the error. -/
def usR (T : Tb) (k b r p a : Int) : Tb := if tcV T = 0 ∧ limV b r p = 0 then (if plV T k < 0 then (if T.fr = -1 then T.less.plus k b r p a else T.plus k b r p a) else T.touch (plV T k)) else t0
def usG (T : Tb) (k b r p : Int) : Int := if usW T k b r p then T.ks.getD T.t.toNat 0 else 0
def usE (T : Tb) (b r p : Int) : Int := if tcV T = 0 then limV b r p else tcV T
theorem inv_pl {T : Tb} {L F : List Int} (v : Inv T L F) {k : Int} (hk : inU k) : (∃ i : Nat, plV T k = i ∧ (i : Int) < T.n ∧ T.us.getD i false = true ∧ T.ks.getD i 0 = k) ∨ (plV T k = -1 ∧ ∀ i : Nat, (i : Int) < T.n → T.us.getD i false = true → T.ks.getD i 0 ≠ k) := by
 unfold plV
 rcases inv_at v k with ⟨i, a, b, c⟩ | h
 ·obtain ⟨e1, e2⟩ := inv_has v hk a b c
  exact .inl ⟨i, by rw [if_pos e1, e2], a, b, c⟩
 ·obtain ⟨e1, _, _⟩ := inv_no v hk h
  exact .inr ⟨by rw [if_neg (by rw [e1]; omega)], h⟩
theorem plus_side {T : Tb} (ho : okT T) {L F : List Int} (v : Inv T L F) {k : Int} (hk : inU k) (hf : T.fr ≠ -1) (hn : ∀ i : Nat, (i : Int) < T.n → T.us.getD i false = true → T.ks.getD i 0 ≠ k) :
  tkO T.nx T.us T.fr ∧ tkE T.nx T.us T.fr = 0 ∧ ppO T.kx T.px T.ux k T.fr ∧ toO T.ps T.no T.h T.t T.fr ∧ 0 ≤ T.fr ∧ T.fr < T.n := by
 obtain ⟨F', eF, f0, f1, _⟩ := ar_take v.ar hf
 have hc := inv_count v
 obtain ⟨s1, s2, s3, s4, s5, s6⟩ := v.sz
 have hl := okL_len (or_okL v.od)
 have hl2 := v.od.2.2.1
 have ak := ar_ak v.ar
 refine ⟨⟨ak, hf⟩, by unfold tkE; rw [if_pos ak, if_neg hf], ⟨ix_pc v.ix, ⟨f0, by omega⟩, (inv_no v hk hn).2.2, by rw [v.ix.1.1]; omega⟩, ⟨or_lc v.od, f0, by omega⟩, f0, by omega⟩
theorem okT_lens {T : Tb} (ho : okT T) {L F : List Int} (v : Inv T L F) : (T.ks.length : Int) = T.n ∧ (T.x1.length : Int) = T.n ∧ (T.x2.length : Int) = T.n ∧ (T.x3.length : Int) = T.n ∧ (T.x4.length : Int) = T.n ∧ (T.x5.length : Int) = T.n ∧ (T.x6.length : Int) = T.n := by
 obtain ⟨s1, s2, s3, s4, s5, s6⟩ := v.sz
 obtain ⟨_, k2, k3, k4, k5, k6⟩ := ho.2.2.2.2.2.2.1
 omega
/-- What goes: the last one. -/
theorem inv_last {T : Tb} {L F : List Int} (v : Inv T L F) (hf : T.fr = -1) : F = [] ∧ ∃ (i : Nat) (A : List Int), T.t = i ∧ L = A ++ [T.t] ∧ (i : Int) < T.n ∧ T.us.getD i false = true := by
 have hF : F = [] := by
  rcases seg_rng v.ar.2.2.2.2.1 with ⟨e, _⟩ | ⟨B, e⟩
  ·exact e
  ·have := (seg_range v.ar.2.2.2.2.1) T.fr (by rw [e]; simp)
   omega
 have hl := inv_full v
 rw [hF] at hl
 simp only [List.length_nil] at hl
 have hne : L ≠ [] := fun e => by
  rw [e] at hl
  have := v.sz.1
  simp only [List.length_nil] at hl
  omega
 obtain ⟨A, eA⟩ := or_tail v.od hne
 obtain ⟨a, b, c⟩ := inv_mem v (x := T.t) (by rw [eA]; simp)
 exact ⟨hF, T.t.toNat, A, by omega, eA, by omega, c⟩
theorem less_inv {T : Tb} (ho : okT T) {L F : List Int} (v : Inv T L F) (hf : T.fr = -1) : Inv T.less (wo L T.t) [T.t] ∧ okT T.less := by
 obtain ⟨hF, i, A, ei, eA, hi, hu⟩ := inv_last v hf
 have et : T.t.toNat = i := by omega
 have hg : inU (T.ks.getD i 0) := ho.2.1 i (by have := v.sz.2.2.1; omega)
 have w := (inv_without ho v hg hi hu rfl).1
 have w2 := okT_without ho v hg hi hu rfl
 unfold Tb.less
 rw [et]
 rw [hF] at w
 rw [ei]
 exact ⟨w, w2⟩
theorem less_no {T : Tb} (ho : okT T) {L F : List Int} (v : Inv T L F) (hf : T.fr = -1) {k : Int} (hn : ∀ i : Nat, (i : Int) < T.n → T.us.getD i false = true → T.ks.getD i 0 ≠ k) :
  ∀ j : Nat, (j : Int) < T.less.n → T.less.us.getD j false = true → T.less.ks.getD j 0 ≠ k := fun j hj u => by
 obtain ⟨hF, i, A, ei, eA, hi, hu⟩ := inv_last v hf
 have ul := inv_us_len v
 have et : T.t.toNat = i := by omega
 change (j : Int) < T.n at hj
 change (T.us.set T.t.toNat false).getD j false = true at u
 show (T.ks.set T.t.toNat 0).getD j 0 ≠ k
 rw [et] at u ⊢
 have q : i ≠ j := fun q => by subst q; rw [getB_set_self (by omega)] at u; cases u
 rw [getB_set_ne q] at u
 rw [getD_set_ne q]
 exact hn j hj u
theorem us_ok (T : Tb) (k b r p a : Int) (h : okT T ∧ inU k) : CallsD Try.prog 14 [T.d, u32 k, .agg [i64 b, i64 r, i64 p], u64 a] (.tup [(usR T k b r p a).o, u32 (usG T k b r p), bo (decide (usW T k b r p)), i64 (usE T b r p)]) := by
 obtain ⟨ho, hk⟩ := h
 by_cases c : tcV T = 0 ∧ limV b r p = 0
 ·obtain ⟨c1, c2⟩ := c
  obtain ⟨L, F, v⟩ := tc_inv ho c1
  have hE : usE T b r p = 0 := by unfold usE; rw [if_pos c1]; exact c2
  have ho' := ho
  obtain ⟨d8, _, _, d1, d2, d3, d4, d5, d6, d7⟩ := ho'
  have lens := okT_lens ho v
  have lk := v.ix.1.1
  rcases inv_pl v hk with ⟨i, ep, hi, hu, ek⟩ | ⟨ep, hn⟩
  ·have c3 : ¬ plV T k < 0 := by omega
   have hW : ¬ usW T k b r p := fun n => c3 n.2.2.1
   have hT : toO T.ps T.no T.h T.t (plV T k) := ⟨or_lc v.od, by omega, by have := v.sz.2.2.2.2.2; omega⟩
   have eR : usR T k b r p a = T.touch (plV T k) := by unfold usR; rw [if_pos ⟨c1, c2⟩, if_neg c3]
   unfold usG
   rw [hE, eR, if_neg hW, decide_eq_false hW]
   refine us_calls T k b r p a _ ?_ ?_ ?_ ?_ ?_ <;> dsimp only [At, Tr.q, us_T]
   ·intro g; rw [neq_t] at g; exact absurd c1 g
   ·intro _ g; rw [neq_t] at g; exact absurd c2 g
   ·intro _ _ g; rw [lss_t] at g; exact absurd g c3
   ·intro _ _ g; rw [lss_t] at g; exact absurd g c3
   ·intro _ _ _
    refine ⟨⟨⟨ho, hk⟩, d3, d7, d5, d2, d1, d4, d6, ho, trivial⟩, ?_⟩
    simp only [us_c10, us_c11, if_pos hT]; rfl
  ·by_cases c4 : T.fr = -1
   ·have hW : usW T k b r p := ⟨c1, c2, by omega, c4⟩
    have hkE : tkE T.nx T.us T.fr ≠ 0 := by unfold tkE; rw [if_pos (ar_ak v.ar), if_pos c4]; omega
    obtain ⟨v1, ho1⟩ := less_inv ho v c4
    have hn1 := less_no ho v c4 hn
    obtain ⟨hF, i, A, ei, eA, hi, hu⟩ := inv_last v c4
    have et : T.t.toNat = i := by omega
    have hg : inU (T.ks.getD i 0) := ho.2.1 i (by omega)
    obtain ⟨g1, g2, g3, g4, g5, g6⟩ := plus_side ho1 v1 hk (by show ((T.t.toNat : Nat) : Int) ≠ -1; omega) hn1
    have lc := or_lc v.od
    have tm : (i : Int) ∈ L := by rw [eA, ei]; simp
    have ps6 : (T.ps.length : Int) = T.n := v.sz.2.2.2.2.2
    have nx5 : (T.nx.length : Int) = T.n := v.sz.2.2.2.2.1
    have eR : usR T k b r p a = T.less.plus k b r p a := by unfold usR; rw [if_pos ⟨c1, c2⟩, if_pos (by omega), if_pos c4]
    unfold usG
    rw [hE, eR, if_pos hW, decide_eq_true hW]
    have hla : laI T.ps T.no T.h T.t = i := by unfold laI; rw [if_pos lc, if_neg (by omega)]; exact ei
    have hpl : plV T (T.ks.getD (i : Int).toNat 0) = i := by
     rw [Int.toNat_natCast]
     obtain ⟨e1, e2⟩ := inv_has v hg hi hu rfl
     unfold plV; rw [if_pos e1, e2]
    have hrm : rmO T.ps T.no T.h T.t i := ⟨lc, ⟨by omega, by omega⟩, (or_mem v.od (by omega) (by omega)).2 tm⟩
    have hgv : gvO T.nx T.us T.fr i := ⟨ar_ak v.ar, by omega, by omega, by rw [Int.toNat_natCast]; exact hu⟩
    have hdp : dpO T.kx T.px T.ux (T.ks.getD (i : Int).toNat 0) := by
     rw [Int.toNat_natCast]
     obtain ⟨j, hj, uj, e1, e2⟩ := inv_cell v hi hu
     refine ⟨ix_pc v.ix, ?_⟩
     have := ix_at v.ix hj uj
     rw [e1] at this
     rw [this]; exact uj
    have hW1 : T.less = T.without (T.ks.getD i 0) i := by unfold Tb.less; rw [et]
    rw [hW1] at g1 g2 g3 g4 g5 g6 v1 ho1 ⊢
    have lens1 := okT_lens ho1 v1
    obtain ⟨o8, _, _, o1, o2, o3, o4, o5, o6, o7⟩ := ho1
    have q3 : us_c3 T = (T.without (T.ks.getD i 0) i).ks := by unfold us_c3; rw [hla, hpl]; rfl
    have q4 : us_c4 T = (T.without (T.ks.getD i 0) i).x1 := by unfold us_c4; rw [hla, hpl]; rfl
    have q5 : us_c5 T = (T.without (T.ks.getD i 0) i).x2 := by unfold us_c5; rw [hla, hpl]; rfl
    have q6 : us_c6 T = (T.without (T.ks.getD i 0) i).x3 := by unfold us_c6; rw [hla, hpl]; rfl
    have q7 : us_c7 T = (T.without (T.ks.getD i 0) i).x4 := by unfold us_c7; rw [hla, hpl]; rfl
    have q8 : us_c8 T = (T.without (T.ks.getD i 0) i).x5 := by unfold us_c8; rw [hla, hpl]; rfl
    have q9 : us_c9 T = (T.without (T.ks.getD i 0) i).x6 := by unfold us_c9; rw [hla, hpl]; rfl
    have q13 : us_c13 T = (T.without (T.ks.getD i 0) i).kx := by unfold us_c13 us_c2; rw [hla, if_pos hdp]; rfl
    have q14 : us_c14 T = (T.without (T.ks.getD i 0) i).px := by unfold us_c14 us_c2; rw [hla, if_pos hdp]; rfl
    have q16 : us_c16 T = (T.without (T.ks.getD i 0) i).ux := by unfold us_c16 us_c2; rw [hla, if_pos hdp]; rfl
    have q17 : us_c17 T = (T.without (T.ks.getD i 0) i).fr := by unfold us_c17; rw [hla, hpl, if_pos hgv]; rfl
    have q21 : us_c21 T = (T.without (T.ks.getD i 0) i).ps := by unfold us_c21; rw [hla, hpl, if_pos hrm]; rfl
    have q22 : us_c22 T = (T.without (T.ks.getD i 0) i).no := by unfold us_c22; rw [hla, hpl, if_pos hrm]; rfl
    have q23 : us_c23 T = (T.without (T.ks.getD i 0) i).nx := by unfold us_c23; rw [hla, hpl, if_pos hgv]; rfl
    have q24 : us_c24 T = (T.without (T.ks.getD i 0) i).h := by unfold us_c24; rw [hla, hpl, if_pos hrm]; rfl
    have q25 : us_c25 T = (T.without (T.ks.getD i 0) i).t := by unfold us_c25; rw [hla, hpl, if_pos hrm]; rfl
    have q26 : us_c26 T = (T.without (T.ks.getD i 0) i).us := by unfold us_c26; rw [hla, hpl, if_pos hgv]; rfl
    have q30 : us_c30 T = (T.without (T.ks.getD i 0) i).fr := by unfold us_c30; rw [q23, q26, q17, hla, hpl, if_pos g1, if_pos hgv]; rfl
    have qf : (T.without (T.ks.getD i 0) i).fr = (i : Int) := rfl
    have hg' : inU (T.ks.getD (i : Int).toNat 0) := by rw [Int.toNat_natCast]; exact hg
    have qk : (T.without (T.ks.getD i 0) i).n = T.n := rfl
    refine us_calls T k b r p a _ ?_ ?_ ?_ ?_ ?_ <;> dsimp only [At, Tr.q, us_T]
    ·intro g; rw [neq_t] at g; exact absurd c1 g
    ·intro _ g; rw [neq_t] at g; exact absurd c2 g
    ·intro _ _ _ _
     simp only [us_c29, us_c27, us_c28, us_c31, us_c32, us_c33, us_c34, us_c35, q3, q4, q5, q6, q7, q8, q9, q13, q14, q16, q17, q21, q22, q23, q24, q25, q26, q30, hla, hpl, if_pos g1, if_pos g3, if_pos g4, if_pos hgv]
     refine ⟨?_, ?_⟩
     ·(repeat' (first | assumption | apply And.intro)) <;> first | exact trivial | rfl | ((try refine @decide_eq_true _ _ ?_); first | omega | (simp only [rowLen0, Col0.len, List.length_set, qf, Int.toNat_natCast] <;> omega))
     ·rw [et, Int.toNat_natCast]; rfl
    ·intro _ _ _ g; rw [neq_f] at g; exact absurd g hkE
    ·intro _ _ g; rw [lss_f] at g; omega
   ·have hW : ¬ usW T k b r p := fun n => c4 n.2.2.2
    obtain ⟨g1, g2, g3, g4, g5, g6⟩ := plus_side ho v hk c4 hn
    have eR : usR T k b r p a = T.plus k b r p a := by unfold usR; rw [if_pos ⟨c1, c2⟩, if_pos (by omega), if_neg c4]
    unfold usG
    rw [hE, eR, if_neg hW, decide_eq_false hW]
    refine us_calls T k b r p a _ ?_ ?_ ?_ ?_ ?_ <;> dsimp only [At, Tr.q, us_T]
    ·intro g; rw [neq_t] at g; exact absurd c1 g
    ·intro _ g; rw [neq_t] at g; exact absurd c2 g
    ·intro _ _ _ g; rw [neq_t] at g; exact absurd g2 g
    ·intro _ _ _ _
     simp only [us_c29, us_c0, us_c1, us_c12, us_c15, us_c18, us_c19, us_c20, if_pos g1, if_pos g3, if_pos g4]
     refine ⟨?_, rfl⟩
     (repeat' (first | assumption | apply And.intro)) <;> first | exact trivial | rfl | ((try refine @decide_eq_true _ _ ?_); first | omega | (simp only [rowLen0, Col0.len, List.length_set] <;> omega))
    ·intro _ _ g; rw [lss_f] at g; omega
 ·have hW : ¬ usW T k b r p := fun n => c ⟨n.1, n.2.1⟩
  unfold usR usG
  rw [if_neg c, if_neg hW, decide_eq_false hW]
  refine calls_reads (ReadsNs.tup (.cons nilT (.refl _))) ?_
  unfold usE
  refine us_calls T k b r p a _ ?_ ?_ ?_ ?_ ?_ <;> dsimp only [At, Tr.q, us_T]
  ·intro g; rw [neq_t] at g; exact ⟨⟨ho, trivial⟩, by rw [if_neg g]⟩
  ·intro g g2; rw [neq_f] at g; exact ⟨⟨ho, trivial⟩, by rw [if_pos g]⟩
  ·intro g g2; rw [neq_f] at g g2; exact absurd ⟨g, g2⟩ c
  ·intro g g2; rw [neq_f] at g g2; exact absurd ⟨g, g2⟩ c
  ·intro g g2; rw [neq_f] at g g2; exact absurd ⟨g, g2⟩ c
noncomputable section
def usC : List D → Option (D × List Prop)
 | [.agg [.v (.int .i64 n), .rc [.ints .u32 ks], .rc [.ints .i64 x1, .ints .i64 x2, .ints .i64 x3, .ints .i64 x4, .ints .i64 x5, .ints .u64 x6], .rc [.ints .i64 nx], .rc [.bools us], .v (.int .i64 fr), .rc [.ints .u32 kx, .ints .i64 px, .bools ux], .rc [.ints .i64 ps], .rc [.ints .i64 no], .v (.int .i64 h), .v (.int .i64 t)], .v (.int .u32 k), .agg [.v (.int .i64 b), .v (.int .i64 r), .v (.int .i64 p)], .v (.int .u64 a)] => some ((.tup [(usR ⟨n, ks, x1, x2, x3, x4, x5, x6, nx, us, fr, kx, px, ux, ps, no, h, t⟩ k b r p a).o, u32 (usG ⟨n, ks, x1, x2, x3, x4, x5, x6, nx, us, fr, kx, px, ux, ps, no, h, t⟩ k b r p), bo (decide (usW ⟨n, ks, x1, x2, x3, x4, x5, x6, nx, us, fr, kx, px, ux, ps, no, h, t⟩ k b r p)), i64 (usE ⟨n, ks, x1, x2, x3, x4, x5, x6, nx, us, fr, kx, px, ux, ps, no, h, t⟩ b r p)]), [okT ⟨n, ks, x1, x2, x3, x4, x5, x6, nx, us, fr, kx, px, ux, ps, no, h, t⟩ ∧ inU k])
 | _ => none
end
theorem usC_ok (args res l) (h : usC args = some (res, l)) (hl : AllP l) : CallsD Try.prog 14 args res := by
 unfold usC at h; split at h
 ·simp only [Option.some.injEq, Prod.mk.injEq] at h
  obtain ⟨rfl, rfl⟩ := h
  exact us_ok _ _ _ _ _ _ hl.1
 ·cases h
noncomputable def X15 : Contracts := addCon 14 (.call usC) X14
theorem hX15 : ConOK Try.prog X15 := addCall_ok usC_ok hX14
end TableS
end

section
namespace TableS
open Go Go.Dam Go.Proofs
set_option maxRecDepth 1000000
noncomputable def fl_T (b : Int) (r : Int) (p : Int) (a : Int) : Tr D := .d (cmpI .neq (limV b r p) 0) (fun e0 => .lf (D.tup [D.agg [i64 0, i64 0, i64 0, i64 0, i64 0, u64 0], i64 (limV b r p)])) (fun e0 => .lf (D.tup [D.agg [i64 b, i64 r, i64 p, i64 b, i64 0, u64 a], i64 0]))
theorem fl_L (b r p a : Int) : Leaves (fun l => fnX Try.prog (X15) 100000 l 33 [D.agg [i64 b, i64 r, i64 p], u64 a]) (fl_T b r p a) [] [] := by refine ⟨fun _ => ?_, fun _ => ?_⟩ <;> (show _ = _; kernel_rfl)
theorem fl_calls (b r p a : Int) (res : D) (h0 : At (fun r => res = r) (fl_T b r p a) [true] True) (h1 : At (fun r => res = r) (fl_T b r p a) [false] True) : CallsD Try.prog 33 [D.agg [i64 b, i64 r, i64 p], u64 a] res := tree_calls (hX15) (fl_L b r p a) ⟨fun e0 => h0 e0, fun e0 => h1 e0⟩
noncomputable def fl3_T (b : Int) (r : Int) (p : Int) (a : Int) : Tr D := .d (cmpI .neq (limV b r p) 0) (fun e0 => .lf (D.tup [D.agg [i64 0, i64 0, i64 0, i64 0, i64 0, u64 0], i64 (limV b r p)])) (fun e0 => .lf (D.tup [D.agg [i64 b, i64 r, i64 p, i64 b, i64 0, u64 a], i64 0]))
theorem fl3_L (b r p a : Int) : Leaves (fun l => fnX Try.prog (X15) 100000 l 56 [D.agg [i64 b, i64 r, i64 p], u64 a]) (fl3_T b r p a) [] [] := by refine ⟨fun _ => ?_, fun _ => ?_⟩ <;> (show _ = _; kernel_rfl)
theorem fl3_calls (b r p a : Int) (res : D) (h0 : At (fun r => res = r) (fl3_T b r p a) [true] True) (h1 : At (fun r => res = r) (fl3_T b r p a) [false] True) : CallsD Try.prog 56 [D.agg [i64 b, i64 r, i64 p], u64 a] res := tree_calls (hX15) (fl3_L b r p a) ⟨fun e0 => h0 e0, fun e0 => h1 e0⟩
/-- A full bucket's numbers. -/
def flZ (b r p x : Int) : Int := if limV b r p = 0 then x else 0
theorem fl_ok (b r p a : Int) : CallsD Try.prog 33 [.agg [i64 b, i64 r, i64 p], u64 a] (.tup [.agg [i64 (flZ b r p b), i64 (flZ b r p r), i64 (flZ b r p p), i64 (flZ b r p b), i64 0, u64 (flZ b r p a)], i64 (limV b r p)]) := by
 unfold flZ
 refine fl_calls b r p a _ ?_ ?_ <;> dsimp only [At, Tr.q, fl_T]
 ·intro g; rw [neq_t] at g; exact ⟨trivial, by simp only [if_neg g]⟩
 ·intro g; rw [neq_f] at g; exact ⟨trivial, by simp only [if_pos g]; rw [g]⟩
theorem fl3_ok (b r p a : Int) : CallsD Try.prog 56 [.agg [i64 b, i64 r, i64 p], u64 a] (.tup [.agg [i64 (flZ b r p b), i64 (flZ b r p r), i64 (flZ b r p p), i64 (flZ b r p b), i64 0, u64 (flZ b r p a)], i64 (limV b r p)]) := by
 unfold flZ
 refine fl3_calls b r p a _ ?_ ?_ <;> dsimp only [At, Tr.q, fl3_T]
 ·intro g; rw [neq_t] at g; exact ⟨trivial, by simp only [if_neg g]⟩
 ·intro g; rw [neq_f] at g; exact ⟨trivial, by simp only [if_pos g]; rw [g]⟩
def flC : List D → Option (D × List Prop)
 | [.agg [.v (.int .i64 b), .v (.int .i64 r), .v (.int .i64 p)], .v (.int .u64 a)] => some ((.tup [.agg [i64 (flZ b r p b), i64 (flZ b r p r), i64 (flZ b r p p), i64 (flZ b r p b), i64 0, u64 (flZ b r p a)], i64 (limV b r p)]), [])
 | _ => none
theorem flC_ok (args res l) (h : flC args = some (res, l)) (hl : AllP l) : CallsD Try.prog 33 args res := by
 unfold flC at h; split at h
 ·simp only [Option.some.injEq, Prod.mk.injEq] at h
  obtain ⟨rfl, rfl⟩ := h
  exact fl_ok _ _ _ _
 ·cases h
theorem fl3C_ok (args res l) (h : flC args = some (res, l)) (hl : AllP l) : CallsD Try.prog 56 args res := by
 unfold flC at h; split at h
 ·simp only [Option.some.injEq, Prod.mk.injEq] at h
  obtain ⟨rfl, rfl⟩ := h
  exact fl3_ok _ _ _ _
 ·cases h
noncomputable section
end
noncomputable def ltT (T : Tb) (m : Nat) (i : Int) (l : List Int) (k : Nat) (out : List Int) : Cs := ⟨TT.of [(1, D.ptr 32 0), (2, D.v (Value.slice none 0 0)), (3, D.sl 320 0 m ⟨1, 0⟩), (5, D.sl 9001 0 k ⟨1, 0⟩), (6, i64 i)], 31, [], [(32, T.b), (320, BX.row [.ints .i64 l] false), (9001, BX.row [.ints .u32 out] false)], none, 0⟩
end TableS
end

section
namespace TableS
open Go Go.Dam Go.Proofs
set_option maxRecDepth 1000000
noncomputable def ltL_T (T : Tb) (m : Nat) (i : Int) (l : List Int) (k : Nat) (out : List Int) : Tr (Ex × Cs) := .d (cmpI .lss i ↑m) (fun e0 => .s (decide (i < ↑m) = true) (.s (decide (0 ≤ i) = true) (.s (i.toNat < l.length) (.s (decide (l.getD i.toNat 0 < ↑(T.ks.length)) = true) (.s (decide (0 ≤ l.getD i.toNat 0) = true) (.s (out.length = out.length) (.s (k = out.length) (.s ((k + 1) * 4 ≤ 17592186044416) (.lf (Ex.normal, (ltT T (m) (opI .add .i64 i 1) (l) (k + 1) (out ++ [T.ks.getD (l.getD i.toNat 0).toNat 0])))))))))))) (fun e0 => .lf (Ex.exit 0, (ltT T (m) (i) (l) (k) (out))))
theorem ltL_L (T : Tb) (m : Nat) (i : Int) (l : List Int) (k : Nat) (out : List Int) : Leaves (roundT Try.prog (X15) 100000 (loopAt Try.prog 30 0) [[1, 2, 3, 5, 6]] [(32, 32), (320, 320), (9001, 9001)] (ltT T m i l k out)) (ltL_T T m i l k out) [] [] := by refine ⟨fun _ => ?_, fun _ => ?_⟩ <;> (show _ = _; kernel_rfl)
theorem ltL_step (T : Tb) (m : Nat) (i : Int) (l : List Int) (k : Nat) (out : List Int) (σ : St) (e : Ex) (h0 : At (RG Try.prog (loopAt Try.prog 30 0) e σ) (ltL_T T m i l k out) [true] True) (h1 : At (RG Try.prog (loopAt Try.prog 30 0) e σ) (ltL_T T m i l k out) [false] True) : Runs Try.prog (CallsD Try.prog) (.rounds (loopAt Try.prog 30 0)) (ltT T m i l k out).abs e σ := tree_rounds (hX15) (ltL_L T m i l k out) ⟨fun e0 => h0 e0, fun e0 => h1 e0⟩
noncomputable def ltF_c0 (T : Tb) := ltT T (rowLen0 [.ints .i64 (chL T.no T.h)]) 0 (chL T.no T.h) 0 []
noncomputable def ltF_c1 (T : Tb) (k : Nat) (i : Int) (out : List Int) := ltT T (rowLen0 [.ints .i64 (chL T.no T.h)]) i (chL T.no T.h) k out
noncomputable def ltF_T (T : Tb) (k : Nat) (i : Int) (out : List Int) : Tr D := .p (.k [Cast.nil 5 9001 1 [.ints .u32 []]]) (.p (.l [[1, 2, 3, 5, 6]] [(32, 32), (320, 320), (9001, 9001)] (ltF_c0 T) (Ex.exit 0) (ltF_c1 T k i out)) (.s (T.no.length ≤ 200) (.s (Runs Try.prog (CallsD Try.prog) (.code (.loop (loopAt Try.prog 30 0))) (ltF_c0 T).abs (Ex.exit 0) (ltF_c1 T k i out).abs) (.k ((ltT T (rowLen0 [.ints .i64 (chL T.no T.h)]) 0 (chL T.no T.h) 0 [] = ltT T (rowLen0 [.ints .i64 (chL T.no T.h)]) 0 (chL T.no T.h) 0 [])) rfl (.s (k = out.length) (.lf (D.oc [.ints .u32 out])))))))
theorem ltF_L (T : Tb) (k : Nat) (i : Int) (out : List Int) : Leaves (fun l => fnX Try.prog (X15) 100000 l 30 [T.d]) (ltF_T T k i out) [] [] := by show _ = _; kernel_rfl
theorem ltF_calls (T : Tb) (k : Nat) (i : Int) (out : List Int) (res : D) (h0 : At (fun r => res = r) (ltF_T T k i out) [] True) : CallsD Try.prog 30 [T.d] res := tree_calls (hX15) (ltF_L T k i out) h0
/-- The keys in the table's order, by the reference. -/
def ltV (T : Tb) : List Int := (chL T.no T.h).map fun i => T.ks.getD i.toNat 0
def ltS (T : Tb) : Prop := T.no.length ≤ 200 ∧ (chL T.no T.h).length ≤ 200 ∧ ∀ x ∈ chL T.no T.h, 0 ≤ x ∧ x < (T.ks.length : Int)
theorem lt_ok (T : Tb) (h : ltS T) : CallsD Try.prog 30 [T.d] (ou (ltV T)) := by
 obtain ⟨h1, h2, h3⟩ := h
 unfold ltV
 refine ltF_calls T (((chL T.no T.h).map fun i => T.ks.getD i.toNat 0)).length (chL T.no T.h).length ((chL T.no T.h).map fun i => T.ks.getD i.toNat 0) _ ?_ <;> dsimp only [At, Tr.q, ltF_T]
 refine ⟨⟨rfl, loop_of_rounds ?_, h1, trivial⟩, rfl⟩
 unfold ltF_c0 ltF_c1
 generalize chL T.no T.h = l at *
 have z := scan_all (P := Try.prog) (F := CallsD Try.prog) (b := loopAt Try.prog 30 0) (fun i => ltT T l.length (i : Int) l ((l.take i).map fun i => T.ks.getD i.toNat 0).length ((l.take i).map fun i => T.ks.getD i.toNat 0)) l.length (fun _ => True) (fun i hi _ σ e hr => ?_)
  (σ := (ltT T l.length l.length l (l.map fun i => T.ks.getD i.toNat 0).length (l.map fun i => T.ks.getD i.toNat 0)).abs) (e := .exit 0) ?_ l.length 0 (by omega) (fun _ _ _ => trivial)
 ·exact z
 ·have hx : l.getD i 0 ∈ l := by rw [List.getD_eq_getElem?_getD, List.getElem?_eq_getElem hi]; exact List.getElem_mem hi
  have hb := h3 _ hx
  refine ltL_step T _ i l _ _ σ e ?_ ?_ <;> dsimp only [At, Tr.q, RG, ltL_T]
  ·intro _
   rw [Int.toNat_natCast, succL hi (by omega)]
   refine ⟨?_, ?_⟩
   ·(repeat' apply And.intro) <;> first | exact trivial | rfl | exact decide_eq_true hb.1 | exact decide_eq_true (by omega) | exact (natLt hi).1 | exact (natLt hi).2 | omega | (rw [List.length_map, List.length_take]; omega)
   ·rw [map_snoc _ l i hi] at hr
    rw [List.length_append] at hr
    exact hr
  ·intro g; rw [lss_f] at g; omega
 ·rw [List.take_length]
  refine ltL_step T _ l.length l _ _ _ _ ?_ ?_ <;> dsimp only [At, Tr.q, RG, ltL_T]
  ·intro g; rw [lss_t] at g; omega
  ·intro _; exact ⟨trivial, rfl, rfl⟩
theorem inv_lt {T : Tb} {L F : List Int} (v : Inv T L F) : ltS T ∧ ltV T = L.map fun i => T.ks.getD i.toNat 0 := by
 have hc := (seg_chL v.od.2.2.2.2.1 (or_okL v.od)).1
 have l1 := okL_len (or_okL v.od)
 have l2 := v.od.2.2.1
 have l3 := v.od.2.1
 unfold ltS ltV
 rw [hc]
 exact ⟨⟨by omega, by omega, fun x hx => ⟨(inv_mem v hx).1, by have := (inv_mem v hx).2.1; have := v.sz.2.2.1; omega⟩⟩, rfl⟩
noncomputable section
def ltC : List D → Option (D × List Prop)
 | [.agg [.v (.int .i64 n), .rc [.ints .u32 ks], .rc [.ints .i64 x1, .ints .i64 x2, .ints .i64 x3, .ints .i64 x4, .ints .i64 x5, .ints .u64 x6], .rc [.ints .i64 nx], .rc [.bools us], .v (.int .i64 fr), .rc [.ints .u32 kx, .ints .i64 px, .bools ux], .rc [.ints .i64 ps], .rc [.ints .i64 no], .v (.int .i64 h), .v (.int .i64 t)]] => some ((ou (ltV ⟨n, ks, x1, x2, x3, x4, x5, x6, nx, us, fr, kx, px, ux, ps, no, h, t⟩)), [ltS ⟨n, ks, x1, x2, x3, x4, x5, x6, nx, us, fr, kx, px, ux, ps, no, h, t⟩])
 | _ => none
end
theorem ltC_ok (args res l) (h : ltC args = some (res, l)) (hl : AllP l) : CallsD Try.prog 30 args res := by
 unfold ltC at h; split at h
 ·simp only [Option.some.injEq, Prod.mk.injEq] at h
  obtain ⟨rfl, rfl⟩ := h
  exact lt_ok _ hl.1
 ·cases h
noncomputable def X18 : Contracts := addCon 33 (.call flC) (addCon 56 (.call flC) (addCon 30 (.call ltC) X15))
theorem hX18 : ConOK Try.prog X18 := addCall_ok flC_ok (addCall_ok fl3C_ok (addCall_ok ltC_ok hX15))
end TableS
end

section
namespace TableS
open Go Go.Dam Go.Proofs
set_option maxRecDepth 1000000
/-! The reference's arenas are the code's. -/
end TableS
end

section
namespace TableS
open Go Go.Dam Go.Proofs
set_option maxRecDepth 1000000
end TableS
end

section
namespace TableS
open Go Go.Dam Go.Proofs
set_option maxRecDepth 1000000
noncomputable def X19 : Contracts := X18
theorem hX19 : ConOK Try.prog X19 := hX18
end TableS
end

section
namespace TableS
open Go Go.Dam Go.Proofs
set_option maxRecDepth 1000000
end TableS
end

section
namespace TableS
open Go Go.Dam Go.Proofs
set_option maxRecDepth 1000000
/-! The reference's orders are the code's. -/
end TableS
end

section
namespace TableS
open Go Go.Dam Go.Proofs
set_option maxRecDepth 1000000
/-! The reference's index is the code's: Put. -/
end TableS
end

section
namespace TableS
open Go Go.Dam Go.Proofs
set_option maxRecDepth 1000000
noncomputable def X20 : Contracts := X19
theorem hX20 : ConOK Try.prog X20 := hX19
end TableS
end

section
namespace TableS
open Go Go.Dam Go.Proofs
set_option maxRecDepth 1000000
end TableS
end

section
namespace TableS
open Go Go.Dam Go.Proofs
set_option maxRecDepth 1000000
end TableS
end

section
namespace TableS
open Go Go.Dam Go.Proofs
set_option maxRecDepth 1000000
/-! The reference's index is the code's: Drop. -/
end TableS
end

section
namespace TableS
open Go Go.Dam Go.Proofs
set_option maxRecDepth 1000000
/-! Where a key is, by the reference. -/
noncomputable def X21 : Contracts := X20
theorem hX21 : ConOK Try.prog X21 := hX20
end TableS
end

section
namespace TableS
open Go Go.Dam Go.Proofs
set_option maxRecDepth 1000000
end TableS
end

section
namespace TableS
open Go Go.Dam Go.Proofs
set_option maxRecDepth 1000000
noncomputable def X22 : Contracts := X21
theorem hX22 : ConOK Try.prog X22 := hX21
end TableS
end

section
namespace TableS
open Go Go.Dam Go.Proofs
set_option maxRecDepth 1000000
/-! The reference's Use is the code's. -/
end TableS
end

section
namespace TableS
open Go Go.Dam Go.Proofs
set_option maxRecDepth 1000000
noncomputable def X23 : Contracts := X22
theorem hX23 : ConOK Try.prog X23 := hX22
end TableS
end

section
namespace TableS
open Go Go.Dam Go.Proofs
set_option maxRecDepth 1000000
end TableS
end

section
namespace TableS
open Go Go.Dam Go.Proofs
set_option maxRecDepth 1000000
theorem nw0_p0 (n : Int) : fnX Try.prog (X14) 100000 [.d true, .c 1] 10 [i64 n] = some (D.tup [D.agg [i64 0, D.v (Value.slice none 0 0), D.v (Value.slice none 0 0), D.v (Value.slice none 0 0), D.v (Value.slice none 0 0), i64 0, D.v (Value.slice none 0 0), D.v (Value.slice none 0 0), D.v (Value.slice none 0 0), i64 0, i64 0], i64 2], [cmpI .lss n 1 = true]) := by kernel_rfl
theorem nw0_calls (n : Int) (res : D)
 (e0 : (cmpI .lss n 1) = true)
 (h0 : (True) ∧ res = D.tup [D.agg [i64 0, D.v (Value.slice none 0 0), D.v (Value.slice none 0 0), D.v (Value.slice none 0 0), D.v (Value.slice none 0 0), i64 0, D.v (Value.slice none 0 0), D.v (Value.slice none 0 0), D.v (Value.slice none 0 0), i64 0, i64 0], i64 2]) : CallsD Try.prog 10 [i64 n] res := by
 obtain ⟨_, kr⟩ := h0
 exact of_path (hX14) (nw0_p0 n) ⟨e0, trivial⟩ kr
theorem nw0b_p0 (n : Int) : fnX Try.prog (X14) 100000 [.d false, .c 0, .d true] 10 [i64 n] = some (D.tup [D.agg [i64 0, D.v (Value.slice none 0 0), D.v (Value.slice none 0 0), D.v (Value.slice none 0 0), D.v (Value.slice none 0 0), i64 0, D.v (Value.slice none 0 0), D.v (Value.slice none 0 0), D.v (Value.slice none 0 0), i64 0, i64 0], i64 2], [cmpI .gtr n 8 = true, cmpI .lss n 1 = false]) := by kernel_rfl
theorem nw0b_calls (n : Int) (res : D)
 (e0 : (cmpI .lss n 1) = false)
 (e1 : (cmpI .gtr n 8) = true)
 (h0 : (True) ∧ res = D.tup [D.agg [i64 0, D.v (Value.slice none 0 0), D.v (Value.slice none 0 0), D.v (Value.slice none 0 0), D.v (Value.slice none 0 0), i64 0, D.v (Value.slice none 0 0), D.v (Value.slice none 0 0), D.v (Value.slice none 0 0), i64 0, i64 0], i64 2]) : CallsD Try.prog 10 [i64 n] res := by
 obtain ⟨_, kr⟩ := h0
 exact of_path (hX14) (nw0b_p0 n) ⟨e1, e0, trivial⟩ kr
/-- A new table of n places. -/
def nwX (n : Nat) : List Int := ((List.range (n - 1)).map fun i => ((i + 1 : Nat) : Int)) ++ [-1]
def zr (n : Nat) : List Int := List.replicate n 0
def mr (n : Nat) : List Int := List.replicate n (-1)
def nwT (n : Nat) : Tb := ⟨n, zr n, zr n, zr n, zr n, zr n, zr n, zr n, nwX n, List.replicate n false, 0, zc1, zc1, zc2, mr n, mr n, -1, -1⟩
def owR (cs : List Col0) : D := .ow (rowLen0 cs) cs.length (rowCells0 cs)
def nwD (n : Nat) : D := .tup [.agg [i64 n, owR [.ints .u32 (zr n)], owR [.ints .i64 (zr n), .ints .i64 (zr n), .ints .i64 (zr n), .ints .i64 (zr n), .ints .i64 (zr n), .ints .u64 (zr n)], owR [.ints .i64 (nwX n)], ob (List.replicate n false), i64 0, cco zc1 zc1 zc2, oi (mr n), oi (mr n), i64 (-1), i64 (-1)], i64 0]
def nwPl (n : Nat) : List PE := [.c 5, .u, .c (7 + n), .u, .c (n - 1)]
def nwL (n : Nat) : List Prop := [n = n, 16 = 16, n = n, n = n, n = n, n ≤ 200] ++ (List.replicate (if n ≤ 1 then 1 else if n ≤ 2 then 3 else if n ≤ 4 then 5 else 7) (true = true) ++ [(n : Int) = n, ((8 * n : Nat) : Int) ≤ 1099511627776, (n : Int) ≤ 1099511627776, true = true, true = true, true = true, true = true, true = true, true = true, (n : Int) = n, (n : Int) ≤ 1099511627776, (n : Int) ≤ 1099511627776])
theorem allP_true : ∀ k, AllP (List.replicate k (true = true))
 | 0 => trivial
 | k + 1 => ⟨rfl, allP_true k⟩
theorem nw_all : ∀ n : Nat, 1 ≤ n → n ≤ 8 → fnX Try.prog X14 100000 (nwPl n) 10 [i64 n] = some (nwD n, nwL n)
 | 0, h, _ => by omega
 | 1, _, _ => by kernel_rfl
 | 2, _, _ => by kernel_rfl
 | 3, _, _ => by kernel_rfl
 | 4, _, _ => by kernel_rfl
 | 5, _, _ => by kernel_rfl
 | 6, _, _ => by kernel_rfl
 | 7, _, _ => by kernel_rfl
 | 8, _, _ => by kernel_rfl
 | n + 9, _, h => by omega
theorem owR_reads (cs : List Col0) : ReadsN (owR cs) (.oc cs) := fun w A u bl hr => by
 refine ⟨bl, ?_, rfl⟩
 simp only [owR, RepO] at hr ⊢
 exact hr
def nwV (n : Int) : Tb := if 1 ≤ n ∧ n ≤ 8 then nwT n.toNat else t0
def nwE (n : Int) : Int := if 1 ≤ n ∧ n ≤ 8 then 0 else 2
theorem nw_ok2 (n : Int) : CallsD Try.prog 10 [i64 n] (.tup [(nwV n).o, i64 (nwE n)]) := by
 unfold nwV nwE
 by_cases c : 1 ≤ n ∧ n ≤ 8
 ·rw [if_pos c, if_pos c]
  obtain ⟨m, rfl⟩ : ∃ m : Nat, n = m := ⟨n.toNat, by omega⟩
  rw [Int.toNat_natCast]
  refine calls_reads (ReadsNs.tup (.cons (ReadsNs.agg (.cons (.refl _) (.cons (owR_reads _) (.cons (owR_reads _) (.cons (owR_reads _) (.refl _)))))) (.refl _))) ?_
  refine of_path hX14 (nw_all m (by omega) (by omega)) ?_ rfl
  unfold nwL
  rw [AllP_append, AllP_append]
  exact ⟨⟨rfl, rfl, rfl, rfl, rfl, by omega, trivial⟩, allP_true _, ⟨rfl, by omega, by omega, rfl, rfl, rfl, rfl, rfl, rfl, rfl, by omega, by omega, trivial⟩⟩
 ·rw [if_neg c, if_neg c]
  refine calls_reads (ReadsNs.tup (.cons nilT (.refl _))) ?_
  by_cases d : n < 1
  ·exact nw0_calls n _ (by rw [lss_t]; exact d) ⟨trivial, rfl⟩
  ·exact nw0b_calls n _ (by rw [lss_f]; omega) (by rw [gtr_t]; omega) ⟨trivial, rfl⟩
def nwG : List D → Option (D × List Prop)
 | [.v (.int .i64 n)] => some ((.tup [(nwV n).o, i64 (nwE n)]), [])
 | _ => none
theorem nwG_ok (args res l) (h : nwG args = some (res, l)) (hl : AllP l) : CallsD Try.prog 10 args res := by
 unfold nwG at h; split at h
 ·simp only [Option.some.injEq, Prod.mk.injEq] at h
  obtain ⟨rfl, rfl⟩ := h
  exact nw_ok2 _
 ·cases h
end TableS
end

section
namespace TableS
open Go Go.Dam Go.Proofs
set_option maxRecDepth 1000000
end TableS
end

section
namespace TableS
open Go Go.Dam Go.Proofs
set_option maxRecDepth 1000000
/-! Keys of the reference keeps Keys' contract. -/
/-! Same, of equal arguments. -/
/-- To draw Same by. -/
noncomputable def X25 : Contracts := X23
end TableS
end

section
namespace TableS
open Go Go.Dam Go.Proofs
set_option maxRecDepth 1000000
theorem hX25 : ConOK Try.prog X25 := hX23
noncomputable def X26 : Contracts := addCon 10 (.call nwG) X25
theorem hX26 : ConOK Try.prog X26 := addCall_ok nwG_ok hX25
end TableS
end

section
namespace TableS
open Go Go.Dam Go.Proofs
set_option maxRecDepth 1000000
noncomputable def nw2_T  : Tr D := .p (.c 5) (.p (.u) (.p (.c 9) (.p (.u) (.p (.c 1) (.s ((2 : Int) ≤ (1099511627776 : Int)) (.s ((2 : Int) ≤ (1099511627776 : Int)) (.q ((2 : Int)) (.q (true) (.q (true) (.q (true) (.q (true) (.q (true) (.q (true) (.s ((2 : Int) ≤ (1099511627776 : Int)) (.s ((16 : Int) ≤ (1099511627776 : Int)) (.q ((2 : Int)) (.q (true) (.q (true) (.q (true) (.s ((2 : Nat) ≤ (200 : Nat)) (.q ((2 : Nat)) (.q ((2 : Nat)) (.q ((2 : Nat)) (.q ((16 : Nat)) (.q ((2 : Nat)) (.lf (D.tup [D.agg [i64 2, D.ow 2 1 [u32 0, u32 0], D.ow 2 6 [i64 0, i64 0, i64 0, i64 0, i64 0, u64 0, i64 0, i64 0, i64 0, i64 0, i64 0, u64 0], D.ow 2 1 [i64 1, i64 (-1)], D.oc [.bools (List.replicate 2 false)], i64 0, D.oc [.ints .u32 zc1, .ints .i64 zc1, .bools zc2], D.oc [.ints .i64 [-1, -1]], D.oc [.ints .i64 [-1, -1]], i64 (-1), i64 (-1)], i64 0])))))))))))))))))))))))))))
theorem nw2_L  : Leaves (fun l => fnX Try.prog (X14) 100000 l 10 [i64 2]) (nw2_T) [] [] := by show _ = _; kernel_rfl
theorem nw2_calls  (res : D) (h0 : At (fun r => res = r) (nw2_T) [] True) : CallsD Try.prog 10 [i64 2] res := tree_calls (hX14) (nw2_L) h0
theorem readsOw {n sz : Nat} {cs : List D} {cols : List Col0} (h1 : n = rowLen0 cols) (h2 : sz = cols.length) (h3 : cs = rowCells0 cols) : ReadsN (.ow n sz cs) (.oc cols) := fun w A u bl hr => by
 subst h1; subst h2; subst h3
 refine ⟨bl, ?_, rfl⟩
 simp only [RepO] at hr ⊢
 exact hr
def tN : Tb := ⟨2, [0, 0], [0, 0], [0, 0], [0, 0], [0, 0], [0, 0], [0, 0], [1, -1], [false, false], 0, zc1, zc1, zc2, [-1, -1], [-1, -1], -1, -1⟩
theorem nw_ok : CallsD Try.prog 10 [i64 2] (.tup [tN.o, i64 0]) := by
 refine calls_reads (ReadsNs.tup (.cons (ReadsNs.agg (.cons (.refl _) (.cons (readsOw rfl rfl rfl) (.cons (readsOw rfl rfl rfl) (.cons (readsOw rfl rfl rfl) (.refl _)))))) (.refl _))) ?_
 exact nw2_calls _ ⟨⟨by omega, by omega, by omega, by omega, by omega, trivial⟩, rfl⟩
end TableS
end

section
namespace TableS
open Go Go.Dam Go.Proofs
set_option maxRecDepth 1000000
def tA : Tb := ⟨2, [5, 0], [10, 0], [1, 0], [2, 0], [10, 0], [0, 0], [0, 0], [-1, -1], [true, false], 1, zc1.set 1 5, zc1, zc2.set 1 true, [-1, -1], [-1, -1], 0, 0⟩
def tBB : Tb := ⟨2, [5, 7], [10, 10], [1, 1], [2, 2], [10, 10], [0, 0], [0, 0], [-1, -1], [true, true], -1, (zc1.set 1 5).set 5 7, zc1.set 5 1, (zc2.set 1 true).set 5 true, [1, -1], [-1, 0], 1, 0⟩
def tC : Tb := ⟨2, [5, 7], [10, 10], [1, 1], [2, 2], [10, 10], [0, 0], [0, 0], [-1, -1], [true, true], -1, (zc1.set 1 5).set 5 7, zc1.set 5 1, (zc2.set 1 true).set 5 true, [-1, 0], [1, -1], 0, 1⟩
def tD : Tb := ⟨2, [5, 9], [10, 10], [1, 1], [2, 2], [10, 10], [0, 0], [0, 2], [-1, -1], [true, true], -1, (zc1.set 1 5).set 8 9, zc1.set 8 1, (zc2.set 1 true).set 8 true, [1, -1], [-1, 0], 1, 0⟩
def tS : Tb := ⟨2, [5, 9], [10, 10], [1, 1], [2, 2], [3, 10], [0, 0], [7, 2], [-1, -1], [true, true], -1, (zc1.set 1 5).set 8 9, zc1.set 8 1, (zc2.set 1 true).set 8 true, [1, -1], [-1, 0], 1, 0⟩
theorem q1 : usR tN 5 10 1 2 0 = tA := by kernel_rfl
theorem q2 : usR tA 7 10 1 2 0 = tBB := by kernel_rfl
theorem q3 : usR tBB 5 10 1 2 1 = tC := by kernel_rfl
theorem q6 : usR tC 9 10 1 2 2 = tD := by kernel_rfl
theorem q7 : seT tD 5 10 1 2 3 0 7 = tS := by kernel_rfl
theorem q8 : kyV tC = [5, 7] := by kernel_rfl
theorem q9 : kyV tS = [9, 5] := by kernel_rfl
theorem okU0 : okT tN := by unfold okT okI inU in64 kcS ccS; decide +kernel
theorem okU1 : okT tA := by unfold okT okI inU in64 kcS ccS; decide +kernel
theorem okU2 : okT tBB := by unfold okT okI inU in64 kcS ccS; decide +kernel
theorem kC : okT tC := by unfold okT okI inU in64 kcS ccS; decide +kernel
/-- A use, or a setting, makes this table. -/
def isU (n : Int) (ks x1 x2 x3 x4 x5 x6 nx : List Int) (us : List Bool) (fr : Int) (kx px : List Int) (ux : List Bool) (ps no : List Int) (h t : Int) (k b r p a : Int) (U : Tb) (g : Int) (v : Bool) : Prop := okT ⟨n, ks, x1, x2, x3, x4, x5, x6, nx, us, fr, kx, px, ux, ps, no, h, t⟩ ∧ inU k ∧ usR ⟨n, ks, x1, x2, x3, x4, x5, x6, nx, us, fr, kx, px, ux, ps, no, h, t⟩ k b r p a = U ∧ usG ⟨n, ks, x1, x2, x3, x4, x5, x6, nx, us, fr, kx, px, ux, ps, no, h, t⟩ k b r p = g ∧ decide (usW ⟨n, ks, x1, x2, x3, x4, x5, x6, nx, us, fr, kx, px, ux, ps, no, h, t⟩ k b r p) = v ∧ usE ⟨n, ks, x1, x2, x3, x4, x5, x6, nx, us, fr, kx, px, ux, ps, no, h, t⟩ b r p = 0
def isS (n : Int) (ks x1 x2 x3 x4 x5 x6 nx : List Int) (us : List Bool) (fr : Int) (kx px : List Int) (ux : List Bool) (ps no : List Int) (h t : Int) (k b r p v q a : Int) (U : Tb) : Prop := (okT ⟨n, ks, x1, x2, x3, x4, x5, x6, nx, us, fr, kx, px, ux, ps, no, h, t⟩ ∧ inU k ∧ in64 v) ∧ seT ⟨n, ks, x1, x2, x3, x4, x5, x6, nx, us, fr, kx, px, ux, ps, no, h, t⟩ k b r p v q a = U ∧ seE ⟨n, ks, x1, x2, x3, x4, x5, x6, nx, us, fr, kx, px, ux, ps, no, h, t⟩ k b r p v q = 0
def nwP (U0 : Tb) : List D → Option (D × List Prop)
 | [.v (.int .i64 n)] => some (.tup [U0.o, i64 0], [n = 2, U0 = tN])
 | _ => none
def usP (U1 U2 U3 U4 : Tb) : List D → Option (D × List Prop)
 | [.agg [.v (.int .i64 n), .rc [.ints .u32 ks], .rc [.ints .i64 x1, .ints .i64 x2, .ints .i64 x3, .ints .i64 x4, .ints .i64 x5, .ints .u64 x6], .rc [.ints .i64 nx], .rc [.bools us], .v (.int .i64 fr), .rc [.ints .u32 kx, .ints .i64 px, .bools ux], .rc [.ints .i64 ps], .rc [.ints .i64 no], .v (.int .i64 h), .v (.int .i64 t)], .v (.int .u32 k), .agg [.v (.int .i64 b), .v (.int .i64 r), .v (.int .i64 p)], .v (.int .u64 a)] =>
  if k = 5 ∧ a = 0 then some (.tup [U1.o, u32 0, bo false, i64 0], [isU n ks x1 x2 x3 x4 x5 x6 nx us fr kx px ux ps no h t k b r p a U1 0 false])
  else if k = 7 then some (.tup [U2.o, u32 0, bo false, i64 0], [isU n ks x1 x2 x3 x4 x5 x6 nx us fr kx px ux ps no h t k b r p a U2 0 false])
  else if k = 5 then some (.tup [U3.o, u32 0, bo false, i64 0], [isU n ks x1 x2 x3 x4 x5 x6 nx us fr kx px ux ps no h t k b r p a U3 0 false])
  else some (.tup [U4.o, u32 7, bo true, i64 0], [isU n ks x1 x2 x3 x4 x5 x6 nx us fr kx px ux ps no h t k b r p a U4 7 true])
 | _ => none
def seP (U5 : Tb) : List D → Option (D × List Prop)
 | [.agg [.v (.int .i64 n), .rc [.ints .u32 ks], .rc [.ints .i64 x1, .ints .i64 x2, .ints .i64 x3, .ints .i64 x4, .ints .i64 x5, .ints .u64 x6], .rc [.ints .i64 nx], .rc [.bools us], .v (.int .i64 fr), .rc [.ints .u32 kx, .ints .i64 px, .bools ux], .rc [.ints .i64 ps], .rc [.ints .i64 no], .v (.int .i64 h), .v (.int .i64 t)], .v (.int .u32 k), .agg [.v (.int .i64 b), .v (.int .i64 r), .v (.int .i64 p), .v (.int .i64 v), .v (.int .i64 q), .v (.int .u64 a)]] => some (.tup [U5.o, i64 0], [isS n ks x1 x2 x3 x4 x5 x6 nx us fr kx px ux ps no h t k b r p v q a U5])
 | _ => none
theorem isU_ok {T : Tb} {k b r p a : Int} {U : Tb} {g : Int} {v : Bool} (h : isU T.n T.ks T.x1 T.x2 T.x3 T.x4 T.x5 T.x6 T.nx T.us T.fr T.kx T.px T.ux T.ps T.no T.h T.t k b r p a U g v) : CallsD Try.prog 14 [T.d, u32 k, .agg [i64 b, i64 r, i64 p], u64 a] (.tup [U.o, u32 g, bo v, i64 0]) := by
 obtain ⟨h1, h2, h3, h4, h5, h6⟩ := h
 have := us_ok T k b r p a ⟨h1, h2⟩
 rw [show usR T k b r p a = U from h3, show usG T k b r p = g from h4, show decide (usW T k b r p) = v from h5, show usE T b r p = 0 from h6] at this
 exact this
theorem nwP_ok (U0 : Tb) (args res l) (h : nwP U0 args = some (res, l)) (hl : AllP l) : CallsD Try.prog 10 args res := by
 unfold nwP at h; split at h
 ·simp only [Option.some.injEq, Prod.mk.injEq] at h
  obtain ⟨rfl, rfl⟩ := h
  obtain ⟨rfl, rfl, _⟩ := hl
  exact nw_ok
 ·cases h
theorem usP_ok (U1 U2 U3 U4 : Tb) (args res l) (h : usP U1 U2 U3 U4 args = some (res, l)) (hl : AllP l) : CallsD Try.prog 14 args res := by
 unfold usP at h; split at h
 next n ks x1 x2 x3 x4 x5 x6 nx us fr kx px ux ps no h' t k b r p a =>
  have key := fun U g v => @isU_ok ⟨n, ks, x1, x2, x3, x4, x5, x6, nx, us, fr, kx, px, ux, ps, no, h', t⟩ k b r p a U g v
  repeat' split at h
  all_goals
   simp only [Option.some.injEq, Prod.mk.injEq] at h
   obtain ⟨rfl, rfl⟩ := h
   exact key _ _ _ hl.1
 ·cases h
theorem seP_ok (U5 : Tb) (args res l) (h : seP U5 args = some (res, l)) (hl : AllP l) : CallsD Try.prog 22 args res := by
 unfold seP at h; split at h
 next n ks x1 x2 x3 x4 x5 x6 nx us fr kx px ux ps no h' t k b r p v q a =>
  simp only [Option.some.injEq, Prod.mk.injEq] at h
  obtain ⟨rfl, rfl⟩ := h
  obtain ⟨⟨h1, h2, h3⟩, _⟩ := hl
  have := se_ok ⟨n, ks, x1, x2, x3, x4, x5, x6, nx, us, fr, kx, px, ux, ps, no, h', t⟩ k b r p v q a h1
  rw [h2, h3] at this
  exact this
 ·cases h
def isK (n : Int) (ks x1 x2 x3 x4 x5 x6 nx : List Int) (us : List Bool) (fr : Int) (kx px : List Int) (ux : List Bool) (ps no : List Int) (h t : Int) : Prop := okT ⟨n, ks, x1, x2, x3, x4, x5, x6, nx, us, fr, kx, px, ux, ps, no, h, t⟩ ∧ tcV ⟨n, ks, x1, x2, x3, x4, x5, x6, nx, us, fr, kx, px, ux, ps, no, h, t⟩ = 0
def isG (n : Int) (ks x1 x2 x3 x4 x5 x6 nx : List Int) (us : List Bool) (fr : Int) (kx px : List Int) (ux : List Bool) (ps no : List Int) (h t : Int) (k : Int) : Prop := (okT ⟨n, ks, x1, x2, x3, x4, x5, x6, nx, us, fr, kx, px, ux, ps, no, h, t⟩ ∧ inU k) ∧ gtN ⟨n, ks, x1, x2, x3, x4, x5, x6, nx, us, fr, kx, px, ux, ps, no, h, t⟩ k x1 = 10 ∧ gtN ⟨n, ks, x1, x2, x3, x4, x5, x6, nx, us, fr, kx, px, ux, ps, no, h, t⟩ k x2 = 1 ∧ gtN ⟨n, ks, x1, x2, x3, x4, x5, x6, nx, us, fr, kx, px, ux, ps, no, h, t⟩ k x3 = 2 ∧ gtN ⟨n, ks, x1, x2, x3, x4, x5, x6, nx, us, fr, kx, px, ux, ps, no, h, t⟩ k x4 = 3 ∧ gtN ⟨n, ks, x1, x2, x3, x4, x5, x6, nx, us, fr, kx, px, ux, ps, no, h, t⟩ k x5 = 0 ∧ gtN ⟨n, ks, x1, x2, x3, x4, x5, x6, nx, us, fr, kx, px, ux, ps, no, h, t⟩ k x6 = 7 ∧ gtE ⟨n, ks, x1, x2, x3, x4, x5, x6, nx, us, fr, kx, px, ux, ps, no, h, t⟩ k = 0
def kyP : List D → Option (D × List Prop)
 | [.agg [.v (.int .i64 n), .rc [.ints .u32 ks], .rc [.ints .i64 x1, .ints .i64 x2, .ints .i64 x3, .ints .i64 x4, .ints .i64 x5, .ints .u64 x6], .rc [.ints .i64 nx], .rc [.bools us], .v (.int .i64 fr), .rc [.ints .u32 kx, .ints .i64 px, .bools ux], .rc [.ints .i64 ps], .rc [.ints .i64 no], .v (.int .i64 h), .v (.int .i64 t)]] => some (.tup [ou (kyV ⟨n, ks, x1, x2, x3, x4, x5, x6, nx, us, fr, kx, px, ux, ps, no, h, t⟩), i64 0], [isK n ks x1 x2 x3 x4 x5 x6 nx us fr kx px ux ps no h t])
 | _ => none
def gtP : List D → Option (D × List Prop)
 | [.agg [.v (.int .i64 n), .rc [.ints .u32 ks], .rc [.ints .i64 x1, .ints .i64 x2, .ints .i64 x3, .ints .i64 x4, .ints .i64 x5, .ints .u64 x6], .rc [.ints .i64 nx], .rc [.bools us], .v (.int .i64 fr), .rc [.ints .u32 kx, .ints .i64 px, .bools ux], .rc [.ints .i64 ps], .rc [.ints .i64 no], .v (.int .i64 h), .v (.int .i64 t)], .v (.int .u32 k)] => some (.tup [.agg [i64 10, i64 1, i64 2, i64 3, i64 0, u64 7], i64 0], [isG n ks x1 x2 x3 x4 x5 x6 nx us fr kx px ux ps no h t k])
 | _ => none
def skP : List D → Option (D × List Prop)
 | [.rc [.ints .u32 xs], .sh 2 [.v (.int .u32 a), .v (.int .u32 b)]] => some (bo (eqB xs [a, b]), [xs.length ≤ 200])
 | _ => none
theorem kyP_ok (args res l) (h : kyP args = some (res, l)) (hl : AllP l) : CallsD Try.prog 12 args res := by
 unfold kyP at h; split at h
 ·simp only [Option.some.injEq, Prod.mk.injEq] at h
  obtain ⟨rfl, rfl⟩ := h
  obtain ⟨⟨h1, h2⟩, _⟩ := hl
  have := ky_ok _ h1
  rw [h2] at this; exact this
 ·cases h
theorem gtP_ok (args res l) (h : gtP args = some (res, l)) (hl : AllP l) : CallsD Try.prog 20 args res := by
 unfold gtP at h; split at h
 next n ks x1 x2 x3 x4 x5 x6 nx us fr kx px ux ps no h' t k =>
  simp only [Option.some.injEq, Prod.mk.injEq] at h
  obtain ⟨rfl, rfl⟩ := h
  obtain ⟨⟨h0, h1, h2, h3, h4, h5, h6, h7⟩, _⟩ := hl
  have := gt_ok _ _ h0
  rw [h7] at this
  simp only at this
  rw [h1, h2, h3, h4, h5, h6] at this; exact this
 ·cases h
theorem calls_in {P : Program} {f : FuncId} {args args' : List D} {e : D} (h : ReadsL args' args) (k : CallsD P f args e) : CallsD P f args' e := fun w A vs hv low glo => k w A vs (h.repL hv) low glo
theorem skP_ok (args res l) (h : skP args = some (res, l)) (hl : AllP l) : CallsD Try.prog 19 args res := by
 unfold skP at h; split at h
 next xs a b =>
  simp only [Option.some.injEq, Prod.mk.injEq] at h
  obtain ⟨rfl, rfl⟩ := h
  exact calls_in (.cons (.refl _) (.cons (sh_rc (fun g => by cases g) [.ints .u32 [a, b]]) .nil)) (sk_ok xs [a, b] hl.1)
 ·cases h
noncomputable def X17 (U0 U1 U2 U3 U4 U5 : Tb) : Contracts := addCon 19 (.call skP) (addCon 12 (.call kyP) (addCon 20 (.call gtP) (addCon 10 (.call (nwP U0)) (addCon 14 (.call (usP U1 U2 U3 U4)) (addCon 22 (.call (seP U5)) X14)))))
theorem hX17 (U0 U1 U2 U3 U4 U5 : Tb) : ConOK Try.prog (X17 U0 U1 U2 U3 U4 U5) := addCall_ok skP_ok (addCall_ok kyP_ok (addCall_ok gtP_ok (addCall_ok (nwP_ok U0) (addCall_ok (usP_ok U1 U2 U3 U4) (addCall_ok (seP_ok U5) hX14)))))
end TableS
end

section
namespace TableS
open Go Go.Dam Go.Proofs
set_option maxRecDepth 1000000
theorem aly_p0 (U0 U1 U2 U3 U4 U5 : Tb) : fnX Try.prog (X17 U0 U1 U2 U3 U4 U5) 100000 [.c 27, .d true, .c 1, .d true, .c 2] 28 [] = some (bo true, [eqB (kyV U5) [9, 5] = true, rowLen0 [.ints .u32 (kyV U5)] = rowLen0 [.ints .u32 (kyV U5)], (kyV U5).length ≤ 200, eqB (kyV U3) [5, 7] = true, rowLen0 [.ints .u32 (kyV U3)] = rowLen0 [.ints .u32 (kyV U3)], (kyV U3).length ≤ 200, rowLen0 [.ints .u32 U5.ks] = rowLen0 [.ints .u32 U5.ks], rowLen0 [.ints .i64 U5.x1, .ints .i64 U5.x2, .ints .i64 U5.x3, .ints .i64 U5.x4, .ints .i64 U5.x5, .ints .u64 U5.x6] = rowLen0 [.ints .i64 U5.x1, .ints .i64 U5.x2, .ints .i64 U5.x3, .ints .i64 U5.x4, .ints .i64 U5.x5, .ints .u64 U5.x6], rowLen0 [.ints .i64 U5.nx] = rowLen0 [.ints .i64 U5.nx], rowLen0 [.bools U5.us] = rowLen0 [.bools U5.us], rowLen0 [.ints .u32 U5.kx, .ints .i64 U5.px, .bools U5.ux] = rowLen0 [.ints .u32 U5.kx, .ints .i64 U5.px, .bools U5.ux], rowLen0 [.ints .i64 U5.ps] = rowLen0 [.ints .i64 U5.ps], rowLen0 [.ints .i64 U5.no] = rowLen0 [.ints .i64 U5.no], isG U5.n U5.ks U5.x1 U5.x2 U5.x3 U5.x4 U5.x5 U5.x6 U5.nx U5.us U5.fr U5.kx U5.px U5.ux U5.ps U5.no U5.h U5.t 5, rowLen0 [.ints .u32 U5.ks] = rowLen0 [.ints .u32 U5.ks], rowLen0 [.ints .i64 U5.x1, .ints .i64 U5.x2, .ints .i64 U5.x3, .ints .i64 U5.x4, .ints .i64 U5.x5, .ints .u64 U5.x6] = rowLen0 [.ints .i64 U5.x1, .ints .i64 U5.x2, .ints .i64 U5.x3, .ints .i64 U5.x4, .ints .i64 U5.x5, .ints .u64 U5.x6], rowLen0 [.ints .i64 U5.nx] = rowLen0 [.ints .i64 U5.nx], rowLen0 [.bools U5.us] = rowLen0 [.bools U5.us], rowLen0 [.ints .u32 U5.kx, .ints .i64 U5.px, .bools U5.ux] = rowLen0 [.ints .u32 U5.kx, .ints .i64 U5.px, .bools U5.ux], rowLen0 [.ints .i64 U5.ps] = rowLen0 [.ints .i64 U5.ps], rowLen0 [.ints .i64 U5.no] = rowLen0 [.ints .i64 U5.no], isK U5.n U5.ks U5.x1 U5.x2 U5.x3 U5.x4 U5.x5 U5.x6 U5.nx U5.us U5.fr U5.kx U5.px U5.ux U5.ps U5.no U5.h U5.t, rowLen0 [.ints .u32 U4.ks] = rowLen0 [.ints .u32 U4.ks], rowLen0 [.ints .i64 U4.x1, .ints .i64 U4.x2, .ints .i64 U4.x3, .ints .i64 U4.x4, .ints .i64 U4.x5, .ints .u64 U4.x6] = rowLen0 [.ints .i64 U4.x1, .ints .i64 U4.x2, .ints .i64 U4.x3, .ints .i64 U4.x4, .ints .i64 U4.x5, .ints .u64 U4.x6], rowLen0 [.ints .i64 U4.nx] = rowLen0 [.ints .i64 U4.nx], rowLen0 [.bools U4.us] = rowLen0 [.bools U4.us], rowLen0 [.ints .u32 U4.kx, .ints .i64 U4.px, .bools U4.ux] = rowLen0 [.ints .u32 U4.kx, .ints .i64 U4.px, .bools U4.ux], rowLen0 [.ints .i64 U4.ps] = rowLen0 [.ints .i64 U4.ps], rowLen0 [.ints .i64 U4.no] = rowLen0 [.ints .i64 U4.no], isS U4.n U4.ks U4.x1 U4.x2 U4.x3 U4.x4 U4.x5 U4.x6 U4.nx U4.us U4.fr U4.kx U4.px U4.ux U4.ps U4.no U4.h U4.t 5 10 1 2 3 0 7 U5, rowLen0 [.ints .u32 U3.ks] = rowLen0 [.ints .u32 U3.ks], rowLen0 [.ints .i64 U3.x1, .ints .i64 U3.x2, .ints .i64 U3.x3, .ints .i64 U3.x4, .ints .i64 U3.x5, .ints .u64 U3.x6] = rowLen0 [.ints .i64 U3.x1, .ints .i64 U3.x2, .ints .i64 U3.x3, .ints .i64 U3.x4, .ints .i64 U3.x5, .ints .u64 U3.x6], rowLen0 [.ints .i64 U3.nx] = rowLen0 [.ints .i64 U3.nx], rowLen0 [.bools U3.us] = rowLen0 [.bools U3.us], rowLen0 [.ints .u32 U3.kx, .ints .i64 U3.px, .bools U3.ux] = rowLen0 [.ints .u32 U3.kx, .ints .i64 U3.px, .bools U3.ux], rowLen0 [.ints .i64 U3.ps] = rowLen0 [.ints .i64 U3.ps], rowLen0 [.ints .i64 U3.no] = rowLen0 [.ints .i64 U3.no], isU U3.n U3.ks U3.x1 U3.x2 U3.x3 U3.x4 U3.x5 U3.x6 U3.nx U3.us U3.fr U3.kx U3.px U3.ux U3.ps U3.no U3.h U3.t 9 10 1 2 2 U4 7 true, rowLen0 [.ints .u32 U3.ks] = rowLen0 [.ints .u32 U3.ks], rowLen0 [.ints .i64 U3.x1, .ints .i64 U3.x2, .ints .i64 U3.x3, .ints .i64 U3.x4, .ints .i64 U3.x5, .ints .u64 U3.x6] = rowLen0 [.ints .i64 U3.x1, .ints .i64 U3.x2, .ints .i64 U3.x3, .ints .i64 U3.x4, .ints .i64 U3.x5, .ints .u64 U3.x6], rowLen0 [.ints .i64 U3.nx] = rowLen0 [.ints .i64 U3.nx], rowLen0 [.bools U3.us] = rowLen0 [.bools U3.us], rowLen0 [.ints .u32 U3.kx, .ints .i64 U3.px, .bools U3.ux] = rowLen0 [.ints .u32 U3.kx, .ints .i64 U3.px, .bools U3.ux], rowLen0 [.ints .i64 U3.ps] = rowLen0 [.ints .i64 U3.ps], rowLen0 [.ints .i64 U3.no] = rowLen0 [.ints .i64 U3.no], isK U3.n U3.ks U3.x1 U3.x2 U3.x3 U3.x4 U3.x5 U3.x6 U3.nx U3.us U3.fr U3.kx U3.px U3.ux U3.ps U3.no U3.h U3.t, rowLen0 [.ints .u32 U2.ks] = rowLen0 [.ints .u32 U2.ks], rowLen0 [.ints .i64 U2.x1, .ints .i64 U2.x2, .ints .i64 U2.x3, .ints .i64 U2.x4, .ints .i64 U2.x5, .ints .u64 U2.x6] = rowLen0 [.ints .i64 U2.x1, .ints .i64 U2.x2, .ints .i64 U2.x3, .ints .i64 U2.x4, .ints .i64 U2.x5, .ints .u64 U2.x6], rowLen0 [.ints .i64 U2.nx] = rowLen0 [.ints .i64 U2.nx], rowLen0 [.bools U2.us] = rowLen0 [.bools U2.us], rowLen0 [.ints .u32 U2.kx, .ints .i64 U2.px, .bools U2.ux] = rowLen0 [.ints .u32 U2.kx, .ints .i64 U2.px, .bools U2.ux], rowLen0 [.ints .i64 U2.ps] = rowLen0 [.ints .i64 U2.ps], rowLen0 [.ints .i64 U2.no] = rowLen0 [.ints .i64 U2.no], isU U2.n U2.ks U2.x1 U2.x2 U2.x3 U2.x4 U2.x5 U2.x6 U2.nx U2.us U2.fr U2.kx U2.px U2.ux U2.ps U2.no U2.h U2.t 5 10 1 2 1 U3 0 false, rowLen0 [.ints .u32 U1.ks] = rowLen0 [.ints .u32 U1.ks], rowLen0 [.ints .i64 U1.x1, .ints .i64 U1.x2, .ints .i64 U1.x3, .ints .i64 U1.x4, .ints .i64 U1.x5, .ints .u64 U1.x6] = rowLen0 [.ints .i64 U1.x1, .ints .i64 U1.x2, .ints .i64 U1.x3, .ints .i64 U1.x4, .ints .i64 U1.x5, .ints .u64 U1.x6], rowLen0 [.ints .i64 U1.nx] = rowLen0 [.ints .i64 U1.nx], rowLen0 [.bools U1.us] = rowLen0 [.bools U1.us], rowLen0 [.ints .u32 U1.kx, .ints .i64 U1.px, .bools U1.ux] = rowLen0 [.ints .u32 U1.kx, .ints .i64 U1.px, .bools U1.ux], rowLen0 [.ints .i64 U1.ps] = rowLen0 [.ints .i64 U1.ps], rowLen0 [.ints .i64 U1.no] = rowLen0 [.ints .i64 U1.no], isU U1.n U1.ks U1.x1 U1.x2 U1.x3 U1.x4 U1.x5 U1.x6 U1.nx U1.us U1.fr U1.kx U1.px U1.ux U1.ps U1.no U1.h U1.t 7 10 1 2 0 U2 0 false, rowLen0 [.ints .u32 U0.ks] = rowLen0 [.ints .u32 U0.ks], rowLen0 [.ints .i64 U0.x1, .ints .i64 U0.x2, .ints .i64 U0.x3, .ints .i64 U0.x4, .ints .i64 U0.x5, .ints .u64 U0.x6] = rowLen0 [.ints .i64 U0.x1, .ints .i64 U0.x2, .ints .i64 U0.x3, .ints .i64 U0.x4, .ints .i64 U0.x5, .ints .u64 U0.x6], rowLen0 [.ints .i64 U0.nx] = rowLen0 [.ints .i64 U0.nx], rowLen0 [.bools U0.us] = rowLen0 [.bools U0.us], rowLen0 [.ints .u32 U0.kx, .ints .i64 U0.px, .bools U0.ux] = rowLen0 [.ints .u32 U0.kx, .ints .i64 U0.px, .bools U0.ux], rowLen0 [.ints .i64 U0.ps] = rowLen0 [.ints .i64 U0.ps], rowLen0 [.ints .i64 U0.no] = rowLen0 [.ints .i64 U0.no], isU U0.n U0.ks U0.x1 U0.x2 U0.x3 U0.x4 U0.x5 U0.x6 U0.nx U0.us U0.fr U0.kx U0.px U0.ux U0.ps U0.no U0.h U0.t 5 10 1 2 0 U1 0 false, (2 : Int) = (2 : Int), U0 = tN]) := by kernel_rfl
theorem aly_calls (U0 U1 U2 U3 U4 U5 : Tb) (res : D)
 (e0 : (eqB (kyV U3) [5, 7]) = true)
 (e1 : (eqB (kyV U5) [9, 5]) = true)
 (h0 : (((kyV U5).length ≤ 200) ∧ ((kyV U3).length ≤ 200) ∧ (isG U5.n U5.ks U5.x1 U5.x2 U5.x3 U5.x4 U5.x5 U5.x6 U5.nx U5.us U5.fr U5.kx U5.px U5.ux U5.ps U5.no U5.h U5.t 5) ∧ (isK U5.n U5.ks U5.x1 U5.x2 U5.x3 U5.x4 U5.x5 U5.x6 U5.nx U5.us U5.fr U5.kx U5.px U5.ux U5.ps U5.no U5.h U5.t) ∧ (isS U4.n U4.ks U4.x1 U4.x2 U4.x3 U4.x4 U4.x5 U4.x6 U4.nx U4.us U4.fr U4.kx U4.px U4.ux U4.ps U4.no U4.h U4.t 5 10 1 2 3 0 7 U5) ∧ (isU U3.n U3.ks U3.x1 U3.x2 U3.x3 U3.x4 U3.x5 U3.x6 U3.nx U3.us U3.fr U3.kx U3.px U3.ux U3.ps U3.no U3.h U3.t 9 10 1 2 2 U4 7 true) ∧ (isK U3.n U3.ks U3.x1 U3.x2 U3.x3 U3.x4 U3.x5 U3.x6 U3.nx U3.us U3.fr U3.kx U3.px U3.ux U3.ps U3.no U3.h U3.t) ∧ (isU U2.n U2.ks U2.x1 U2.x2 U2.x3 U2.x4 U2.x5 U2.x6 U2.nx U2.us U2.fr U2.kx U2.px U2.ux U2.ps U2.no U2.h U2.t 5 10 1 2 1 U3 0 false) ∧ (isU U1.n U1.ks U1.x1 U1.x2 U1.x3 U1.x4 U1.x5 U1.x6 U1.nx U1.us U1.fr U1.kx U1.px U1.ux U1.ps U1.no U1.h U1.t 7 10 1 2 0 U2 0 false) ∧ (isU U0.n U0.ks U0.x1 U0.x2 U0.x3 U0.x4 U0.x5 U0.x6 U0.nx U0.us U0.fr U0.kx U0.px U0.ux U0.ps U0.no U0.h U0.t 5 10 1 2 0 U1 0 false) ∧ (U0 = tN) ∧ True) ∧ res = bo true) : CallsD Try.prog 28 [] res := by
 exact of_path (hX17 U0 U1 U2 U3 U4 U5) (aly_p0 U0 U1 U2 U3 U4 U5) ⟨e1, rfl, (h0).1.1, e0, rfl, (h0).1.2.1, rfl, rfl, rfl, rfl, rfl, rfl, rfl, (h0).1.2.2.1, rfl, rfl, rfl, rfl, rfl, rfl, rfl, (h0).1.2.2.2.1, rfl, rfl, rfl, rfl, rfl, rfl, rfl, (h0).1.2.2.2.2.1, rfl, rfl, rfl, rfl, rfl, rfl, rfl, (h0).1.2.2.2.2.2.1, rfl, rfl, rfl, rfl, rfl, rfl, rfl, (h0).1.2.2.2.2.2.2.1, rfl, rfl, rfl, rfl, rfl, rfl, rfl, (h0).1.2.2.2.2.2.2.2.1, rfl, rfl, rfl, rfl, rfl, rfl, rfl, (h0).1.2.2.2.2.2.2.2.2.1, rfl, rfl, rfl, rfl, rfl, rfl, rfl, (h0).1.2.2.2.2.2.2.2.2.2.1, rfl, (h0).1.2.2.2.2.2.2.2.2.2.2.1, trivial⟩ (h0).2
theorem okD : okT tD := by unfold okT okI inU in64 kcS ccS; decide +kernel
theorem okS : okT tS := by unfold okT okI inU in64 kcS ccS; decide +kernel
theorem alive_ok : CallsD Try.prog 28 [] (bo true) := by
 have u0 : isU tN.n tN.ks tN.x1 tN.x2 tN.x3 tN.x4 tN.x5 tN.x6 tN.nx tN.us tN.fr tN.kx tN.px tN.ux tN.ps tN.no tN.h tN.t 5 10 1 2 0 tA 0 false := ⟨okU0, by unfold inU; omega, q1, by kernel_rfl, by kernel_rfl, by kernel_rfl⟩
 have u1 : isU tA.n tA.ks tA.x1 tA.x2 tA.x3 tA.x4 tA.x5 tA.x6 tA.nx tA.us tA.fr tA.kx tA.px tA.ux tA.ps tA.no tA.h tA.t 7 10 1 2 0 tBB 0 false := ⟨okU1, by unfold inU; omega, q2, by kernel_rfl, by kernel_rfl, by kernel_rfl⟩
 have u2 : isU tBB.n tBB.ks tBB.x1 tBB.x2 tBB.x3 tBB.x4 tBB.x5 tBB.x6 tBB.nx tBB.us tBB.fr tBB.kx tBB.px tBB.ux tBB.ps tBB.no tBB.h tBB.t 5 10 1 2 1 tC 0 false := ⟨okU2, by unfold inU; omega, q3, by kernel_rfl, by kernel_rfl, by kernel_rfl⟩
 have u3 : isU tC.n tC.ks tC.x1 tC.x2 tC.x3 tC.x4 tC.x5 tC.x6 tC.nx tC.us tC.fr tC.kx tC.px tC.ux tC.ps tC.no tC.h tC.t 9 10 1 2 2 tD 7 true := ⟨kC, by unfold inU; omega, q6, by kernel_rfl, by kernel_rfl, by kernel_rfl⟩
 have s0 : isS tD.n tD.ks tD.x1 tD.x2 tD.x3 tD.x4 tD.x5 tD.x6 tD.nx tD.us tD.fr tD.kx tD.px tD.ux tD.ps tD.no tD.h tD.t 5 10 1 2 3 0 7 tS := ⟨⟨okD, by unfold inU; omega, by unfold in64; omega⟩, q7, by kernel_rfl⟩
 have k0 : isK tC.n tC.ks tC.x1 tC.x2 tC.x3 tC.x4 tC.x5 tC.x6 tC.nx tC.us tC.fr tC.kx tC.px tC.ux tC.ps tC.no tC.h tC.t := ⟨kC, by kernel_rfl⟩
 have k1 : isK tS.n tS.ks tS.x1 tS.x2 tS.x3 tS.x4 tS.x5 tS.x6 tS.nx tS.us tS.fr tS.kx tS.px tS.ux tS.ps tS.no tS.h tS.t := ⟨okS, by kernel_rfl⟩
 have g0 : isG tS.n tS.ks tS.x1 tS.x2 tS.x3 tS.x4 tS.x5 tS.x6 tS.nx tS.us tS.fr tS.kx tS.px tS.ux tS.ps tS.no tS.h tS.t 5 := ⟨⟨okS, by unfold inU; omega⟩, by kernel_rfl, by kernel_rfl, by kernel_rfl, by kernel_rfl, by kernel_rfl, by kernel_rfl, by kernel_rfl⟩
 refine aly_calls tN tA tBB tC tD tS _ (by rw [show kyV tC = [5, 7] from q8]; rfl) (by rw [show kyV tS = [9, 5] from q9]; rfl) ⟨?_, rfl⟩
 (repeat' (first | assumption | exact trivial | apply And.intro)) <;> first | rfl | (rw [show kyV tC = [5, 7] from q8]; decide) | (rw [show kyV tS = [9, 5] from q9]; decide)
theorem aliveC_ok (args res l) (h : aliveC args = some (res, l)) (hl : AllP l) : CallsD Try.prog 28 args res := by
 unfold aliveC at h; split at h
 ·simp only [Option.some.injEq, Prod.mk.injEq] at h
  obtain ⟨rfl, rfl⟩ := h
  exact alive_ok
 ·cases h
end TableS
end
