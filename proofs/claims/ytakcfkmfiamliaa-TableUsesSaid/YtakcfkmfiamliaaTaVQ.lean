/- What the functions compute, and the law. No condition. -/
import Derived.Test.YtakcfkmfiamliaaTaUD
import Derived.Test.YtakcfkmfiamliaaTaVE
set_option linter.unusedSectionVars false
set_option linter.unusedVariables false
set_option linter.unusedSimpArgs false
section
namespace TableS
open Go Go.Dam Go.Proofs
set_option maxRecDepth 1000000
/-- A table without its last key. -/
def Tb.less (T : Tb) : Tb := T.without (T.ks.getD T.t.toNat 0) T.t.toNat
def usW (T : Tb) (k b r p : Int) : Prop := tcV T = 0 ∧ limV b r p = 0 ∧ plV T k < 0 ∧ T.fr = -1
instance (T : Tb) (k b r p : Int) : Decidable (usW T k b r p) := by unfold usW; exact inferInstance
/-- A table after a use; who had to go; the error. -/
def usR (T : Tb) (k b r p a : Int) : Tb := if tcV T = 0 ∧ limV b r p = 0 then (if plV T k < 0 then (if T.fr = -1 then T.less.plus k b r p a else T.plus k b r p a) else T.touch (plV T k)) else t0
def usG (T : Tb) (k b r p : Int) : Int := if usW T k b r p then T.ks.getD T.t.toNat 0 else 0
def usE (T : Tb) (b r p : Int) : Int := if tcV T = 0 then limV b r p else tcV T
theorem inv_pl {T : Tb} {L F : List Int} (v : Inv T L F) {k : Int} (hk : inU k) : (∃ i : Nat, plV T k = i ∧ (i : Int) < T.n ∧ T.us.getD i false = true ∧ T.ks.getD i 0 = k) ∨ (plV T k = -1 ∧ ∀ i : Nat, (i : Int) < T.n → T.us.getD i false = true → T.ks.getD i 0 ≠ k) := by
 unfold plV
 rcases inv_at v k with ⟨i, a, b, c⟩ | h
 ·obtain ⟨e1, e2⟩ := inv_has v hk a b c
  exact .inl ⟨i, by rw [if_pos e1, e2], a, b, c⟩
 ·obtain ⟨e1, _, _⟩ := inv_no v hk h
  exact .inr ⟨by rw [if_neg (by rw [e1]; omega)], h⟩
theorem plus_side {T : Tb} (ho : okT T) {L F : List Int} (v : Inv T L F) {k : Int} (hk : inU k) (hf : T.fr ≠ -1) (hn : ∀ i : Nat, (i : Int) < T.n → T.us.getD i false = true → T.ks.getD i 0 ≠ k) :
  tkO T.nx T.us T.fr ∧ tkE T.nx T.us T.fr = 0 ∧ ppO T.kx T.px T.ux k T.fr ∧ toO T.ps T.no T.h T.t T.fr ∧ 0 ≤ T.fr ∧ T.fr < T.n := by
 obtain ⟨F', eF, f0, f1, _⟩ := ar_take v.ar hf
 have hc := inv_count v
 obtain ⟨s1, s2, s3, s4, s5, s6⟩ := v.sz
 have hl := okL_len (or_okL v.od)
 have hl2 := v.od.2.2.1
 have ak := ar_ak v.ar
 refine ⟨⟨ak, hf⟩, by unfold tkE; rw [if_pos ak, if_neg hf], ⟨ix_pc v.ix, ⟨f0, by omega⟩, (inv_no v hk hn).2.2, by rw [v.ix.1.1]; omega⟩, ⟨or_lc v.od, f0, by omega⟩, f0, by omega⟩
theorem okT_lens {T : Tb} (ho : okT T) {L F : List Int} (v : Inv T L F) : (T.ks.length : Int) = T.n ∧ (T.x1.length : Int) = T.n ∧ (T.x2.length : Int) = T.n ∧ (T.x3.length : Int) = T.n ∧ (T.x4.length : Int) = T.n ∧ (T.x5.length : Int) = T.n ∧ (T.x6.length : Int) = T.n := by
 obtain ⟨s1, s2, s3, s4, s5, s6⟩ := v.sz
 obtain ⟨_, k2, k3, k4, k5, k6⟩ := ho.2.2.2.2.2.2.1
 omega
/-- What goes: the last one. -/
theorem inv_last {T : Tb} {L F : List Int} (v : Inv T L F) (hf : T.fr = -1) : F = [] ∧ ∃ (i : Nat) (A : List Int), T.t = i ∧ L = A ++ [T.t] ∧ (i : Int) < T.n ∧ T.us.getD i false = true := by
 have hF : F = [] := by
  rcases seg_rng v.ar.2.2.2.2.1 with ⟨e, _⟩ | ⟨B, e⟩
  ·exact e
  ·have := (seg_range v.ar.2.2.2.2.1) T.fr (by rw [e]; simp)
   omega
 have hl := inv_full v
 rw [hF] at hl
 simp only [List.length_nil] at hl
 have hne : L ≠ [] := fun e => by
  rw [e] at hl
  have := v.sz.1
  simp only [List.length_nil] at hl
  omega
 obtain ⟨A, eA⟩ := or_tail v.od hne
 obtain ⟨a, b, c⟩ := inv_mem v (x := T.t) (by rw [eA]; simp)
 exact ⟨hF, T.t.toNat, A, by omega, eA, by omega, c⟩
theorem less_inv {T : Tb} (ho : okT T) {L F : List Int} (v : Inv T L F) (hf : T.fr = -1) : Inv T.less (wo L T.t) [T.t] ∧ okT T.less := by
 obtain ⟨hF, i, A, ei, eA, hi, hu⟩ := inv_last v hf
 have et : T.t.toNat = i := by omega
 have hg : inU (T.ks.getD i 0) := ho.2.1 i (by have := v.sz.2.2.1; omega)
 have w := (inv_without ho v hg hi hu rfl).1
 have w2 := okT_without ho v hg hi hu rfl
 unfold Tb.less
 rw [et]
 rw [hF] at w
 rw [ei]
 exact ⟨w, w2⟩
theorem less_no {T : Tb} (ho : okT T) {L F : List Int} (v : Inv T L F) (hf : T.fr = -1) {k : Int} (hn : ∀ i : Nat, (i : Int) < T.n → T.us.getD i false = true → T.ks.getD i 0 ≠ k) :
  ∀ j : Nat, (j : Int) < T.less.n → T.less.us.getD j false = true → T.less.ks.getD j 0 ≠ k := fun j hj u => by
 obtain ⟨hF, i, A, ei, eA, hi, hu⟩ := inv_last v hf
 have ul := inv_us_len v
 have et : T.t.toNat = i := by omega
 change (j : Int) < T.n at hj
 change (T.us.set T.t.toNat false).getD j false = true at u
 show (T.ks.set T.t.toNat 0).getD j 0 ≠ k
 rw [et] at u ⊢
 have q : i ≠ j := fun q => by subst q; rw [getB_set_self (by omega)] at u; cases u
 rw [getB_set_ne q] at u
 rw [getD_set_ne q]
 exact hn j hj u
theorem us_ok (T : Tb) (k b r p a : Int) (h : okT T ∧ inU k) : CallsD Try.prog 14 [T.d, u32 k, .agg [i64 b, i64 r, i64 p], u64 a] (.tup [(usR T k b r p a).o, u32 (usG T k b r p), bo (decide (usW T k b r p)), i64 (usE T b r p)]) := by
 obtain ⟨ho, hk⟩ := h
 by_cases c : tcV T = 0 ∧ limV b r p = 0
 ·obtain ⟨c1, c2⟩ := c
  obtain ⟨L, F, v⟩ := tc_inv ho c1
  have hE : usE T b r p = 0 := by unfold usE; rw [if_pos c1]; exact c2
  have ho' := ho
  obtain ⟨d8, _, _, d1, d2, d3, d4, d5, d6, d7⟩ := ho'
  have lens := okT_lens ho v
  have lk := v.ix.1.1
  rcases inv_pl v hk with ⟨i, ep, hi, hu, ek⟩ | ⟨ep, hn⟩
  ·have c3 : ¬ plV T k < 0 := by omega
   have hW : ¬ usW T k b r p := fun n => c3 n.2.2.1
   have hT : toO T.ps T.no T.h T.t (plV T k) := ⟨or_lc v.od, by omega, by have := v.sz.2.2.2.2.2; omega⟩
   have eR : usR T k b r p a = T.touch (plV T k) := by unfold usR; rw [if_pos ⟨c1, c2⟩, if_neg c3]
   unfold usG
   rw [hE, eR, if_neg hW, decide_eq_false hW]
   refine us_calls T k b r p a _ ?_ ?_ ?_ ?_ ?_ <;> dsimp only [At, Tr.q, us_T]
   ·intro g; rw [neq_t] at g; exact absurd c1 g
   ·intro _ g; rw [neq_t] at g; exact absurd c2 g
   ·intro _ _ g; rw [lss_t] at g; exact absurd g c3
   ·intro _ _ g; rw [lss_t] at g; exact absurd g c3
   ·intro _ _ _
    refine ⟨⟨⟨ho, hk⟩, d3, d7, d5, d2, d1, d4, d6, ho, trivial⟩, ?_⟩
    simp only [us_c10, us_c11, if_pos hT]; rfl
  ·by_cases c4 : T.fr = -1
   ·have hW : usW T k b r p := ⟨c1, c2, by omega, c4⟩
    have hkE : tkE T.nx T.us T.fr ≠ 0 := by unfold tkE; rw [if_pos (ar_ak v.ar), if_pos c4]; omega
    obtain ⟨v1, ho1⟩ := less_inv ho v c4
    have hn1 := less_no ho v c4 hn
    obtain ⟨hF, i, A, ei, eA, hi, hu⟩ := inv_last v c4
    have et : T.t.toNat = i := by omega
    have hg : inU (T.ks.getD i 0) := ho.2.1 i (by omega)
    obtain ⟨g1, g2, g3, g4, g5, g6⟩ := plus_side ho1 v1 hk (by show ((T.t.toNat : Nat) : Int) ≠ -1; omega) hn1
    have lc := or_lc v.od
    have tm : (i : Int) ∈ L := by rw [eA, ei]; simp
    have ps6 : (T.ps.length : Int) = T.n := v.sz.2.2.2.2.2
    have nx5 : (T.nx.length : Int) = T.n := v.sz.2.2.2.2.1
    have eR : usR T k b r p a = T.less.plus k b r p a := by unfold usR; rw [if_pos ⟨c1, c2⟩, if_pos (by omega), if_pos c4]
    unfold usG
    rw [hE, eR, if_pos hW, decide_eq_true hW]
    have hla : laI T.ps T.no T.h T.t = i := by unfold laI; rw [if_pos lc, if_neg (by omega)]; exact ei
    have hpl : plV T (T.ks.getD (i : Int).toNat 0) = i := by
     rw [Int.toNat_natCast]
     obtain ⟨e1, e2⟩ := inv_has v hg hi hu rfl
     unfold plV; rw [if_pos e1, e2]
    have hrm : rmO T.ps T.no T.h T.t i := ⟨lc, ⟨by omega, by omega⟩, (or_mem v.od (by omega) (by omega)).2 tm⟩
    have hgv : gvO T.nx T.us T.fr i := ⟨ar_ak v.ar, by omega, by omega, by rw [Int.toNat_natCast]; exact hu⟩
    have hdp : dpO T.kx T.px T.ux (T.ks.getD (i : Int).toNat 0) := by
     rw [Int.toNat_natCast]
     obtain ⟨j, hj, uj, e1, e2⟩ := inv_cell v hi hu
     refine ⟨ix_pc v.ix, ?_⟩
     have := ix_at v.ix hj uj
     rw [e1] at this
     rw [this]; exact uj
    have hW1 : T.less = T.without (T.ks.getD i 0) i := by unfold Tb.less; rw [et]
    rw [hW1] at g1 g2 g3 g4 g5 g6 v1 ho1 ⊢
    have lens1 := okT_lens ho1 v1
    obtain ⟨o8, _, _, o1, o2, o3, o4, o5, o6, o7⟩ := ho1
    have q3 : us_c3 T = (T.without (T.ks.getD i 0) i).ks := by unfold us_c3; rw [hla, hpl]; rfl
    have q4 : us_c4 T = (T.without (T.ks.getD i 0) i).x1 := by unfold us_c4; rw [hla, hpl]; rfl
    have q5 : us_c5 T = (T.without (T.ks.getD i 0) i).x2 := by unfold us_c5; rw [hla, hpl]; rfl
    have q6 : us_c6 T = (T.without (T.ks.getD i 0) i).x3 := by unfold us_c6; rw [hla, hpl]; rfl
    have q7 : us_c7 T = (T.without (T.ks.getD i 0) i).x4 := by unfold us_c7; rw [hla, hpl]; rfl
    have q8 : us_c8 T = (T.without (T.ks.getD i 0) i).x5 := by unfold us_c8; rw [hla, hpl]; rfl
    have q9 : us_c9 T = (T.without (T.ks.getD i 0) i).x6 := by unfold us_c9; rw [hla, hpl]; rfl
    have q13 : us_c13 T = (T.without (T.ks.getD i 0) i).kx := by unfold us_c13 us_c2; rw [hla, if_pos hdp]; rfl
    have q14 : us_c14 T = (T.without (T.ks.getD i 0) i).px := by unfold us_c14 us_c2; rw [hla, if_pos hdp]; rfl
    have q16 : us_c16 T = (T.without (T.ks.getD i 0) i).ux := by unfold us_c16 us_c2; rw [hla, if_pos hdp]; rfl
    have q17 : us_c17 T = (T.without (T.ks.getD i 0) i).fr := by unfold us_c17; rw [hla, hpl, if_pos hgv]; rfl
    have q21 : us_c21 T = (T.without (T.ks.getD i 0) i).ps := by unfold us_c21; rw [hla, hpl, if_pos hrm]; rfl
    have q22 : us_c22 T = (T.without (T.ks.getD i 0) i).no := by unfold us_c22; rw [hla, hpl, if_pos hrm]; rfl
    have q23 : us_c23 T = (T.without (T.ks.getD i 0) i).nx := by unfold us_c23; rw [hla, hpl, if_pos hgv]; rfl
    have q24 : us_c24 T = (T.without (T.ks.getD i 0) i).h := by unfold us_c24; rw [hla, hpl, if_pos hrm]; rfl
    have q25 : us_c25 T = (T.without (T.ks.getD i 0) i).t := by unfold us_c25; rw [hla, hpl, if_pos hrm]; rfl
    have q26 : us_c26 T = (T.without (T.ks.getD i 0) i).us := by unfold us_c26; rw [hla, hpl, if_pos hgv]; rfl
    have q30 : us_c30 T = (T.without (T.ks.getD i 0) i).fr := by unfold us_c30; rw [q23, q26, q17, hla, hpl, if_pos g1, if_pos hgv]; rfl
    have qf : (T.without (T.ks.getD i 0) i).fr = (i : Int) := rfl
    have hg' : inU (T.ks.getD (i : Int).toNat 0) := by rw [Int.toNat_natCast]; exact hg
    have qk : (T.without (T.ks.getD i 0) i).n = T.n := rfl
    refine us_calls T k b r p a _ ?_ ?_ ?_ ?_ ?_ <;> dsimp only [At, Tr.q, us_T]
    ·intro g; rw [neq_t] at g; exact absurd c1 g
    ·intro _ g; rw [neq_t] at g; exact absurd c2 g
    ·intro _ _ _ _
     simp only [us_c29, us_c27, us_c28, us_c31, us_c32, us_c33, us_c34, us_c35, q3, q4, q5, q6, q7, q8, q9, q13, q14, q16, q17, q21, q22, q23, q24, q25, q26, q30, hla, hpl, if_pos g1, if_pos g3, if_pos g4, if_pos hgv]
     refine ⟨?_, ?_⟩
     ·(repeat' (first | assumption | apply And.intro)) <;> first | exact trivial | rfl | ((try refine @decide_eq_true _ _ ?_); first | omega | (simp only [rowLen0, Col0.len, List.length_set, qf, Int.toNat_natCast] <;> omega))
     ·rw [et, Int.toNat_natCast]; rfl
    ·intro _ _ _ g; rw [neq_f] at g; exact absurd g hkE
    ·intro _ _ g; rw [lss_f] at g; omega
   ·have hW : ¬ usW T k b r p := fun n => c4 n.2.2.2
    obtain ⟨g1, g2, g3, g4, g5, g6⟩ := plus_side ho v hk c4 hn
    have eR : usR T k b r p a = T.plus k b r p a := by unfold usR; rw [if_pos ⟨c1, c2⟩, if_pos (by omega), if_neg c4]
    unfold usG
    rw [hE, eR, if_neg hW, decide_eq_false hW]
    refine us_calls T k b r p a _ ?_ ?_ ?_ ?_ ?_ <;> dsimp only [At, Tr.q, us_T]
    ·intro g; rw [neq_t] at g; exact absurd c1 g
    ·intro _ g; rw [neq_t] at g; exact absurd c2 g
    ·intro _ _ _ g; rw [neq_t] at g; exact absurd g2 g
    ·intro _ _ _ _
     simp only [us_c29, us_c0, us_c1, us_c12, us_c15, us_c18, us_c19, us_c20, if_pos g1, if_pos g3, if_pos g4]
     refine ⟨?_, rfl⟩
     (repeat' (first | assumption | apply And.intro)) <;> first | exact trivial | rfl | ((try refine @decide_eq_true _ _ ?_); first | omega | (simp only [rowLen0, Col0.len, List.length_set] <;> omega))
    ·intro _ _ g; rw [lss_f] at g; omega
 ·have hW : ¬ usW T k b r p := fun n => c ⟨n.1, n.2.1⟩
  unfold usR usG
  rw [if_neg c, if_neg hW, decide_eq_false hW]
  refine calls_reads (ReadsNs.tup (.cons nilT (.refl _))) ?_
  unfold usE
  refine us_calls T k b r p a _ ?_ ?_ ?_ ?_ ?_ <;> dsimp only [At, Tr.q, us_T]
  ·intro g; rw [neq_t] at g; exact ⟨⟨ho, trivial⟩, by rw [if_neg g]⟩
  ·intro g g2; rw [neq_f] at g; exact ⟨⟨ho, trivial⟩, by rw [if_pos g]⟩
  ·intro g g2; rw [neq_f] at g g2; exact absurd ⟨g, g2⟩ c
  ·intro g g2; rw [neq_f] at g g2; exact absurd ⟨g, g2⟩ c
  ·intro g g2; rw [neq_f] at g g2; exact absurd ⟨g, g2⟩ c
noncomputable section
def usC : List D → Option (D × List Prop)
 | [.agg [.v (.int .i64 n), .rc [.ints .u32 ks], .rc [.ints .i64 x1, .ints .i64 x2, .ints .i64 x3, .ints .i64 x4, .ints .i64 x5, .ints .u64 x6], .rc [.ints .i64 nx], .rc [.bools us], .v (.int .i64 fr), .rc [.ints .u32 kx, .ints .i64 px, .bools ux], .rc [.ints .i64 ps], .rc [.ints .i64 no], .v (.int .i64 h), .v (.int .i64 t)], .v (.int .u32 k), .agg [.v (.int .i64 b), .v (.int .i64 r), .v (.int .i64 p)], .v (.int .u64 a)] => some ((.tup [(usR ⟨n, ks, x1, x2, x3, x4, x5, x6, nx, us, fr, kx, px, ux, ps, no, h, t⟩ k b r p a).o, u32 (usG ⟨n, ks, x1, x2, x3, x4, x5, x6, nx, us, fr, kx, px, ux, ps, no, h, t⟩ k b r p), bo (decide (usW ⟨n, ks, x1, x2, x3, x4, x5, x6, nx, us, fr, kx, px, ux, ps, no, h, t⟩ k b r p)), i64 (usE ⟨n, ks, x1, x2, x3, x4, x5, x6, nx, us, fr, kx, px, ux, ps, no, h, t⟩ b r p)]), [okT ⟨n, ks, x1, x2, x3, x4, x5, x6, nx, us, fr, kx, px, ux, ps, no, h, t⟩ ∧ inU k])
 | _ => none
end
theorem usC_ok (args res l) (h : usC args = some (res, l)) (hl : AllP l) : CallsD Try.prog 14 args res := by
 unfold usC at h; split at h
 ·simp only [Option.some.injEq, Prod.mk.injEq] at h
  obtain ⟨rfl, rfl⟩ := h
  exact us_ok _ _ _ _ _ _ hl.1
 ·cases h
noncomputable def X15 : Contracts := addCon 14 (.call usC) X14
theorem hX15 : ConOK Try.prog X15 := addCall_ok usC_ok hX14
end TableS
end

section
namespace TableS
open Go Go.Dam Go.Proofs
set_option maxRecDepth 1000000
noncomputable def fl_T (b : Int) (r : Int) (p : Int) (a : Int) : Tr D := .d (cmpI .neq (limV b r p) 0) (fun e0 => .lf (D.tup [D.agg [i64 0, i64 0, i64 0, i64 0, i64 0, u64 0], i64 (limV b r p)])) (fun e0 => .lf (D.tup [D.agg [i64 b, i64 r, i64 p, i64 b, i64 0, u64 a], i64 0]))
theorem fl_L (b r p a : Int) : Leaves (fun l => fnX Try.prog (X15) 100000 l 33 [D.agg [i64 b, i64 r, i64 p], u64 a]) (fl_T b r p a) [] [] := by refine ⟨fun _ => ?_, fun _ => ?_⟩ <;> (show _ = _; kernel_rfl)
theorem fl_calls (b r p a : Int) (res : D) (h0 : At (fun r => res = r) (fl_T b r p a) [true] True) (h1 : At (fun r => res = r) (fl_T b r p a) [false] True) : CallsD Try.prog 33 [D.agg [i64 b, i64 r, i64 p], u64 a] res := tree_calls (hX15) (fl_L b r p a) ⟨fun e0 => h0 e0, fun e0 => h1 e0⟩
noncomputable def fl3_T (b : Int) (r : Int) (p : Int) (a : Int) : Tr D := .d (cmpI .neq (limV b r p) 0) (fun e0 => .lf (D.tup [D.agg [i64 0, i64 0, i64 0, i64 0, i64 0, u64 0], i64 (limV b r p)])) (fun e0 => .lf (D.tup [D.agg [i64 b, i64 r, i64 p, i64 b, i64 0, u64 a], i64 0]))
theorem fl3_L (b r p a : Int) : Leaves (fun l => fnX Try.prog (X15) 100000 l 56 [D.agg [i64 b, i64 r, i64 p], u64 a]) (fl3_T b r p a) [] [] := by refine ⟨fun _ => ?_, fun _ => ?_⟩ <;> (show _ = _; kernel_rfl)
theorem fl3_calls (b r p a : Int) (res : D) (h0 : At (fun r => res = r) (fl3_T b r p a) [true] True) (h1 : At (fun r => res = r) (fl3_T b r p a) [false] True) : CallsD Try.prog 56 [D.agg [i64 b, i64 r, i64 p], u64 a] res := tree_calls (hX15) (fl3_L b r p a) ⟨fun e0 => h0 e0, fun e0 => h1 e0⟩
noncomputable def dr_c0 (T : Tb) (k : Int) := if rmO T.ps T.no T.h T.t (plV T k) then rmP T.ps T.no (plV T k) else []
noncomputable def dr_c1 (T : Tb) (k : Int) := if rmO T.ps T.no T.h T.t (plV T k) then rmN T.ps T.no (plV T k) else []
noncomputable def dr_c2 (T : Tb) (k : Int) := if gvO T.nx T.us T.fr (plV T k) then T.nx.set (plV T k).toNat T.fr else []
noncomputable def dr_c3 (T : Tb) (k : Int) := if gvO T.nx T.us T.fr (plV T k) then T.us.set (plV T k).toNat false else []
noncomputable def dr_c4 (T : Tb) (k : Int) := if dpO T.kx T.px T.ux k then (dpR T.kx T.px T.ux k).kx.set (dpR T.kx T.px T.ux k).i 0 else []
noncomputable def dr_c5 (T : Tb) (k : Int) := if dpO T.kx T.px T.ux k then (dpR T.kx T.px T.ux k).px.set (dpR T.kx T.px T.ux k).i 0 else []
noncomputable def dr_c6 (T : Tb) (k : Int) := if dpO T.kx T.px T.ux k then (dpR T.kx T.px T.ux k).ux.set (dpR T.kx T.px T.ux k).i false else []
noncomputable def dr_T (T : Tb) (k : Int) : Tr D := .s (okT T) (.d (cmpI .neq (tcV T) 0) (fun e0 => .lf (D.tup [D.agg [i64 0, D.v (Value.slice none 0 0), D.v (Value.slice none 0 0), D.v (Value.slice none 0 0), D.v (Value.slice none 0 0), i64 0, D.v (Value.slice none 0 0), D.v (Value.slice none 0 0), D.v (Value.slice none 0 0), i64 0, i64 0], i64 (tcV T)])) (fun e0 => .s (okT T ∧ inU k) (.d (cmpI .lss (plV T k) 0) (fun e1 => .lf (D.tup [D.agg [i64 0, D.v (Value.slice none 0 0), D.v (Value.slice none 0 0), D.v (Value.slice none 0 0), D.v (Value.slice none 0 0), i64 0, D.v (Value.slice none 0 0), D.v (Value.slice none 0 0), D.v (Value.slice none 0 0), i64 0, i64 0], i64 6])) (fun e1 => .s (T.ks.length ≤ 200) (.s (kcS T.x1 T.x2 T.x3 T.x4 T.x5 T.x6) (.s (T.nx.length ≤ 200) (.s (T.us.length ≤ 200) (.s (ccS T.kx T.px T.ux) (.s (T.ps.length ≤ 200) (.s (T.no.length ≤ 200) (.s (okT T ∧ inU k) (.q (rowLen0 [.ints .i64 T.no]) (.q (rowLen0 [.ints .i64 T.ps]) (.q (rowLen0 [.ints .u32 T.kx, .ints .i64 T.px, .bools T.ux]) (.q (rowLen0 [.bools T.us]) (.q (rowLen0 [.ints .i64 T.nx]) (.q (rowLen0 [.ints .i64 T.x1, .ints .i64 T.x2, .ints .i64 T.x3, .ints .i64 T.x4, .ints .i64 T.x5, .ints .u64 T.x6]) (.q (rowLen0 [.ints .u32 T.ks]) (.q (rowLen0 [.ints .i64 T.no]) (.q (rowLen0 [.ints .i64 T.ps]) (.s (okI T.kx ∧ inU k ∧ ccS T.kx T.px T.ux) (.q (rowLen0 [.ints .u32 T.kx, .ints .i64 T.px, .bools T.ux]) (.s (T.us.length ≤ 200 ∧ T.nx.length ≤ 200) (.q (rowLen0 [.bools T.us]) (.q (rowLen0 [.ints .i64 T.nx]) (.s (decide (plV T k < ↑(rowLen0 [.ints .u32 T.ks])) = true) (.s (decide (0 ≤ plV T k) = true) (.s ((Col0.ints .u32 T.ks).len = rowLen0 [.ints .u32 T.ks]) (.s ((plV T k).toNat < rowLen0 [.ints .u32 T.ks]) (.s (decide (plV T k < ↑(rowLen0 [.ints .i64 T.x1, .ints .i64 T.x2, .ints .i64 T.x3, .ints .i64 T.x4, .ints .i64 T.x5, .ints .u64 T.x6])) = true) (.s (decide (0 ≤ plV T k) = true) (.s ((Col0.ints .u64 T.x6).len = rowLen0 [.ints .i64 T.x1, .ints .i64 T.x2, .ints .i64 T.x3, .ints .i64 T.x4, .ints .i64 T.x5, .ints .u64 T.x6]) (.s ((Col0.ints .i64 T.x5).len = rowLen0 [.ints .i64 T.x1, .ints .i64 T.x2, .ints .i64 T.x3, .ints .i64 T.x4, .ints .i64 T.x5, .ints .u64 T.x6]) (.s ((Col0.ints .i64 T.x4).len = rowLen0 [.ints .i64 T.x1, .ints .i64 T.x2, .ints .i64 T.x3, .ints .i64 T.x4, .ints .i64 T.x5, .ints .u64 T.x6]) (.s ((Col0.ints .i64 T.x3).len = rowLen0 [.ints .i64 T.x1, .ints .i64 T.x2, .ints .i64 T.x3, .ints .i64 T.x4, .ints .i64 T.x5, .ints .u64 T.x6]) (.s ((Col0.ints .i64 T.x2).len = rowLen0 [.ints .i64 T.x1, .ints .i64 T.x2, .ints .i64 T.x3, .ints .i64 T.x4, .ints .i64 T.x5, .ints .u64 T.x6]) (.s ((Col0.ints .i64 T.x1).len = rowLen0 [.ints .i64 T.x1, .ints .i64 T.x2, .ints .i64 T.x3, .ints .i64 T.x4, .ints .i64 T.x5, .ints .u64 T.x6]) (.s ((plV T k).toNat < rowLen0 [.ints .i64 T.x1, .ints .i64 T.x2, .ints .i64 T.x3, .ints .i64 T.x4, .ints .i64 T.x5, .ints .u64 T.x6]) (.q (rowLen0 [.ints .i64 (dr_c1 T k)]) (.q (rowLen0 [.ints .i64 (dr_c0 T k)]) (.q (rowLen0 [.ints .u32 (dr_c4 T k), .ints .i64 (dr_c5 T k), .bools (dr_c6 T k)]) (.q (rowLen0 [.bools (dr_c3 T k)]) (.q (rowLen0 [.ints .i64 (dr_c2 T k)]) (.s (rowLen0 [.ints .i64 T.x1, .ints .i64 T.x2, .ints .i64 T.x3, .ints .i64 T.x4, .ints .i64 T.x5, .ints .u64 T.x6] = rowLen0 [.ints .i64 (T.x1.set (plV T k).toNat 0), .ints .i64 (T.x2.set (plV T k).toNat 0), .ints .i64 (T.x3.set (plV T k).toNat 0), .ints .i64 (T.x4.set (plV T k).toNat 0), .ints .i64 (T.x5.set (plV T k).toNat 0), .ints .u64 (T.x6.set (plV T k).toNat 0)]) (.s (rowLen0 [.ints .u32 T.ks] = rowLen0 [.ints .u32 (T.ks.set (plV T k).toNat 0)]) (.lf (D.tup [D.agg [i64 T.n, D.oc [.ints .u32 (T.ks.set (plV T k).toNat 0)], D.oc [.ints .i64 (T.x1.set (plV T k).toNat 0), .ints .i64 (T.x2.set (plV T k).toNat 0), .ints .i64 (T.x3.set (plV T k).toNat 0), .ints .i64 (T.x4.set (plV T k).toNat 0), .ints .i64 (T.x5.set (plV T k).toNat 0), .ints .u64 (T.x6.set (plV T k).toNat 0)], D.oc [.ints .i64 (dr_c2 T k)], D.oc [.bools (dr_c3 T k)], i64 (if gvO T.nx T.us T.fr (plV T k) then plV T k else 0), D.oc [.ints .u32 (dr_c4 T k), .ints .i64 (dr_c5 T k), .bools (dr_c6 T k)], D.oc [.ints .i64 (dr_c0 T k)], D.oc [.ints .i64 (dr_c1 T k)], i64 (if rmO T.ps T.no T.h T.t (plV T k) then rmH T.ps T.no T.h (plV T k) else 0), i64 (if rmO T.ps T.no T.h T.t (plV T k) then rmT T.ps T.no T.t (plV T k) else 0)], i64 0])))))))))))))))))))))))))))))))))))))))))))))))
theorem dr_L (T : Tb) (k : Int) : Leaves (fun l => fnX Try.prog (X15) 100000 l 24 [T.d, u32 k]) (dr_T T k) [] [] := by refine ⟨fun _ => ?_, fun _ => ⟨fun _ => ?_, fun _ => ?_⟩⟩ <;> (show _ = _; kernel_rfl)
theorem dr_calls (T : Tb) (k : Int) (res : D) (h0 : At (fun r => res = r) (dr_T T k) [true] True) (h1 : At (fun r => res = r) (dr_T T k) [false, true] True) (h2 : At (fun r => res = r) (dr_T T k) [false, false] True) : CallsD Try.prog 24 [T.d, u32 k] res := tree_calls (hX15) (dr_L T k) ⟨fun e0 => h0 e0, fun e0 => ⟨fun e1 => h1 e0 e1, fun e1 => h2 e0 e1⟩⟩
/-- A full bucket's numbers. -/
def flZ (b r p x : Int) : Int := if limV b r p = 0 then x else 0
theorem fl_ok (b r p a : Int) : CallsD Try.prog 33 [.agg [i64 b, i64 r, i64 p], u64 a] (.tup [.agg [i64 (flZ b r p b), i64 (flZ b r p r), i64 (flZ b r p p), i64 (flZ b r p b), i64 0, u64 (flZ b r p a)], i64 (limV b r p)]) := by
 unfold flZ
 refine fl_calls b r p a _ ?_ ?_ <;> dsimp only [At, Tr.q, fl_T]
 ·intro g; rw [neq_t] at g; exact ⟨trivial, by simp only [if_neg g]⟩
 ·intro g; rw [neq_f] at g; exact ⟨trivial, by simp only [if_pos g]; rw [g]⟩
theorem fl3_ok (b r p a : Int) : CallsD Try.prog 56 [.agg [i64 b, i64 r, i64 p], u64 a] (.tup [.agg [i64 (flZ b r p b), i64 (flZ b r p r), i64 (flZ b r p p), i64 (flZ b r p b), i64 0, u64 (flZ b r p a)], i64 (limV b r p)]) := by
 unfold flZ
 refine fl3_calls b r p a _ ?_ ?_ <;> dsimp only [At, Tr.q, fl3_T]
 ·intro g; rw [neq_t] at g; exact ⟨trivial, by simp only [if_neg g]⟩
 ·intro g; rw [neq_f] at g; exact ⟨trivial, by simp only [if_pos g]; rw [g]⟩
/-- A table after Drop; the error. -/
def drX (T : Tb) (k : Int) : Tb := if tcV T = 0 ∧ ¬ plV T k < 0 then T.without k (plV T k).toNat else t0
def drE (T : Tb) (k : Int) : Int := if tcV T = 0 then (if plV T k < 0 then 6 else 0) else tcV T
theorem dr_ok (T : Tb) (k : Int) (h : okT T ∧ inU k) : CallsD Try.prog 24 [T.d, u32 k] (.tup [(drX T k).o, i64 (drE T k)]) := by
 obtain ⟨ho, hk⟩ := h
 by_cases c : tcV T = 0
 ·obtain ⟨L, F, v⟩ := tc_inv ho c
  have ho' := ho
  obtain ⟨d8, _, _, d1, d2, d3, d4, d5, d6, d7⟩ := ho'
  have lens := okT_lens ho v
  rcases inv_pl v hk with ⟨i, ep, hi, hu, ek⟩ | ⟨ep, hn⟩
  ·have c3 : ¬ plV T k < 0 := by omega
   have lc := or_lc v.od
   have tm : (i : Int) ∈ L := by have := v.us i hi; rw [hu] at this; simpa using this.symm
   have ps6 : (T.ps.length : Int) = T.n := v.sz.2.2.2.2.2
   have nx5 : (T.nx.length : Int) = T.n := v.sz.2.2.2.2.1
   have hrm : rmO T.ps T.no T.h T.t i := ⟨lc, ⟨by omega, by omega⟩, (or_mem v.od (by omega) (by omega)).2 tm⟩
   have hgv : gvO T.nx T.us T.fr i := ⟨ar_ak v.ar, by omega, by omega, by rw [Int.toNat_natCast]; exact hu⟩
   have hdp : dpO T.kx T.px T.ux k := by
    obtain ⟨j, hj, uj, e1, e2⟩ := inv_cell v hi hu
    refine ⟨ix_pc v.ix, ?_⟩
    have := ix_at v.ix hj uj
    rw [e1, ek] at this
    rw [this]; exact uj
   unfold drX drE
   rw [if_pos ⟨c, c3⟩, if_pos c, if_neg c3]
   refine dr_calls T k _ ?_ ?_ ?_ <;> dsimp only [At, Tr.q, dr_T]
   ·intro g; rw [neq_t] at g; exact absurd c g
   ·intro _ g; rw [lss_t] at g; exact absurd g c3
   ·intro _ _
    simp only [dr_c0, dr_c1, dr_c2, dr_c3, dr_c4, dr_c5, dr_c6, ep, if_pos hrm, if_pos hgv, if_pos hdp]
    refine ⟨?_, rfl⟩
    (repeat' (first | assumption | apply And.intro)) <;> first | exact trivial | rfl | ((try refine @decide_eq_true _ _ ?_); first | omega | (simp only [rowLen0, Col0.len, List.length_set, Int.toNat_natCast] <;> omega))
  ·have c3 : plV T k < 0 := by omega
   unfold drX drE
   rw [if_neg (fun n => n.2 c3), if_pos c, if_pos c3]
   refine calls_reads (ReadsNs.tup (.cons nilT (.refl _))) ?_
   refine dr_calls T k _ ?_ ?_ ?_ <;> dsimp only [At, Tr.q, dr_T]
   ·intro g; rw [neq_t] at g; exact absurd c g
   ·intro _ _; exact ⟨⟨⟨ho, hk⟩, ho, trivial⟩, rfl⟩
   ·intro _ g; rw [lss_f] at g; omega
 ·unfold drX drE
  rw [if_neg (fun n => c n.1), if_neg c]
  refine calls_reads (ReadsNs.tup (.cons nilT (.refl _))) ?_
  refine dr_calls T k _ ?_ ?_ ?_ <;> dsimp only [At, Tr.q, dr_T]
  ·intro _; exact ⟨⟨ho, trivial⟩, rfl⟩
  ·intro g; rw [neq_f] at g; exact absurd g c
  ·intro g; rw [neq_f] at g; exact absurd g c
def flC : List D → Option (D × List Prop)
 | [.agg [.v (.int .i64 b), .v (.int .i64 r), .v (.int .i64 p)], .v (.int .u64 a)] => some ((.tup [.agg [i64 (flZ b r p b), i64 (flZ b r p r), i64 (flZ b r p p), i64 (flZ b r p b), i64 0, u64 (flZ b r p a)], i64 (limV b r p)]), [])
 | _ => none
theorem flC_ok (args res l) (h : flC args = some (res, l)) (hl : AllP l) : CallsD Try.prog 33 args res := by
 unfold flC at h; split at h
 ·simp only [Option.some.injEq, Prod.mk.injEq] at h
  obtain ⟨rfl, rfl⟩ := h
  exact fl_ok _ _ _ _
 ·cases h
theorem fl3C_ok (args res l) (h : flC args = some (res, l)) (hl : AllP l) : CallsD Try.prog 56 args res := by
 unfold flC at h; split at h
 ·simp only [Option.some.injEq, Prod.mk.injEq] at h
  obtain ⟨rfl, rfl⟩ := h
  exact fl3_ok _ _ _ _
 ·cases h
noncomputable section
def drC : List D → Option (D × List Prop)
 | [.agg [.v (.int .i64 n), .rc [.ints .u32 ks], .rc [.ints .i64 x1, .ints .i64 x2, .ints .i64 x3, .ints .i64 x4, .ints .i64 x5, .ints .u64 x6], .rc [.ints .i64 nx], .rc [.bools us], .v (.int .i64 fr), .rc [.ints .u32 kx, .ints .i64 px, .bools ux], .rc [.ints .i64 ps], .rc [.ints .i64 no], .v (.int .i64 h), .v (.int .i64 t)], .v (.int .u32 k)] => some ((.tup [(drX ⟨n, ks, x1, x2, x3, x4, x5, x6, nx, us, fr, kx, px, ux, ps, no, h, t⟩ k).o, i64 (drE ⟨n, ks, x1, x2, x3, x4, x5, x6, nx, us, fr, kx, px, ux, ps, no, h, t⟩ k)]), [okT ⟨n, ks, x1, x2, x3, x4, x5, x6, nx, us, fr, kx, px, ux, ps, no, h, t⟩ ∧ inU k])
 | _ => none
end
theorem drC_ok (args res l) (h : drC args = some (res, l)) (hl : AllP l) : CallsD Try.prog 24 args res := by
 unfold drC at h; split at h
 ·simp only [Option.some.injEq, Prod.mk.injEq] at h
  obtain ⟨rfl, rfl⟩ := h
  exact dr_ok _ _ hl.1
 ·cases h
noncomputable def ltT (T : Tb) (m : Nat) (i : Int) (l : List Int) (k : Nat) (out : List Int) : Cs := ⟨TT.of [(1, D.ptr 32 0), (2, D.v (Value.slice none 0 0)), (3, D.sl 320 0 m ⟨1, 0⟩), (5, D.sl 9001 0 k ⟨1, 0⟩), (6, i64 i)], 31, [], [(32, T.b), (320, BX.row [.ints .i64 l] false), (9001, BX.row [.ints .u32 out] false)], none, 0⟩
end TableS
end

section
namespace TableS
open Go Go.Dam Go.Proofs
set_option maxRecDepth 1000000
noncomputable def ltL_T (T : Tb) (m : Nat) (i : Int) (l : List Int) (k : Nat) (out : List Int) : Tr (Ex × Cs) := .d (cmpI .lss i ↑m) (fun e0 => .s (decide (i < ↑m) = true) (.s (decide (0 ≤ i) = true) (.s (i.toNat < l.length) (.s (decide (l.getD i.toNat 0 < ↑(T.ks.length)) = true) (.s (decide (0 ≤ l.getD i.toNat 0) = true) (.s (out.length = out.length) (.s (k = out.length) (.s ((k + 1) * 4 ≤ 17592186044416) (.lf (Ex.normal, (ltT T (m) (opI .add .i64 i 1) (l) (k + 1) (out ++ [T.ks.getD (l.getD i.toNat 0).toNat 0])))))))))))) (fun e0 => .lf (Ex.exit 0, (ltT T (m) (i) (l) (k) (out))))
theorem ltL_L (T : Tb) (m : Nat) (i : Int) (l : List Int) (k : Nat) (out : List Int) : Leaves (roundT Try.prog (X15) 100000 (loopAt Try.prog 30 0) [[1, 2, 3, 5, 6]] [(32, 32), (320, 320), (9001, 9001)] (ltT T m i l k out)) (ltL_T T m i l k out) [] [] := by refine ⟨fun _ => ?_, fun _ => ?_⟩ <;> (show _ = _; kernel_rfl)
theorem ltL_step (T : Tb) (m : Nat) (i : Int) (l : List Int) (k : Nat) (out : List Int) (σ : St) (e : Ex) (h0 : At (RG Try.prog (loopAt Try.prog 30 0) e σ) (ltL_T T m i l k out) [true] True) (h1 : At (RG Try.prog (loopAt Try.prog 30 0) e σ) (ltL_T T m i l k out) [false] True) : Runs Try.prog (CallsD Try.prog) (.rounds (loopAt Try.prog 30 0)) (ltT T m i l k out).abs e σ := tree_rounds (hX15) (ltL_L T m i l k out) ⟨fun e0 => h0 e0, fun e0 => h1 e0⟩
noncomputable def ltF_c0 (T : Tb) := ltT T (rowLen0 [.ints .i64 (chL T.no T.h)]) 0 (chL T.no T.h) 0 []
noncomputable def ltF_c1 (T : Tb) (k : Nat) (i : Int) (out : List Int) := ltT T (rowLen0 [.ints .i64 (chL T.no T.h)]) i (chL T.no T.h) k out
noncomputable def ltF_T (T : Tb) (k : Nat) (i : Int) (out : List Int) : Tr D := .p (.k [Cast.nil 5 9001 1 [.ints .u32 []]]) (.p (.l [[1, 2, 3, 5, 6]] [(32, 32), (320, 320), (9001, 9001)] (ltF_c0 T) (Ex.exit 0) (ltF_c1 T k i out)) (.s (T.no.length ≤ 200) (.s (Runs Try.prog (CallsD Try.prog) (.code (.loop (loopAt Try.prog 30 0))) (ltF_c0 T).abs (Ex.exit 0) (ltF_c1 T k i out).abs) (.k ((ltT T (rowLen0 [.ints .i64 (chL T.no T.h)]) 0 (chL T.no T.h) 0 [] = ltT T (rowLen0 [.ints .i64 (chL T.no T.h)]) 0 (chL T.no T.h) 0 [])) rfl (.s (k = out.length) (.lf (D.oc [.ints .u32 out])))))))
theorem ltF_L (T : Tb) (k : Nat) (i : Int) (out : List Int) : Leaves (fun l => fnX Try.prog (X15) 100000 l 30 [T.d]) (ltF_T T k i out) [] [] := by show _ = _; kernel_rfl
theorem ltF_calls (T : Tb) (k : Nat) (i : Int) (out : List Int) (res : D) (h0 : At (fun r => res = r) (ltF_T T k i out) [] True) : CallsD Try.prog 30 [T.d] res := tree_calls (hX15) (ltF_L T k i out) h0
/-- The keys in the table's order, by the reference. -/
def ltV (T : Tb) : List Int := (chL T.no T.h).map fun i => T.ks.getD i.toNat 0
def ltS (T : Tb) : Prop := T.no.length ≤ 200 ∧ (chL T.no T.h).length ≤ 200 ∧ ∀ x ∈ chL T.no T.h, 0 ≤ x ∧ x < (T.ks.length : Int)
theorem lt_ok (T : Tb) (h : ltS T) : CallsD Try.prog 30 [T.d] (ou (ltV T)) := by
 obtain ⟨h1, h2, h3⟩ := h
 unfold ltV
 refine ltF_calls T (((chL T.no T.h).map fun i => T.ks.getD i.toNat 0)).length (chL T.no T.h).length ((chL T.no T.h).map fun i => T.ks.getD i.toNat 0) _ ?_ <;> dsimp only [At, Tr.q, ltF_T]
 refine ⟨⟨rfl, loop_of_rounds ?_, h1, trivial⟩, rfl⟩
 unfold ltF_c0 ltF_c1
 generalize chL T.no T.h = l at *
 have z := scan_all (P := Try.prog) (F := CallsD Try.prog) (b := loopAt Try.prog 30 0) (fun i => ltT T l.length (i : Int) l ((l.take i).map fun i => T.ks.getD i.toNat 0).length ((l.take i).map fun i => T.ks.getD i.toNat 0)) l.length (fun _ => True) (fun i hi _ σ e hr => ?_)
  (σ := (ltT T l.length l.length l (l.map fun i => T.ks.getD i.toNat 0).length (l.map fun i => T.ks.getD i.toNat 0)).abs) (e := .exit 0) ?_ l.length 0 (by omega) (fun _ _ _ => trivial)
 ·exact z
 ·have hx : l.getD i 0 ∈ l := by rw [List.getD_eq_getElem?_getD, List.getElem?_eq_getElem hi]; exact List.getElem_mem hi
  have hb := h3 _ hx
  refine ltL_step T _ i l _ _ σ e ?_ ?_ <;> dsimp only [At, Tr.q, RG, ltL_T]
  ·intro _
   rw [Int.toNat_natCast, succL hi (by omega)]
   refine ⟨?_, ?_⟩
   ·(repeat' apply And.intro) <;> first | exact trivial | rfl | exact decide_eq_true hb.1 | exact decide_eq_true (by omega) | exact (natLt hi).1 | exact (natLt hi).2 | omega | (rw [List.length_map, List.length_take]; omega)
   ·rw [map_snoc _ l i hi] at hr
    rw [List.length_append] at hr
    exact hr
  ·intro g; rw [lss_f] at g; omega
 ·rw [List.take_length]
  refine ltL_step T _ l.length l _ _ _ _ ?_ ?_ <;> dsimp only [At, Tr.q, RG, ltL_T]
  ·intro g; rw [lss_t] at g; omega
  ·intro _; exact ⟨trivial, rfl, rfl⟩
theorem inv_lt {T : Tb} {L F : List Int} (v : Inv T L F) : ltS T ∧ ltV T = L.map fun i => T.ks.getD i.toNat 0 := by
 have hc := (seg_chL v.od.2.2.2.2.1 (or_okL v.od)).1
 have l1 := okL_len (or_okL v.od)
 have l2 := v.od.2.2.1
 have l3 := v.od.2.1
 unfold ltS ltV
 rw [hc]
 exact ⟨⟨by omega, by omega, fun x hx => ⟨(inv_mem v hx).1, by have := (inv_mem v hx).2.1; have := v.sz.2.2.1; omega⟩⟩, rfl⟩
noncomputable section
def ltC : List D → Option (D × List Prop)
 | [.agg [.v (.int .i64 n), .rc [.ints .u32 ks], .rc [.ints .i64 x1, .ints .i64 x2, .ints .i64 x3, .ints .i64 x4, .ints .i64 x5, .ints .u64 x6], .rc [.ints .i64 nx], .rc [.bools us], .v (.int .i64 fr), .rc [.ints .u32 kx, .ints .i64 px, .bools ux], .rc [.ints .i64 ps], .rc [.ints .i64 no], .v (.int .i64 h), .v (.int .i64 t)]] => some ((ou (ltV ⟨n, ks, x1, x2, x3, x4, x5, x6, nx, us, fr, kx, px, ux, ps, no, h, t⟩)), [ltS ⟨n, ks, x1, x2, x3, x4, x5, x6, nx, us, fr, kx, px, ux, ps, no, h, t⟩])
 | _ => none
end
theorem ltC_ok (args res l) (h : ltC args = some (res, l)) (hl : AllP l) : CallsD Try.prog 30 args res := by
 unfold ltC at h; split at h
 ·simp only [Option.some.injEq, Prod.mk.injEq] at h
  obtain ⟨rfl, rfl⟩ := h
  exact lt_ok _ hl.1
 ·cases h
noncomputable def X18 : Contracts := addCon 33 (.call flC) (addCon 56 (.call flC) (addCon 24 (.call drC) (addCon 30 (.call ltC) X15)))
theorem hX18 : ConOK Try.prog X18 := addCall_ok flC_ok (addCall_ok fl3C_ok (addCall_ok drC_ok (addCall_ok ltC_ok hX15)))
end TableS
end

section
namespace TableS
open Go Go.Dam Go.Proofs
set_option maxRecDepth 1000000
noncomputable def t13_T (nx : List Int) (us : List Bool) (f : Int) : Tr D := .s (nx.length = nx.length) (.s (nx.length * 8 ≤ 17592186044416) (.s (us.length = us.length) (.s (us.length * 1 ≤ 17592186044416) (.q (us.length) (.q (nx.length) (.lf (D.agg [D.oc [.ints .i64 nx], D.oc [.bools us], i64 f])))))))
theorem t13_L (nx : List Int) (us : List Bool) (f : Int) : Leaves (fun l => fnX Try.prog (X18) 100000 l 36 [D.agg [ri nx, rb us, i64 f]]) (t13_T nx us f) [] [] := by show _ = _; kernel_rfl
theorem t13_calls (nx : List Int) (us : List Bool) (f : Int) (res : D) (h0 : At (fun r => res = r) (t13_T nx us f) [] True) : CallsD Try.prog 36 [D.agg [ri nx, rb us, i64 f]] res := tree_calls (hX18) (t13_L nx us f) h0
noncomputable def t15_T (ps : List Int) (no : List Int) (h : Int) (t : Int) : Tr D := .s ((Col0.ints .i64 ps).len = rowLen0 [.ints .i64 ps]) (.s (rowLen0 [.ints .i64 ps] * 8 ≤ 17592186044416) (.s ((Col0.ints .i64 no).len = rowLen0 [.ints .i64 no]) (.s (rowLen0 [.ints .i64 no] * 8 ≤ 17592186044416) (.q (rowLen0 [.ints .i64 no]) (.q (rowLen0 [.ints .i64 ps]) (.lf (D.agg [D.oc [.ints .i64 ps], D.oc [.ints .i64 no], i64 h, i64 t])))))))
theorem t15_L (ps no : List Int) (h t : Int) : Leaves (fun l => fnX Try.prog (X18) 100000 l 37 [D.agg [ri ps, ri no, i64 h, i64 t]]) (t15_T ps no h t) [] [] := by show _ = _; kernel_rfl
theorem t15_calls (ps no : List Int) (h t : Int) (res : D) (h0 : At (fun r => res = r) (t15_T ps no h t) [] True) : CallsD Try.prog 37 [D.agg [ri ps, ri no, i64 h, i64 t]] res := tree_calls (hX18) (t15_L ps no h t) h0
noncomputable def k3_T (nx : List Int) (us : List Bool) (f : Int) : Tr D := .s (nx.length ≤ 200) (.d (cmpI .neq (c13V nx us f) 0) (fun e0 => .s (nx.length ≤ 200) (.lf (D.tup [D.agg [D.v (Value.slice none 0 0), D.v (Value.slice none 0 0), i64 0], i64 0, i64 (c13V nx us f)]))) (fun e0 => .s (nx.length ≤ 200) (.d (cmpI .eql (((chL nx f).length : Int)) 0) (fun e1 => .lf (D.tup [D.agg [D.v (Value.slice none 0 0), D.v (Value.slice none 0 0), i64 0], i64 0, i64 18])) (fun e1 => .s (nx.length = nx.length) (.s (nx.length * 8 ≤ 17592186044416) (.s (us.length = us.length) (.s (us.length * 1 ≤ 17592186044416) (.s (decide (0 < ((chL nx f).length : Int)) = true) (.q (true) (.s (0 < (chL nx f).length) (.s (decide ((chL nx f).getD 0 0 < (us.length : Int)) = true) (.s (decide (0 ≤ (chL nx f).getD 0 0) = true) (.s (us.length = us.length) (.s (((chL nx f).getD 0 0).toNat < us.length) (.s (decide (0 < ((chL nx f).length : Int)) = true) (.q (true) (.s (0 < (chL nx f).length) (.s (decide ((chL nx f).getD 0 0 < (nx.length : Int)) = true) (.s (decide (0 ≤ (chL nx f).getD 0 0) = true) (.s (nx.length = nx.length) (.s (((chL nx f).getD 0 0).toNat < nx.length) (.d (cmpI .gtr (((chL nx f).length : Int)) 1) (fun e2 => .s (decide (1 < ((chL nx f).length : Int)) = true) (.q (true) (.s (1 < (chL nx f).length) (.s (decide (0 < ((chL nx f).length : Int)) = true) (.q (true) (.s (0 < (chL nx f).length) (.s (us.length = rowLen0 [.bools (us.set ((chL nx f).getD 0 0).toNat true)]) (.s (nx.length = rowLen0 [.ints .i64 (nx.set ((chL nx f).getD 0 0).toNat (-1))]) (.lf (D.tup [D.agg [D.oc [.ints .i64 (nx.set ((chL nx f).getD 0 0).toNat (-1))], D.oc [.bools (us.set ((chL nx f).getD 0 0).toNat true)], i64 ((chL nx f).getD 1 0)], i64 ((chL nx f).getD 0 0), i64 0])))))))))) (fun e2 => .s (decide (0 < ((chL nx f).length : Int)) = true) (.q (true) (.s (0 < (chL nx f).length) (.s (us.length = rowLen0 [.bools (us.set ((chL nx f).getD 0 0).toNat true)]) (.s (nx.length = rowLen0 [.ints .i64 (nx.set ((chL nx f).getD 0 0).toNat (-1))]) (.lf (D.tup [D.agg [D.oc [.ints .i64 (nx.set ((chL nx f).getD 0 0).toNat (-1))], D.oc [.bools (us.set ((chL nx f).getD 0 0).toNat true)], i64 (-1)], i64 ((chL nx f).getD 0 0), i64 0])))))))))))))))))))))))))))))
theorem k3_L (nx : List Int) (us : List Bool) (f : Int) : Leaves (fun l => fnX Try.prog (X18) 100000 l 55 [D.agg [ri nx, rb us, i64 f]]) (k3_T nx us f) [] [] := by refine ⟨fun _ => ?_, fun _ => ⟨fun _ => ?_, fun _ => ⟨fun _ => ?_, fun _ => ?_⟩⟩⟩ <;> (show _ = _; kernel_rfl)
theorem k3_calls (nx : List Int) (us : List Bool) (f : Int) (res : D) (h0 : At (fun r => res = r) (k3_T nx us f) [true] True) (h1 : At (fun r => res = r) (k3_T nx us f) [false, true] True) (h2 : At (fun r => res = r) (k3_T nx us f) [false, false, true] True) (h3 : At (fun r => res = r) (k3_T nx us f) [false, false, false] True) : CallsD Try.prog 55 [D.agg [ri nx, rb us, i64 f]] res := tree_calls (hX18) (k3_L nx us f) ⟨fun e0 => h0 e0, fun e0 => ⟨fun e1 => h1 e0 e1, fun e1 => ⟨fun e2 => h2 e0 e1 e2, fun e2 => h3 e0 e1 e2⟩⟩⟩
noncomputable def g3_T (nx : List Int) (us : List Bool) (f : Int) (p : Int) : Tr D := .s (nx.length ≤ 200) (.d (cmpI .neq (c13V nx us f) 0) (fun e0 => .s (nx.length ≤ 200) (.lf (D.tup [D.agg [D.v (Value.slice none 0 0), D.v (Value.slice none 0 0), i64 0], i64 (c13V nx us f)]))) (fun e0 => .d (cmpI .lss p 0) (fun e1 => .p (.c 4) (.lf (D.tup [D.agg [D.v (Value.slice none 0 0), D.v (Value.slice none 0 0), i64 0], i64 2]))) (fun e1 => .p (.c 3) (.d (cmpI .geq p (us.length : Int)) (fun e2 => .lf (D.tup [D.agg [D.v (Value.slice none 0 0), D.v (Value.slice none 0 0), i64 0], i64 2])) (fun e2 => .s (decide (p < (us.length : Int)) = true) (.s (decide (0 ≤ p) = true) (.d (!us.getD p.toNat false) (fun e3 => .lf (D.tup [D.agg [D.v (Value.slice none 0 0), D.v (Value.slice none 0 0), i64 0], i64 36])) (fun e3 => .s (nx.length = nx.length) (.s (nx.length * 8 ≤ 17592186044416) (.s (us.length = us.length) (.s (us.length * 1 ≤ 17592186044416) (.s (decide (p < (us.length : Int)) = true) (.s (decide (0 ≤ p) = true) (.s (us.length = us.length) (.s (p.toNat < us.length) (.s (decide (p < (nx.length : Int)) = true) (.s (decide (0 ≤ p) = true) (.s (nx.length = nx.length) (.s (p.toNat < nx.length) (.s (us.length = rowLen0 [.bools (us.set p.toNat false)]) (.s (nx.length = rowLen0 [.ints .i64 (nx.set p.toNat f)]) (.lf (D.tup [D.agg [D.oc [.ints .i64 (nx.set p.toNat f)], D.oc [.bools (us.set p.toNat false)], i64 p], i64 0])))))))))))))))))))))))
theorem g3_L (nx : List Int) (us : List Bool) (f p : Int) : Leaves (fun l => fnX Try.prog (X18) 100000 l 98 [D.agg [ri nx, rb us, i64 f], i64 p]) (g3_T nx us f p) [] [] := by refine ⟨fun _ => ?_, fun _ => ⟨fun _ => ?_, fun _ => ⟨fun _ => ?_, fun _ => ⟨fun _ => ?_, fun _ => ?_⟩⟩⟩⟩ <;> (show _ = _; kernel_rfl)
theorem g3_calls (nx : List Int) (us : List Bool) (f p : Int) (res : D) (h0 : At (fun r => res = r) (g3_T nx us f p) [true] True) (h1 : At (fun r => res = r) (g3_T nx us f p) [false, true] True) (h2 : At (fun r => res = r) (g3_T nx us f p) [false, false, true] True) (h3 : At (fun r => res = r) (g3_T nx us f p) [false, false, false, true] True) (h4 : At (fun r => res = r) (g3_T nx us f p) [false, false, false, false] True) : CallsD Try.prog 98 [D.agg [ri nx, rb us, i64 f], i64 p] res := tree_calls (hX18) (g3_L nx us f p) ⟨fun e0 => h0 e0, fun e0 => ⟨fun e1 => h1 e0 e1, fun e1 => ⟨fun e2 => h2 e0 e1 e2, fun e2 => ⟨fun e3 => h3 e0 e1 e2 e3, fun e3 => h4 e0 e1 e2 e3⟩⟩⟩⟩
noncomputable def c3_T (nx : List Int) (us : List Bool) (f : Int) : Tr D := .s (nx.length ≤ 200) (.d (cmpI .neq (c13V nx us f) 0) (fun e0 => .s (nx.length ≤ 200) (.lf (D.tup [i64 0, i64 0, i64 (c13V nx us f)]))) (fun e0 => .s (nx.length ≤ 200) (.lf (D.tup [i64 (opI .sub .i64 (us.length : Int) ((chL nx f).length : Int)), i64 ((chL nx f).length : Int), i64 0]))))
theorem c3_L (nx : List Int) (us : List Bool) (f : Int) : Leaves (fun l => fnX Try.prog (X18) 100000 l 53 [D.agg [ri nx, rb us, i64 f]]) (c3_T nx us f) [] [] := by refine ⟨fun _ => ?_, fun _ => ?_⟩ <;> (show _ = _; kernel_rfl)
theorem c3_calls (nx : List Int) (us : List Bool) (f : Int) (res : D) (h0 : At (fun r => res = r) (c3_T nx us f) [true] True) (h1 : At (fun r => res = r) (c3_T nx us f) [false] True) : CallsD Try.prog 53 [D.agg [ri nx, rb us, i64 f]] res := tree_calls (hX18) (c3_L nx us f) ⟨fun e0 => h0 e0, fun e0 => h1 e0⟩
/-! The reference's arenas are the code's. -/
theorem c13V_two (nx : List Int) (us : List Bool) (f : Int) : c13V nx us f = 0 ∨ c13V nx us f = 8 := by
 unfold c13V; (repeat' split) <;> first | exact .inl rfl | exact .inr rfl
theorem akV_two (nx : List Int) (us : List Bool) (f : Int) : akV nx us f = 0 ∨ akV nx us f = 8 := by
 unfold akV; (repeat' split) <;> first | exact .inl rfl | exact .inr rfl
theorem ak_eq (nx : List Int) (us : List Bool) (f : Int) : c13V nx us f = akV nx us f := by
 have := ak_c13 nx us f
 rcases c13V_two nx us f with a | a <;> rcases akV_two nx us f with b | b <;> omega
theorem t13_ok (nx : List Int) (us : List Bool) (f : Int) (h : nx.length ≤ 200 ∧ us.length ≤ 200) : CallsD Try.prog 36 [.agg [ri nx, rb us, i64 f]] (.agg [oi nx, ob us, i64 f]) :=
 t13_calls nx us f _ ⟨⟨by omega, rfl, by omega, rfl, trivial⟩, rfl⟩
theorem t15_ok (ps no : List Int) (h t : Int) (hl : ps.length ≤ 200 ∧ no.length ≤ 200) : CallsD Try.prog 37 [.agg [ri ps, ri no, i64 h, i64 t]] (.agg [oi ps, oi no, i64 h, i64 t]) :=
 t15_calls ps no h t _ ⟨⟨by show no.length * 8 ≤ _; omega, rfl, by show ps.length * 8 ≤ _; omega, rfl, trivial⟩, rfl⟩
theorem k3_ok (nx : List Int) (us : List Bool) (f : Int) (h : us.length ≤ 200 ∧ nx.length ≤ 200) : CallsD Try.prog 55 [.agg [ri nx, rb us, i64 f]]
  (.tup [.agg [oi (if tkO nx us f then nx.set f.toNat (-1) else []), ob (if tkO nx us f then us.set f.toNat true else []), i64 (if tkO nx us f then nx.getD f.toNat 0 else 0)], i64 (if tkO nx us f then f else 0), i64 (tkE nx us f)]) := by
 by_cases c : akV nx us f = 0
 ·have c' : c13V nx us f = 0 := by rw [ak_eq]; exact c
  obtain ⟨F, a⟩ := akV_ar c
  have hF := (seg_chL a.2.2.2.2.1 (ar_okL a)).1
  by_cases hf : f = -1
  ·have hO : ¬ tkO nx us f := fun o => o.2 hf
   have eF : F = [] := by
    rcases seg_rng a.2.2.2.2.1 with ⟨e, _⟩ | ⟨B, e⟩
    ·exact e
    ·have := seg_range a.2.2.2.2.1 f (by rw [e]; simp)
     omega
   simp only [if_neg hO]
   unfold tkE; rw [if_pos c, if_pos hf]
   refine calls_reads (ReadsNs.tup (.cons (nilA 0) (.refl _))) ?_
   refine k3_calls nx us f _ ?_ ?_ ?_ ?_ <;> dsimp only [At, Tr.q, k3_T]
   ·intro g; rw [neq_t] at g; exact absurd c' g
   ·intro _ _; exact ⟨⟨h.2, h.2, trivial⟩, rfl⟩
   ·intro _ g; rw [eql_f, hF, eF] at g; exact absurd rfl g
   ·intro _ g; rw [eql_f, hF, eF] at g; exact absurd rfl g
  ·have hO : tkO nx us f := ⟨c, hf⟩
   obtain ⟨F', eF, f0, f1, _⟩ := ar_take a hf
   have hs : Seg nx (nx.getD f.toNat 0) F' (-1) := by
    have := a.2.2.2.2.1
    rw [eF] at this; exact this.2.2
   have l3 := a.2.2.1
   simp only [if_pos hO]
   unfold tkE; rw [if_pos c, if_neg hf]
   rw [eF] at hF
   have g0 : (chL nx f).getD 0 0 = f := by rw [hF]; rfl
   have gl : (chL nx f).length = F'.length + 1 := by rw [hF]; simp
   refine k3_calls nx us f _ ?_ ?_ ?_ ?_ <;> dsimp only [At, Tr.q, k3_T]
   ·intro g; rw [neq_t] at g; exact absurd c' g
   ·intro _ g; rw [eql_t, gl] at g; omega
   ·intro _ _ g
    rw [gtr_t, gl] at g
    have g1 : (chL nx f).getD 1 0 = nx.getD f.toNat 0 := by
     rw [hF]
     cases F' with
     | nil => simp at g
     | cons x B => exact hs.1.symm
    rw [g0, g1, gl]
    refine ⟨?_, rfl⟩
    (repeat' apply And.intro) <;> first | exact trivial | rfl | omega | exact decide_eq_true (by omega) | (simp only [rowLen0, Col0.len, List.length_set])
   ·intro _ _ g
    rw [gtr_f, gl] at g
    have g1 : nx.getD f.toNat 0 = -1 := by
     cases F' with
     | nil => exact hs
     | cons x B => simp at g; omega
    rw [g0, g1, gl]
    refine ⟨?_, rfl⟩
    (repeat' apply And.intro) <;> first | exact trivial | rfl | omega | exact decide_eq_true (by omega) | (simp only [rowLen0, Col0.len, List.length_set])
 ·have c' : c13V nx us f ≠ 0 := by rw [ak_eq]; exact c
  have hO : ¬ tkO nx us f := fun o => c o.1
  simp only [if_neg hO]
  unfold tkE; rw [if_neg c, ← ak_eq]
  refine calls_reads (ReadsNs.tup (.cons (nilA 0) (.refl _))) ?_
  refine k3_calls nx us f _ ?_ ?_ ?_ ?_ <;> dsimp only [At, Tr.q, k3_T]
  ·intro _; exact ⟨⟨h.2, h.2, trivial⟩, rfl⟩
  ·intro g; rw [neq_f] at g; exact absurd g c'
  ·intro g; rw [neq_f] at g; exact absurd g c'
  ·intro g; rw [neq_f] at g; exact absurd g c'
theorem g3_ok (nx : List Int) (us : List Bool) (f p : Int) (h : us.length ≤ 200 ∧ nx.length ≤ 200) : CallsD Try.prog 98 [.agg [ri nx, rb us, i64 f], i64 p]
  (.tup [.agg [oi (if gvO nx us f p then nx.set p.toNat f else []), ob (if gvO nx us f p then us.set p.toNat false else []), i64 (if gvO nx us f p then p else 0)], i64 (gvE nx us f p)]) := by
 by_cases c : akV nx us f = 0
 ·have c' : c13V nx us f = 0 := by rw [ak_eq]; exact c
  have hl := (akV_is c).2.2.1
  by_cases r : 0 ≤ p ∧ p < (nx.length : Int)
  ·have d1 : decide (0 ≤ p) = true := decide_eq_true r.1
   have d2 : decide (p < (us.length : Int)) = true := decide_eq_true (by omega)
   have d3 : decide (p < (nx.length : Int)) = true := decide_eq_true r.2
   by_cases u : us.getD p.toNat false = true
   ·have hO : gvO nx us f p := ⟨c, r.1, r.2, u⟩
    simp only [if_pos hO]
    unfold gvE; rw [if_pos c, if_pos r, if_pos u]
    refine g3_calls nx us f p _ ?_ ?_ ?_ ?_ ?_ <;> dsimp only [At, Tr.q, g3_T]
    ·intro g; rw [neq_t] at g; exact absurd c' g
    ·intro _ g; rw [lss_t] at g; omega
    ·intro _ _ g; rw [geq_t] at g; omega
    ·intro _ _ _ g; rw [u] at g; cases g
    ·intro _ _ _ _
     refine ⟨?_, rfl⟩
     (repeat' apply And.intro) <;> first | exact trivial | rfl | assumption | omega | (simp only [rowLen0, Col0.len, List.length_set])
   ·have hO : ¬ gvO nx us f p := fun o => u o.2.2.2
    simp only [if_neg hO]
    unfold gvE; rw [if_pos c, if_pos r, if_neg u]
    refine calls_reads (ReadsNs.tup (.cons (nilA 0) (.refl _))) ?_
    refine g3_calls nx us f p _ ?_ ?_ ?_ ?_ ?_ <;> dsimp only [At, Tr.q, g3_T]
    ·intro g; rw [neq_t] at g; exact absurd c' g
    ·intro _ g; rw [lss_t] at g; omega
    ·intro _ _ g; rw [geq_t] at g; omega
    ·intro _ _ _ _; exact ⟨⟨d1, d2, h.2, trivial⟩, rfl⟩
    ·intro _ _ _ g; simp at g; simp [g] at u
  ·have hO : ¬ gvO nx us f p := fun o => r ⟨o.2.1, o.2.2.1⟩
   simp only [if_neg hO]
   unfold gvE; rw [if_pos c, if_neg r]
   refine calls_reads (ReadsNs.tup (.cons (nilA 0) (.refl _))) ?_
   refine g3_calls nx us f p _ ?_ ?_ ?_ ?_ ?_ <;> dsimp only [At, Tr.q, g3_T]
   ·intro g; rw [neq_t] at g; exact absurd c' g
   ·intro _ _; exact ⟨⟨h.2, trivial⟩, rfl⟩
   ·intro _ _ _; exact ⟨⟨h.2, trivial⟩, rfl⟩
   ·intro _ g g2; rw [lss_f] at g; rw [geq_f] at g2; exact absurd ⟨g, by omega⟩ r
   ·intro _ g g2; rw [lss_f] at g; rw [geq_f] at g2; exact absurd ⟨g, by omega⟩ r
 ·have c' : c13V nx us f ≠ 0 := by rw [ak_eq]; exact c
  have hO : ¬ gvO nx us f p := fun o => c o.1
  simp only [if_neg hO]
  unfold gvE; rw [if_neg c, ← ak_eq]
  refine calls_reads (ReadsNs.tup (.cons (nilA 0) (.refl _))) ?_
  refine g3_calls nx us f p _ ?_ ?_ ?_ ?_ ?_ <;> dsimp only [At, Tr.q, g3_T]
  ·intro _; exact ⟨⟨h.2, h.2, trivial⟩, rfl⟩
  ·intro g; rw [neq_f] at g; exact absurd g c'
  ·intro g; rw [neq_f] at g; exact absurd g c'
  ·intro g; rw [neq_f] at g; exact absurd g c'
  ·intro g; rw [neq_f] at g; exact absurd g c'
def c3U (nx : List Int) (us : List Bool) (f : Int) : Int := if akV nx us f = 0 then (us.length : Int) - (chL nx f).length else 0
def c3F (nx : List Int) (us : List Bool) (f : Int) : Int := if akV nx us f = 0 then ((chL nx f).length : Int) else 0
theorem c3_ok (nx : List Int) (us : List Bool) (f : Int) (h : nx.length ≤ 200) : CallsD Try.prog 53 [.agg [ri nx, rb us, i64 f]] (.tup [i64 (c3U nx us f), i64 (c3F nx us f), i64 (akV nx us f)]) := by
 unfold c3U c3F
 by_cases c : akV nx us f = 0
 ·have c' : c13V nx us f = 0 := by rw [ak_eq]; exact c
  obtain ⟨F, a⟩ := akV_ar c
  have l1 := okL_len (ar_okL a)
  have hF := (seg_chL a.2.2.2.2.1 (ar_okL a)).1
  have l3 := a.2.2.1
  have l4 := a.2.1
  rw [if_pos c, if_pos c, c]
  refine c3_calls nx us f _ ?_ ?_ <;> dsimp only [At, Tr.q, c3_T]
  ·intro g; rw [neq_t] at g; exact absurd c' g
  ·intro _
   refine ⟨⟨h, h, trivial⟩, ?_⟩
   have : opI .sub .i64 (us.length : Int) ((chL nx f).length : Int) = (us.length : Int) - (chL nx f).length := by
    rw [opI_sub, wrap_i64_of (by rw [hF]; omega) (by rw [hF]; omega)]
   rw [← this]
 ·have c' : c13V nx us f ≠ 0 := by rw [ak_eq]; exact c
  rw [if_neg c, if_neg c, ← ak_eq]
  refine c3_calls nx us f _ ?_ ?_ <;> dsimp only [At, Tr.q, c3_T]
  ·intro _; exact ⟨⟨h, h, trivial⟩, rfl⟩
  ·intro g; rw [neq_f] at g; exact absurd g c'
theorem t13C_ok (args res l) (h : awC args = some (res, l)) (hl : AllP l) : CallsD Try.prog 36 args res := by
 unfold awC at h; split at h
 ·simp only [Option.some.injEq, Prod.mk.injEq] at h
  obtain ⟨rfl, rfl⟩ := h; obtain ⟨h0, _⟩ := hl
  exact t13_ok _ _ _ h0
 ·cases h
theorem t15C_ok (args res l) (h : lwC args = some (res, l)) (hl : AllP l) : CallsD Try.prog 37 args res := by
 unfold lwC at h; split at h
 ·simp only [Option.some.injEq, Prod.mk.injEq] at h
  obtain ⟨rfl, rfl⟩ := h; obtain ⟨h0, _⟩ := hl
  exact t15_ok _ _ _ _ h0
 ·cases h
theorem k3C_ok (args res l) (h : tkC args = some (res, l)) (hl : AllP l) : CallsD Try.prog 55 args res := by
 unfold tkC at h; split at h
 ·simp only [Option.some.injEq, Prod.mk.injEq] at h
  obtain ⟨rfl, rfl⟩ := h; obtain ⟨h0, _⟩ := hl
  exact k3_ok _ _ _ h0
 ·cases h
theorem g3C_ok (args res l) (h : gvC args = some (res, l)) (hl : AllP l) : CallsD Try.prog 98 args res := by
 unfold gvC at h; split at h
 ·simp only [Option.some.injEq, Prod.mk.injEq] at h
  obtain ⟨rfl, rfl⟩ := h; obtain ⟨h0, _⟩ := hl
  exact g3_ok _ _ _ _ h0
 ·cases h
def c3C : List D → Option (D × List Prop)
 | [.agg [.rc [.ints .i64 nx], .rc [.bools us], .v (.int .i64 f)]] => some ((.tup [i64 (c3U nx us f), i64 (c3F nx us f), i64 (akV nx us f)]), [nx.length ≤ 200])
 | _ => none
theorem c3C_ok (args res l) (h : c3C args = some (res, l)) (hl : AllP l) : CallsD Try.prog 53 args res := by
 unfold c3C at h; split at h
 ·simp only [Option.some.injEq, Prod.mk.injEq] at h
  obtain ⟨rfl, rfl⟩ := h; obtain ⟨h0, _⟩ := hl
  exact c3_ok _ _ _ h0
 ·cases h
end TableS
end

section
namespace TableS
open Go Go.Dam Go.Proofs
set_option maxRecDepth 1000000
noncomputable def wiT (xs : List Int) (p i : Int) (k : Nat) (out : List Int) : Cs := ⟨TT.of [(0, ri xs), (1, i64 p), (4, D.v (Value.slice none 0 0)), (5, D.sl 9001 0 k ⟨1, 0⟩), (6, i64 i)], 27, [], [(9001, BX.row [.ints .i64 out] false)], none, 0⟩
end TableS
end

section
namespace TableS
open Go Go.Dam Go.Proofs
set_option maxRecDepth 1000000
noncomputable def wiL_T (xs : List Int) (p : Int) (i : Int) (k : Nat) (out : List Int) : Tr (Ex × Cs) := .d (cmpI .lss i (xs.length : Int)) (fun e0 => .s (decide (i < (xs.length : Int)) = true) (.s (decide (0 ≤ i) = true) (.d (cmpI .neq (xs.getD i.toNat 0) p) (fun e1 => .s (decide (i < (xs.length : Int)) = true) (.s (decide (0 ≤ i) = true) (.s (out.length = out.length) (.s (k = out.length) (.s ((k + 1) * 8 ≤ 17592186044416) (.lf (Ex.normal, (wiT (xs) (p) (opI .add .i64 i 1) (k + 1) (out ++ [xs.getD i.toNat 0]))))))))) (fun e1 => .lf (Ex.normal, (wiT (xs) (p) (opI .add .i64 i 1) (k) (out))))))) (fun e0 => .lf (Ex.exit 0, (wiT (xs) (p) (i) (k) (out))))
theorem wiL_L (xs : List Int) (p i : Int) (k : Nat) (out : List Int) : Leaves (roundT Try.prog (X18) 100000 (loopAt Try.prog 94 0) [[0, 1, 4, 5, 6]] [(9001, 9001)] (wiT xs p i k out)) (wiL_T xs p i k out) [] [] := by refine ⟨fun _ => ⟨fun _ => ?_, fun _ => ?_⟩, fun _ => ?_⟩ <;> (show _ = _; kernel_rfl)
theorem wiL_step (xs : List Int) (p : Int) (i : Int) (k : Nat) (out : List Int) (σ : St) (e : Ex) (h0 : At (RG Try.prog (loopAt Try.prog 94 0) e σ) (wiL_T xs p i k out) [true, true] True) (h1 : At (RG Try.prog (loopAt Try.prog 94 0) e σ) (wiL_T xs p i k out) [true, false] True) (h2 : At (RG Try.prog (loopAt Try.prog 94 0) e σ) (wiL_T xs p i k out) [false] True) : Runs Try.prog (CallsD Try.prog) (.rounds (loopAt Try.prog 94 0)) (wiT xs p i k out).abs e σ := tree_rounds (hX18) (wiL_L xs p i k out) ⟨fun e0 => ⟨fun e1 => h0 e0 e1, fun e1 => h1 e0 e1⟩, fun e0 => h2 e0⟩
noncomputable def wiF_T (xs : List Int) (p : Int) (i : Int) (k : Nat) (out : List Int) : Tr D := .p (.k [Cast.nil 5 9001 1 [.ints .i64 []]]) (.p (.l [[0, 1, 4, 5, 6]] [(9001, 9001)] (wiT xs p 0 0 []) (Ex.exit 0) (wiT xs p i k out)) (.s (Runs Try.prog (CallsD Try.prog) (.code (.loop (loopAt Try.prog 94 0))) (wiT xs p 0 0 []).abs (Ex.exit 0) (wiT xs p i k out).abs) (.k ((wiT xs p 0 0 [] = wiT xs p 0 0 [])) rfl (.s (k = out.length) (.lf (D.oc [.ints .i64 out]))))))
theorem wiF_L (xs : List Int) (p i : Int) (k : Nat) (out : List Int) : Leaves (fun l => fnX Try.prog (X18) 100000 l 94 [ri xs, i64 p]) (wiF_T xs p i k out) [] [] := by show _ = _; kernel_rfl
theorem wiF_calls (xs : List Int) (p i : Int) (k : Nat) (out : List Int) (res : D) (h0 : At (fun r => res = r) (wiF_T xs p i k out) [] True) : CallsD Try.prog 94 [ri xs, i64 p] res := tree_calls (hX18) (wiF_L xs p i k out) h0
theorem take_filter2 (P : Int → Bool) {l : List Int} {i : Nat} (h : i < l.length) : (l.take (i + 1)).filter P = (l.take i).filter P ++ if P (l.getD i 0) = true then [l.getD i 0] else [] := by
 rw [List.take_succ_eq_append_getElem h, List.filter_append]
 have : l.getD i 0 = l[i] := by rw [List.getD_eq_getElem?_getD, List.getElem?_eq_getElem h]; rfl
 rw [this]
 cases e : P l[i] <;> simp [e]
theorem wi_ok (xs : List Int) (p : Int) (hl : xs.length ≤ 200) : CallsD Try.prog 94 [ri xs, i64 p] (oi (wo xs p)) := by
 refine wiF_calls xs p xs.length (wo xs p).length (wo xs p) _ ?_ <;> dsimp only [At, Tr.q, wiF_T]
 refine ⟨⟨rfl, loop_of_rounds ?_, trivial⟩, rfl⟩
 have z := scan_all (P := Try.prog) (F := CallsD Try.prog) (b := loopAt Try.prog 94 0) (fun i => wiT xs p (i : Int) (wo (xs.take i) p).length (wo (xs.take i) p)) xs.length (fun _ => True) (fun i hi _ σ e hr => ?_)
  (σ := (wiT xs p xs.length (wo xs p).length (wo xs p)).abs) (e := .exit 0) ?_ xs.length 0 (by omega) (fun _ _ _ => trivial)
 ·exact z
 ·unfold wo at hr
  rw [take_filter2 _ hi] at hr
  have hle : ((xs.take i).filter fun x => decide (x ≠ p)).length ≤ 200 := by
   have := List.length_filter_le (fun x => decide (x ≠ p)) (xs.take i)
   rw [List.length_take] at this; omega
  have cast1 : opI .add .i64 (i : Int) 1 = ((i + 1 : Nat) : Int) := succL hi (by omega)
  unfold wo
  refine wiL_step xs p i _ _ σ e ?_ ?_ ?_ <;> dsimp only [At, Tr.q, RG, wiL_T]
  ·intro _ g1
   rw [Int.toNat_natCast, neq_t] at g1
   rw [if_pos (decide_eq_true g1), List.length_append] at hr
   simp only [Int.toNat_natCast, cast1]
   exact ⟨(by (repeat' apply And.intro) <;> first | exact trivial | rfl | exact hi | exact (natLt hi).1 | exact (natLt hi).2 | omega), hr⟩
  ·intro _ g1
   rw [Int.toNat_natCast, neq_f] at g1
   rw [if_neg (by rw [decide_eq_true_eq]; exact fun n => n g1), List.append_nil] at hr
   simp only [Int.toNat_natCast, cast1]
   exact ⟨(by (repeat' apply And.intro) <;> first | exact trivial | rfl | exact hi | exact (natLt hi).1 | exact (natLt hi).2 | omega), hr⟩
  ·intro g1; rw [lss_f] at g1; omega
 ·rw [List.take_length]
  refine wiL_step xs p xs.length _ _ _ _ ?_ ?_ ?_ <;> dsimp only [At, Tr.q, RG, wiL_T]
  ·intro g1; rw [lss_t] at g1; omega
  ·intro g1; rw [lss_t] at g1; omega
  ·intro _; exact ⟨trivial, rfl, rfl⟩
def wiC : List D → Option (D × List Prop)
 | [.rc [.ints .i64 xs], .v (.int .i64 p)] => some ((oi (wo xs p)), [xs.length ≤ 200])
 | _ => none
theorem wiC_ok (args res l) (h : wiC args = some (res, l)) (hl : AllP l) : CallsD Try.prog 94 args res := by
 unfold wiC at h; split at h
 ·simp only [Option.some.injEq, Prod.mk.injEq] at h
  obtain ⟨rfl, rfl⟩ := h; obtain ⟨h0, _⟩ := hl
  exact wi_ok _ _ h0
 ·cases h
noncomputable def X19 : Contracts := addCon 36 (.call awC) (addCon 37 (.call lwC) (addCon 55 (.call tkC) (addCon 98 (.call gvC) (addCon 53 (.call c3C) (addCon 94 (.call wiC) X18)))))
theorem hX19 : ConOK Try.prog X19 := addCall_ok t13C_ok (addCall_ok t15C_ok (addCall_ok k3C_ok (addCall_ok g3C_ok (addCall_ok c3C_ok (addCall_ok wiC_ok hX18)))))
end TableS
end

section
namespace TableS
open Go Go.Dam Go.Proofs
set_option maxRecDepth 1000000
noncomputable def ptT (kx px : List Int) (ux : List Bool) (k p i : Int) : Cs := ⟨TT.of [(1, u32 k), (2, i64 p), (6, D.v (Value.slice none 0 0)), (7, i64 0), (8, D.sl 960 0 kx.length ⟨3, 0⟩), (9, i64 i)], 48, [], [(960, BX.row [.ints .u32 kx, .ints .i64 px, .bools ux] false)], none, 0⟩
noncomputable def bhT (c k : Int) (b : Bool) (i : Int) : Cs := ⟨TT.of [(0, i64 c), (2, i64 k), (6, bo b), (7, i64 i)], 20, [], [], none, 0⟩
noncomputable def d4T (m : Nat) (e j : Int) (kx px : List Int) (ux : List Bool) : Cs := ⟨TT.of [(4, D.v (Value.slice none 0 0)), (5, i64 0), (6, i64 e), (7, D.sl 672 0 m ⟨3, 0⟩), (8, i64 j)], 59, [], [(672, BX.row [.ints .u32 kx, .ints .i64 px, .bools ux] false)], none, 0⟩
noncomputable def a6T (T : Tb) (k o i : Int) : Cs := ⟨TT.of [(1, u32 k), (2, D.ptr 64 0), (4, i64 o), (5, i64 i)], 28, [], [(64, T.b)], none, 0⟩
end TableS
end
