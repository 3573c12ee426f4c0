/- What the functions compute, and the law. No condition. -/
import Derived.Test.YtakcfkmfiamliaaTaVD
import Derived.Test.YtakcfkmfiamliaaTaVB
set_option linter.unusedSectionVars false
set_option linter.unusedVariables false
set_option linter.unusedSimpArgs false
section
namespace TableS
open Go Go.Dam Go.Proofs
set_option maxRecDepth 1000000
set_option linter.unusedVariables false
set_option linter.unusedSectionVars false
set_option linter.unusedSimpArgs false
/-- A table without the key at a place. -/
def Tb.without (T : Tb) (k : Int) (i : Nat) : Tb := ⟨T.n, T.ks.set i 0, T.x1.set i 0, T.x2.set i 0, T.x3.set i 0, T.x4.set i 0, T.x5.set i 0, T.x6.set i 0, T.nx.set i T.fr, T.us.set i false, i,
  (dpR T.kx T.px T.ux k).kx.set (dpR T.kx T.px T.ux k).i 0, (dpR T.kx T.px T.ux k).px.set (dpR T.kx T.px T.ux k).i 0, (dpR T.kx T.px T.ux k).ux.set (dpR T.kx T.px T.ux k).i false, rmP T.ps T.no i, rmN T.ps T.no i, rmH T.ps T.no T.h i, rmT T.ps T.no T.t i⟩
/-- A table with a key at the first free place. -/
def Tb.plus (T : Tb) (k b r p a : Int) : Tb := ⟨T.n, T.ks.set T.fr.toNat k, T.x1.set T.fr.toNat b, T.x2.set T.fr.toNat r, T.x3.set T.fr.toNat p, T.x4.set T.fr.toNat b, T.x5.set T.fr.toNat 0, T.x6.set T.fr.toNat a,
  T.nx.set T.fr.toNat (-1), T.us.set T.fr.toNat true, T.nx.getD T.fr.toNat 0, T.kx.set (lkI T.kx T.ux k) k, T.px.set (lkI T.kx T.ux k) T.fr, T.ux.set (lkI T.kx T.ux k) true,
  toP T.ps T.no T.h T.fr, toN T.ps T.no T.h T.fr, T.fr, toT T.ps T.no T.h T.t T.fr⟩
/-- A table with a place touched. -/
def Tb.touch (T : Tb) (i : Int) : Tb := { T with ps := toP T.ps T.no T.h i, no := toN T.ps T.no T.h i, h := i, t := toT T.ps T.no T.h T.t i }
theorem rmP_len (ps no : List Int) (p : Int) : (rmP ps no p).length = ps.length := by unfold rmP; split <;> simp
theorem rmN_len (ps no : List Int) (p : Int) : (rmN ps no p).length = no.length := by unfold rmN; split <;> simp
theorem toP_len (ps no : List Int) (h p : Int) : (toP ps no h p).length = ps.length := by unfold toP; (repeat' split) <;> simp [rmP_len]
theorem toN_len (ps no : List Int) (h p : Int) : (toN ps no h p).length = no.length := by unfold toN; rw [List.length_set]; split <;> simp [rmN_len]
theorem inv_us_len {T : Tb} {L F : List Int} (v : Inv T L F) : (T.us.length : Int) = T.n := by have := v.ar.2.2.1; have := v.sz.2.2.2.2.1; omega
theorem inv_touch {T : Tb} {L F : List Int} (v : Inv T L F) {i : Nat} (hi : (i : Int) < T.n) (hu : T.us.getD i false = true) : Inv (T.touch i) ((i : Int) :: wo L i) F := by
  obtain ⟨sz, ar, od, ix, us, ce, bk, zr⟩ := v
  have sz' := sz
  obtain ⟨s1, s2, s3, s4, s5, s6⟩ := sz'
  refine ⟨⟨s1, s2, s3, s4, s5, by show ((toP T.ps T.no T.h i).length : Int) = T.n; rw [toP_len]; exact s6⟩, ar, or_touch od (by omega) (by omega), ix, fun j hj => ?_, ce, bk, zr⟩
  show T.us.getD j false = decide ((j : Int) ∈ (i : Int) :: wo L i)
  rw [us j hj]
  rw [us i hi, decide_eq_true_eq] at hu
  by_cases e : j = i
  · subst e; simp [hu]
  · have : (j : Int) ≠ i := by omega
    simp [mem_wo, this]
theorem okT_touch {T : Tb} (ho : okT T) (i : Int) : okT (T.touch i) := by
  obtain ⟨h1, h2, h3, h4, h5, h6, h7, h8, h9, h10⟩ := ho
  exact ⟨h1, h2, h3, h4, h5, by show (toN T.ps T.no T.h i).length ≤ 200; rw [toN_len]; exact h6, h7, h8, h9, by show (toP T.ps T.no T.h i).length ≤ 200; rw [toP_len]; exact h10⟩
theorem z6_set {T U : Tb} {i : Nat} {a b c d e f : Int} (h1 : U.x1 = T.x1.set i a) (h2 : U.x2 = T.x2.set i b) (h3 : U.x3 = T.x3.set i c) (h4 : U.x4 = T.x4.set i d) (h5 : U.x5 = T.x5.set i e) (h6 : U.x6 = T.x6.set i f) :
    ∀ j, i ≠ j → z6 U j = z6 T j ∧ bk6 U j = bk6 T j := fun j n => by
  unfold z6 bk6
  rw [h1, h2, h3, h4, h5, h6, getD_set_ne n, getD_set_ne n, getD_set_ne n, getD_set_ne n, getD_set_ne n, getD_set_ne n]
  exact ⟨rfl, rfl⟩
theorem inv_without {T : Tb} (ho : okT T) {L F : List Int} (v : Inv T L F) {i : Nat} {k : Int} (hk : inU k) (hi : (i : Int) < T.n) (hu : T.us.getD i false = true) (e : T.ks.getD i 0 = k) :
    Inv (T.without k i) (wo L i) ((i : Int) :: F) ∧ ctN 16 (T.without k i).ux + 1 = ctN 16 T.ux := by
  have vk := @inv_keys _ _ _ v
  have ul := inv_us_len v
  have hc := inv_cell v hi hu
  rw [e] at hc
  obtain ⟨ix', ct', ce'⟩ := ix_drop v.ix hk hc
  have hm : (i : Int) ∈ L := by have := v.us i hi; rw [hu] at this; simpa using this.symm
  obtain ⟨sz, ar, od, ix, us, ce, bk, zr⟩ := v
  have sz' := sz
  obtain ⟨s1, s2, s3, s4, s5, s6⟩ := sz'
  obtain ⟨_, k2, k3, k4, k5, k6⟩ := ho.2.2.2.2.2.2.1
  have zz := @z6_set T (T.without k i) i 0 0 0 0 0 0 rfl rfl rfl rfl rfl rfl
  have u1 : (T.us.set i false).getD i false = false := getB_set_self (by omega)
  have u2 : ∀ j, i ≠ j → (T.us.set i false).getD j false = T.us.getD j false := fun j n => getB_set_ne n
  have u3 : ∀ j, (T.us.set i false).getD j false = true → i ≠ j ∧ T.us.getD j false = true := fun j u => by
    by_cases q : i = j
    · subst q; rw [u1] at u; cases u
    · exact ⟨q, by rwa [u2 j q] at u⟩
  have q2 : ∀ j, i ≠ j → (T.ks.set i 0).getD j 0 = T.ks.getD j 0 := fun j n => getD_set_ne n
  refine ⟨⟨⟨s1, s2, ?_, ?_, ?_, ?_⟩, ?_, or_remove od hm, ix', fun j hj => ?_, fun m q => ?_, fun j hj u => ?_, fun j hj u => ?_⟩, ct'⟩
  · show ((T.ks.set i 0).length : Int) = T.n; rw [List.length_set]; exact s3
  · show ((T.x1.set i 0).length : Int) = T.n; rw [List.length_set]; exact s4
  · show ((T.nx.set i T.fr).length : Int) = T.n; rw [List.length_set]; exact s5
  · show ((rmP T.ps T.no i).length : Int) = T.n; rw [rmP_len]; exact s6
  · have := ar_give ar (p := i) (by omega) (by omega) (by rw [Int.toNat_natCast]; exact hu)
    rw [Int.toNat_natCast] at this; exact this
  · show (T.us.set i false).getD j false = decide ((j : Int) ∈ wo L i)
    change (j : Int) < T.n at hj
    by_cases q : i = j
    · subst q; rw [u1]; simp [mem_wo]
    · have : (j : Int) ≠ i := by omega
      rw [u2 j q, us j hj]; simp [mem_wo, this]
  · refine (ce' m q).trans ⟨?_, ?_⟩
    · rintro ⟨c, n⟩
      obtain ⟨j, a1, a2, a3, a4⟩ := (ce m q).1 c
      have q : i ≠ j := fun q => n (by rw [← a4, ← q]; exact e)
      exact ⟨j, a1, a2, by show (T.us.set i false).getD j false = true; rw [u2 j q]; exact a3, by show (T.ks.set i 0).getD j 0 = m; rw [q2 j q]; exact a4⟩
    · rintro ⟨j, a1, a2, a3, a4⟩
      obtain ⟨q, a3⟩ := u3 j a3
      change (T.ks.set i 0).getD j 0 = m at a4
      rw [q2 j q] at a4
      exact ⟨(ce m _).2 ⟨j, a1, a2, a3, a4⟩, fun n => q (vk hi a2 hu a3 (by rw [e, a4, n]))⟩
  · obtain ⟨q, u⟩ := u3 j u
    rw [(zz j q).2]; exact bk j hj u
  · change (j : Int) < T.n at hj
    by_cases q : i = j
    · subst q
      refine ⟨by show (T.ks.set i 0).getD i 0 = 0; rw [getD_set_self (by omega)], ?_⟩
      unfold z6
      show ((T.x1.set i 0).getD i 0 == 0 && ((T.x2.set i 0).getD i 0 == 0 && ((T.x3.set i 0).getD i 0 == 0 && ((T.x4.set i 0).getD i 0 == 0 && ((T.x5.set i 0).getD i 0 == 0 && (T.x6.set i 0).getD i 0 == 0))))) = true
      rw [getD_set_self (by omega), getD_set_self (by omega), getD_set_self (by omega), getD_set_self (by omega), getD_set_self (by omega), getD_set_self (by omega)]; rfl
    · have u' : T.us.getD j false = false := by rw [← u2 j q]; exact u
      have := zr j hj u'
      exact ⟨by show (T.ks.set i 0).getD j 0 = 0; rw [q2 j q]; exact this.1, by rw [(zz j q).1]; exact this.2⟩
theorem inU_set {l : List Int} {i : Nat} {x : Int} (h : ∀ j, j < l.length → inU (l.getD j 0)) (hx : inU x) : ∀ j, j < (l.set i x).length → inU ((l.set i x).getD j 0) := fun j hj => by
  rw [List.length_set] at hj
  by_cases e : i = j
  · subst e; rw [getD_set_self hj]; exact hx
  · rw [getD_set_ne e]; exact h j hj
theorem in64_set {l m : List Int} {i : Nat} {x : Int} (hl : m.length = l.length) (h : ∀ j, j < l.length → in64 (m.getD j 0)) (hx : in64 x) (y : Int) : ∀ j, j < (l.set i y).length → in64 ((m.set i x).getD j 0) := fun j hj => by
  rw [List.length_set] at hj
  by_cases e : i = j
  · subst e; rw [getD_set_self (by omega)]; exact hx
  · rw [getD_set_ne e]; exact h j hj
theorem kcS_set {x1 x2 x3 x4 x5 x6 : List Int} {i : Nat} {a b c d e f : Int} (h : kcS x1 x2 x3 x4 x5 x6) : kcS (x1.set i a) (x2.set i b) (x3.set i c) (x4.set i d) (x5.set i e) (x6.set i f) := by
  unfold kcS at h ⊢; simp only [List.length_set]; exact h
theorem okT_without {T : Tb} (ho : okT T) {L F : List Int} (v : Inv T L F) {i : Nat} {k : Int} (hk : inU k) (hi : (i : Int) < T.n) (hu : T.us.getD i false = true) (e : T.ks.getD i 0 = k) : okT (T.without k i) := by
  have w := (inv_without ho v hk hi hu e).1
  obtain ⟨h1, h2, h3, h4, h5, h6, h7, h8, h9, h10⟩ := ho
  refine ⟨ix_okI w.ix, inU_set h2 (by unfold inU; omega), in64_set h7.2.2.2.1 h3 (by unfold in64; omega) 0, ?_, ?_, ?_, kcS_set h7, ix_cc w.ix, ?_, ?_⟩
  · show (T.nx.set i T.fr).length ≤ 200; rw [List.length_set]; exact h4
  · show (T.us.set i false).length ≤ 200; rw [List.length_set]; exact h5
  · show (rmN T.ps T.no i).length ≤ 200; rw [rmN_len]; exact h6
  · show (T.ks.set i 0).length ≤ 200; rw [List.length_set]; exact h9
  · show (rmP T.ps T.no i).length ≤ 200; rw [rmP_len]; exact h10
theorem bkV_full {b r p : Int} (h : limV b r p = 0) : bkV b r p b 0 = 0 := by
  unfold limV at h; unfold bkV
  split at h
  next c => rw [if_pos]; omega
  next => cases h
theorem limV_in64 {b r p : Int} (h : limV b r p = 0) : in64 b := by
  unfold limV at h
  split at h
  next c => unfold in64; omega
  next => cases h
/-- The free places and the used ones. -/
theorem inv_free {T : Tb} {L F : List Int} (v : Inv T L F) (x : Int) (h0 : 0 ≤ x) (h1 : x < T.n) : x ∈ F ↔ x ∉ L := by
  have a := (v.ar.2.2.2.2.2 x.toNat (by have := v.sz.2.2.2.2.1; omega)).1
  have b := v.us x.toNat (by omega)
  rw [show ((x.toNat : Nat) : Int) = x by omega] at a b
  rw [a] at b
  by_cases c : x ∈ F <;> by_cases d : x ∈ L <;> simp [c, d] at b ⊢
theorem inv_plus {T : Tb} (ho : okT T) {L F : List Int} (v : Inv T L F) {k b r p a : Int} (hk : inU k) (hf : T.fr ≠ -1) (hn : ∀ i : Nat, (i : Int) < T.n → T.us.getD i false = true → T.ks.getD i 0 ≠ k) (hb : limV b r p = 0) :
    ∃ F', F = T.fr :: F' ∧ 0 ≤ T.fr ∧ T.fr < T.n ∧ T.fr ∉ L ∧ Inv (T.plus k b r p a) (T.fr :: L) F' := by
  have ul := inv_us_len v
  have hct := inv_count v
  obtain ⟨F', eF, f0, f1, ar'⟩ := ar_take v.ar hf
  have hfree := inv_free v T.fr f0 (by have := v.sz.2.2.2.2.1; omega)
  have hnL : T.fr ∉ L := hfree.1 (by rw [eF]; simp)
  have hlen : L.length ≤ 8 := by
    have := okL_len (or_okL v.od)
    have := v.od.2.2.1
    have := v.sz.2.1
    have := v.sz.2.2.2.2.2
    omega
  have hfn : T.fr < T.n := by have := v.sz.2.2.2.2.1; omega
  obtain ⟨ix', _, ce'⟩ := ix_put v.ix (k := k) (p := T.fr) hk ⟨f0, by have := v.sz.2.1; omega⟩ (fun q c => by
    obtain ⟨j, _, b1, b2, b3⟩ := (v.ce _ _).1 c
    exact hn j b1 b2 b3) (by omega)
  obtain ⟨sz, ar, od, ix, us, ce, bk, zr⟩ := v
  have sz' := sz
  obtain ⟨s1, s2, s3, s4, s5, s6⟩ := sz'
  obtain ⟨_, k2, k3, k4, k5, k6⟩ := ho.2.2.2.2.2.2.1
  have od' := or_touch od (p := T.fr) f0 (by omega)
  rw [wo_none hnL] at od'
  obtain ⟨i, ei⟩ : ∃ i : Nat, T.fr = i := ⟨T.fr.toNat, by omega⟩
  have et : T.fr.toNat = i := by omega
  have zz := @z6_set T (T.plus k b r p a) T.fr.toNat b r p b 0 a rfl rfl rfl rfl rfl rfl
  rw [et] at zz
  have u1 : (T.us.set T.fr.toNat true).getD i false = true := by rw [et]; exact getB_set_self (by omega)
  have u2 : ∀ j, i ≠ j → (T.us.set T.fr.toNat true).getD j false = T.us.getD j false := fun j n => by rw [et]; exact getB_set_ne n
  have q1 : (T.ks.set T.fr.toNat k).getD i 0 = k := by rw [et]; exact getD_set_self (by omega)
  have q2 : ∀ j, i ≠ j → (T.ks.set T.fr.toNat k).getD j 0 = T.ks.getD j 0 := fun j n => by rw [et]; exact getD_set_ne n
  have ui : T.us.getD i false = false := by
    rw [us i (by omega), ← ei]; simpa using hnL
  refine ⟨F', eF, f0, hfn, hnL, ⟨⟨s1, s2, ?_, ?_, ?_, ?_⟩, ar', od', ix', fun j hj => ?_, fun m q => ?_, fun j hj u => ?_, fun j hj u => ?_⟩⟩
  · show ((T.ks.set T.fr.toNat k).length : Int) = T.n; rw [List.length_set]; exact s3
  · show ((T.x1.set T.fr.toNat b).length : Int) = T.n; rw [List.length_set]; exact s4
  · show ((T.nx.set T.fr.toNat (-1)).length : Int) = T.n; rw [List.length_set]; exact s5
  · show ((toP T.ps T.no T.h T.fr).length : Int) = T.n; rw [toP_len]; exact s6
  · show (T.us.set T.fr.toNat true).getD j false = decide ((j : Int) ∈ T.fr :: L)
    change (j : Int) < T.n at hj
    by_cases q : i = j
    · subst q; rw [u1, ei]; simp
    · have : (j : Int) ≠ i := by omega
      rw [u2 j q, us j hj, ei]; simp [this]
  · refine (ce' m q).trans ⟨?_, ?_⟩
    · rintro (c | ⟨c1, c2⟩)
      · obtain ⟨j, a1, a2, a3, a4⟩ := (ce m q).1 c
        have n : i ≠ j := fun n => by subst n; rw [ui] at a3; cases a3
        exact ⟨j, a1, a2, by show (T.us.set T.fr.toNat true).getD j false = true; rw [u2 j n]; exact a3, by show (T.ks.set T.fr.toNat k).getD j 0 = m; rw [q2 j n]; exact a4⟩
      · exact ⟨i, by rw [c2]; exact ei, by show (i : Int) < T.n; omega, u1, by rw [c1]; exact q1⟩
    · rintro ⟨j, a1, a2, a3, a4⟩
      change (T.us.set T.fr.toNat true).getD j false = true at a3
      change (T.ks.set T.fr.toNat k).getD j 0 = m at a4
      by_cases n : i = j
      · subst n
        rw [q1] at a4
        exact .inr ⟨a4.symm, by rw [a1]; exact ei.symm⟩
      · rw [u2 j n] at a3; rw [q2 j n] at a4
        exact .inl ((ce m q).2 ⟨j, a1, a2, a3, a4⟩)
  · change (T.us.set T.fr.toNat true).getD j false = true at u
    change (j : Int) < T.n at hj
    by_cases q : i = j
    · subst q
      unfold bk6
      show bkV ((T.x1.set T.fr.toNat b).getD i 0) ((T.x2.set T.fr.toNat r).getD i 0) ((T.x3.set T.fr.toNat p).getD i 0) ((T.x4.set T.fr.toNat b).getD i 0) ((T.x5.set T.fr.toNat 0).getD i 0) = 0
      rw [et, getD_set_self (by omega), getD_set_self (by omega), getD_set_self (by omega), getD_set_self (by omega), getD_set_self (by omega)]
      exact bkV_full hb
    · rw [u2 j q] at u
      rw [(zz j q).2]; exact bk j hj u
  · change (T.us.set T.fr.toNat true).getD j false = false at u
    change (j : Int) < T.n at hj
    have q : i ≠ j := fun q => by subst q; rw [u1] at u; cases u
    rw [u2 j q] at u
    have := zr j hj u
    exact ⟨by show (T.ks.set T.fr.toNat k).getD j 0 = 0; rw [q2 j q]; exact this.1, by rw [(zz j q).1]; exact this.2⟩
theorem okT_plus {T : Tb} (ho : okT T) {L F : List Int} (v : Inv T L F) {k b r p a : Int} (hk : inU k) (hf : T.fr ≠ -1) (hn : ∀ i : Nat, (i : Int) < T.n → T.us.getD i false = true → T.ks.getD i 0 ≠ k) (hb : limV b r p = 0) : okT (T.plus k b r p a) := by
  obtain ⟨_, _, _, _, _, w⟩ := inv_plus (a := a) ho v hk hf hn hb
  obtain ⟨h1, h2, h3, h4, h5, h6, h7, h8, h9, h10⟩ := ho
  refine ⟨ix_okI w.ix, inU_set h2 hk, in64_set h7.2.2.2.1 h3 (limV_in64 hb) b, ?_, ?_, ?_, kcS_set h7, ix_cc w.ix, ?_, ?_⟩
  · show (T.nx.set T.fr.toNat (-1)).length ≤ 200; rw [List.length_set]; exact h4
  · show (T.us.set T.fr.toNat true).length ≤ 200; rw [List.length_set]; exact h5
  · show (toN T.ps T.no T.h T.fr).length ≤ 200; rw [toN_len]; exact h6
  · show (T.ks.set T.fr.toNat k).length ≤ 200; rw [List.length_set]; exact h9
  · show (toP T.ps T.no T.h T.fr).length ≤ 200; rw [toP_len]; exact h10
/-- A table without a free place is full: its list has as many places as it. -/
theorem inv_full {T : Tb} {L F : List Int} (v : Inv T L F) : (L.length : Int) + F.length = T.n := by
  have hL := v.od.2.2.2.1
  have hF := v.ar.2.2.2.1
  have rF := seg_range v.ar.2.2.2.2.1
  obtain ⟨s1, s2, s3, s4, s5, s6⟩ := v.sz
  have rL : ∀ x ∈ L, 0 ≤ x ∧ x < T.n := fun x hx => ⟨(inv_mem v hx).1, (inv_mem v hx).2.1⟩
  have rF' : ∀ x ∈ F, 0 ≤ x ∧ x < T.n := fun x hx => by have := rF x hx; omega
  have nd : (L ++ F).Nodup := by
    rw [List.nodup_append]
    exact ⟨hL, hF, fun x hx y hy e => by subst e; exact (inv_free v x (rL x hx).1 (rL x hx).2).1 hy hx⟩
  have d1 := toNat_nodup nd fun x hx => by
    rcases List.mem_append.1 hx with m | m
    · exact (rL x m).1
    · exact (rF' x m).1
  have l1 := nodup_le d1 (M := List.range T.n.toNat) fun x hx => by
    obtain ⟨y, hy, e⟩ := List.mem_map.1 hx
    rw [List.mem_range]
    rcases List.mem_append.1 hy with m | m
    · have := rL y m; omega
    · have := rF' y m; omega
  have l2 := nodup_le (List.nodup_range (n := T.n.toNat)) (M := (L ++ F).map Int.toNat) fun x hx => by
    rw [List.mem_range] at hx
    have hx' : (x : Int) < T.n := by omega
    rw [List.mem_map]
    by_cases c : (x : Int) ∈ L
    · exact ⟨x, by simp [c], by omega⟩
    · exact ⟨x, by rw [List.mem_append]; exact .inr ((inv_free v x (by omega) hx').2 c), by omega⟩
  simp only [List.length_map, List.length_append, List.length_range] at l1 l2
  omega
end TableS
end

section
namespace TableS
open Go Go.Dam Go.Proofs
set_option maxRecDepth 1000000
set_option linter.unusedVariables false
set_option linter.unusedSectionVars false
set_option linter.unusedSimpArgs false
/-- A table without its last key. -/
def Tb.less (T : Tb) : Tb := T.without (T.ks.getD T.t.toNat 0) T.t.toNat
def usW (T : Tb) (k b r p : Int) : Prop := tcV T = 0 ∧ limV b r p = 0 ∧ plV T k < 0 ∧ T.fr = -1
instance (T : Tb) (k b r p : Int) : Decidable (usW T k b r p) := by unfold usW; exact inferInstance
/-- A table after a use; who had to go; the error. -/
def usR (T : Tb) (k b r p a : Int) : Tb := if tcV T = 0 ∧ limV b r p = 0 then (if plV T k < 0 then (if T.fr = -1 then T.less.plus k b r p a else T.plus k b r p a) else T.touch (plV T k)) else t0
def usG (T : Tb) (k b r p : Int) : Int := if usW T k b r p then T.ks.getD T.t.toNat 0 else 0
def usE (T : Tb) (b r p : Int) : Int := if tcV T = 0 then limV b r p else tcV T
theorem inv_pl {T : Tb} {L F : List Int} (v : Inv T L F) {k : Int} (hk : inU k) : (∃ i : Nat, plV T k = i ∧ (i : Int) < T.n ∧ T.us.getD i false = true ∧ T.ks.getD i 0 = k) ∨ (plV T k = -1 ∧ ∀ i : Nat, (i : Int) < T.n → T.us.getD i false = true → T.ks.getD i 0 ≠ k) := by
  unfold plV
  rcases inv_at v k with ⟨i, a, b, c⟩ | h
  · obtain ⟨e1, e2⟩ := inv_has v hk a b c
    exact .inl ⟨i, by rw [if_pos e1, e2], a, b, c⟩
  · obtain ⟨e1, _, _⟩ := inv_no v hk h
    exact .inr ⟨by rw [if_neg (by rw [e1]; omega)], h⟩
theorem plus_side {T : Tb} (ho : okT T) {L F : List Int} (v : Inv T L F) {k : Int} (hk : inU k) (hf : T.fr ≠ -1) (hn : ∀ i : Nat, (i : Int) < T.n → T.us.getD i false = true → T.ks.getD i 0 ≠ k) :
    tkO T.nx T.us T.fr ∧ tkE T.nx T.us T.fr = 0 ∧ ppO T.kx T.px T.ux k T.fr ∧ toO T.ps T.no T.h T.t T.fr ∧ 0 ≤ T.fr ∧ T.fr < T.n := by
  obtain ⟨F', eF, f0, f1, _⟩ := ar_take v.ar hf
  have hc := inv_count v
  obtain ⟨s1, s2, s3, s4, s5, s6⟩ := v.sz
  have hl := okL_len (or_okL v.od)
  have hl2 := v.od.2.2.1
  have ak := ar_ak v.ar
  refine ⟨⟨ak, hf⟩, by unfold tkE; rw [if_pos ak, if_neg hf], ⟨ix_pc v.ix, ⟨f0, by omega⟩, (inv_no v hk hn).2.2, by rw [v.ix.1.1]; omega⟩, ⟨or_lc v.od, f0, by omega⟩, f0, by omega⟩
theorem okT_lens {T : Tb} (ho : okT T) {L F : List Int} (v : Inv T L F) : (T.ks.length : Int) = T.n ∧ (T.x1.length : Int) = T.n ∧ (T.x2.length : Int) = T.n ∧ (T.x3.length : Int) = T.n ∧ (T.x4.length : Int) = T.n ∧ (T.x5.length : Int) = T.n ∧ (T.x6.length : Int) = T.n := by
  obtain ⟨s1, s2, s3, s4, s5, s6⟩ := v.sz
  obtain ⟨_, k2, k3, k4, k5, k6⟩ := ho.2.2.2.2.2.2.1
  omega
/-- What goes: the last one. -/
theorem inv_last {T : Tb} {L F : List Int} (v : Inv T L F) (hf : T.fr = -1) : F = [] ∧ ∃ (i : Nat) (A : List Int), T.t = i ∧ L = A ++ [T.t] ∧ (i : Int) < T.n ∧ T.us.getD i false = true := by
  have hF : F = [] := by
    rcases seg_rng v.ar.2.2.2.2.1 with ⟨e, _⟩ | ⟨B, e⟩
    · exact e
    · have := (seg_range v.ar.2.2.2.2.1) T.fr (by rw [e]; simp)
      omega
  have hl := inv_full v
  rw [hF] at hl
  simp only [List.length_nil] at hl
  have hne : L ≠ [] := fun e => by
    rw [e] at hl
    have := v.sz.1
    simp only [List.length_nil] at hl
    omega
  obtain ⟨A, eA⟩ := or_tail v.od hne
  obtain ⟨a, b, c⟩ := inv_mem v (x := T.t) (by rw [eA]; simp)
  exact ⟨hF, T.t.toNat, A, by omega, eA, by omega, c⟩
theorem less_inv {T : Tb} (ho : okT T) {L F : List Int} (v : Inv T L F) (hf : T.fr = -1) : Inv T.less (wo L T.t) [T.t] ∧ okT T.less := by
  obtain ⟨hF, i, A, ei, eA, hi, hu⟩ := inv_last v hf
  have et : T.t.toNat = i := by omega
  have hg : inU (T.ks.getD i 0) := ho.2.1 i (by have := v.sz.2.2.1; omega)
  have w := (inv_without ho v hg hi hu rfl).1
  have w2 := okT_without ho v hg hi hu rfl
  unfold Tb.less
  rw [et]
  rw [hF] at w
  rw [ei]
  exact ⟨w, w2⟩
theorem less_no {T : Tb} (ho : okT T) {L F : List Int} (v : Inv T L F) (hf : T.fr = -1) {k : Int} (hn : ∀ i : Nat, (i : Int) < T.n → T.us.getD i false = true → T.ks.getD i 0 ≠ k) :
    ∀ j : Nat, (j : Int) < T.less.n → T.less.us.getD j false = true → T.less.ks.getD j 0 ≠ k := fun j hj u => by
  obtain ⟨hF, i, A, ei, eA, hi, hu⟩ := inv_last v hf
  have ul := inv_us_len v
  have et : T.t.toNat = i := by omega
  change (j : Int) < T.n at hj
  change (T.us.set T.t.toNat false).getD j false = true at u
  show (T.ks.set T.t.toNat 0).getD j 0 ≠ k
  rw [et] at u ⊢
  have q : i ≠ j := fun q => by subst q; rw [getB_set_self (by omega)] at u; cases u
  rw [getB_set_ne q] at u
  rw [getD_set_ne q]
  exact hn j hj u
theorem us_ok (T : Tb) (k b r p a : Int) (h : okT T ∧ inU k) : CallsD Try.prog 14 [T.d, u32 k, .agg [i64 b, i64 r, i64 p], u64 a] (.tup [(usR T k b r p a).o, u32 (usG T k b r p), bo (decide (usW T k b r p)), i64 (usE T b r p)]) := by
  obtain ⟨ho, hk⟩ := h
  by_cases c : tcV T = 0 ∧ limV b r p = 0
  · obtain ⟨c1, c2⟩ := c
    obtain ⟨L, F, v⟩ := tc_inv ho c1
    have hE : usE T b r p = 0 := by unfold usE; rw [if_pos c1]; exact c2
    have ho' := ho
    obtain ⟨d8, _, _, d1, d2, d3, d4, d5, d6, d7⟩ := ho'
    have lens := okT_lens ho v
    have lk := v.ix.1.1
    rcases inv_pl v hk with ⟨i, ep, hi, hu, ek⟩ | ⟨ep, hn⟩
    · have c3 : ¬ plV T k < 0 := by omega
      have hW : ¬ usW T k b r p := fun n => c3 n.2.2.1
      have hT : toO T.ps T.no T.h T.t (plV T k) := ⟨or_lc v.od, by omega, by have := v.sz.2.2.2.2.2; omega⟩
      have eR : usR T k b r p a = T.touch (plV T k) := by unfold usR; rw [if_pos ⟨c1, c2⟩, if_neg c3]
      unfold usG
      rw [hE, eR, if_neg hW, decide_eq_false hW]
      refine us_calls T k b r p a _ ?_ ?_ ?_ ?_ ?_ <;> dsimp only [At, Tr.q, us_T]
      · intro g; rw [neq_t] at g; exact absurd c1 g
      · intro _ g; rw [neq_t] at g; exact absurd c2 g
      · intro _ _ g; rw [lss_t] at g; exact absurd g c3
      · intro _ _ g; rw [lss_t] at g; exact absurd g c3
      · intro _ _ _
        refine ⟨⟨⟨ho, hk⟩, d3, d7, d5, d2, d1, d4, d6, ho, trivial⟩, ?_⟩
        simp only [us_c10, us_c11, if_pos hT]; rfl
    · by_cases c4 : T.fr = -1
      · have hW : usW T k b r p := ⟨c1, c2, by omega, c4⟩
        have hkE : tkE T.nx T.us T.fr ≠ 0 := by unfold tkE; rw [if_pos (ar_ak v.ar), if_pos c4]; omega
        obtain ⟨v1, ho1⟩ := less_inv ho v c4
        have hn1 := less_no ho v c4 hn
        obtain ⟨hF, i, A, ei, eA, hi, hu⟩ := inv_last v c4
        have et : T.t.toNat = i := by omega
        have hg : inU (T.ks.getD i 0) := ho.2.1 i (by omega)
        obtain ⟨g1, g2, g3, g4, g5, g6⟩ := plus_side ho1 v1 hk (by show ((T.t.toNat : Nat) : Int) ≠ -1; omega) hn1
        have lc := or_lc v.od
        have tm : (i : Int) ∈ L := by rw [eA, ei]; simp
        have ps6 : (T.ps.length : Int) = T.n := v.sz.2.2.2.2.2
        have nx5 : (T.nx.length : Int) = T.n := v.sz.2.2.2.2.1
        have eR : usR T k b r p a = T.less.plus k b r p a := by unfold usR; rw [if_pos ⟨c1, c2⟩, if_pos (by omega), if_pos c4]
        unfold usG
        rw [hE, eR, if_pos hW, decide_eq_true hW]
        have hla : laI T.ps T.no T.h T.t = i := by unfold laI; rw [if_pos lc, if_neg (by omega)]; exact ei
        have hpl : plV T (T.ks.getD (i : Int).toNat 0) = i := by
          rw [Int.toNat_natCast]
          obtain ⟨e1, e2⟩ := inv_has v hg hi hu rfl
          unfold plV; rw [if_pos e1, e2]
        have hrm : rmO T.ps T.no T.h T.t i := ⟨lc, ⟨by omega, by omega⟩, (or_mem v.od (by omega) (by omega)).2 tm⟩
        have hgv : gvO T.nx T.us T.fr i := ⟨ar_ak v.ar, by omega, by omega, by rw [Int.toNat_natCast]; exact hu⟩
        have hdp : dpO T.kx T.px T.ux (T.ks.getD (i : Int).toNat 0) := by
          rw [Int.toNat_natCast]
          obtain ⟨j, hj, uj, e1, e2⟩ := inv_cell v hi hu
          refine ⟨ix_pc v.ix, ?_⟩
          have := ix_at v.ix hj uj
          rw [e1] at this
          rw [this]; exact uj
        have hW1 : T.less = T.without (T.ks.getD i 0) i := by unfold Tb.less; rw [et]
        rw [hW1] at g1 g2 g3 g4 g5 g6 v1 ho1 ⊢
        have lens1 := okT_lens ho1 v1
        obtain ⟨o8, _, _, o1, o2, o3, o4, o5, o6, o7⟩ := ho1
        have q3 : us_c3 T = (T.without (T.ks.getD i 0) i).ks := by unfold us_c3; rw [hla, hpl]; rfl
        have q4 : us_c4 T = (T.without (T.ks.getD i 0) i).x1 := by unfold us_c4; rw [hla, hpl]; rfl
        have q5 : us_c5 T = (T.without (T.ks.getD i 0) i).x2 := by unfold us_c5; rw [hla, hpl]; rfl
        have q6 : us_c6 T = (T.without (T.ks.getD i 0) i).x3 := by unfold us_c6; rw [hla, hpl]; rfl
        have q7 : us_c7 T = (T.without (T.ks.getD i 0) i).x4 := by unfold us_c7; rw [hla, hpl]; rfl
        have q8 : us_c8 T = (T.without (T.ks.getD i 0) i).x5 := by unfold us_c8; rw [hla, hpl]; rfl
        have q9 : us_c9 T = (T.without (T.ks.getD i 0) i).x6 := by unfold us_c9; rw [hla, hpl]; rfl
        have q13 : us_c13 T = (T.without (T.ks.getD i 0) i).kx := by unfold us_c13 us_c2; rw [hla, if_pos hdp]; rfl
        have q14 : us_c14 T = (T.without (T.ks.getD i 0) i).px := by unfold us_c14 us_c2; rw [hla, if_pos hdp]; rfl
        have q16 : us_c16 T = (T.without (T.ks.getD i 0) i).ux := by unfold us_c16 us_c2; rw [hla, if_pos hdp]; rfl
        have q17 : us_c17 T = (T.without (T.ks.getD i 0) i).fr := by unfold us_c17; rw [hla, hpl, if_pos hgv]; rfl
        have q21 : us_c21 T = (T.without (T.ks.getD i 0) i).ps := by unfold us_c21; rw [hla, hpl, if_pos hrm]; rfl
        have q22 : us_c22 T = (T.without (T.ks.getD i 0) i).no := by unfold us_c22; rw [hla, hpl, if_pos hrm]; rfl
        have q23 : us_c23 T = (T.without (T.ks.getD i 0) i).nx := by unfold us_c23; rw [hla, hpl, if_pos hgv]; rfl
        have q24 : us_c24 T = (T.without (T.ks.getD i 0) i).h := by unfold us_c24; rw [hla, hpl, if_pos hrm]; rfl
        have q25 : us_c25 T = (T.without (T.ks.getD i 0) i).t := by unfold us_c25; rw [hla, hpl, if_pos hrm]; rfl
        have q26 : us_c26 T = (T.without (T.ks.getD i 0) i).us := by unfold us_c26; rw [hla, hpl, if_pos hgv]; rfl
        have q30 : us_c30 T = (T.without (T.ks.getD i 0) i).fr := by unfold us_c30; rw [q23, q26, q17, hla, hpl, if_pos g1, if_pos hgv]; rfl
        have qf : (T.without (T.ks.getD i 0) i).fr = (i : Int) := rfl
        have hg' : inU (T.ks.getD (i : Int).toNat 0) := by rw [Int.toNat_natCast]; exact hg
        have qk : (T.without (T.ks.getD i 0) i).n = T.n := rfl
        refine us_calls T k b r p a _ ?_ ?_ ?_ ?_ ?_ <;> dsimp only [At, Tr.q, us_T]
        · intro g; rw [neq_t] at g; exact absurd c1 g
        · intro _ g; rw [neq_t] at g; exact absurd c2 g
        · intro _ _ _ _
          simp only [us_c29, us_c27, us_c28, us_c31, us_c32, us_c33, us_c34, us_c35, q3, q4, q5, q6, q7, q8, q9, q13, q14, q16, q17, q21, q22, q23, q24, q25, q26, q30, hla, hpl, if_pos g1, if_pos g3, if_pos g4, if_pos hgv]
          refine ⟨?_, ?_⟩
          · (repeat' (first | assumption | apply And.intro)) <;> first | exact trivial | rfl | ((try refine @decide_eq_true _ _ ?_); first | omega | (simp only [rowLen0, Col0.len, List.length_set, qf, Int.toNat_natCast] <;> omega))
          · rw [et, Int.toNat_natCast]; rfl
        · intro _ _ _ g; rw [neq_f] at g; exact absurd g hkE
        · intro _ _ g; rw [lss_f] at g; omega
      · have hW : ¬ usW T k b r p := fun n => c4 n.2.2.2
        obtain ⟨g1, g2, g3, g4, g5, g6⟩ := plus_side ho v hk c4 hn
        have eR : usR T k b r p a = T.plus k b r p a := by unfold usR; rw [if_pos ⟨c1, c2⟩, if_pos (by omega), if_neg c4]
        unfold usG
        rw [hE, eR, if_neg hW, decide_eq_false hW]
        refine us_calls T k b r p a _ ?_ ?_ ?_ ?_ ?_ <;> dsimp only [At, Tr.q, us_T]
        · intro g; rw [neq_t] at g; exact absurd c1 g
        · intro _ g; rw [neq_t] at g; exact absurd c2 g
        · intro _ _ _ g; rw [neq_t] at g; exact absurd g2 g
        · intro _ _ _ _
          simp only [us_c29, us_c0, us_c1, us_c12, us_c15, us_c18, us_c19, us_c20, if_pos g1, if_pos g3, if_pos g4]
          refine ⟨?_, rfl⟩
          (repeat' (first | assumption | apply And.intro)) <;> first | exact trivial | rfl | ((try refine @decide_eq_true _ _ ?_); first | omega | (simp only [rowLen0, Col0.len, List.length_set] <;> omega))
        · intro _ _ g; rw [lss_f] at g; omega
  · have hW : ¬ usW T k b r p := fun n => c ⟨n.1, n.2.1⟩
    unfold usR usG
    rw [if_neg c, if_neg hW, decide_eq_false hW]
    refine calls_reads (ReadsNs.tup (.cons nilT (.refl _))) ?_
    unfold usE
    refine us_calls T k b r p a _ ?_ ?_ ?_ ?_ ?_ <;> dsimp only [At, Tr.q, us_T]
    · intro g; rw [neq_t] at g; exact ⟨⟨ho, trivial⟩, by rw [if_neg g]⟩
    · intro g g2; rw [neq_f] at g; exact ⟨⟨ho, trivial⟩, by rw [if_pos g]⟩
    · intro g g2; rw [neq_f] at g g2; exact absurd ⟨g, g2⟩ c
    · intro g g2; rw [neq_f] at g g2; exact absurd ⟨g, g2⟩ c
    · intro g g2; rw [neq_f] at g g2; exact absurd ⟨g, g2⟩ c
noncomputable section
def usC : List D → Option (D × List Prop)
  | [.agg [.v (.int .i64 n), .rc [.ints .u32 ks], .rc [.ints .i64 x1, .ints .i64 x2, .ints .i64 x3, .ints .i64 x4, .ints .i64 x5, .ints .u64 x6], .rc [.ints .i64 nx], .rc [.bools us], .v (.int .i64 fr), .rc [.ints .u32 kx, .ints .i64 px, .bools ux], .rc [.ints .i64 ps], .rc [.ints .i64 no], .v (.int .i64 h), .v (.int .i64 t)], .v (.int .u32 k), .agg [.v (.int .i64 b), .v (.int .i64 r), .v (.int .i64 p)], .v (.int .u64 a)] => some ((.tup [(usR ⟨n, ks, x1, x2, x3, x4, x5, x6, nx, us, fr, kx, px, ux, ps, no, h, t⟩ k b r p a).o, u32 (usG ⟨n, ks, x1, x2, x3, x4, x5, x6, nx, us, fr, kx, px, ux, ps, no, h, t⟩ k b r p), bo (decide (usW ⟨n, ks, x1, x2, x3, x4, x5, x6, nx, us, fr, kx, px, ux, ps, no, h, t⟩ k b r p)), i64 (usE ⟨n, ks, x1, x2, x3, x4, x5, x6, nx, us, fr, kx, px, ux, ps, no, h, t⟩ b r p)]), [okT ⟨n, ks, x1, x2, x3, x4, x5, x6, nx, us, fr, kx, px, ux, ps, no, h, t⟩ ∧ inU k])
  | _ => none
end
theorem usC_ok (args res l) (h : usC args = some (res, l)) (hl : AllP l) : CallsD Try.prog 14 args res := by
  unfold usC at h; split at h
  · simp only [Option.some.injEq, Prod.mk.injEq] at h
    obtain ⟨rfl, rfl⟩ := h
    exact us_ok _ _ _ _ _ _ hl.1
  · cases h
noncomputable def X15 : Contracts := addCon 14 (.call usC) X14
theorem hX15 : ConOK Try.prog X15 := addCall_ok usC_ok hX14
end TableS
end

section
namespace TableS
open Go Go.Dam Go.Proofs
set_option maxRecDepth 1000000
set_option linter.unusedVariables false
set_option linter.unusedSectionVars false
set_option linter.unusedSimpArgs false
noncomputable def fl_T (b : Int) (r : Int) (p : Int) (a : Int) : Tr D := .d (cmpI BinOp.neq (limV b r p) 0) (fun e0 => .lf (D.tup [D.agg [i64 0, i64 0, i64 0, i64 0, i64 0, u64 0], i64 (limV b r p)])) (fun e0 => .lf (D.tup [D.agg [i64 b, i64 r, i64 p, i64 b, i64 0, u64 a], i64 0]))
theorem fl_L (b r p a : Int) : Leaves (fun l => fnX Try.prog (X15) 100000 l 33 [D.agg [i64 b, i64 r, i64 p], u64 a]) (fl_T b r p a) [] [] := by refine ⟨fun _ => ?_, fun _ => ?_⟩ <;> (show _ = _; kernel_rfl)
theorem fl_calls (b r p a : Int) (res : D) (h0 : At (fun r => res = r) (fl_T b r p a) [true] True) (h1 : At (fun r => res = r) (fl_T b r p a) [false] True) : CallsD Try.prog 33 [D.agg [i64 b, i64 r, i64 p], u64 a] res := tree_calls (hX15) (fl_L b r p a) ⟨fun e0 => h0 e0, fun e0 => h1 e0⟩
noncomputable def fl3_T (b : Int) (r : Int) (p : Int) (a : Int) : Tr D := .d (cmpI BinOp.neq (limV b r p) 0) (fun e0 => .lf (D.tup [D.agg [i64 0, i64 0, i64 0, i64 0, i64 0, u64 0], i64 (limV b r p)])) (fun e0 => .lf (D.tup [D.agg [i64 b, i64 r, i64 p, i64 b, i64 0, u64 a], i64 0]))
theorem fl3_L (b r p a : Int) : Leaves (fun l => fnX Try.prog (X15) 100000 l 56 [D.agg [i64 b, i64 r, i64 p], u64 a]) (fl3_T b r p a) [] [] := by refine ⟨fun _ => ?_, fun _ => ?_⟩ <;> (show _ = _; kernel_rfl)
theorem fl3_calls (b r p a : Int) (res : D) (h0 : At (fun r => res = r) (fl3_T b r p a) [true] True) (h1 : At (fun r => res = r) (fl3_T b r p a) [false] True) : CallsD Try.prog 56 [D.agg [i64 b, i64 r, i64 p], u64 a] res := tree_calls (hX15) (fl3_L b r p a) ⟨fun e0 => h0 e0, fun e0 => h1 e0⟩
noncomputable def dr_c0 (T : Tb) (k : Int) := if rmO T.ps T.no T.h T.t (plV T k) then rmP T.ps T.no (plV T k) else []
noncomputable def dr_c1 (T : Tb) (k : Int) := if rmO T.ps T.no T.h T.t (plV T k) then rmN T.ps T.no (plV T k) else []
noncomputable def dr_c2 (T : Tb) (k : Int) := if gvO T.nx T.us T.fr (plV T k) then T.nx.set (plV T k).toNat T.fr else []
noncomputable def dr_c3 (T : Tb) (k : Int) := if gvO T.nx T.us T.fr (plV T k) then T.us.set (plV T k).toNat false else []
noncomputable def dr_c4 (T : Tb) (k : Int) := if dpO T.kx T.px T.ux k then (dpR T.kx T.px T.ux k).kx.set (dpR T.kx T.px T.ux k).i 0 else []
noncomputable def dr_c5 (T : Tb) (k : Int) := if dpO T.kx T.px T.ux k then (dpR T.kx T.px T.ux k).px.set (dpR T.kx T.px T.ux k).i 0 else []
noncomputable def dr_c6 (T : Tb) (k : Int) := if dpO T.kx T.px T.ux k then (dpR T.kx T.px T.ux k).ux.set (dpR T.kx T.px T.ux k).i false else []
noncomputable def dr_T (T : Tb) (k : Int) : Tr D := .s (okT T) (.d (cmpI BinOp.neq (tcV T) 0) (fun e0 => .lf (D.tup [D.agg [i64 0, D.v (Value.slice none 0 0), D.v (Value.slice none 0 0), D.v (Value.slice none 0 0), D.v (Value.slice none 0 0), i64 0, D.v (Value.slice none 0 0), D.v (Value.slice none 0 0), D.v (Value.slice none 0 0), i64 0, i64 0], i64 (tcV T)])) (fun e0 => .s (okT T ∧ inU k) (.d (cmpI BinOp.lss (plV T k) 0) (fun e1 => .lf (D.tup [D.agg [i64 0, D.v (Value.slice none 0 0), D.v (Value.slice none 0 0), D.v (Value.slice none 0 0), D.v (Value.slice none 0 0), i64 0, D.v (Value.slice none 0 0), D.v (Value.slice none 0 0), D.v (Value.slice none 0 0), i64 0, i64 0], i64 6])) (fun e1 => .s (T.ks.length ≤ 200) (.s (kcS T.x1 T.x2 T.x3 T.x4 T.x5 T.x6) (.s (T.nx.length ≤ 200) (.s (T.us.length ≤ 200) (.s (ccS T.kx T.px T.ux) (.s (T.ps.length ≤ 200) (.s (T.no.length ≤ 200) (.s (okT T ∧ inU k) (.q (rowLen0 [Col0.ints IntKind.i64 T.no]) (.q (rowLen0 [Col0.ints IntKind.i64 T.ps]) (.q (rowLen0 [Col0.ints IntKind.u32 T.kx, Col0.ints IntKind.i64 T.px, Col0.bools T.ux]) (.q (rowLen0 [Col0.bools T.us]) (.q (rowLen0 [Col0.ints IntKind.i64 T.nx]) (.q (rowLen0 [Col0.ints IntKind.i64 T.x1, Col0.ints IntKind.i64 T.x2, Col0.ints IntKind.i64 T.x3, Col0.ints IntKind.i64 T.x4, Col0.ints IntKind.i64 T.x5, Col0.ints IntKind.u64 T.x6]) (.q (rowLen0 [Col0.ints IntKind.u32 T.ks]) (.q (rowLen0 [Col0.ints IntKind.i64 T.no]) (.q (rowLen0 [Col0.ints IntKind.i64 T.ps]) (.s (okI T.kx ∧ inU k ∧ ccS T.kx T.px T.ux) (.q (rowLen0 [Col0.ints IntKind.u32 T.kx, Col0.ints IntKind.i64 T.px, Col0.bools T.ux]) (.s (T.us.length ≤ 200 ∧ T.nx.length ≤ 200) (.q (rowLen0 [Col0.bools T.us]) (.q (rowLen0 [Col0.ints IntKind.i64 T.nx]) (.s (decide (plV T k < ↑(rowLen0 [Col0.ints IntKind.u32 T.ks])) = true) (.s (decide (0 ≤ plV T k) = true) (.s ((Col0.ints IntKind.u32 T.ks).len = rowLen0 [Col0.ints IntKind.u32 T.ks]) (.s ((plV T k).toNat < rowLen0 [Col0.ints IntKind.u32 T.ks]) (.s (decide (plV T k < ↑(rowLen0 [Col0.ints IntKind.i64 T.x1, Col0.ints IntKind.i64 T.x2, Col0.ints IntKind.i64 T.x3, Col0.ints IntKind.i64 T.x4, Col0.ints IntKind.i64 T.x5, Col0.ints IntKind.u64 T.x6])) = true) (.s (decide (0 ≤ plV T k) = true) (.s ((Col0.ints IntKind.u64 T.x6).len = rowLen0 [Col0.ints IntKind.i64 T.x1, Col0.ints IntKind.i64 T.x2, Col0.ints IntKind.i64 T.x3, Col0.ints IntKind.i64 T.x4, Col0.ints IntKind.i64 T.x5, Col0.ints IntKind.u64 T.x6]) (.s ((Col0.ints IntKind.i64 T.x5).len = rowLen0 [Col0.ints IntKind.i64 T.x1, Col0.ints IntKind.i64 T.x2, Col0.ints IntKind.i64 T.x3, Col0.ints IntKind.i64 T.x4, Col0.ints IntKind.i64 T.x5, Col0.ints IntKind.u64 T.x6]) (.s ((Col0.ints IntKind.i64 T.x4).len = rowLen0 [Col0.ints IntKind.i64 T.x1, Col0.ints IntKind.i64 T.x2, Col0.ints IntKind.i64 T.x3, Col0.ints IntKind.i64 T.x4, Col0.ints IntKind.i64 T.x5, Col0.ints IntKind.u64 T.x6]) (.s ((Col0.ints IntKind.i64 T.x3).len = rowLen0 [Col0.ints IntKind.i64 T.x1, Col0.ints IntKind.i64 T.x2, Col0.ints IntKind.i64 T.x3, Col0.ints IntKind.i64 T.x4, Col0.ints IntKind.i64 T.x5, Col0.ints IntKind.u64 T.x6]) (.s ((Col0.ints IntKind.i64 T.x2).len = rowLen0 [Col0.ints IntKind.i64 T.x1, Col0.ints IntKind.i64 T.x2, Col0.ints IntKind.i64 T.x3, Col0.ints IntKind.i64 T.x4, Col0.ints IntKind.i64 T.x5, Col0.ints IntKind.u64 T.x6]) (.s ((Col0.ints IntKind.i64 T.x1).len = rowLen0 [Col0.ints IntKind.i64 T.x1, Col0.ints IntKind.i64 T.x2, Col0.ints IntKind.i64 T.x3, Col0.ints IntKind.i64 T.x4, Col0.ints IntKind.i64 T.x5, Col0.ints IntKind.u64 T.x6]) (.s ((plV T k).toNat < rowLen0 [Col0.ints IntKind.i64 T.x1, Col0.ints IntKind.i64 T.x2, Col0.ints IntKind.i64 T.x3, Col0.ints IntKind.i64 T.x4, Col0.ints IntKind.i64 T.x5, Col0.ints IntKind.u64 T.x6]) (.q (rowLen0 [Col0.ints IntKind.i64 (dr_c1 T k)]) (.q (rowLen0 [Col0.ints IntKind.i64 (dr_c0 T k)]) (.q (rowLen0 [Col0.ints IntKind.u32 (dr_c4 T k), Col0.ints IntKind.i64 (dr_c5 T k), Col0.bools (dr_c6 T k)]) (.q (rowLen0 [Col0.bools (dr_c3 T k)]) (.q (rowLen0 [Col0.ints IntKind.i64 (dr_c2 T k)]) (.s (rowLen0 [Col0.ints IntKind.i64 T.x1, Col0.ints IntKind.i64 T.x2, Col0.ints IntKind.i64 T.x3, Col0.ints IntKind.i64 T.x4, Col0.ints IntKind.i64 T.x5, Col0.ints IntKind.u64 T.x6] = rowLen0 [Col0.ints IntKind.i64 (T.x1.set (plV T k).toNat 0), Col0.ints IntKind.i64 (T.x2.set (plV T k).toNat 0), Col0.ints IntKind.i64 (T.x3.set (plV T k).toNat 0), Col0.ints IntKind.i64 (T.x4.set (plV T k).toNat 0), Col0.ints IntKind.i64 (T.x5.set (plV T k).toNat 0), Col0.ints IntKind.u64 (T.x6.set (plV T k).toNat 0)]) (.s (rowLen0 [Col0.ints IntKind.u32 T.ks] = rowLen0 [Col0.ints IntKind.u32 (T.ks.set (plV T k).toNat 0)]) (.lf (D.tup [D.agg [i64 T.n, D.oc [Col0.ints IntKind.u32 (T.ks.set (plV T k).toNat 0)], D.oc [Col0.ints IntKind.i64 (T.x1.set (plV T k).toNat 0), Col0.ints IntKind.i64 (T.x2.set (plV T k).toNat 0), Col0.ints IntKind.i64 (T.x3.set (plV T k).toNat 0), Col0.ints IntKind.i64 (T.x4.set (plV T k).toNat 0), Col0.ints IntKind.i64 (T.x5.set (plV T k).toNat 0), Col0.ints IntKind.u64 (T.x6.set (plV T k).toNat 0)], D.oc [Col0.ints IntKind.i64 (dr_c2 T k)], D.oc [Col0.bools (dr_c3 T k)], i64 (if gvO T.nx T.us T.fr (plV T k) then plV T k else 0), D.oc [Col0.ints IntKind.u32 (dr_c4 T k), Col0.ints IntKind.i64 (dr_c5 T k), Col0.bools (dr_c6 T k)], D.oc [Col0.ints IntKind.i64 (dr_c0 T k)], D.oc [Col0.ints IntKind.i64 (dr_c1 T k)], i64 (if rmO T.ps T.no T.h T.t (plV T k) then rmH T.ps T.no T.h (plV T k) else 0), i64 (if rmO T.ps T.no T.h T.t (plV T k) then rmT T.ps T.no T.t (plV T k) else 0)], i64 0])))))))))))))))))))))))))))))))))))))))))))))))
theorem dr_L (T : Tb) (k : Int) : Leaves (fun l => fnX Try.prog (X15) 100000 l 24 [T.d, u32 k]) (dr_T T k) [] [] := by refine ⟨fun _ => ?_, fun _ => ⟨fun _ => ?_, fun _ => ?_⟩⟩ <;> (show _ = _; kernel_rfl)
theorem dr_calls (T : Tb) (k : Int) (res : D) (h0 : At (fun r => res = r) (dr_T T k) [true] True) (h1 : At (fun r => res = r) (dr_T T k) [false, true] True) (h2 : At (fun r => res = r) (dr_T T k) [false, false] True) : CallsD Try.prog 24 [T.d, u32 k] res := tree_calls (hX15) (dr_L T k) ⟨fun e0 => h0 e0, fun e0 => ⟨fun e1 => h1 e0 e1, fun e1 => h2 e0 e1⟩⟩
/-- A full bucket's numbers. -/
def flZ (b r p x : Int) : Int := if limV b r p = 0 then x else 0
theorem fl_ok (b r p a : Int) : CallsD Try.prog 33 [.agg [i64 b, i64 r, i64 p], u64 a] (.tup [.agg [i64 (flZ b r p b), i64 (flZ b r p r), i64 (flZ b r p p), i64 (flZ b r p b), i64 0, u64 (flZ b r p a)], i64 (limV b r p)]) := by
  unfold flZ
  refine fl_calls b r p a _ ?_ ?_ <;> dsimp only [At, Tr.q, fl_T]
  · intro g; rw [neq_t] at g; exact ⟨trivial, by simp only [if_neg g]⟩
  · intro g; rw [neq_f] at g; exact ⟨trivial, by simp only [if_pos g]; rw [g]⟩
theorem fl3_ok (b r p a : Int) : CallsD Try.prog 56 [.agg [i64 b, i64 r, i64 p], u64 a] (.tup [.agg [i64 (flZ b r p b), i64 (flZ b r p r), i64 (flZ b r p p), i64 (flZ b r p b), i64 0, u64 (flZ b r p a)], i64 (limV b r p)]) := by
  unfold flZ
  refine fl3_calls b r p a _ ?_ ?_ <;> dsimp only [At, Tr.q, fl3_T]
  · intro g; rw [neq_t] at g; exact ⟨trivial, by simp only [if_neg g]⟩
  · intro g; rw [neq_f] at g; exact ⟨trivial, by simp only [if_pos g]; rw [g]⟩
/-- A table after Drop; the error. -/
def drX (T : Tb) (k : Int) : Tb := if tcV T = 0 ∧ ¬ plV T k < 0 then T.without k (plV T k).toNat else t0
def drE (T : Tb) (k : Int) : Int := if tcV T = 0 then (if plV T k < 0 then 6 else 0) else tcV T
theorem dr_ok (T : Tb) (k : Int) (h : okT T ∧ inU k) : CallsD Try.prog 24 [T.d, u32 k] (.tup [(drX T k).o, i64 (drE T k)]) := by
  obtain ⟨ho, hk⟩ := h
  by_cases c : tcV T = 0
  · obtain ⟨L, F, v⟩ := tc_inv ho c
    have ho' := ho
    obtain ⟨d8, _, _, d1, d2, d3, d4, d5, d6, d7⟩ := ho'
    have lens := okT_lens ho v
    rcases inv_pl v hk with ⟨i, ep, hi, hu, ek⟩ | ⟨ep, hn⟩
    · have c3 : ¬ plV T k < 0 := by omega
      have lc := or_lc v.od
      have tm : (i : Int) ∈ L := by have := v.us i hi; rw [hu] at this; simpa using this.symm
      have ps6 : (T.ps.length : Int) = T.n := v.sz.2.2.2.2.2
      have nx5 : (T.nx.length : Int) = T.n := v.sz.2.2.2.2.1
      have hrm : rmO T.ps T.no T.h T.t i := ⟨lc, ⟨by omega, by omega⟩, (or_mem v.od (by omega) (by omega)).2 tm⟩
      have hgv : gvO T.nx T.us T.fr i := ⟨ar_ak v.ar, by omega, by omega, by rw [Int.toNat_natCast]; exact hu⟩
      have hdp : dpO T.kx T.px T.ux k := by
        obtain ⟨j, hj, uj, e1, e2⟩ := inv_cell v hi hu
        refine ⟨ix_pc v.ix, ?_⟩
        have := ix_at v.ix hj uj
        rw [e1, ek] at this
        rw [this]; exact uj
      unfold drX drE
      rw [if_pos ⟨c, c3⟩, if_pos c, if_neg c3]
      refine dr_calls T k _ ?_ ?_ ?_ <;> dsimp only [At, Tr.q, dr_T]
      · intro g; rw [neq_t] at g; exact absurd c g
      · intro _ g; rw [lss_t] at g; exact absurd g c3
      · intro _ _
        simp only [dr_c0, dr_c1, dr_c2, dr_c3, dr_c4, dr_c5, dr_c6, ep, if_pos hrm, if_pos hgv, if_pos hdp]
        refine ⟨?_, rfl⟩
        (repeat' (first | assumption | apply And.intro)) <;> first | exact trivial | rfl | ((try refine @decide_eq_true _ _ ?_); first | omega | (simp only [rowLen0, Col0.len, List.length_set, Int.toNat_natCast] <;> omega))
    · have c3 : plV T k < 0 := by omega
      unfold drX drE
      rw [if_neg (fun n => n.2 c3), if_pos c, if_pos c3]
      refine calls_reads (ReadsNs.tup (.cons nilT (.refl _))) ?_
      refine dr_calls T k _ ?_ ?_ ?_ <;> dsimp only [At, Tr.q, dr_T]
      · intro g; rw [neq_t] at g; exact absurd c g
      · intro _ _; exact ⟨⟨⟨ho, hk⟩, ho, trivial⟩, rfl⟩
      · intro _ g; rw [lss_f] at g; omega
  · unfold drX drE
    rw [if_neg (fun n => c n.1), if_neg c]
    refine calls_reads (ReadsNs.tup (.cons nilT (.refl _))) ?_
    refine dr_calls T k _ ?_ ?_ ?_ <;> dsimp only [At, Tr.q, dr_T]
    · intro _; exact ⟨⟨ho, trivial⟩, rfl⟩
    · intro g; rw [neq_f] at g; exact absurd g c
    · intro g; rw [neq_f] at g; exact absurd g c
def flC : List D → Option (D × List Prop)
  | [.agg [.v (.int .i64 b), .v (.int .i64 r), .v (.int .i64 p)], .v (.int .u64 a)] => some ((.tup [.agg [i64 (flZ b r p b), i64 (flZ b r p r), i64 (flZ b r p p), i64 (flZ b r p b), i64 0, u64 (flZ b r p a)], i64 (limV b r p)]), [])
  | _ => none
theorem flC_ok (args res l) (h : flC args = some (res, l)) (hl : AllP l) : CallsD Try.prog 33 args res := by
  unfold flC at h; split at h
  · simp only [Option.some.injEq, Prod.mk.injEq] at h
    obtain ⟨rfl, rfl⟩ := h
    exact fl_ok _ _ _ _ 
  · cases h
theorem fl3C_ok (args res l) (h : flC args = some (res, l)) (hl : AllP l) : CallsD Try.prog 56 args res := by
  unfold flC at h; split at h
  · simp only [Option.some.injEq, Prod.mk.injEq] at h
    obtain ⟨rfl, rfl⟩ := h
    exact fl3_ok _ _ _ _ 
  · cases h
noncomputable section
def drC : List D → Option (D × List Prop)
  | [.agg [.v (.int .i64 n), .rc [.ints .u32 ks], .rc [.ints .i64 x1, .ints .i64 x2, .ints .i64 x3, .ints .i64 x4, .ints .i64 x5, .ints .u64 x6], .rc [.ints .i64 nx], .rc [.bools us], .v (.int .i64 fr), .rc [.ints .u32 kx, .ints .i64 px, .bools ux], .rc [.ints .i64 ps], .rc [.ints .i64 no], .v (.int .i64 h), .v (.int .i64 t)], .v (.int .u32 k)] => some ((.tup [(drX ⟨n, ks, x1, x2, x3, x4, x5, x6, nx, us, fr, kx, px, ux, ps, no, h, t⟩ k).o, i64 (drE ⟨n, ks, x1, x2, x3, x4, x5, x6, nx, us, fr, kx, px, ux, ps, no, h, t⟩ k)]), [okT ⟨n, ks, x1, x2, x3, x4, x5, x6, nx, us, fr, kx, px, ux, ps, no, h, t⟩ ∧ inU k])
  | _ => none
end
theorem drC_ok (args res l) (h : drC args = some (res, l)) (hl : AllP l) : CallsD Try.prog 24 args res := by
  unfold drC at h; split at h
  · simp only [Option.some.injEq, Prod.mk.injEq] at h
    obtain ⟨rfl, rfl⟩ := h
    exact dr_ok _ _ hl.1
  · cases h
noncomputable def ltT (T : Tb) (m : Nat) (i : Int) (l : List Int) (k : Nat) (out : List Int) : Cs := ⟨TT.of [(1, D.ptr 32 0), (2, D.v (Value.slice none 0 0)), (3, D.sl 320 0 m ⟨1, 0⟩), (5, D.sl 9001 0 k ⟨1, 0⟩), (6, i64 i)], 31, [], [(32, T.b), (320, BX.row [Col0.ints .i64 l] false), (9001, BX.row [Col0.ints .u32 out] false)], none, 0⟩
end TableS
end

section
namespace TableS
open Go Go.Dam Go.Proofs
set_option maxRecDepth 1000000
set_option linter.unusedVariables false
set_option linter.unusedSectionVars false
set_option linter.unusedSimpArgs false
noncomputable def ltL_T (T : Tb) (m : Nat) (i : Int) (l : List Int) (k : Nat) (out : List Int) : Tr (Ex × Cs) := .d (cmpI BinOp.lss i ↑m) (fun e0 => .s (decide (i < ↑m) = true) (.s (decide (0 ≤ i) = true) (.s (i.toNat < l.length) (.s (decide (l.getD i.toNat 0 < ↑(T.ks.length)) = true) (.s (decide (0 ≤ l.getD i.toNat 0) = true) (.s (out.length = out.length) (.s (k = out.length) (.s ((k + 1) * 4 ≤ 17592186044416) (.lf (Ex.normal, (ltT T (m) (opI BinOp.add IntKind.i64 i 1) (l) (k + 1) (out ++ [T.ks.getD (l.getD i.toNat 0).toNat 0])))))))))))) (fun e0 => .lf (Ex.exit 0, (ltT T (m) (i) (l) (k) (out))))
theorem ltL_L (T : Tb) (m : Nat) (i : Int) (l : List Int) (k : Nat) (out : List Int) : Leaves (roundT Try.prog (X15) 100000 (loopAt Try.prog 30 0) [[1, 2, 3, 5, 6]] [(32, 32), (320, 320), (9001, 9001)] (ltT T m i l k out)) (ltL_T T m i l k out) [] [] := by refine ⟨fun _ => ?_, fun _ => ?_⟩ <;> (show _ = _; kernel_rfl)
theorem ltL_step (T : Tb) (m : Nat) (i : Int) (l : List Int) (k : Nat) (out : List Int) (σ : St) (e : Ex) (h0 : At (RG Try.prog (loopAt Try.prog 30 0) e σ) (ltL_T T m i l k out) [true] True) (h1 : At (RG Try.prog (loopAt Try.prog 30 0) e σ) (ltL_T T m i l k out) [false] True) : Runs Try.prog (CallsD Try.prog) (.rounds (loopAt Try.prog 30 0)) (ltT T m i l k out).abs e σ := tree_rounds (hX15) (ltL_L T m i l k out) ⟨fun e0 => h0 e0, fun e0 => h1 e0⟩
noncomputable def ltF_c0 (T : Tb) := ltT T (rowLen0 [Col0.ints IntKind.i64 (chL T.no T.h)]) 0 (chL T.no T.h) 0 []
noncomputable def ltF_c1 (T : Tb) (k : Nat) (i : Int) (out : List Int) := ltT T (rowLen0 [Col0.ints IntKind.i64 (chL T.no T.h)]) i (chL T.no T.h) k out
noncomputable def ltF_T (T : Tb) (k : Nat) (i : Int) (out : List Int) : Tr D := .p (.k [Cast.nil 5 9001 1 [Col0.ints IntKind.u32 []]]) (.p (.l [[1, 2, 3, 5, 6]] [(32, 32), (320, 320), (9001, 9001)] (ltF_c0 T) (Ex.exit 0) (ltF_c1 T k i out)) (.s (T.no.length ≤ 200) (.s (Runs Try.prog (CallsD Try.prog) (.code (.loop (loopAt Try.prog 30 0))) (ltF_c0 T).abs (Ex.exit 0) (ltF_c1 T k i out).abs) (.k ((ltT T (rowLen0 [Col0.ints IntKind.i64 (chL T.no T.h)]) 0 (chL T.no T.h) 0 [] = ltT T (rowLen0 [Col0.ints IntKind.i64 (chL T.no T.h)]) 0 (chL T.no T.h) 0 [])) rfl (.s (k = out.length) (.lf (D.oc [Col0.ints IntKind.u32 out])))))))
theorem ltF_L (T : Tb) (k : Nat) (i : Int) (out : List Int) : Leaves (fun l => fnX Try.prog (X15) 100000 l 30 [T.d]) (ltF_T T k i out) [] [] := by show _ = _; kernel_rfl
theorem ltF_calls (T : Tb) (k : Nat) (i : Int) (out : List Int) (res : D) (h0 : At (fun r => res = r) (ltF_T T k i out) [] True) : CallsD Try.prog 30 [T.d] res := tree_calls (hX15) (ltF_L T k i out) h0
/-- The keys in the table's order, by the reference. -/
def ltV (T : Tb) : List Int := (chL T.no T.h).map fun i => T.ks.getD i.toNat 0
def ltS (T : Tb) : Prop := T.no.length ≤ 200 ∧ (chL T.no T.h).length ≤ 200 ∧ ∀ x ∈ chL T.no T.h, 0 ≤ x ∧ x < (T.ks.length : Int)
theorem lt_ok (T : Tb) (h : ltS T) : CallsD Try.prog 30 [T.d] (ou (ltV T)) := by
  obtain ⟨h1, h2, h3⟩ := h
  unfold ltV
  refine ltF_calls T (((chL T.no T.h).map fun i => T.ks.getD i.toNat 0)).length (chL T.no T.h).length ((chL T.no T.h).map fun i => T.ks.getD i.toNat 0) _ ?_ <;> dsimp only [At, Tr.q, ltF_T]
  refine ⟨⟨rfl, loop_of_rounds ?_, h1, trivial⟩, rfl⟩
  unfold ltF_c0 ltF_c1
  generalize chL T.no T.h = l at *
  have z := scan_all (P := Try.prog) (F := CallsD Try.prog) (b := loopAt Try.prog 30 0) (fun i => ltT T l.length (i : Int) l ((l.take i).map fun i => T.ks.getD i.toNat 0).length ((l.take i).map fun i => T.ks.getD i.toNat 0)) l.length (fun _ => True) (fun i hi _ σ e hr => ?_)
    (σ := (ltT T l.length l.length l (l.map fun i => T.ks.getD i.toNat 0).length (l.map fun i => T.ks.getD i.toNat 0)).abs) (e := .exit 0) ?_ l.length 0 (by omega) (fun _ _ _ => trivial)
  · exact z
  · have hx : l.getD i 0 ∈ l := by rw [List.getD_eq_getElem?_getD, List.getElem?_eq_getElem hi]; exact List.getElem_mem hi
    have hb := h3 _ hx
    refine ltL_step T _ i l _ _ σ e ?_ ?_ <;> dsimp only [At, Tr.q, RG, ltL_T]
    · intro _
      rw [Int.toNat_natCast, succL hi (by omega)]
      refine ⟨?_, ?_⟩
      · (repeat' apply And.intro) <;> first | exact trivial | rfl | exact decide_eq_true hb.1 | exact decide_eq_true (by omega) | exact (natLt hi).1 | exact (natLt hi).2 | omega | (rw [List.length_map, List.length_take]; omega)
      · rw [map_snoc _ l i hi] at hr
        rw [List.length_append] at hr
        exact hr
    · intro g; rw [lss_f] at g; omega
  · rw [List.take_length]
    refine ltL_step T _ l.length l _ _ _ _ ?_ ?_ <;> dsimp only [At, Tr.q, RG, ltL_T]
    · intro g; rw [lss_t] at g; omega
    · intro _; exact ⟨trivial, rfl, rfl⟩
theorem inv_lt {T : Tb} {L F : List Int} (v : Inv T L F) : ltS T ∧ ltV T = L.map fun i => T.ks.getD i.toNat 0 := by
  have hc := (seg_chL v.od.2.2.2.2.1 (or_okL v.od)).1
  have l1 := okL_len (or_okL v.od)
  have l2 := v.od.2.2.1
  have l3 := v.od.2.1
  unfold ltS ltV
  rw [hc]
  exact ⟨⟨by omega, by omega, fun x hx => ⟨(inv_mem v hx).1, by have := (inv_mem v hx).2.1; have := v.sz.2.2.1; omega⟩⟩, rfl⟩
noncomputable section
def ltC : List D → Option (D × List Prop)
  | [.agg [.v (.int .i64 n), .rc [.ints .u32 ks], .rc [.ints .i64 x1, .ints .i64 x2, .ints .i64 x3, .ints .i64 x4, .ints .i64 x5, .ints .u64 x6], .rc [.ints .i64 nx], .rc [.bools us], .v (.int .i64 fr), .rc [.ints .u32 kx, .ints .i64 px, .bools ux], .rc [.ints .i64 ps], .rc [.ints .i64 no], .v (.int .i64 h), .v (.int .i64 t)]] => some ((ou (ltV ⟨n, ks, x1, x2, x3, x4, x5, x6, nx, us, fr, kx, px, ux, ps, no, h, t⟩)), [ltS ⟨n, ks, x1, x2, x3, x4, x5, x6, nx, us, fr, kx, px, ux, ps, no, h, t⟩])
  | _ => none
end
theorem ltC_ok (args res l) (h : ltC args = some (res, l)) (hl : AllP l) : CallsD Try.prog 30 args res := by
  unfold ltC at h; split at h
  · simp only [Option.some.injEq, Prod.mk.injEq] at h
    obtain ⟨rfl, rfl⟩ := h
    exact lt_ok _ hl.1
  · cases h
noncomputable def X18 : Contracts := addCon 33 (.call flC) (addCon 56 (.call flC) (addCon 24 (.call drC) (addCon 30 (.call ltC) X15)))
theorem hX18 : ConOK Try.prog X18 := addCall_ok flC_ok (addCall_ok fl3C_ok (addCall_ok drC_ok (addCall_ok ltC_ok hX15)))
/-- To draw the laws by: that alive says true is shown elsewhere. -/
noncomputable def X18a : Contracts := addCon 28 (.call aliveC) X18
end TableS
end

section
namespace TableS
open Go Go.Dam Go.Proofs
set_option maxRecDepth 1000000
set_option linter.unusedVariables false
set_option linter.unusedSectionVars false
set_option linter.unusedSimpArgs false
noncomputable def fhT (k g : Int) (v : Bool) (i : Int) (U : Tb) (ky al : List Int) (m : Nat) (out : List Int) : Cs := ⟨TT.of [(1, u32 k), (8, bo false), (9, bo true), (15, u32 g), (16, bo v), (20, D.ptr 640 0), (22, D.sl 3744 0 ky.length ⟨1, 0⟩), (24, D.sl 9001 0 m ⟨1, 0⟩), (25, D.sl 4064 0 al.length ⟨1, 0⟩), (26, i64 i)], 170, [],
  [(640, BX.cells [i64 U.n, D.sl 3584 0 U.ks.length ⟨1, 0⟩, D.sl 3585 0 U.x1.length ⟨6, 0⟩, D.sl 3586 0 U.nx.length ⟨1, 0⟩, D.sl 3587 0 U.us.length ⟨1, 0⟩, i64 U.fr, D.sl 3588 0 U.kx.length ⟨3, 0⟩, D.sl 3589 0 U.ps.length ⟨1, 0⟩, D.sl 3590 0 U.no.length ⟨1, 0⟩, i64 U.h, i64 U.t] false),
   (3744, BX.row [Col0.ints .u32 ky] false), (4064, BX.row [Col0.ints .u32 al] false), (9001, BX.row [Col0.ints .u32 out] false), (3584, BX.row [Col0.ints .u32 U.ks] false), (3585, BX.row [Col0.ints .i64 U.x1, Col0.ints .i64 U.x2, Col0.ints .i64 U.x3, Col0.ints .i64 U.x4, Col0.ints .i64 U.x5, Col0.ints .u64 U.x6] false), (3586, BX.row [Col0.ints .i64 U.nx] false), (3587, BX.row [Col0.bools U.us] false), (3588, BX.row [Col0.ints .u32 U.kx, Col0.ints .i64 U.px, Col0.bools U.ux] false), (3589, BX.row [Col0.ints .i64 U.ps] false), (3590, BX.row [Col0.ints .i64 U.no] false)], none, 0⟩
end TableS
end
