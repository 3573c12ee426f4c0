/- What the functions compute, and the law. No condition. -/
import Derived.Test.YtakcfkmfiamliaaTaVC
import Derived.Test.YtakcfkmfiamliaaTaUM
set_option linter.unusedSectionVars false
set_option linter.unusedVariables false
set_option linter.unusedSimpArgs false
section
namespace TableS
open Go Go.Dam Go.Proofs
set_option maxRecDepth 1000000
/-- A right table: its list, its free places. -/
structure Inv (T : Tb) (L F : List Int) : Prop where
 sz : T.sz
 ar : Ar T.nx T.us T.fr F
 od : Or T.ps T.no T.h T.t L
 ix : Ix T.kx T.px T.ux
 us : ∀ i : Nat, (i : Int) < T.n → T.us.getD i false = decide ((i : Int) ∈ L)
 ce : ∀ m q, Ce T.kx T.px T.ux m q ↔ ∃ i : Nat, q = i ∧ (i : Int) < T.n ∧ T.us.getD i false = true ∧ T.ks.getD i 0 = m
 bk : ∀ i : Nat, (i : Int) < T.n → T.us.getD i false = true → bk6 T i = 0
 zr : ∀ i : Nat, (i : Int) < T.n → T.us.getD i false = false → T.ks.getD i 0 = 0 ∧ z6 T i = true
theorem inv_mem {T : Tb} {L F : List Int} (v : Inv T L F) {x : Int} (h : x ∈ L) : 0 ≤ x ∧ x < T.n ∧ T.us.getD x.toNat false = true := by
 have r := seg_range v.od.2.2.2.2.1 x h
 have l := v.od.2.2.1
 obtain ⟨_, _, _, _, _, s6⟩ := v.sz
 refine ⟨r.1, by omega, ?_⟩
 rw [v.us x.toNat (by omega), show ((x.toNat : Nat) : Int) = x by omega]
 simpa using h
theorem inv_cell {T : Tb} {L F : List Int} (v : Inv T L F) {i : Nat} (hi : (i : Int) < T.n) (hu : T.us.getD i false = true) : Ce T.kx T.px T.ux (T.ks.getD i 0) i := (v.ce _ _).2 ⟨i, rfl, hi, hu, rfl⟩
theorem inv_keys {T : Tb} {L F : List Int} (v : Inv T L F) {i j : Nat} (hi : (i : Int) < T.n) (hj : (j : Int) < T.n) (ui : T.us.getD i false = true) (uj : T.us.getD j false = true) (e : T.ks.getD i 0 = T.ks.getD j 0) : i = j := by
 have a := inv_cell v hi ui
 have b := inv_cell v hj uj
 rw [← e] at b
 have := ix_one v.ix a b
 omega
theorem tc_inv {T : Tb} (ho : okT T) (h : tcV T = 0) : ∃ L F, Inv T L F := by
 obtain ⟨h1, h2, h3, h4, h5, h6⟩ := tcV_is h
 obtain ⟨F, ar⟩ := akV_ar h2
 obtain ⟨L, od⟩ := lcV_or h4
 have ix := pcV_ix ho.1 ho.2.2.2.2.2.2.2.1 h3
 have hl : llL T.ps T.no T.h T.t = L := by
  rw [(tc_list h).1]; exact (seg_chL od.2.2.2.2.1 (or_okL od)).1
 rw [hl] at h5
 have ul : (T.us.length : Int) = T.n := by have := ar.2.2.1; have := h1.2.2.2.2.1; omega
 have hus : ∀ i : Nat, (i : Int) < T.n → T.us.getD i false = decide ((i : Int) ∈ L) := fun i hi => by
  have := h5 i (by omega)
  unfold t17Bad at this
  rw [Bool.or_eq_false_iff] at this
  simpa [inB] using this.1
 have hks : ∀ i : Nat, (i : Int) < T.n → inU (T.ks.getD i 0) := fun i hi => ho.2.1 i (by have := h1.2.2.1; omega)
 have hus2 : ∀ i : Nat, (i : Int) < T.n → T.us.getD i false = true → fdE T.kx T.px T.ux (T.ks.getD i 0) = 0 ∧ fdI T.kx T.px T.ux (T.ks.getD i 0) = i ∧ bk6 T i = 0 := fun i hi u => by
  have := h5 i (by omega)
  unfold t17Bad at this
  rw [Bool.or_eq_false_iff, if_pos u, decide_eq_false_iff_not] at this
  have t := this.2
  exact ⟨Classical.byContradiction fun n => t (.inl n), Classical.byContradiction fun n => t (.inr (.inl n)), Classical.byContradiction fun n => t (.inr (.inr n))⟩
 refine ⟨L, F, h1, ar, od, ix, hus, fun m q => ⟨?_, ?_⟩, fun i hi u => (hus2 i hi u).2.2, fun i hi u => ?_⟩
 ·rintro ⟨j, hj, uj, e1, e2⟩
  obtain ⟨i, a, b, c, d, _⟩ := tc_cells ho h hj uj
  exact ⟨i, by rw [← e2]; exact c, a, b, by rw [← d]; exact e1⟩
 ·rintro ⟨i, rfl, hi, u, e⟩
  obtain ⟨g1, g2, _⟩ := hus2 i hi u
  rw [e] at g1 g2
  have hk : inU m := by rw [← e]; exact hks i hi
  obtain ⟨a, _, ⟨b, c⟩ | ⟨b, _⟩⟩ := ix_look ix hk
  ·unfold fdI at g2
   rw [if_pos h3, if_pos b] at g2
   exact ⟨_, a, b, c, g2⟩
  ·unfold fdE at g1
   rw [if_pos h3, b] at g1
   simp at g1
 ·have := h5 i (by omega)
  unfold t17Bad at this
  rw [Bool.or_eq_false_iff, if_neg (by rw [u]; simp), Bool.or_eq_false_iff] at this
  exact ⟨by simpa using this.2.1, by simpa using this.2.2⟩
theorem cnt_zero {q : Nat → Bool} : ∀ {n : Nat}, (∀ j, j < n → q j = false) → cnt q n = 0
 | 0, _ => rfl
 | n + 1, h => by simp only [cnt, h n (by omega), cond_false]; rw [Nat.add_zero]; exact cnt_zero fun j hj => h j (by omega)
theorem cnt_one {q : Nat → Bool} : ∀ {n i : Nat}, i < n → q i = true → (∀ j, j < n → q j = true → j = i) → cnt q n = 1
 | 0, i, h, _, _ => by omega
 | n + 1, i, h, hq, hn => by
  by_cases e : i = n
  ·subst e
   simp only [cnt, hq, cond_true]
   rw [cnt_zero fun j hj => by
    cases c : q j with
    | false => rfl
    | true => have := hn j (by omega) c; omega]
  ·have : q n = false := by
    cases c : q n with
    | false => rfl
    | true => exact absurd (hn n (by omega) c).symm e
   simp only [cnt, this, cond_false]
   rw [cnt_one (i := i) (by omega) hq fun j hj c => hn j (by omega) c]
/-- As many cells are used as the list has places. -/
theorem inv_count {T : Tb} {L F : List Int} (v : Inv T L F) : ctN 16 T.ux = L.length := by
 have hn := v.od.2.2.2.1
 have e1 : L.length = (L.map Int.toNat).length := by simp
 have d2 := toNat_nodup hn fun x hx => (inv_mem v hx).1
 have bp : ∀ j, j < 16 → T.ux.getD j false = true → ∃ i : Nat, T.px.getD j 0 = i ∧ (i : Int) < T.n ∧ T.us.getD i false = true ∧ T.ks.getD i 0 = T.kx.getD j 0 := fun j hj uj => (v.ce _ _).1 ⟨j, hj, uj, rfl, rfl⟩
 have d1 : (((List.range 16).filter fun i => T.ux.getD i false).map fun j => (T.px.getD j 0).toNat).Nodup := by
  refine map_nodup (List.nodup_range.filter _) fun x hx y hy e => ?_
  rw [List.mem_filter, List.mem_range] at hx hy
  obtain ⟨i, a, b, c, d⟩ := bp x hx.1 hx.2
  obtain ⟨i', a', b', c', d'⟩ := bp y hy.1 hy.2
  have : i = i' := by omega
  subst this
  exact v.ix.2.2.2.2.2.1 x y hx.1 hy.1 hx.2 hy.2 (by rw [← d, d'])
 rw [ctN_filter, e1]
 apply Nat.le_antisymm
 ·have := nodup_le d1 (M := L.map Int.toNat) fun x hx => by
   obtain ⟨j, hj, e⟩ := List.mem_map.1 hx
   rw [List.mem_filter, List.mem_range] at hj
   obtain ⟨i, a, b, c, d⟩ := bp j hj.1 hj.2
   rw [v.us i b] at c
   exact List.mem_map.2 ⟨i, by simpa using c, by omega⟩
  rwa [List.length_map] at this
 ·have := nodup_le d2 (M := ((List.range 16).filter fun i => T.ux.getD i false).map fun j => (T.px.getD j 0).toNat) fun x hx => by
   obtain ⟨y, hy, e⟩ := List.mem_map.1 hx
   obtain ⟨a, b, c⟩ := inv_mem v hy
   obtain ⟨j, hj, uj, _, e2⟩ := inv_cell v (i := y.toNat) (by omega) c
   exact List.mem_map.2 ⟨j, by rw [List.mem_filter, List.mem_range]; exact ⟨hj, uj⟩, by omega⟩
  simp only [List.length_map] at this ⊢; exact this
theorem inv_rc {T : Tb} {L F : List Int} (v : Inv T L F) : rcV T = 0 := by
 have hc := (seg_chL v.od.2.2.2.2.1 (or_okL v.od)).1
 unfold rcV
 rw [hc, v.ix.1.1, if_pos ⟨v.sz, ar_c13 v.ar, ix_c14 v.ix, or_c15 v.od, inv_count v⟩, if_pos]
 rw [findI_lt]
 intro i _ hi
 have hi : (i : Int) < T.n := by have := v.sz.1; omega
 unfold t18Bad
 rw [v.ix.1.1]
 have e1 : T.us.getD i false = inB L i := v.us i hi
 have e2 : ceS 16 T.kx T.px T.ux i (T.ks.getD i 0) = true := by
  unfold ceS
  rw [alls_iff]
  intro j hj
  unfold ceQ
  cases u : T.ux.getD j false with
  | false => rfl
  | true =>
   by_cases p : T.px.getD j 0 = i
   ·obtain ⟨i', a, b, c, d⟩ := (v.ce _ _).1 ⟨j, hj, u, rfl, p⟩
    have : i = i' := by omega
    subst this
    rw [d, beq_self_eq_true, Bool.or_true]
   ·rw [beq_eq_false_iff_ne.2 p]; rfl
 have e3 : T.us.getD i false = decide (ceN 16 T.px T.ux i = 1) := by
  unfold ceN
  cases u : T.us.getD i false with
  | true =>
   obtain ⟨j, hj, uj, f1, f2⟩ := inv_cell v hi u
   rw [cnt_one (i := j) hj (by unfold ceQ; simp only [uj, Bool.true_and]; simpa using f2) fun j' hj' q => ?_]
   ·rfl
   ·unfold ceQ at q
    rw [Bool.and_eq_true] at q
    obtain ⟨q1, q2⟩ := q
    have q2 : T.px.getD j' 0 = i := by simpa using q2
    obtain ⟨i', a, b, c, d⟩ := (v.ce _ _).1 ⟨j', hj', q1, rfl, q2⟩
    have : i = i' := by omega
    subst this
    exact v.ix.2.2.2.2.2.1 j' j hj' hj q1 uj (by rw [← d, f1])
  | false =>
   rw [cnt_zero fun j hj => ?_]
   ·rfl
   ·unfold ceQ
    cases uj : T.ux.getD j false with
    | false => rfl
    | true =>
     by_cases p : T.px.getD j 0 = i
     ·obtain ⟨i', a, b, c, d⟩ := (v.ce _ _).1 ⟨j, hj, uj, rfl, p⟩
      have : i = i' := by omega
      subst this
      rw [u] at c; cases c
     ·simpa using p
 rw [← e1, ← e3, e2]
 cases u : T.us.getD i false with
 | true => rw [if_pos rfl, v.bk i hi u]; rfl
 | false =>
  obtain ⟨z1, z2⟩ := v.zr i hi u
  rw [if_neg (by simp), z1, z2]; rfl
/-- The code and the reference agree on what a right table is. -/
theorem tc_rc {T : Tb} (ho : okT T) : tcV T = 0 ↔ rcV T = 0 := ⟨fun h => by obtain ⟨L, F, v⟩ := tc_inv ho h; exact inv_rc v, tcV_of ho⟩
theorem tcV_two (T : Tb) : tcV T = 0 ∨ tcV T = 8 := by
 unfold tcV; split
 ·split
  ·exact .inl rfl
  ·exact .inr rfl
 ·exact .inr rfl
theorem rcV_two (T : Tb) : rcV T = 0 ∨ rcV T = 8 := by
 unfold rcV; split
 ·split
  ·exact .inl rfl
  ·exact .inr rfl
 ·exact .inr rfl
theorem tc_eq_rc {T : Tb} (ho : okT T) : tcV T = rcV T := by
 have := tc_rc ho
 rcases tcV_two T with a | a <;> rcases rcV_two T with b | b <;> omega
theorem inv_has {T : Tb} {L F : List Int} (v : Inv T L F) {i : Nat} {k : Int} (hk : inU k) (hi : (i : Int) < T.n) (hu : T.us.getD i false = true) (e : T.ks.getD i 0 = k) : fdE T.kx T.px T.ux k = 0 ∧ fdI T.kx T.px T.ux k = i :=
 ix_found v.ix hk (by rw [← e]; exact inv_cell v hi hu)
theorem inv_no {T : Tb} {L F : List Int} (v : Inv T L F) {k : Int} (hk : inU k) (h : ∀ i : Nat, (i : Int) < T.n → T.us.getD i false = true → T.ks.getD i 0 ≠ k) : fdE T.kx T.px T.ux k = 6 ∧ fdI T.kx T.px T.ux k = 0 ∧ T.ux.getD (lkI T.kx T.ux k) false = false :=
 ix_none v.ix hk fun q c => by
  obtain ⟨i, _, a, b, d⟩ := (v.ce _ _).1 c
  exact h i a b d
/-- A key is at a place, or nowhere. -/
theorem inv_at {T : Tb} {L F : List Int} (v : Inv T L F) (k : Int) : (∃ i : Nat, (i : Int) < T.n ∧ T.us.getD i false = true ∧ T.ks.getD i 0 = k) ∨ ∀ i : Nat, (i : Int) < T.n → T.us.getD i false = true → T.ks.getD i 0 ≠ k := by
 by_cases c : ∃ i : Nat, (i : Int) < T.n ∧ T.us.getD i false = true ∧ T.ks.getD i 0 = k
 ·exact .inl c
 ·exact .inr fun i a b d => c ⟨i, a, b, d⟩
end TableS
end

section
namespace TableS
open Go Go.Dam Go.Proofs
set_option maxRecDepth 1000000
/-- A table without the key at a place. -/
def Tb.without (T : Tb) (k : Int) (i : Nat) : Tb := ⟨T.n, T.ks.set i 0, T.x1.set i 0, T.x2.set i 0, T.x3.set i 0, T.x4.set i 0, T.x5.set i 0, T.x6.set i 0, T.nx.set i T.fr, T.us.set i false, i,
 (dpR T.kx T.px T.ux k).kx.set (dpR T.kx T.px T.ux k).i 0, (dpR T.kx T.px T.ux k).px.set (dpR T.kx T.px T.ux k).i 0, (dpR T.kx T.px T.ux k).ux.set (dpR T.kx T.px T.ux k).i false, rmP T.ps T.no i, rmN T.ps T.no i, rmH T.ps T.no T.h i, rmT T.ps T.no T.t i⟩
theorem rmP_len (ps no : List Int) (p : Int) : (rmP ps no p).length = ps.length := by unfold rmP; split <;> simp
theorem rmN_len (ps no : List Int) (p : Int) : (rmN ps no p).length = no.length := by unfold rmN; split <;> simp
theorem inv_us_len {T : Tb} {L F : List Int} (v : Inv T L F) : (T.us.length : Int) = T.n := by have := v.ar.2.2.1; have := v.sz.2.2.2.2.1; omega
theorem z6_set {T U : Tb} {i : Nat} {a b c d e f : Int} (h1 : U.x1 = T.x1.set i a) (h2 : U.x2 = T.x2.set i b) (h3 : U.x3 = T.x3.set i c) (h4 : U.x4 = T.x4.set i d) (h5 : U.x5 = T.x5.set i e) (h6 : U.x6 = T.x6.set i f) :
  ∀ j, i ≠ j → z6 U j = z6 T j ∧ bk6 U j = bk6 T j := fun j n => by
 unfold z6 bk6
 rw [h1, h2, h3, h4, h5, h6, getD_set_ne n, getD_set_ne n, getD_set_ne n, getD_set_ne n, getD_set_ne n, getD_set_ne n]
 exact ⟨rfl, rfl⟩
theorem inv_without {T : Tb} (ho : okT T) {L F : List Int} (v : Inv T L F) {i : Nat} {k : Int} (hk : inU k) (hi : (i : Int) < T.n) (hu : T.us.getD i false = true) (e : T.ks.getD i 0 = k) :
  Inv (T.without k i) (wo L i) ((i : Int) :: F) ∧ ctN 16 (T.without k i).ux + 1 = ctN 16 T.ux := by
 have vk := @inv_keys _ _ _ v
 have ul := inv_us_len v
 have hc := inv_cell v hi hu
 rw [e] at hc
 obtain ⟨ix', ct', ce'⟩ := ix_drop v.ix hk hc
 have hm : (i : Int) ∈ L := by have := v.us i hi; rw [hu] at this; simpa using this.symm
 obtain ⟨sz, ar, od, ix, us, ce, bk, zr⟩ := v
 have sz' := sz
 obtain ⟨s1, s2, s3, s4, s5, s6⟩ := sz'
 obtain ⟨_, k2, k3, k4, k5, k6⟩ := ho.2.2.2.2.2.2.1
 have zz := @z6_set T (T.without k i) i 0 0 0 0 0 0 rfl rfl rfl rfl rfl rfl
 have u1 : (T.us.set i false).getD i false = false := getB_set_self (by omega)
 have u2 : ∀ j, i ≠ j → (T.us.set i false).getD j false = T.us.getD j false := fun j n => getB_set_ne n
 have u3 : ∀ j, (T.us.set i false).getD j false = true → i ≠ j ∧ T.us.getD j false = true := fun j u => by
  by_cases q : i = j
  ·subst q; rw [u1] at u; cases u
  ·exact ⟨q, by rwa [u2 j q] at u⟩
 have q2 : ∀ j, i ≠ j → (T.ks.set i 0).getD j 0 = T.ks.getD j 0 := fun j n => getD_set_ne n
 refine ⟨⟨⟨s1, s2, ?_, ?_, ?_, ?_⟩, ?_, or_remove od hm, ix', fun j hj => ?_, fun m q => ?_, fun j hj u => ?_, fun j hj u => ?_⟩, ct'⟩
 ·show ((T.ks.set i 0).length : Int) = T.n; rw [List.length_set]; exact s3
 ·show ((T.x1.set i 0).length : Int) = T.n; rw [List.length_set]; exact s4
 ·show ((T.nx.set i T.fr).length : Int) = T.n; rw [List.length_set]; exact s5
 ·show ((rmP T.ps T.no i).length : Int) = T.n; rw [rmP_len]; exact s6
 ·have := ar_give ar (p := i) (by omega) (by omega) (by rw [Int.toNat_natCast]; exact hu)
  rw [Int.toNat_natCast] at this; exact this
 ·show (T.us.set i false).getD j false = decide ((j : Int) ∈ wo L i)
  change (j : Int) < T.n at hj
  by_cases q : i = j
  ·subst q; rw [u1]; simp [mem_wo]
  ·have : (j : Int) ≠ i := by omega
   rw [u2 j q, us j hj]; simp [mem_wo, this]
 ·refine (ce' m q).trans ⟨?_, ?_⟩
  ·rintro ⟨c, n⟩
   obtain ⟨j, a1, a2, a3, a4⟩ := (ce m q).1 c
   have q : i ≠ j := fun q => n (by rw [← a4, ← q]; exact e)
   exact ⟨j, a1, a2, by show (T.us.set i false).getD j false = true; rw [u2 j q]; exact a3, by show (T.ks.set i 0).getD j 0 = m; rw [q2 j q]; exact a4⟩
  ·rintro ⟨j, a1, a2, a3, a4⟩
   obtain ⟨q, a3⟩ := u3 j a3
   change (T.ks.set i 0).getD j 0 = m at a4
   rw [q2 j q] at a4
   exact ⟨(ce m _).2 ⟨j, a1, a2, a3, a4⟩, fun n => q (vk hi a2 hu a3 (by rw [e, a4, n]))⟩
 ·obtain ⟨q, u⟩ := u3 j u
  rw [(zz j q).2]; exact bk j hj u
 ·change (j : Int) < T.n at hj
  by_cases q : i = j
  ·subst q
   refine ⟨by show (T.ks.set i 0).getD i 0 = 0; rw [getD_set_self (by omega)], ?_⟩
   unfold z6
   show ((T.x1.set i 0).getD i 0 == 0 && ((T.x2.set i 0).getD i 0 == 0 && ((T.x3.set i 0).getD i 0 == 0 && ((T.x4.set i 0).getD i 0 == 0 && ((T.x5.set i 0).getD i 0 == 0 && (T.x6.set i 0).getD i 0 == 0))))) = true
   rw [getD_set_self (by omega), getD_set_self (by omega), getD_set_self (by omega), getD_set_self (by omega), getD_set_self (by omega), getD_set_self (by omega)]; rfl
  ·have u' : T.us.getD j false = false := by rw [← u2 j q]; exact u
   have := zr j hj u'
   exact ⟨by show (T.ks.set i 0).getD j 0 = 0; rw [q2 j q]; exact this.1, by rw [(zz j q).1]; exact this.2⟩
theorem inU_set {l : List Int} {i : Nat} {x : Int} (h : ∀ j, j < l.length → inU (l.getD j 0)) (hx : inU x) : ∀ j, j < (l.set i x).length → inU ((l.set i x).getD j 0) := fun j hj => by
 rw [List.length_set] at hj
 by_cases e : i = j
 ·subst e; rw [getD_set_self hj]; exact hx
 ·rw [getD_set_ne e]; exact h j hj
theorem in64_set {l m : List Int} {i : Nat} {x : Int} (hl : m.length = l.length) (h : ∀ j, j < l.length → in64 (m.getD j 0)) (hx : in64 x) (y : Int) : ∀ j, j < (l.set i y).length → in64 ((m.set i x).getD j 0) := fun j hj => by
 rw [List.length_set] at hj
 by_cases e : i = j
 ·subst e; rw [getD_set_self (by omega)]; exact hx
 ·rw [getD_set_ne e]; exact h j hj
theorem kcS_set {x1 x2 x3 x4 x5 x6 : List Int} {i : Nat} {a b c d e f : Int} (h : kcS x1 x2 x3 x4 x5 x6) : kcS (x1.set i a) (x2.set i b) (x3.set i c) (x4.set i d) (x5.set i e) (x6.set i f) := by
 unfold kcS at h ⊢; simp only [List.length_set]; exact h
theorem okT_without {T : Tb} (ho : okT T) {L F : List Int} (v : Inv T L F) {i : Nat} {k : Int} (hk : inU k) (hi : (i : Int) < T.n) (hu : T.us.getD i false = true) (e : T.ks.getD i 0 = k) : okT (T.without k i) := by
 have w := (inv_without ho v hk hi hu e).1
 obtain ⟨h1, h2, h3, h4, h5, h6, h7, h8, h9, h10⟩ := ho
 refine ⟨ix_okI w.ix, inU_set h2 (by unfold inU; omega), in64_set h7.2.2.2.1 h3 (by unfold in64; omega) 0, ?_, ?_, ?_, kcS_set h7, ix_cc w.ix, ?_, ?_⟩
 ·show (T.nx.set i T.fr).length ≤ 200; rw [List.length_set]; exact h4
 ·show (T.us.set i false).length ≤ 200; rw [List.length_set]; exact h5
 ·show (rmN T.ps T.no i).length ≤ 200; rw [rmN_len]; exact h6
 ·show (T.ks.set i 0).length ≤ 200; rw [List.length_set]; exact h9
 ·show (rmP T.ps T.no i).length ≤ 200; rw [rmP_len]; exact h10
end TableS
end

section
namespace TableS
open Go Go.Dam Go.Proofs
set_option maxRecDepth 1000000
def usW (T : Tb) (k b r p : Int) : Prop := tcV T = 0 ∧ limV b r p = 0 ∧ plV T k < 0 ∧ T.fr = -1
instance (T : Tb) (k b r p : Int) : Decidable (usW T k b r p) := by unfold usW; exact inferInstance
theorem inv_pl {T : Tb} {L F : List Int} (v : Inv T L F) {k : Int} (hk : inU k) : (∃ i : Nat, plV T k = i ∧ (i : Int) < T.n ∧ T.us.getD i false = true ∧ T.ks.getD i 0 = k) ∨ (plV T k = -1 ∧ ∀ i : Nat, (i : Int) < T.n → T.us.getD i false = true → T.ks.getD i 0 ≠ k) := by
 unfold plV
 rcases inv_at v k with ⟨i, a, b, c⟩ | h
 ·obtain ⟨e1, e2⟩ := inv_has v hk a b c
  exact .inl ⟨i, by rw [if_pos e1, e2], a, b, c⟩
 ·obtain ⟨e1, _, _⟩ := inv_no v hk h
  exact .inr ⟨by rw [if_neg (by rw [e1]; omega)], h⟩
theorem okT_lens {T : Tb} (ho : okT T) {L F : List Int} (v : Inv T L F) : (T.ks.length : Int) = T.n ∧ (T.x1.length : Int) = T.n ∧ (T.x2.length : Int) = T.n ∧ (T.x3.length : Int) = T.n ∧ (T.x4.length : Int) = T.n ∧ (T.x5.length : Int) = T.n ∧ (T.x6.length : Int) = T.n := by
 obtain ⟨s1, s2, s3, s4, s5, s6⟩ := v.sz
 obtain ⟨_, k2, k3, k4, k5, k6⟩ := ho.2.2.2.2.2.2.1
 omega
noncomputable section
end
noncomputable def X15 : Contracts := X14
theorem hX15 : ConOK Try.prog X15 := hX14
end TableS
end

section
namespace TableS
open Go Go.Dam Go.Proofs
set_option maxRecDepth 1000000
noncomputable def dr_c0 (T : Tb) (k : Int) := if rmO T.ps T.no T.h T.t (plV T k) then rmP T.ps T.no (plV T k) else []
noncomputable def dr_c1 (T : Tb) (k : Int) := if rmO T.ps T.no T.h T.t (plV T k) then rmN T.ps T.no (plV T k) else []
noncomputable def dr_c2 (T : Tb) (k : Int) := if gvO T.nx T.us T.fr (plV T k) then T.nx.set (plV T k).toNat T.fr else []
noncomputable def dr_c3 (T : Tb) (k : Int) := if gvO T.nx T.us T.fr (plV T k) then T.us.set (plV T k).toNat false else []
noncomputable def dr_c4 (T : Tb) (k : Int) := if dpO T.kx T.px T.ux k then (dpR T.kx T.px T.ux k).kx.set (dpR T.kx T.px T.ux k).i 0 else []
noncomputable def dr_c5 (T : Tb) (k : Int) := if dpO T.kx T.px T.ux k then (dpR T.kx T.px T.ux k).px.set (dpR T.kx T.px T.ux k).i 0 else []
noncomputable def dr_c6 (T : Tb) (k : Int) := if dpO T.kx T.px T.ux k then (dpR T.kx T.px T.ux k).ux.set (dpR T.kx T.px T.ux k).i false else []
noncomputable def dr_T (T : Tb) (k : Int) : Tr D := .s (okT T) (.d (cmpI .neq (tcV T) 0) (fun e0 => .lf (D.tup [D.agg [i64 0, D.v (Value.slice none 0 0), D.v (Value.slice none 0 0), D.v (Value.slice none 0 0), D.v (Value.slice none 0 0), i64 0, D.v (Value.slice none 0 0), D.v (Value.slice none 0 0), D.v (Value.slice none 0 0), i64 0, i64 0], i64 (tcV T)])) (fun e0 => .s (okT T ∧ inU k) (.d (cmpI .lss (plV T k) 0) (fun e1 => .lf (D.tup [D.agg [i64 0, D.v (Value.slice none 0 0), D.v (Value.slice none 0 0), D.v (Value.slice none 0 0), D.v (Value.slice none 0 0), i64 0, D.v (Value.slice none 0 0), D.v (Value.slice none 0 0), D.v (Value.slice none 0 0), i64 0, i64 0], i64 6])) (fun e1 => .s (T.ks.length ≤ 200) (.s (kcS T.x1 T.x2 T.x3 T.x4 T.x5 T.x6) (.s (T.nx.length ≤ 200) (.s (T.us.length ≤ 200) (.s (ccS T.kx T.px T.ux) (.s (T.ps.length ≤ 200) (.s (T.no.length ≤ 200) (.s (okT T ∧ inU k) (.q (rowLen0 [.ints .i64 T.no]) (.q (rowLen0 [.ints .i64 T.ps]) (.q (rowLen0 [.ints .u32 T.kx, .ints .i64 T.px, .bools T.ux]) (.q (rowLen0 [.bools T.us]) (.q (rowLen0 [.ints .i64 T.nx]) (.q (rowLen0 [.ints .i64 T.x1, .ints .i64 T.x2, .ints .i64 T.x3, .ints .i64 T.x4, .ints .i64 T.x5, .ints .u64 T.x6]) (.q (rowLen0 [.ints .u32 T.ks]) (.q (rowLen0 [.ints .i64 T.no]) (.q (rowLen0 [.ints .i64 T.ps]) (.s (okI T.kx ∧ inU k ∧ ccS T.kx T.px T.ux) (.q (rowLen0 [.ints .u32 T.kx, .ints .i64 T.px, .bools T.ux]) (.s (T.us.length ≤ 200 ∧ T.nx.length ≤ 200) (.q (rowLen0 [.bools T.us]) (.q (rowLen0 [.ints .i64 T.nx]) (.s (decide (plV T k < ↑(rowLen0 [.ints .u32 T.ks])) = true) (.s (decide (0 ≤ plV T k) = true) (.s ((Col0.ints .u32 T.ks).len = rowLen0 [.ints .u32 T.ks]) (.s ((plV T k).toNat < rowLen0 [.ints .u32 T.ks]) (.s (decide (plV T k < ↑(rowLen0 [.ints .i64 T.x1, .ints .i64 T.x2, .ints .i64 T.x3, .ints .i64 T.x4, .ints .i64 T.x5, .ints .u64 T.x6])) = true) (.s (decide (0 ≤ plV T k) = true) (.s ((Col0.ints .u64 T.x6).len = rowLen0 [.ints .i64 T.x1, .ints .i64 T.x2, .ints .i64 T.x3, .ints .i64 T.x4, .ints .i64 T.x5, .ints .u64 T.x6]) (.s ((Col0.ints .i64 T.x5).len = rowLen0 [.ints .i64 T.x1, .ints .i64 T.x2, .ints .i64 T.x3, .ints .i64 T.x4, .ints .i64 T.x5, .ints .u64 T.x6]) (.s ((Col0.ints .i64 T.x4).len = rowLen0 [.ints .i64 T.x1, .ints .i64 T.x2, .ints .i64 T.x3, .ints .i64 T.x4, .ints .i64 T.x5, .ints .u64 T.x6]) (.s ((Col0.ints .i64 T.x3).len = rowLen0 [.ints .i64 T.x1, .ints .i64 T.x2, .ints .i64 T.x3, .ints .i64 T.x4, .ints .i64 T.x5, .ints .u64 T.x6]) (.s ((Col0.ints .i64 T.x2).len = rowLen0 [.ints .i64 T.x1, .ints .i64 T.x2, .ints .i64 T.x3, .ints .i64 T.x4, .ints .i64 T.x5, .ints .u64 T.x6]) (.s ((Col0.ints .i64 T.x1).len = rowLen0 [.ints .i64 T.x1, .ints .i64 T.x2, .ints .i64 T.x3, .ints .i64 T.x4, .ints .i64 T.x5, .ints .u64 T.x6]) (.s ((plV T k).toNat < rowLen0 [.ints .i64 T.x1, .ints .i64 T.x2, .ints .i64 T.x3, .ints .i64 T.x4, .ints .i64 T.x5, .ints .u64 T.x6]) (.q (rowLen0 [.ints .i64 (dr_c1 T k)]) (.q (rowLen0 [.ints .i64 (dr_c0 T k)]) (.q (rowLen0 [.ints .u32 (dr_c4 T k), .ints .i64 (dr_c5 T k), .bools (dr_c6 T k)]) (.q (rowLen0 [.bools (dr_c3 T k)]) (.q (rowLen0 [.ints .i64 (dr_c2 T k)]) (.s (rowLen0 [.ints .i64 T.x1, .ints .i64 T.x2, .ints .i64 T.x3, .ints .i64 T.x4, .ints .i64 T.x5, .ints .u64 T.x6] = rowLen0 [.ints .i64 (T.x1.set (plV T k).toNat 0), .ints .i64 (T.x2.set (plV T k).toNat 0), .ints .i64 (T.x3.set (plV T k).toNat 0), .ints .i64 (T.x4.set (plV T k).toNat 0), .ints .i64 (T.x5.set (plV T k).toNat 0), .ints .u64 (T.x6.set (plV T k).toNat 0)]) (.s (rowLen0 [.ints .u32 T.ks] = rowLen0 [.ints .u32 (T.ks.set (plV T k).toNat 0)]) (.lf (D.tup [D.agg [i64 T.n, D.oc [.ints .u32 (T.ks.set (plV T k).toNat 0)], D.oc [.ints .i64 (T.x1.set (plV T k).toNat 0), .ints .i64 (T.x2.set (plV T k).toNat 0), .ints .i64 (T.x3.set (plV T k).toNat 0), .ints .i64 (T.x4.set (plV T k).toNat 0), .ints .i64 (T.x5.set (plV T k).toNat 0), .ints .u64 (T.x6.set (plV T k).toNat 0)], D.oc [.ints .i64 (dr_c2 T k)], D.oc [.bools (dr_c3 T k)], i64 (if gvO T.nx T.us T.fr (plV T k) then plV T k else 0), D.oc [.ints .u32 (dr_c4 T k), .ints .i64 (dr_c5 T k), .bools (dr_c6 T k)], D.oc [.ints .i64 (dr_c0 T k)], D.oc [.ints .i64 (dr_c1 T k)], i64 (if rmO T.ps T.no T.h T.t (plV T k) then rmH T.ps T.no T.h (plV T k) else 0), i64 (if rmO T.ps T.no T.h T.t (plV T k) then rmT T.ps T.no T.t (plV T k) else 0)], i64 0])))))))))))))))))))))))))))))))))))))))))))))))
theorem dr_L (T : Tb) (k : Int) : Leaves (fun l => fnX Try.prog (X15) 100000 l 24 [T.d, u32 k]) (dr_T T k) [] [] := by refine ⟨fun _ => ?_, fun _ => ⟨fun _ => ?_, fun _ => ?_⟩⟩ <;> (show _ = _; kernel_rfl)
theorem dr_calls (T : Tb) (k : Int) (res : D) (h0 : At (fun r => res = r) (dr_T T k) [true] True) (h1 : At (fun r => res = r) (dr_T T k) [false, true] True) (h2 : At (fun r => res = r) (dr_T T k) [false, false] True) : CallsD Try.prog 24 [T.d, u32 k] res := tree_calls (hX15) (dr_L T k) ⟨fun e0 => h0 e0, fun e0 => ⟨fun e1 => h1 e0 e1, fun e1 => h2 e0 e1⟩⟩
/-- A table after Drop; the error. -/
def drX (T : Tb) (k : Int) : Tb := if tcV T = 0 ∧ ¬ plV T k < 0 then T.without k (plV T k).toNat else t0
def drE (T : Tb) (k : Int) : Int := if tcV T = 0 then (if plV T k < 0 then 6 else 0) else tcV T
theorem dr_ok (T : Tb) (k : Int) (h : okT T ∧ inU k) : CallsD Try.prog 24 [T.d, u32 k] (.tup [(drX T k).o, i64 (drE T k)]) := by
 obtain ⟨ho, hk⟩ := h
 by_cases c : tcV T = 0
 ·obtain ⟨L, F, v⟩ := tc_inv ho c
  have ho' := ho
  obtain ⟨d8, _, _, d1, d2, d3, d4, d5, d6, d7⟩ := ho'
  have lens := okT_lens ho v
  rcases inv_pl v hk with ⟨i, ep, hi, hu, ek⟩ | ⟨ep, hn⟩
  ·have c3 : ¬ plV T k < 0 := by omega
   have lc := or_lc v.od
   have tm : (i : Int) ∈ L := by have := v.us i hi; rw [hu] at this; simpa using this.symm
   have ps6 : (T.ps.length : Int) = T.n := v.sz.2.2.2.2.2
   have nx5 : (T.nx.length : Int) = T.n := v.sz.2.2.2.2.1
   have hrm : rmO T.ps T.no T.h T.t i := ⟨lc, ⟨by omega, by omega⟩, (or_mem v.od (by omega) (by omega)).2 tm⟩
   have hgv : gvO T.nx T.us T.fr i := ⟨ar_ak v.ar, by omega, by omega, by rw [Int.toNat_natCast]; exact hu⟩
   have hdp : dpO T.kx T.px T.ux k := by
    obtain ⟨j, hj, uj, e1, e2⟩ := inv_cell v hi hu
    refine ⟨ix_pc v.ix, ?_⟩
    have := ix_at v.ix hj uj
    rw [e1, ek] at this
    rw [this]; exact uj
   unfold drX drE
   rw [if_pos ⟨c, c3⟩, if_pos c, if_neg c3]
   refine dr_calls T k _ ?_ ?_ ?_ <;> dsimp only [At, Tr.q, dr_T]
   ·intro g; rw [neq_t] at g; exact absurd c g
   ·intro _ g; rw [lss_t] at g; exact absurd g c3
   ·intro _ _
    simp only [dr_c0, dr_c1, dr_c2, dr_c3, dr_c4, dr_c5, dr_c6, ep, if_pos hrm, if_pos hgv, if_pos hdp]
    refine ⟨?_, rfl⟩
    (repeat' (first | assumption | apply And.intro)) <;> first | exact trivial | rfl | ((try refine @decide_eq_true _ _ ?_); first | omega | (simp only [rowLen0, Col0.len, List.length_set, Int.toNat_natCast] <;> omega))
  ·have c3 : plV T k < 0 := by omega
   unfold drX drE
   rw [if_neg (fun n => n.2 c3), if_pos c, if_pos c3]
   refine calls_reads (ReadsNs.tup (.cons nilT (.refl _))) ?_
   refine dr_calls T k _ ?_ ?_ ?_ <;> dsimp only [At, Tr.q, dr_T]
   ·intro g; rw [neq_t] at g; exact absurd c g
   ·intro _ _; exact ⟨⟨⟨ho, hk⟩, ho, trivial⟩, rfl⟩
   ·intro _ g; rw [lss_f] at g; omega
 ·unfold drX drE
  rw [if_neg (fun n => c n.1), if_neg c]
  refine calls_reads (ReadsNs.tup (.cons nilT (.refl _))) ?_
  refine dr_calls T k _ ?_ ?_ ?_ <;> dsimp only [At, Tr.q, dr_T]
  ·intro _; exact ⟨⟨ho, trivial⟩, rfl⟩
  ·intro g; rw [neq_f] at g; exact absurd g c
  ·intro g; rw [neq_f] at g; exact absurd g c
noncomputable section
def drC : List D → Option (D × List Prop)
 | [.agg [.v (.int .i64 n), .rc [.ints .u32 ks], .rc [.ints .i64 x1, .ints .i64 x2, .ints .i64 x3, .ints .i64 x4, .ints .i64 x5, .ints .u64 x6], .rc [.ints .i64 nx], .rc [.bools us], .v (.int .i64 fr), .rc [.ints .u32 kx, .ints .i64 px, .bools ux], .rc [.ints .i64 ps], .rc [.ints .i64 no], .v (.int .i64 h), .v (.int .i64 t)], .v (.int .u32 k)] => some ((.tup [(drX ⟨n, ks, x1, x2, x3, x4, x5, x6, nx, us, fr, kx, px, ux, ps, no, h, t⟩ k).o, i64 (drE ⟨n, ks, x1, x2, x3, x4, x5, x6, nx, us, fr, kx, px, ux, ps, no, h, t⟩ k)]), [okT ⟨n, ks, x1, x2, x3, x4, x5, x6, nx, us, fr, kx, px, ux, ps, no, h, t⟩ ∧ inU k])
 | _ => none
end
theorem drC_ok (args res l) (h : drC args = some (res, l)) (hl : AllP l) : CallsD Try.prog 24 args res := by
 unfold drC at h; split at h
 ·simp only [Option.some.injEq, Prod.mk.injEq] at h
  obtain ⟨rfl, rfl⟩ := h
  exact dr_ok _ _ hl.1
 ·cases h
end TableS
end

section
namespace TableS
open Go Go.Dam Go.Proofs
set_option maxRecDepth 1000000
noncomputable section
end
noncomputable def X18 : Contracts := addCon 24 (.call drC) X15
theorem hX18 : ConOK Try.prog X18 := addCall_ok drC_ok hX15
end TableS
end

section
namespace TableS
open Go Go.Dam Go.Proofs
set_option maxRecDepth 1000000
noncomputable def t13_T (nx : List Int) (us : List Bool) (f : Int) : Tr D := .s (nx.length = nx.length) (.s (nx.length * 8 ≤ 17592186044416) (.s (us.length = us.length) (.s (us.length * 1 ≤ 17592186044416) (.q (us.length) (.q (nx.length) (.lf (D.agg [D.oc [.ints .i64 nx], D.oc [.bools us], i64 f])))))))
theorem t13_L (nx : List Int) (us : List Bool) (f : Int) : Leaves (fun l => fnX Try.prog (X18) 100000 l 36 [D.agg [ri nx, rb us, i64 f]]) (t13_T nx us f) [] [] := by show _ = _; kernel_rfl
theorem t13_calls (nx : List Int) (us : List Bool) (f : Int) (res : D) (h0 : At (fun r => res = r) (t13_T nx us f) [] True) : CallsD Try.prog 36 [D.agg [ri nx, rb us, i64 f]] res := tree_calls (hX18) (t13_L nx us f) h0
noncomputable def t15_T (ps : List Int) (no : List Int) (h : Int) (t : Int) : Tr D := .s ((Col0.ints .i64 ps).len = rowLen0 [.ints .i64 ps]) (.s (rowLen0 [.ints .i64 ps] * 8 ≤ 17592186044416) (.s ((Col0.ints .i64 no).len = rowLen0 [.ints .i64 no]) (.s (rowLen0 [.ints .i64 no] * 8 ≤ 17592186044416) (.q (rowLen0 [.ints .i64 no]) (.q (rowLen0 [.ints .i64 ps]) (.lf (D.agg [D.oc [.ints .i64 ps], D.oc [.ints .i64 no], i64 h, i64 t])))))))
theorem t15_L (ps no : List Int) (h t : Int) : Leaves (fun l => fnX Try.prog (X18) 100000 l 37 [D.agg [ri ps, ri no, i64 h, i64 t]]) (t15_T ps no h t) [] [] := by show _ = _; kernel_rfl
theorem t15_calls (ps no : List Int) (h t : Int) (res : D) (h0 : At (fun r => res = r) (t15_T ps no h t) [] True) : CallsD Try.prog 37 [D.agg [ri ps, ri no, i64 h, i64 t]] res := tree_calls (hX18) (t15_L ps no h t) h0
noncomputable def g3_T (nx : List Int) (us : List Bool) (f : Int) (p : Int) : Tr D := .s (nx.length ≤ 200) (.d (cmpI .neq (c13V nx us f) 0) (fun e0 => .s (nx.length ≤ 200) (.lf (D.tup [D.agg [D.v (Value.slice none 0 0), D.v (Value.slice none 0 0), i64 0], i64 (c13V nx us f)]))) (fun e0 => .d (cmpI .lss p 0) (fun e1 => .p (.c 4) (.lf (D.tup [D.agg [D.v (Value.slice none 0 0), D.v (Value.slice none 0 0), i64 0], i64 2]))) (fun e1 => .p (.c 3) (.d (cmpI .geq p (us.length : Int)) (fun e2 => .lf (D.tup [D.agg [D.v (Value.slice none 0 0), D.v (Value.slice none 0 0), i64 0], i64 2])) (fun e2 => .s (decide (p < (us.length : Int)) = true) (.s (decide (0 ≤ p) = true) (.d (!us.getD p.toNat false) (fun e3 => .lf (D.tup [D.agg [D.v (Value.slice none 0 0), D.v (Value.slice none 0 0), i64 0], i64 36])) (fun e3 => .s (nx.length = nx.length) (.s (nx.length * 8 ≤ 17592186044416) (.s (us.length = us.length) (.s (us.length * 1 ≤ 17592186044416) (.s (decide (p < (us.length : Int)) = true) (.s (decide (0 ≤ p) = true) (.s (us.length = us.length) (.s (p.toNat < us.length) (.s (decide (p < (nx.length : Int)) = true) (.s (decide (0 ≤ p) = true) (.s (nx.length = nx.length) (.s (p.toNat < nx.length) (.s (us.length = rowLen0 [.bools (us.set p.toNat false)]) (.s (nx.length = rowLen0 [.ints .i64 (nx.set p.toNat f)]) (.lf (D.tup [D.agg [D.oc [.ints .i64 (nx.set p.toNat f)], D.oc [.bools (us.set p.toNat false)], i64 p], i64 0])))))))))))))))))))))))
theorem g3_L (nx : List Int) (us : List Bool) (f p : Int) : Leaves (fun l => fnX Try.prog (X18) 100000 l 98 [D.agg [ri nx, rb us, i64 f], i64 p]) (g3_T nx us f p) [] [] := by refine ⟨fun _ => ?_, fun _ => ⟨fun _ => ?_, fun _ => ⟨fun _ => ?_, fun _ => ⟨fun _ => ?_, fun _ => ?_⟩⟩⟩⟩ <;> (show _ = _; kernel_rfl)
theorem g3_calls (nx : List Int) (us : List Bool) (f p : Int) (res : D) (h0 : At (fun r => res = r) (g3_T nx us f p) [true] True) (h1 : At (fun r => res = r) (g3_T nx us f p) [false, true] True) (h2 : At (fun r => res = r) (g3_T nx us f p) [false, false, true] True) (h3 : At (fun r => res = r) (g3_T nx us f p) [false, false, false, true] True) (h4 : At (fun r => res = r) (g3_T nx us f p) [false, false, false, false] True) : CallsD Try.prog 98 [D.agg [ri nx, rb us, i64 f], i64 p] res := tree_calls (hX18) (g3_L nx us f p) ⟨fun e0 => h0 e0, fun e0 => ⟨fun e1 => h1 e0 e1, fun e1 => ⟨fun e2 => h2 e0 e1 e2, fun e2 => ⟨fun e3 => h3 e0 e1 e2 e3, fun e3 => h4 e0 e1 e2 e3⟩⟩⟩⟩
/-! The reference's arenas are the code's. -/
theorem c13V_two (nx : List Int) (us : List Bool) (f : Int) : c13V nx us f = 0 ∨ c13V nx us f = 8 := by
 unfold c13V; (repeat' split) <;> first | exact .inl rfl | exact .inr rfl
theorem akV_two (nx : List Int) (us : List Bool) (f : Int) : akV nx us f = 0 ∨ akV nx us f = 8 := by
 unfold akV; (repeat' split) <;> first | exact .inl rfl | exact .inr rfl
theorem ak_eq (nx : List Int) (us : List Bool) (f : Int) : c13V nx us f = akV nx us f := by
 have := ak_c13 nx us f
 rcases c13V_two nx us f with a | a <;> rcases akV_two nx us f with b | b <;> omega
theorem t13_ok (nx : List Int) (us : List Bool) (f : Int) (h : nx.length ≤ 200 ∧ us.length ≤ 200) : CallsD Try.prog 36 [.agg [ri nx, rb us, i64 f]] (.agg [oi nx, ob us, i64 f]) :=
 t13_calls nx us f _ ⟨⟨by omega, rfl, by omega, rfl, trivial⟩, rfl⟩
theorem t15_ok (ps no : List Int) (h t : Int) (hl : ps.length ≤ 200 ∧ no.length ≤ 200) : CallsD Try.prog 37 [.agg [ri ps, ri no, i64 h, i64 t]] (.agg [oi ps, oi no, i64 h, i64 t]) :=
 t15_calls ps no h t _ ⟨⟨by show no.length * 8 ≤ _; omega, rfl, by show ps.length * 8 ≤ _; omega, rfl, trivial⟩, rfl⟩
theorem g3_ok (nx : List Int) (us : List Bool) (f p : Int) (h : us.length ≤ 200 ∧ nx.length ≤ 200) : CallsD Try.prog 98 [.agg [ri nx, rb us, i64 f], i64 p]
  (.tup [.agg [oi (if gvO nx us f p then nx.set p.toNat f else []), ob (if gvO nx us f p then us.set p.toNat false else []), i64 (if gvO nx us f p then p else 0)], i64 (gvE nx us f p)]) := by
 by_cases c : akV nx us f = 0
 ·have c' : c13V nx us f = 0 := by rw [ak_eq]; exact c
  have hl := (akV_is c).2.2.1
  by_cases r : 0 ≤ p ∧ p < (nx.length : Int)
  ·have d1 : decide (0 ≤ p) = true := decide_eq_true r.1
   have d2 : decide (p < (us.length : Int)) = true := decide_eq_true (by omega)
   have d3 : decide (p < (nx.length : Int)) = true := decide_eq_true r.2
   by_cases u : us.getD p.toNat false = true
   ·have hO : gvO nx us f p := ⟨c, r.1, r.2, u⟩
    simp only [if_pos hO]
    unfold gvE; rw [if_pos c, if_pos r, if_pos u]
    refine g3_calls nx us f p _ ?_ ?_ ?_ ?_ ?_ <;> dsimp only [At, Tr.q, g3_T]
    ·intro g; rw [neq_t] at g; exact absurd c' g
    ·intro _ g; rw [lss_t] at g; omega
    ·intro _ _ g; rw [geq_t] at g; omega
    ·intro _ _ _ g; rw [u] at g; cases g
    ·intro _ _ _ _
     refine ⟨?_, rfl⟩
     (repeat' apply And.intro) <;> first | exact trivial | rfl | assumption | omega | (simp only [rowLen0, Col0.len, List.length_set])
   ·have hO : ¬ gvO nx us f p := fun o => u o.2.2.2
    simp only [if_neg hO]
    unfold gvE; rw [if_pos c, if_pos r, if_neg u]
    refine calls_reads (ReadsNs.tup (.cons (nilA 0) (.refl _))) ?_
    refine g3_calls nx us f p _ ?_ ?_ ?_ ?_ ?_ <;> dsimp only [At, Tr.q, g3_T]
    ·intro g; rw [neq_t] at g; exact absurd c' g
    ·intro _ g; rw [lss_t] at g; omega
    ·intro _ _ g; rw [geq_t] at g; omega
    ·intro _ _ _ _; exact ⟨⟨d1, d2, h.2, trivial⟩, rfl⟩
    ·intro _ _ _ g; simp at g; simp [g] at u
  ·have hO : ¬ gvO nx us f p := fun o => r ⟨o.2.1, o.2.2.1⟩
   simp only [if_neg hO]
   unfold gvE; rw [if_pos c, if_neg r]
   refine calls_reads (ReadsNs.tup (.cons (nilA 0) (.refl _))) ?_
   refine g3_calls nx us f p _ ?_ ?_ ?_ ?_ ?_ <;> dsimp only [At, Tr.q, g3_T]
   ·intro g; rw [neq_t] at g; exact absurd c' g
   ·intro _ _; exact ⟨⟨h.2, trivial⟩, rfl⟩
   ·intro _ _ _; exact ⟨⟨h.2, trivial⟩, rfl⟩
   ·intro _ g g2; rw [lss_f] at g; rw [geq_f] at g2; exact absurd ⟨g, by omega⟩ r
   ·intro _ g g2; rw [lss_f] at g; rw [geq_f] at g2; exact absurd ⟨g, by omega⟩ r
 ·have c' : c13V nx us f ≠ 0 := by rw [ak_eq]; exact c
  have hO : ¬ gvO nx us f p := fun o => c o.1
  simp only [if_neg hO]
  unfold gvE; rw [if_neg c, ← ak_eq]
  refine calls_reads (ReadsNs.tup (.cons (nilA 0) (.refl _))) ?_
  refine g3_calls nx us f p _ ?_ ?_ ?_ ?_ ?_ <;> dsimp only [At, Tr.q, g3_T]
  ·intro _; exact ⟨⟨h.2, h.2, trivial⟩, rfl⟩
  ·intro g; rw [neq_f] at g; exact absurd g c'
  ·intro g; rw [neq_f] at g; exact absurd g c'
  ·intro g; rw [neq_f] at g; exact absurd g c'
  ·intro g; rw [neq_f] at g; exact absurd g c'
theorem t13C_ok (args res l) (h : awC args = some (res, l)) (hl : AllP l) : CallsD Try.prog 36 args res := by
 unfold awC at h; split at h
 ·simp only [Option.some.injEq, Prod.mk.injEq] at h
  obtain ⟨rfl, rfl⟩ := h; obtain ⟨h0, _⟩ := hl
  exact t13_ok _ _ _ h0
 ·cases h
theorem t15C_ok (args res l) (h : lwC args = some (res, l)) (hl : AllP l) : CallsD Try.prog 37 args res := by
 unfold lwC at h; split at h
 ·simp only [Option.some.injEq, Prod.mk.injEq] at h
  obtain ⟨rfl, rfl⟩ := h; obtain ⟨h0, _⟩ := hl
  exact t15_ok _ _ _ _ h0
 ·cases h
theorem g3C_ok (args res l) (h : gvC args = some (res, l)) (hl : AllP l) : CallsD Try.prog 98 args res := by
 unfold gvC at h; split at h
 ·simp only [Option.some.injEq, Prod.mk.injEq] at h
  obtain ⟨rfl, rfl⟩ := h; obtain ⟨h0, _⟩ := hl
  exact g3_ok _ _ _ _ h0
 ·cases h
end TableS
end

section
namespace TableS
open Go Go.Dam Go.Proofs
set_option maxRecDepth 1000000
noncomputable def wiT (xs : List Int) (p i : Int) (k : Nat) (out : List Int) : Cs := ⟨TT.of [(0, ri xs), (1, i64 p), (4, D.v (Value.slice none 0 0)), (5, D.sl 9001 0 k ⟨1, 0⟩), (6, i64 i)], 27, [], [(9001, BX.row [.ints .i64 out] false)], none, 0⟩
end TableS
end

section
namespace TableS
open Go Go.Dam Go.Proofs
set_option maxRecDepth 1000000
noncomputable def wiL_T (xs : List Int) (p : Int) (i : Int) (k : Nat) (out : List Int) : Tr (Ex × Cs) := .d (cmpI .lss i (xs.length : Int)) (fun e0 => .s (decide (i < (xs.length : Int)) = true) (.s (decide (0 ≤ i) = true) (.d (cmpI .neq (xs.getD i.toNat 0) p) (fun e1 => .s (decide (i < (xs.length : Int)) = true) (.s (decide (0 ≤ i) = true) (.s (out.length = out.length) (.s (k = out.length) (.s ((k + 1) * 8 ≤ 17592186044416) (.lf (Ex.normal, (wiT (xs) (p) (opI .add .i64 i 1) (k + 1) (out ++ [xs.getD i.toNat 0]))))))))) (fun e1 => .lf (Ex.normal, (wiT (xs) (p) (opI .add .i64 i 1) (k) (out))))))) (fun e0 => .lf (Ex.exit 0, (wiT (xs) (p) (i) (k) (out))))
theorem wiL_L (xs : List Int) (p i : Int) (k : Nat) (out : List Int) : Leaves (roundT Try.prog (X18) 100000 (loopAt Try.prog 94 0) [[0, 1, 4, 5, 6]] [(9001, 9001)] (wiT xs p i k out)) (wiL_T xs p i k out) [] [] := by refine ⟨fun _ => ⟨fun _ => ?_, fun _ => ?_⟩, fun _ => ?_⟩ <;> (show _ = _; kernel_rfl)
theorem wiL_step (xs : List Int) (p : Int) (i : Int) (k : Nat) (out : List Int) (σ : St) (e : Ex) (h0 : At (RG Try.prog (loopAt Try.prog 94 0) e σ) (wiL_T xs p i k out) [true, true] True) (h1 : At (RG Try.prog (loopAt Try.prog 94 0) e σ) (wiL_T xs p i k out) [true, false] True) (h2 : At (RG Try.prog (loopAt Try.prog 94 0) e σ) (wiL_T xs p i k out) [false] True) : Runs Try.prog (CallsD Try.prog) (.rounds (loopAt Try.prog 94 0)) (wiT xs p i k out).abs e σ := tree_rounds (hX18) (wiL_L xs p i k out) ⟨fun e0 => ⟨fun e1 => h0 e0 e1, fun e1 => h1 e0 e1⟩, fun e0 => h2 e0⟩
noncomputable def wiF_T (xs : List Int) (p : Int) (i : Int) (k : Nat) (out : List Int) : Tr D := .p (.k [Cast.nil 5 9001 1 [.ints .i64 []]]) (.p (.l [[0, 1, 4, 5, 6]] [(9001, 9001)] (wiT xs p 0 0 []) (Ex.exit 0) (wiT xs p i k out)) (.s (Runs Try.prog (CallsD Try.prog) (.code (.loop (loopAt Try.prog 94 0))) (wiT xs p 0 0 []).abs (Ex.exit 0) (wiT xs p i k out).abs) (.k ((wiT xs p 0 0 [] = wiT xs p 0 0 [])) rfl (.s (k = out.length) (.lf (D.oc [.ints .i64 out]))))))
theorem wiF_L (xs : List Int) (p i : Int) (k : Nat) (out : List Int) : Leaves (fun l => fnX Try.prog (X18) 100000 l 94 [ri xs, i64 p]) (wiF_T xs p i k out) [] [] := by show _ = _; kernel_rfl
theorem wiF_calls (xs : List Int) (p i : Int) (k : Nat) (out : List Int) (res : D) (h0 : At (fun r => res = r) (wiF_T xs p i k out) [] True) : CallsD Try.prog 94 [ri xs, i64 p] res := tree_calls (hX18) (wiF_L xs p i k out) h0
theorem take_filter2 (P : Int → Bool) {l : List Int} {i : Nat} (h : i < l.length) : (l.take (i + 1)).filter P = (l.take i).filter P ++ if P (l.getD i 0) = true then [l.getD i 0] else [] := by
 rw [List.take_succ_eq_append_getElem h, List.filter_append]
 have : l.getD i 0 = l[i] := by rw [List.getD_eq_getElem?_getD, List.getElem?_eq_getElem h]; rfl
 rw [this]
 cases e : P l[i] <;> simp [e]
theorem wi_ok (xs : List Int) (p : Int) (hl : xs.length ≤ 200) : CallsD Try.prog 94 [ri xs, i64 p] (oi (wo xs p)) := by
 refine wiF_calls xs p xs.length (wo xs p).length (wo xs p) _ ?_ <;> dsimp only [At, Tr.q, wiF_T]
 refine ⟨⟨rfl, loop_of_rounds ?_, trivial⟩, rfl⟩
 have z := scan_all (P := Try.prog) (F := CallsD Try.prog) (b := loopAt Try.prog 94 0) (fun i => wiT xs p (i : Int) (wo (xs.take i) p).length (wo (xs.take i) p)) xs.length (fun _ => True) (fun i hi _ σ e hr => ?_)
  (σ := (wiT xs p xs.length (wo xs p).length (wo xs p)).abs) (e := .exit 0) ?_ xs.length 0 (by omega) (fun _ _ _ => trivial)
 ·exact z
 ·unfold wo at hr
  rw [take_filter2 _ hi] at hr
  have hle : ((xs.take i).filter fun x => decide (x ≠ p)).length ≤ 200 := by
   have := List.length_filter_le (fun x => decide (x ≠ p)) (xs.take i)
   rw [List.length_take] at this; omega
  have cast1 : opI .add .i64 (i : Int) 1 = ((i + 1 : Nat) : Int) := succL hi (by omega)
  unfold wo
  refine wiL_step xs p i _ _ σ e ?_ ?_ ?_ <;> dsimp only [At, Tr.q, RG, wiL_T]
  ·intro _ g1
   rw [Int.toNat_natCast, neq_t] at g1
   rw [if_pos (decide_eq_true g1), List.length_append] at hr
   simp only [Int.toNat_natCast, cast1]
   exact ⟨(by (repeat' apply And.intro) <;> first | exact trivial | rfl | exact hi | exact (natLt hi).1 | exact (natLt hi).2 | omega), hr⟩
  ·intro _ g1
   rw [Int.toNat_natCast, neq_f] at g1
   rw [if_neg (by rw [decide_eq_true_eq]; exact fun n => n g1), List.append_nil] at hr
   simp only [Int.toNat_natCast, cast1]
   exact ⟨(by (repeat' apply And.intro) <;> first | exact trivial | rfl | exact hi | exact (natLt hi).1 | exact (natLt hi).2 | omega), hr⟩
  ·intro g1; rw [lss_f] at g1; omega
 ·rw [List.take_length]
  refine wiL_step xs p xs.length _ _ _ _ ?_ ?_ ?_ <;> dsimp only [At, Tr.q, RG, wiL_T]
  ·intro g1; rw [lss_t] at g1; omega
  ·intro g1; rw [lss_t] at g1; omega
  ·intro _; exact ⟨trivial, rfl, rfl⟩
def wiC : List D → Option (D × List Prop)
 | [.rc [.ints .i64 xs], .v (.int .i64 p)] => some ((oi (wo xs p)), [xs.length ≤ 200])
 | _ => none
theorem wiC_ok (args res l) (h : wiC args = some (res, l)) (hl : AllP l) : CallsD Try.prog 94 args res := by
 unfold wiC at h; split at h
 ·simp only [Option.some.injEq, Prod.mk.injEq] at h
  obtain ⟨rfl, rfl⟩ := h; obtain ⟨h0, _⟩ := hl
  exact wi_ok _ _ h0
 ·cases h
noncomputable def X19 : Contracts := addCon 36 (.call awC) (addCon 37 (.call lwC) (addCon 98 (.call gvC) (addCon 94 (.call wiC) X18)))
theorem hX19 : ConOK Try.prog X19 := addCall_ok t13C_ok (addCall_ok t15C_ok (addCall_ok g3C_ok (addCall_ok wiC_ok hX18)))
end TableS
end

section
namespace TableS
open Go Go.Dam Go.Proofs
set_option maxRecDepth 1000000
noncomputable def bhT (c k : Int) (b : Bool) (i : Int) : Cs := ⟨TT.of [(0, i64 c), (2, i64 k), (6, bo b), (7, i64 i)], 20, [], [], none, 0⟩
noncomputable def d4T (m : Nat) (e j : Int) (kx px : List Int) (ux : List Bool) : Cs := ⟨TT.of [(4, D.v (Value.slice none 0 0)), (5, i64 0), (6, i64 e), (7, D.sl 672 0 m ⟨3, 0⟩), (8, i64 j)], 59, [], [(672, BX.row [.ints .u32 kx, .ints .i64 px, .bools ux] false)], none, 0⟩
noncomputable def a6T (T : Tb) (k o i : Int) : Cs := ⟨TT.of [(1, u32 k), (2, D.ptr 64 0), (4, i64 o), (5, i64 i)], 28, [], [(64, T.b)], none, 0⟩
end TableS
end

section
namespace TableS
open Go Go.Dam Go.Proofs
set_option maxRecDepth 1000000
noncomputable def rm5_T (ps : List Int) (no : List Int) (h : Int) (t : Int) (p : Int) : Tr D := .s (no.length ≤ 200) (.d (cmpI .neq (c15V ps no h t) 0) (fun e0 => .p (.d true) (.p (.d true) (.s (no.length ≤ 200) (.k _ e0 (.s (no.length ≤ 200) (.k _ e0 (.s (no.length ≤ 200) (.lf (D.tup [D.agg [D.v (Value.slice none 0 0), D.v (Value.slice none 0 0), i64 0, i64 0], i64 (c15V ps no h t)]))))))))) (fun e0 => .d (cmpI .lss p 0) (fun e1 => .p (.c 5) (.p (.d false) (.p (.d true) (.p (.c 4) (.s (no.length ≤ 200) (.k _ e0 (.k _ e1 (.lf (D.tup [D.agg [D.v (Value.slice none 0 0), D.v (Value.slice none 0 0), i64 0, i64 0], i64 2]))))))))) (fun e1 => .p (.c 3) (.d (cmpI .geq p (ps.length : Int)) (fun e2 => .p (.c 0) (.p (.d false) (.p (.d false) (.p (.c 3) (.p (.d true) (.s (no.length ≤ 200) (.k _ e0 (.k _ e1 (.k _ e2 (.lf (D.tup [D.agg [D.v (Value.slice none 0 0), D.v (Value.slice none 0 0), i64 0, i64 0], i64 2]))))))))))) (fun e2 => .p (.c 0) (.s (no.length ≤ 200) (.s ((chL no h).length ≤ 200) (.q (rowLen0 [.ints .i64 (chL no h)]) (.d (!inB (chL no h) p) (fun e3 => .lf (D.tup [D.agg [D.v (Value.slice none 0 0), D.v (Value.slice none 0 0), i64 0, i64 0], i64 6])) (fun e3 => .s ((chL no h).length ≤ 200) (.q (rowLen0 [.ints .i64 (chL no h)]) (.s (mdS ((ps.length : Int)) (wo (chL no h) p)) (.q ((wo (chL no h) p).length) (.q (rowLen0 [.ints .i64 (mkN ((ps.length : Int)).toNat (wo (chL no h) p) (wo (chL no h) p).length)]) (.q (rowLen0 [.ints .i64 (mkP ((ps.length : Int)).toNat (wo (chL no h) p) (wo (chL no h) p).length)]) (.lf (D.tup [D.agg [D.oc [.ints .i64 (mkP ((ps.length : Int)).toNat (wo (chL no h) p) (wo (chL no h) p).length)], D.oc [.ints .i64 (mkN ((ps.length : Int)).toNat (wo (chL no h) p) (wo (chL no h) p).length)], i64 (mkH (wo (chL no h) p) (wo (chL no h) p).length), i64 (mkT (wo (chL no h) p) (wo (chL no h) p).length)], i64 0])))))))))))))))))
theorem rm5_L (ps no : List Int) (h t p : Int) : Leaves (fun l => fnX Try.prog (X19) 100000 l 96 [D.agg [ri ps, ri no, i64 h, i64 t], i64 p]) (rm5_T ps no h t p) [] [] := by refine ⟨fun _ => ?_, fun _ => ⟨fun _ => ?_, fun _ => ⟨fun _ => ?_, fun _ => ⟨fun _ => ?_, fun _ => ?_⟩⟩⟩⟩ <;> (show _ = _; kernel_rfl)
theorem rm5_calls (ps no : List Int) (h t p : Int) (res : D) (h0 : At (fun r => res = r) (rm5_T ps no h t p) [true] True) (h1 : At (fun r => res = r) (rm5_T ps no h t p) [false, true] True) (h2 : At (fun r => res = r) (rm5_T ps no h t p) [false, false, true] True) (h3 : At (fun r => res = r) (rm5_T ps no h t p) [false, false, false, true] True) (h4 : At (fun r => res = r) (rm5_T ps no h t p) [false, false, false, false] True) : CallsD Try.prog 96 [D.agg [ri ps, ri no, i64 h, i64 t], i64 p] res := tree_calls (hX19) (rm5_L ps no h t p) ⟨fun e0 => h0 e0, fun e0 => ⟨fun e1 => h1 e0 e1, fun e1 => ⟨fun e2 => h2 e0 e1 e2, fun e2 => ⟨fun e3 => h3 e0 e1 e2 e3, fun e3 => h4 e0 e1 e2 e3⟩⟩⟩⟩
noncomputable def tr_T (T : Tb) : Tr D := .s ((Col0.ints .u32 T.ks).len = rowLen0 [.ints .u32 T.ks]) (.s (rowLen0 [.ints .u32 T.ks] * 4 ≤ 17592186044416) (.s ((Col0.ints .u64 T.x6).len = rowLen0 [.ints .i64 T.x1, .ints .i64 T.x2, .ints .i64 T.x3, .ints .i64 T.x4, .ints .i64 T.x5, .ints .u64 T.x6]) (.s ((Col0.ints .i64 T.x5).len = rowLen0 [.ints .i64 T.x1, .ints .i64 T.x2, .ints .i64 T.x3, .ints .i64 T.x4, .ints .i64 T.x5, .ints .u64 T.x6]) (.s ((Col0.ints .i64 T.x4).len = rowLen0 [.ints .i64 T.x1, .ints .i64 T.x2, .ints .i64 T.x3, .ints .i64 T.x4, .ints .i64 T.x5, .ints .u64 T.x6]) (.s ((Col0.ints .i64 T.x3).len = rowLen0 [.ints .i64 T.x1, .ints .i64 T.x2, .ints .i64 T.x3, .ints .i64 T.x4, .ints .i64 T.x5, .ints .u64 T.x6]) (.s ((Col0.ints .i64 T.x2).len = rowLen0 [.ints .i64 T.x1, .ints .i64 T.x2, .ints .i64 T.x3, .ints .i64 T.x4, .ints .i64 T.x5, .ints .u64 T.x6]) (.s ((Col0.ints .i64 T.x1).len = rowLen0 [.ints .i64 T.x1, .ints .i64 T.x2, .ints .i64 T.x3, .ints .i64 T.x4, .ints .i64 T.x5, .ints .u64 T.x6]) (.s (rowLen0 [.ints .i64 T.x1, .ints .i64 T.x2, .ints .i64 T.x3, .ints .i64 T.x4, .ints .i64 T.x5, .ints .u64 T.x6] * 48 ≤ 17592186044416) (.s (T.nx.length ≤ 200 ∧ T.us.length ≤ 200) (.s ((Col0.bools T.ux).len = rowLen0 [.ints .u32 T.kx, .ints .i64 T.px, .bools T.ux]) (.s ((Col0.ints .i64 T.px).len = rowLen0 [.ints .u32 T.kx, .ints .i64 T.px, .bools T.ux]) (.s ((Col0.ints .u32 T.kx).len = rowLen0 [.ints .u32 T.kx, .ints .i64 T.px, .bools T.ux]) (.s (rowLen0 [.ints .u32 T.kx, .ints .i64 T.px, .bools T.ux] * 24 ≤ 17592186044416) (.s (T.ps.length ≤ 200 ∧ T.no.length ≤ 200) (.q (rowLen0 [.ints .i64 T.no]) (.q (rowLen0 [.ints .i64 T.ps]) (.q (rowLen0 [.ints .u32 T.kx, .ints .i64 T.px, .bools T.ux]) (.q (rowLen0 [.bools T.us]) (.q (rowLen0 [.ints .i64 T.nx]) (.q (rowLen0 [.ints .i64 T.x1, .ints .i64 T.x2, .ints .i64 T.x3, .ints .i64 T.x4, .ints .i64 T.x5, .ints .u64 T.x6]) (.q (rowLen0 [.ints .u32 T.ks]) (.lf (D.agg [i64 T.n, D.oc [.ints .u32 T.ks], D.oc [.ints .i64 T.x1, .ints .i64 T.x2, .ints .i64 T.x3, .ints .i64 T.x4, .ints .i64 T.x5, .ints .u64 T.x6], D.oc [.ints .i64 T.nx], D.oc [.bools T.us], i64 T.fr, D.oc [.ints .u32 T.kx, .ints .i64 T.px, .bools T.ux], D.oc [.ints .i64 T.ps], D.oc [.ints .i64 T.no], i64 T.h, i64 T.t])))))))))))))))))))))))
theorem tr_L (T : Tb) : Leaves (fun l => fnX Try.prog (X19) 100000 l 9 [T.d]) (tr_T T) [] [] := by show _ = _; kernel_rfl
theorem tr_calls (T : Tb) (res : D) (h0 : At (fun r => res = r) (tr_T T) [] True) : CallsD Try.prog 9 [T.d] res := tree_calls (hX19) (tr_L T) h0
/-! The reference's orders are the code's. -/
theorem c15V_two (ps no : List Int) (h t : Int) : c15V ps no h t = 0 ∨ c15V ps no h t = 8 := by
 unfold c15V; split <;> first | exact .inl rfl | exact .inr rfl
theorem lcV_two (ps no : List Int) (h t : Int) : lcV ps no h t = 0 ∨ lcV ps no h t = 8 := by
 unfold lcV; (repeat' split) <;> first | exact .inl rfl | exact .inr rfl
theorem lc_eq (ps no : List Int) (h t : Int) : c15V ps no h t = lcV ps no h t := by
 have := lc_c15 ps no h t
 rcases c15V_two ps no h t with a | a <;> rcases lcV_two ps no h t with b | b <;> omega
theorem rm5_ok (ps no : List Int) (h t p : Int) (hn : no.length ≤ 200) : CallsD Try.prog 96 [.agg [ri ps, ri no, i64 h, i64 t], i64 p]
  (.tup [.agg [oi (if rmO ps no h t p then rmP ps no p else []), oi (if rmO ps no h t p then rmN ps no p else []), i64 (if rmO ps no h t p then rmH ps no h p else 0), i64 (if rmO ps no h t p then rmT ps no t p else 0)], i64 (rmE ps no h t p)]) := by
 by_cases c : lcV ps no h t = 0
 ·have c' : c15V ps no h t = 0 := by rw [lc_eq]; exact c
  obtain ⟨L, o⟩ := lcV_or c
  have hL := (seg_chL o.2.2.2.2.1 (or_okL o)).1
  have l1 := okL_len (or_okL o)
  have l5 := o.2.1
  by_cases r : 0 ≤ p ∧ p < (ps.length : Int)
  ·have hin := or_mem o r.1 r.2
   by_cases q : p ∈ L
   ·have hO : rmO ps no h t p := ⟨c, r, hin.2 q⟩
    have w := or_remove o q
    obtain ⟨m1, m2, m3, m4⟩ := or_mk w
    rw [rmP_len] at m1 m2
    have lw := okL_len (or_okL w)
    rw [rmN_len] at lw
    have hmem : ∀ x ∈ wo L p, 0 ≤ x ∧ x < (ps.length : Int) := fun x hx => by
     have := seg_range w.2.2.2.2.1 x hx
     rw [rmN_len] at this
     have := o.2.2.1
     omega
    simp only [if_pos hO]
    unfold rmE; rw [if_pos c, if_pos r, if_pos (hin.2 q)]
    refine rm5_calls ps no h t p _ ?_ ?_ ?_ ?_ ?_ <;> dsimp only [At, Tr.q, rm5_T]
    ·intro g; rw [neq_t] at g; exact absurd c' g
    ·intro _ g; rw [lss_t] at g; omega
    ·intro _ _ g; rw [geq_t] at g; omega
    ·intro _ _ _ g; rw [hL] at g; unfold inB at g; simp [q] at g
    ·intro _ _ _ _
     rw [hL]
     refine ⟨⟨⟨by omega, by omega, by omega, hmem⟩, by omega, by omega, hn, hn, trivial⟩, ?_⟩
     rw [Int.toNat_natCast, ← m1, ← m2, ← m3, ← m4]
   ·have hO : ¬ rmO ps no h t p := fun o => q (hin.1 o.2.2)
    simp only [if_neg hO]
    unfold rmE; rw [if_pos c, if_pos r, if_neg (fun n => q (hin.1 n))]
    refine calls_reads (ReadsNs.tup (.cons nilO (.refl _))) ?_
    refine rm5_calls ps no h t p _ ?_ ?_ ?_ ?_ ?_ <;> dsimp only [At, Tr.q, rm5_T]
    ·intro g; rw [neq_t] at g; exact absurd c' g
    ·intro _ g; rw [lss_t] at g; omega
    ·intro _ _ g; rw [geq_t] at g; omega
    ·intro _ _ _ _; exact ⟨⟨by rw [hL]; omega, hn, hn, trivial⟩, rfl⟩
    ·intro _ _ _ g; rw [hL] at g; unfold inB at g; simp [q] at g
  ·have hO : ¬ rmO ps no h t p := fun o => r o.2.1
   simp only [if_neg hO]
   unfold rmE; rw [if_pos c, if_neg r]
   refine calls_reads (ReadsNs.tup (.cons nilO (.refl _))) ?_
   refine rm5_calls ps no h t p _ ?_ ?_ ?_ ?_ ?_ <;> dsimp only [At, Tr.q, rm5_T]
   ·intro g; rw [neq_t] at g; exact absurd c' g
   ·intro _ _; exact ⟨⟨hn, hn, trivial⟩, rfl⟩
   ·intro _ _ _; exact ⟨⟨hn, hn, trivial⟩, rfl⟩
   ·intro _ g g2; rw [lss_f] at g; rw [geq_f] at g2; exact absurd ⟨g, g2⟩ r
   ·intro _ g g2; rw [lss_f] at g; rw [geq_f] at g2; exact absurd ⟨g, g2⟩ r
 ·have c' : c15V ps no h t ≠ 0 := by rw [lc_eq]; exact c
  have hO : ¬ rmO ps no h t p := fun o => c o.1
  simp only [if_neg hO]
  unfold rmE; rw [if_neg c, ← lc_eq]
  refine calls_reads (ReadsNs.tup (.cons nilO (.refl _))) ?_
  refine rm5_calls ps no h t p _ ?_ ?_ ?_ ?_ ?_ <;> dsimp only [At, Tr.q, rm5_T]
  ·intro _; exact ⟨⟨hn, hn, hn, hn, trivial⟩, rfl⟩
  ·intro g; rw [neq_f] at g; exact absurd g c'
  ·intro g; rw [neq_f] at g; exact absurd g c'
  ·intro g; rw [neq_f] at g; exact absurd g c'
  ·intro g; rw [neq_f] at g; exact absurd g c'
theorem tr_ok (T : Tb) (h : T.ks.length ≤ 200 ∧ kcS T.x1 T.x2 T.x3 T.x4 T.x5 T.x6 ∧ T.nx.length ≤ 200 ∧ T.us.length ≤ 200 ∧ ccS T.kx T.px T.ux ∧ T.ps.length ≤ 200 ∧ T.no.length ≤ 200) : CallsD Try.prog 9 [T.d] T.o := by
 obtain ⟨h1, h2, h3, h4, h5, h6, h7⟩ := h
 obtain ⟨k1, k2, k3, k4, k5, k6⟩ := h2
 obtain ⟨c1, c2, c3⟩ := h5
 refine tr_calls T _ ⟨?_, rfl⟩
 (repeat' (first | assumption | apply And.intro)) <;> first | exact trivial | rfl | (simp only [rowLen0, Col0.len] <;> omega)
def rmD : List D → Option (D × List Prop)
 | [.agg [.rc [.ints .i64 ps], .rc [.ints .i64 nx], .v (.int .i64 h), .v (.int .i64 t)], .v (.int .i64 p)] => some ((.tup [.agg [oi (if rmO ps nx h t p then rmP ps nx p else []), oi (if rmO ps nx h t p then rmN ps nx p else []), i64 (if rmO ps nx h t p then rmH ps nx h p else 0), i64 (if rmO ps nx h t p then rmT ps nx t p else 0)], i64 (rmE ps nx h t p)]), [nx.length ≤ 200])
 | _ => none
theorem rmD_ok (args res l) (h : rmD args = some (res, l)) (hl : AllP l) : CallsD Try.prog 96 args res := by
 unfold rmD at h; split at h
 ·simp only [Option.some.injEq, Prod.mk.injEq] at h
  obtain ⟨rfl, rfl⟩ := h; obtain ⟨h0, _⟩ := hl
  exact rm5_ok _ _ _ _ _ h0
 ·cases h
end TableS
end

section
namespace TableS
open Go Go.Dam Go.Proofs
set_option maxRecDepth 1000000
noncomputable def bhL_T (c : Int) (k : Int) (b : Bool) (i : Int) : Tr (Ex × Cs) := .d (cmpI .eql i c) (fun e0 => .lf (Ex.ret, (bhT (c) (k) (true) (i)))) (fun e0 => .d (cmpI .eql i k) (fun e1 => .lf (Ex.ret, (bhT (c) (k) (false) (i)))) (fun e1 => .q (false) (.lf (Ex.normal, (bhT (c) (k) (b) (opI .rem .i64 (opI .add .i64 i 1) 16))))))
theorem bhL_L (c k : Int) (b : Bool) (i : Int) : Leaves (roundT Try.prog (X19) 100000 (loopAt Try.prog 108 0) [[0, 2, 6, 7]] [] (bhT c k b i)) (bhL_T c k b i) [] [] := by refine ⟨fun _ => ?_, fun _ => ⟨fun _ => ?_, fun _ => ?_⟩⟩ <;> (show _ = _; kernel_rfl)
theorem bhL_step (c : Int) (k : Int) (b : Bool) (i : Int) (σ : St) (e : Ex) (h0 : At (RG Try.prog (loopAt Try.prog 108 0) e σ) (bhL_T c k b i) [true] True) (h1 : At (RG Try.prog (loopAt Try.prog 108 0) e σ) (bhL_T c k b i) [false, true] True) (h2 : At (RG Try.prog (loopAt Try.prog 108 0) e σ) (bhL_T c k b i) [false, false] True) : Runs Try.prog (CallsD Try.prog) (.rounds (loopAt Try.prog 108 0)) (bhT c k b i).abs e σ := tree_rounds (hX19) (bhL_L c k b i) ⟨fun e0 => h0 e0, fun e0 => ⟨fun e1 => h1 e0 e1, fun e1 => h2 e0 e1⟩⟩
noncomputable def bhF_c0 (e : Int) := opI .rem .i64 (opI .add .i64 e 1) 16
noncomputable def bhF_T (c : Int) (e : Int) (k : Int) (b : Bool) (i : Int) : Tr D := .p (.l [[0, 2, 6, 7]] [] (bhT c k false (bhF_c0 e)) Ex.ret (bhT c k b i)) (.q (false) (.s (Runs Try.prog (CallsD Try.prog) (.code (.loop (loopAt Try.prog 108 0))) (bhT c k false (bhF_c0 e)).abs (Ex.ret) (bhT c k b i).abs) (.k ((bhT c k false (bhF_c0 e) = bhT c k false (bhF_c0 e))) rfl (.lf (bo b)))))
theorem bhF_L (c e k : Int) (b : Bool) (i : Int) : Leaves (fun l => fnX Try.prog (X19) 100000 l 108 [i64 c, i64 e, i64 k]) (bhF_T c e k b i) [] [] := by show _ = _; kernel_rfl
theorem bhF_calls (c e k : Int) (b : Bool) (i : Int) (res : D) (h0 : At (fun r => res = r) (bhF_T c e k b i) [] True) : CallsD Try.prog 108 [i64 c, i64 e, i64 k] res := tree_calls (hX19) (bhF_L c e k b i) h0
/-! The reference's index is the code's: Put. -/
theorem c14V_two (kx px : List Int) (ux : List Bool) : c14V kx px ux = 0 ∨ c14V kx px ux = 8 := by
 unfold c14V; (repeat' split) <;> first | exact .inl rfl | exact .inr rfl
theorem pc_eq {kx px : List Int} {ux : List Bool} (ho : okI kx) (hc : ccS kx px ux) : c14V kx px ux = pcV kx px ux := by
 have := pc_c14 ho hc
 rcases c14V_two kx px ux with a | a <;> rcases pcV_two kx px ux with b | b <;> omega
theorem ix_atN {kx px : List Int} {ux : List Bool} (x : Ix kx px ux) {k : Int} (hk : inU k) : (0 ≤ atN kx ux k ↔ ux.getD (lkI kx ux k) false = true) ∧ (0 ≤ atN kx ux k → atN kx ux k = (lkI kx ux k : Int)) := by
 obtain ⟨h1, _, h⟩ := ix_look x hk
 have l := x.1.1
 have hlt := findI_lt (p := fun i => ux.getD i false && kx.getD i 0 == k) kx.length 0
 rcases h with ⟨h2, h3⟩ | ⟨h2, h3⟩
 ·have e : atN kx ux k = (lkI kx ux k : Int) := by
   unfold atN
   rw [l]
   refine findI_some 16 0 _ (by omega) (by omega) (by show (ux.getD (lkI kx ux k) false && kx.getD (lkI kx ux k) 0 == k) = true; rw [h2, h3]; simp) fun j _ hj => ?_
   cases uj : ux.getD j false with
   | false => rfl
   | true =>
    rw [Bool.true_and]
    have : ¬ kx.getD j 0 = k := fun e => by have := x.2.2.2.2.2.1 j _ (by omega) h1 uj h2 (by rw [e, h3]); omega
    simpa using this
  exact ⟨⟨fun _ => h2, fun _ => by omega⟩, fun _ => e⟩
 ·have e : atN kx ux k < 0 := by
   unfold atN
   rw [hlt]
   intro j _ hj
   show (ux.getD j false && kx.getD j 0 == k) = false
   cases uj : ux.getD j false with
   | false => rfl
   | true =>
    rw [Bool.true_and]
    have := h3 j (by omega) uj
    simpa using this
  exact ⟨⟨fun q => by omega, fun q => by rw [h2] at q; cases q⟩, fun q => by omega⟩
end TableS
end
