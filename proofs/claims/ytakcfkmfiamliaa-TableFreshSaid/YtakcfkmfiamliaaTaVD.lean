/- What the functions compute, and the law. No condition. -/
import Derived.Test.YtakcfkmfiamliaaTaUG
import Derived.Test.YtakcfkmfiamliaaTaVB
import Derived.Test.YtakcfkmfiamliaaTaUL
set_option linter.unusedSectionVars false
set_option linter.unusedVariables false
set_option linter.unusedSimpArgs false
section
namespace TableS
open Go Go.Dam Go.Proofs
set_option maxRecDepth 1000000
set_option linter.unusedVariables false
set_option linter.unusedSectionVars false
set_option linter.unusedSimpArgs false
/-! What is right by the reference is right by the code: indexes and tables. -/
theorem c14V_is {kx px : List Int} {ux : List Bool} (h : c14V kx px ux = 0) : kx.length = 16 ∧ ctN 16 ux ≤ 12 ∧ ∀ i, i < 16 → c14Bad kx px ux i = false := by
  unfold c14V at h; split at h
  next c =>
    split at h
    next d => exact ⟨c.1, c.2, fun i hi => (findI_lt 16 0).1 d i (by omega) (by omega)⟩
    next => cases h
  next => cases h
theorem gapW_spec {ux : List Bool} {i : Nat} : ∀ (D k d : Nat), k < 16 → d < D → (k + d) % 16 = i → (∀ t, t < d → (k + t) % 16 ≠ i) → gapW ux i D k = false → ∀ t, t < d → ux.getD ((k + t) % 16) false = true
  | 0, k, d, _, h, _, _, _ => by omega
  | D + 1, k, d, hk, hd, he, hm, hg => fun t ht => by
    have hki : k ≠ i := fun e => by have := hm 0 (by omega); rw [Nat.add_zero, Nat.mod_eq_of_lt hk] at this; exact this e
    simp only [gapW, if_neg hki] at hg
    split at hg
    · cases hg
    next hu =>
      rcases t with _ | t
      · rw [Nat.add_zero, Nat.mod_eq_of_lt hk]; simpa using hu
      · have := gapW_spec D ((k + 1) % 16) (d - 1) (by omega) (by omega) (by omega) (fun t' ht' => by have := hm (t' + 1) (by omega); rwa [show ((k + 1) % 16 + t') % 16 = (k + (t' + 1)) % 16 by omega]) hg t (by omega)
        rwa [show ((k + 1) % 16 + t) % 16 = (k + (t + 1)) % 16 by omega] at this
theorem pcV_of {kx px : List Int} {ux : List Bool} (ho : okI kx) (h : c14V kx px ux = 0) : pcV kx px ux = 0 := by
  obtain ⟨c1, c2, c3⟩ := c14V_is h
  have hfree := ctN_free (ux := ux) (n := 16) (by omega)
  have hus : ∀ i, i < 16 → ux.getD i false = true → 0 ≤ px.getD i 0 ∧ px.getD i 0 < 16 ∧ atN kx ux (kx.getD i 0) = i ∧ gapW ux i 16 (homeN (kx.getD i 0)).toNat = false := fun i hi hu => by
    have := c3 i hi
    simp only [c14Bad, hu, if_true, Bool.or_eq_false_iff, decide_eq_false_iff_not, not_or, ne_eq, Decidable.not_not] at this
    exact ⟨by omega, by omega, this.1.2.2, this.2⟩
  unfold pcV
  rw [if_pos ⟨c1, c2⟩, if_pos]
  rw [findI_lt]
  intro i _ hi
  have hi : i < 16 := by omega
  unfold pcBad
  split
  next hu =>
    obtain ⟨p0, p1, p2, p3⟩ := hus i hi hu
    have hk := ho.2 i (by omega)
    have hh := homeN_lt hk
    obtain ⟨s, s1, s2, s3, s4⟩ := lkI_spec (xs := kx) hk hfree
    have hgap := gapW_spec (ux := ux) (i := i) 16 (homeN (kx.getD i 0)).toNat ((i + 16 - (homeN (kx.getD i 0)).toNat) % 16) (by omega) (by omega) (by omega) (fun t ht => by omega) p3
    have hle : s ≤ (i + 16 - (homeN (kx.getD i 0)).toNat) % 16 := by
      rcases Nat.lt_or_ge ((i + 16 - (homeN (kx.getD i 0)).toNat) % 16) s with c | c
      · have := (s3 _ c).2
        rw [show ((homeN (kx.getD i 0)).toNat + (i + 16 - (homeN (kx.getD i 0)).toNat) % 16) % 16 = i by omega] at this
        exact absurd rfl this
      · exact c
    have hlk : lkI kx ux (kx.getD i 0) = i := by
      rcases Nat.lt_or_eq_of_le hle with c | c
      · have hu2 := hgap s c
        rw [← s2] at hu2
        have hl := lkI_lt (kx := kx) ux hk
        have hkey : kx.getD (lkI kx ux (kx.getD i 0)) 0 = kx.getD i 0 := Decidable.not_not.1 fun n => s4 ⟨hu2, n⟩
        have := (hus _ hl hu2).2.2.1
        rw [hkey, p2] at this; omega
      · rw [s2, c]; omega
    rw [hlk]
    simp only [decide_eq_false_iff_not, not_or, ne_eq, Decidable.not_not]
    exact ⟨by omega, by omega, trivial⟩
  next hu =>
    have := c3 i hi
    simp only [c14Bad, if_neg hu] at this
    exact this
theorem rcV_is {T : Tb} (h : rcV T = 0) : T.sz ∧ c13V T.nx T.us T.fr = 0 ∧ c14V T.kx T.px T.ux = 0 ∧ c15V T.ps T.no T.h T.t = 0 ∧ ctN T.kx.length T.ux = (chL T.no T.h).length ∧
    ∀ i : Nat, (i : Int) < T.n → t18Bad T (chL T.no T.h) i = false := by
  unfold rcV at h; split at h
  next c =>
    split at h
    next d => exact ⟨c.1, c.2.1, c.2.2.1, c.2.2.2.1, c.2.2.2.2, fun i hi => (findI_lt _ 0).1 d i (by omega) (by have := c.1.1; omega)⟩
    next => cases h
  next => cases h
theorem cnt_pos {q : Nat → Bool} : ∀ {n : Nat}, 0 < cnt q n → ∃ j, j < n ∧ q j = true
  | 0, h => by simp [cnt] at h
  | n + 1, h => by
    cases e : q n with
    | true => exact ⟨n, by omega, e⟩
    | false =>
      simp only [cnt, e, cond_false, Nat.add_zero] at h
      obtain ⟨j, a, b⟩ := cnt_pos h
      exact ⟨j, by omega, b⟩
/-- A used place of a right table has its cell. -/
theorem rc_cell {T : Tb} (ho : okT T) (h : rcV T = 0) {i : Nat} (hi : (i : Int) < T.n) (hu : T.us.getD i false = true) :
    fdE T.kx T.px T.ux (T.ks.getD i 0) = 0 ∧ fdI T.kx T.px T.ux (T.ks.getD i 0) = i := by
  obtain ⟨⟨s1, s2, s3, s4, s5, s6⟩, a1, a2, a3, a4, a5⟩ := rcV_is h
  have hp := pcV_of ho.1 a2
  obtain ⟨b1, b2, b3⟩ := pcV_is hp
  have hb := a5 i hi
  simp only [t18Bad, Bool.or_eq_false_iff, hu, Bool.not_eq_false'] at hb
  obtain ⟨_, c1, c2, _⟩ := hb
  have c1 : ceN T.kx.length T.px T.ux i = 1 := by
    have : decide (ceN T.kx.length T.px T.ux i = 1) = true := by
      cases e : decide (ceN T.kx.length T.px T.ux i = 1) with
      | true => rfl
      | false => rw [e] at c1; cases c1
    exact of_decide_eq_true this
  obtain ⟨j, hj, hq⟩ := cnt_pos (q := ceQ T.px T.ux i) (n := T.kx.length) (by unfold ceN at c1; omega)
  simp only [ceQ, Bool.and_eq_true, beq_iff_eq] at hq
  have hks : T.kx.getD j 0 = T.ks.getD i 0 := by
    have := alls_iff.1 c2 j hj
    have hq' : ceQ T.px T.ux i j = true := by simp only [ceQ, Bool.and_eq_true, beq_iff_eq]; exact hq
    rw [hq'] at this
    simpa using this
  have hpc := b3 j (by omega)
  simp only [pcBad, hq.1, if_true, decide_eq_false_iff_not, not_or, ne_eq, Decidable.not_not] at hpc
  rw [← hks]
  unfold fdE fdI
  rw [if_pos hp, if_pos hp, hpc.2.2, if_pos hq.1, if_pos hq.1]
  exact ⟨rfl, hq.2⟩
theorem toNat_nodup {l : List Int} (h : l.Nodup) (h0 : ∀ x ∈ l, 0 ≤ x) : (l.map Int.toNat).Nodup := map_nodup h fun x hx y hy e => by
  have := h0 x hx; have := h0 y hy; omega
theorem tcV_of {T : Tb} (ho : okT T) (h : rcV T = 0) : tcV T = 0 := by
  obtain ⟨hs, a1, a2, a3, a4, a5⟩ := rcV_is h
  have hs' := hs
  obtain ⟨s1, s2, s3, s4, s5, s6⟩ := hs'
  have hak := akV_of a1
  have hpc := pcV_of ho.1 a2
  have hlc := lcV_of a3
  have hun := akV_len hak
  obtain ⟨_, _, c3, c4, _⟩ := c15V_is a3
  have hl := chB_okL c4
  have hll : llL T.ps T.no T.h T.t = chL T.no T.h := by unfold llL; rw [if_pos hlc]
  unfold tcV
  rw [if_pos ⟨hs, hak, hpc, hlc⟩, hll, if_pos]
  refine ⟨?_, ?_⟩
  · rw [findI_lt]
    intro i _ hi
    have hi' : (i : Int) < T.n := by omega
    have hb := a5 i hi'
    simp only [t18Bad, Bool.or_eq_false_iff] at hb
    obtain ⟨d1, d2, d3, d4⟩ := hb
    simp only [t17Bad, d1, Bool.false_or]
    split
    next hu =>
      rw [if_pos hu, decide_eq_false_iff_not] at d4
      obtain ⟨e1, e2⟩ := rc_cell ho h hi' hu
      rw [decide_eq_false_iff_not, e1, e2]
      rintro (q | q | q)
      · exact q rfl
      · exact q rfl
      · exact d4 q
    next hu => rw [if_neg hu] at d4; exact d4
  · rw [a4, ctN_filter]
    have hin : ∀ i, i < T.us.length → T.us.getD i false = inB (chL T.no T.h) i := fun i hi => by
      have hb := a5 i (by omega)
      simp only [t18Bad, Bool.or_eq_false_iff, Bool.not_eq_false', beq_iff_eq] at hb
      exact hb.1
    apply Nat.le_antisymm
    · have := nodup_le (L := (List.range T.us.length).filter fun i => T.us.getD i false) (M := (chL T.no T.h).map Int.toNat) (List.nodup_range.sublist List.filter_sublist) (fun x hx => by
        rw [List.mem_filter, List.mem_range] at hx
        have hq := hx.2
        rw [hin x hx.1] at hq
        exact List.mem_map.2 ⟨(x : Int), of_decide_eq_true hq, by omega⟩)
      rwa [List.length_map] at this
    · have := nodup_le (L := (chL T.no T.h).map Int.toNat) (M := (List.range T.us.length).filter fun i => T.us.getD i false) (toNat_nodup hl.1 fun x hx => (hl.2 x hx).1) (fun x hx => by
        obtain ⟨y, hy, rfl⟩ := List.mem_map.1 hx
        have hb := hl.2 y hy
        have hlt : y.toNat < T.us.length := by omega
        rw [List.mem_filter, List.mem_range]
        refine ⟨hlt, ?_⟩
        rw [hin _ hlt, show ((y.toNat : Nat) : Int) = y by omega]
        exact decide_eq_true hy)
      rwa [List.length_map] at this
end TableS
end

section
namespace TableS
open Go Go.Dam Go.Proofs
set_option maxRecDepth 1000000
set_option linter.unusedVariables false
set_option linter.unusedSectionVars false
set_option linter.unusedSimpArgs false
/-- How far a cell is behind another one. -/
def ds (a b : Nat) : Nat := (b + 16 - a) % 16
def hmN (k : Int) : Nat := (homeN k).toNat
theorem hmN_lt {k : Int} (h : inU k) : hmN k < 16 := by
  have := homeN_lt h; unfold hmN; omega
/-- A cell has a key and a place. -/
def Ce (kx px : List Int) (ux : List Bool) (m q : Int) : Prop := ∃ i, i < 16 ∧ ux.getD i false = true ∧ kx.getD i 0 = m ∧ px.getD i 0 = q
/-- From a key's home to its cell all are used. -/
def Pa (kx : List Int) (ux : List Bool) (i : Nat) : Prop := ∀ t, t < ds (hmN (kx.getD i 0)) i → ux.getD ((hmN (kx.getD i 0) + t) % 16) false = true
/-- An index that is right. -/
def Ix (kx px : List Int) (ux : List Bool) : Prop :=
  (kx.length = 16 ∧ px.length = 16 ∧ ux.length = 16) ∧ ctN 16 ux ≤ 12 ∧ (∀ i, i < 16 → inU (kx.getD i 0)) ∧
  (∀ i, i < 16 → ux.getD i false = false → kx.getD i 0 = 0 ∧ px.getD i 0 = 0) ∧
  (∀ i, i < 16 → ux.getD i false = true → 0 ≤ px.getD i 0 ∧ px.getD i 0 < 16) ∧
  (∀ i j, i < 16 → j < 16 → ux.getD i false = true → ux.getD j false = true → kx.getD i 0 = kx.getD j 0 → i = j) ∧
  (∀ i, i < 16 → ux.getD i false = true → Pa kx ux i)
theorem ix_free {kx px : List Int} {ux : List Bool} (x : Ix kx px ux) : ∃ j, j < 16 ∧ ux.getD j false = false := ctN_free (by have := x.2.1; omega)
theorem ix_okI {kx px : List Int} {ux : List Bool} (x : Ix kx px ux) : okI kx := ⟨by have := x.1.1; omega, fun i hi => x.2.2.1 i (by have := x.1.1; omega)⟩
/-- Looking for a key. -/
theorem ix_look {kx px : List Int} {ux : List Bool} (x : Ix kx px ux) {k : Int} (hk : inU k) :
    lkI kx ux k < 16 ∧ (∀ t, t < ds (hmN k) (lkI kx ux k) → ux.getD ((hmN k + t) % 16) false = true) ∧
    ((ux.getD (lkI kx ux k) false = true ∧ kx.getD (lkI kx ux k) 0 = k) ∨ (ux.getD (lkI kx ux k) false = false ∧ ∀ i, i < 16 → ux.getD i false = true → kx.getD i 0 ≠ k)) := by
  obtain ⟨s, h1, h2, h3, h4⟩ := lkI_spec (xs := kx) hk (ix_free x)
  have hh := hmN_lt hk
  have hs : ds (hmN k) (lkI kx ux k) = s := by
    unfold ds; rw [h2]; unfold hmN at hh ⊢; omega
  refine ⟨by rw [h2]; omega, fun t ht => (h3 t (by omega)).1, ?_⟩
  by_cases u : ux.getD (lkI kx ux k) false = true
  · exact .inl ⟨u, Classical.byContradiction fun n => h4 ⟨u, n⟩⟩
  · rw [Bool.not_eq_true] at u
    refine .inr ⟨u, fun i hi ui e => ?_⟩
    have p := x.2.2.2.2.2.2 i hi ui
    unfold Pa at p; rw [e] at p
    by_cases c : s < ds (hmN k) i
    · have := p s c
      unfold hmN at this; rw [← h2, u] at this; cases this
    · by_cases c2 : ds (hmN k) i = s
      · have : lkI kx ux k = i := by
          rw [h2]; unfold ds at c2; unfold hmN at c2 hh; omega
        rw [this, ui] at u; cases u
      · have := (h3 (ds (hmN k) i) (by omega)).2
        rw [show ((homeN k).toNat + ds (hmN k) i) % 16 = i by unfold ds hmN; unfold hmN at hh; omega] at this
        exact this e
theorem ix_at {kx px : List Int} {ux : List Bool} (x : Ix kx px ux) {i : Nat} (hi : i < 16) (hu : ux.getD i false = true) : lkI kx ux (kx.getD i 0) = i := by
  obtain ⟨h1, _, ⟨h2, h3⟩ | ⟨_, h3⟩⟩ := ix_look x (x.2.2.1 i hi)
  · exact x.2.2.2.2.2.1 _ _ h1 hi h2 hu h3
  · exact absurd rfl (h3 i hi hu)
/-- What is right by the code is right. -/
theorem pcV_ix {kx px : List Int} {ux : List Bool} (ho : okI kx) (hc : ccS kx px ux) (h : pcV kx px ux = 0) : Ix kx px ux := by
  obtain ⟨c1, c2, c3⟩ := pcV_is h
  have hfree := ctN_free (ux := ux) (n := 16) (by omega)
  have hin : ∀ i, i < 16 → inU (kx.getD i 0) := fun i hi => ho.2 i (by omega)
  have hat : ∀ i, i < 16 → ux.getD i false = true → lkI kx ux (kx.getD i 0) = i := fun i hi u => by
    have := c3 i hi
    unfold pcBad at this; rw [if_pos u, decide_eq_false_iff_not] at this
    exact Classical.byContradiction fun n => this (.inr (.inr n))
  refine ⟨⟨c1, by have := hc.2.1; omega, by have := hc.2.2; omega⟩, c2, hin, fun i hi u => ?_, fun i hi u => ?_, fun i j hi hj ui uj e => ?_, fun i hi u => ?_⟩
  · have := c3 i hi
    unfold pcBad at this; rw [if_neg (by rw [u]; simp), decide_eq_false_iff_not] at this
    exact ⟨Classical.byContradiction fun n => this (.inl n), Classical.byContradiction fun n => this (.inr n)⟩
  · have := c3 i hi
    unfold pcBad at this; rw [if_pos u, decide_eq_false_iff_not] at this
    omega
  · rw [← hat i hi ui, e, hat j hj uj]
  · obtain ⟨s, h1, h2, h3, _⟩ := lkI_spec (xs := kx) (hin i hi) hfree
    rw [hat i hi u] at h2
    have hh := hmN_lt (hin i hi)
    intro t ht
    refine (h3 t ?_).1
    unfold ds at ht; unfold hmN at ht hh; omega
theorem gapW_no {ux : List Bool} {i : Nat} : ∀ (D k d : Nat), k < 16 → d < 16 → (k + d) % 16 = i → (∀ t, t < d → ux.getD ((k + t) % 16) false = true) → gapW ux i D k = false
  | 0, _, _, _, _, _, _ => rfl
  | D + 1, k, d, hk, hd, he, h => by
    simp only [gapW]
    split
    · rfl
    next c =>
      have d0 : d ≠ 0 := fun q => c (by subst q; rw [← he]; omega)
      have := h 0 (by omega)
      rw [Nat.add_zero, Nat.mod_eq_of_lt hk] at this
      rw [if_neg (by rw [this]; simp)]
      exact gapW_no D ((k + 1) % 16) (d - 1) (by omega) (by omega) (by omega) fun t ht => by
        have := h (t + 1) (by omega)
        rwa [show ((k + 1) % 16 + t) % 16 = (k + (t + 1)) % 16 by omega]
/-- And by the reference. -/
theorem ix_c14 {kx px : List Int} {ux : List Bool} (x : Ix kx px ux) : c14V kx px ux = 0 := by
  obtain ⟨⟨c1, c2, c3⟩, c4, c5, c6, c7, c8, c9⟩ := x
  unfold c14V
  rw [if_pos ⟨c1, c4⟩, if_pos]
  rw [findI_lt]
  intro i _ hi
  have hi : i < 16 := by omega
  unfold c14Bad
  by_cases u : ux.getD i false = true
  · rw [if_pos u]
    have hh := hmN_lt (c5 i hi)
    have g : gapW ux i 16 (homeN (kx.getD i 0)).toNat = false := gapW_no 16 _ (ds (hmN (kx.getD i 0)) i) hh (by unfold ds; omega) (by unfold ds; unfold hmN at hh ⊢; omega) (c9 i hi u)
    have a : atN kx ux (kx.getD i 0) = i := by
      unfold atN
      rw [c1]
      refine findI_some 16 0 i (by omega) (by omega) (by show (ux.getD i false && kx.getD i 0 == kx.getD i 0) = true; rw [u]; simp) fun j _ hj => ?_
      cases uj : ux.getD j false with
      | false => rfl
      | true =>
        rw [Bool.true_and]
        have : ¬ kx.getD j 0 = kx.getD i 0 := fun e => by have := c8 j i (by omega) hi uj u e; omega
        simpa using this
    rw [g, a, Bool.or_false, decide_eq_false_iff_not]
    have := c7 i hi u
    omega
  · rw [if_neg u]
    obtain ⟨a, b⟩ := c6 i hi (by simpa using u)
    rw [a, b]; rfl
theorem ix_pc {kx px : List Int} {ux : List Bool} (x : Ix kx px ux) : pcV kx px ux = 0 := pcV_of (ix_okI x) (ix_c14 x)
theorem ix_cc {kx px : List Int} {ux : List Bool} (x : Ix kx px ux) : ccS kx px ux := by
  obtain ⟨⟨a, b, c⟩, _⟩ := x
  exact ⟨by omega, by omega, by omega⟩
/-- What Find finds. -/
theorem ix_found {kx px : List Int} {ux : List Bool} (x : Ix kx px ux) {k q : Int} (hk : inU k) (h : Ce kx px ux k q) : fdE kx px ux k = 0 ∧ fdI kx px ux k = q := by
  obtain ⟨i, hi, hu, e1, e2⟩ := h
  have := ix_at x hi hu
  rw [e1] at this
  unfold fdE fdI
  rw [if_pos (ix_pc x), if_pos (ix_pc x), this, if_pos hu, if_pos hu]
  exact ⟨rfl, e2⟩
theorem ix_none {kx px : List Int} {ux : List Bool} (x : Ix kx px ux) {k : Int} (hk : inU k) (h : ∀ q, ¬ Ce kx px ux k q) : fdE kx px ux k = 6 ∧ fdI kx px ux k = 0 ∧ ux.getD (lkI kx ux k) false = false := by
  obtain ⟨h1, _, ⟨h2, h3⟩ | ⟨h2, h3⟩⟩ := ix_look x hk
  · exact absurd ⟨_, h1, h2, h3, rfl⟩ (h (px.getD (lkI kx ux k) 0))
  · unfold fdE fdI
    rw [if_pos (ix_pc x), if_pos (ix_pc x), h2]
    exact ⟨rfl, rfl, rfl⟩
theorem ix_one {kx px : List Int} {ux : List Bool} (x : Ix kx px ux) {k p q : Int} (h : Ce kx px ux k p) (g : Ce kx px ux k q) : p = q := by
  obtain ⟨i, hi, ui, e1, e2⟩ := h
  obtain ⟨j, hj, uj, f1, f2⟩ := g
  have := x.2.2.2.2.2.1 i j hi hj ui uj (by rw [e1, f1])
  subst this; rw [← e2, ← f2]
theorem ctN_set : ∀ {n : Nat} {us : List Bool} {i : Nat}, us.length = n → i < n → us.getD i false = false → ctN n (us.set i true) = ctN n us + 1 := by
  intro n us i hl hi hu
  unfold ctN
  have key : ∀ m, m ≤ n → cnt (fun j => (us.set i true).getD j false) m = cnt (fun j => us.getD j false) m + if i < m then 1 else 0 := by
    intro m
    induction m with
    | zero => intro _; simp [cnt]
    | succ m ih =>
      intro hm
      simp only [cnt]
      rw [ih (by omega)]
      by_cases e : i = m
      · subst e
        rw [getB_set_self (by omega), hu, if_neg (by omega), if_pos (by omega)]; rfl
      · rw [getB_set_ne e]
        by_cases c : i < m
        · rw [if_pos c, if_pos (by omega)]; omega
        · rw [if_neg c, if_neg (by omega), Nat.add_zero, Nat.add_zero]
  rw [key n (Nat.le_refl _), if_pos hi]
/-- A key put in. -/
theorem ix_put {kx px : List Int} {ux : List Bool} (x : Ix kx px ux) {k p : Int} (hk : inU k) (hp : 0 ≤ p ∧ p < 16) (hn : ∀ q, ¬ Ce kx px ux k q) (hc : ctN 16 ux < 12) :
    Ix (kx.set (lkI kx ux k) k) (px.set (lkI kx ux k) p) (ux.set (lkI kx ux k) true) ∧ ctN 16 (ux.set (lkI kx ux k) true) = ctN 16 ux + 1 ∧
    ∀ m q, Ce (kx.set (lkI kx ux k) k) (px.set (lkI kx ux k) p) (ux.set (lkI kx ux k) true) m q ↔ Ce kx px ux m q ∨ m = k ∧ q = p := by
  obtain ⟨h1, h2, ⟨h3, h4⟩ | ⟨h3, h4⟩⟩ := ix_look x hk
  · exact absurd ⟨_, h1, h3, h4, rfl⟩ (hn (px.getD (lkI kx ux k) 0))
  generalize lkI kx ux k = l at *
  obtain ⟨⟨c1, c2, c3⟩, c4, c5, c6, c7, c8, c9⟩ := x
  have k1 : (kx.set l k).getD l 0 = k := getD_set_self (by omega)
  have k2 : (px.set l p).getD l 0 = p := getD_set_self (by omega)
  have k3 : (ux.set l true).getD l false = true := getB_set_self (by omega)
  have k4 : ∀ i, l ≠ i → (kx.set l k).getD i 0 = kx.getD i 0 := fun i e => getD_set_ne e
  have k5 : ∀ i, l ≠ i → (px.set l p).getD i 0 = px.getD i 0 := fun i e => getD_set_ne e
  have k6 : ∀ i, l ≠ i → (ux.set l true).getD i false = ux.getD i false := fun i e => getB_set_ne e
  have k7 : ∀ i, ux.getD i false = true → (ux.set l true).getD i false = true := fun i u => by
    by_cases e : l = i
    · subst e; exact k3
    · rw [k6 i e]; exact u
  have hc' : ctN 16 (ux.set l true) = ctN 16 ux + 1 := ctN_set c3 h1 h3
  refine ⟨⟨⟨by rw [List.length_set]; exact c1, by rw [List.length_set]; exact c2, by rw [List.length_set]; exact c3⟩, by omega, fun i hi => ?_, fun i hi u => ?_, fun i hi u => ?_, fun i j hi hj ui uj e => ?_, fun i hi u => ?_⟩, hc', fun m q => ⟨?_, ?_⟩⟩
  · by_cases e : l = i
    · subst e; rw [k1]; exact hk
    · rw [k4 i e]; exact c5 i hi
  · by_cases e : l = i
    · subst e; rw [k3] at u; cases u
    · rw [k4 i e, k5 i e]; exact c6 i hi (by rwa [k6 i e] at u)
  · by_cases e : l = i
    · subst e; rw [k2]; exact hp
    · rw [k5 i e]; exact c7 i hi (by rwa [k6 i e] at u)
  · by_cases ei : l = i
    · subst ei
      by_cases ej : l = j
      · exact ej
      · rw [k1, k4 j ej] at e
        rw [k6 j ej] at uj
        exact absurd e.symm (h4 j hj uj)
    · rw [k4 i ei] at e
      rw [k6 i ei] at ui
      by_cases ej : l = j
      · subst ej
        rw [k1] at e
        exact absurd e (h4 i hi ui)
      · rw [k4 j ej] at e
        rw [k6 j ej] at uj
        exact c8 i j hi hj ui uj e
  · unfold Pa
    by_cases e : l = i
    · subst e; rw [k1]
      exact fun t ht => k7 _ (h2 t ht)
    · rw [k4 i e]
      exact fun t ht => k7 _ (c9 i hi (by rwa [k6 i e] at u) t ht)
  · rintro ⟨i, hi, u, e1, e2⟩
    by_cases e : l = i
    · subst e; rw [k1] at e1; rw [k2] at e2; exact .inr ⟨e1.symm, e2.symm⟩
    · rw [k4 i e] at e1; rw [k5 i e] at e2; rw [k6 i e] at u
      exact .inl ⟨i, hi, u, e1, e2⟩
  · rintro (⟨i, hi, u, e1, e2⟩ | ⟨e1, e2⟩)
    · have e : l ≠ i := fun q => by subst q; rw [h3] at u; cases u
      exact ⟨i, hi, by rw [k6 i e]; exact u, by rw [k4 i e]; exact e1, by rw [k5 i e]; exact e2⟩
    · exact ⟨l, h1, k3, by rw [k1]; exact e1.symm, by rw [k2]; exact e2.symm⟩
theorem dpC_all : ∀ h : Nat, h < 16 → ∀ i : Nat, i < 16 → ∀ j : Nat, j < 16 → cmpI .geq (opI .and .i64 (opI .sub .i64 (opI .sub .i64 (h : Int) i) 1) 15) (opI .and .i64 (opI .sub .i64 (j : Int) i) 15) = decide (ds i j ≤ (h + 15 - i) % 16) := by decide +kernel
theorem dpC_is {kx : List Int} {i j : Nat} (hi : i < 16) (hj : j < 16) (hk : inU (kx.getD j 0)) : dpC kx i j = decide (ds i j ≤ (hmN (kx.getD j 0) + 15 - i) % 16) := by
  have hb := homeN_lt hk
  have := dpC_all (hmN (kx.getD j 0)) (hmN_lt hk) i hi j hj
  unfold dpC
  rw [show homeN (kx.getD j 0) = ((hmN (kx.getD j 0) : Nat) : Int) by unfold hmN; omega]
  exact this
/-- While the cells behind a dropped one move up: the cell i is to be empty. -/
structure Mv (C : Int → Int → Prop) (R : Dp) (d : Nat) : Prop where
  bi : R.i < 16
  bj : R.j < 16
  lk : R.kx.length = 16
  lp : R.px.length = 16
  lu : R.ux.length = 16
  hu : R.ux.getD R.i false = true
  hf : R.ux.getD ((R.j + d) % 16) false = false
  hd : 1 ≤ ds R.i R.j ∧ ds R.i R.j + d ≤ 15
  kin : ∀ m, m < 16 → inU (R.kx.getD m 0)
  zer : ∀ m, m < 16 → R.ux.getD m false = false → R.kx.getD m 0 = 0 ∧ R.px.getD m 0 = 0
  pin : ∀ m, m < 16 → R.ux.getD m false = true → 0 ≤ R.px.getD m 0 ∧ R.px.getD m 0 < 16
  one : ∀ a b, a < 16 → b < 16 → a ≠ R.i → b ≠ R.i → R.ux.getD a false = true → R.ux.getD b false = true → R.kx.getD a 0 = R.kx.getD b 0 → a = b
  pa : ∀ m, m < 16 → m ≠ R.i → R.ux.getD m false = true → Pa R.kx R.ux m ∧ (ds (hmN (R.kx.getD m 0)) R.i < ds (hmN (R.kx.getD m 0)) m → ds R.i R.j ≤ ds R.i m)
  ce : ∀ m q, (∃ a, a < 16 ∧ a ≠ R.i ∧ R.ux.getD a false = true ∧ R.kx.getD a 0 = m ∧ R.px.getD a 0 = q) ↔ C m q
theorem mv_run {C : Int → Int → Prop} : ∀ (D d : Nat) (R : Dp), d < D → Mv C R d → ∃ d', Mv C (dpW D R) d' ∧ (dpW D R).ux.getD (dpW D R).j false = false ∧ ctN 16 (dpW D R).ux = ctN 16 R.ux
  | 0, d, R, h, _ => by omega
  | D + 1, d, R, hd, V => by
    obtain ⟨bi, bj, lk, lp, lu, hu, hf, hds, kin, zer, pin, one, pa, ce⟩ := V
    by_cases c : R.ux.getD R.j false = true
    · have hd0 : d ≠ 0 := fun e => by
        subst e
        rw [Nat.add_zero, Nat.mod_eq_of_lt bj, c] at hf; cases hf
      have hij : R.i ≠ R.j := fun e => by
        have := hds.1; unfold ds at this; omega
      have hq := dpC_is (kx := R.kx) bi bj (kin R.j bj)
      have hh := hmN_lt (kin R.j bj)
      have huu : R.ux.set R.i (R.ux.getD R.j false) = R.ux := by
        rw [c]
        apply List.ext_getElem (by simp)
        intro n h1 h2
        by_cases e : R.i = n
        · subst e
          rw [List.getElem_set_self]
          rw [List.getD_eq_getElem?_getD, List.getElem?_eq_getElem h2] at hu
          exact hu.symm
        · rw [List.getElem_set_ne e]
      by_cases c2 : dpC R.kx R.i R.j = true
      · have e : dpW (D + 1) R = dpW D ⟨R.j, (R.j + 1) % 16, R.kx.set R.i (R.kx.getD R.j 0), R.px.set R.i (R.px.getD R.j 0), R.ux⟩ := by simp only [dpW, if_pos c, if_pos c2, huu]
        rw [hq, decide_eq_true_eq] at c2
        rw [e]
        have k1 : (R.kx.set R.i (R.kx.getD R.j 0)).getD R.i 0 = R.kx.getD R.j 0 := getD_set_self (by omega)
        have k2 : (R.px.set R.i (R.px.getD R.j 0)).getD R.i 0 = R.px.getD R.j 0 := getD_set_self (by omega)
        have k4 : ∀ m, R.i ≠ m → (R.kx.set R.i (R.kx.getD R.j 0)).getD m 0 = R.kx.getD m 0 := fun m e => getD_set_ne e
        have k5 : ∀ m, R.i ≠ m → (R.px.set R.i (R.px.getD R.j 0)).getD m 0 = R.px.getD m 0 := fun m e => getD_set_ne e
        refine mv_run D (d - 1) _ (by omega) ⟨bj, by show (R.j + 1) % 16 < 16; omega, by show (List.set _ _ _).length = 16; rw [List.length_set]; exact lk, by show (List.set _ _ _).length = 16; rw [List.length_set]; exact lp, lu, c, ?_, ?_, ?_, ?_, ?_, ?_, ?_, ?_⟩
        · show R.ux.getD (((R.j + 1) % 16 + (d - 1)) % 16) false = false
          rw [show ((R.j + 1) % 16 + (d - 1)) % 16 = (R.j + d) % 16 by omega]; exact hf
        · show 1 ≤ ds R.j ((R.j + 1) % 16) ∧ ds R.j ((R.j + 1) % 16) + (d - 1) ≤ 15
          unfold ds at hds ⊢; omega
        · intro m hm
          show inU ((R.kx.set R.i (R.kx.getD R.j 0)).getD m 0)
          by_cases e : R.i = m
          · subst e; rw [k1]; exact kin _ bj
          · rw [k4 m e]; exact kin m hm
        · intro m hm u
          show (R.kx.set R.i (R.kx.getD R.j 0)).getD m 0 = 0 ∧ (R.px.set R.i (R.px.getD R.j 0)).getD m 0 = 0
          have e : R.i ≠ m := fun q => by subst q; rw [hu] at u; cases u
          rw [k4 m e, k5 m e]; exact zer m hm u
        · intro m hm u
          show 0 ≤ (R.px.set R.i (R.px.getD R.j 0)).getD m 0 ∧ (R.px.set R.i (R.px.getD R.j 0)).getD m 0 < 16
          by_cases e : R.i = m
          · subst e; rw [k2]; exact pin _ bj c
          · rw [k5 m e]; exact pin m hm u
        · intro a b ha hb na nb ua ub e
          change a ≠ R.j at na; change b ≠ R.j at nb
          change (R.kx.set R.i (R.kx.getD R.j 0)).getD a 0 = (R.kx.set R.i (R.kx.getD R.j 0)).getD b 0 at e
          by_cases ea : R.i = a
          · subst ea
            by_cases eb : R.i = b
            · exact eb
            · rw [k1, k4 b eb] at e
              exact absurd (one R.j b bj hb (Ne.symm hij) (Ne.symm eb) c ub e).symm nb
          · by_cases eb : R.i = b
            · subst eb
              rw [k4 a ea, k1] at e
              exact absurd (one a R.j ha bj (Ne.symm ea) (Ne.symm hij) ua c e) na
            · rw [k4 a ea, k4 b eb] at e
              exact one a b ha hb (Ne.symm ea) (Ne.symm eb) ua ub e
        · intro m hm nm um
          change m ≠ R.j at nm
          show Pa (R.kx.set R.i (R.kx.getD R.j 0)) R.ux m ∧ (ds (hmN ((R.kx.set R.i (R.kx.getD R.j 0)).getD m 0)) R.j < ds (hmN ((R.kx.set R.i (R.kx.getD R.j 0)).getD m 0)) m → ds R.j ((R.j + 1) % 16) ≤ ds R.j m)
          have h1 : ds R.j ((R.j + 1) % 16) ≤ ds R.j m := by unfold ds; omega
          refine ⟨?_, fun _ => h1⟩
          by_cases e : R.i = m
          · subst e
            unfold Pa; rw [k1]
            intro t ht
            refine (pa R.j bj (Ne.symm hij) c).1 t ?_
            unfold ds at ht c2 ⊢; omega
          · unfold Pa; rw [k4 m e]
            exact (pa m hm (Ne.symm e) um).1
        · intro m q
          rw [← ce]
          constructor
          · rintro ⟨a, ha, na, ua, e1, e2⟩
            change a ≠ R.j at na
            change (R.kx.set R.i (R.kx.getD R.j 0)).getD a 0 = m at e1
            change (R.px.set R.i (R.px.getD R.j 0)).getD a 0 = q at e2
            by_cases ea : R.i = a
            · subst ea
              rw [k1] at e1; rw [k2] at e2
              exact ⟨R.j, bj, Ne.symm hij, c, e1, e2⟩
            · rw [k4 a ea] at e1; rw [k5 a ea] at e2
              exact ⟨a, ha, Ne.symm ea, ua, e1, e2⟩
          · rintro ⟨a, ha, na, ua, e1, e2⟩
            by_cases ea : a = R.j
            · subst ea
              exact ⟨R.i, bi, hij, hu, by show (R.kx.set R.i _).getD R.i 0 = m; rw [k1]; exact e1, by show (R.px.set R.i _).getD R.i 0 = q; rw [k2]; exact e2⟩
            · exact ⟨a, ha, ea, ua, by show (R.kx.set R.i _).getD a 0 = m; rw [k4 a (Ne.symm na)]; exact e1, by show (R.px.set R.i _).getD a 0 = q; rw [k5 a (Ne.symm na)]; exact e2⟩
      · have e : dpW (D + 1) R = dpW D { R with j := (R.j + 1) % 16 } := by simp only [dpW, if_pos c, if_neg c2]
        rw [hq, decide_eq_true_eq] at c2
        rw [e]
        refine mv_run D (d - 1) _ (by omega) ⟨bi, by show (R.j + 1) % 16 < 16; omega, lk, lp, lu, hu, ?_, ?_, kin, zer, pin, one, ?_, ce⟩
        · show R.ux.getD (((R.j + 1) % 16 + (d - 1)) % 16) false = false
          rw [show ((R.j + 1) % 16 + (d - 1)) % 16 = (R.j + d) % 16 by omega]; exact hf
        · show 1 ≤ ds R.i ((R.j + 1) % 16) ∧ ds R.i ((R.j + 1) % 16) + (d - 1) ≤ 15
          unfold ds at hds ⊢; omega
        · intro m hm nm um
          show Pa R.kx R.ux m ∧ (ds (hmN (R.kx.getD m 0)) R.i < ds (hmN (R.kx.getD m 0)) m → ds R.i ((R.j + 1) % 16) ≤ ds R.i m)
          refine ⟨(pa m hm nm um).1, fun g => ?_⟩
          have g2 := (pa m hm nm um).2 g
          by_cases e : m = R.j
          · subst e
            unfold ds at g c2; omega
          · unfold ds at g2 hds ⊢; omega
    · have e : dpW (D + 1) R = R := by simp only [dpW, if_neg c]
      rw [e]
      exact ⟨d, ⟨bi, bj, lk, lp, lu, hu, hf, hds, kin, zer, pin, one, pa, ce⟩, by simpa using c, rfl⟩
/-- A key taken out. -/
theorem ix_drop {kx px : List Int} {ux : List Bool} (x : Ix kx px ux) {k p : Int} (hk : inU k) (h : Ce kx px ux k p) :
    Ix ((dpR kx px ux k).kx.set (dpR kx px ux k).i 0) ((dpR kx px ux k).px.set (dpR kx px ux k).i 0) ((dpR kx px ux k).ux.set (dpR kx px ux k).i false) ∧
    ctN 16 ((dpR kx px ux k).ux.set (dpR kx px ux k).i false) + 1 = ctN 16 ux ∧
    ∀ m q, Ce ((dpR kx px ux k).kx.set (dpR kx px ux k).i 0) ((dpR kx px ux k).px.set (dpR kx px ux k).i 0) ((dpR kx px ux k).ux.set (dpR kx px ux k).i false) m q ↔ Ce kx px ux m q ∧ m ≠ k := by
  obtain ⟨l, hl, ul, el, _⟩ := h
  have hlk : lkI kx ux k = l := by have := ix_at x hl ul; rwa [el] at this
  obtain ⟨f, hf, uf⟩ := ix_free x
  have hne : l ≠ f := fun e => by subst e; rw [ul] at uf; cases uf
  obtain ⟨⟨c1, c2, c3⟩, c4, c5, c6, c7, c8, c9⟩ := x
  have V : Mv (fun m q => Ce kx px ux m q ∧ m ≠ k) ⟨l, (l + 1) % 16, kx, px, ux⟩ ((f + 16 - (l + 1) % 16) % 16) := by
    refine ⟨hl, by show (l + 1) % 16 < 16; omega, c1, c2, c3, ul, ?_, ?_, c5, c6, c7, fun a b ha hb _ _ ua ub e => c8 a b ha hb ua ub e, fun m hm nm um => ⟨c9 m hm um, fun _ => ?_⟩, fun m q => ⟨?_, ?_⟩⟩
    · show ux.getD (((l + 1) % 16 + (f + 16 - (l + 1) % 16) % 16) % 16) false = false
      rw [show ((l + 1) % 16 + (f + 16 - (l + 1) % 16) % 16) % 16 = f by omega]; exact uf
    · show 1 ≤ ds l ((l + 1) % 16) ∧ ds l ((l + 1) % 16) + (f + 16 - (l + 1) % 16) % 16 ≤ 15
      unfold ds; omega
    · show ds l ((l + 1) % 16) ≤ ds l m
      change m ≠ l at nm
      unfold ds; omega
    · rintro ⟨a, ha, na, ua, e1, e2⟩
      refine ⟨⟨a, ha, ua, e1, e2⟩, fun q => na (c8 a l ha hl ua ul ?_)⟩
      rw [el, ← q]; exact e1
    · rintro ⟨⟨a, ha, ua, e1, e2⟩, n⟩
      exact ⟨a, ha, fun q => n (by change a = l at q; subst q; rw [← e1]; exact el), ua, e1, e2⟩
  obtain ⟨d', W, wf, wc⟩ := mv_run 16 _ _ (by omega) V
  have e : dpR kx px ux k = dpW 16 ⟨l, (l + 1) % 16, kx, px, ux⟩ := by unfold dpR; rw [hlk]
  rw [e]
  generalize dpW 16 ⟨l, (l + 1) % 16, kx, px, ux⟩ = R at *
  obtain ⟨bi, bj, lk, lp, lu, hu, _, hds, kin, zer, pin, one, pa, ce⟩ := W
  have k1 : (R.kx.set R.i 0).getD R.i 0 = 0 := getD_set_self (by omega)
  have k2 : (R.px.set R.i 0).getD R.i 0 = 0 := getD_set_self (by omega)
  have k3 : (R.ux.set R.i false).getD R.i false = false := getB_set_self (by omega)
  have k4 : ∀ m, R.i ≠ m → (R.kx.set R.i 0).getD m 0 = R.kx.getD m 0 := fun m e => getD_set_ne e
  have k5 : ∀ m, R.i ≠ m → (R.px.set R.i 0).getD m 0 = R.px.getD m 0 := fun m e => getD_set_ne e
  have k6 : ∀ m, R.i ≠ m → (R.ux.set R.i false).getD m false = R.ux.getD m false := fun m e => getB_set_ne e
  have k7 : ∀ m, (R.ux.set R.i false).getD m false = true → R.i ≠ m ∧ R.ux.getD m false = true := fun m u => by
    by_cases q : R.i = m
    · subst q; rw [k3] at u; cases u
    · exact ⟨q, by rwa [k6 m q] at u⟩
  have hback : (R.ux.set R.i false).set R.i true = R.ux := by
    apply List.ext_getElem (by simp)
    intro n h1 h2
    by_cases q : R.i = n
    · subst q
      rw [List.getElem_set_self]
      rw [List.getD_eq_getElem?_getD, List.getElem?_eq_getElem h2] at hu
      exact hu.symm
    · rw [List.getElem_set_ne q, List.getElem_set_ne q]
  have hct : ctN 16 (R.ux.set R.i false) + 1 = ctN 16 ux := by
    rw [← ctN_set (us := R.ux.set R.i false) (i := R.i) (by rw [List.length_set]; exact lu) bi k3, hback]; exact wc
  refine ⟨⟨⟨by rw [List.length_set]; exact lk, by rw [List.length_set]; exact lp, by rw [List.length_set]; exact lu⟩, by omega, fun m hm => ?_, fun m hm u => ?_, fun m hm u => ?_, fun a b ha hb ua ub e => ?_, fun m hm u => ?_⟩, hct, fun m q => ?_⟩
  · by_cases q : R.i = m
    · subst q; rw [k1]; unfold inU; omega
    · rw [k4 m q]; exact kin m hm
  · by_cases q : R.i = m
    · subst q; exact ⟨k1, k2⟩
    · rw [k4 m q, k5 m q]; exact zer m hm (by rwa [k6 m q] at u)
  · obtain ⟨q, u⟩ := k7 m u
    rw [k5 m q]; exact pin m hm u
  · obtain ⟨qa, ua⟩ := k7 a ua
    obtain ⟨qb, ub⟩ := k7 b ub
    rw [k4 a qa, k4 b qb] at e
    exact one a b ha hb (Ne.symm qa) (Ne.symm qb) ua ub e
  · obtain ⟨q, u⟩ := k7 m u
    obtain ⟨p1, p2⟩ := pa m hm (Ne.symm q) u
    have hh := hmN_lt (kin m hm)
    have mj : m ≠ R.j := fun e => by subst e; rw [wf] at u; cases u
    unfold Pa at p1 ⊢
    rw [k4 m q]
    have no : ¬ ds (hmN (R.kx.getD m 0)) R.i < ds (hmN (R.kx.getD m 0)) m := fun g => by
      have g2 := p2 g
      have := p1 (ds (hmN (R.kx.getD m 0)) R.j) (by unfold ds at g g2 hds ⊢; omega)
      rw [show (hmN (R.kx.getD m 0) + ds (hmN (R.kx.getD m 0)) R.j) % 16 = R.j by unfold ds; omega, wf] at this
      cases this
    intro t ht
    have : R.i ≠ (hmN (R.kx.getD m 0) + t) % 16 := fun e => by
      apply no; unfold ds at ht ⊢; omega
    rw [k6 _ this]
    exact p1 t ht
  · rw [← ce]
    constructor
    · rintro ⟨a, ha, ua, e1, e2⟩
      obtain ⟨qa, ua⟩ := k7 a ua
      exact ⟨a, ha, Ne.symm qa, ua, by rw [← e1, k4 a qa], by rw [← e2, k5 a qa]⟩
    · rintro ⟨a, ha, na, ua, e1, e2⟩
      exact ⟨a, ha, by rw [k6 a (Ne.symm na)]; exact ua, by rw [k4 a (Ne.symm na)]; exact e1, by rw [k5 a (Ne.symm na)]; exact e2⟩
end TableS
end

section
namespace TableS
open Go Go.Dam Go.Proofs
set_option maxRecDepth 1000000
set_option linter.unusedVariables false
set_option linter.unusedSectionVars false
set_option linter.unusedSimpArgs false
/-- A right table: its list, its free places. -/
structure Inv (T : Tb) (L F : List Int) : Prop where
  sz : T.sz
  ar : Ar T.nx T.us T.fr F
  od : Or T.ps T.no T.h T.t L
  ix : Ix T.kx T.px T.ux
  us : ∀ i : Nat, (i : Int) < T.n → T.us.getD i false = decide ((i : Int) ∈ L)
  ce : ∀ m q, Ce T.kx T.px T.ux m q ↔ ∃ i : Nat, q = i ∧ (i : Int) < T.n ∧ T.us.getD i false = true ∧ T.ks.getD i 0 = m
  bk : ∀ i : Nat, (i : Int) < T.n → T.us.getD i false = true → bk6 T i = 0
  zr : ∀ i : Nat, (i : Int) < T.n → T.us.getD i false = false → T.ks.getD i 0 = 0 ∧ z6 T i = true
theorem inv_mem {T : Tb} {L F : List Int} (v : Inv T L F) {x : Int} (h : x ∈ L) : 0 ≤ x ∧ x < T.n ∧ T.us.getD x.toNat false = true := by
  have r := seg_range v.od.2.2.2.2.1 x h
  have l := v.od.2.2.1
  obtain ⟨_, _, _, _, _, s6⟩ := v.sz
  refine ⟨r.1, by omega, ?_⟩
  rw [v.us x.toNat (by omega), show ((x.toNat : Nat) : Int) = x by omega]
  simpa using h
theorem inv_cell {T : Tb} {L F : List Int} (v : Inv T L F) {i : Nat} (hi : (i : Int) < T.n) (hu : T.us.getD i false = true) : Ce T.kx T.px T.ux (T.ks.getD i 0) i := (v.ce _ _).2 ⟨i, rfl, hi, hu, rfl⟩
theorem inv_keys {T : Tb} {L F : List Int} (v : Inv T L F) {i j : Nat} (hi : (i : Int) < T.n) (hj : (j : Int) < T.n) (ui : T.us.getD i false = true) (uj : T.us.getD j false = true) (e : T.ks.getD i 0 = T.ks.getD j 0) : i = j := by
  have a := inv_cell v hi ui
  have b := inv_cell v hj uj
  rw [← e] at b
  have := ix_one v.ix a b
  omega
theorem tc_inv {T : Tb} (ho : okT T) (h : tcV T = 0) : ∃ L F, Inv T L F := by
  obtain ⟨h1, h2, h3, h4, h5, h6⟩ := tcV_is h
  obtain ⟨F, ar⟩ := akV_ar h2
  obtain ⟨L, od⟩ := lcV_or h4
  have ix := pcV_ix ho.1 ho.2.2.2.2.2.2.2.1 h3
  have hl : llL T.ps T.no T.h T.t = L := by
    rw [(tc_list h).1]; exact (seg_chL od.2.2.2.2.1 (or_okL od)).1
  rw [hl] at h5
  have ul : (T.us.length : Int) = T.n := by have := ar.2.2.1; have := h1.2.2.2.2.1; omega
  have hus : ∀ i : Nat, (i : Int) < T.n → T.us.getD i false = decide ((i : Int) ∈ L) := fun i hi => by
    have := h5 i (by omega)
    unfold t17Bad at this
    rw [Bool.or_eq_false_iff] at this
    simpa [inB] using this.1
  have hks : ∀ i : Nat, (i : Int) < T.n → inU (T.ks.getD i 0) := fun i hi => ho.2.1 i (by have := h1.2.2.1; omega)
  have hus2 : ∀ i : Nat, (i : Int) < T.n → T.us.getD i false = true → fdE T.kx T.px T.ux (T.ks.getD i 0) = 0 ∧ fdI T.kx T.px T.ux (T.ks.getD i 0) = i ∧ bk6 T i = 0 := fun i hi u => by
    have := h5 i (by omega)
    unfold t17Bad at this
    rw [Bool.or_eq_false_iff, if_pos u, decide_eq_false_iff_not] at this
    have t := this.2
    exact ⟨Classical.byContradiction fun n => t (.inl n), Classical.byContradiction fun n => t (.inr (.inl n)), Classical.byContradiction fun n => t (.inr (.inr n))⟩
  refine ⟨L, F, h1, ar, od, ix, hus, fun m q => ⟨?_, ?_⟩, fun i hi u => (hus2 i hi u).2.2, fun i hi u => ?_⟩
  · rintro ⟨j, hj, uj, e1, e2⟩
    obtain ⟨i, a, b, c, d, _⟩ := tc_cells ho h hj uj
    exact ⟨i, by rw [← e2]; exact c, a, b, by rw [← d]; exact e1⟩
  · rintro ⟨i, rfl, hi, u, e⟩
    obtain ⟨g1, g2, _⟩ := hus2 i hi u
    rw [e] at g1 g2
    have hk : inU m := by rw [← e]; exact hks i hi
    obtain ⟨a, _, ⟨b, c⟩ | ⟨b, _⟩⟩ := ix_look ix hk
    · unfold fdI at g2
      rw [if_pos h3, if_pos b] at g2
      exact ⟨_, a, b, c, g2⟩
    · unfold fdE at g1
      rw [if_pos h3, b] at g1
      simp at g1
  · have := h5 i (by omega)
    unfold t17Bad at this
    rw [Bool.or_eq_false_iff, if_neg (by rw [u]; simp), Bool.or_eq_false_iff] at this
    exact ⟨by simpa using this.2.1, by simpa using this.2.2⟩
theorem cnt_zero {q : Nat → Bool} : ∀ {n : Nat}, (∀ j, j < n → q j = false) → cnt q n = 0
  | 0, _ => rfl
  | n + 1, h => by simp only [cnt, h n (by omega), cond_false]; rw [Nat.add_zero]; exact cnt_zero fun j hj => h j (by omega)
theorem cnt_one {q : Nat → Bool} : ∀ {n i : Nat}, i < n → q i = true → (∀ j, j < n → q j = true → j = i) → cnt q n = 1
  | 0, i, h, _, _ => by omega
  | n + 1, i, h, hq, hn => by
    by_cases e : i = n
    · subst e
      simp only [cnt, hq, cond_true]
      rw [cnt_zero fun j hj => by
        cases c : q j with
        | false => rfl
        | true => have := hn j (by omega) c; omega]
    · have : q n = false := by
        cases c : q n with
        | false => rfl
        | true => exact absurd (hn n (by omega) c).symm e
      simp only [cnt, this, cond_false]
      rw [cnt_one (i := i) (by omega) hq fun j hj c => hn j (by omega) c]
/-- As many cells are used as the list has places. -/
theorem inv_count {T : Tb} {L F : List Int} (v : Inv T L F) : ctN 16 T.ux = L.length := by
  have hn := v.od.2.2.2.1
  have e1 : L.length = (L.map Int.toNat).length := by simp
  have d2 := toNat_nodup hn fun x hx => (inv_mem v hx).1
  have bp : ∀ j, j < 16 → T.ux.getD j false = true → ∃ i : Nat, T.px.getD j 0 = i ∧ (i : Int) < T.n ∧ T.us.getD i false = true ∧ T.ks.getD i 0 = T.kx.getD j 0 := fun j hj uj => (v.ce _ _).1 ⟨j, hj, uj, rfl, rfl⟩
  have d1 : (((List.range 16).filter fun i => T.ux.getD i false).map fun j => (T.px.getD j 0).toNat).Nodup := by
    refine map_nodup (List.nodup_range.filter _) fun x hx y hy e => ?_
    rw [List.mem_filter, List.mem_range] at hx hy
    obtain ⟨i, a, b, c, d⟩ := bp x hx.1 hx.2
    obtain ⟨i', a', b', c', d'⟩ := bp y hy.1 hy.2
    have : i = i' := by omega
    subst this
    exact v.ix.2.2.2.2.2.1 x y hx.1 hy.1 hx.2 hy.2 (by rw [← d, d'])
  rw [ctN_filter, e1]
  apply Nat.le_antisymm
  · have := nodup_le d1 (M := L.map Int.toNat) fun x hx => by
      obtain ⟨j, hj, e⟩ := List.mem_map.1 hx
      rw [List.mem_filter, List.mem_range] at hj
      obtain ⟨i, a, b, c, d⟩ := bp j hj.1 hj.2
      rw [v.us i b] at c
      exact List.mem_map.2 ⟨i, by simpa using c, by omega⟩
    rwa [List.length_map] at this
  · have := nodup_le d2 (M := ((List.range 16).filter fun i => T.ux.getD i false).map fun j => (T.px.getD j 0).toNat) fun x hx => by
      obtain ⟨y, hy, e⟩ := List.mem_map.1 hx
      obtain ⟨a, b, c⟩ := inv_mem v hy
      obtain ⟨j, hj, uj, _, e2⟩ := inv_cell v (i := y.toNat) (by omega) c
      exact List.mem_map.2 ⟨j, by rw [List.mem_filter, List.mem_range]; exact ⟨hj, uj⟩, by omega⟩
    simp only [List.length_map] at this ⊢; exact this
theorem inv_rc {T : Tb} {L F : List Int} (v : Inv T L F) : rcV T = 0 := by
  have hc := (seg_chL v.od.2.2.2.2.1 (or_okL v.od)).1
  unfold rcV
  rw [hc, v.ix.1.1, if_pos ⟨v.sz, ar_c13 v.ar, ix_c14 v.ix, or_c15 v.od, inv_count v⟩, if_pos]
  rw [findI_lt]
  intro i _ hi
  have hi : (i : Int) < T.n := by have := v.sz.1; omega
  unfold t18Bad
  rw [v.ix.1.1]
  have e1 : T.us.getD i false = inB L i := v.us i hi
  have e2 : ceS 16 T.kx T.px T.ux i (T.ks.getD i 0) = true := by
    unfold ceS
    rw [alls_iff]
    intro j hj
    unfold ceQ
    cases u : T.ux.getD j false with
    | false => rfl
    | true =>
      by_cases p : T.px.getD j 0 = i
      · obtain ⟨i', a, b, c, d⟩ := (v.ce _ _).1 ⟨j, hj, u, rfl, p⟩
        have : i = i' := by omega
        subst this
        rw [d, beq_self_eq_true, Bool.or_true]
      · rw [beq_eq_false_iff_ne.2 p]; rfl
  have e3 : T.us.getD i false = decide (ceN 16 T.px T.ux i = 1) := by
    unfold ceN
    cases u : T.us.getD i false with
    | true =>
      obtain ⟨j, hj, uj, f1, f2⟩ := inv_cell v hi u
      rw [cnt_one (i := j) hj (by unfold ceQ; simp only [uj, Bool.true_and]; simpa using f2) fun j' hj' q => ?_]
      · rfl
      · unfold ceQ at q
        rw [Bool.and_eq_true] at q
        obtain ⟨q1, q2⟩ := q
        have q2 : T.px.getD j' 0 = i := by simpa using q2
        obtain ⟨i', a, b, c, d⟩ := (v.ce _ _).1 ⟨j', hj', q1, rfl, q2⟩
        have : i = i' := by omega
        subst this
        exact v.ix.2.2.2.2.2.1 j' j hj' hj q1 uj (by rw [← d, f1])
    | false =>
      rw [cnt_zero fun j hj => ?_]
      · rfl
      · unfold ceQ
        cases uj : T.ux.getD j false with
        | false => rfl
        | true =>
          by_cases p : T.px.getD j 0 = i
          · obtain ⟨i', a, b, c, d⟩ := (v.ce _ _).1 ⟨j, hj, uj, rfl, p⟩
            have : i = i' := by omega
            subst this
            rw [u] at c; cases c
          · simpa using p
  rw [← e1, ← e3, e2]
  cases u : T.us.getD i false with
  | true => rw [if_pos rfl, v.bk i hi u]; rfl
  | false =>
    obtain ⟨z1, z2⟩ := v.zr i hi u
    rw [if_neg (by simp), z1, z2]; rfl
theorem inv_tc {T : Tb} (ho : okT T) {L F : List Int} (v : Inv T L F) : tcV T = 0 := tcV_of ho (inv_rc v)
/-- Keys and what they hold. -/
theorem inv_ky {T : Tb} (ho : okT T) {L F : List Int} (v : Inv T L F) : kyV T = L.map fun i => T.ks.getD i.toNat 0 := by
  have h := inv_tc ho v
  unfold kyV
  rw [if_pos h, (tc_list h).1, (seg_chL v.od.2.2.2.2.1 (or_okL v.od)).1]
theorem inv_has {T : Tb} {L F : List Int} (v : Inv T L F) {i : Nat} {k : Int} (hk : inU k) (hi : (i : Int) < T.n) (hu : T.us.getD i false = true) (e : T.ks.getD i 0 = k) : fdE T.kx T.px T.ux k = 0 ∧ fdI T.kx T.px T.ux k = i :=
  ix_found v.ix hk (by rw [← e]; exact inv_cell v hi hu)
theorem inv_no {T : Tb} {L F : List Int} (v : Inv T L F) {k : Int} (hk : inU k) (h : ∀ i : Nat, (i : Int) < T.n → T.us.getD i false = true → T.ks.getD i 0 ≠ k) : fdE T.kx T.px T.ux k = 6 ∧ fdI T.kx T.px T.ux k = 0 ∧ T.ux.getD (lkI T.kx T.ux k) false = false :=
  ix_none v.ix hk fun q c => by
    obtain ⟨i, _, a, b, d⟩ := (v.ce _ _).1 c
    exact h i a b d
/-- A key is at a place, or nowhere. -/
theorem inv_at {T : Tb} {L F : List Int} (v : Inv T L F) (k : Int) : (∃ i : Nat, (i : Int) < T.n ∧ T.us.getD i false = true ∧ T.ks.getD i 0 = k) ∨ ∀ i : Nat, (i : Int) < T.n → T.us.getD i false = true → T.ks.getD i 0 ≠ k := by
  by_cases c : ∃ i : Nat, (i : Int) < T.n ∧ T.us.getD i false = true ∧ T.ks.getD i 0 = k
  · exact .inl c
  · exact .inr fun i a b d => c ⟨i, a, b, d⟩
end TableS
end
