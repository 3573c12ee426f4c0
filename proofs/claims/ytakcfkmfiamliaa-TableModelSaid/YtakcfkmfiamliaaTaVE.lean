/- What the functions compute, and the law. No condition. -/
import Derived.Test.YtakcfkmfiamliaaTaUD
import Derived.Test.YtakcfkmfiamliaaTaUL
set_option linter.unusedSectionVars false
set_option linter.unusedVariables false
set_option linter.unusedSimpArgs false
section
namespace TableS
open Go Go.Dam Go.Proofs
set_option maxRecDepth 1000000
/-- How far a cell is behind another one. -/
def ds (a b : Nat) : Nat := (b + 16 - a) % 16
def hmN (k : Int) : Nat := (homeN k).toNat
theorem hmN_lt {k : Int} (h : inU k) : hmN k < 16 := by
 have := homeN_lt h; unfold hmN; omega
/-- A cell has a key and a place. -/
def Ce (kx px : List Int) (ux : List Bool) (m q : Int) : Prop := ∃ i, i < 16 ∧ ux.getD i false = true ∧ kx.getD i 0 = m ∧ px.getD i 0 = q
/-- From a key's home to its cell all are used. -/
def Pa (kx : List Int) (ux : List Bool) (i : Nat) : Prop := ∀ t, t < ds (hmN (kx.getD i 0)) i → ux.getD ((hmN (kx.getD i 0) + t) % 16) false = true
/-- An index that is right. -/
def Ix (kx px : List Int) (ux : List Bool) : Prop :=
 (kx.length = 16 ∧ px.length = 16 ∧ ux.length = 16) ∧ ctN 16 ux ≤ 12 ∧ (∀ i, i < 16 → inU (kx.getD i 0)) ∧
 (∀ i, i < 16 → ux.getD i false = false → kx.getD i 0 = 0 ∧ px.getD i 0 = 0) ∧
 (∀ i, i < 16 → ux.getD i false = true → 0 ≤ px.getD i 0 ∧ px.getD i 0 < 16) ∧
 (∀ i j, i < 16 → j < 16 → ux.getD i false = true → ux.getD j false = true → kx.getD i 0 = kx.getD j 0 → i = j) ∧
 (∀ i, i < 16 → ux.getD i false = true → Pa kx ux i)
theorem ix_free {kx px : List Int} {ux : List Bool} (x : Ix kx px ux) : ∃ j, j < 16 ∧ ux.getD j false = false := ctN_free (by have := x.2.1; omega)
theorem ix_okI {kx px : List Int} {ux : List Bool} (x : Ix kx px ux) : okI kx := ⟨by have := x.1.1; omega, fun i hi => x.2.2.1 i (by have := x.1.1; omega)⟩
/-- Looking for a key. -/
theorem ix_look {kx px : List Int} {ux : List Bool} (x : Ix kx px ux) {k : Int} (hk : inU k) :
  lkI kx ux k < 16 ∧ (∀ t, t < ds (hmN k) (lkI kx ux k) → ux.getD ((hmN k + t) % 16) false = true) ∧
  ((ux.getD (lkI kx ux k) false = true ∧ kx.getD (lkI kx ux k) 0 = k) ∨ (ux.getD (lkI kx ux k) false = false ∧ ∀ i, i < 16 → ux.getD i false = true → kx.getD i 0 ≠ k)) := by
 obtain ⟨s, h1, h2, h3, h4⟩ := lkI_spec (xs := kx) hk (ix_free x)
 have hh := hmN_lt hk
 have hs : ds (hmN k) (lkI kx ux k) = s := by
  unfold ds; rw [h2]; unfold hmN at hh ⊢; omega
 refine ⟨by rw [h2]; omega, fun t ht => (h3 t (by omega)).1, ?_⟩
 by_cases u : ux.getD (lkI kx ux k) false = true
 ·exact .inl ⟨u, Classical.byContradiction fun n => h4 ⟨u, n⟩⟩
 ·rw [Bool.not_eq_true] at u
  refine .inr ⟨u, fun i hi ui e => ?_⟩
  have p := x.2.2.2.2.2.2 i hi ui
  unfold Pa at p; rw [e] at p
  by_cases c : s < ds (hmN k) i
  ·have := p s c
   unfold hmN at this; rw [← h2, u] at this; cases this
  ·by_cases c2 : ds (hmN k) i = s
   ·have : lkI kx ux k = i := by
     rw [h2]; unfold ds at c2; unfold hmN at c2 hh; omega
    rw [this, ui] at u; cases u
   ·have := (h3 (ds (hmN k) i) (by omega)).2
    rw [show ((homeN k).toNat + ds (hmN k) i) % 16 = i by unfold ds hmN; unfold hmN at hh; omega] at this
    exact this e
theorem ix_at {kx px : List Int} {ux : List Bool} (x : Ix kx px ux) {i : Nat} (hi : i < 16) (hu : ux.getD i false = true) : lkI kx ux (kx.getD i 0) = i := by
 obtain ⟨h1, _, ⟨h2, h3⟩ | ⟨_, h3⟩⟩ := ix_look x (x.2.2.1 i hi)
 ·exact x.2.2.2.2.2.1 _ _ h1 hi h2 hu h3
 ·exact absurd rfl (h3 i hi hu)
/-- What is right by the code is right. -/
theorem pcV_ix {kx px : List Int} {ux : List Bool} (ho : okI kx) (hc : ccS kx px ux) (h : pcV kx px ux = 0) : Ix kx px ux := by
 obtain ⟨c1, c2, c3⟩ := pcV_is h
 have hfree := ctN_free (ux := ux) (n := 16) (by omega)
 have hin : ∀ i, i < 16 → inU (kx.getD i 0) := fun i hi => ho.2 i (by omega)
 have hat : ∀ i, i < 16 → ux.getD i false = true → lkI kx ux (kx.getD i 0) = i := fun i hi u => by
  have := c3 i hi
  unfold pcBad at this; rw [if_pos u, decide_eq_false_iff_not] at this
  exact Classical.byContradiction fun n => this (.inr (.inr n))
 refine ⟨⟨c1, by have := hc.2.1; omega, by have := hc.2.2; omega⟩, c2, hin, fun i hi u => ?_, fun i hi u => ?_, fun i j hi hj ui uj e => ?_, fun i hi u => ?_⟩
 ·have := c3 i hi
  unfold pcBad at this; rw [if_neg (by rw [u]; simp), decide_eq_false_iff_not] at this
  exact ⟨Classical.byContradiction fun n => this (.inl n), Classical.byContradiction fun n => this (.inr n)⟩
 ·have := c3 i hi
  unfold pcBad at this; rw [if_pos u, decide_eq_false_iff_not] at this
  omega
 ·rw [← hat i hi ui, e, hat j hj uj]
 ·obtain ⟨s, h1, h2, h3, _⟩ := lkI_spec (xs := kx) (hin i hi) hfree
  rw [hat i hi u] at h2
  have hh := hmN_lt (hin i hi)
  intro t ht
  refine (h3 t ?_).1
  unfold ds at ht; unfold hmN at ht hh; omega
theorem gapW_no {ux : List Bool} {i : Nat} : ∀ (D k d : Nat), k < 16 → d < 16 → (k + d) % 16 = i → (∀ t, t < d → ux.getD ((k + t) % 16) false = true) → gapW ux i D k = false
 | 0, _, _, _, _, _, _ => rfl
 | D + 1, k, d, hk, hd, he, h => by
  simp only [gapW]
  split
  ·rfl
  next c =>
   have d0 : d ≠ 0 := fun q => c (by subst q; rw [← he]; omega)
   have := h 0 (by omega)
   rw [Nat.add_zero, Nat.mod_eq_of_lt hk] at this
   rw [if_neg (by rw [this]; simp)]
   exact gapW_no D ((k + 1) % 16) (d - 1) (by omega) (by omega) (by omega) fun t ht => by
    have := h (t + 1) (by omega)
    rwa [show ((k + 1) % 16 + t) % 16 = (k + (t + 1)) % 16 by omega]
/-- And by the reference. -/
theorem ix_c14 {kx px : List Int} {ux : List Bool} (x : Ix kx px ux) : c14V kx px ux = 0 := by
 obtain ⟨⟨c1, c2, c3⟩, c4, c5, c6, c7, c8, c9⟩ := x
 unfold c14V
 rw [if_pos ⟨c1, c4⟩, if_pos]
 rw [findI_lt]
 intro i _ hi
 have hi : i < 16 := by omega
 unfold c14Bad
 by_cases u : ux.getD i false = true
 ·rw [if_pos u]
  have hh := hmN_lt (c5 i hi)
  have g : gapW ux i 16 (homeN (kx.getD i 0)).toNat = false := gapW_no 16 _ (ds (hmN (kx.getD i 0)) i) hh (by unfold ds; omega) (by unfold ds; unfold hmN at hh ⊢; omega) (c9 i hi u)
  have a : atN kx ux (kx.getD i 0) = i := by
   unfold atN
   rw [c1]
   refine findI_some 16 0 i (by omega) (by omega) (by show (ux.getD i false && kx.getD i 0 == kx.getD i 0) = true; rw [u]; simp) fun j _ hj => ?_
   cases uj : ux.getD j false with
   | false => rfl
   | true =>
    rw [Bool.true_and]
    have : ¬ kx.getD j 0 = kx.getD i 0 := fun e => by have := c8 j i (by omega) hi uj u e; omega
    simpa using this
  rw [g, a, Bool.or_false, decide_eq_false_iff_not]
  have := c7 i hi u
  omega
 ·rw [if_neg u]
  obtain ⟨a, b⟩ := c6 i hi (by simpa using u)
  rw [a, b]; rfl
theorem ix_pc {kx px : List Int} {ux : List Bool} (x : Ix kx px ux) : pcV kx px ux = 0 := pcV_of (ix_okI x) (ix_c14 x)
theorem ix_cc {kx px : List Int} {ux : List Bool} (x : Ix kx px ux) : ccS kx px ux := by
 obtain ⟨⟨a, b, c⟩, _⟩ := x
 exact ⟨by omega, by omega, by omega⟩
/-- What Find finds. -/
theorem ix_found {kx px : List Int} {ux : List Bool} (x : Ix kx px ux) {k q : Int} (hk : inU k) (h : Ce kx px ux k q) : fdE kx px ux k = 0 ∧ fdI kx px ux k = q := by
 obtain ⟨i, hi, hu, e1, e2⟩ := h
 have := ix_at x hi hu
 rw [e1] at this
 unfold fdE fdI
 rw [if_pos (ix_pc x), if_pos (ix_pc x), this, if_pos hu, if_pos hu]
 exact ⟨rfl, e2⟩
theorem ix_none {kx px : List Int} {ux : List Bool} (x : Ix kx px ux) {k : Int} (hk : inU k) (h : ∀ q, ¬ Ce kx px ux k q) : fdE kx px ux k = 6 ∧ fdI kx px ux k = 0 ∧ ux.getD (lkI kx ux k) false = false := by
 obtain ⟨h1, _, ⟨h2, h3⟩ | ⟨h2, h3⟩⟩ := ix_look x hk
 ·exact absurd ⟨_, h1, h2, h3, rfl⟩ (h (px.getD (lkI kx ux k) 0))
 ·unfold fdE fdI
  rw [if_pos (ix_pc x), if_pos (ix_pc x), h2]
  exact ⟨rfl, rfl, rfl⟩
theorem ix_one {kx px : List Int} {ux : List Bool} (x : Ix kx px ux) {k p q : Int} (h : Ce kx px ux k p) (g : Ce kx px ux k q) : p = q := by
 obtain ⟨i, hi, ui, e1, e2⟩ := h
 obtain ⟨j, hj, uj, f1, f2⟩ := g
 have := x.2.2.2.2.2.1 i j hi hj ui uj (by rw [e1, f1])
 subst this; rw [← e2, ← f2]
theorem ctN_set : ∀ {n : Nat} {us : List Bool} {i : Nat}, us.length = n → i < n → us.getD i false = false → ctN n (us.set i true) = ctN n us + 1 := by
 intro n us i hl hi hu
 unfold ctN
 have key : ∀ m, m ≤ n → cnt (fun j => (us.set i true).getD j false) m = cnt (fun j => us.getD j false) m + if i < m then 1 else 0 := by
  intro m
  induction m with
  | zero => intro _; simp [cnt]
  | succ m ih =>
   intro hm
   simp only [cnt]
   rw [ih (by omega)]
   by_cases e : i = m
   ·subst e
    rw [getB_set_self (by omega), hu, if_neg (by omega), if_pos (by omega)]; rfl
   ·rw [getB_set_ne e]
    by_cases c : i < m
    ·rw [if_pos c, if_pos (by omega)]; omega
    ·rw [if_neg c, if_neg (by omega), Nat.add_zero, Nat.add_zero]
 rw [key n (Nat.le_refl _), if_pos hi]
/-- A key put in. -/
theorem ix_put {kx px : List Int} {ux : List Bool} (x : Ix kx px ux) {k p : Int} (hk : inU k) (hp : 0 ≤ p ∧ p < 16) (hn : ∀ q, ¬ Ce kx px ux k q) (hc : ctN 16 ux < 12) :
  Ix (kx.set (lkI kx ux k) k) (px.set (lkI kx ux k) p) (ux.set (lkI kx ux k) true) ∧ ctN 16 (ux.set (lkI kx ux k) true) = ctN 16 ux + 1 ∧
  ∀ m q, Ce (kx.set (lkI kx ux k) k) (px.set (lkI kx ux k) p) (ux.set (lkI kx ux k) true) m q ↔ Ce kx px ux m q ∨ m = k ∧ q = p := by
 obtain ⟨h1, h2, ⟨h3, h4⟩ | ⟨h3, h4⟩⟩ := ix_look x hk
 ·exact absurd ⟨_, h1, h3, h4, rfl⟩ (hn (px.getD (lkI kx ux k) 0))
 generalize lkI kx ux k = l at *
 obtain ⟨⟨c1, c2, c3⟩, c4, c5, c6, c7, c8, c9⟩ := x
 have k1 : (kx.set l k).getD l 0 = k := getD_set_self (by omega)
 have k2 : (px.set l p).getD l 0 = p := getD_set_self (by omega)
 have k3 : (ux.set l true).getD l false = true := getB_set_self (by omega)
 have k4 : ∀ i, l ≠ i → (kx.set l k).getD i 0 = kx.getD i 0 := fun i e => getD_set_ne e
 have k5 : ∀ i, l ≠ i → (px.set l p).getD i 0 = px.getD i 0 := fun i e => getD_set_ne e
 have k6 : ∀ i, l ≠ i → (ux.set l true).getD i false = ux.getD i false := fun i e => getB_set_ne e
 have k7 : ∀ i, ux.getD i false = true → (ux.set l true).getD i false = true := fun i u => by
  by_cases e : l = i
  ·subst e; exact k3
  ·rw [k6 i e]; exact u
 have hc' : ctN 16 (ux.set l true) = ctN 16 ux + 1 := ctN_set c3 h1 h3
 refine ⟨⟨⟨by rw [List.length_set]; exact c1, by rw [List.length_set]; exact c2, by rw [List.length_set]; exact c3⟩, by omega, fun i hi => ?_, fun i hi u => ?_, fun i hi u => ?_, fun i j hi hj ui uj e => ?_, fun i hi u => ?_⟩, hc', fun m q => ⟨?_, ?_⟩⟩
 ·by_cases e : l = i
  ·subst e; rw [k1]; exact hk
  ·rw [k4 i e]; exact c5 i hi
 ·by_cases e : l = i
  ·subst e; rw [k3] at u; cases u
  ·rw [k4 i e, k5 i e]; exact c6 i hi (by rwa [k6 i e] at u)
 ·by_cases e : l = i
  ·subst e; rw [k2]; exact hp
  ·rw [k5 i e]; exact c7 i hi (by rwa [k6 i e] at u)
 ·by_cases ei : l = i
  ·subst ei
   by_cases ej : l = j
   ·exact ej
   ·rw [k1, k4 j ej] at e
    rw [k6 j ej] at uj
    exact absurd e.symm (h4 j hj uj)
  ·rw [k4 i ei] at e
   rw [k6 i ei] at ui
   by_cases ej : l = j
   ·subst ej
    rw [k1] at e
    exact absurd e (h4 i hi ui)
   ·rw [k4 j ej] at e
    rw [k6 j ej] at uj
    exact c8 i j hi hj ui uj e
 ·unfold Pa
  by_cases e : l = i
  ·subst e; rw [k1]
   exact fun t ht => k7 _ (h2 t ht)
  ·rw [k4 i e]
   exact fun t ht => k7 _ (c9 i hi (by rwa [k6 i e] at u) t ht)
 ·rintro ⟨i, hi, u, e1, e2⟩
  by_cases e : l = i
  ·subst e; rw [k1] at e1; rw [k2] at e2; exact .inr ⟨e1.symm, e2.symm⟩
  ·rw [k4 i e] at e1; rw [k5 i e] at e2; rw [k6 i e] at u
   exact .inl ⟨i, hi, u, e1, e2⟩
 ·rintro (⟨i, hi, u, e1, e2⟩ | ⟨e1, e2⟩)
  ·have e : l ≠ i := fun q => by subst q; rw [h3] at u; cases u
   exact ⟨i, hi, by rw [k6 i e]; exact u, by rw [k4 i e]; exact e1, by rw [k5 i e]; exact e2⟩
  ·exact ⟨l, h1, k3, by rw [k1]; exact e1.symm, by rw [k2]; exact e2.symm⟩
theorem dpC_all : ∀ h : Nat, h < 16 → ∀ i : Nat, i < 16 → ∀ j : Nat, j < 16 → cmpI .geq (opI .and .i64 (opI .sub .i64 (opI .sub .i64 (h : Int) i) 1) 15) (opI .and .i64 (opI .sub .i64 (j : Int) i) 15) = decide (ds i j ≤ (h + 15 - i) % 16) := by decide +kernel
theorem dpC_is {kx : List Int} {i j : Nat} (hi : i < 16) (hj : j < 16) (hk : inU (kx.getD j 0)) : dpC kx i j = decide (ds i j ≤ (hmN (kx.getD j 0) + 15 - i) % 16) := by
 have hb := homeN_lt hk
 have := dpC_all (hmN (kx.getD j 0)) (hmN_lt hk) i hi j hj
 unfold dpC
 rw [show homeN (kx.getD j 0) = ((hmN (kx.getD j 0) : Nat) : Int) by unfold hmN; omega]
 exact this
/-- While the cells behind a dropped one move up: the cell i is to be empty. -/
structure Mv (C : Int → Int → Prop) (R : Dp) (d : Nat) : Prop where
 bi : R.i < 16
 bj : R.j < 16
 lk : R.kx.length = 16
 lp : R.px.length = 16
 lu : R.ux.length = 16
 hu : R.ux.getD R.i false = true
 hf : R.ux.getD ((R.j + d) % 16) false = false
 hd : 1 ≤ ds R.i R.j ∧ ds R.i R.j + d ≤ 15
 kin : ∀ m, m < 16 → inU (R.kx.getD m 0)
 zer : ∀ m, m < 16 → R.ux.getD m false = false → R.kx.getD m 0 = 0 ∧ R.px.getD m 0 = 0
 pin : ∀ m, m < 16 → R.ux.getD m false = true → 0 ≤ R.px.getD m 0 ∧ R.px.getD m 0 < 16
 one : ∀ a b, a < 16 → b < 16 → a ≠ R.i → b ≠ R.i → R.ux.getD a false = true → R.ux.getD b false = true → R.kx.getD a 0 = R.kx.getD b 0 → a = b
 pa : ∀ m, m < 16 → m ≠ R.i → R.ux.getD m false = true → Pa R.kx R.ux m ∧ (ds (hmN (R.kx.getD m 0)) R.i < ds (hmN (R.kx.getD m 0)) m → ds R.i R.j ≤ ds R.i m)
 ce : ∀ m q, (∃ a, a < 16 ∧ a ≠ R.i ∧ R.ux.getD a false = true ∧ R.kx.getD a 0 = m ∧ R.px.getD a 0 = q) ↔ C m q
theorem mv_run {C : Int → Int → Prop} : ∀ (D d : Nat) (R : Dp), d < D → Mv C R d → ∃ d', Mv C (dpW D R) d' ∧ (dpW D R).ux.getD (dpW D R).j false = false ∧ ctN 16 (dpW D R).ux = ctN 16 R.ux
 | 0, d, R, h, _ => by omega
 | D + 1, d, R, hd, V => by
  obtain ⟨bi, bj, lk, lp, lu, hu, hf, hds, kin, zer, pin, one, pa, ce⟩ := V
  by_cases c : R.ux.getD R.j false = true
  ·have hd0 : d ≠ 0 := fun e => by
    subst e
    rw [Nat.add_zero, Nat.mod_eq_of_lt bj, c] at hf; cases hf
   have hij : R.i ≠ R.j := fun e => by
    have := hds.1; unfold ds at this; omega
   have hq := dpC_is (kx := R.kx) bi bj (kin R.j bj)
   have hh := hmN_lt (kin R.j bj)
   have huu : R.ux.set R.i (R.ux.getD R.j false) = R.ux := by
    rw [c]
    apply List.ext_getElem (by simp)
    intro n h1 h2
    by_cases e : R.i = n
    ·subst e
     rw [List.getElem_set_self]
     rw [List.getD_eq_getElem?_getD, List.getElem?_eq_getElem h2] at hu
     exact hu.symm
    ·rw [List.getElem_set_ne e]
   by_cases c2 : dpC R.kx R.i R.j = true
   ·have e : dpW (D + 1) R = dpW D ⟨R.j, (R.j + 1) % 16, R.kx.set R.i (R.kx.getD R.j 0), R.px.set R.i (R.px.getD R.j 0), R.ux⟩ := by simp only [dpW, if_pos c, if_pos c2, huu]
    rw [hq, decide_eq_true_eq] at c2
    rw [e]
    have k1 : (R.kx.set R.i (R.kx.getD R.j 0)).getD R.i 0 = R.kx.getD R.j 0 := getD_set_self (by omega)
    have k2 : (R.px.set R.i (R.px.getD R.j 0)).getD R.i 0 = R.px.getD R.j 0 := getD_set_self (by omega)
    have k4 : ∀ m, R.i ≠ m → (R.kx.set R.i (R.kx.getD R.j 0)).getD m 0 = R.kx.getD m 0 := fun m e => getD_set_ne e
    have k5 : ∀ m, R.i ≠ m → (R.px.set R.i (R.px.getD R.j 0)).getD m 0 = R.px.getD m 0 := fun m e => getD_set_ne e
    refine mv_run D (d - 1) _ (by omega) ⟨bj, by show (R.j + 1) % 16 < 16; omega, by show (List.set _ _ _).length = 16; rw [List.length_set]; exact lk, by show (List.set _ _ _).length = 16; rw [List.length_set]; exact lp, lu, c, ?_, ?_, ?_, ?_, ?_, ?_, ?_, ?_⟩
    ·show R.ux.getD (((R.j + 1) % 16 + (d - 1)) % 16) false = false
     rw [show ((R.j + 1) % 16 + (d - 1)) % 16 = (R.j + d) % 16 by omega]; exact hf
    ·show 1 ≤ ds R.j ((R.j + 1) % 16) ∧ ds R.j ((R.j + 1) % 16) + (d - 1) ≤ 15
     unfold ds at hds ⊢; omega
    ·intro m hm
     show inU ((R.kx.set R.i (R.kx.getD R.j 0)).getD m 0)
     by_cases e : R.i = m
     ·subst e; rw [k1]; exact kin _ bj
     ·rw [k4 m e]; exact kin m hm
    ·intro m hm u
     show (R.kx.set R.i (R.kx.getD R.j 0)).getD m 0 = 0 ∧ (R.px.set R.i (R.px.getD R.j 0)).getD m 0 = 0
     have e : R.i ≠ m := fun q => by subst q; rw [hu] at u; cases u
     rw [k4 m e, k5 m e]; exact zer m hm u
    ·intro m hm u
     show 0 ≤ (R.px.set R.i (R.px.getD R.j 0)).getD m 0 ∧ (R.px.set R.i (R.px.getD R.j 0)).getD m 0 < 16
     by_cases e : R.i = m
     ·subst e; rw [k2]; exact pin _ bj c
     ·rw [k5 m e]; exact pin m hm u
    ·intro a b ha hb na nb ua ub e
     change a ≠ R.j at na; change b ≠ R.j at nb
     change (R.kx.set R.i (R.kx.getD R.j 0)).getD a 0 = (R.kx.set R.i (R.kx.getD R.j 0)).getD b 0 at e
     by_cases ea : R.i = a
     ·subst ea
      by_cases eb : R.i = b
      ·exact eb
      ·rw [k1, k4 b eb] at e
       exact absurd (one R.j b bj hb (Ne.symm hij) (Ne.symm eb) c ub e).symm nb
     ·by_cases eb : R.i = b
      ·subst eb
       rw [k4 a ea, k1] at e
       exact absurd (one a R.j ha bj (Ne.symm ea) (Ne.symm hij) ua c e) na
      ·rw [k4 a ea, k4 b eb] at e
       exact one a b ha hb (Ne.symm ea) (Ne.symm eb) ua ub e
    ·intro m hm nm um
     change m ≠ R.j at nm
     show Pa (R.kx.set R.i (R.kx.getD R.j 0)) R.ux m ∧ (ds (hmN ((R.kx.set R.i (R.kx.getD R.j 0)).getD m 0)) R.j < ds (hmN ((R.kx.set R.i (R.kx.getD R.j 0)).getD m 0)) m → ds R.j ((R.j + 1) % 16) ≤ ds R.j m)
     have h1 : ds R.j ((R.j + 1) % 16) ≤ ds R.j m := by unfold ds; omega
     refine ⟨?_, fun _ => h1⟩
     by_cases e : R.i = m
     ·subst e
      unfold Pa; rw [k1]
      intro t ht
      refine (pa R.j bj (Ne.symm hij) c).1 t ?_
      unfold ds at ht c2 ⊢; omega
     ·unfold Pa; rw [k4 m e]
      exact (pa m hm (Ne.symm e) um).1
    ·intro m q
     rw [← ce]
     constructor
     ·rintro ⟨a, ha, na, ua, e1, e2⟩
      change a ≠ R.j at na
      change (R.kx.set R.i (R.kx.getD R.j 0)).getD a 0 = m at e1
      change (R.px.set R.i (R.px.getD R.j 0)).getD a 0 = q at e2
      by_cases ea : R.i = a
      ·subst ea
       rw [k1] at e1; rw [k2] at e2
       exact ⟨R.j, bj, Ne.symm hij, c, e1, e2⟩
      ·rw [k4 a ea] at e1; rw [k5 a ea] at e2
       exact ⟨a, ha, Ne.symm ea, ua, e1, e2⟩
     ·rintro ⟨a, ha, na, ua, e1, e2⟩
      by_cases ea : a = R.j
      ·subst ea
       exact ⟨R.i, bi, hij, hu, by show (R.kx.set R.i _).getD R.i 0 = m; rw [k1]; exact e1, by show (R.px.set R.i _).getD R.i 0 = q; rw [k2]; exact e2⟩
      ·exact ⟨a, ha, ea, ua, by show (R.kx.set R.i _).getD a 0 = m; rw [k4 a (Ne.symm na)]; exact e1, by show (R.px.set R.i _).getD a 0 = q; rw [k5 a (Ne.symm na)]; exact e2⟩
   ·have e : dpW (D + 1) R = dpW D { R with j := (R.j + 1) % 16 } := by simp only [dpW, if_pos c, if_neg c2]
    rw [hq, decide_eq_true_eq] at c2
    rw [e]
    refine mv_run D (d - 1) _ (by omega) ⟨bi, by show (R.j + 1) % 16 < 16; omega, lk, lp, lu, hu, ?_, ?_, kin, zer, pin, one, ?_, ce⟩
    ·show R.ux.getD (((R.j + 1) % 16 + (d - 1)) % 16) false = false
     rw [show ((R.j + 1) % 16 + (d - 1)) % 16 = (R.j + d) % 16 by omega]; exact hf
    ·show 1 ≤ ds R.i ((R.j + 1) % 16) ∧ ds R.i ((R.j + 1) % 16) + (d - 1) ≤ 15
     unfold ds at hds ⊢; omega
    ·intro m hm nm um
     show Pa R.kx R.ux m ∧ (ds (hmN (R.kx.getD m 0)) R.i < ds (hmN (R.kx.getD m 0)) m → ds R.i ((R.j + 1) % 16) ≤ ds R.i m)
     refine ⟨(pa m hm nm um).1, fun g => ?_⟩
     have g2 := (pa m hm nm um).2 g
     by_cases e : m = R.j
     ·subst e
      unfold ds at g c2; omega
     ·unfold ds at g2 hds ⊢; omega
  ·have e : dpW (D + 1) R = R := by simp only [dpW, if_neg c]
   rw [e]
   exact ⟨d, ⟨bi, bj, lk, lp, lu, hu, hf, hds, kin, zer, pin, one, pa, ce⟩, by simpa using c, rfl⟩
/-- A key taken out. -/
theorem ix_drop {kx px : List Int} {ux : List Bool} (x : Ix kx px ux) {k p : Int} (hk : inU k) (h : Ce kx px ux k p) :
  Ix ((dpR kx px ux k).kx.set (dpR kx px ux k).i 0) ((dpR kx px ux k).px.set (dpR kx px ux k).i 0) ((dpR kx px ux k).ux.set (dpR kx px ux k).i false) ∧
  ctN 16 ((dpR kx px ux k).ux.set (dpR kx px ux k).i false) + 1 = ctN 16 ux ∧
  ∀ m q, Ce ((dpR kx px ux k).kx.set (dpR kx px ux k).i 0) ((dpR kx px ux k).px.set (dpR kx px ux k).i 0) ((dpR kx px ux k).ux.set (dpR kx px ux k).i false) m q ↔ Ce kx px ux m q ∧ m ≠ k := by
 obtain ⟨l, hl, ul, el, _⟩ := h
 have hlk : lkI kx ux k = l := by have := ix_at x hl ul; rwa [el] at this
 obtain ⟨f, hf, uf⟩ := ix_free x
 have hne : l ≠ f := fun e => by subst e; rw [ul] at uf; cases uf
 obtain ⟨⟨c1, c2, c3⟩, c4, c5, c6, c7, c8, c9⟩ := x
 have V : Mv (fun m q => Ce kx px ux m q ∧ m ≠ k) ⟨l, (l + 1) % 16, kx, px, ux⟩ ((f + 16 - (l + 1) % 16) % 16) := by
  refine ⟨hl, by show (l + 1) % 16 < 16; omega, c1, c2, c3, ul, ?_, ?_, c5, c6, c7, fun a b ha hb _ _ ua ub e => c8 a b ha hb ua ub e, fun m hm nm um => ⟨c9 m hm um, fun _ => ?_⟩, fun m q => ⟨?_, ?_⟩⟩
  ·show ux.getD (((l + 1) % 16 + (f + 16 - (l + 1) % 16) % 16) % 16) false = false
   rw [show ((l + 1) % 16 + (f + 16 - (l + 1) % 16) % 16) % 16 = f by omega]; exact uf
  ·show 1 ≤ ds l ((l + 1) % 16) ∧ ds l ((l + 1) % 16) + (f + 16 - (l + 1) % 16) % 16 ≤ 15
   unfold ds; omega
  ·show ds l ((l + 1) % 16) ≤ ds l m
   change m ≠ l at nm
   unfold ds; omega
  ·rintro ⟨a, ha, na, ua, e1, e2⟩
   refine ⟨⟨a, ha, ua, e1, e2⟩, fun q => na (c8 a l ha hl ua ul ?_)⟩
   rw [el, ← q]; exact e1
  ·rintro ⟨⟨a, ha, ua, e1, e2⟩, n⟩
   exact ⟨a, ha, fun q => n (by change a = l at q; subst q; rw [← e1]; exact el), ua, e1, e2⟩
 obtain ⟨d', W, wf, wc⟩ := mv_run 16 _ _ (by omega) V
 have e : dpR kx px ux k = dpW 16 ⟨l, (l + 1) % 16, kx, px, ux⟩ := by unfold dpR; rw [hlk]
 rw [e]
 generalize dpW 16 ⟨l, (l + 1) % 16, kx, px, ux⟩ = R at *
 obtain ⟨bi, bj, lk, lp, lu, hu, _, hds, kin, zer, pin, one, pa, ce⟩ := W
 have k1 : (R.kx.set R.i 0).getD R.i 0 = 0 := getD_set_self (by omega)
 have k2 : (R.px.set R.i 0).getD R.i 0 = 0 := getD_set_self (by omega)
 have k3 : (R.ux.set R.i false).getD R.i false = false := getB_set_self (by omega)
 have k4 : ∀ m, R.i ≠ m → (R.kx.set R.i 0).getD m 0 = R.kx.getD m 0 := fun m e => getD_set_ne e
 have k5 : ∀ m, R.i ≠ m → (R.px.set R.i 0).getD m 0 = R.px.getD m 0 := fun m e => getD_set_ne e
 have k6 : ∀ m, R.i ≠ m → (R.ux.set R.i false).getD m false = R.ux.getD m false := fun m e => getB_set_ne e
 have k7 : ∀ m, (R.ux.set R.i false).getD m false = true → R.i ≠ m ∧ R.ux.getD m false = true := fun m u => by
  by_cases q : R.i = m
  ·subst q; rw [k3] at u; cases u
  ·exact ⟨q, by rwa [k6 m q] at u⟩
 have hback : (R.ux.set R.i false).set R.i true = R.ux := by
  apply List.ext_getElem (by simp)
  intro n h1 h2
  by_cases q : R.i = n
  ·subst q
   rw [List.getElem_set_self]
   rw [List.getD_eq_getElem?_getD, List.getElem?_eq_getElem h2] at hu
   exact hu.symm
  ·rw [List.getElem_set_ne q, List.getElem_set_ne q]
 have hct : ctN 16 (R.ux.set R.i false) + 1 = ctN 16 ux := by
  rw [← ctN_set (us := R.ux.set R.i false) (i := R.i) (by rw [List.length_set]; exact lu) bi k3, hback]; exact wc
 refine ⟨⟨⟨by rw [List.length_set]; exact lk, by rw [List.length_set]; exact lp, by rw [List.length_set]; exact lu⟩, by omega, fun m hm => ?_, fun m hm u => ?_, fun m hm u => ?_, fun a b ha hb ua ub e => ?_, fun m hm u => ?_⟩, hct, fun m q => ?_⟩
 ·by_cases q : R.i = m
  ·subst q; rw [k1]; unfold inU; omega
  ·rw [k4 m q]; exact kin m hm
 ·by_cases q : R.i = m
  ·subst q; exact ⟨k1, k2⟩
  ·rw [k4 m q, k5 m q]; exact zer m hm (by rwa [k6 m q] at u)
 ·obtain ⟨q, u⟩ := k7 m u
  rw [k5 m q]; exact pin m hm u
 ·obtain ⟨qa, ua⟩ := k7 a ua
  obtain ⟨qb, ub⟩ := k7 b ub
  rw [k4 a qa, k4 b qb] at e
  exact one a b ha hb (Ne.symm qa) (Ne.symm qb) ua ub e
 ·obtain ⟨q, u⟩ := k7 m u
  obtain ⟨p1, p2⟩ := pa m hm (Ne.symm q) u
  have hh := hmN_lt (kin m hm)
  have mj : m ≠ R.j := fun e => by subst e; rw [wf] at u; cases u
  unfold Pa at p1 ⊢
  rw [k4 m q]
  have no : ¬ ds (hmN (R.kx.getD m 0)) R.i < ds (hmN (R.kx.getD m 0)) m := fun g => by
   have g2 := p2 g
   have := p1 (ds (hmN (R.kx.getD m 0)) R.j) (by unfold ds at g g2 hds ⊢; omega)
   rw [show (hmN (R.kx.getD m 0) + ds (hmN (R.kx.getD m 0)) R.j) % 16 = R.j by unfold ds; omega, wf] at this
   cases this
  intro t ht
  have : R.i ≠ (hmN (R.kx.getD m 0) + t) % 16 := fun e => by
   apply no; unfold ds at ht ⊢; omega
  rw [k6 _ this]
  exact p1 t ht
 ·rw [← ce]
  constructor
  ·rintro ⟨a, ha, ua, e1, e2⟩
   obtain ⟨qa, ua⟩ := k7 a ua
   exact ⟨a, ha, Ne.symm qa, ua, by rw [← e1, k4 a qa], by rw [← e2, k5 a qa]⟩
  ·rintro ⟨a, ha, na, ua, e1, e2⟩
   exact ⟨a, ha, by rw [k6 a (Ne.symm na)]; exact ua, by rw [k4 a (Ne.symm na)]; exact e1, by rw [k5 a (Ne.symm na)]; exact e2⟩
end TableS
end

section
namespace TableS
open Go Go.Dam Go.Proofs
set_option maxRecDepth 1000000
/-- A right table: its list, its free places. -/
structure Inv (T : Tb) (L F : List Int) : Prop where
 sz : T.sz
 ar : Ar T.nx T.us T.fr F
 od : Or T.ps T.no T.h T.t L
 ix : Ix T.kx T.px T.ux
 us : ∀ i : Nat, (i : Int) < T.n → T.us.getD i false = decide ((i : Int) ∈ L)
 ce : ∀ m q, Ce T.kx T.px T.ux m q ↔ ∃ i : Nat, q = i ∧ (i : Int) < T.n ∧ T.us.getD i false = true ∧ T.ks.getD i 0 = m
 bk : ∀ i : Nat, (i : Int) < T.n → T.us.getD i false = true → bk6 T i = 0
 zr : ∀ i : Nat, (i : Int) < T.n → T.us.getD i false = false → T.ks.getD i 0 = 0 ∧ z6 T i = true
theorem inv_mem {T : Tb} {L F : List Int} (v : Inv T L F) {x : Int} (h : x ∈ L) : 0 ≤ x ∧ x < T.n ∧ T.us.getD x.toNat false = true := by
 have r := seg_range v.od.2.2.2.2.1 x h
 have l := v.od.2.2.1
 obtain ⟨_, _, _, _, _, s6⟩ := v.sz
 refine ⟨r.1, by omega, ?_⟩
 rw [v.us x.toNat (by omega), show ((x.toNat : Nat) : Int) = x by omega]
 simpa using h
theorem inv_cell {T : Tb} {L F : List Int} (v : Inv T L F) {i : Nat} (hi : (i : Int) < T.n) (hu : T.us.getD i false = true) : Ce T.kx T.px T.ux (T.ks.getD i 0) i := (v.ce _ _).2 ⟨i, rfl, hi, hu, rfl⟩
theorem inv_keys {T : Tb} {L F : List Int} (v : Inv T L F) {i j : Nat} (hi : (i : Int) < T.n) (hj : (j : Int) < T.n) (ui : T.us.getD i false = true) (uj : T.us.getD j false = true) (e : T.ks.getD i 0 = T.ks.getD j 0) : i = j := by
 have a := inv_cell v hi ui
 have b := inv_cell v hj uj
 rw [← e] at b
 have := ix_one v.ix a b
 omega
theorem tc_inv {T : Tb} (ho : okT T) (h : tcV T = 0) : ∃ L F, Inv T L F := by
 obtain ⟨h1, h2, h3, h4, h5, h6⟩ := tcV_is h
 obtain ⟨F, ar⟩ := akV_ar h2
 obtain ⟨L, od⟩ := lcV_or h4
 have ix := pcV_ix ho.1 ho.2.2.2.2.2.2.2.1 h3
 have hl : llL T.ps T.no T.h T.t = L := by
  rw [(tc_list h).1]; exact (seg_chL od.2.2.2.2.1 (or_okL od)).1
 rw [hl] at h5
 have ul : (T.us.length : Int) = T.n := by have := ar.2.2.1; have := h1.2.2.2.2.1; omega
 have hus : ∀ i : Nat, (i : Int) < T.n → T.us.getD i false = decide ((i : Int) ∈ L) := fun i hi => by
  have := h5 i (by omega)
  unfold t17Bad at this
  rw [Bool.or_eq_false_iff] at this
  simpa [inB] using this.1
 have hks : ∀ i : Nat, (i : Int) < T.n → inU (T.ks.getD i 0) := fun i hi => ho.2.1 i (by have := h1.2.2.1; omega)
 have hus2 : ∀ i : Nat, (i : Int) < T.n → T.us.getD i false = true → fdE T.kx T.px T.ux (T.ks.getD i 0) = 0 ∧ fdI T.kx T.px T.ux (T.ks.getD i 0) = i ∧ bk6 T i = 0 := fun i hi u => by
  have := h5 i (by omega)
  unfold t17Bad at this
  rw [Bool.or_eq_false_iff, if_pos u, decide_eq_false_iff_not] at this
  have t := this.2
  exact ⟨Classical.byContradiction fun n => t (.inl n), Classical.byContradiction fun n => t (.inr (.inl n)), Classical.byContradiction fun n => t (.inr (.inr n))⟩
 refine ⟨L, F, h1, ar, od, ix, hus, fun m q => ⟨?_, ?_⟩, fun i hi u => (hus2 i hi u).2.2, fun i hi u => ?_⟩
 ·rintro ⟨j, hj, uj, e1, e2⟩
  obtain ⟨i, a, b, c, d, _⟩ := tc_cells ho h hj uj
  exact ⟨i, by rw [← e2]; exact c, a, b, by rw [← d]; exact e1⟩
 ·rintro ⟨i, rfl, hi, u, e⟩
  obtain ⟨g1, g2, _⟩ := hus2 i hi u
  rw [e] at g1 g2
  have hk : inU m := by rw [← e]; exact hks i hi
  obtain ⟨a, _, ⟨b, c⟩ | ⟨b, _⟩⟩ := ix_look ix hk
  ·unfold fdI at g2
   rw [if_pos h3, if_pos b] at g2
   exact ⟨_, a, b, c, g2⟩
  ·unfold fdE at g1
   rw [if_pos h3, b] at g1
   simp at g1
 ·have := h5 i (by omega)
  unfold t17Bad at this
  rw [Bool.or_eq_false_iff, if_neg (by rw [u]; simp), Bool.or_eq_false_iff] at this
  exact ⟨by simpa using this.2.1, by simpa using this.2.2⟩
theorem cnt_zero {q : Nat → Bool} : ∀ {n : Nat}, (∀ j, j < n → q j = false) → cnt q n = 0
 | 0, _ => rfl
 | n + 1, h => by simp only [cnt, h n (by omega), cond_false]; rw [Nat.add_zero]; exact cnt_zero fun j hj => h j (by omega)
theorem cnt_one {q : Nat → Bool} : ∀ {n i : Nat}, i < n → q i = true → (∀ j, j < n → q j = true → j = i) → cnt q n = 1
 | 0, i, h, _, _ => by omega
 | n + 1, i, h, hq, hn => by
  by_cases e : i = n
  ·subst e
   simp only [cnt, hq, cond_true]
   rw [cnt_zero fun j hj => by
    cases c : q j with
    | false => rfl
    | true => have := hn j (by omega) c; omega]
  ·have : q n = false := by
    cases c : q n with
    | false => rfl
    | true => exact absurd (hn n (by omega) c).symm e
   simp only [cnt, this, cond_false]
   rw [cnt_one (i := i) (by omega) hq fun j hj c => hn j (by omega) c]
/-- As many cells are used as the list has places. -/
theorem inv_count {T : Tb} {L F : List Int} (v : Inv T L F) : ctN 16 T.ux = L.length := by
 have hn := v.od.2.2.2.1
 have e1 : L.length = (L.map Int.toNat).length := by simp
 have d2 := toNat_nodup hn fun x hx => (inv_mem v hx).1
 have bp : ∀ j, j < 16 → T.ux.getD j false = true → ∃ i : Nat, T.px.getD j 0 = i ∧ (i : Int) < T.n ∧ T.us.getD i false = true ∧ T.ks.getD i 0 = T.kx.getD j 0 := fun j hj uj => (v.ce _ _).1 ⟨j, hj, uj, rfl, rfl⟩
 have d1 : (((List.range 16).filter fun i => T.ux.getD i false).map fun j => (T.px.getD j 0).toNat).Nodup := by
  refine map_nodup (List.nodup_range.filter _) fun x hx y hy e => ?_
  rw [List.mem_filter, List.mem_range] at hx hy
  obtain ⟨i, a, b, c, d⟩ := bp x hx.1 hx.2
  obtain ⟨i', a', b', c', d'⟩ := bp y hy.1 hy.2
  have : i = i' := by omega
  subst this
  exact v.ix.2.2.2.2.2.1 x y hx.1 hy.1 hx.2 hy.2 (by rw [← d, d'])
 rw [ctN_filter, e1]
 apply Nat.le_antisymm
 ·have := nodup_le d1 (M := L.map Int.toNat) fun x hx => by
   obtain ⟨j, hj, e⟩ := List.mem_map.1 hx
   rw [List.mem_filter, List.mem_range] at hj
   obtain ⟨i, a, b, c, d⟩ := bp j hj.1 hj.2
   rw [v.us i b] at c
   exact List.mem_map.2 ⟨i, by simpa using c, by omega⟩
  rwa [List.length_map] at this
 ·have := nodup_le d2 (M := ((List.range 16).filter fun i => T.ux.getD i false).map fun j => (T.px.getD j 0).toNat) fun x hx => by
   obtain ⟨y, hy, e⟩ := List.mem_map.1 hx
   obtain ⟨a, b, c⟩ := inv_mem v hy
   obtain ⟨j, hj, uj, _, e2⟩ := inv_cell v (i := y.toNat) (by omega) c
   exact List.mem_map.2 ⟨j, by rw [List.mem_filter, List.mem_range]; exact ⟨hj, uj⟩, by omega⟩
  simp only [List.length_map] at this ⊢; exact this
theorem inv_rc {T : Tb} {L F : List Int} (v : Inv T L F) : rcV T = 0 := by
 have hc := (seg_chL v.od.2.2.2.2.1 (or_okL v.od)).1
 unfold rcV
 rw [hc, v.ix.1.1, if_pos ⟨v.sz, ar_c13 v.ar, ix_c14 v.ix, or_c15 v.od, inv_count v⟩, if_pos]
 rw [findI_lt]
 intro i _ hi
 have hi : (i : Int) < T.n := by have := v.sz.1; omega
 unfold t18Bad
 rw [v.ix.1.1]
 have e1 : T.us.getD i false = inB L i := v.us i hi
 have e2 : ceS 16 T.kx T.px T.ux i (T.ks.getD i 0) = true := by
  unfold ceS
  rw [alls_iff]
  intro j hj
  unfold ceQ
  cases u : T.ux.getD j false with
  | false => rfl
  | true =>
   by_cases p : T.px.getD j 0 = i
   ·obtain ⟨i', a, b, c, d⟩ := (v.ce _ _).1 ⟨j, hj, u, rfl, p⟩
    have : i = i' := by omega
    subst this
    rw [d, beq_self_eq_true, Bool.or_true]
   ·rw [beq_eq_false_iff_ne.2 p]; rfl
 have e3 : T.us.getD i false = decide (ceN 16 T.px T.ux i = 1) := by
  unfold ceN
  cases u : T.us.getD i false with
  | true =>
   obtain ⟨j, hj, uj, f1, f2⟩ := inv_cell v hi u
   rw [cnt_one (i := j) hj (by unfold ceQ; simp only [uj, Bool.true_and]; simpa using f2) fun j' hj' q => ?_]
   ·rfl
   ·unfold ceQ at q
    rw [Bool.and_eq_true] at q
    obtain ⟨q1, q2⟩ := q
    have q2 : T.px.getD j' 0 = i := by simpa using q2
    obtain ⟨i', a, b, c, d⟩ := (v.ce _ _).1 ⟨j', hj', q1, rfl, q2⟩
    have : i = i' := by omega
    subst this
    exact v.ix.2.2.2.2.2.1 j' j hj' hj q1 uj (by rw [← d, f1])
  | false =>
   rw [cnt_zero fun j hj => ?_]
   ·rfl
   ·unfold ceQ
    cases uj : T.ux.getD j false with
    | false => rfl
    | true =>
     by_cases p : T.px.getD j 0 = i
     ·obtain ⟨i', a, b, c, d⟩ := (v.ce _ _).1 ⟨j, hj, uj, rfl, p⟩
      have : i = i' := by omega
      subst this
      rw [u] at c; cases c
     ·simpa using p
 rw [← e1, ← e3, e2]
 cases u : T.us.getD i false with
 | true => rw [if_pos rfl, v.bk i hi u]; rfl
 | false =>
  obtain ⟨z1, z2⟩ := v.zr i hi u
  rw [if_neg (by simp), z1, z2]; rfl
theorem inv_tc {T : Tb} (ho : okT T) {L F : List Int} (v : Inv T L F) : tcV T = 0 := tcV_of ho (inv_rc v)
/-- Keys and what they hold. -/
theorem inv_ky {T : Tb} (ho : okT T) {L F : List Int} (v : Inv T L F) : kyV T = L.map fun i => T.ks.getD i.toNat 0 := by
 have h := inv_tc ho v
 unfold kyV
 rw [if_pos h, (tc_list h).1, (seg_chL v.od.2.2.2.2.1 (or_okL v.od)).1]
theorem inv_has {T : Tb} {L F : List Int} (v : Inv T L F) {i : Nat} {k : Int} (hk : inU k) (hi : (i : Int) < T.n) (hu : T.us.getD i false = true) (e : T.ks.getD i 0 = k) : fdE T.kx T.px T.ux k = 0 ∧ fdI T.kx T.px T.ux k = i :=
 ix_found v.ix hk (by rw [← e]; exact inv_cell v hi hu)
theorem inv_no {T : Tb} {L F : List Int} (v : Inv T L F) {k : Int} (hk : inU k) (h : ∀ i : Nat, (i : Int) < T.n → T.us.getD i false = true → T.ks.getD i 0 ≠ k) : fdE T.kx T.px T.ux k = 6 ∧ fdI T.kx T.px T.ux k = 0 ∧ T.ux.getD (lkI T.kx T.ux k) false = false :=
 ix_none v.ix hk fun q c => by
  obtain ⟨i, _, a, b, d⟩ := (v.ce _ _).1 c
  exact h i a b d
/-- A key is at a place, or nowhere. -/
theorem inv_at {T : Tb} {L F : List Int} (v : Inv T L F) (k : Int) : (∃ i : Nat, (i : Int) < T.n ∧ T.us.getD i false = true ∧ T.ks.getD i 0 = k) ∨ ∀ i : Nat, (i : Int) < T.n → T.us.getD i false = true → T.ks.getD i 0 ≠ k := by
 by_cases c : ∃ i : Nat, (i : Int) < T.n ∧ T.us.getD i false = true ∧ T.ks.getD i 0 = k
 ·exact .inl c
 ·exact .inr fun i a b d => c ⟨i, a, b, d⟩
end TableS
end

section
namespace TableS
open Go Go.Dam Go.Proofs
set_option maxRecDepth 1000000
/-- A table without the key at a place. -/
def Tb.without (T : Tb) (k : Int) (i : Nat) : Tb := ⟨T.n, T.ks.set i 0, T.x1.set i 0, T.x2.set i 0, T.x3.set i 0, T.x4.set i 0, T.x5.set i 0, T.x6.set i 0, T.nx.set i T.fr, T.us.set i false, i,
 (dpR T.kx T.px T.ux k).kx.set (dpR T.kx T.px T.ux k).i 0, (dpR T.kx T.px T.ux k).px.set (dpR T.kx T.px T.ux k).i 0, (dpR T.kx T.px T.ux k).ux.set (dpR T.kx T.px T.ux k).i false, rmP T.ps T.no i, rmN T.ps T.no i, rmH T.ps T.no T.h i, rmT T.ps T.no T.t i⟩
/-- A table with a key at the first free place. -/
def Tb.plus (T : Tb) (k b r p a : Int) : Tb := ⟨T.n, T.ks.set T.fr.toNat k, T.x1.set T.fr.toNat b, T.x2.set T.fr.toNat r, T.x3.set T.fr.toNat p, T.x4.set T.fr.toNat b, T.x5.set T.fr.toNat 0, T.x6.set T.fr.toNat a,
 T.nx.set T.fr.toNat (-1), T.us.set T.fr.toNat true, T.nx.getD T.fr.toNat 0, T.kx.set (lkI T.kx T.ux k) k, T.px.set (lkI T.kx T.ux k) T.fr, T.ux.set (lkI T.kx T.ux k) true,
 toP T.ps T.no T.h T.fr, toN T.ps T.no T.h T.fr, T.fr, toT T.ps T.no T.h T.t T.fr⟩
/-- A table with a place touched. -/
def Tb.touch (T : Tb) (i : Int) : Tb := { T with ps := toP T.ps T.no T.h i, no := toN T.ps T.no T.h i, h := i, t := toT T.ps T.no T.h T.t i }
theorem rmP_len (ps no : List Int) (p : Int) : (rmP ps no p).length = ps.length := by unfold rmP; split <;> simp
theorem rmN_len (ps no : List Int) (p : Int) : (rmN ps no p).length = no.length := by unfold rmN; split <;> simp
theorem toP_len (ps no : List Int) (h p : Int) : (toP ps no h p).length = ps.length := by unfold toP; (repeat' split) <;> simp [rmP_len]
theorem toN_len (ps no : List Int) (h p : Int) : (toN ps no h p).length = no.length := by unfold toN; rw [List.length_set]; split <;> simp [rmN_len]
theorem inv_us_len {T : Tb} {L F : List Int} (v : Inv T L F) : (T.us.length : Int) = T.n := by have := v.ar.2.2.1; have := v.sz.2.2.2.2.1; omega
theorem inv_touch {T : Tb} {L F : List Int} (v : Inv T L F) {i : Nat} (hi : (i : Int) < T.n) (hu : T.us.getD i false = true) : Inv (T.touch i) ((i : Int) :: wo L i) F := by
 obtain ⟨sz, ar, od, ix, us, ce, bk, zr⟩ := v
 have sz' := sz
 obtain ⟨s1, s2, s3, s4, s5, s6⟩ := sz'
 refine ⟨⟨s1, s2, s3, s4, s5, by show ((toP T.ps T.no T.h i).length : Int) = T.n; rw [toP_len]; exact s6⟩, ar, or_touch od (by omega) (by omega), ix, fun j hj => ?_, ce, bk, zr⟩
 show T.us.getD j false = decide ((j : Int) ∈ (i : Int) :: wo L i)
 rw [us j hj]
 rw [us i hi, decide_eq_true_eq] at hu
 by_cases e : j = i
 ·subst e; simp [hu]
 ·have : (j : Int) ≠ i := by omega
  simp [mem_wo, this]
theorem okT_touch {T : Tb} (ho : okT T) (i : Int) : okT (T.touch i) := by
 obtain ⟨h1, h2, h3, h4, h5, h6, h7, h8, h9, h10⟩ := ho
 exact ⟨h1, h2, h3, h4, h5, by show (toN T.ps T.no T.h i).length ≤ 200; rw [toN_len]; exact h6, h7, h8, h9, by show (toP T.ps T.no T.h i).length ≤ 200; rw [toP_len]; exact h10⟩
theorem z6_set {T U : Tb} {i : Nat} {a b c d e f : Int} (h1 : U.x1 = T.x1.set i a) (h2 : U.x2 = T.x2.set i b) (h3 : U.x3 = T.x3.set i c) (h4 : U.x4 = T.x4.set i d) (h5 : U.x5 = T.x5.set i e) (h6 : U.x6 = T.x6.set i f) :
  ∀ j, i ≠ j → z6 U j = z6 T j ∧ bk6 U j = bk6 T j := fun j n => by
 unfold z6 bk6
 rw [h1, h2, h3, h4, h5, h6, getD_set_ne n, getD_set_ne n, getD_set_ne n, getD_set_ne n, getD_set_ne n, getD_set_ne n]
 exact ⟨rfl, rfl⟩
theorem inv_without {T : Tb} (ho : okT T) {L F : List Int} (v : Inv T L F) {i : Nat} {k : Int} (hk : inU k) (hi : (i : Int) < T.n) (hu : T.us.getD i false = true) (e : T.ks.getD i 0 = k) :
  Inv (T.without k i) (wo L i) ((i : Int) :: F) ∧ ctN 16 (T.without k i).ux + 1 = ctN 16 T.ux := by
 have vk := @inv_keys _ _ _ v
 have ul := inv_us_len v
 have hc := inv_cell v hi hu
 rw [e] at hc
 obtain ⟨ix', ct', ce'⟩ := ix_drop v.ix hk hc
 have hm : (i : Int) ∈ L := by have := v.us i hi; rw [hu] at this; simpa using this.symm
 obtain ⟨sz, ar, od, ix, us, ce, bk, zr⟩ := v
 have sz' := sz
 obtain ⟨s1, s2, s3, s4, s5, s6⟩ := sz'
 obtain ⟨_, k2, k3, k4, k5, k6⟩ := ho.2.2.2.2.2.2.1
 have zz := @z6_set T (T.without k i) i 0 0 0 0 0 0 rfl rfl rfl rfl rfl rfl
 have u1 : (T.us.set i false).getD i false = false := getB_set_self (by omega)
 have u2 : ∀ j, i ≠ j → (T.us.set i false).getD j false = T.us.getD j false := fun j n => getB_set_ne n
 have u3 : ∀ j, (T.us.set i false).getD j false = true → i ≠ j ∧ T.us.getD j false = true := fun j u => by
  by_cases q : i = j
  ·subst q; rw [u1] at u; cases u
  ·exact ⟨q, by rwa [u2 j q] at u⟩
 have q2 : ∀ j, i ≠ j → (T.ks.set i 0).getD j 0 = T.ks.getD j 0 := fun j n => getD_set_ne n
 refine ⟨⟨⟨s1, s2, ?_, ?_, ?_, ?_⟩, ?_, or_remove od hm, ix', fun j hj => ?_, fun m q => ?_, fun j hj u => ?_, fun j hj u => ?_⟩, ct'⟩
 ·show ((T.ks.set i 0).length : Int) = T.n; rw [List.length_set]; exact s3
 ·show ((T.x1.set i 0).length : Int) = T.n; rw [List.length_set]; exact s4
 ·show ((T.nx.set i T.fr).length : Int) = T.n; rw [List.length_set]; exact s5
 ·show ((rmP T.ps T.no i).length : Int) = T.n; rw [rmP_len]; exact s6
 ·have := ar_give ar (p := i) (by omega) (by omega) (by rw [Int.toNat_natCast]; exact hu)
  rw [Int.toNat_natCast] at this; exact this
 ·show (T.us.set i false).getD j false = decide ((j : Int) ∈ wo L i)
  change (j : Int) < T.n at hj
  by_cases q : i = j
  ·subst q; rw [u1]; simp [mem_wo]
  ·have : (j : Int) ≠ i := by omega
   rw [u2 j q, us j hj]; simp [mem_wo, this]
 ·refine (ce' m q).trans ⟨?_, ?_⟩
  ·rintro ⟨c, n⟩
   obtain ⟨j, a1, a2, a3, a4⟩ := (ce m q).1 c
   have q : i ≠ j := fun q => n (by rw [← a4, ← q]; exact e)
   exact ⟨j, a1, a2, by show (T.us.set i false).getD j false = true; rw [u2 j q]; exact a3, by show (T.ks.set i 0).getD j 0 = m; rw [q2 j q]; exact a4⟩
  ·rintro ⟨j, a1, a2, a3, a4⟩
   obtain ⟨q, a3⟩ := u3 j a3
   change (T.ks.set i 0).getD j 0 = m at a4
   rw [q2 j q] at a4
   exact ⟨(ce m _).2 ⟨j, a1, a2, a3, a4⟩, fun n => q (vk hi a2 hu a3 (by rw [e, a4, n]))⟩
 ·obtain ⟨q, u⟩ := u3 j u
  rw [(zz j q).2]; exact bk j hj u
 ·change (j : Int) < T.n at hj
  by_cases q : i = j
  ·subst q
   refine ⟨by show (T.ks.set i 0).getD i 0 = 0; rw [getD_set_self (by omega)], ?_⟩
   unfold z6
   show ((T.x1.set i 0).getD i 0 == 0 && ((T.x2.set i 0).getD i 0 == 0 && ((T.x3.set i 0).getD i 0 == 0 && ((T.x4.set i 0).getD i 0 == 0 && ((T.x5.set i 0).getD i 0 == 0 && (T.x6.set i 0).getD i 0 == 0))))) = true
   rw [getD_set_self (by omega), getD_set_self (by omega), getD_set_self (by omega), getD_set_self (by omega), getD_set_self (by omega), getD_set_self (by omega)]; rfl
  ·have u' : T.us.getD j false = false := by rw [← u2 j q]; exact u
   have := zr j hj u'
   exact ⟨by show (T.ks.set i 0).getD j 0 = 0; rw [q2 j q]; exact this.1, by rw [(zz j q).1]; exact this.2⟩
theorem inU_set {l : List Int} {i : Nat} {x : Int} (h : ∀ j, j < l.length → inU (l.getD j 0)) (hx : inU x) : ∀ j, j < (l.set i x).length → inU ((l.set i x).getD j 0) := fun j hj => by
 rw [List.length_set] at hj
 by_cases e : i = j
 ·subst e; rw [getD_set_self hj]; exact hx
 ·rw [getD_set_ne e]; exact h j hj
theorem in64_set {l m : List Int} {i : Nat} {x : Int} (hl : m.length = l.length) (h : ∀ j, j < l.length → in64 (m.getD j 0)) (hx : in64 x) (y : Int) : ∀ j, j < (l.set i y).length → in64 ((m.set i x).getD j 0) := fun j hj => by
 rw [List.length_set] at hj
 by_cases e : i = j
 ·subst e; rw [getD_set_self (by omega)]; exact hx
 ·rw [getD_set_ne e]; exact h j hj
theorem kcS_set {x1 x2 x3 x4 x5 x6 : List Int} {i : Nat} {a b c d e f : Int} (h : kcS x1 x2 x3 x4 x5 x6) : kcS (x1.set i a) (x2.set i b) (x3.set i c) (x4.set i d) (x5.set i e) (x6.set i f) := by
 unfold kcS at h ⊢; simp only [List.length_set]; exact h
theorem okT_without {T : Tb} (ho : okT T) {L F : List Int} (v : Inv T L F) {i : Nat} {k : Int} (hk : inU k) (hi : (i : Int) < T.n) (hu : T.us.getD i false = true) (e : T.ks.getD i 0 = k) : okT (T.without k i) := by
 have w := (inv_without ho v hk hi hu e).1
 obtain ⟨h1, h2, h3, h4, h5, h6, h7, h8, h9, h10⟩ := ho
 refine ⟨ix_okI w.ix, inU_set h2 (by unfold inU; omega), in64_set h7.2.2.2.1 h3 (by unfold in64; omega) 0, ?_, ?_, ?_, kcS_set h7, ix_cc w.ix, ?_, ?_⟩
 ·show (T.nx.set i T.fr).length ≤ 200; rw [List.length_set]; exact h4
 ·show (T.us.set i false).length ≤ 200; rw [List.length_set]; exact h5
 ·show (rmN T.ps T.no i).length ≤ 200; rw [rmN_len]; exact h6
 ·show (T.ks.set i 0).length ≤ 200; rw [List.length_set]; exact h9
 ·show (rmP T.ps T.no i).length ≤ 200; rw [rmP_len]; exact h10
theorem bkV_full {b r p : Int} (h : limV b r p = 0) : bkV b r p b 0 = 0 := by
 unfold limV at h; unfold bkV
 split at h
 next c => rw [if_pos]; omega
 next => cases h
theorem limV_in64 {b r p : Int} (h : limV b r p = 0) : in64 b := by
 unfold limV at h
 split at h
 next c => unfold in64; omega
 next => cases h
/-- The free places and the used ones. -/
theorem inv_free {T : Tb} {L F : List Int} (v : Inv T L F) (x : Int) (h0 : 0 ≤ x) (h1 : x < T.n) : x ∈ F ↔ x ∉ L := by
 have a := (v.ar.2.2.2.2.2 x.toNat (by have := v.sz.2.2.2.2.1; omega)).1
 have b := v.us x.toNat (by omega)
 rw [show ((x.toNat : Nat) : Int) = x by omega] at a b
 rw [a] at b
 by_cases c : x ∈ F <;> by_cases d : x ∈ L <;> simp [c, d] at b ⊢
theorem inv_plus {T : Tb} (ho : okT T) {L F : List Int} (v : Inv T L F) {k b r p a : Int} (hk : inU k) (hf : T.fr ≠ -1) (hn : ∀ i : Nat, (i : Int) < T.n → T.us.getD i false = true → T.ks.getD i 0 ≠ k) (hb : limV b r p = 0) :
  ∃ F', F = T.fr :: F' ∧ 0 ≤ T.fr ∧ T.fr < T.n ∧ T.fr ∉ L ∧ Inv (T.plus k b r p a) (T.fr :: L) F' := by
 have ul := inv_us_len v
 have hct := inv_count v
 obtain ⟨F', eF, f0, f1, ar'⟩ := ar_take v.ar hf
 have hfree := inv_free v T.fr f0 (by have := v.sz.2.2.2.2.1; omega)
 have hnL : T.fr ∉ L := hfree.1 (by rw [eF]; simp)
 have hlen : L.length ≤ 8 := by
  have := okL_len (or_okL v.od)
  have := v.od.2.2.1
  have := v.sz.2.1
  have := v.sz.2.2.2.2.2
  omega
 have hfn : T.fr < T.n := by have := v.sz.2.2.2.2.1; omega
 obtain ⟨ix', _, ce'⟩ := ix_put v.ix (k := k) (p := T.fr) hk ⟨f0, by have := v.sz.2.1; omega⟩ (fun q c => by
  obtain ⟨j, _, b1, b2, b3⟩ := (v.ce _ _).1 c
  exact hn j b1 b2 b3) (by omega)
 obtain ⟨sz, ar, od, ix, us, ce, bk, zr⟩ := v
 have sz' := sz
 obtain ⟨s1, s2, s3, s4, s5, s6⟩ := sz'
 obtain ⟨_, k2, k3, k4, k5, k6⟩ := ho.2.2.2.2.2.2.1
 have od' := or_touch od (p := T.fr) f0 (by omega)
 rw [wo_none hnL] at od'
 obtain ⟨i, ei⟩ : ∃ i : Nat, T.fr = i := ⟨T.fr.toNat, by omega⟩
 have et : T.fr.toNat = i := by omega
 have zz := @z6_set T (T.plus k b r p a) T.fr.toNat b r p b 0 a rfl rfl rfl rfl rfl rfl
 rw [et] at zz
 have u1 : (T.us.set T.fr.toNat true).getD i false = true := by rw [et]; exact getB_set_self (by omega)
 have u2 : ∀ j, i ≠ j → (T.us.set T.fr.toNat true).getD j false = T.us.getD j false := fun j n => by rw [et]; exact getB_set_ne n
 have q1 : (T.ks.set T.fr.toNat k).getD i 0 = k := by rw [et]; exact getD_set_self (by omega)
 have q2 : ∀ j, i ≠ j → (T.ks.set T.fr.toNat k).getD j 0 = T.ks.getD j 0 := fun j n => by rw [et]; exact getD_set_ne n
 have ui : T.us.getD i false = false := by
  rw [us i (by omega), ← ei]; simpa using hnL
 refine ⟨F', eF, f0, hfn, hnL, ⟨⟨s1, s2, ?_, ?_, ?_, ?_⟩, ar', od', ix', fun j hj => ?_, fun m q => ?_, fun j hj u => ?_, fun j hj u => ?_⟩⟩
 ·show ((T.ks.set T.fr.toNat k).length : Int) = T.n; rw [List.length_set]; exact s3
 ·show ((T.x1.set T.fr.toNat b).length : Int) = T.n; rw [List.length_set]; exact s4
 ·show ((T.nx.set T.fr.toNat (-1)).length : Int) = T.n; rw [List.length_set]; exact s5
 ·show ((toP T.ps T.no T.h T.fr).length : Int) = T.n; rw [toP_len]; exact s6
 ·show (T.us.set T.fr.toNat true).getD j false = decide ((j : Int) ∈ T.fr :: L)
  change (j : Int) < T.n at hj
  by_cases q : i = j
  ·subst q; rw [u1, ei]; simp
  ·have : (j : Int) ≠ i := by omega
   rw [u2 j q, us j hj, ei]; simp [this]
 ·refine (ce' m q).trans ⟨?_, ?_⟩
  ·rintro (c | ⟨c1, c2⟩)
   ·obtain ⟨j, a1, a2, a3, a4⟩ := (ce m q).1 c
    have n : i ≠ j := fun n => by subst n; rw [ui] at a3; cases a3
    exact ⟨j, a1, a2, by show (T.us.set T.fr.toNat true).getD j false = true; rw [u2 j n]; exact a3, by show (T.ks.set T.fr.toNat k).getD j 0 = m; rw [q2 j n]; exact a4⟩
   ·exact ⟨i, by rw [c2]; exact ei, by show (i : Int) < T.n; omega, u1, by rw [c1]; exact q1⟩
  ·rintro ⟨j, a1, a2, a3, a4⟩
   change (T.us.set T.fr.toNat true).getD j false = true at a3
   change (T.ks.set T.fr.toNat k).getD j 0 = m at a4
   by_cases n : i = j
   ·subst n
    rw [q1] at a4
    exact .inr ⟨a4.symm, by rw [a1]; exact ei.symm⟩
   ·rw [u2 j n] at a3; rw [q2 j n] at a4
    exact .inl ((ce m q).2 ⟨j, a1, a2, a3, a4⟩)
 ·change (T.us.set T.fr.toNat true).getD j false = true at u
  change (j : Int) < T.n at hj
  by_cases q : i = j
  ·subst q
   unfold bk6
   show bkV ((T.x1.set T.fr.toNat b).getD i 0) ((T.x2.set T.fr.toNat r).getD i 0) ((T.x3.set T.fr.toNat p).getD i 0) ((T.x4.set T.fr.toNat b).getD i 0) ((T.x5.set T.fr.toNat 0).getD i 0) = 0
   rw [et, getD_set_self (by omega), getD_set_self (by omega), getD_set_self (by omega), getD_set_self (by omega), getD_set_self (by omega)]
   exact bkV_full hb
  ·rw [u2 j q] at u
   rw [(zz j q).2]; exact bk j hj u
 ·change (T.us.set T.fr.toNat true).getD j false = false at u
  change (j : Int) < T.n at hj
  have q : i ≠ j := fun q => by subst q; rw [u1] at u; cases u
  rw [u2 j q] at u
  have := zr j hj u
  exact ⟨by show (T.ks.set T.fr.toNat k).getD j 0 = 0; rw [q2 j q]; exact this.1, by rw [(zz j q).1]; exact this.2⟩
theorem okT_plus {T : Tb} (ho : okT T) {L F : List Int} (v : Inv T L F) {k b r p a : Int} (hk : inU k) (hf : T.fr ≠ -1) (hn : ∀ i : Nat, (i : Int) < T.n → T.us.getD i false = true → T.ks.getD i 0 ≠ k) (hb : limV b r p = 0) : okT (T.plus k b r p a) := by
 obtain ⟨_, _, _, _, _, w⟩ := inv_plus (a := a) ho v hk hf hn hb
 obtain ⟨h1, h2, h3, h4, h5, h6, h7, h8, h9, h10⟩ := ho
 refine ⟨ix_okI w.ix, inU_set h2 hk, in64_set h7.2.2.2.1 h3 (limV_in64 hb) b, ?_, ?_, ?_, kcS_set h7, ix_cc w.ix, ?_, ?_⟩
 ·show (T.nx.set T.fr.toNat (-1)).length ≤ 200; rw [List.length_set]; exact h4
 ·show (T.us.set T.fr.toNat true).length ≤ 200; rw [List.length_set]; exact h5
 ·show (toN T.ps T.no T.h T.fr).length ≤ 200; rw [toN_len]; exact h6
 ·show (T.ks.set T.fr.toNat k).length ≤ 200; rw [List.length_set]; exact h9
 ·show (toP T.ps T.no T.h T.fr).length ≤ 200; rw [toP_len]; exact h10
/-- A table without a free place is full: its list has as many places as it. -/
theorem inv_full {T : Tb} {L F : List Int} (v : Inv T L F) : (L.length : Int) + F.length = T.n := by
 have hL := v.od.2.2.2.1
 have hF := v.ar.2.2.2.1
 have rF := seg_range v.ar.2.2.2.2.1
 obtain ⟨s1, s2, s3, s4, s5, s6⟩ := v.sz
 have rL : ∀ x ∈ L, 0 ≤ x ∧ x < T.n := fun x hx => ⟨(inv_mem v hx).1, (inv_mem v hx).2.1⟩
 have rF' : ∀ x ∈ F, 0 ≤ x ∧ x < T.n := fun x hx => by have := rF x hx; omega
 have nd : (L ++ F).Nodup := by
  rw [List.nodup_append]
  exact ⟨hL, hF, fun x hx y hy e => by subst e; exact (inv_free v x (rL x hx).1 (rL x hx).2).1 hy hx⟩
 have d1 := toNat_nodup nd fun x hx => by
  rcases List.mem_append.1 hx with m | m
  ·exact (rL x m).1
  ·exact (rF' x m).1
 have l1 := nodup_le d1 (M := List.range T.n.toNat) fun x hx => by
  obtain ⟨y, hy, e⟩ := List.mem_map.1 hx
  rw [List.mem_range]
  rcases List.mem_append.1 hy with m | m
  ·have := rL y m; omega
  ·have := rF' y m; omega
 have l2 := nodup_le (List.nodup_range (n := T.n.toNat)) (M := (L ++ F).map Int.toNat) fun x hx => by
  rw [List.mem_range] at hx
  have hx' : (x : Int) < T.n := by omega
  rw [List.mem_map]
  by_cases c : (x : Int) ∈ L
  ·exact ⟨x, by simp [c], by omega⟩
  ·exact ⟨x, by rw [List.mem_append]; exact .inr ((inv_free v x (by omega) hx').2 c), by omega⟩
 simp only [List.length_map, List.length_append, List.length_range] at l1 l2
 omega
end TableS
end
