/- What the functions compute, and the law. No condition. -/
import Derived.Test.YtakcfkmfiamliaaTaUM
set_option linter.unusedSectionVars false
set_option linter.unusedVariables false
set_option linter.unusedSimpArgs false
section
namespace TableS
open Go Go.Dam Go.Proofs
set_option maxRecDepth 1000000
/-- From a place on by the links, up to a place. -/
def Seg (nx : List Int) : Int → List Int → Int → Prop
 | i, [], m => i = m
 | i, x :: l, m => i = x ∧ (0 ≤ x ∧ x < (nx.length : Int)) ∧ Seg nx (nx.getD x.toNat 0) l m
theorem seg_app {nx : List Int} : ∀ {A B : List Int} {i m : Int}, Seg nx i (A ++ B) m ↔ ∃ k, Seg nx i A k ∧ Seg nx k B m
 | [], B, i, m => ⟨fun h => ⟨i, rfl, h⟩, fun ⟨k, h, g⟩ => by cases h; exact g⟩
 | x :: A, B, i, m => by
  simp only [List.cons_append, Seg, seg_app]
  exact ⟨fun ⟨a, b, k, c, d⟩ => ⟨k, ⟨a, b, c⟩, d⟩, fun ⟨k, ⟨a, b, c⟩, d⟩ => ⟨a, b, k, c, d⟩⟩
theorem seg_set {nx : List Int} {p : Nat} {v : Int} : ∀ {A : List Int} {i m : Int}, (p : Int) ∉ A → Seg nx i A m → Seg (nx.set p v) i A m
 | [], _, _, _, h => h
 | x :: A, i, m, hp, h => by
  obtain ⟨a, b, c⟩ := h
  simp only [List.mem_cons, not_or] at hp
  refine ⟨a, by rw [List.length_set]; exact b, ?_⟩
  rw [getD_set_ne (by omega)]
  exact seg_set hp.2 c
/-- The last link of a list turned. -/
theorem seg_last {nx : List Int} {A : List Int} {a i m v : Int} (hn : (A ++ [a]).Nodup) (h : Seg nx i (A ++ [a]) m) : Seg (nx.set a.toNat v) i (A ++ [a]) v := by
 obtain ⟨k, h1, h2⟩ := seg_app.1 h
 obtain ⟨e, b, _⟩ := h2
 have ha : a ∉ A := fun hm => by
  rw [List.nodup_append] at hn
  exact hn.2.2 a hm a (by simp) rfl
 refine seg_app.2 ⟨k, seg_set (by rw [show ((a.toNat : Nat) : Int) = a by omega]; exact ha) h1, e, by rw [List.length_set]; exact b, ?_⟩
 rw [getD_set_self (by omega)]; rfl
theorem seg_range {nx : List Int} : ∀ {A : List Int} {i m : Int}, Seg nx i A m → ∀ x ∈ A, 0 ≤ x ∧ x < (nx.length : Int)
 | [], _, _, _ => by simp
 | y :: A, i, m, ⟨_, b, c⟩ => fun x hx => by
  rcases List.mem_cons.1 hx with e | e
  ·subst e; exact b
  ·exact seg_range c x e
theorem seg_rng {nx : List Int} {A : List Int} {i : Int} (h : Seg nx i A (-1)) : A = [] ∧ i = -1 ∨ ∃ B, A = i :: B := by
 cases A with
 | nil => exact .inl ⟨rfl, h⟩
 | cons x B => obtain ⟨a, _⟩ := h; subst a; exact .inr ⟨B, rfl⟩
theorem seg_chain {nx : List Int} : ∀ {d : Nat} {i : Int} {t l : List Int}, Seg nx i t (-1) → (l ++ t).Nodup → t.length < d → chain nx d i l = some (l ++ t)
 | 0, _, _, _, _, _, h => by omega
 | d + 1, i, [], l, h, _, _ => by
  simp only [chain]; rw [if_pos (show i = -1 from h), List.append_nil]
 | d + 1, i, x :: t, l, ⟨a, b, s⟩, hn, hd => by
  subst a
  simp only [chain]
  have hi : i ∉ l := fun hm => by
   rw [List.nodup_append] at hn
   exact hn.2.2 i hm i (by simp) rfl
  rw [if_neg (by omega), if_neg (by rintro (c | c | c) <;> first | omega | exact hi c)]
  rw [seg_chain s (by rw [List.append_assoc]; exact hn) (by simp only [List.length_cons] at hd; omega), List.append_assoc]; rfl
theorem seg_chL {nx : List Int} {f : Int} {t : List Int} (h : Seg nx f t (-1)) (ho : okL nx.length t) : chL nx f = t ∧ chB nx f = true := by
 have := seg_chain (l := []) h ho.1 (d := nx.length + 1) (by have := okL_len ho; omega)
 unfold chL chB; rw [this]; exact ⟨rfl, rfl⟩
/-- An arena with its free list. -/
def Ar (nx : List Int) (us : List Bool) (f : Int) (F : List Int) : Prop :=
 1 ≤ nx.length ∧ nx.length ≤ 16 ∧ us.length = nx.length ∧ F.Nodup ∧ Seg nx f F (-1) ∧ ∀ i, i < nx.length → us.getD i false = !decide ((i : Int) ∈ F) ∧ (us.getD i false = true → nx.getD i 0 = -1)
theorem ar_okL {nx : List Int} {us : List Bool} {f : Int} {F : List Int} (h : Ar nx us f F) : okL nx.length F := ⟨h.2.2.2.1, seg_range h.2.2.2.2.1⟩
theorem ar_c13 {nx : List Int} {us : List Bool} {f : Int} {F : List Int} (h : Ar nx us f F) : c13V nx us f = 0 := by
 obtain ⟨e1, e2⟩ := seg_chL h.2.2.2.2.1 (ar_okL h)
 obtain ⟨c1, c2, c3, c4, c5, c6⟩ := h
 unfold c13V
 rw [if_pos ⟨c1, c2, c3, e2⟩, if_pos]
 rw [findI_lt]
 intro j _ hj
 obtain ⟨g1, g2⟩ := c6 j (by omega)
 unfold c13Bad inB
 rw [e1]
 cases u : us.getD j false with
 | true =>
  rw [u] at g1 g2
  rw [g2 rfl]
  have : decide ((j : Int) ∈ F) = false := by cases d : decide ((j : Int) ∈ F) <;> simp [d] at g1 ⊢
  rw [this]; rfl
 | false =>
  rw [u] at g1
  have : decide ((j : Int) ∈ F) = true := by cases d : decide ((j : Int) ∈ F) <;> simp [d] at g1 ⊢
  rw [this]; rfl
theorem walkA_seg {nx : List Int} {us : List Bool} : ∀ {d : Nat} {i : Int} {ys ys' : List Bool} {l : List Int}, seenU nx.length us ys l → walkA nx d i ys = some ys' →
  (l.Nodup) → ∃ t, Seg nx i t (-1) ∧ (l ++ t).Nodup ∧ (∀ x ∈ t, us.getD x.toNat false = false) ∧ seenU nx.length us ys' (l ++ t)
 | 0, _, _, _, _, _, h, _ => by cases h
 | d + 1, i, ys, ys', l, hs, h, hn => by
  simp only [walkA] at h
  split at h
  next c => simp only [Option.some.injEq] at h; subst h; exact ⟨[], c, by simpa using hn, by simp, by simpa using hs⟩
  next c =>
   split at h
   ·cases h
   next c2 =>
    have i0 : 0 ≤ i := by omega
    have i1 : i < (nx.length : Int) := by omega
    have hy : ys.getD i.toNat false = false := by
     cases y : ys.getD i.toNat false with
     | false => rfl
     | true => exact absurd (.inr (.inr y)) c2
    have hq := hs.2 i.toNat (by omega)
    rw [hy, show ((i.toNat : Nat) : Int) = i by omega] at hq
    have hq2 := hq.symm
    rw [Bool.or_eq_false_iff, decide_eq_false_iff_not] at hq2
    have hn2 : (l ++ [i]).Nodup := by
     rw [List.nodup_append]
     exact ⟨hn, by simp, fun a ha b hb e => by simp at hb; subst hb; subst e; exact hq2.2 ha⟩
    obtain ⟨t, s1, s2, s3, s4⟩ := walkA_seg (seenU_set hs i0 i1) h hn2
    rw [List.append_assoc] at s2 s4
    refine ⟨i :: t, ⟨rfl, ⟨i0, i1⟩, s1⟩, s2, fun x hx => ?_, s4⟩
    rcases List.mem_cons.1 hx with e | e
    ·subst e; exact hq2.1
    ·exact s3 x e
theorem akV_ar {nx : List Int} {us : List Bool} {f : Int} (h : akV nx us f = 0) : ∃ F, Ar nx us f F := by
 unfold akV at h; split at h
 next c =>
  obtain ⟨c1, c2, c3⟩ := c
  split at h
  next ys w =>
   split at h
   next g =>
    obtain ⟨t, s1, s2, s3, s4⟩ := walkA_seg (us := us) (l := []) ⟨by omega, fun j hj => by simp⟩ w (by simp)
    rw [List.nil_append] at s2 s4
    refine ⟨t, c1, c2, c3, s2, s1, fun i hi => ?_⟩
    have g1 := (findI_lt _ _).1 g i (by omega) (by omega)
    have g2 := s4.2 i hi
    unfold akBad at g1
    rw [Bool.or_eq_false_iff] at g1
    have g3 : ys.getD i false = true := by simpa using g1.1
    rw [g3] at g2
    constructor
    ·cases u : us.getD i false with
     | false =>
      rw [u, Bool.false_or] at g2
      rw [← g2]; rfl
     | true =>
      have : (i : Int) ∉ t := fun hm => by
       have := s3 _ hm
       rw [show ((i : Int).toNat) = i by omega, u] at this; cases this
      simp [this]
    ·intro u
     have := g1.2
     rw [u, Bool.true_and] at this
     simpa using this
   next => cases h
  next => cases h
 next => cases h
/-- The links back. -/
def Back (ps : List Int) : Int → List Int → Prop
 | _, [] => True
 | la, x :: l => ps.getD x.toNat 0 = la ∧ Back ps x l
def lastOr (la : Int) : List Int → Int
 | [] => la
 | x :: l => lastOr x l
theorem lastOr_snoc (la a : Int) : ∀ A : List Int, lastOr la (A ++ [a]) = a
 | [] => rfl
 | x :: A => lastOr_snoc x a A
theorem lastOr_app : ∀ (A B : List Int) (la : Int), lastOr la (A ++ B) = lastOr (lastOr la A) B
 | [], _, _ => rfl
 | x :: A, B, la => lastOr_app A B x
theorem back_app {ps : List Int} : ∀ {A B : List Int} {la : Int}, Back ps la (A ++ B) ↔ Back ps la A ∧ Back ps (lastOr la A) B
 | [], B, la => ⟨fun h => ⟨trivial, h⟩, fun h => h.2⟩
 | x :: A, B, la => by
  simp only [List.cons_append, Back, lastOr, back_app]
  exact ⟨fun ⟨a, b, c⟩ => ⟨⟨a, b⟩, c⟩, fun ⟨⟨a, b⟩, c⟩ => ⟨a, b, c⟩⟩
theorem back_set {ps : List Int} {p : Nat} {v : Int} : ∀ {A : List Int} {la : Int}, (p : Int) ∉ A → (∀ x ∈ A, 0 ≤ x) → Back ps la A → Back (ps.set p v) la A
 | [], _, _, _, _ => trivial
 | x :: A, la, hp, h0, ⟨a, b⟩ => by
  simp only [List.mem_cons, not_or] at hp
  have := h0 x (by simp)
  refine ⟨?_, back_set hp.2 (fun y hy => h0 y (by simp [hy])) b⟩
  rw [getD_set_ne (by omega)]; exact a
/-- An order with its list. -/
def Or (ps no : List Int) (h t : Int) (L : List Int) : Prop :=
 1 ≤ ps.length ∧ ps.length ≤ 16 ∧ no.length = ps.length ∧ L.Nodup ∧ Seg no h L (-1) ∧ Back ps (-1) L ∧ t = lastOr (-1) L ∧ ∀ i, i < ps.length → (i : Int) ∉ L → ps.getD i 0 = -1 ∧ no.getD i 0 = -1
theorem or_okL {ps no : List Int} {h t : Int} {L : List Int} (o : Or ps no h t L) : okL no.length L := ⟨o.2.2.2.1, seg_range o.2.2.2.2.1⟩
theorem walkL_or {ps nx : List Int} (hn : nx.length = ps.length) : ∀ {d : Nat} {la i : Int} {ys : List Bool} {q : Int × List Bool} {l : List Int}, seenAs nx.length ys l → walkL ps nx d la i ys = some q → l.Nodup →
  ∃ t, Seg nx i t (-1) ∧ (l ++ t).Nodup ∧ Back ps la t ∧ q.1 = lastOr la t ∧ seenAs nx.length q.2 (l ++ t)
 | 0, _, _, _, _, _, _, h, _ => by cases h
 | d + 1, la, i, ys, q, l, hs, h, hd => by
  simp only [walkL] at h
  split at h
  next c => simp only [Option.some.injEq] at h; subst h; exact ⟨[], c, by simpa using hd, trivial, rfl, by simpa using hs⟩
  next c =>
   split at h
   ·cases h
   next c2 =>
    have i0 : 0 ≤ i := by omega
    have i1 : i < (nx.length : Int) := by omega
    have hy : ys.getD i.toNat false = false := by
     cases y : ys.getD i.toNat false with
     | false => rfl
     | true => exact absurd (.inr (.inr (.inl y))) c2
    have hp : ps.getD i.toNat 0 = la := Classical.byContradiction fun n => c2 (.inr (.inr (.inr n)))
    have hq := hs.2 i.toNat (by omega)
    rw [hy, show ((i.toNat : Nat) : Int) = i by omega] at hq
    have hq2 := hq.symm
    rw [decide_eq_false_iff_not] at hq2
    have hn2 : (l ++ [i]).Nodup := by
     rw [List.nodup_append]
     exact ⟨hd, by simp, fun a ha b hb e => by simp at hb; subst hb; subst e; exact hq2 ha⟩
    obtain ⟨t, s1, s2, s3, s4, s5⟩ := walkL_or hn (seenAs_set hs i0 i1) h hn2
    rw [List.append_assoc] at s2 s5
    exact ⟨i :: t, ⟨rfl, ⟨i0, i1⟩, s1⟩, s2, ⟨hp, s3⟩, s4, s5⟩
theorem lcV_or {ps nx : List Int} {h t : Int} (e : lcV ps nx h t = 0) : ∃ L, Or ps nx h t L := by
 obtain ⟨c1, c2, c3, la, ys, w, g, e2⟩ := lcV_is e
 rw [← c3] at w
 obtain ⟨L, s1, s2, s3, s4, s5⟩ := walkL_or c3 (seenAs_nil _) w (by simp)
 rw [List.nil_append] at s2 s5
 refine ⟨L, c1, c2, c3, s2, s1, s3, by rw [e2]; exact s4, fun i hi hm => ?_⟩
 have g1 := (findI_lt _ _).1 g i (by omega) (by omega)
 have g2 := s5.2 i (by omega)
 rw [decide_eq_false hm] at g2
 simp only at g2
 unfold lcBad at g1
 rw [g2] at g1
 simpa using g1
theorem mkN_at2 {n : Nat} {xs : List Int} (h : okL n xs) : ∀ m, m ≤ xs.length → ∀ k, k + 1 < m → (mkN n xs m).getD (xs.getD k 0).toNat 0 = xs.getD (k + 1) 0
 | 0, _ => fun k hk => by omega
 | m + 1, hm => fun k hk => by
  have i2 := mkN_at2 h m (by omega)
  have c : m ≠ 0 := by omega
  simp only [mkN, if_neg c]
  have bm := okL_getD h (i := m - 1) (by omega)
  have bk := okL_getD h (i := k) (by omega)
  by_cases e : k = m - 1
  ·subst e
   rw [getD_set_self (by rw [mkN_len]; omega), show m - 1 + 1 = m by omega]
  ·rw [getD_set_ne (fun q => e (nodup_getD h.1 (by omega) (by omega) (by omega))), i2 k (by omega)]
theorem seg_get {nx : List Int} : ∀ {L : List Int} {i : Int}, Seg nx i L (-1) → (i = if L.length = 0 then -1 else L.getD 0 0) ∧ ∀ k, k < L.length → nx.getD (L.getD k 0).toNat 0 = if k + 1 < L.length then L.getD (k + 1) 0 else -1
 | [], i, h => ⟨h, fun k hk => by simp at hk⟩
 | x :: L, i, ⟨a, b, s⟩ => by
  obtain ⟨g1, g2⟩ := seg_get s
  refine ⟨by simp [a], fun k hk => ?_⟩
  cases k with
  | zero =>
   rw [show (x :: L).getD 0 0 = x from rfl, g1]
   cases L <;> simp
  | succ k =>
   have := g2 k (by simpa using hk)
   rw [show (x :: L).getD (k + 1) 0 = L.getD k 0 from rfl, this]
   simp
theorem back_get {ps : List Int} : ∀ {L : List Int} {la : Int}, Back ps la L → ∀ k, k < L.length → ps.getD (L.getD k 0).toNat 0 = if k = 0 then la else L.getD (k - 1) 0
 | [], _, _ => fun k hk => by simp at hk
 | x :: L, la, ⟨a, b⟩ => fun k hk => by
  cases k with
  | zero => exact a
  | succ k =>
   have := back_get b k (by simpa using hk)
   rw [show (x :: L).getD (k + 1) 0 = L.getD k 0 from rfl, this]
   cases k <;> simp
theorem lastOr_get : ∀ {L : List Int} {la : Int}, lastOr la L = if L.length = 0 then la else L.getD (L.length - 1) 0
 | [], _ => rfl
 | x :: L, la => by
  simp only [lastOr]
  rw [lastOr_get]
  cases L <;> simp
theorem ext_getD {a b : List Int} (hl : a.length = b.length) (h : ∀ j, j < a.length → a.getD j 0 = b.getD j 0) : a = b := by
 apply List.ext_getElem hl
 intro j h1 h2
 have := h j h1
 rwa [List.getD_eq_getElem?_getD, List.getD_eq_getElem?_getD, List.getElem?_eq_getElem h1, List.getElem?_eq_getElem h2] at this
theorem mem_getD {L : List Int} {x : Int} (h : x ∈ L) : ∃ k, k < L.length ∧ L.getD k 0 = x := by
 obtain ⟨k, hk, e⟩ := List.getElem_of_mem h
 exact ⟨k, hk, by rw [List.getD_eq_getElem?_getD, List.getElem?_eq_getElem hk]; exact e⟩
theorem getD_mem {L : List Int} {k : Nat} (h : k < L.length) : L.getD k 0 ∈ L := by
 rw [List.getD_eq_getElem?_getD, List.getElem?_eq_getElem h]; exact List.getElem_mem h
/-- An order is what its list makes. -/
theorem or_mk {ps no : List Int} {h t : Int} {L : List Int} (o : Or ps no h t L) : ps = mkP ps.length L L.length ∧ no = mkN ps.length L L.length ∧ h = mkH L L.length ∧ t = mkT L L.length := by
 have ho := or_okL o
 obtain ⟨c1, c2, c3, c4, c5, c6, c7, c8⟩ := o
 rw [c3] at ho
 obtain ⟨p1, p2⟩ := mkP_at ho _ (Nat.le_refl _)
 have n1 := mkN_at2 ho _ (Nat.le_refl _)
 have n2 := mkN_at ho _ (Nat.le_refl _)
 have bg := back_get c6
 obtain ⟨sh, sg⟩ := seg_get c5
 refine ⟨ext_getD (by rw [mkP_len]) fun j hj => ?_, ext_getD (by rw [mkN_len]; exact c3) fun j hj => ?_, ?_, ?_⟩
 ·by_cases m : (j : Int) ∈ L
  ·obtain ⟨k, hk, e⟩ := mem_getD m
   have b := bg k hk
   rw [e, show (j : Int).toNat = j by omega] at b
   rw [b]
   by_cases k0 : k = 0
   ·subst k0
    rw [if_pos rfl]
    symm; exact p2 j hj fun k' a b' q => by
     have := nodup_getD ho.1 b' hk (by omega); omega
   ·rw [if_neg k0]
    have := p1 k (by omega) hk
    rw [e, show (j : Int).toNat = j by omega] at this
    exact this.symm
  ·rw [(c8 j hj m).1]
   symm; exact p2 j hj fun k' a b' q => m (by rw [← q]; exact getD_mem b')
 ·rw [c3] at hj
  by_cases m : (j : Int) ∈ L
  ·obtain ⟨k, hk, e⟩ := mem_getD m
   have b := sg k hk
   rw [e, show (j : Int).toNat = j by omega] at b
   rw [b]
   by_cases k1 : k + 1 < L.length
   ·rw [if_pos k1]
    have := n1 k k1
    rw [e, show (j : Int).toNat = j by omega] at this
    exact this.symm
   ·rw [if_neg k1]
    symm; exact n2 j hj fun k' a q => by
     have := nodup_getD ho.1 (by omega) hk (show L.getD k' 0 = L.getD k 0 by omega); omega
  ·rw [(c8 j hj m).2]
   symm; exact n2 j hj fun k' a q => m (by rw [← q]; exact getD_mem (by omega))
 ·unfold mkH; exact sh
 ·unfold mkT; rw [c7]; exact lastOr_get
theorem or_c15 {ps no : List Int} {h t : Int} {L : List Int} (o : Or ps no h t L) : c15V ps no h t = 0 := by
 obtain ⟨e1, e2, e3, e4⟩ := or_mk o
 obtain ⟨g1, g2⟩ := seg_chL o.2.2.2.2.1 (or_okL o)
 have b := or_okL o
 obtain ⟨c1, c2, c3, _⟩ := o
 unfold c15V
 rw [if_pos]
 refine ⟨c1, c2, c3, g2, ?_⟩
 unfold c15S sm15 eqB
 rw [g1, ← e1, ← e2, ← e3, ← e4]
 simp
theorem or_lc {ps no : List Int} {h t : Int} {L : List Int} (o : Or ps no h t L) : lcV ps no h t = 0 := lcV_of (or_c15 o)
theorem ar_ak {nx : List Int} {us : List Bool} {f : Int} {F : List Int} (h : Ar nx us f F) : akV nx us f = 0 := akV_of (ar_c13 h)
/-- The code and the reference agree on what is right. -/
theorem ak_c13 (nx : List Int) (us : List Bool) (f : Int) : akV nx us f = 0 ↔ c13V nx us f = 0 :=
 ⟨fun h => by obtain ⟨F, a⟩ := akV_ar h; exact ar_c13 a, akV_of⟩
theorem lc_c15 (ps no : List Int) (h t : Int) : lcV ps no h t = 0 ↔ c15V ps no h t = 0 :=
 ⟨fun e => by obtain ⟨L, a⟩ := lcV_or e; exact or_c15 a, lcV_of⟩
end TableS
end

section
namespace TableS
open Go Go.Dam Go.Proofs
set_option maxRecDepth 1000000
theorem ar_give {nx : List Int} {us : List Bool} {f p : Int} {F : List Int} (a : Ar nx us f F) (h0 : 0 ≤ p) (h1 : p < (nx.length : Int)) (hu : us.getD p.toNat false = true) :
  Ar (nx.set p.toNat f) (us.set p.toNat false) p (p :: F) := by
 obtain ⟨c1, c2, c3, c4, c5, c6⟩ := a
 have hp : p ∉ F := fun m => by
  have := (c6 p.toNat (by omega)).1
  rw [hu, show ((p.toNat : Nat) : Int) = p by omega] at this
  simp [m] at this
 refine ⟨by rw [List.length_set]; exact c1, by rw [List.length_set]; exact c2, by rw [List.length_set, List.length_set]; exact c3, List.nodup_cons.2 ⟨hp, c4⟩, ⟨rfl, ⟨h0, by rw [List.length_set]; exact h1⟩, ?_⟩, fun i hi => ?_⟩
 ·rw [getD_set_self (by omega)]
  exact seg_set (by rw [show ((p.toNat : Nat) : Int) = p by omega]; exact hp) c5
 ·rw [List.length_set] at hi
  obtain ⟨g1, g2⟩ := c6 i hi
  by_cases e : i = p.toNat
  ·subst e
   rw [getB_set_self (by omega), show ((p.toNat : Nat) : Int) = p by omega]
   exact ⟨by simp, fun h => by cases h⟩
  ·rw [getB_set_ne (by omega), getD_set_ne (by omega)]
   refine ⟨?_, g2⟩
   rw [g1]
   have : (i : Int) ≠ p := by omega
   simp [this]
/-- A list without a place. -/
def wo (L : List Int) (p : Int) : List Int := L.filter fun x => decide (x ≠ p)
theorem wo_none {L : List Int} {p : Int} (h : p ∉ L) : wo L p = L := by
 unfold wo; rw [List.filter_eq_self]
 intro x hx; simp; intro e; subst e; exact h hx
theorem wo_split {A B : List Int} {p : Int} (h : (A ++ p :: B).Nodup) : wo (A ++ p :: B) p = A ++ B := by
 rw [List.nodup_append, List.nodup_cons] at h
 have e1 : wo A p = A := wo_none fun m => h.2.2 p m p (by simp) rfl
 have e2 : wo B p = B := wo_none h.2.1.1
 unfold wo at e1 e2 ⊢
 rw [List.filter_append, List.filter_cons, e1, e2]; simp
theorem mem_wo {L : List Int} {p x : Int} : x ∈ wo L p ↔ x ∈ L ∧ x ≠ p := by
 unfold wo; rw [List.mem_filter]; simp
theorem last_split (A : List Int) : A = [] ∨ ∃ B a, A = B ++ [a] := by
 rcases List.eq_nil_or_concat A with e | ⟨B, a, e⟩
 ·exact .inl e
 ·exact .inr ⟨B, a, by rw [e, List.concat_eq_append]⟩
theorem or_mem {ps no : List Int} {h t p : Int} {L : List Int} (o : Or ps no h t L) (h0 : 0 ≤ p) (h1 : p < (ps.length : Int)) : (h = p ∨ ps.getD p.toNat 0 ≠ -1) ↔ p ∈ L := by
 obtain ⟨c1, c2, c3, c4, c5, c6, c7, c8⟩ := o
 constructor
 ·rintro (e | e)
  ·subst e
   rcases seg_rng c5 with ⟨_, q⟩ | ⟨B, q⟩
   ·omega
   ·rw [q]; simp
  ·exact Classical.byContradiction fun n => e (c8 p.toNat (by omega) (by rw [show ((p.toNat : Nat) : Int) = p by omega]; exact n)).1
 ·intro m
  obtain ⟨A, B, e⟩ := List.append_of_mem m
  subst e
  obtain ⟨k, s1, s2⟩ := seg_app.1 c5
  obtain ⟨b1, b2⟩ := back_app.1 c6
  rcases last_split A with e | ⟨A', a, e⟩
  ·subst e
   exact .inl (by rw [show h = k from s1]; exact s2.1)
  ·subst e
   refine .inr ?_
   rw [b2.1, lastOr_snoc]
   have := seg_range s1 a (by simp)
   omega
theorem or_cut {ps no : List Int} {h t p : Int} {A B : List Int} (o : Or ps no h t (A ++ p :: B)) : Or (rmP ps no p) (rmN ps no p) (rmH ps no h p) (rmT ps no t p) (A ++ B) := by
 obtain ⟨c1, c2, c3, c4, c5, c6, c7, c8⟩ := o
 obtain ⟨k, s1, ek, rp, s2⟩ := seg_app.1 c5
 subst ek
 obtain ⟨b1, b2, b3⟩ := back_app.1 c6
 have hr := seg_range s1
 have hr2 := seg_range s2
 rw [lastOr_app] at c7
 have c7' : t = lastOr k B := c7
 have hn : (A ++ B).Nodup ∧ k ∉ A ∧ k ∉ B ∧ ∀ x ∈ A, x ∉ B := by
  rw [List.nodup_append, List.nodup_cons] at c4
  refine ⟨List.nodup_append.2 ⟨c4.1, c4.2.1.2, fun a ha b hb => c4.2.2 a ha b (by simp [hb])⟩, fun m => c4.2.2 k m k (by simp) rfl, c4.2.1.1, fun x hx hb => c4.2.2 x hx x (by simp [hb]) rfl⟩
 obtain ⟨n1, n2, n3, n4⟩ := hn
 have nk : ((k.toNat : Nat) : Int) = k := by omega
 -- the links on
 have lenP : (rmP ps no k).length = ps.length := by unfold rmP; split <;> simp
 have lenN : (rmN ps no k).length = no.length := by unfold rmN; split <;> simp
 have bA : ∀ x ∈ A, 0 ≤ x := fun x hx => (hr x hx).1
 have bB : ∀ x ∈ B, 0 ≤ x := fun x hx => (hr2 x hx).1
 have hseg : Seg (rmN ps no k) (rmH ps no h k) (A ++ B) (-1) := by
  unfold rmN rmH
  rcases last_split A with e | ⟨A', a, e⟩
  ·subst e
   rw [show ps.getD k.toNat 0 = -1 from b2, if_pos rfl, if_pos rfl, List.nil_append]
   exact seg_set (by rw [nk]; exact n3) s2
  ·subst e
   rw [lastOr_snoc] at b2
   have ra := hr a (by simp)
   rw [b2, if_neg (by omega), if_neg (by omega)]
   refine seg_app.2 ⟨no.getD k.toNat 0, seg_set (by rw [nk]; exact n2) (seg_last ?_ s1), seg_set (by rw [nk]; exact n3) (seg_set (by rw [show ((a.toNat : Nat) : Int) = a by omega]; exact n4 a (by simp)) s2)⟩
   rw [List.nodup_append] at n1; exact n1.1
 have hback : Back (rmP ps no k) (-1) (A ++ B) := by
  unfold rmP
  cases B with
  | nil =>
   rw [show no.getD k.toNat 0 = -1 from s2, if_pos rfl, List.append_nil]
   exact back_set (by rw [nk]; exact n2) bA b1
  | cons b B =>
   obtain ⟨e, rb, s3⟩ := s2
   obtain ⟨b4, b5⟩ := b3
   rw [e, if_neg (by omega), b2]
   have nb : ((b.toNat : Nat) : Int) = b := by omega
   have nbA : b ∉ A := fun m => n4 b m (by simp)
   refine back_app.2 ⟨back_set (by rw [nk]; exact n2) bA (back_set (by rw [nb]; exact nbA) bA b1), ?_, ?_⟩
   ·have : b ≠ k := fun q => n3 (by rw [← q]; simp)
    rw [getD_set_ne (by omega), getD_set_self (by omega)]
   ·have hB : ∀ x ∈ B, 0 ≤ x := fun x hx => bB x (by simp [hx])
    have n5 : b ∉ B := by
     rw [List.nodup_append, List.nodup_cons] at n1; exact n1.2.1.1
    exact back_set (by rw [nk]; exact fun m => n3 (by simp [m])) hB (back_set (by rw [nb]; exact n5) hB b5)
 have hlast : rmT ps no t k = lastOr (-1) (A ++ B) := by
  unfold rmT
  rw [lastOr_app]
  cases B with
  | nil => rw [show no.getD k.toNat 0 = -1 from s2, if_pos rfl, b2]; rfl
  | cons b B => rw [s2.1, if_neg (by have := s2.2.1; omega), c7']; rfl
 refine ⟨by rw [lenP]; exact c1, by rw [lenP]; exact c2, by rw [lenP, lenN]; exact c3, n1, hseg, hback, hlast, fun i hi hm => ?_⟩
 rw [lenP] at hi
 have hmA : (i : Int) ∉ A := fun m => hm (by simp [m])
 have hmB : (i : Int) ∉ B := fun m => hm (by simp [m])
 by_cases e : (i : Int) = k
 ·have : k.toNat = i := by omega
  unfold rmP rmN
  rw [this]
  constructor
  ·split
   ·rw [getD_set_self (by omega)]
   ·rw [getD_set_self (by rw [List.length_set]; omega)]
  ·split
   ·rw [getD_set_self (by omega)]
   ·rw [getD_set_self (by rw [List.length_set]; omega)]
 ·obtain ⟨g1, g2⟩ := c8 i hi (by simp only [List.mem_append, List.mem_cons, not_or]; exact ⟨hmA, e, hmB⟩)
  have ik : k.toNat ≠ i := by omega
  unfold rmP rmN
  constructor
  ·split
   ·rw [getD_set_ne ik]; exact g1
   next c =>
    rw [getD_set_ne ik]
    cases B with
    | nil => exact absurd s2 c
    | cons b B =>
     have := s2.2.1
     have nb : (i : Int) ≠ b := fun q => hmB (by simp [q])
     rw [s2.1, getD_set_ne (by omega)]; exact g1
  ·split
   ·rw [getD_set_ne ik]; exact g2
   next c =>
    rw [getD_set_ne ik]
    rcases last_split A with e' | ⟨A', a, e'⟩
    ·subst e'; exact absurd b2 c
    ·subst e'
     rw [lastOr_snoc] at b2
     have := hr a (by simp)
     have na : (i : Int) ≠ a := fun q => hmA (by simp [q])
     rw [b2, getD_set_ne (by omega)]; exact g2
theorem or_remove {ps no : List Int} {h t p : Int} {L : List Int} (o : Or ps no h t L) (hp : p ∈ L) : Or (rmP ps no p) (rmN ps no p) (rmH ps no h p) (rmT ps no t p) (wo L p) := by
 obtain ⟨A, B, e⟩ := List.append_of_mem hp
 subst e
 rw [wo_split o.2.2.2.1]
 exact or_cut o
end TableS
end

section
namespace TableS
open Go Go.Dam Go.Proofs
set_option maxRecDepth 1000000
/-! What is right by the reference is right by the code: indexes and tables. -/
theorem c14V_is {kx px : List Int} {ux : List Bool} (h : c14V kx px ux = 0) : kx.length = 16 ∧ ctN 16 ux ≤ 12 ∧ ∀ i, i < 16 → c14Bad kx px ux i = false := by
 unfold c14V at h; split at h
 next c =>
  split at h
  next d => exact ⟨c.1, c.2, fun i hi => (findI_lt 16 0).1 d i (by omega) (by omega)⟩
  next => cases h
 next => cases h
theorem gapW_spec {ux : List Bool} {i : Nat} : ∀ (D k d : Nat), k < 16 → d < D → (k + d) % 16 = i → (∀ t, t < d → (k + t) % 16 ≠ i) → gapW ux i D k = false → ∀ t, t < d → ux.getD ((k + t) % 16) false = true
 | 0, k, d, _, h, _, _, _ => by omega
 | D + 1, k, d, hk, hd, he, hm, hg => fun t ht => by
  have hki : k ≠ i := fun e => by have := hm 0 (by omega); rw [Nat.add_zero, Nat.mod_eq_of_lt hk] at this; exact this e
  simp only [gapW, if_neg hki] at hg
  split at hg
  ·cases hg
  next hu =>
   rcases t with _ | t
   ·rw [Nat.add_zero, Nat.mod_eq_of_lt hk]; simpa using hu
   ·have := gapW_spec D ((k + 1) % 16) (d - 1) (by omega) (by omega) (by omega) (fun t' ht' => by have := hm (t' + 1) (by omega); rwa [show ((k + 1) % 16 + t') % 16 = (k + (t' + 1)) % 16 by omega]) hg t (by omega)
    rwa [show ((k + 1) % 16 + t) % 16 = (k + (t + 1)) % 16 by omega] at this
theorem pcV_of {kx px : List Int} {ux : List Bool} (ho : okI kx) (h : c14V kx px ux = 0) : pcV kx px ux = 0 := by
 obtain ⟨c1, c2, c3⟩ := c14V_is h
 have hfree := ctN_free (ux := ux) (n := 16) (by omega)
 have hus : ∀ i, i < 16 → ux.getD i false = true → 0 ≤ px.getD i 0 ∧ px.getD i 0 < 16 ∧ atN kx ux (kx.getD i 0) = i ∧ gapW ux i 16 (homeN (kx.getD i 0)).toNat = false := fun i hi hu => by
  have := c3 i hi
  simp only [c14Bad, hu, if_true, Bool.or_eq_false_iff, decide_eq_false_iff_not, not_or, ne_eq, Decidable.not_not] at this
  exact ⟨by omega, by omega, this.1.2.2, this.2⟩
 unfold pcV
 rw [if_pos ⟨c1, c2⟩, if_pos]
 rw [findI_lt]
 intro i _ hi
 have hi : i < 16 := by omega
 unfold pcBad
 split
 next hu =>
  obtain ⟨p0, p1, p2, p3⟩ := hus i hi hu
  have hk := ho.2 i (by omega)
  have hh := homeN_lt hk
  obtain ⟨s, s1, s2, s3, s4⟩ := lkI_spec (xs := kx) hk hfree
  have hgap := gapW_spec (ux := ux) (i := i) 16 (homeN (kx.getD i 0)).toNat ((i + 16 - (homeN (kx.getD i 0)).toNat) % 16) (by omega) (by omega) (by omega) (fun t ht => by omega) p3
  have hle : s ≤ (i + 16 - (homeN (kx.getD i 0)).toNat) % 16 := by
   rcases Nat.lt_or_ge ((i + 16 - (homeN (kx.getD i 0)).toNat) % 16) s with c | c
   ·have := (s3 _ c).2
    rw [show ((homeN (kx.getD i 0)).toNat + (i + 16 - (homeN (kx.getD i 0)).toNat) % 16) % 16 = i by omega] at this
    exact absurd rfl this
   ·exact c
  have hlk : lkI kx ux (kx.getD i 0) = i := by
   rcases Nat.lt_or_eq_of_le hle with c | c
   ·have hu2 := hgap s c
    rw [← s2] at hu2
    have hl := lkI_lt (kx := kx) ux hk
    have hkey : kx.getD (lkI kx ux (kx.getD i 0)) 0 = kx.getD i 0 := Decidable.not_not.1 fun n => s4 ⟨hu2, n⟩
    have := (hus _ hl hu2).2.2.1
    rw [hkey, p2] at this; omega
   ·rw [s2, c]; omega
  rw [hlk]
  simp only [decide_eq_false_iff_not, not_or, ne_eq, Decidable.not_not]
  exact ⟨by omega, by omega, trivial⟩
 next hu =>
  have := c3 i hi
  simp only [c14Bad, if_neg hu] at this
  exact this
theorem rcV_is {T : Tb} (h : rcV T = 0) : T.sz ∧ c13V T.nx T.us T.fr = 0 ∧ c14V T.kx T.px T.ux = 0 ∧ c15V T.ps T.no T.h T.t = 0 ∧ ctN T.kx.length T.ux = (chL T.no T.h).length ∧
  ∀ i : Nat, (i : Int) < T.n → t18Bad T (chL T.no T.h) i = false := by
 unfold rcV at h; split at h
 next c =>
  split at h
  next d => exact ⟨c.1, c.2.1, c.2.2.1, c.2.2.2.1, c.2.2.2.2, fun i hi => (findI_lt _ 0).1 d i (by omega) (by have := c.1.1; omega)⟩
  next => cases h
 next => cases h
theorem cnt_pos {q : Nat → Bool} : ∀ {n : Nat}, 0 < cnt q n → ∃ j, j < n ∧ q j = true
 | 0, h => by simp [cnt] at h
 | n + 1, h => by
  cases e : q n with
  | true => exact ⟨n, by omega, e⟩
  | false =>
   simp only [cnt, e, cond_false, Nat.add_zero] at h
   obtain ⟨j, a, b⟩ := cnt_pos h
   exact ⟨j, by omega, b⟩
/-- A used place of a right table has its cell. -/
theorem rc_cell {T : Tb} (ho : okT T) (h : rcV T = 0) {i : Nat} (hi : (i : Int) < T.n) (hu : T.us.getD i false = true) :
  fdE T.kx T.px T.ux (T.ks.getD i 0) = 0 ∧ fdI T.kx T.px T.ux (T.ks.getD i 0) = i := by
 obtain ⟨⟨s1, s2, s3, s4, s5, s6⟩, a1, a2, a3, a4, a5⟩ := rcV_is h
 have hp := pcV_of ho.1 a2
 obtain ⟨b1, b2, b3⟩ := pcV_is hp
 have hb := a5 i hi
 simp only [t18Bad, Bool.or_eq_false_iff, hu, Bool.not_eq_false'] at hb
 obtain ⟨_, c1, c2, _⟩ := hb
 have c1 : ceN T.kx.length T.px T.ux i = 1 := by
  have : decide (ceN T.kx.length T.px T.ux i = 1) = true := by
   cases e : decide (ceN T.kx.length T.px T.ux i = 1) with
   | true => rfl
   | false => rw [e] at c1; cases c1
  exact of_decide_eq_true this
 obtain ⟨j, hj, hq⟩ := cnt_pos (q := ceQ T.px T.ux i) (n := T.kx.length) (by unfold ceN at c1; omega)
 simp only [ceQ, Bool.and_eq_true, beq_iff_eq] at hq
 have hks : T.kx.getD j 0 = T.ks.getD i 0 := by
  have := alls_iff.1 c2 j hj
  have hq' : ceQ T.px T.ux i j = true := by simp only [ceQ, Bool.and_eq_true, beq_iff_eq]; exact hq
  rw [hq'] at this
  simpa using this
 have hpc := b3 j (by omega)
 simp only [pcBad, hq.1, if_true, decide_eq_false_iff_not, not_or, ne_eq, Decidable.not_not] at hpc
 rw [← hks]
 unfold fdE fdI
 rw [if_pos hp, if_pos hp, hpc.2.2, if_pos hq.1, if_pos hq.1]
 exact ⟨rfl, hq.2⟩
theorem toNat_nodup {l : List Int} (h : l.Nodup) (h0 : ∀ x ∈ l, 0 ≤ x) : (l.map Int.toNat).Nodup := map_nodup h fun x hx y hy e => by
 have := h0 x hx; have := h0 y hy; omega
theorem tcV_of {T : Tb} (ho : okT T) (h : rcV T = 0) : tcV T = 0 := by
 obtain ⟨hs, a1, a2, a3, a4, a5⟩ := rcV_is h
 have hs' := hs
 obtain ⟨s1, s2, s3, s4, s5, s6⟩ := hs'
 have hak := akV_of a1
 have hpc := pcV_of ho.1 a2
 have hlc := lcV_of a3
 have hun := akV_len hak
 obtain ⟨_, _, c3, c4, _⟩ := c15V_is a3
 have hl := chB_okL c4
 have hll : llL T.ps T.no T.h T.t = chL T.no T.h := by unfold llL; rw [if_pos hlc]
 unfold tcV
 rw [if_pos ⟨hs, hak, hpc, hlc⟩, hll, if_pos]
 refine ⟨?_, ?_⟩
 ·rw [findI_lt]
  intro i _ hi
  have hi' : (i : Int) < T.n := by omega
  have hb := a5 i hi'
  simp only [t18Bad, Bool.or_eq_false_iff] at hb
  obtain ⟨d1, d2, d3, d4⟩ := hb
  simp only [t17Bad, d1, Bool.false_or]
  split
  next hu =>
   rw [if_pos hu, decide_eq_false_iff_not] at d4
   obtain ⟨e1, e2⟩ := rc_cell ho h hi' hu
   rw [decide_eq_false_iff_not, e1, e2]
   rintro (q | q | q)
   ·exact q rfl
   ·exact q rfl
   ·exact d4 q
  next hu => rw [if_neg hu] at d4; exact d4
 ·rw [a4, ctN_filter]
  have hin : ∀ i, i < T.us.length → T.us.getD i false = inB (chL T.no T.h) i := fun i hi => by
   have hb := a5 i (by omega)
   simp only [t18Bad, Bool.or_eq_false_iff, Bool.not_eq_false', beq_iff_eq] at hb
   exact hb.1
  apply Nat.le_antisymm
  ·have := nodup_le (L := (List.range T.us.length).filter fun i => T.us.getD i false) (M := (chL T.no T.h).map Int.toNat) (List.nodup_range.sublist List.filter_sublist) (fun x hx => by
    rw [List.mem_filter, List.mem_range] at hx
    have hq := hx.2
    rw [hin x hx.1] at hq
    exact List.mem_map.2 ⟨(x : Int), of_decide_eq_true hq, by omega⟩)
   rwa [List.length_map] at this
  ·have := nodup_le (L := (chL T.no T.h).map Int.toNat) (M := (List.range T.us.length).filter fun i => T.us.getD i false) (toNat_nodup hl.1 fun x hx => (hl.2 x hx).1) (fun x hx => by
    obtain ⟨y, hy, rfl⟩ := List.mem_map.1 hx
    have hb := hl.2 y hy
    have hlt : y.toNat < T.us.length := by omega
    rw [List.mem_filter, List.mem_range]
    refine ⟨hlt, ?_⟩
    rw [hin _ hlt, show ((y.toNat : Nat) : Int) = y by omega]
    exact decide_eq_true hy)
   rwa [List.length_map] at this
end TableS
end

section
namespace TableS
open Go Go.Dam Go.Proofs
set_option maxRecDepth 1000000
/-- How far a cell is behind another one. -/
def ds (a b : Nat) : Nat := (b + 16 - a) % 16
def hmN (k : Int) : Nat := (homeN k).toNat
theorem hmN_lt {k : Int} (h : inU k) : hmN k < 16 := by
 have := homeN_lt h; unfold hmN; omega
/-- A cell has a key and a place. -/
def Ce (kx px : List Int) (ux : List Bool) (m q : Int) : Prop := ∃ i, i < 16 ∧ ux.getD i false = true ∧ kx.getD i 0 = m ∧ px.getD i 0 = q
/-- From a key's home to its cell all are used. -/
def Pa (kx : List Int) (ux : List Bool) (i : Nat) : Prop := ∀ t, t < ds (hmN (kx.getD i 0)) i → ux.getD ((hmN (kx.getD i 0) + t) % 16) false = true
/-- An index that is right. -/
def Ix (kx px : List Int) (ux : List Bool) : Prop :=
 (kx.length = 16 ∧ px.length = 16 ∧ ux.length = 16) ∧ ctN 16 ux ≤ 12 ∧ (∀ i, i < 16 → inU (kx.getD i 0)) ∧
 (∀ i, i < 16 → ux.getD i false = false → kx.getD i 0 = 0 ∧ px.getD i 0 = 0) ∧
 (∀ i, i < 16 → ux.getD i false = true → 0 ≤ px.getD i 0 ∧ px.getD i 0 < 16) ∧
 (∀ i j, i < 16 → j < 16 → ux.getD i false = true → ux.getD j false = true → kx.getD i 0 = kx.getD j 0 → i = j) ∧
 (∀ i, i < 16 → ux.getD i false = true → Pa kx ux i)
theorem ix_free {kx px : List Int} {ux : List Bool} (x : Ix kx px ux) : ∃ j, j < 16 ∧ ux.getD j false = false := ctN_free (by have := x.2.1; omega)
theorem ix_okI {kx px : List Int} {ux : List Bool} (x : Ix kx px ux) : okI kx := ⟨by have := x.1.1; omega, fun i hi => x.2.2.1 i (by have := x.1.1; omega)⟩
/-- Looking for a key. -/
theorem ix_look {kx px : List Int} {ux : List Bool} (x : Ix kx px ux) {k : Int} (hk : inU k) :
  lkI kx ux k < 16 ∧ (∀ t, t < ds (hmN k) (lkI kx ux k) → ux.getD ((hmN k + t) % 16) false = true) ∧
  ((ux.getD (lkI kx ux k) false = true ∧ kx.getD (lkI kx ux k) 0 = k) ∨ (ux.getD (lkI kx ux k) false = false ∧ ∀ i, i < 16 → ux.getD i false = true → kx.getD i 0 ≠ k)) := by
 obtain ⟨s, h1, h2, h3, h4⟩ := lkI_spec (xs := kx) hk (ix_free x)
 have hh := hmN_lt hk
 have hs : ds (hmN k) (lkI kx ux k) = s := by
  unfold ds; rw [h2]; unfold hmN at hh ⊢; omega
 refine ⟨by rw [h2]; omega, fun t ht => (h3 t (by omega)).1, ?_⟩
 by_cases u : ux.getD (lkI kx ux k) false = true
 ·exact .inl ⟨u, Classical.byContradiction fun n => h4 ⟨u, n⟩⟩
 ·rw [Bool.not_eq_true] at u
  refine .inr ⟨u, fun i hi ui e => ?_⟩
  have p := x.2.2.2.2.2.2 i hi ui
  unfold Pa at p; rw [e] at p
  by_cases c : s < ds (hmN k) i
  ·have := p s c
   unfold hmN at this; rw [← h2, u] at this; cases this
  ·by_cases c2 : ds (hmN k) i = s
   ·have : lkI kx ux k = i := by
     rw [h2]; unfold ds at c2; unfold hmN at c2 hh; omega
    rw [this, ui] at u; cases u
   ·have := (h3 (ds (hmN k) i) (by omega)).2
    rw [show ((homeN k).toNat + ds (hmN k) i) % 16 = i by unfold ds hmN; unfold hmN at hh; omega] at this
    exact this e
theorem ix_at {kx px : List Int} {ux : List Bool} (x : Ix kx px ux) {i : Nat} (hi : i < 16) (hu : ux.getD i false = true) : lkI kx ux (kx.getD i 0) = i := by
 obtain ⟨h1, _, ⟨h2, h3⟩ | ⟨_, h3⟩⟩ := ix_look x (x.2.2.1 i hi)
 ·exact x.2.2.2.2.2.1 _ _ h1 hi h2 hu h3
 ·exact absurd rfl (h3 i hi hu)
/-- What is right by the code is right. -/
theorem pcV_ix {kx px : List Int} {ux : List Bool} (ho : okI kx) (hc : ccS kx px ux) (h : pcV kx px ux = 0) : Ix kx px ux := by
 obtain ⟨c1, c2, c3⟩ := pcV_is h
 have hfree := ctN_free (ux := ux) (n := 16) (by omega)
 have hin : ∀ i, i < 16 → inU (kx.getD i 0) := fun i hi => ho.2 i (by omega)
 have hat : ∀ i, i < 16 → ux.getD i false = true → lkI kx ux (kx.getD i 0) = i := fun i hi u => by
  have := c3 i hi
  unfold pcBad at this; rw [if_pos u, decide_eq_false_iff_not] at this
  exact Classical.byContradiction fun n => this (.inr (.inr n))
 refine ⟨⟨c1, by have := hc.2.1; omega, by have := hc.2.2; omega⟩, c2, hin, fun i hi u => ?_, fun i hi u => ?_, fun i j hi hj ui uj e => ?_, fun i hi u => ?_⟩
 ·have := c3 i hi
  unfold pcBad at this; rw [if_neg (by rw [u]; simp), decide_eq_false_iff_not] at this
  exact ⟨Classical.byContradiction fun n => this (.inl n), Classical.byContradiction fun n => this (.inr n)⟩
 ·have := c3 i hi
  unfold pcBad at this; rw [if_pos u, decide_eq_false_iff_not] at this
  omega
 ·rw [← hat i hi ui, e, hat j hj uj]
 ·obtain ⟨s, h1, h2, h3, _⟩ := lkI_spec (xs := kx) (hin i hi) hfree
  rw [hat i hi u] at h2
  have hh := hmN_lt (hin i hi)
  intro t ht
  refine (h3 t ?_).1
  unfold ds at ht; unfold hmN at ht hh; omega
theorem gapW_no {ux : List Bool} {i : Nat} : ∀ (D k d : Nat), k < 16 → d < 16 → (k + d) % 16 = i → (∀ t, t < d → ux.getD ((k + t) % 16) false = true) → gapW ux i D k = false
 | 0, _, _, _, _, _, _ => rfl
 | D + 1, k, d, hk, hd, he, h => by
  simp only [gapW]
  split
  ·rfl
  next c =>
   have d0 : d ≠ 0 := fun q => c (by subst q; rw [← he]; omega)
   have := h 0 (by omega)
   rw [Nat.add_zero, Nat.mod_eq_of_lt hk] at this
   rw [if_neg (by rw [this]; simp)]
   exact gapW_no D ((k + 1) % 16) (d - 1) (by omega) (by omega) (by omega) fun t ht => by
    have := h (t + 1) (by omega)
    rwa [show ((k + 1) % 16 + t) % 16 = (k + (t + 1)) % 16 by omega]
/-- And by the reference. -/
theorem ix_c14 {kx px : List Int} {ux : List Bool} (x : Ix kx px ux) : c14V kx px ux = 0 := by
 obtain ⟨⟨c1, c2, c3⟩, c4, c5, c6, c7, c8, c9⟩ := x
 unfold c14V
 rw [if_pos ⟨c1, c4⟩, if_pos]
 rw [findI_lt]
 intro i _ hi
 have hi : i < 16 := by omega
 unfold c14Bad
 by_cases u : ux.getD i false = true
 ·rw [if_pos u]
  have hh := hmN_lt (c5 i hi)
  have g : gapW ux i 16 (homeN (kx.getD i 0)).toNat = false := gapW_no 16 _ (ds (hmN (kx.getD i 0)) i) hh (by unfold ds; omega) (by unfold ds; unfold hmN at hh ⊢; omega) (c9 i hi u)
  have a : atN kx ux (kx.getD i 0) = i := by
   unfold atN
   rw [c1]
   refine findI_some 16 0 i (by omega) (by omega) (by show (ux.getD i false && kx.getD i 0 == kx.getD i 0) = true; rw [u]; simp) fun j _ hj => ?_
   cases uj : ux.getD j false with
   | false => rfl
   | true =>
    rw [Bool.true_and]
    have : ¬ kx.getD j 0 = kx.getD i 0 := fun e => by have := c8 j i (by omega) hi uj u e; omega
    simpa using this
  rw [g, a, Bool.or_false, decide_eq_false_iff_not]
  have := c7 i hi u
  omega
 ·rw [if_neg u]
  obtain ⟨a, b⟩ := c6 i hi (by simpa using u)
  rw [a, b]; rfl
theorem ix_pc {kx px : List Int} {ux : List Bool} (x : Ix kx px ux) : pcV kx px ux = 0 := pcV_of (ix_okI x) (ix_c14 x)
theorem ix_cc {kx px : List Int} {ux : List Bool} (x : Ix kx px ux) : ccS kx px ux := by
 obtain ⟨⟨a, b, c⟩, _⟩ := x
 exact ⟨by omega, by omega, by omega⟩
theorem pc_c14 {kx px : List Int} {ux : List Bool} (ho : okI kx) (hc : ccS kx px ux) : pcV kx px ux = 0 ↔ c14V kx px ux = 0 := ⟨fun h => ix_c14 (pcV_ix ho hc h), pcV_of ho⟩
/-- What Find finds. -/
theorem ix_found {kx px : List Int} {ux : List Bool} (x : Ix kx px ux) {k q : Int} (hk : inU k) (h : Ce kx px ux k q) : fdE kx px ux k = 0 ∧ fdI kx px ux k = q := by
 obtain ⟨i, hi, hu, e1, e2⟩ := h
 have := ix_at x hi hu
 rw [e1] at this
 unfold fdE fdI
 rw [if_pos (ix_pc x), if_pos (ix_pc x), this, if_pos hu, if_pos hu]
 exact ⟨rfl, e2⟩
theorem ix_none {kx px : List Int} {ux : List Bool} (x : Ix kx px ux) {k : Int} (hk : inU k) (h : ∀ q, ¬ Ce kx px ux k q) : fdE kx px ux k = 6 ∧ fdI kx px ux k = 0 ∧ ux.getD (lkI kx ux k) false = false := by
 obtain ⟨h1, _, ⟨h2, h3⟩ | ⟨h2, h3⟩⟩ := ix_look x hk
 ·exact absurd ⟨_, h1, h2, h3, rfl⟩ (h (px.getD (lkI kx ux k) 0))
 ·unfold fdE fdI
  rw [if_pos (ix_pc x), if_pos (ix_pc x), h2]
  exact ⟨rfl, rfl, rfl⟩
theorem ix_one {kx px : List Int} {ux : List Bool} (x : Ix kx px ux) {k p q : Int} (h : Ce kx px ux k p) (g : Ce kx px ux k q) : p = q := by
 obtain ⟨i, hi, ui, e1, e2⟩ := h
 obtain ⟨j, hj, uj, f1, f2⟩ := g
 have := x.2.2.2.2.2.1 i j hi hj ui uj (by rw [e1, f1])
 subst this; rw [← e2, ← f2]
theorem ctN_set : ∀ {n : Nat} {us : List Bool} {i : Nat}, us.length = n → i < n → us.getD i false = false → ctN n (us.set i true) = ctN n us + 1 := by
 intro n us i hl hi hu
 unfold ctN
 have key : ∀ m, m ≤ n → cnt (fun j => (us.set i true).getD j false) m = cnt (fun j => us.getD j false) m + if i < m then 1 else 0 := by
  intro m
  induction m with
  | zero => intro _; simp [cnt]
  | succ m ih =>
   intro hm
   simp only [cnt]
   rw [ih (by omega)]
   by_cases e : i = m
   ·subst e
    rw [getB_set_self (by omega), hu, if_neg (by omega), if_pos (by omega)]; rfl
   ·rw [getB_set_ne e]
    by_cases c : i < m
    ·rw [if_pos c, if_pos (by omega)]; omega
    ·rw [if_neg c, if_neg (by omega), Nat.add_zero, Nat.add_zero]
 rw [key n (Nat.le_refl _), if_pos hi]
theorem dpC_all : ∀ h : Nat, h < 16 → ∀ i : Nat, i < 16 → ∀ j : Nat, j < 16 → cmpI .geq (opI .and .i64 (opI .sub .i64 (opI .sub .i64 (h : Int) i) 1) 15) (opI .and .i64 (opI .sub .i64 (j : Int) i) 15) = decide (ds i j ≤ (h + 15 - i) % 16) := by decide +kernel
theorem dpC_is {kx : List Int} {i j : Nat} (hi : i < 16) (hj : j < 16) (hk : inU (kx.getD j 0)) : dpC kx i j = decide (ds i j ≤ (hmN (kx.getD j 0) + 15 - i) % 16) := by
 have hb := homeN_lt hk
 have := dpC_all (hmN (kx.getD j 0)) (hmN_lt hk) i hi j hj
 unfold dpC
 rw [show homeN (kx.getD j 0) = ((hmN (kx.getD j 0) : Nat) : Int) by unfold hmN; omega]
 exact this
/-- While the cells behind a dropped one move up: the cell i is to be empty. -/
structure Mv (C : Int → Int → Prop) (R : Dp) (d : Nat) : Prop where
 bi : R.i < 16
 bj : R.j < 16
 lk : R.kx.length = 16
 lp : R.px.length = 16
 lu : R.ux.length = 16
 hu : R.ux.getD R.i false = true
 hf : R.ux.getD ((R.j + d) % 16) false = false
 hd : 1 ≤ ds R.i R.j ∧ ds R.i R.j + d ≤ 15
 kin : ∀ m, m < 16 → inU (R.kx.getD m 0)
 zer : ∀ m, m < 16 → R.ux.getD m false = false → R.kx.getD m 0 = 0 ∧ R.px.getD m 0 = 0
 pin : ∀ m, m < 16 → R.ux.getD m false = true → 0 ≤ R.px.getD m 0 ∧ R.px.getD m 0 < 16
 one : ∀ a b, a < 16 → b < 16 → a ≠ R.i → b ≠ R.i → R.ux.getD a false = true → R.ux.getD b false = true → R.kx.getD a 0 = R.kx.getD b 0 → a = b
 pa : ∀ m, m < 16 → m ≠ R.i → R.ux.getD m false = true → Pa R.kx R.ux m ∧ (ds (hmN (R.kx.getD m 0)) R.i < ds (hmN (R.kx.getD m 0)) m → ds R.i R.j ≤ ds R.i m)
 ce : ∀ m q, (∃ a, a < 16 ∧ a ≠ R.i ∧ R.ux.getD a false = true ∧ R.kx.getD a 0 = m ∧ R.px.getD a 0 = q) ↔ C m q
theorem mv_run {C : Int → Int → Prop} : ∀ (D d : Nat) (R : Dp), d < D → Mv C R d → ∃ d', Mv C (dpW D R) d' ∧ (dpW D R).ux.getD (dpW D R).j false = false ∧ ctN 16 (dpW D R).ux = ctN 16 R.ux
 | 0, d, R, h, _ => by omega
 | D + 1, d, R, hd, V => by
  obtain ⟨bi, bj, lk, lp, lu, hu, hf, hds, kin, zer, pin, one, pa, ce⟩ := V
  by_cases c : R.ux.getD R.j false = true
  ·have hd0 : d ≠ 0 := fun e => by
    subst e
    rw [Nat.add_zero, Nat.mod_eq_of_lt bj, c] at hf; cases hf
   have hij : R.i ≠ R.j := fun e => by
    have := hds.1; unfold ds at this; omega
   have hq := dpC_is (kx := R.kx) bi bj (kin R.j bj)
   have hh := hmN_lt (kin R.j bj)
   have huu : R.ux.set R.i (R.ux.getD R.j false) = R.ux := by
    rw [c]
    apply List.ext_getElem (by simp)
    intro n h1 h2
    by_cases e : R.i = n
    ·subst e
     rw [List.getElem_set_self]
     rw [List.getD_eq_getElem?_getD, List.getElem?_eq_getElem h2] at hu
     exact hu.symm
    ·rw [List.getElem_set_ne e]
   by_cases c2 : dpC R.kx R.i R.j = true
   ·have e : dpW (D + 1) R = dpW D ⟨R.j, (R.j + 1) % 16, R.kx.set R.i (R.kx.getD R.j 0), R.px.set R.i (R.px.getD R.j 0), R.ux⟩ := by simp only [dpW, if_pos c, if_pos c2, huu]
    rw [hq, decide_eq_true_eq] at c2
    rw [e]
    have k1 : (R.kx.set R.i (R.kx.getD R.j 0)).getD R.i 0 = R.kx.getD R.j 0 := getD_set_self (by omega)
    have k2 : (R.px.set R.i (R.px.getD R.j 0)).getD R.i 0 = R.px.getD R.j 0 := getD_set_self (by omega)
    have k4 : ∀ m, R.i ≠ m → (R.kx.set R.i (R.kx.getD R.j 0)).getD m 0 = R.kx.getD m 0 := fun m e => getD_set_ne e
    have k5 : ∀ m, R.i ≠ m → (R.px.set R.i (R.px.getD R.j 0)).getD m 0 = R.px.getD m 0 := fun m e => getD_set_ne e
    refine mv_run D (d - 1) _ (by omega) ⟨bj, by show (R.j + 1) % 16 < 16; omega, by show (List.set _ _ _).length = 16; rw [List.length_set]; exact lk, by show (List.set _ _ _).length = 16; rw [List.length_set]; exact lp, lu, c, ?_, ?_, ?_, ?_, ?_, ?_, ?_, ?_⟩
    ·show R.ux.getD (((R.j + 1) % 16 + (d - 1)) % 16) false = false
     rw [show ((R.j + 1) % 16 + (d - 1)) % 16 = (R.j + d) % 16 by omega]; exact hf
    ·show 1 ≤ ds R.j ((R.j + 1) % 16) ∧ ds R.j ((R.j + 1) % 16) + (d - 1) ≤ 15
     unfold ds at hds ⊢; omega
    ·intro m hm
     show inU ((R.kx.set R.i (R.kx.getD R.j 0)).getD m 0)
     by_cases e : R.i = m
     ·subst e; rw [k1]; exact kin _ bj
     ·rw [k4 m e]; exact kin m hm
    ·intro m hm u
     show (R.kx.set R.i (R.kx.getD R.j 0)).getD m 0 = 0 ∧ (R.px.set R.i (R.px.getD R.j 0)).getD m 0 = 0
     have e : R.i ≠ m := fun q => by subst q; rw [hu] at u; cases u
     rw [k4 m e, k5 m e]; exact zer m hm u
    ·intro m hm u
     show 0 ≤ (R.px.set R.i (R.px.getD R.j 0)).getD m 0 ∧ (R.px.set R.i (R.px.getD R.j 0)).getD m 0 < 16
     by_cases e : R.i = m
     ·subst e; rw [k2]; exact pin _ bj c
     ·rw [k5 m e]; exact pin m hm u
    ·intro a b ha hb na nb ua ub e
     change a ≠ R.j at na; change b ≠ R.j at nb
     change (R.kx.set R.i (R.kx.getD R.j 0)).getD a 0 = (R.kx.set R.i (R.kx.getD R.j 0)).getD b 0 at e
     by_cases ea : R.i = a
     ·subst ea
      by_cases eb : R.i = b
      ·exact eb
      ·rw [k1, k4 b eb] at e
       exact absurd (one R.j b bj hb (Ne.symm hij) (Ne.symm eb) c ub e).symm nb
     ·by_cases eb : R.i = b
      ·subst eb
       rw [k4 a ea, k1] at e
       exact absurd (one a R.j ha bj (Ne.symm ea) (Ne.symm hij) ua c e) na
      ·rw [k4 a ea, k4 b eb] at e
       exact one a b ha hb (Ne.symm ea) (Ne.symm eb) ua ub e
    ·intro m hm nm um
     change m ≠ R.j at nm
     show Pa (R.kx.set R.i (R.kx.getD R.j 0)) R.ux m ∧ (ds (hmN ((R.kx.set R.i (R.kx.getD R.j 0)).getD m 0)) R.j < ds (hmN ((R.kx.set R.i (R.kx.getD R.j 0)).getD m 0)) m → ds R.j ((R.j + 1) % 16) ≤ ds R.j m)
     have h1 : ds R.j ((R.j + 1) % 16) ≤ ds R.j m := by unfold ds; omega
     refine ⟨?_, fun _ => h1⟩
     by_cases e : R.i = m
     ·subst e
      unfold Pa; rw [k1]
      intro t ht
      refine (pa R.j bj (Ne.symm hij) c).1 t ?_
      unfold ds at ht c2 ⊢; omega
     ·unfold Pa; rw [k4 m e]
      exact (pa m hm (Ne.symm e) um).1
    ·intro m q
     rw [← ce]
     constructor
     ·rintro ⟨a, ha, na, ua, e1, e2⟩
      change a ≠ R.j at na
      change (R.kx.set R.i (R.kx.getD R.j 0)).getD a 0 = m at e1
      change (R.px.set R.i (R.px.getD R.j 0)).getD a 0 = q at e2
      by_cases ea : R.i = a
      ·subst ea
       rw [k1] at e1; rw [k2] at e2
       exact ⟨R.j, bj, Ne.symm hij, c, e1, e2⟩
      ·rw [k4 a ea] at e1; rw [k5 a ea] at e2
       exact ⟨a, ha, Ne.symm ea, ua, e1, e2⟩
     ·rintro ⟨a, ha, na, ua, e1, e2⟩
      by_cases ea : a = R.j
      ·subst ea
       exact ⟨R.i, bi, hij, hu, by show (R.kx.set R.i _).getD R.i 0 = m; rw [k1]; exact e1, by show (R.px.set R.i _).getD R.i 0 = q; rw [k2]; exact e2⟩
      ·exact ⟨a, ha, ea, ua, by show (R.kx.set R.i _).getD a 0 = m; rw [k4 a (Ne.symm na)]; exact e1, by show (R.px.set R.i _).getD a 0 = q; rw [k5 a (Ne.symm na)]; exact e2⟩
   ·have e : dpW (D + 1) R = dpW D { R with j := (R.j + 1) % 16 } := by simp only [dpW, if_pos c, if_neg c2]
    rw [hq, decide_eq_true_eq] at c2
    rw [e]
    refine mv_run D (d - 1) _ (by omega) ⟨bi, by show (R.j + 1) % 16 < 16; omega, lk, lp, lu, hu, ?_, ?_, kin, zer, pin, one, ?_, ce⟩
    ·show R.ux.getD (((R.j + 1) % 16 + (d - 1)) % 16) false = false
     rw [show ((R.j + 1) % 16 + (d - 1)) % 16 = (R.j + d) % 16 by omega]; exact hf
    ·show 1 ≤ ds R.i ((R.j + 1) % 16) ∧ ds R.i ((R.j + 1) % 16) + (d - 1) ≤ 15
     unfold ds at hds ⊢; omega
    ·intro m hm nm um
     show Pa R.kx R.ux m ∧ (ds (hmN (R.kx.getD m 0)) R.i < ds (hmN (R.kx.getD m 0)) m → ds R.i ((R.j + 1) % 16) ≤ ds R.i m)
     refine ⟨(pa m hm nm um).1, fun g => ?_⟩
     have g2 := (pa m hm nm um).2 g
     by_cases e : m = R.j
     ·subst e
      unfold ds at g c2; omega
     ·unfold ds at g2 hds ⊢; omega
  ·have e : dpW (D + 1) R = R := by simp only [dpW, if_neg c]
   rw [e]
   exact ⟨d, ⟨bi, bj, lk, lp, lu, hu, hf, hds, kin, zer, pin, one, pa, ce⟩, by simpa using c, rfl⟩
/-- A key taken out. -/
theorem ix_drop {kx px : List Int} {ux : List Bool} (x : Ix kx px ux) {k p : Int} (hk : inU k) (h : Ce kx px ux k p) :
  Ix ((dpR kx px ux k).kx.set (dpR kx px ux k).i 0) ((dpR kx px ux k).px.set (dpR kx px ux k).i 0) ((dpR kx px ux k).ux.set (dpR kx px ux k).i false) ∧
  ctN 16 ((dpR kx px ux k).ux.set (dpR kx px ux k).i false) + 1 = ctN 16 ux ∧
  ∀ m q, Ce ((dpR kx px ux k).kx.set (dpR kx px ux k).i 0) ((dpR kx px ux k).px.set (dpR kx px ux k).i 0) ((dpR kx px ux k).ux.set (dpR kx px ux k).i false) m q ↔ Ce kx px ux m q ∧ m ≠ k := by
 obtain ⟨l, hl, ul, el, _⟩ := h
 have hlk : lkI kx ux k = l := by have := ix_at x hl ul; rwa [el] at this
 obtain ⟨f, hf, uf⟩ := ix_free x
 have hne : l ≠ f := fun e => by subst e; rw [ul] at uf; cases uf
 obtain ⟨⟨c1, c2, c3⟩, c4, c5, c6, c7, c8, c9⟩ := x
 have V : Mv (fun m q => Ce kx px ux m q ∧ m ≠ k) ⟨l, (l + 1) % 16, kx, px, ux⟩ ((f + 16 - (l + 1) % 16) % 16) := by
  refine ⟨hl, by show (l + 1) % 16 < 16; omega, c1, c2, c3, ul, ?_, ?_, c5, c6, c7, fun a b ha hb _ _ ua ub e => c8 a b ha hb ua ub e, fun m hm nm um => ⟨c9 m hm um, fun _ => ?_⟩, fun m q => ⟨?_, ?_⟩⟩
  ·show ux.getD (((l + 1) % 16 + (f + 16 - (l + 1) % 16) % 16) % 16) false = false
   rw [show ((l + 1) % 16 + (f + 16 - (l + 1) % 16) % 16) % 16 = f by omega]; exact uf
  ·show 1 ≤ ds l ((l + 1) % 16) ∧ ds l ((l + 1) % 16) + (f + 16 - (l + 1) % 16) % 16 ≤ 15
   unfold ds; omega
  ·show ds l ((l + 1) % 16) ≤ ds l m
   change m ≠ l at nm
   unfold ds; omega
  ·rintro ⟨a, ha, na, ua, e1, e2⟩
   refine ⟨⟨a, ha, ua, e1, e2⟩, fun q => na (c8 a l ha hl ua ul ?_)⟩
   rw [el, ← q]; exact e1
  ·rintro ⟨⟨a, ha, ua, e1, e2⟩, n⟩
   exact ⟨a, ha, fun q => n (by change a = l at q; subst q; rw [← e1]; exact el), ua, e1, e2⟩
 obtain ⟨d', W, wf, wc⟩ := mv_run 16 _ _ (by omega) V
 have e : dpR kx px ux k = dpW 16 ⟨l, (l + 1) % 16, kx, px, ux⟩ := by unfold dpR; rw [hlk]
 rw [e]
 generalize dpW 16 ⟨l, (l + 1) % 16, kx, px, ux⟩ = R at *
 obtain ⟨bi, bj, lk, lp, lu, hu, _, hds, kin, zer, pin, one, pa, ce⟩ := W
 have k1 : (R.kx.set R.i 0).getD R.i 0 = 0 := getD_set_self (by omega)
 have k2 : (R.px.set R.i 0).getD R.i 0 = 0 := getD_set_self (by omega)
 have k3 : (R.ux.set R.i false).getD R.i false = false := getB_set_self (by omega)
 have k4 : ∀ m, R.i ≠ m → (R.kx.set R.i 0).getD m 0 = R.kx.getD m 0 := fun m e => getD_set_ne e
 have k5 : ∀ m, R.i ≠ m → (R.px.set R.i 0).getD m 0 = R.px.getD m 0 := fun m e => getD_set_ne e
 have k6 : ∀ m, R.i ≠ m → (R.ux.set R.i false).getD m false = R.ux.getD m false := fun m e => getB_set_ne e
 have k7 : ∀ m, (R.ux.set R.i false).getD m false = true → R.i ≠ m ∧ R.ux.getD m false = true := fun m u => by
  by_cases q : R.i = m
  ·subst q; rw [k3] at u; cases u
  ·exact ⟨q, by rwa [k6 m q] at u⟩
 have hback : (R.ux.set R.i false).set R.i true = R.ux := by
  apply List.ext_getElem (by simp)
  intro n h1 h2
  by_cases q : R.i = n
  ·subst q
   rw [List.getElem_set_self]
   rw [List.getD_eq_getElem?_getD, List.getElem?_eq_getElem h2] at hu
   exact hu.symm
  ·rw [List.getElem_set_ne q, List.getElem_set_ne q]
 have hct : ctN 16 (R.ux.set R.i false) + 1 = ctN 16 ux := by
  rw [← ctN_set (us := R.ux.set R.i false) (i := R.i) (by rw [List.length_set]; exact lu) bi k3, hback]; exact wc
 refine ⟨⟨⟨by rw [List.length_set]; exact lk, by rw [List.length_set]; exact lp, by rw [List.length_set]; exact lu⟩, by omega, fun m hm => ?_, fun m hm u => ?_, fun m hm u => ?_, fun a b ha hb ua ub e => ?_, fun m hm u => ?_⟩, hct, fun m q => ?_⟩
 ·by_cases q : R.i = m
  ·subst q; rw [k1]; unfold inU; omega
  ·rw [k4 m q]; exact kin m hm
 ·by_cases q : R.i = m
  ·subst q; exact ⟨k1, k2⟩
  ·rw [k4 m q, k5 m q]; exact zer m hm (by rwa [k6 m q] at u)
 ·obtain ⟨q, u⟩ := k7 m u
  rw [k5 m q]; exact pin m hm u
 ·obtain ⟨qa, ua⟩ := k7 a ua
  obtain ⟨qb, ub⟩ := k7 b ub
  rw [k4 a qa, k4 b qb] at e
  exact one a b ha hb (Ne.symm qa) (Ne.symm qb) ua ub e
 ·obtain ⟨q, u⟩ := k7 m u
  obtain ⟨p1, p2⟩ := pa m hm (Ne.symm q) u
  have hh := hmN_lt (kin m hm)
  have mj : m ≠ R.j := fun e => by subst e; rw [wf] at u; cases u
  unfold Pa at p1 ⊢
  rw [k4 m q]
  have no : ¬ ds (hmN (R.kx.getD m 0)) R.i < ds (hmN (R.kx.getD m 0)) m := fun g => by
   have g2 := p2 g
   have := p1 (ds (hmN (R.kx.getD m 0)) R.j) (by unfold ds at g g2 hds ⊢; omega)
   rw [show (hmN (R.kx.getD m 0) + ds (hmN (R.kx.getD m 0)) R.j) % 16 = R.j by unfold ds; omega, wf] at this
   cases this
  intro t ht
  have : R.i ≠ (hmN (R.kx.getD m 0) + t) % 16 := fun e => by
   apply no; unfold ds at ht ⊢; omega
  rw [k6 _ this]
  exact p1 t ht
 ·rw [← ce]
  constructor
  ·rintro ⟨a, ha, ua, e1, e2⟩
   obtain ⟨qa, ua⟩ := k7 a ua
   exact ⟨a, ha, Ne.symm qa, ua, by rw [← e1, k4 a qa], by rw [← e2, k5 a qa]⟩
  ·rintro ⟨a, ha, na, ua, e1, e2⟩
   exact ⟨a, ha, by rw [k6 a (Ne.symm na)]; exact ua, by rw [k4 a (Ne.symm na)]; exact e1, by rw [k5 a (Ne.symm na)]; exact e2⟩
end TableS
end
