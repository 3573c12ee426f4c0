/- The engine, part XO: an abstract machine for the program's functions, proved right against the model. No condition. -/
import Derived.Test.YtpbngkempchamaaDamXJ
set_option linter.unusedSectionVars false
set_option linter.unusedVariables false
set_option linter.unusedSimpArgs false
namespace Go.Dam
open Go Go.RowKit
set_option linter.unusedSectionVars false
variable [Glo]

/-! Long rows of numbers in a contract. -/
def D.num : D → Int
  | .v (.int _ n) => n
  | _ => 0
def D.isK (k : IntKind) : D → Bool
  | .v (.int k' _) => decide (k' = k)
  | _ => false
def nth : List D → Nat → Int
  | [], _ => 0
  | d :: _, 0 => d.num
  | _ :: l, i + 1 => nth l i
def hasKinds : List IntKind → List D → Bool
  | [], [] => true
  | k :: ks, d :: ds => d.isK k && hasKinds ks ds
  | _, _ => false
def mkL : List IntKind → (Nat → Int) → List D
  | [], _ => []
  | k :: ks, f => .v (.int k (f 0)) :: mkL ks (fun i => f (i + 1))
theorem of_hasKinds : ∀ {ks : List IntKind} {ds : List D}, hasKinds ks ds = true → ds = mkL ks (nth ds)
  | [], [], _ => rfl
  | [], _ :: _, h => by simp [hasKinds] at h
  | _ :: _, [], h => by simp [hasKinds] at h
  | k :: ks, d :: ds, h => by
    simp only [hasKinds, Bool.and_eq_true] at h
    obtain ⟨h1, h2⟩ := h
    have e := of_hasKinds h2
    cases d with
    | v x =>
      cases x with
      | int k' n =>
        have : k' = k := by simpa [D.isK] using h1
        subst this
        simp only [mkL, nth, D.num]
        rw [← e]
      | _ => simp [D.isK] at h1
    | _ => simp [D.isK] at h1
end Go.Dam

namespace Go.Dam
set_option linter.unusedSectionVars false
set_option linter.unusedSimpArgs false
open Go Go.RowKit Go.ChangeShapes Go.WideShapes

/-! Values of numbers and truth values alone, however they are nested. -/
inductive CK where
  | int (k : IntKind)
  | bool
  deriving DecidableEq
def CK.ok : CK → Value → Prop
  | .int k, v => ∃ n, v = .int k n ∧ (Lit.int k n).wf = true
  | .bool, v => ∃ b, v = .bool b
def flatF (g : TypeId → Option (List CK)) : Nat → List Field → Option (List CK)
  | _, [] => some []
  | off, f :: fs => match g f.type with
    | some ks => match flatF g (off + ks.length) fs with
      | some r => if f.offset = off then some (ks ++ r) else none
      | none => none
    | none => none
def flatT (P : Program) : Nat → TypeId → Option (List CK)
  | 0, _ => none
  | n + 1, t => match P.underlying t with
    | some .bool => if 1 = P.cellsOf t then some [.bool] else none
    | some (.int k) => if 1 = P.cellsOf t then some [.int k] else none
    | some (.struct fs) => match flatF (flatT P n) 0 fs.toList with
      | some ks => if ks.length = P.cellsOf t then some ks else none
      | none => none
    | some (.array len e) => match flatT P n e with
      | some ks => if len * ks.length = P.cellsOf t then some (List.replicate len ks).flatten else none
      | none => none
    | _ => none
def Fits : List CK → List Value → Prop
  | [], [] => True
  | k :: ks, v :: vs => k.ok v ∧ Fits ks vs
  | _, _ => False
theorem Fits.app : ∀ {ks : List CK} {cs : List Value} {ks' : List CK}, Fits ks (cs.take ks.length) → Fits ks' (cs.drop ks.length) → Fits (ks ++ ks') cs
  | [], cs, ks', _, h => by simpa using h
  | k :: ks, [], ks', h, _ => by simp [Fits] at h
  | k :: ks, c :: cs, ks', h, h' => by
    simp only [List.length_cons, List.take_succ_cons, Fits, List.drop_succ_cons, List.cons_append] at h h' ⊢
    exact ⟨h.1, Fits.app h.2 h'⟩
theorem Fits.length : ∀ {ks : List CK} {cs : List Value}, Fits ks cs → ks.length = cs.length
  | [], [], _ => rfl
  | [], _ :: _, h => by simp [Fits] at h
  | _ :: _, [], h => by simp [Fits] at h
  | _ :: _, _ :: _, h => by simp only [Fits] at h; simp [Fits.length h.2]
section
variable {H : Type} {enc : TypeId × Value → H} {P : Program} {w : World} {spare : Nat → Bool}
theorem flatT_length : ∀ {n : Nat} {t : TypeId} {ks : List CK}, flatT P n t = some ks → ks.length = P.cellsOf t
  | 0, _, _, h => by simp [flatT] at h
  | n + 1, t, ks, h => by
    unfold flatT at h
    split at h
    · split at h
      next e => simp at h; subst h; simpa using e
      · cases h
    · split at h
      next e => simp at h; subst h; simpa using e
      · cases h
    · split at h
      · split at h
        next e => simp at h; subst h; exact e
        · cases h
      · cases h
    · split at h
      · split at h
        next e => simp at h; subst h; simpa using e
        · cases h
      · cases h
    · cases h
theorem flatF_fits {g : TypeId → Option (List CK)} {cs : List Value} (hg : ∀ t ks, g t = some ks → ks.length = P.cellsOf t) : ∀ (fs : List Field) (off : Nat) (r : List CK), flatF g off fs = some r →
    (∀ f ∈ fs, ∀ ks, g f.type = some ks → Fits ks ((cs.drop f.offset).take (P.cellsOf f.type))) → cs.length = off + r.length → Fits r (cs.drop off)
  | [], off, r, h, _, hl => by
    simp [flatF] at h; subst h
    rw [List.drop_of_length_le (by simp at hl; omega)]; trivial
  | f :: fs, off, r, h, hf, hl => by
    simp only [flatF] at h
    split at h
    next ks hks =>
      split at h
      next r' hr' =>
        split at h
        next ho =>
          simp at h; subst h
          have h1 := hf f (by simp) ks hks
          rw [← hg _ _ hks, ho] at h1
          refine Fits.app h1 ?_
          rw [List.drop_drop]
          exact flatF_fits hg fs _ r' hr' (fun f' hm => hf f' (by simp [hm])) (by simp at hl; omega)
        · cases h
      · cases h
    · cases h
theorem rep_fits {cs : List Value} {ks : List CK} : ∀ (len i : Nat), cs.length = (i + len) * ks.length → (∀ j, i ≤ j → j < i + len → Fits ks ((cs.drop (j * ks.length)).take ks.length)) → Fits (List.replicate len ks).flatten (cs.drop (i * ks.length))
  | 0, i, hl, _ => by
    rw [List.drop_of_length_le (by simp at hl; omega)]; simp [Fits]
  | len + 1, i, hl, h => by
    rw [List.replicate_succ, List.flatten_cons]
    refine Fits.app (h i (Nat.le_refl _) (by omega)) ?_
    rw [List.drop_drop, ← Nat.succ_mul]
    exact rep_fits len (i + 1) (by rw [hl]; congr 1; omega) fun j h1 h2 => h j (by omega) (by omega)
theorem flat_trod : ∀ {n : Nat} {t : TypeId} {ks : List CK} {fuel : Nat} {cs : List Value} {x : DataW H × List MemPlace}, flatT P n t = some ks → DataW.trod enc P w 0 spare true fuel t cs = some x → Fits ks cs
  | 0, _, _, _, _, _, h, _ => by simp [flatT] at h
  | n + 1, t, ks, fuel, cs, x, h, hx => by
    unfold flatT at h
    split at h
    next hu =>
      split at h
      next e =>
        simp at h; subst h
        obtain ⟨b, rfl, _⟩ := DataW.trod_bool hu hx
        exact ⟨⟨b, rfl⟩, trivial⟩
      · cases h
    next k hu =>
      split at h
      next e =>
        simp at h; subst h
        obtain ⟨a, rfl, _, hw⟩ := DataW.trod_int hu hx
        exact ⟨⟨a, rfl, hw⟩, trivial⟩
      · cases h
    next fs hu =>
      split at h
      next ks' hks =>
        split at h
        next e =>
          simp at h; subst h
          obtain ⟨xs, m, _, _, hl, hlen, hf⟩ := DataW.trod_struct hu hx
          have := flatF_fits (P := P) (cs := cs) (fun t ks h => flatT_length h) fs.toList 0 ks' hks (fun f hm ks hk => by
            obtain ⟨i, hi⟩ := List.getElem?_of_mem hm
            have hi' : fs[i]? = some f := by simpa using hi
            have h1 := hf i f hi'
            have hlt : i < xs.length := by rw [hlen]; exact (Array.getElem?_eq_some_iff.1 hi').1
            rw [List.getElem?_eq_getElem hlt] at h1
            exact flat_trod hk h1) (by omega)
          simpa using this
        · cases h
      · cases h
    next len e hu =>
      split at h
      next ks' hks =>
        split at h
        next he =>
          simp at h; subst h
          obtain ⟨xs, m, _, _, hl, hlen, hf⟩ := DataW.trod_array hu hx
          have hc := flatT_length hks
          have := rep_fits (cs := cs) (ks := ks') len 0 (by rw [hl, ← he]; simp) (fun j _ hj => by
            have h1 := hf j (by omega)
            rw [List.getElem?_eq_getElem (by omega), ← hc] at h1
            exact flat_trod hks h1)
          simpa using this
        · cases h
      · cases h
    · cases h
end
def mkVal : List IntKind → (Nat → Int) → List Value
  | [], _ => []
  | k :: ks, f => .int k (f 0) :: mkVal ks (fun i => f (i + 1))
theorem fits_ints : ∀ {ks : List IntKind} {vs : List Value}, Fits (ks.map CK.int) vs → ∃ f : Nat → Int, vs = mkVal ks f ∧ ∀ i k, ks[i]? = some k → (Lit.int k (f i)).wf = true
  | [], [], _ => ⟨fun _ => 0, rfl, fun i k h => by simp at h⟩
  | [], _ :: _, h => by simp [Fits] at h
  | _ :: _, [], h => by simp [Fits] at h
  | k :: ks, v :: vs, h => by
    simp only [List.map_cons, Fits, CK.ok] at h
    obtain ⟨⟨n, rfl, hn⟩, h2⟩ := h
    obtain ⟨f, rfl, hf⟩ := fits_ints h2
    refine ⟨fun i => match i with | 0 => n | i + 1 => f i, rfl, fun i k' hk => ?_⟩
    cases i with
    | zero => simp at hk; subst hk; exact hn
    | succ i => exact hf i k' (by simpa using hk)
/-- What comes in as a value of numbers alone. -/
theorem open_ints {H : Type} {enc : TypeId × Value → H} {P : Program} {w : World} {spare : Nat → Bool} {n : Nat} {t : TypeId} {ks : List IntKind} {v : Value} {d : DataW H} {ps : List MemPlace} {r : Reach} {b0 : Nat}
    (hk : flatT P n t = some (ks.map CK.int)) (hs : match P.underlying t with | some (.struct _) | some (.array _ _) => true | _ => false)
    (hval : Value.okWide P w r b0 t v) (h : DataW.Trod enc P w 0 spare true t v d ps) : ∃ f : Nat → Int, v = .agg (mkVal ks f).toArray ∧ ∀ i k, ks[i]? = some k → (Lit.int k (f i)).wf = true := by
  have hv : ∃ cs, v = .agg cs := by
    unfold Value.okWide at hval
    split at hval
    · obtain ⟨cs, h1, _⟩ := hval; exact ⟨cs, h1⟩
    · obtain ⟨cs, h1, _⟩ := hval; exact ⟨cs, h1⟩
    next h1 h2 => cases hu : P.underlying t with
      | none => rw [hu] at hs; cases hs
      | some u => rw [hu] at hs; cases u <;> first | exact absurd hu (h1 _) | exact absurd hu (h2 _ _) | cases hs
  obtain ⟨cs, rfl⟩ := hv
  obtain ⟨fuel, hf⟩ := h
  obtain ⟨f, hf1, hf2⟩ := fits_ints (flat_trod hk hf)
  refine ⟨f, ?_, hf2⟩
  simp only [Value.cells] at hf1
  rw [← hf1]
variable [Glo]
theorem repL_ints {w : World} {A : Nat → Prop} : ∀ (ks : List IntKind) (f : Nat → Int), RepL w A (mkL ks f) (mkVal ks f)
  | [], _ => by simp [mkL, mkVal, RepL]
  | k :: ks, f => by
    simp only [mkL, mkVal, RepL]
    exact ⟨_, _, rfl, rfl, repL_ints ks _⟩
theorem rep_ints {w : World} {A : Nat → Prop} (ks : List IntKind) (f : Nat → Int) : RepS w A (.agg (mkL ks f)) (.agg (mkVal ks f).toArray) := by
  simp only [RepS]; exact ⟨_, rfl, repL_ints ks f⟩
end Go.Dam

namespace Go.Dam
open Go Go.RowKit
set_option linter.unusedSectionVars false
variable [Glo]
/-! Rows of many columns of numbers in a contract. -/
def Col.nums : Col → List Int
  | .ints _ xs => xs
  | _ => []
def Col.isK (k : IntKind) : Col → Bool
  | .ints k' _ => decide (k' = k)
  | _ => false
def nthC : List Col → Nat → List Int
  | [], _ => []
  | d :: _, 0 => d.nums
  | _ :: l, i + 1 => nthC l i
def hasCols : List IntKind → List Col → Bool
  | [], [] => true
  | k :: ks, d :: ds => d.isK k && hasCols ks ds
  | _, _ => false
def mkC : List IntKind → (Nat → List Int) → List Col
  | [], _ => []
  | k :: ks, f => .ints k (f 0) :: mkC ks (fun i => f (i + 1))
theorem of_hasCols : ∀ {ks : List IntKind} {ds : List Col}, hasCols ks ds = true → ds = mkC ks (nthC ds)
  | [], [], _ => rfl
  | [], _ :: _, h => by simp [hasCols] at h
  | _ :: _, [], h => by simp [hasCols] at h
  | k :: ks, d :: ds, h => by
    simp only [hasCols, Bool.and_eq_true] at h
    obtain ⟨h1, h2⟩ := h
    have e := of_hasCols h2
    cases d with
    | ints k' xs =>
      have : k' = k := by simpa [Col.isK] using h1
      subst this
      simp only [mkC, nthC, Col.nums]
      rw [← e]
    | _ => simp [Col.isK] at h1
end Go.Dam

namespace Go.Dam
open Go Go.RowKit
set_option linter.unusedSectionVars false
variable [Glo]
/-! Rounds, counted. -/
/-- Every round goes on. -/
theorem scan_all {P : Program} {F : FuncId → List D → D → Prop} {b : Code} (T : Nat → Cs) (n : Nat) (ok : Nat → Prop)
    (h : ∀ i, i < n → ok i → ∀ (σ : St) (e : Ex), Runs P F (.rounds b) (T (i + 1)).abs e σ → Runs P F (.rounds b) (T i).abs e σ)
    {σ : St} {e : Ex} (hend : Runs P F (.rounds b) (T n).abs e σ) : ∀ (d i : Nat), i + d = n → (∀ j, i ≤ j → j < n → ok j) → Runs P F (.rounds b) (T i).abs e σ
  | 0, i, hd, _ => by rw [show i = n by omega]; exact hend
  | d + 1, i, hd, ha => h i (by omega) (ha i (Nat.le_refl _) (by omega)) _ _ (scan_all T n ok h hend d (i + 1) (by omega) fun j h1 h2 => ha j (by omega) h2)
/-- Up to the first round that does not. -/
theorem scan_first {P : Program} {F : FuncId → List D → D → Prop} {b : Code} (T : Nat → Cs) (n : Nat) (ok : Nat → Prop)
    (h : ∀ i, i < n → ok i → ∀ (σ : St) (e : Ex), Runs P F (.rounds b) (T (i + 1)).abs e σ → Runs P F (.rounds b) (T i).abs e σ) : ∀ (d i : Nat), i + d = n → (∃ j, i ≤ j ∧ j < n ∧ ¬ ok j) →
      ∃ j, i ≤ j ∧ j < n ∧ ¬ ok j ∧ (∀ k, i ≤ k → k < j → ok k) ∧ ∀ (σ : St) (e : Ex), Runs P F (.rounds b) (T j).abs e σ → Runs P F (.rounds b) (T i).abs e σ
  | 0, i, hd, ⟨j, h1, h2, _⟩ => by omega
  | d + 1, i, hd, ⟨j, h1, h2, h3⟩ => by
    by_cases c : ok i
    · have hj : i + 1 ≤ j := by
        rcases Nat.lt_or_ge i j with a | a
        · exact a
        · rw [show j = i by omega] at h3; exact absurd c h3
      obtain ⟨k, k1, k2, k3, k4, k5⟩ := scan_first T n ok h d (i + 1) (by omega) ⟨j, hj, h2, h3⟩
      refine ⟨k, by omega, k2, k3, fun m m1 m2 => ?_, fun σ e r => h i (by omega) c _ _ (k5 _ _ r)⟩
      rcases Nat.eq_or_lt_of_le m1 with q | q
      · rw [← q]; exact c
      · exact k4 m q m2
    · exact ⟨i, Nat.le_refl _, by omega, c, fun k a b => by omega, fun _ _ r => r⟩
end Go.Dam

namespace Go.Dam
set_option linter.unusedSectionVars false
set_option linter.unusedSimpArgs false
open Go Go.RowKit Go.ChangeShapes Go.WideShapes

/-- Rows of numbers alone. -/
def IsRows (ks : List IntKind) (w : World) (v : Value) (a : Nat → List Int) : Prop :=
  (∀ i j k, i < (a 0).length → ks[j]? = some k → (Lit.int k ((a j).getD i 0)).wf = true) ∧
    ∃ o cp, v = .slice o (a 0).length cp ∧ (a 0).length ≤ cp ∧ ((a 0).length ≠ 0 → ∃ ad, o = some ad ∧ ad.spot = none ∧ ad.block < w.heap.size) ∧
      ∀ i j k, i < (a 0).length → ks[j]? = some k → w.cell? (plusOff (o.getD default) (i * ks.length + j)) = some (.int k ((a j).getD i 0))
theorem mkVal_get : ∀ {ks : List IntKind} {f : Nat → Int} {j : Nat} {k : IntKind}, ks[j]? = some k → (mkVal ks f)[j]? = some (.int k (f j))
  | [], _, _, _, h => by simp at h
  | k' :: ks, f, 0, k, h => by simp at h; subst h; rfl
  | k' :: ks, f, j + 1, k, h => by
    simp only [mkVal, List.getElem?_cons_succ] at h ⊢
    exact mkVal_get h
section
variable {H : Type} {enc : TypeId × Value → H} {P : Program} {w : World} {spare : Nat → Bool}
theorem open_rows {t e : TypeId} {n : Nat} {k0 : IntKind} {ks : List IntKind} {v : Value} {d : DataW H} {ps : List MemPlace} {r : Reach} {b0 : Nat} (ht : P.underlying t = some (.slice e)) (hk : flatT P n e = some ((k0 :: ks).map CK.int))
    (hval : Value.okWide P w r b0 t v) (h : DataW.Trod enc P w 0 spare true t v d ps) : ∃ a, IsRows (k0 :: ks) w v a := by
  obtain ⟨a0, l0, cp0, rfl⟩ := okWide_slice ht hval
  obtain ⟨fuel, hf⟩ := h
  have hc : (k0 :: ks).length = P.cellsOf e := by have := flatT_length hk; simpa using this
  rcases Go.Deep.open_slice ht hf with ⟨hcs, _⟩ | ⟨a, len, cap, m, n', Dx, Pl, hcs, _, hl, hm, hmm, _, hx⟩
  · simp [Value.cells] at hcs
    obtain ⟨rfl, rfl, rfl⟩ := hcs
    exact ⟨fun _ => [], fun i j k hi _ => by simp at hi, none, 0, rfl, by simp, by simp, fun i j k hi _ => by simp at hi⟩
  · simp [Value.cells] at hcs
    obtain ⟨rfl, rfl, rfl⟩ := hcs
    have hlm : l0 ≤ m := by rw [hmm]; split <;> omega
    have each : ∀ i, i < l0 → ∃ f : Nat → Int, (∀ j k, (k0 :: ks)[j]? = some k → w.cell? ((a.add (i * (k0 :: ks).length)).add j) = some (.int k (f j))) ∧ ∀ j k, (k0 :: ks)[j]? = some k → (Lit.int k (f j)).wf = true := fun i hi => by
      obtain ⟨cs', h1, h2⟩ := hx i (by omega)
      rw [← hc] at h1
      obtain ⟨_, hlen, hcell⟩ := World.cells?_some h1
      obtain ⟨f, rfl, hw⟩ := fits_ints (flat_trod hk h2)
      refine ⟨f, fun j k hj => ?_, hw⟩
      have hjl : j < (k0 :: ks).length := (List.getElem?_eq_some_iff.1 hj).1
      rw [hcell j hjl, mkVal_get hj]
    have hch : ∃ f : Nat → Nat → Int, ∀ i, i < l0 → (∀ j k, (k0 :: ks)[j]? = some k → w.cell? ((a.add (i * (k0 :: ks).length)).add j) = some (.int k (f i j))) ∧ ∀ j k, (k0 :: ks)[j]? = some k → (Lit.int k (f i j)).wf = true := by
      refine ⟨fun i => if h : i < l0 then Classical.choose (each i h) else fun _ => 0, fun i hi => ?_⟩
      simp only [dif_pos hi]
      exact Classical.choose_spec (each i hi)
    obtain ⟨f, hfx⟩ := hch
    have spot : l0 ≠ 0 → a.spot = none ∧ a.block < w.heap.size := fun h0 => by
      have := (hfx 0 (by omega)).1 0 k0 rfl
      rw [Nat.zero_mul, show (a.add 0).add 0 = a from rfl] at this
      unfold World.cell? at this
      split at this
      next c _ _ hb =>
        refine ⟨?_, ?_⟩
        · cases hs : a.spot with
          | none => rfl
          | some x => rw [hs] at this; simp at this
        · rcases Nat.lt_or_ge a.block w.heap.size with h | h
          · exact h
          · rw [Array.getElem?_eq_none h] at hb; cases hb
      · cases this
    have gx : ∀ j i, i < l0 → ((List.range l0).map fun i => f i j).getD i 0 = f i j := fun j i hi => by
      simp [List.getD_eq_getElem?_getD, List.getElem?_range hi]
    refine ⟨fun j => (List.range l0).map fun i => f i j, ?_, some a, cp0, by simp, by simpa using hl, ?_, ?_⟩
    · intro i j k hi hj
      have hi : i < l0 := by simpa using hi
      show (Lit.int k (((List.range l0).map fun i => f i j).getD i 0)).wf = true
      rw [gx j i hi]; exact (hfx i hi).2 j k hj
    · intro h0
      have h0 : l0 ≠ 0 := by simpa using h0
      exact ⟨a, rfl, (spot h0).1, (spot h0).2⟩
    · intro i j k hi hj
      have hi : i < l0 := by simpa using hi
      have hs := (spot (by omega)).1
      show w.cell? _ = some (.int k (((List.range l0).map fun i => f i j).getD i 0))
      rw [gx j i hi]
      have hthis := (hfx i hi).1 j k hj
      letI : Glo := ⟨fun _ => [], fun _ => false⟩
      rw [add_plus a _ hs, add_plus _ _ (by rfl), plusOff_plus] at hthis
      exact hthis
end
theorem wf_u32 {n : Int} (h : (Lit.int .u32 n).wf = true) : 0 ≤ n ∧ n < 4294967296 := by
  simp [Lit.wf, IntKind.has, IntKind.min, IntKind.max, IntKind.signed, IntKind.bits] at h; omega
theorem wf_u8 {n : Int} (h : (Lit.int .u8 n).wf = true) : 0 ≤ n ∧ n < 256 := by
  simp [Lit.wf, IntKind.has, IntKind.min, IntKind.max, IntKind.signed, IntKind.bits] at h; omega
variable [Glo]
theorem mkC_get : ∀ {ks : List IntKind} {a : Nat → List Int} {j : Nat} {c : Col}, (mkC ks a)[j]? = some c → ∃ k, ks[j]? = some k ∧ c = .ints k (a j)
  | [], _, _, _, h => by simp [mkC] at h
  | k' :: ks, a, 0, c, h => by simp [mkC] at h; subst h; exact ⟨k', rfl, rfl⟩
  | k' :: ks, a, j + 1, c, h => by
    simp only [mkC, List.getElem?_cons_succ] at h ⊢
    exact mkC_get h
theorem mkC_length : ∀ (ks : List IntKind) (a : Nat → List Int), (mkC ks a).length = ks.length
  | [], _ => rfl
  | k :: ks, a => by simp [mkC, mkC_length ks]
theorem IsRows.rep {k0 : IntKind} {ks : List IntKind} {w : World} {v : Value} {a : Nat → List Int} (h : IsRows (k0 :: ks) w v a) : RepS w (fun k => k < w.heap.size) (.rc (mkC (k0 :: ks) a)) v := by
  obtain ⟨_, o, cp, rfl, hl, h0, hc⟩ := h
  have e : rowLen (mkC (k0 :: ks) a) = (a 0).length := rfl
  simp only [RepS]
  refine ⟨o, cp, by rw [e], by rw [e]; exact hl, by rw [e]; exact h0, fun i j c hi hj => ?_⟩
  rw [e] at hi
  obtain ⟨k, hk, rfl⟩ := mkC_get hj
  rw [mkC_length]
  exact ⟨_, hc i j k hi hk, rfl⟩
end Go.Dam
