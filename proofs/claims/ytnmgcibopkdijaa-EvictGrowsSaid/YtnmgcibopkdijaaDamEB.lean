/- The engine: an abstract machine for the program's functions, proved right against the model. No condition. -/
import Derived.Test.YtnmgcibopkdijaaDamXK
import Derived.WalkKit
set_option linter.unusedSectionVars false
set_option linter.unusedVariables false
set_option linter.unusedSimpArgs false
section
namespace Go.Dam
set_option linter.unusedSectionVars false
set_option linter.unusedSimpArgs false
open Go Go.RowKit Go.ChangeShapes Go.WideShapes

/-! Values of numbers and truth values alone, however they are nested. -/
inductive CK where
  | int (k : IntKind)
  | bool
  deriving DecidableEq
def CK.ok : CK → Value → Prop
  | .int k, v => ∃ n, v = .int k n ∧ (Lit.int k n).wf = true
  | .bool, v => ∃ b, v = .bool b
def flatF (g : TypeId → Option (List CK)) : Nat → List Field → Option (List CK)
  | _, [] => some []
  | off, f :: fs => match g f.type with
    | some ks => match flatF g (off + ks.length) fs with
      | some r => if f.offset = off then some (ks ++ r) else none
      | none => none
    | none => none
def flatT (P : Program) : Nat → TypeId → Option (List CK)
  | 0, _ => none
  | n + 1, t => match P.underlying t with
    | some .bool => if 1 = P.cellsOf t then some [.bool] else none
    | some (.int k) => if 1 = P.cellsOf t then some [.int k] else none
    | some (.struct fs) => match flatF (flatT P n) 0 fs.toList with
      | some ks => if ks.length = P.cellsOf t then some ks else none
      | none => none
    | some (.array len e) => match flatT P n e with
      | some ks => if len * ks.length = P.cellsOf t then some (List.replicate len ks).flatten else none
      | none => none
    | _ => none
def Fits : List CK → List Value → Prop
  | [], [] => True
  | k :: ks, v :: vs => k.ok v ∧ Fits ks vs
  | _, _ => False
theorem Fits.app : ∀ {ks : List CK} {cs : List Value} {ks' : List CK}, Fits ks (cs.take ks.length) → Fits ks' (cs.drop ks.length) → Fits (ks ++ ks') cs
  | [], cs, ks', _, h => by simpa using h
  | k :: ks, [], ks', h, _ => by simp [Fits] at h
  | k :: ks, c :: cs, ks', h, h' => by
    simp only [List.length_cons, List.take_succ_cons, Fits, List.drop_succ_cons, List.cons_append] at h h' ⊢
    exact ⟨h.1, Fits.app h.2 h'⟩
theorem Fits.length : ∀ {ks : List CK} {cs : List Value}, Fits ks cs → ks.length = cs.length
  | [], [], _ => rfl
  | [], _ :: _, h => by simp [Fits] at h
  | _ :: _, [], h => by simp [Fits] at h
  | _ :: _, _ :: _, h => by simp only [Fits] at h; simp [Fits.length h.2]
section
variable {H : Type} {enc : TypeId × Value → H} {P : Program} {w : World} {spare : Nat → Bool}
theorem flatT_length : ∀ {n : Nat} {t : TypeId} {ks : List CK}, flatT P n t = some ks → ks.length = P.cellsOf t
  | 0, _, _, h => by simp [flatT] at h
  | n + 1, t, ks, h => by
    unfold flatT at h
    split at h
    · split at h
      next e => simp at h; subst h; simpa using e
      · cases h
    · split at h
      next e => simp at h; subst h; simpa using e
      · cases h
    · split at h
      · split at h
        next e => simp at h; subst h; exact e
        · cases h
      · cases h
    · split at h
      · split at h
        next e => simp at h; subst h; simpa using e
        · cases h
      · cases h
    · cases h
theorem flatF_fits {g : TypeId → Option (List CK)} {cs : List Value} (hg : ∀ t ks, g t = some ks → ks.length = P.cellsOf t) : ∀ (fs : List Field) (off : Nat) (r : List CK), flatF g off fs = some r →
    (∀ f ∈ fs, ∀ ks, g f.type = some ks → Fits ks ((cs.drop f.offset).take (P.cellsOf f.type))) → cs.length = off + r.length → Fits r (cs.drop off)
  | [], off, r, h, _, hl => by
    simp [flatF] at h; subst h
    rw [List.drop_of_length_le (by simp at hl; omega)]; trivial
  | f :: fs, off, r, h, hf, hl => by
    simp only [flatF] at h
    split at h
    next ks hks =>
      split at h
      next r' hr' =>
        split at h
        next ho =>
          simp at h; subst h
          have h1 := hf f (by simp) ks hks
          rw [← hg _ _ hks, ho] at h1
          refine Fits.app h1 ?_
          rw [List.drop_drop]
          exact flatF_fits hg fs _ r' hr' (fun f' hm => hf f' (by simp [hm])) (by simp at hl; omega)
        · cases h
      · cases h
    · cases h
theorem rep_fits {cs : List Value} {ks : List CK} : ∀ (len i : Nat), cs.length = (i + len) * ks.length → (∀ j, i ≤ j → j < i + len → Fits ks ((cs.drop (j * ks.length)).take ks.length)) → Fits (List.replicate len ks).flatten (cs.drop (i * ks.length))
  | 0, i, hl, _ => by
    rw [List.drop_of_length_le (by simp at hl; omega)]; simp [Fits]
  | len + 1, i, hl, h => by
    rw [List.replicate_succ, List.flatten_cons]
    refine Fits.app (h i (Nat.le_refl _) (by omega)) ?_
    rw [List.drop_drop, ← Nat.succ_mul]
    exact rep_fits len (i + 1) (by rw [hl]; congr 1; omega) fun j h1 h2 => h j (by omega) (by omega)
theorem flat_trod : ∀ {n : Nat} {t : TypeId} {ks : List CK} {fuel : Nat} {cs : List Value} {x : DataW H × List MemPlace}, flatT P n t = some ks → DataW.trod enc P w 0 spare true fuel t cs = some x → Fits ks cs
  | 0, _, _, _, _, _, h, _ => by simp [flatT] at h
  | n + 1, t, ks, fuel, cs, x, h, hx => by
    unfold flatT at h
    split at h
    next hu =>
      split at h
      next e =>
        simp at h; subst h
        obtain ⟨b, rfl, _⟩ := DataW.trod_bool hu hx
        exact ⟨⟨b, rfl⟩, trivial⟩
      · cases h
    next k hu =>
      split at h
      next e =>
        simp at h; subst h
        obtain ⟨a, rfl, _, hw⟩ := DataW.trod_int hu hx
        exact ⟨⟨a, rfl, hw⟩, trivial⟩
      · cases h
    next fs hu =>
      split at h
      next ks' hks =>
        split at h
        next e =>
          simp at h; subst h
          obtain ⟨xs, m, _, _, hl, hlen, hf⟩ := DataW.trod_struct hu hx
          have := flatF_fits (P := P) (cs := cs) (fun t ks h => flatT_length h) fs.toList 0 ks' hks (fun f hm ks hk => by
            obtain ⟨i, hi⟩ := List.getElem?_of_mem hm
            have hi' : fs[i]? = some f := by simpa using hi
            have h1 := hf i f hi'
            have hlt : i < xs.length := by rw [hlen]; exact (Array.getElem?_eq_some_iff.1 hi').1
            rw [List.getElem?_eq_getElem hlt] at h1
            exact flat_trod hk h1) (by omega)
          simpa using this
        · cases h
      · cases h
    next len e hu =>
      split at h
      next ks' hks =>
        split at h
        next he =>
          simp at h; subst h
          obtain ⟨xs, m, _, _, hl, hlen, hf⟩ := DataW.trod_array hu hx
          have hc := flatT_length hks
          have := rep_fits (cs := cs) (ks := ks') len 0 (by rw [hl, ← he]; simp) (fun j _ hj => by
            have h1 := hf j (by omega)
            rw [List.getElem?_eq_getElem (by omega), ← hc] at h1
            exact flat_trod hks h1)
          simpa using this
        · cases h
      · cases h
    · cases h
end
def mkVal : List IntKind → (Nat → Int) → List Value
  | [], _ => []
  | k :: ks, f => .int k (f 0) :: mkVal ks (fun i => f (i + 1))
theorem fits_ints : ∀ {ks : List IntKind} {vs : List Value}, Fits (ks.map CK.int) vs → ∃ f : Nat → Int, vs = mkVal ks f ∧ ∀ i k, ks[i]? = some k → (Lit.int k (f i)).wf = true
  | [], [], _ => ⟨fun _ => 0, rfl, fun i k h => by simp at h⟩
  | [], _ :: _, h => by simp [Fits] at h
  | _ :: _, [], h => by simp [Fits] at h
  | k :: ks, v :: vs, h => by
    simp only [List.map_cons, Fits, CK.ok] at h
    obtain ⟨⟨n, rfl, hn⟩, h2⟩ := h
    obtain ⟨f, rfl, hf⟩ := fits_ints h2
    refine ⟨fun i => match i with | 0 => n | i + 1 => f i, rfl, fun i k' hk => ?_⟩
    cases i with
    | zero => simp at hk; subst hk; exact hn
    | succ i => exact hf i k' (by simpa using hk)
/-- What comes in as a value of numbers alone. -/
theorem open_ints {H : Type} {enc : TypeId × Value → H} {P : Program} {w : World} {spare : Nat → Bool} {n : Nat} {t : TypeId} {ks : List IntKind} {v : Value} {d : DataW H} {ps : List MemPlace} {r : Reach} {b0 : Nat}
    (hk : flatT P n t = some (ks.map CK.int)) (hs : match P.underlying t with | some (.struct _) | some (.array _ _) => true | _ => false)
    (hval : Value.okWide P w r b0 t v) (h : DataW.Trod enc P w 0 spare true t v d ps) : ∃ f : Nat → Int, v = .agg (mkVal ks f).toArray ∧ ∀ i k, ks[i]? = some k → (Lit.int k (f i)).wf = true := by
  have hv : ∃ cs, v = .agg cs := by
    unfold Value.okWide at hval
    split at hval
    · obtain ⟨cs, h1, _⟩ := hval; exact ⟨cs, h1⟩
    · obtain ⟨cs, h1, _⟩ := hval; exact ⟨cs, h1⟩
    next h1 h2 => cases hu : P.underlying t with
      | none => rw [hu] at hs; cases hs
      | some u => rw [hu] at hs; cases u <;> first | exact absurd hu (h1 _) | exact absurd hu (h2 _ _) | cases hs
  obtain ⟨cs, rfl⟩ := hv
  obtain ⟨fuel, hf⟩ := h
  obtain ⟨f, hf1, hf2⟩ := fits_ints (flat_trod hk hf)
  refine ⟨f, ?_, hf2⟩
  simp only [Value.cells] at hf1
  rw [← hf1]
variable [Glo]
theorem repL_ints {w : World} {A : Nat → Prop} : ∀ (ks : List IntKind) (f : Nat → Int), RepL w A (mkL ks f) (mkVal ks f)
  | [], _ => by simp [mkL, mkVal, RepL]
  | k :: ks, f => by
    simp only [mkL, mkVal, RepL]
    exact ⟨_, _, rfl, rfl, repL_ints ks _⟩
theorem rep_ints {w : World} {A : Nat → Prop} (ks : List IntKind) (f : Nat → Int) : RepS w A (.agg (mkL ks f)) (.agg (mkVal ks f).toArray) := by
  simp only [RepS]; exact ⟨_, rfl, repL_ints ks f⟩
end Go.Dam
end

section
namespace Go.Dam
open Go Go.RowKit
set_option linter.unusedSectionVars false
variable [Glo]
/-! Rows of many columns of numbers in a contract. -/
def Col.nums : Col → List Int
  | .ints _ xs => xs
  | _ => []
def Col.isK (k : IntKind) : Col → Bool
  | .ints k' _ => decide (k' = k)
  | _ => false
def nthC : List Col → Nat → List Int
  | [], _ => []
  | d :: _, 0 => d.nums
  | _ :: l, i + 1 => nthC l i
def hasCols : List IntKind → List Col → Bool
  | [], [] => true
  | k :: ks, d :: ds => d.isK k && hasCols ks ds
  | _, _ => false
def mkC : List IntKind → (Nat → List Int) → List Col
  | [], _ => []
  | k :: ks, f => .ints k (f 0) :: mkC ks (fun i => f (i + 1))
theorem of_hasCols : ∀ {ks : List IntKind} {ds : List Col}, hasCols ks ds = true → ds = mkC ks (nthC ds)
  | [], [], _ => rfl
  | [], _ :: _, h => by simp [hasCols] at h
  | _ :: _, [], h => by simp [hasCols] at h
  | k :: ks, d :: ds, h => by
    simp only [hasCols, Bool.and_eq_true] at h
    obtain ⟨h1, h2⟩ := h
    have e := of_hasCols h2
    cases d with
    | ints k' xs =>
      have : k' = k := by simpa [Col.isK] using h1
      subst this
      simp only [mkC, nthC, Col.nums]
      rw [← e]
    | _ => simp [Col.isK] at h1
end Go.Dam
end

section
namespace Go.Dam
open Go Go.RowKit
set_option linter.unusedSectionVars false
variable [Glo]
/-! Rounds, counted. -/
/-- Every round goes on. -/
theorem scan_all {P : Program} {F : FuncId → List D → D → Prop} {b : Code} (T : Nat → Cs) (n : Nat) (ok : Nat → Prop)
    (h : ∀ i, i < n → ok i → ∀ (σ : St) (e : Ex), Runs P F (.rounds b) (T (i + 1)).abs e σ → Runs P F (.rounds b) (T i).abs e σ)
    {σ : St} {e : Ex} (hend : Runs P F (.rounds b) (T n).abs e σ) : ∀ (d i : Nat), i + d = n → (∀ j, i ≤ j → j < n → ok j) → Runs P F (.rounds b) (T i).abs e σ
  | 0, i, hd, _ => by rw [show i = n by omega]; exact hend
  | d + 1, i, hd, ha => h i (by omega) (ha i (Nat.le_refl _) (by omega)) _ _ (scan_all T n ok h hend d (i + 1) (by omega) fun j h1 h2 => ha j (by omega) h2)
/-- Up to the first round that does not. -/
theorem scan_first {P : Program} {F : FuncId → List D → D → Prop} {b : Code} (T : Nat → Cs) (n : Nat) (ok : Nat → Prop)
    (h : ∀ i, i < n → ok i → ∀ (σ : St) (e : Ex), Runs P F (.rounds b) (T (i + 1)).abs e σ → Runs P F (.rounds b) (T i).abs e σ) : ∀ (d i : Nat), i + d = n → (∃ j, i ≤ j ∧ j < n ∧ ¬ ok j) →
      ∃ j, i ≤ j ∧ j < n ∧ ¬ ok j ∧ (∀ k, i ≤ k → k < j → ok k) ∧ ∀ (σ : St) (e : Ex), Runs P F (.rounds b) (T j).abs e σ → Runs P F (.rounds b) (T i).abs e σ
  | 0, i, hd, ⟨j, h1, h2, _⟩ => by omega
  | d + 1, i, hd, ⟨j, h1, h2, h3⟩ => by
    by_cases c : ok i
    · have hj : i + 1 ≤ j := by
        rcases Nat.lt_or_ge i j with a | a
        · exact a
        · rw [show j = i by omega] at h3; exact absurd c h3
      obtain ⟨k, k1, k2, k3, k4, k5⟩ := scan_first T n ok h d (i + 1) (by omega) ⟨j, hj, h2, h3⟩
      refine ⟨k, by omega, k2, k3, fun m m1 m2 => ?_, fun σ e r => h i (by omega) c _ _ (k5 _ _ r)⟩
      rcases Nat.eq_or_lt_of_le m1 with q | q
      · rw [← q]; exact c
      · exact k4 m q m2
    · exact ⟨i, Nat.le_refl _, by omega, c, fun k a b => by omega, fun _ _ r => r⟩
end Go.Dam
end

section
namespace Go.Dam
set_option linter.unusedSectionVars false
set_option linter.unusedSimpArgs false
open Go Go.RowKit Go.ChangeShapes Go.WideShapes

/-- Rows of numbers alone. -/
def IsRows (ks : List IntKind) (w : World) (v : Value) (a : Nat → List Int) : Prop :=
  (∀ i j k, i < (a 0).length → ks[j]? = some k → (Lit.int k ((a j).getD i 0)).wf = true) ∧
    ∃ o cp, v = .slice o (a 0).length cp ∧ (a 0).length ≤ cp ∧ ((a 0).length ≠ 0 → ∃ ad, o = some ad ∧ ad.spot = none ∧ ad.block < w.heap.size) ∧
      ∀ i j k, i < (a 0).length → ks[j]? = some k → w.cell? (plusOff (o.getD default) (i * ks.length + j)) = some (.int k ((a j).getD i 0))
theorem mkVal_get : ∀ {ks : List IntKind} {f : Nat → Int} {j : Nat} {k : IntKind}, ks[j]? = some k → (mkVal ks f)[j]? = some (.int k (f j))
  | [], _, _, _, h => by simp at h
  | k' :: ks, f, 0, k, h => by simp at h; subst h; rfl
  | k' :: ks, f, j + 1, k, h => by
    simp only [mkVal, List.getElem?_cons_succ] at h ⊢
    exact mkVal_get h
section
variable {H : Type} {enc : TypeId × Value → H} {P : Program} {w : World} {spare : Nat → Bool}
theorem open_rows {t e : TypeId} {n : Nat} {k0 : IntKind} {ks : List IntKind} {v : Value} {d : DataW H} {ps : List MemPlace} {r : Reach} {b0 : Nat} (ht : P.underlying t = some (.slice e)) (hk : flatT P n e = some ((k0 :: ks).map CK.int))
    (hval : Value.okWide P w r b0 t v) (h : DataW.Trod enc P w 0 spare true t v d ps) : ∃ a, IsRows (k0 :: ks) w v a := by
  obtain ⟨a0, l0, cp0, rfl⟩ := okWide_slice ht hval
  obtain ⟨fuel, hf⟩ := h
  have hc : (k0 :: ks).length = P.cellsOf e := by have := flatT_length hk; simpa using this
  rcases Go.Deep.open_slice ht hf with ⟨hcs, _⟩ | ⟨a, len, cap, m, n', Dx, Pl, hcs, _, hl, hm, hmm, _, hx⟩
  · simp [Value.cells] at hcs
    obtain ⟨rfl, rfl, rfl⟩ := hcs
    exact ⟨fun _ => [], fun i j k hi _ => by simp at hi, none, 0, rfl, by simp, by simp, fun i j k hi _ => by simp at hi⟩
  · simp [Value.cells] at hcs
    obtain ⟨rfl, rfl, rfl⟩ := hcs
    have hlm : l0 ≤ m := by rw [hmm]; split <;> omega
    have each : ∀ i, i < l0 → ∃ f : Nat → Int, (∀ j k, (k0 :: ks)[j]? = some k → w.cell? ((a.add (i * (k0 :: ks).length)).add j) = some (.int k (f j))) ∧ ∀ j k, (k0 :: ks)[j]? = some k → (Lit.int k (f j)).wf = true := fun i hi => by
      obtain ⟨cs', h1, h2⟩ := hx i (by omega)
      rw [← hc] at h1
      obtain ⟨_, hlen, hcell⟩ := World.cells?_some h1
      obtain ⟨f, rfl, hw⟩ := fits_ints (flat_trod hk h2)
      refine ⟨f, fun j k hj => ?_, hw⟩
      have hjl : j < (k0 :: ks).length := (List.getElem?_eq_some_iff.1 hj).1
      rw [hcell j hjl, mkVal_get hj]
    have hch : ∃ f : Nat → Nat → Int, ∀ i, i < l0 → (∀ j k, (k0 :: ks)[j]? = some k → w.cell? ((a.add (i * (k0 :: ks).length)).add j) = some (.int k (f i j))) ∧ ∀ j k, (k0 :: ks)[j]? = some k → (Lit.int k (f i j)).wf = true := by
      refine ⟨fun i => if h : i < l0 then Classical.choose (each i h) else fun _ => 0, fun i hi => ?_⟩
      simp only [dif_pos hi]
      exact Classical.choose_spec (each i hi)
    obtain ⟨f, hfx⟩ := hch
    have spot : l0 ≠ 0 → a.spot = none ∧ a.block < w.heap.size := fun h0 => by
      have := (hfx 0 (by omega)).1 0 k0 rfl
      rw [Nat.zero_mul, show (a.add 0).add 0 = a from rfl] at this
      unfold World.cell? at this
      split at this
      next c _ _ hb =>
        refine ⟨?_, ?_⟩
        · cases hs : a.spot with
          | none => rfl
          | some x => rw [hs] at this; simp at this
        · rcases Nat.lt_or_ge a.block w.heap.size with h | h
          · exact h
          · rw [Array.getElem?_eq_none h] at hb; cases hb
      · cases this
    have gx : ∀ j i, i < l0 → ((List.range l0).map fun i => f i j).getD i 0 = f i j := fun j i hi => by
      simp [List.getD_eq_getElem?_getD, List.getElem?_range hi]
    refine ⟨fun j => (List.range l0).map fun i => f i j, ?_, some a, cp0, by simp, by simpa using hl, ?_, ?_⟩
    · intro i j k hi hj
      have hi : i < l0 := by simpa using hi
      show (Lit.int k (((List.range l0).map fun i => f i j).getD i 0)).wf = true
      rw [gx j i hi]; exact (hfx i hi).2 j k hj
    · intro h0
      have h0 : l0 ≠ 0 := by simpa using h0
      exact ⟨a, rfl, (spot h0).1, (spot h0).2⟩
    · intro i j k hi hj
      have hi : i < l0 := by simpa using hi
      have hs := (spot (by omega)).1
      show w.cell? _ = some (.int k (((List.range l0).map fun i => f i j).getD i 0))
      rw [gx j i hi]
      have hthis := (hfx i hi).1 j k hj
      letI : Glo := ⟨fun _ => [], fun _ => false⟩
      rw [add_plus a _ hs, add_plus _ _ (by rfl), plusOff_plus] at hthis
      exact hthis
end
theorem wf_u32 {n : Int} (h : (Lit.int .u32 n).wf = true) : 0 ≤ n ∧ n < 4294967296 := by
  simp [Lit.wf, IntKind.has, IntKind.min, IntKind.max, IntKind.signed, IntKind.bits] at h; omega
theorem wf_u8 {n : Int} (h : (Lit.int .u8 n).wf = true) : 0 ≤ n ∧ n < 256 := by
  simp [Lit.wf, IntKind.has, IntKind.min, IntKind.max, IntKind.signed, IntKind.bits] at h; omega
variable [Glo]
theorem mkC_get : ∀ {ks : List IntKind} {a : Nat → List Int} {j : Nat} {c : Col}, (mkC ks a)[j]? = some c → ∃ k, ks[j]? = some k ∧ c = .ints k (a j)
  | [], _, _, _, h => by simp [mkC] at h
  | k' :: ks, a, 0, c, h => by simp [mkC] at h; subst h; exact ⟨k', rfl, rfl⟩
  | k' :: ks, a, j + 1, c, h => by
    simp only [mkC, List.getElem?_cons_succ] at h ⊢
    exact mkC_get h
theorem mkC_length : ∀ (ks : List IntKind) (a : Nat → List Int), (mkC ks a).length = ks.length
  | [], _ => rfl
  | k :: ks, a => by simp [mkC, mkC_length ks]
theorem IsRows.rep (hg : ¬ Live) {k0 : IntKind} {ks : List IntKind} {w : World} {v : Value} {a : Nat → List Int} (h : IsRows (k0 :: ks) w v a) : RepS w (fun k => k < w.heap.size) (.rc (mkC (k0 :: ks) a)) v := by
  obtain ⟨_, o, cp, rfl, hl, h0, hc⟩ := h
  have e : rowLen (mkC (k0 :: ks) a) = (a 0).length := rfl
  simp only [RepS]
  refine ⟨o, cp, by rw [e], fun q => absurd q hg, by rw [e]; exact hl, by rw [e]; exact h0, fun i j c hi hj => ?_⟩
  rw [e] at hi
  obtain ⟨k, hk, rfl⟩ := mkC_get hj
  rw [mkC_length]
  exact ⟨_, hc i j k hi hk, rfl⟩
end Go.Dam
end

section
namespace Go.Dam
open Go Go.RowKit
set_option linter.unusedSectionVars false
/-! A function that asks whether a row is nil. -/
@[reducible] def GL : Glo := ⟨fun _ => [], fun k => Nat.beq k liveId⟩
theorem repAt_v {G G' : Glo} {w : World} {A : Nat → Prop} : ∀ (cs : List D) (ad : Addr), (∀ d ∈ cs, ∃ x, d = .v x) → @RepAt G w A cs ad → @RepAt G' w A cs ad
  | [], _, _, _ => by simp [RepAt]
  | d :: ds, ad, h, hr => by
    obtain ⟨x, rfl⟩ := h d (by simp)
    simp only [RepAt] at hr ⊢
    obtain ⟨⟨u, h1, h2⟩, h3⟩ := hr
    refine ⟨⟨u, h1, ?_⟩, repAt_v ds _ (fun d hd => h d (by simp [hd])) h3⟩
    simp only [RepS] at h2 ⊢
    exact h2
theorem calls_live {G : Glo} {P : Program} {f : FuncId} {cols : List Col0}
    (h0 : ∀ cp : Nat, @CallsD G P f [.v (.slice none 0 cp)] (.v (.slice none 0 0)))
    (h1 : @CallsD GL P f [.rc (cols.map Col0.up)] (.oc cols)) : @CallsD G P f [.rc (cols.map Col0.up)] (.oc cols) := by
  intro w A vs hv low glo
  simp only [RepL] at hv
  obtain ⟨u, xs, rfl, hu, rfl⟩ := hv
  simp only [RepS] at hu
  obtain ⟨o, cp, rfl, hl, hn, hx, hc⟩ := hu
  cases o with
  | none =>
    have hz : rowLen (cols.map Col0.up) = 0 := by
      by_cases e : rowLen (cols.map Col0.up) = 0
      · exact e
      · obtain ⟨ad, h, _⟩ := hx e; cases h
    rw [hz]
    refine (h0 cp w A [_] ⟨_, _, rfl, rfl, rfl⟩ low glo).mono ?_
    rintro e w' ⟨v, A', bl, rfl, hr, _, h2, h3, h4, h5⟩
    simp only [RepO, RepS] at hr
    obtain ⟨rfl, rfl⟩ := hr
    refine ⟨_, A', [none], rfl, ?_, ⟨fun ad h => by simp at h, by simp⟩, h2, h3, h4, h5⟩
    rw [rowLen_up] at hz
    simp only [RepO]
    refine ⟨none, 0, by rw [hz], .inl ⟨hz, rfl, ?_, trivial⟩⟩
    apply List.length_eq_zero_iff.1
    rw [rowCells0_length, hz]; simp
  | some ad =>
    refine (h1 w A [_] ?_ low ?_).mono ?_
    · refine ⟨_, _, rfl, ?_, rfl⟩
      simp only [RepS]
      refine ⟨some ad, cp, rfl, fun _ h => absurd h (by simp), hn, hx, fun i j c hi hj => ?_⟩
      obtain ⟨x, k1, k2⟩ := hc i j c hi hj
      refine ⟨x, k1, ?_⟩
      rw [List.getElem?_map, Option.map_eq_some_iff] at hj
      obtain ⟨c0, _, rfl⟩ := hj
      cases c0 <;> exact k2
    · intro g hg; exact absurd rfl hg
    · rintro e w' ⟨v, A', bl, rfl, hr, h1, h2, h3, h4, h5⟩
      refine ⟨v, A', bl, rfl, ?_, h1, h2, h3, h4, h5⟩
      simp only [RepO] at hr ⊢
      obtain ⟨o, c, hu, hr⟩ := hr
      refine ⟨o, c, hu, ?_⟩
      rcases hr with h | ⟨a1, ad2, a2, a3, a4, a5, a6⟩
      · exact .inl h
      · exact .inr ⟨a1, ad2, a2, a3, a4, a5, repAt_v _ _ (fun d hd => @rowCells0_v G _ _ hd) a6⟩
end Go.Dam
end

section
namespace Go.Dam
open Go Go.RowKit
set_option linter.unusedSectionVars false
variable [Glo]
/-! A nil slice, read as an own row without elements. -/
def SomeEq (b b' : List (Option Addr)) : Prop := b'.filterMap id = b.filterMap id
theorem Fresh.some {w : World} {A : Nat → Prop} {B : Nat} {b b' : List (Option Addr)} (h : Fresh w A B b) (e : SomeEq b b') : Fresh w A B b' where
  each := fun ad hm => h.each ad (by
    have : ad ∈ b'.filterMap id := List.mem_filterMap.2 ⟨_, hm, rfl⟩
    rw [e] at this
    obtain ⟨x, h1, h2⟩ := List.mem_filterMap.1 this
    simp only [id] at h2; subst h2; exact h1)
  apart := by
    have key : ∀ l : List (Option Addr), l.Pairwise (fun x y => ∀ a b, x = Option.some a → y = Option.some b → a.block ≠ b.block) ↔ (l.filterMap id).Pairwise fun a b : Addr => a.block ≠ b.block := fun l => by
      rw [List.pairwise_filterMap]
      constructor
      · intro h; exact h.imp fun h a ha b hb => h a b ha hb
      · intro h; exact h.imp fun h a b ha hb => h a ha b hb
    rw [key, e, ← key]; exact h.apart
def ReadsN (d d' : D) : Prop := ∀ (w : World) (A : Nat → Prop) (u : Value) (bl : List (Option Addr)), RepO w A d u bl → ∃ bl', RepO w A d' u bl' ∧ SomeEq bl bl'
theorem ReadsN.refl (d : D) : ReadsN d d := fun _ _ _ bl h => ⟨bl, h, rfl⟩
theorem ReadsN.nil {cols : List Col0} (h : rowLen0 cols = 0) : ReadsN (.v (.slice none 0 0)) (.oc cols) := fun w A u bl hr => by
  simp only [RepO, RepS] at hr
  obtain ⟨rfl, rfl⟩ := hr
  refine ⟨[none], ?_, rfl⟩
  simp only [RepO]
  refine ⟨none, 0, by rw [h], .inl ⟨h, rfl, ?_, trivial⟩⟩
  apply List.length_eq_zero_iff.1
  rw [rowCells0_length, h]; simp
inductive ReadsNs : List D → List D → Prop
  | nil : ReadsNs [] []
  | cons {d e : D} {ds es : List D} : ReadsN d e → ReadsNs ds es → ReadsNs (d :: ds) (e :: es)
theorem ReadsNs.refl : ∀ ds : List D, ReadsNs ds ds
  | [] => .nil
  | d :: ds => .cons (.refl d) (ReadsNs.refl ds)
theorem ReadsNs.repOs {ds es : List D} (h : ReadsNs ds es) : ∀ {w : World} {A : Nat → Prop} {vs : List Value} {bl : List (Option Addr)}, RepOs w A ds vs bl → ∃ bl', RepOs w A es vs bl' ∧ SomeEq bl bl' := by
  induction h with
  | nil => intro w A vs bl h; exact ⟨bl, h, rfl⟩
  | cons h _ ih =>
    intro w A vs bl hr
    simp only [RepOs] at hr ⊢
    obtain ⟨x, xs, b1, b2, rfl, rfl, h1, h2⟩ := hr
    obtain ⟨c1, k1, e1⟩ := h w A x b1 h1
    obtain ⟨c2, k2, e2⟩ := ih h2
    refine ⟨c1 ++ c2, ⟨x, xs, c1, c2, rfl, rfl, k1, k2⟩, ?_⟩
    unfold SomeEq at *
    rw [List.filterMap_append, List.filterMap_append, e1, e2]
theorem ReadsNs.agg {ds es : List D} (h : ReadsNs ds es) : ReadsN (.agg ds) (.agg es) := fun w A u bl hr => by
  simp only [RepO] at hr ⊢
  obtain ⟨vs, rfl, hr⟩ := hr
  obtain ⟨bl', k, e⟩ := h.repOs hr
  exact ⟨bl', ⟨vs, rfl, k⟩, e⟩
theorem ReadsNs.tup {ds es : List D} (h : ReadsNs ds es) : ReadsN (.tup ds) (.tup es) := fun w A u bl hr => by
  simp only [RepO] at hr ⊢
  obtain ⟨vs, rfl, hr⟩ := hr
  obtain ⟨bl', k, e⟩ := h.repOs hr
  exact ⟨bl', ⟨vs, rfl, k⟩, e⟩
theorem calls_reads {P : Program} {f : FuncId} {args : List D} {e e' : D} (h : ReadsN e e') (k : CallsD P f args e) : CallsD P f args e' := fun w A vs hv low glo => by
  refine (k w A vs hv low glo).mono ?_
  rintro r w' ⟨v, A', bl, rfl, hr, h1, h2, h3, h4, h5⟩
  obtain ⟨bl', k1, k2⟩ := h w' A' v bl hr
  exact ⟨v, A', bl', rfl, k1, h1.some k2, h2, h3, h4, h5⟩
end Go.Dam
end

section
/-! Keys in the order of their last use: plain facts on lists. -/
namespace EvS
/-- A key goes to the front. -/
def ins (k : Int) (l : List Int) : List Int := k :: l.filter (fun x => x != k)
/-- The first of each, in order. -/
def dd : List Int → List Int
  | [] => []
  | x :: r => ins x (dd r)
/-- All keys, the one used last at the front. -/
def lru (us : List Int) : List Int := dd us.reverse
theorem lru_nil : lru [] = [] := rfl
theorem lru_snoc (us : List Int) (k : Int) : lru (us ++ [k]) = ins k (lru us) := by simp [lru, dd]
theorem mem_ins {k x : Int} {l : List Int} : x ∈ ins k l ↔ x = k ∨ x ∈ l := by
  simp only [ins, List.mem_cons, List.mem_filter, bne_iff_ne, ne_eq]
  constructor
  · rintro (h | h) <;> simp [h]
  · rintro (h | h)
    · exact .inl h
    · by_cases e : x = k
      · exact .inl e
      · exact .inr ⟨h, e⟩
theorem mem_dd {x : Int} : ∀ {r : List Int}, x ∈ dd r ↔ x ∈ r
  | [] => by simp [dd]
  | y :: r => by simp only [dd, mem_ins, mem_dd (r := r), List.mem_cons]
theorem mem_lru {x : Int} {us : List Int} : x ∈ lru us ↔ x ∈ us := by simp [lru, mem_dd]
theorem ins_nodup {k : Int} {l : List Int} (h : l.Nodup) : (ins k l).Nodup := by
  simp only [ins, List.nodup_cons, List.mem_filter, bne_iff_ne, ne_eq]
  exact ⟨fun c => absurd c.2 (by simp), h.filter _⟩
theorem dd_nodup : ∀ r : List Int, (dd r).Nodup
  | [] => by simp [dd]
  | _ :: r => ins_nodup (dd_nodup r)
theorem lru_nodup (us : List Int) : (lru us).Nodup := dd_nodup _
theorem filter_self {k : Int} {l : List Int} (h : k ∉ l) : l.filter (fun x => x != k) = l := by
  rw [List.filter_eq_self]
  intro a ha
  simp only [bne_iff_ne, ne_eq]
  rintro rfl; exact h ha
theorem ins_length {k : Int} {l : List Int} (h : l.Nodup) : (ins k l).length = if k ∈ l then l.length else l.length + 1 := by
  simp only [ins, List.length_cons]
  split
  next c =>
    have : (l.filter (fun x => x != k)).length + 1 = l.length := by
      induction l with
      | nil => simp at c
      | cons y l ih =>
        rw [List.nodup_cons] at h
        by_cases e : y = k
        · subst e
          simp only [List.filter_cons, bne_self_eq_false, Bool.false_eq_true, if_false, List.length_cons]
          rw [filter_self h.1]
        · have c' : k ∈ l := by simpa [Ne.symm e] using c
          have := ih h.2 c'
          simp only [List.filter_cons, bne_iff_ne, ne_eq, e, not_false_eq_true, if_true, List.length_cons]
          omega
    omega
  next c => rw [filter_self c]
theorem dd_snoc (x : Int) : ∀ r : List Int, dd (r ++ [x]) = if x ∈ r then dd r else dd r ++ [x]
  | [] => by simp [dd, ins]
  | y :: r => by
    simp only [List.cons_append, dd, dd_snoc x r]
    by_cases c : x ∈ r
    · simp [c]
    · rw [if_neg c]
      by_cases e : x = y
      · subst e; simp [ins]
      · have : ¬ x ∈ y :: r := by simp [e, c]
        rw [if_neg this]
        simp [ins, e]
/-- With a capacity. -/
def lruN (c : Nat) (us : List Int) : List Int := (lru us).take c
theorem filter_take {k : Int} : ∀ {l : List Int} (c : Nat), l.Nodup → ((l.take c).filter (fun x => x != k)).take (c - 1) = (l.filter (fun x => x != k)).take (c - 1)
  | [], c, _ => by simp
  | y :: l, 0, _ => by simp
  | y :: l, c + 1, h => by
    rw [List.nodup_cons] at h
    by_cases e : y = k
    · subst e
      simp only [List.take_succ_cons, List.filter_cons, bne_self_eq_false, Bool.false_eq_true, if_false, Nat.add_sub_cancel]
      rw [filter_self h.1, filter_self (fun c => h.1 (List.mem_of_mem_take c)), List.take_take, Nat.min_self]
    · simp only [List.take_succ_cons, List.filter_cons, bne_iff_ne, ne_eq, e, not_false_eq_true, if_true, Nat.add_sub_cancel]
      cases c with
      | zero => simp
      | succ c =>
        simp only [List.take_succ_cons]
        have := filter_take (k := k) (c + 1) h.2
        simp only [Nat.add_sub_cancel] at this
        rw [this]
theorem take_ins {k : Int} {l : List Int} (c : Nat) (h : l.Nodup) : (ins k (l.take c)).take c = (ins k l).take c := by
  cases c with
  | zero => simp
  | succ c =>
    simp only [ins, List.take_succ_cons]
    have := filter_take (k := k) (c + 1) h
    simp only [Nat.add_sub_cancel] at this
    rw [this]
theorem lruN_snoc (c : Nat) (us : List Int) (k : Int) : lruN c (us ++ [k]) = (ins k (lruN c us)).take c := by
  unfold lruN; rw [lru_snoc, take_ins c (lru_nodup us)]
theorem lruN_len (c : Nat) (us : List Int) : (lruN c us).length ≤ c := by unfold lruN; rw [List.length_take]; omega
theorem lruN_nodup (c : Nat) (us : List Int) : (lruN c us).Nodup := (lru_nodup us).sublist (List.take_sublist _ _)
/-- The reach of a use. -/
def rc (pre : List Int) (k : Int) : Int := if k ∈ pre then ((lru pre).idxOf k : Int) else -1
def reachL (us : List Int) : List Int := (List.range us.length).map fun i => rc (us.take i) (us.getD i 0)
theorem reachL_nil : reachL [] = [] := rfl
theorem reachL_len (us : List Int) : (reachL us).length = us.length := by simp [reachL]
theorem reachL_snoc (us : List Int) (k : Int) : reachL (us ++ [k]) = reachL us ++ [rc us k] := by
  unfold reachL
  rw [List.length_append, List.length_singleton, List.range_succ, List.map_append]
  congr 1
  · apply List.map_congr_left
    intro i hi
    rw [List.mem_range] at hi
    rw [List.take_append_of_le_length (by omega), List.getD_eq_getElem?_getD, List.getD_eq_getElem?_getD, List.getElem?_append_left hi]
  · simp [List.getD_eq_getElem?_getD]
theorem reachL_getD (us : List Int) (i : Nat) (h : i < us.length) : (reachL us).getD i 0 = rc (us.take i) (us.getD i 0) := by
  simp [reachL, List.getD_eq_getElem?_getD, List.getElem?_range h]
theorem idxOf_lt_iff {k : Int} : ∀ {l : List Int} (c : Nat), k ∈ l → (l.idxOf k < c ↔ k ∈ l.take c)
  | [], c, h => by simp at h
  | y :: l, 0, _ => by simp
  | y :: l, c + 1, h => by
    by_cases e : y = k
    · subst e; simp
    · have h' : k ∈ l := by simpa [Ne.symm e] using h
      have := idxOf_lt_iff c h'
      have e2 : (y :: l).idxOf k = l.idxOf k + 1 := by
        have : (y == k) = false := by simp [e]
        simp [List.idxOf_cons, this]
      rw [e2, List.take_succ_cons, List.mem_cons, ← this]
      simp [Ne.symm e]
theorem hit_iff (c : Nat) (pre : List Int) (k : Int) : (0 ≤ rc pre k ∧ rc pre k < (c : Int)) ↔ k ∈ lruN c pre := by
  unfold rc lruN
  split
  next h =>
    rw [← idxOf_lt_iff c (mem_lru.2 h)]
    omega
  next h =>
    constructor
    · omega
    · intro m; exact absurd (mem_lru.1 (List.mem_of_mem_take m)) h
theorem rc_le (pre : List Int) (k : Int) : -1 ≤ rc pre k ∧ rc pre k < (pre.length : Int) := by
  unfold rc
  split
  next h =>
    have h1 := List.idxOf_lt_length_iff.2 (mem_lru.2 h)
    have h2 : (lru pre).length ≤ pre.length := by
      unfold lru
      rw [← List.length_reverse (as := pre)]
      generalize pre.reverse = r
      clear h h1
      induction r with
      | nil => simp [dd]
      | cons y r ih => simp only [dd, ins, List.length_cons]; have := List.length_filter_le (fun x => x != y) (dd r); omega
    omega
  next h => omega
/-- The uses that hit. -/
def hitsL (c : Nat) (us : List Int) : Nat := (reachL us).countP fun r => decide (0 ≤ r ∧ r < (c : Int))
theorem hitsL_snoc (c : Nat) (us : List Int) (k : Int) : hitsL c (us ++ [k]) = hitsL c us + if k ∈ lruN c us then 1 else 0 := by
  unfold hitsL
  rw [reachL_snoc, List.countP_append, List.countP_singleton]
  simp only [decide_eq_true_eq, hit_iff]
/-- The keys that are evicted. -/
def gone (c : Nat) (pre : List Int) (k : Int) : Bool := decide (k ∉ lruN c pre ∧ (lruN c pre).length = c)
def evU (c : Nat) (us : List Int) : List Int := ((List.range us.length).filter fun i => gone c (us.take i) (us.getD i 0)).map fun (i : Nat) => (i : Int)
def evK (c : Nat) (us : List Int) : List Int := ((List.range us.length).filter fun i => gone c (us.take i) (us.getD i 0)).map fun i => (lruN c (us.take i)).getD (c - 1) 0
theorem ev_filter (c : Nat) (us : List Int) (k : Int) : ((List.range (us ++ [k]).length).filter fun i => gone c ((us ++ [k]).take i) ((us ++ [k]).getD i 0)) =
    ((List.range us.length).filter fun i => gone c (us.take i) (us.getD i 0)) ++ if gone c us k then [us.length] else [] := by
  rw [List.length_append, List.length_singleton, List.range_succ, List.filter_append]
  congr 1
  · apply List.filter_congr
    intro i hi
    rw [List.mem_range] at hi
    rw [List.take_append_of_le_length (by omega), List.getD_eq_getElem?_getD, List.getD_eq_getElem?_getD, List.getElem?_append_left hi]
  · simp only [List.filter_cons, List.filter_nil, List.take_left', List.getD_eq_getElem?_getD]
    simp
theorem evU_snoc (c : Nat) (us : List Int) (k : Int) : evU c (us ++ [k]) = evU c us ++ if gone c us k then [(us.length : Int)] else [] := by
  unfold evU; rw [ev_filter, List.map_append]; split <;> simp
theorem evK_snoc (c : Nat) (us : List Int) (k : Int) : evK c (us ++ [k]) = evK c us ++ if gone c us k then [(lruN c us).getD (c - 1) 0] else [] := by
  unfold evK; rw [ev_filter, List.map_append]
  congr 1
  · apply List.map_congr_left
    intro i hi
    have := List.mem_range.1 (List.mem_filter.1 hi).1
    rw [List.take_append_of_le_length (by omega)]
  · split <;> simp
theorem ev_len (c : Nat) (us : List Int) : (evU c us).length = (evK c us).length := by simp [evU, evK]
/-- Lists from their ends. -/
theorem snoc_ind {motive : List Int → Prop} (h0 : motive []) (h1 : ∀ us k, motive us → motive (us ++ [k])) (us : List Int) : motive us := by
  have : ∀ r : List Int, motive r.reverse := fun r => by
    induction r with
    | nil => exact h0
    | cons x r ih => rw [List.reverse_cons]; exact h1 _ _ ih
  have h := this us.reverse
  rwa [List.reverse_reverse] at h
/-- Uses, hits, evictions, keys that are there. -/
theorem ev_count (c : Nat) (us : List Int) : (evU c us).length + hitsL c us + (lruN c us).length = us.length := by
  induction us using snoc_ind with
  | h0 => simp [evU, hitsL, lruN, lru, dd, reachL]
  | h1 us k ih =>
    have h1 := lruN_len c us
    have h2 := ins_length (k := k) (lruN_nodup c us)
    rw [evU_snoc, hitsL_snoc, lruN_snoc, List.length_append, List.length_append, List.length_singleton, List.length_take, h2]
    unfold gone
    by_cases m : k ∈ lruN c us
    · simp [m]; omega
    · by_cases f : (lruN c us).length = c
      · simp [m, f]; omega
      · simp [m, f]; omega
theorem lru_len_snoc (us : List Int) (k : Int) : (lru (us ++ [k])).length = (lru us).length + if k ∈ us then 0 else 1 := by
  rw [lru_snoc, ins_length (lru_nodup us)]
  simp only [mem_lru]
  split <;> omega
/-- The uses of keys that were not used before. -/
theorem lru_len (us : List Int) : (lru us).length = (reachL us).countP fun r => decide (r < 0) := by
  induction us using snoc_ind with
  | h0 => rfl
  | h1 us k ih =>
  rw [lru_len_snoc, reachL_snoc, List.countP_append, ih, List.countP_singleton]
  unfold rc
  by_cases m : k ∈ us
  · have : ¬ ((List.idxOf k (lru us) : Nat) : Int) < 0 := by omega
    simp [m, this]
  · simp [m]
/-- The greatest reach (or 0). -/
def mostR (us : List Int) : Int := (reachL us).foldl max 0
theorem foldl_max (l : List Int) (a : Int) : l.foldl max a = max a (l.foldl max 0) ∨ a < 0 := by
  by_cases h : a < 0
  · exact .inr h
  · refine .inl ?_
    induction l generalizing a with
    | nil => simp; omega
    | cons x l ih =>
      simp only [List.foldl_cons]
      rw [ih (max a x) (by omega)]
      have := ih (max 0 x) (by omega)
      rw [this]; omega
theorem mostR_snoc (us : List Int) (k : Int) : mostR (us ++ [k]) = max (mostR us) (rc us k) := by
  unfold mostR; rw [reachL_snoc, List.foldl_append]; rfl
theorem mostR_nonneg (us : List Int) : 0 ≤ mostR us := by
  induction us using snoc_ind with
  | h0 => simp [mostR, reachL]
  | h1 us k ih =>
  rw [mostR_snoc]; omega
theorem mostR_le (us : List Int) : mostR us ≤ (us.length : Int) := by
  induction us using snoc_ind with
  | h0 => simp [mostR, reachL]
  | h1 us k ih =>
  have := rc_le us k
  rw [mostR_snoc, List.length_append, List.length_singleton]; omega
/-- The uses of keys that were used before. -/
def againL (us : List Int) : Nat := (reachL us).countP fun r => decide (0 ≤ r)
theorem againL_snoc (us : List Int) (k : Int) : againL (us ++ [k]) = againL us + if k ∈ us then 1 else 0 := by
  unfold againL
  rw [reachL_snoc, List.countP_append, List.countP_singleton]
  unfold rc
  by_cases m : k ∈ us <;> simp [m]
theorem hits_again (n : Nat) (hn : 1 ≤ n) (us : List Int) : hitsL n us ≤ againL us ∧ ((hitsL n us < againL us) ↔ (n : Int) ≤ mostR us) := by
  induction us using snoc_ind with
  | h0 => simp [hitsL, againL, reachL, mostR]; omega
  | h1 us k ih =>
    rw [hitsL_snoc, againL_snoc, mostR_snoc]
    have h := hit_iff n us k
    have r := rc_le us k
    by_cases m : k ∈ us
    · have h0 : 0 ≤ rc us k := by unfold rc; rw [if_pos m]; omega
      rw [if_pos m]
      by_cases hm : k ∈ lruN n us
      · have := (h.2 hm).2
        rw [if_pos hm]
        omega
      · have : ¬ rc us k < (n : Int) := fun c => hm (h.1 ⟨h0, c⟩)
        rw [if_neg hm]
        omega
    · have h0 : rc us k = -1 := by unfold rc; rw [if_neg m]
      have hm : k ∉ lruN n us := fun c => by have := (h.2 c).1; omega
      rw [if_neg m, if_neg hm, h0]
      omega
/-- Is a capacity too small? -/
theorem hits_lt (n : Nat) (hn : 1 ≤ n) (us : List Int) : hitsL n us < againL us ↔ (n : Int) ≤ mostR us := (hits_again n hn us).2
/-! A greater capacity. -/
theorem lruN_prefix {a b : Nat} (h : a ≤ b) (us : List Int) : lruN a us = (lruN b us).take a := by
  unfold lruN; rw [List.take_take, Nat.min_eq_left h]
theorem hits_mono {a b : Nat} (h : a ≤ b) (us : List Int) : hitsL a us ≤ hitsL b us := by
  unfold hitsL
  apply List.countP_mono_left
  intro x _ hx
  simp only [decide_eq_true_eq] at hx ⊢
  omega
theorem gone_mono {a b : Nat} (h : a ≤ b) (us : List Int) (k : Int) (g : gone b us k = true) : gone a us k = true := by
  unfold gone at *
  simp only [decide_eq_true_eq] at *
  rw [lruN_prefix h]
  refine ⟨fun c => g.1 (List.mem_of_mem_take c), ?_⟩
  rw [List.length_take]; omega
/-- Where the greater one evicts, the lesser one does, too. -/
theorem evU_sub {a b : Nat} (h : a ≤ b) (us : List Int) : (evU b us).Sublist (evU a us) := by
  unfold evU
  apply List.Sublist.map
  have : ((List.range us.length).filter fun i => gone b (us.take i) (us.getD i 0)) = (((List.range us.length).filter fun i => gone a (us.take i) (us.getD i 0)).filter fun i => gone b (us.take i) (us.getD i 0)) := by
    rw [List.filter_filter]
    apply List.filter_congr
    intro i _
    cases e : gone b (us.take i) (us.getD i 0) with
    | false => simp
    | true => rw [gone_mono h _ _ e]; rfl
  rw [this]
  exact List.filter_sublist
theorem evU_sorted (c : Nat) (us : List Int) : (evU c us).Pairwise (· < ·) := by
  unfold evU
  rw [List.pairwise_map]
  apply List.Pairwise.filter
  refine List.pairwise_lt_range.imp ?_
  intro a b h
  omega
end EvS
namespace EvS
/-! The last use of a key; how many keys were used behind it. -/
def lastI (pre : List Int) (x : Int) : Int := (pre.length : Int) - 1 - (pre.reverse.idxOf x : Int)
theorem lastI_snoc (pre : List Int) (k x : Int) : lastI (pre ++ [k]) x = if x = k then (pre.length : Int) else lastI pre x := by
  unfold lastI
  rw [List.reverse_append, List.reverse_singleton, List.singleton_append, List.length_append, List.length_singleton, List.idxOf_cons]
  by_cases e : x = k
  · subst e; simp
  · have : (k == x) = false := by simp [Ne.symm e]
    rw [this, if_neg e]
    simp only [cond_false]
    omega
theorem lastI_lt (pre : List Int) (x : Int) : lastI pre x < (pre.length : Int) := by unfold lastI; omega
theorem lru_desc (pre : List Int) : (lru pre).Pairwise fun a b => lastI pre b < lastI pre a := by
  induction pre using snoc_ind with
  | h0 => simp [lru, dd]
  | h1 us k ih =>
    rw [lru_snoc]
    unfold ins
    rw [List.pairwise_cons]
    constructor
    · intro b hb
      rw [List.mem_filter] at hb
      have hne : b ≠ k := by simpa using hb.2
      rw [lastI_snoc, lastI_snoc, if_neg hne, if_pos rfl]
      exact lastI_lt us b
    · have h1 := (ih.filter (fun x => x != k))
      apply List.Pairwise.imp_of_mem _ h1
      intro a b ha hb h
      rw [List.mem_filter] at ha hb
      have hna : a ≠ k := by simpa using ha.2
      have hnb : b ≠ k := by simpa using hb.2
      rw [lastI_snoc, lastI_snoc, if_neg hna, if_neg hnb]
      exact h
theorem countP_desc {f : Int → Int} {k : Int} : ∀ {l : List Int}, l.Pairwise (fun a b => f b < f a) → k ∈ l → l.countP (fun x => decide (f k < f x)) = l.idxOf k
  | [], _, h => by simp at h
  | y :: l, hp, h => by
    rw [List.pairwise_cons] at hp
    rw [List.countP_cons, List.idxOf_cons]
    by_cases e : y = k
    · subst e
      have : l.countP (fun x => decide (f y < f x)) = 0 := by
        rw [List.countP_eq_zero]
        intro a ha
        have := hp.1 a ha
        simp only [decide_eq_true_eq]; omega
      rw [this]; simp
    · have h' : k ∈ l := by simpa [Ne.symm e] using h
      have h2 := hp.1 k h'
      have : (y == k) = false := by simp [e]
      rw [countP_desc hp.2 h', this]
      simp [h2]
/-- How many of the keys that have come lie behind a place. -/
def cntV (L : List Int) (f : Int → Int) (a : Int) (left : Int → Bool) : Nat := L.countP fun k => !left k && decide (a < f k)
theorem cnt_start {L : List Int} {f : Int → Int} {a : Int} {left : Int → Bool} (h : ∀ k ∈ L, left k = true) : cntV L f a left = 0 := by
  unfold cntV
  rw [List.countP_eq_zero]
  intro k hk
  simp [h k hk]
theorem cnt_end {L : List Int} {f : Int → Int} {a : Int} {left : Int → Bool} (h : ∀ k, left k = false) : cntV L f a left = L.countP fun k => decide (a < f k) := by
  unfold cntV; simp [h]
theorem cnt_step {f : Int → Int} {a x : Int} {left : Int → Bool} : ∀ {L : List Int}, L.Nodup → x ∈ L → left x = true →
    cntV L f a (fun k => left k && !decide (k = x)) = cntV L f a left + if a < f x then 1 else 0
  | [], _, h, _ => by simp at h
  | y :: L, hn, h, hl => by
    rw [List.nodup_cons] at hn
    simp only [cntV, List.countP_cons]
    by_cases e : y = x
    · subst e
      have : L.countP (fun k => !(left k && !decide (k = y)) && decide (a < f k)) = L.countP (fun k => !left k && decide (a < f k)) := by
        apply List.countP_congr
        intro k hk
        have : k ≠ y := fun e => hn.1 (e ▸ hk)
        simp [this]
      rw [this]; simp [hl]
    · have h' : x ∈ L := by simpa [Ne.symm e] using h
      have := cnt_step (f := f) (a := a) hn.2 h' hl
      simp only [cntV] at this
      rw [this]; simp [e]; omega
theorem cnt_le {L : List Int} {f : Int → Int} {a : Int} {left : Int → Bool} : cntV L f a left ≤ L.length := List.countP_le_length
theorem rc_count {pre : List Int} {k : Int} (h : k ∈ pre) : (((lru pre).countP fun x => decide (lastI pre k < lastI pre x) : Nat) : Int) = rc pre k := by
  rw [countP_desc (lru_desc pre) (mem_lru.2 h)]
  unfold rc; rw [if_pos h]
theorem lru_le (us : List Int) : (lru us).length ≤ us.length := by
  induction us using snoc_ind with
  | h0 => simp [lru, dd]
  | h1 us k ih => rw [lru_len_snoc, List.length_append, List.length_singleton]; split <;> omega
end EvS
namespace EvS
theorem ord_step (c : Nat) (pre : List Int) (x : Int) : (dd (pre ++ [x])).take c = if x ∉ pre ∧ ((dd pre).take c).length < c then (dd pre).take c ++ [x] else (dd pre).take c := by
  rw [dd_snoc]
  by_cases m : x ∈ pre
  · simp [m]
  · rw [if_neg m, List.take_append, List.length_take]
    by_cases h : (dd pre).length < c
    · have h2 : min c (dd pre).length < c := by omega
      have h3 : 1 ≤ c - (dd pre).length := by omega
      rw [if_pos ⟨m, h2⟩, List.take_of_length_le (l := [x]) h3]
    · have h2 : ¬ min c (dd pre).length < c := by omega
      rw [if_neg (fun q => h2 q.2), show c - (dd pre).length = 0 by omega]; simp
end EvS
namespace EvS
theorem dd_prefix (a : List Int) : ∀ b : List Int, ∃ t, dd (a ++ b) = dd a ++ t := fun b => by
  induction b using snoc_ind with
  | h0 => exact ⟨[], by simp⟩
  | h1 b k ih =>
    obtain ⟨t, ht⟩ := ih
    rw [← List.append_assoc, dd_snoc]
    split
    · exact ⟨t, ht⟩
    · exact ⟨t ++ [k], by rw [ht, List.append_assoc]⟩
theorem split_idx {k : Int} : ∀ {r : List Int}, k ∈ r → r = r.take (r.idxOf k) ++ k :: r.drop (r.idxOf k + 1) ∧ k ∉ r.take (r.idxOf k)
  | [], h => by simp at h
  | x :: r, h => by
    rw [List.idxOf_cons]
    by_cases e : x = k
    · subst e; simp
    · have h' : k ∈ r := by simpa [Ne.symm e] using h
      have hb : (x == k) = false := by simp [e]
      obtain ⟨h1, h2⟩ := split_idx h'
      rw [hb, cond_false]
      constructor
      · simp only [List.take_succ_cons, List.drop_succ_cons, List.cons_append]
        rw [← h1]
      · simp only [List.take_succ_cons, List.mem_cons, not_or]
        exact ⟨Ne.symm e, h2⟩
theorem idxOf_mid {k : Int} : ∀ {a : List Int} (t : List Int), k ∉ a → (a ++ k :: t).idxOf k = a.length
  | [], t, _ => by simp
  | x :: a, t, h => by
    simp only [List.mem_cons, not_or] at h
    have hb : (x == k) = false := by simp [Ne.symm h.1]
    rw [List.cons_append, List.idxOf_cons, hb, cond_false, idxOf_mid t h.2]; simp
/-- How many keys lie ahead of one: those used behind its last use. -/
theorem dd_idx {k : Int} {r : List Int} (h : k ∈ r) : (dd r).idxOf k = (dd (r.take (r.idxOf k))).length := by
  obtain ⟨h1, h2⟩ := split_idx h
  generalize r.take (r.idxOf k) = a at *
  generalize r.drop (r.idxOf k + 1) = b at *
  have e : r = (a ++ [k]) ++ b := by rw [h1]; simp
  obtain ⟨t, ht⟩ := dd_prefix (a ++ [k]) b
  rw [e, ht, dd_snoc, if_neg h2, List.append_assoc, List.singleton_append]
  exact idxOf_mid t fun q => h2 (mem_dd.1 q)
theorem usG_is (c : Nat) (us : List Int) (k : Int) : decide (c < (ins k (lruN c us)).length) = gone c us k := by
  unfold gone
  have h1 := ins_length (k := k) (lruN_nodup c us)
  have h2 := lruN_len c us
  by_cases m : k ∈ lruN c us
  · rw [if_pos m] at h1; simp [m, h1]; omega
  · rw [if_neg m] at h1
    by_cases f : (lruN c us).length = c
    · simp [m, f, h1]
    · simp [m, f, h1]; omega
theorem usK_is (c : Nat) (hc : 1 ≤ c) (us : List Int) (k : Int) (g : gone c us k = true) : (ins k (lruN c us)).getD c 0 = (lruN c us).getD (c - 1) 0 := by
  unfold gone at g
  simp only [decide_eq_true_eq] at g
  unfold ins
  rw [filter_self g.1]
  obtain ⟨d, rfl⟩ : ∃ d, c = d + 1 := ⟨c - 1, by omega⟩
  simp
end EvS
namespace EvS
theorem foldl_max2 : ∀ (l : List Int) (a b : Int), max b (l.foldl max a) = l.foldl max (max b a)
  | [], _, _ => rfl
  | x :: l, a, b => by
    simp only [List.foldl_cons]
    rw [foldl_max2 l (max a x) b]
    congr 1
    omega
theorem max_need (L : List Int) : max 0 ((L ++ [0]).foldl max ((L ++ [0]).getD 0 0)) = L.foldl max 0 := by
  rw [foldl_max2, List.foldl_append]
  simp only [List.foldl_cons, List.foldl_nil]
  have h : ∀ (l : List Int) (a : Int), 0 ≤ a → 0 ≤ l.foldl max a := fun l => by
    induction l with
    | nil => intro a h; exact h
    | cons x l ih => intro a h; simp only [List.foldl_cons]; exact ih _ (by omega)
  cases L with
  | nil => simp
  | cons x t =>
    simp only [List.cons_append, List.getD_cons_zero, List.foldl_cons]
    have := h t (max (max 0 x) x) (by omega)
    rw [Int.max_eq_left this]
    congr 1
    omega
end EvS
end

section
namespace Go.Dam
open Go Go.RowKit
set_option linter.unusedSectionVars false
set_option linter.unusedSimpArgs false
set_option linter.unusedVariables false
variable [Glo]
/-! From the kit's own rows to results of the abstract machine. -/
theorem repAt_vals {w : World} {A : Nat → Prop} : ∀ (xs : List Value) (ad : Addr), ad.spot = none → (∀ j u, xs[j]? = some u → w.cell? (plusOff ad j) = some u) → RepAt w A (xs.map D.v) ad
  | [], _, _, _ => by simp [RepAt]
  | x :: xs, ad, hs, h => by
    simp only [List.map_cons, RepAt]
    refine ⟨⟨x, ?_, by simp [RepS]⟩, repAt_vals xs _ rfl fun j u hj => ?_⟩
    · have h0 := h 0 x (by simp)
      have : plusOff ad 0 = ad := by cases ad; simp at hs; simp [plusOff, hs]
      rwa [this] at h0
    · have h1 := h (j + 1) u (by simpa using hj)
      rw [plusOff_plus, Nat.add_comm 1 j]; exact h1
def OwnBl (w : World) (base : Nat) (bl : List (Option Addr)) : Prop := bl = [none] ∨ ∃ ad : Addr, bl = [some ad] ∧ base ≤ ad.block ∧ ad.block < w.heap.size
theorem repO_own {w : World} {A : Nat → Prop} {base e : Nat} {cols : List Col0} {v : Value} {xs : List Value} (hc : 0 < cols.length) (h : w.ownsRow base e cols.length v (rowLen0 cols) xs) (hx : rowCells0 cols = xs.map D.v) :
    ∃ bl, RepO w A (.oc cols) v bl ∧ OwnBl w base bl := by
  obtain ⟨h0, h1⟩ := h
  rcases h1 with ⟨rfl, hz⟩ | ⟨g, cap, cur, rfl, hb, hg, hl, _, hs, ht⟩
  · refine ⟨[none], ?_, .inl rfl⟩
    simp only [RepO]
    refine ⟨none, 0, by rw [hz], .inl ⟨hz, rfl, ?_, trivial⟩⟩
    apply List.length_eq_zero_iff.1
    rw [rowCells0_length, hz]; simp
  · refine ⟨[some ⟨g, 0, none⟩], ?_, .inr ⟨_, rfl, hb, (Array.getElem?_eq_some_iff.1 hg).1⟩⟩
    simp only [RepO]
    refine ⟨_, cap, rfl, .inr ⟨hl, _, rfl, rfl, rfl, ⟨cur, e, hg, by simp [hs], by simp⟩, ?_⟩⟩
    rw [hx]
    refine repAt_vals _ _ rfl fun j u hj => ?_
    have : w.cell? ⟨g, 0 + j, none⟩ = cur[0 + j]? := cell_of_obj hg
    show w.cell? ⟨g, 0 + j, none⟩ = _
    rw [this, Nat.zero_add]
    rw [← ht, List.getElem?_take] at hj
    split at hj
    · simpa using hj
    · cases hj
theorem OwnBl.fresh {w : World} {A : Nat → Prop} {B base : Nat} {bl : List (Option Addr)} (h : OwnBl w base bl) (hB : B ≤ base) (hA : ∀ k, A k → k < B) : Fresh w A B bl where
  each := fun ad hm => by
    rcases h with rfl | ⟨a, rfl, h1, h2⟩
    · simp at hm
    · simp only [List.mem_singleton, Option.some.injEq] at hm
      subst hm
      exact ⟨by omega, h2, fun c => by have := hA _ c; omega⟩
  apart := by
    rcases h with rfl | ⟨a, rfl, _⟩ <;> simp
theorem rowCells0_one_ints (k : IntKind) (xs : List Int) : rowCells0 [.ints k xs] = (xs.map (Value.int k)).map D.v := by
  apply List.ext_getElem?
  intro m
  rw [rc0_get]
  simp only [rowLen0, Col0.len, List.length_singleton, Nat.mul_one, Nat.div_one, Nat.mod_one, List.getElem?_cons_zero, Option.map_some, Col0.val, List.getElem?_map]
  split
  next h => rw [List.getElem?_eq_getElem h]; simp [List.getD_eq_getElem?_getD, List.getElem?_eq_getElem h]
  next h => rw [List.getElem?_eq_none (by omega)]; rfl
/-- A row of numbers that came in: nothing, or cells. -/
theorem open_ri {w : World} {A : Nat → Prop} {k : IntKind} {xs : List Int} {u : Value} (h : RepS w A (.rc [.ints k xs]) u) :
    ∃ o cp, u = .slice o xs.length cp ∧ xs.length ≤ cp ∧ (xs.length ≠ 0 → ∃ b off, o = some ⟨b, off, none⟩ ∧ A b ∧ ∀ j, j < xs.length → w.cell? ⟨b, off + j, none⟩ = some (.int k (xs.getD j 0))) := by
  simp only [RepS] at h
  obtain ⟨o, cp, rfl, _, h1, h2, h3⟩ := h
  refine ⟨o, cp, rfl, h1, fun h0 => ?_⟩
  obtain ⟨⟨b, off, sp⟩, rfl, hs, ha⟩ := h2 h0
  simp only at hs ha; subst hs
  refine ⟨b, off, rfl, ha, fun j hj => ?_⟩
  obtain ⟨x, h4, h5⟩ := h3 j 0 _ hj rfl
  simp only [RepC] at h5; subst h5
  simpa [plusOff] using h4
end Go.Dam
end
