/- What the functions compute, and the law. No condition. -/
import Derived.Test.YtakcfkmfiamliaaTaTZ
set_option linter.unusedSectionVars false
set_option linter.unusedVariables false
set_option linter.unusedSimpArgs false
section
namespace TableS
open Go Go.Dam Go.Proofs
set_option maxRecDepth 1000000
/-! What is right by the reference is right by the code: arenas and orders. -/
theorem chain_prefix {nx : List Int} : ∀ {d : Nat} {i : Int} {l l' : List Int}, chain nx d i l = some l' → ∃ t, l' = l ++ t
 | 0, _, _, _, h => by cases h
 | d + 1, i, l, l', h => by
  simp only [chain] at h
  split at h
  ·simp only [Option.some.injEq] at h; exact ⟨[], by simp [h]⟩
  ·split at h
   ·cases h
   ·obtain ⟨t, e⟩ := chain_prefix h
    exact ⟨i :: t, by rw [e]; simp⟩
def seenU (n : Nat) (us ys : List Bool) (l : List Int) : Prop := ys.length = n ∧ ∀ j, j < n → ys.getD j false = (us.getD j false || decide ((j : Int) ∈ l))
theorem seenU_set {n : Nat} {us ys : List Bool} {l : List Int} (h : seenU n us ys l) {i : Int} (h0 : 0 ≤ i) (h1 : i < (n : Int)) : seenU n us (ys.set i.toNat true) (l ++ [i]) := by
 refine ⟨by simpa using h.1, fun j hj => ?_⟩
 have hl := h.1
 by_cases e : i.toNat = j
 ·subst e
  have : i = ((i.toNat : Nat) : Int) := by omega
  simp only [List.getD_eq_getElem?_getD]
  rw [List.getElem?_set_self (by omega)]
  simp [← this]
 ·have := h.2 j hj
  simp only [List.getD_eq_getElem?_getD] at this ⊢
  rw [List.getElem?_set_ne e, this]
  have : (j : Int) ≠ i := by omega
  simp [this]
theorem chain_walkA {nx : List Int} {us : List Bool} : ∀ (d : Nat) (i : Int) (ys : List Bool) (l l' : List Int), seenU nx.length us ys l → chain nx d i l = some l' → (∀ x ∈ l', us.getD x.toNat false = false) →
  ∃ ys', walkA nx d i ys = some ys' ∧ seenU nx.length us ys' l'
 | 0, _, _, _, _, _, h, _ => by cases h
 | d + 1, i, ys, l, l', hs, h, hu => by
  simp only [chain] at h
  simp only [walkA]
  by_cases c1 : i = -1
  ·rw [if_pos c1] at h ⊢
   simp only [Option.some.injEq] at h; subst h
   exact ⟨ys, rfl, hs⟩
  ·rw [if_neg c1] at h ⊢
   split at h
   ·cases h
   next c2 =>
    have h0 : 0 ≤ i := by omega
    have h1 : i < (nx.length : Int) := by omega
    have hm : i ∉ l := fun hm => c2 (.inr (.inr hm))
    obtain ⟨t, e⟩ := chain_prefix h
    have hi : us.getD i.toNat false = false := hu i (by rw [e]; simp)
    have hy : ys.getD i.toNat false = false := by
     rw [hs.2 i.toNat (by omega), hi, show ((i.toNat : Nat) : Int) = i by omega]; simpa using hm
    rw [if_neg (by rw [hy]; rintro (c | c | c) <;> first | omega | cases c)]
    exact chain_walkA d _ _ _ _ (seenU_set hs h0 h1) h hu
theorem c13V_is {nx : List Int} {us : List Bool} {f : Int} (h : c13V nx us f = 0) : 1 ≤ nx.length ∧ nx.length ≤ 16 ∧ us.length = nx.length ∧ chB nx f = true ∧ ∀ i, i < nx.length → c13Bad nx us f i = false := by
 unfold c13V at h; split at h
 next c =>
  split at h
  next d => exact ⟨c.1, c.2.1, c.2.2.1, c.2.2.2, fun i hi => (findI_lt _ 0).1 d i (by omega) (by omega)⟩
  next => cases h
 next => cases h
theorem bne_both {a b : Bool} (h : (a == b) = false) : a = !b := by cases a <;> cases b <;> simp_all
theorem akV_of {nx : List Int} {us : List Bool} {f : Int} (h : c13V nx us f = 0) : akV nx us f = 0 := by
 obtain ⟨c1, c2, c3, c4, c5⟩ := c13V_is h
 have ho := chB_okL c4
 have hu : ∀ j, j < nx.length → us.getD j false = !inB (chL nx f) j := fun j hj => by
  have := c5 j hj
  simp only [c13Bad, Bool.or_eq_false_iff] at this
  exact bne_both this.1
 obtain ⟨ys, e, hs⟩ := chain_walkA (nx := nx) (us := us) (nx.length + 1) f us [] (chL nx f) ⟨c3, fun j hj => by simp⟩ (chB_chain c4) fun x hx => by
  have hb := ho.2 x hx
  rw [hu x.toNat (by omega), show ((x.toNat : Nat) : Int) = x by omega]
  simpa [inB] using hx
 unfold akV
 rw [if_pos ⟨c1, c2, c3⟩, e]
 simp only
 rw [if_pos]
 rw [findI_lt]
 intro j _ hj
 have hj : j < nx.length := by omega
 have h1 := hs.2 j hj
 have h2 := c5 j hj
 simp only [c13Bad, Bool.or_eq_false_iff] at h2
 have h3 := hu j hj
 simp only [akBad, h2.2, Bool.or_false]
 rw [h1, h3]
 unfold inB
 by_cases m : (j : Int) ∈ chL nx f <;> simp [m]
theorem getD_set_self {l : List Int} {i : Nat} {x : Int} (h : i < l.length) : (l.set i x).getD i 0 = x := by
 rw [List.getD_eq_getElem?_getD, List.getElem?_set_self h]; rfl
theorem getD_set_ne {l : List Int} {i j : Nat} {x : Int} (h : i ≠ j) : (l.set i x).getD j 0 = l.getD j 0 := by
 rw [List.getD_eq_getElem?_getD, List.getElem?_set_ne h, ← List.getD_eq_getElem?_getD]
theorem nodup_getD {l : List Int} (h : l.Nodup) {i j : Nat} (hi : i < l.length) (hj : j < l.length) (e : l.getD i 0 = l.getD j 0) : i = j := by
 rw [List.getD_eq_getElem?_getD, List.getD_eq_getElem?_getD, List.getElem?_eq_getElem hi, List.getElem?_eq_getElem hj] at e
 exact (List.getElem_inj h).1 e
theorem okL_getD {n : Nat} {l : List Int} (h : okL n l) {i : Nat} (hi : i < l.length) : 0 ≤ l.getD i 0 ∧ l.getD i 0 < (n : Int) := by
 apply h.2
 rw [List.getD_eq_getElem?_getD, List.getElem?_eq_getElem hi]; exact List.getElem_mem hi
theorem mkP_at {n : Nat} {xs : List Int} (h : okL n xs) : ∀ m, m ≤ xs.length → (∀ k, 0 < k → k < m → (mkP n xs m).getD (xs.getD k 0).toNat 0 = xs.getD (k - 1) 0) ∧
  (∀ j, j < n → (∀ k, 0 < k → k < m → xs.getD k 0 ≠ j) → (mkP n xs m).getD j 0 = -1)
 | 0, _ => ⟨fun k _ hk => by omega, fun j hj _ => by simp [mkP, List.getD_eq_getElem?_getD, hj]⟩
 | m + 1, hm => by
  obtain ⟨i1, i2⟩ := mkP_at h m (by omega)
  by_cases c : m = 0
  ·subst c
   refine ⟨fun k a b => by omega, fun j hj _ => ?_⟩
   simp only [mkP, if_true]
   exact i2 j hj fun k a b => by omega
  ·simp only [mkP, if_neg c]
   have bm := okL_getD h (i := m) (by omega)
   refine ⟨fun k a b => ?_, fun j hj hk => ?_⟩
   ·by_cases e : k = m
    ·subst e; rw [getD_set_self (by rw [mkP_len]; omega)]
    ·have bk := okL_getD h (i := k) (by omega)
     rw [getD_set_ne (fun q => e (nodup_getD h.1 (by omega) (by omega) (by omega))), i1 k a (by omega)]
   ·rw [getD_set_ne (fun q => hk m (by omega) (by omega) (by omega)), i2 j hj fun k a b => hk k a (by omega)]
theorem mkN_at {n : Nat} {xs : List Int} (h : okL n xs) : ∀ m, m ≤ xs.length →
  (∀ j, j < n → (∀ k, k + 1 < m → xs.getD k 0 ≠ j) → (mkN n xs m).getD j 0 = -1)
 | 0, _ => fun j hj _ => by simp [mkN, List.getD_eq_getElem?_getD, hj]
 | m + 1, hm => by
  have i2 := mkN_at h m (by omega)
  by_cases c : m = 0
  ·subst c
   intro j hj _
   simp only [mkN, if_true]
   exact i2 j hj fun k b => by omega
  ·simp only [mkN, if_neg c]
   have bm := okL_getD h (i := m - 1) (by omega)
   intro j hj hk
   rw [getD_set_ne (fun q => hk (m - 1) (by omega) (by omega)), i2 j hj fun k b => hk k (by omega)]
theorem c15V_is {ps nx : List Int} {h t : Int} (e : c15V ps nx h t = 0) : 1 ≤ ps.length ∧ ps.length ≤ 16 ∧ nx.length = ps.length ∧ chB nx h = true ∧
  ps = mkP ps.length (chL nx h) (chL nx h).length ∧ nx = mkN ps.length (chL nx h) (chL nx h).length ∧ h = mkH (chL nx h) (chL nx h).length ∧ t = mkT (chL nx h) (chL nx h).length := by
 unfold c15V at e; split at e
 next c =>
  obtain ⟨c1, c2, c3, c4, c5⟩ := c
  simp only [c15S, sm15, eqB, Bool.and_eq_true, decide_eq_true_eq] at c5
  exact ⟨c1, c2, c3, c4, c5⟩
 next => cases e
theorem getD_app {l t : List Int} {k : Nat} (h : k < l.length) : (l ++ t).getD k 0 = l.getD k 0 := by
 rw [List.getD_eq_getElem?_getD, List.getElem?_append_left h, ← List.getD_eq_getElem?_getD]
theorem getD_app0 {l t : List Int} {x : Int} : (l ++ x :: t).getD l.length 0 = x := by
 rw [List.getD_eq_getElem?_getD, List.getElem?_append_right (Nat.le_refl _)]; simp
theorem chain_walkL {ps nx : List Int} (hn : nx.length = ps.length) : ∀ (d : Nat) (i : Int) (ys : List Bool) (l l' : List Int), seenAs nx.length ys l → chain nx d i l = some l' →
  (∀ k, k < l'.length → ps.getD (l'.getD k 0).toNat 0 = if k = 0 then -1 else l'.getD (k - 1) 0) →
  ∃ ys', walkL ps nx d (mkT l l.length) i ys = some (mkT l' l'.length, ys') ∧ seenAs nx.length ys' l'
 | 0, _, _, _, _, _, h, _ => by cases h
 | d + 1, i, ys, l, l', hs, h, hp => by
  simp only [chain] at h
  simp only [walkL]
  by_cases c1 : i = -1
  ·rw [if_pos c1] at h ⊢
   simp only [Option.some.injEq] at h; subst h
   exact ⟨ys, rfl, hs⟩
  ·rw [if_neg c1] at h ⊢
   split at h
   ·cases h
   next c2 =>
    have h0 : 0 ≤ i := by omega
    have h1 : i < (nx.length : Int) := by omega
    have hm : i ∉ l := fun hm => c2 (.inr (.inr hm))
    obtain ⟨t, e⟩ := chain_prefix h
    rw [List.append_assoc, List.singleton_append] at e
    have hy : ys.getD i.toNat false = false := by
     rw [hs.2 i.toNat (by omega), show ((i.toNat : Nat) : Int) = i by omega]; simpa using hm
    have hq : ps.getD i.toNat 0 = mkT l l.length := by
     have := hp l.length (by rw [e]; simp)
     rw [e, getD_app0] at this
     rw [this]
     unfold mkT
     split
     ·rfl
     next c => rw [getD_app (by omega)]
    rw [if_neg (by rw [hy, hq]; rintro (c | c | c | c) <;> first | omega | cases c | exact c rfl)]
    have := chain_walkL hn d _ _ _ _ (seenAs_set hs h0 h1) h hp
    have e2 : mkT (l ++ [i]) (l ++ [i]).length = i := by
     unfold mkT; rw [if_neg (by simp)]
     rw [show (l ++ [i]).length - 1 = l.length by simp]; exact getD_app0
    rw [e2] at this; exact this
theorem lcV_of {ps nx : List Int} {h t : Int} (e : c15V ps nx h t = 0) : lcV ps nx h t = 0 := by
 obtain ⟨c1, c2, c3, c4, e1, e2, e3, e4⟩ := c15V_is e
 have ho := chB_okL c4
 rw [c3] at ho
 obtain ⟨p1, p2⟩ := mkP_at ho _ (Nat.le_refl _)
 have n2 := mkN_at ho _ (Nat.le_refl _)
 obtain ⟨ys, w, hs⟩ := chain_walkL c3 (nx.length + 1) h (List.replicate nx.length false) [] (chL nx h) (seenAs_nil _) (chB_chain c4) fun k hk => by
  by_cases k0 : k = 0
  ·subst k0
   rw [if_pos rfl, e1]
   have b := okL_getD ho hk
   exact p2 _ (by omega) fun k' a b' q => by
    have := nodup_getD ho.1 b' hk (by omega); omega
  ·rw [if_neg k0, e1]
   exact p1 k (by omega) hk
 unfold lcV
 rw [if_pos ⟨c1, c2, c3⟩]
 have w0 : mkT [] ([] : List Int).length = -1 := rfl
 rw [w0, c3] at w
 rw [w]
 simp only
 rw [if_pos]
 refine ⟨?_, e4⟩
 rw [findI_lt]
 intro j _ hj
 have hj : j < ps.length := by omega
 have h1 := hs.2 j (by omega)
 unfold lcBad
 by_cases m : (j : Int) ∈ chL nx h
 ·rw [h1]; simp [m]
 ·have q1 : ps.getD j 0 = -1 := by
   rw [e1]
   exact p2 j hj fun k a b q => m (by rw [← q, List.getD_eq_getElem?_getD, List.getElem?_eq_getElem b]; exact List.getElem_mem b)
  have q2 : nx.getD j 0 = -1 := by
   rw [e2]
   exact n2 j hj fun k b q => m (by
    have b' : k < (chL nx h).length := by omega
    rw [← q, List.getD_eq_getElem?_getD, List.getElem?_eq_getElem b']; exact List.getElem_mem b')
  rw [q1, q2]; simp
end TableS
end

section
namespace TableS
open Go Go.Dam Go.Proofs
set_option maxRecDepth 1000000
noncomputable def pn_T  : Tr D := .s ((16 : Int) ≤ (1099511627776 : Int)) (.s ((384 : Int) ≤ (1099511627776 : Int)) (.q ((16 : Int)) (.q (true) (.q ((16 : Nat)) (.lf (D.oc [.ints .u32 (List.replicate 16 0), .ints .i64 (List.replicate 16 0), .bools (List.replicate 16 false)]))))))
theorem pn_L  : Leaves (fun l => fnX Try.prog (X11) 100000 l 40 []) (pn_T) [] [] := by show _ = _; kernel_rfl
theorem pn_calls  (res : D) (h0 : At (fun r => res = r) (pn_T) [] True) : CallsD Try.prog 40 [] res := tree_calls (hX11) (pn_L) h0
noncomputable def aw_T (nx : List Int) (us : List Bool) (f : Int) : Tr D := .s (nx.length ≤ 200) (.s (us.length ≤ 200) (.q (rowLen0 [.bools us]) (.q (rowLen0 [.ints .i64 nx]) (.lf (D.agg [D.oc [.ints .i64 nx], D.oc [.bools us], i64 f])))))
theorem aw_L (nx : List Int) (us : List Bool) (f : Int) : Leaves (fun l => fnX Try.prog (X11) 100000 l 84 [D.agg [ri nx, rb us, i64 f]]) (aw_T nx us f) [] [] := by show _ = _; kernel_rfl
theorem aw_calls (nx : List Int) (us : List Bool) (f : Int) (res : D) (h0 : At (fun r => res = r) (aw_T nx us f) [] True) : CallsD Try.prog 84 [D.agg [ri nx, rb us, i64 f]] res := tree_calls (hX11) (aw_L nx us f) h0
noncomputable def lw_T (ps : List Int) (no : List Int) (h : Int) (t : Int) : Tr D := .s (ps.length ≤ 200) (.s (no.length ≤ 200) (.q (rowLen0 [.ints .i64 no]) (.q (rowLen0 [.ints .i64 ps]) (.lf (D.agg [D.oc [.ints .i64 ps], D.oc [.ints .i64 no], i64 h, i64 t])))))
theorem lw_L (ps no : List Int) (h t : Int) : Leaves (fun l => fnX Try.prog (X11) 100000 l 90 [D.agg [ri ps, ri no, i64 h, i64 t]]) (lw_T ps no h t) [] [] := by show _ = _; kernel_rfl
theorem lw_calls (ps no : List Int) (h t : Int) (res : D) (h0 : At (fun r => res = r) (lw_T ps no h t) [] True) : CallsD Try.prog 90 [D.agg [ri ps, ri no, i64 h, i64 t]] res := tree_calls (hX11) (lw_L ps no h t) h0
noncomputable def la_T (ps : List Int) (no : List Int) (h : Int) (t : Int) : Tr D := .d (cmpI .neq (lcV ps no h t) 0) (fun e0 => .lf (D.tup [i64 0, i64 (lcV ps no h t)])) (fun e0 => .d (cmpI .eql t (-1)) (fun e1 => .lf (D.tup [i64 0, i64 6])) (fun e1 => .lf (D.tup [i64 t, i64 0])))
theorem la_L (ps no : List Int) (h t : Int) : Leaves (fun l => fnX Try.prog (X11) 100000 l 47 [D.agg [ri ps, ri no, i64 h, i64 t]]) (la_T ps no h t) [] [] := by refine ⟨fun _ => ?_, fun _ => ⟨fun _ => ?_, fun _ => ?_⟩⟩ <;> (show _ = _; kernel_rfl)
theorem la_calls (ps no : List Int) (h t : Int) (res : D) (h0 : At (fun r => res = r) (la_T ps no h t) [true] True) (h1 : At (fun r => res = r) (la_T ps no h t) [false, true] True) (h2 : At (fun r => res = r) (la_T ps no h t) [false, false] True) : CallsD Try.prog 47 [D.agg [ri ps, ri no, i64 h, i64 t]] res := tree_calls (hX11) (la_L ps no h t) ⟨fun e0 => h0 e0, fun e0 => ⟨fun e1 => h1 e0 e1, fun e1 => h2 e0 e1⟩⟩
def zc1 : List Int := List.replicate 16 0
def zc2 : List Bool := List.replicate 16 false
theorem pn_ok : CallsD Try.prog 40 [] (cco zc1 zc1 zc2) := pn_calls _ ⟨⟨by omega, by omega, trivial⟩, rfl⟩
def pnC : List D → Option (D × List Prop)
 | [] => some (cco zc1 zc1 zc2, [])
 | _ => none
theorem pnC_ok (args res l) (h : pnC args = some (res, l)) (hl : AllP l) : CallsD Try.prog 40 args res := by
 unfold pnC at h; split at h
 ·simp only [Option.some.injEq, Prod.mk.injEq] at h
  obtain ⟨rfl, rfl⟩ := h
  exact pn_ok
 ·cases h
theorem aw_ok (nx : List Int) (us : List Bool) (f : Int) (h : nx.length ≤ 200 ∧ us.length ≤ 200) : CallsD Try.prog 84 [.agg [ri nx, rb us, i64 f]] (.agg [oi nx, ob us, i64 f]) := aw_calls nx us f _ ⟨⟨h.2, h.1, trivial⟩, rfl⟩
theorem lw_ok (ps no : List Int) (h t : Int) (hl : ps.length ≤ 200 ∧ no.length ≤ 200) : CallsD Try.prog 90 [.agg [ri ps, ri no, i64 h, i64 t]] (.agg [oi ps, oi no, i64 h, i64 t]) := lw_calls ps no h t _ ⟨⟨hl.2, hl.1, trivial⟩, rfl⟩
def laI (ps no : List Int) (h t : Int) : Int := if lcV ps no h t = 0 then (if t = -1 then 0 else t) else 0
def laE (ps no : List Int) (h t : Int) : Int := if lcV ps no h t = 0 then (if t = -1 then 6 else 0) else lcV ps no h t
theorem la_ok (ps no : List Int) (h t : Int) : CallsD Try.prog 47 [.agg [ri ps, ri no, i64 h, i64 t]] (.tup [i64 (laI ps no h t), i64 (laE ps no h t)]) := by
 unfold laI laE
 refine la_calls ps no h t _ ?_ ?_ ?_ <;> dsimp only [At, Tr.q, la_T]
 ·intro g; rw [neq_t] at g; exact ⟨trivial, by rw [if_neg g, if_neg g]⟩
 ·intro g g2; rw [neq_f] at g; rw [eql_t] at g2; exact ⟨trivial, by rw [if_pos g, if_pos g, if_pos g2, if_pos g2]⟩
 ·intro g g2; rw [neq_f] at g; rw [eql_f] at g2; exact ⟨trivial, by rw [if_pos g, if_pos g, if_neg g2, if_neg g2]⟩
def awC : List D → Option (D × List Prop)
 | [.agg [.rc [.ints .i64 nx], .rc [.bools us], .v (.int .i64 f)]] => some ((.agg [oi nx, ob us, i64 f]), [nx.length ≤ 200 ∧ us.length ≤ 200])
 | _ => none
theorem awC_ok (args res l) (h : awC args = some (res, l)) (hl : AllP l) : CallsD Try.prog 84 args res := by
 unfold awC at h; split at h
 ·simp only [Option.some.injEq, Prod.mk.injEq] at h
  obtain ⟨rfl, rfl⟩ := h; obtain ⟨h0, _⟩ := hl
  exact aw_ok _ _ _ h0
 ·cases h
def lwC : List D → Option (D × List Prop)
 | [.agg [.rc [.ints .i64 ps], .rc [.ints .i64 nx], .v (.int .i64 h), .v (.int .i64 t)]] => some ((.agg [oi ps, oi nx, i64 h, i64 t]), [ps.length ≤ 200 ∧ nx.length ≤ 200])
 | _ => none
theorem lwC_ok (args res l) (h : lwC args = some (res, l)) (hl : AllP l) : CallsD Try.prog 90 args res := by
 unfold lwC at h; split at h
 ·simp only [Option.some.injEq, Prod.mk.injEq] at h
  obtain ⟨rfl, rfl⟩ := h; obtain ⟨h0, _⟩ := hl
  exact lw_ok _ _ _ _ h0
 ·cases h
def laC : List D → Option (D × List Prop)
 | [.agg [.rc [.ints .i64 ps], .rc [.ints .i64 nx], .v (.int .i64 h), .v (.int .i64 t)]] => some ((.tup [i64 (laI ps nx h t), i64 (laE ps nx h t)]), [])
 | _ => none
theorem laC_ok (args res l) (h : laC args = some (res, l)) (hl : AllP l) : CallsD Try.prog 47 args res := by
 unfold laC at h; split at h
 ·simp only [Option.some.injEq, Prod.mk.injEq] at h
  obtain ⟨rfl, rfl⟩ := h
  exact la_ok _ _ _ _
 ·cases h
def X12 : Contracts := addCon 40 (.call pnC) (addCon 84 (.call awC) (addCon 90 (.call lwC) (addCon 47 (.call laC) X11)))
theorem hX12 : ConOK Try.prog X12 := addCall_ok pnC_ok (addCall_ok awC_ok (addCall_ok lwC_ok (addCall_ok laC_ok hX11)))
def aliveC : List D → Option (D × List Prop)
 | [] => some (bo true, [])
 | _ => none
end TableS
end

section
namespace TableS
open Go Go.Dam Go.Proofs
set_option maxRecDepth 1000000
noncomputable def tk_T (nx : List Int) (us : List Bool) (f : Int) : Tr D := .s (us.length ≤ 200) (.d (cmpI .neq (akV nx us f) 0) (fun e0 => .lf (D.tup [D.agg [D.v (Value.slice none 0 0), D.v (Value.slice none 0 0), i64 0], i64 0, i64 (akV nx us f)])) (fun e0 => .d (cmpI .eql f (-1)) (fun e1 => .lf (D.tup [D.agg [D.v (Value.slice none 0 0), D.v (Value.slice none 0 0), i64 0], i64 0, i64 18])) (fun e1 => .s (nx.length ≤ 200 ∧ us.length ≤ 200) (.s (decide (f < (nx.length : Int)) = true) (.s (decide (0 ≤ f) = true) (.s (decide (f < (nx.length : Int)) = true) (.s (decide (0 ≤ f) = true) (.s (nx.length = nx.length) (.s (f.toNat < nx.length) (.s (decide (f < (us.length : Int)) = true) (.s (decide (0 ≤ f) = true) (.s (us.length = us.length) (.s (f.toNat < us.length) (.s (us.length = (us.set f.toNat true).length) (.s (nx.length = (nx.set f.toNat (-1)).length) (.lf (D.tup [D.agg [D.oc [.ints .i64 (nx.set f.toNat (-1))], D.oc [.bools (us.set f.toNat true)], i64 (nx.getD f.toNat 0)], i64 f, i64 0])))))))))))))))))
theorem tk_L (nx : List Int) (us : List Bool) (f : Int) : Leaves (fun l => fnX Try.prog (X12) 100000 l 46 [D.agg [ri nx, rb us, i64 f]]) (tk_T nx us f) [] [] := by refine ⟨fun _ => ?_, fun _ => ⟨fun _ => ?_, fun _ => ?_⟩⟩ <;> (show _ = _; kernel_rfl)
theorem tk_calls (nx : List Int) (us : List Bool) (f : Int) (res : D) (h0 : At (fun r => res = r) (tk_T nx us f) [true] True) (h1 : At (fun r => res = r) (tk_T nx us f) [false, true] True) (h2 : At (fun r => res = r) (tk_T nx us f) [false, false] True) : CallsD Try.prog 46 [D.agg [ri nx, rb us, i64 f]] res := tree_calls (hX12) (tk_L nx us f) ⟨fun e0 => h0 e0, fun e0 => ⟨fun e1 => h1 e0 e1, fun e1 => h2 e0 e1⟩⟩
noncomputable def gv_T (nx : List Int) (us : List Bool) (f : Int) (p : Int) : Tr D := .s (us.length ≤ 200) (.d (cmpI .neq (akV nx us f) 0) (fun e0 => .lf (D.tup [D.agg [D.v (Value.slice none 0 0), D.v (Value.slice none 0 0), i64 0], i64 (akV nx us f)])) (fun e0 => .d (cmpI .lss p 0) (fun e1 => .p (.c 4) (.lf (D.tup [D.agg [D.v (Value.slice none 0 0), D.v (Value.slice none 0 0), i64 0], i64 2]))) (fun e1 => .p (.c 3) (.d (cmpI .geq p (nx.length : Int)) (fun e2 => .lf (D.tup [D.agg [D.v (Value.slice none 0 0), D.v (Value.slice none 0 0), i64 0], i64 2])) (fun e2 => .s (decide (p < (us.length : Int)) = true) (.s (decide (0 ≤ p) = true) (.d (!us.getD p.toNat false) (fun e3 => .lf (D.tup [D.agg [D.v (Value.slice none 0 0), D.v (Value.slice none 0 0), i64 0], i64 36])) (fun e3 => .s (nx.length ≤ 200 ∧ us.length ≤ 200) (.s (decide (p < (nx.length : Int)) = true) (.s (decide (0 ≤ p) = true) (.s (nx.length = nx.length) (.s (p.toNat < nx.length) (.s (decide (p < (us.length : Int)) = true) (.s (decide (0 ≤ p) = true) (.s (us.length = us.length) (.s (p.toNat < us.length) (.s (us.length = (us.set p.toNat false).length) (.s (nx.length = (nx.set p.toNat f).length) (.lf (D.tup [D.agg [D.oc [.ints .i64 (nx.set p.toNat f)], D.oc [.bools (us.set p.toNat false)], i64 p], i64 0]))))))))))))))))))))
theorem gv_L (nx : List Int) (us : List Bool) (f p : Int) : Leaves (fun l => fnX Try.prog (X12) 100000 l 87 [D.agg [ri nx, rb us, i64 f], i64 p]) (gv_T nx us f p) [] [] := by refine ⟨fun _ => ?_, fun _ => ⟨fun _ => ?_, fun _ => ⟨fun _ => ?_, fun _ => ⟨fun _ => ?_, fun _ => ?_⟩⟩⟩⟩ <;> (show _ = _; kernel_rfl)
theorem gv_calls (nx : List Int) (us : List Bool) (f p : Int) (res : D) (h0 : At (fun r => res = r) (gv_T nx us f p) [true] True) (h1 : At (fun r => res = r) (gv_T nx us f p) [false, true] True) (h2 : At (fun r => res = r) (gv_T nx us f p) [false, false, true] True) (h3 : At (fun r => res = r) (gv_T nx us f p) [false, false, false, true] True) (h4 : At (fun r => res = r) (gv_T nx us f p) [false, false, false, false] True) : CallsD Try.prog 87 [D.agg [ri nx, rb us, i64 f], i64 p] res := tree_calls (hX12) (gv_L nx us f p) ⟨fun e0 => h0 e0, fun e0 => ⟨fun e1 => h1 e0 e1, fun e1 => ⟨fun e2 => h2 e0 e1 e2, fun e2 => ⟨fun e3 => h3 e0 e1 e2 e3, fun e3 => h4 e0 e1 e2 e3⟩⟩⟩⟩
theorem akV_is {nx : List Int} {us : List Bool} {f : Int} (h : akV nx us f = 0) : 1 ≤ nx.length ∧ nx.length ≤ 16 ∧ us.length = nx.length ∧ ∃ ys, walkA nx (nx.length + 1) f us = some ys := by
 unfold akV at h; split at h
 next c =>
  split at h
  next ys e => exact ⟨c.1, c.2.1, c.2.2, ys, e⟩
  next => cases h
 next => cases h
theorem akV_first {nx : List Int} {us : List Bool} {f : Int} (h : akV nx us f = 0) (hf : f ≠ -1) : 0 ≤ f ∧ f < (nx.length : Int) := by
 obtain ⟨_, _, _, ys, e⟩ := akV_is h
 simp only [walkA, if_neg hf] at e
 split at e
 ·cases e
 next c => omega
def tkO (nx : List Int) (us : List Bool) (f : Int) : Prop := akV nx us f = 0 ∧ f ≠ -1
instance (nx : List Int) (us : List Bool) (f : Int) : Decidable (tkO nx us f) := by unfold tkO; exact inferInstance
def tkE (nx : List Int) (us : List Bool) (f : Int) : Int := if akV nx us f = 0 then (if f = -1 then 18 else 0) else akV nx us f
theorem nilA (e : Int) : ReadsN (D.agg [D.v (Value.slice none 0 0), D.v (Value.slice none 0 0), i64 e]) (.agg [oi [], ob [], i64 e]) := ReadsNs.agg (.cons (.nil rfl) (.cons (.nil rfl) (.refl _)))
theorem tk_ok (nx : List Int) (us : List Bool) (f : Int) (h : us.length ≤ 200 ∧ nx.length ≤ 200) : CallsD Try.prog 46 [.agg [ri nx, rb us, i64 f]]
  (.tup [.agg [oi (if tkO nx us f then nx.set f.toNat (-1) else []), ob (if tkO nx us f then us.set f.toNat true else []), i64 (if tkO nx us f then nx.getD f.toNat 0 else 0)], i64 (if tkO nx us f then f else 0), i64 (tkE nx us f)]) := by
 obtain ⟨h, hn⟩ := h
 unfold tkE
 by_cases c : akV nx us f = 0
 ·rw [if_pos c]
  by_cases c2 : f = -1
  ·have hO : ¬ tkO nx us f := fun o => o.2 c2
   simp only [if_neg hO, if_pos c2]
   refine calls_reads (ReadsNs.tup (.cons (nilA 0) (.refl _))) ?_
   refine tk_calls nx us f _ ?_ ?_ ?_ <;> dsimp only [At, Tr.q, tk_T]
   ·intro g; rw [neq_t] at g; exact absurd c g
   ·intro _ _; exact ⟨⟨h, trivial⟩, rfl⟩
   ·intro _ g; rw [eql_f] at g; exact absurd c2 g
  ·have hO : tkO nx us f := ⟨c, c2⟩
   simp only [if_pos hO, if_neg c2]
   obtain ⟨f0, f1⟩ := akV_first c c2
   have hl := akV_len c
   refine tk_calls nx us f _ ?_ ?_ ?_ <;> dsimp only [At, Tr.q, tk_T]
   ·intro g; rw [neq_t] at g; exact absurd c g
   ·intro _ g; rw [eql_t] at g; exact absurd g c2
   ·intro _ _
    exact ⟨⟨by rw [List.length_set], by rw [List.length_set], by omega, rfl, decide_eq_true f0, decide_eq_true (by omega), by omega, rfl, decide_eq_true f0, decide_eq_true f1, decide_eq_true f0, decide_eq_true f1, ⟨hn, h⟩, h, trivial⟩, rfl⟩
 ·have hO : ¬ tkO nx us f := fun o => c o.1
  simp only [if_neg hO, if_neg c]
  refine calls_reads (ReadsNs.tup (.cons (nilA 0) (.refl _))) ?_
  refine tk_calls nx us f _ ?_ ?_ ?_ <;> dsimp only [At, Tr.q, tk_T]
  ·intro _; exact ⟨⟨h, trivial⟩, rfl⟩
  ·intro g; rw [neq_f] at g; exact absurd g c
  ·intro g; rw [neq_f] at g; exact absurd g c
def gvO (nx : List Int) (us : List Bool) (f p : Int) : Prop := akV nx us f = 0 ∧ 0 ≤ p ∧ p < (nx.length : Int) ∧ us.getD p.toNat false = true
instance (nx : List Int) (us : List Bool) (f p : Int) : Decidable (gvO nx us f p) := by unfold gvO; exact inferInstance
def gvE (nx : List Int) (us : List Bool) (f p : Int) : Int := if akV nx us f = 0 then (if 0 ≤ p ∧ p < (nx.length : Int) then (if us.getD p.toNat false = true then 0 else 36) else 2) else akV nx us f
theorem gv_ok (nx : List Int) (us : List Bool) (f p : Int) (h : us.length ≤ 200 ∧ nx.length ≤ 200) : CallsD Try.prog 87 [.agg [ri nx, rb us, i64 f], i64 p]
  (.tup [.agg [oi (if gvO nx us f p then nx.set p.toNat f else []), ob (if gvO nx us f p then us.set p.toNat false else []), i64 (if gvO nx us f p then p else 0)], i64 (gvE nx us f p)]) := by
 obtain ⟨h, hn⟩ := h
 by_cases hO : gvO nx us f p
 ·have hO' := hO
  obtain ⟨c, p0, p1, hu⟩ := hO'
  have hl := akV_len c
  have hE : gvE nx us f p = 0 := by unfold gvE; rw [if_pos c, if_pos ⟨p0, p1⟩, if_pos hu]
  simp only [if_pos hO]; rw [hE]
  refine gv_calls nx us f p _ ?_ ?_ ?_ ?_ ?_ <;> dsimp only [At, Tr.q, gv_T]
  ·intro g; rw [neq_t] at g; exact absurd c g
  ·intro _ g; rw [lss_t] at g; omega
  ·intro _ _ g; rw [geq_t] at g; omega
  ·intro _ _ _ g; rw [hu] at g; cases g
  ·intro _ _ _ _
   exact ⟨⟨by rw [List.length_set], by rw [List.length_set], by omega, rfl, decide_eq_true p0, decide_eq_true (by omega), by omega, rfl, decide_eq_true p0, decide_eq_true p1, ⟨hn, h⟩, decide_eq_true p0, decide_eq_true (by omega), h, trivial⟩, rfl⟩
 ·simp only [if_neg hO]
  refine calls_reads (ReadsNs.tup (.cons (nilA 0) (.refl _))) ?_
  unfold gvE
  refine gv_calls nx us f p _ ?_ ?_ ?_ ?_ ?_ <;> dsimp only [At, Tr.q, gv_T]
  ·intro g; rw [neq_t] at g; exact ⟨⟨h, trivial⟩, by rw [if_neg g]⟩
  ·intro g g2; rw [neq_f] at g; rw [lss_t] at g2; exact ⟨⟨h, trivial⟩, by rw [if_pos g, if_neg (by omega)]⟩
  ·intro g g2 g3; rw [neq_f] at g; rw [geq_t] at g3; exact ⟨⟨h, trivial⟩, by rw [if_pos g, if_neg (by omega)]⟩
  ·intro g g2 g3 g4
   rw [neq_f] at g; rw [lss_f] at g2; rw [geq_f] at g3
   have hl := akV_len g
   have g4' : us.getD p.toNat false = false := by simpa using g4
   exact ⟨⟨decide_eq_true (by omega), decide_eq_true (by omega), h, trivial⟩, by rw [if_pos g, if_pos (by omega), if_neg (by rw [g4']; simp)]⟩
  ·intro g g2 g3 g4
   rw [neq_f] at g; rw [lss_f] at g2; rw [geq_f] at g3
   exact absurd ⟨g, by omega, by omega, by simpa using g4⟩ hO
def tkC : List D → Option (D × List Prop)
 | [.agg [.rc [.ints .i64 nx], .rc [.bools us], .v (.int .i64 f)]] => some ((.tup [.agg [oi (if tkO nx us f then nx.set f.toNat (-1) else []), ob (if tkO nx us f then us.set f.toNat true else []), i64 (if tkO nx us f then nx.getD f.toNat 0 else 0)], i64 (if tkO nx us f then f else 0), i64 (tkE nx us f)]), [us.length ≤ 200 ∧ nx.length ≤ 200])
 | _ => none
theorem tkC_ok (args res l) (h : tkC args = some (res, l)) (hl : AllP l) : CallsD Try.prog 46 args res := by
 unfold tkC at h; split at h
 ·simp only [Option.some.injEq, Prod.mk.injEq] at h
  obtain ⟨rfl, rfl⟩ := h; obtain ⟨h0, _⟩ := hl
  exact tk_ok _ _ _ h0
 ·cases h
def gvC : List D → Option (D × List Prop)
 | [.agg [.rc [.ints .i64 nx], .rc [.bools us], .v (.int .i64 f)], .v (.int .i64 p)] => some ((.tup [.agg [oi (if gvO nx us f p then nx.set p.toNat f else []), ob (if gvO nx us f p then us.set p.toNat false else []), i64 (if gvO nx us f p then p else 0)], i64 (gvE nx us f p)]), [us.length ≤ 200 ∧ nx.length ≤ 200])
 | _ => none
theorem gvC_ok (args res l) (h : gvC args = some (res, l)) (hl : AllP l) : CallsD Try.prog 87 args res := by
 unfold gvC at h; split at h
 ·simp only [Option.some.injEq, Prod.mk.injEq] at h
  obtain ⟨rfl, rfl⟩ := h; obtain ⟨h0, _⟩ := hl
  exact gv_ok _ _ _ _ h0
 ·cases h
end TableS
end

section
namespace TableS
open Go Go.Dam Go.Proofs
set_option maxRecDepth 1000000
noncomputable def rm_c0 (ps no : List Int) (p : Int) := (ps.set (no.getD p.toNat 0).toNat (ps.getD p.toNat 0)).set p.toNat (-1)
noncomputable def rm_c1 (ps no : List Int) (p : Int) := (no.set (ps.getD p.toNat 0).toNat (no.getD p.toNat 0)).set p.toNat (-1)
noncomputable def rm_T (ps : List Int) (no : List Int) (h : Int) (t : Int) (p : Int) : Tr D := .d (cmpI .neq (lcV ps no h t) 0) (fun e0 => .p (.d true) (.k _ e0 (.lf (D.tup [D.agg [D.v (Value.slice none 0 0), D.v (Value.slice none 0 0), i64 0, i64 0], i64 (lcV ps no h t)])))) (fun e0 => .d (cmpI .lss p 0) (fun e1 => .p (.c 5) (.lf (D.tup [D.agg [D.v (Value.slice none 0 0), D.v (Value.slice none 0 0), i64 0, i64 0], i64 2]))) (fun e1 => .p (.c 3) (.d (cmpI .geq p (ps.length : Int)) (fun e2 => .p (.c 0) (.lf (D.tup [D.agg [D.v (Value.slice none 0 0), D.v (Value.slice none 0 0), i64 0, i64 0], i64 2]))) (fun e2 => .p (.c 0) (.d (cmpI .eql h p) (fun e3 => .p (.c 5) (.s (ps.length ≤ 200 ∧ no.length ≤ 200) (.s (decide (p < (ps.length : Int)) = true) (.s (decide (0 ≤ p) = true) (.s (p.toNat < ps.length) (.s (decide (p < (no.length : Int)) = true) (.s (decide (0 ≤ p) = true) (.s (p.toNat < no.length) (.d (cmpI .eql (ps.getD p.toNat 0) (-1)) (fun e4 => .d (cmpI .eql (no.getD p.toNat 0) (-1)) (fun e5 => .s (decide (p < (ps.length : Int)) = true) (.s (decide (0 ≤ p) = true) (.s (ps.length = ps.length) (.s (p.toNat < ps.length) (.s (decide (p < (no.length : Int)) = true) (.s (decide (0 ≤ p) = true) (.s (no.length = no.length) (.s (p.toNat < no.length) (.s (no.length = (no.set p.toNat (-1)).length) (.s (ps.length = (ps.set p.toNat (-1)).length) (.lf (D.tup [D.agg [D.oc [.ints .i64 (ps.set p.toNat (-1))], D.oc [.ints .i64 (no.set p.toNat (-1))], i64 (no.getD p.toNat 0), i64 (ps.getD p.toNat 0)], i64 0])))))))))))) (fun e5 => .s (decide (no.getD p.toNat 0 < (ps.length : Int)) = true) (.s (decide (0 ≤ no.getD p.toNat 0) = true) (.s (ps.length = ps.length) (.s ((no.getD p.toNat 0).toNat < ps.length) (.s (decide (p < (ps.length : Int)) = true) (.s (decide (0 ≤ p) = true) (.s ((ps.set (no.getD p.toNat 0).toNat (ps.getD p.toNat 0)).length = (ps.set (no.getD p.toNat 0).toNat (ps.getD p.toNat 0)).length) (.s (p.toNat < (ps.set (no.getD p.toNat 0).toNat (ps.getD p.toNat 0)).length) (.s (decide (p < (no.length : Int)) = true) (.s (decide (0 ≤ p) = true) (.s (no.length = no.length) (.s (p.toNat < no.length) (.s (no.length = (no.set p.toNat (-1)).length) (.s (ps.length = (rm_c0 ps no p).length) (.lf (D.tup [D.agg [D.oc [.ints .i64 (rm_c0 ps no p)], D.oc [.ints .i64 (no.set p.toNat (-1))], i64 (no.getD p.toNat 0), i64 t], i64 0]))))))))))))))))) (fun e4 => .s (decide (ps.getD p.toNat 0 < (no.length : Int)) = true) (.s (decide (0 ≤ ps.getD p.toNat 0) = true) (.s (no.length = no.length) (.s ((ps.getD p.toNat 0).toNat < no.length) (.d (cmpI .eql (no.getD p.toNat 0) (-1)) (fun e5 => .s (decide (p < (ps.length : Int)) = true) (.s (decide (0 ≤ p) = true) (.s (ps.length = ps.length) (.s (p.toNat < ps.length) (.s (decide (p < (no.length : Int)) = true) (.s (decide (0 ≤ p) = true) (.s ((no.set (ps.getD p.toNat 0).toNat (no.getD p.toNat 0)).length = (no.set (ps.getD p.toNat 0).toNat (no.getD p.toNat 0)).length) (.s (p.toNat < (no.set (ps.getD p.toNat 0).toNat (no.getD p.toNat 0)).length) (.s (no.length = (rm_c1 ps no p).length) (.s (ps.length = (ps.set p.toNat (-1)).length) (.lf (D.tup [D.agg [D.oc [.ints .i64 (ps.set p.toNat (-1))], D.oc [.ints .i64 (rm_c1 ps no p)], i64 h, i64 (ps.getD p.toNat 0)], i64 0])))))))))))) (fun e5 => .s (decide (no.getD p.toNat 0 < (ps.length : Int)) = true) (.s (decide (0 ≤ no.getD p.toNat 0) = true) (.s (ps.length = ps.length) (.s ((no.getD p.toNat 0).toNat < ps.length) (.s (decide (p < (ps.length : Int)) = true) (.s (decide (0 ≤ p) = true) (.s ((ps.set (no.getD p.toNat 0).toNat (ps.getD p.toNat 0)).length = (ps.set (no.getD p.toNat 0).toNat (ps.getD p.toNat 0)).length) (.s (p.toNat < (ps.set (no.getD p.toNat 0).toNat (ps.getD p.toNat 0)).length) (.s (decide (p < (no.length : Int)) = true) (.s (decide (0 ≤ p) = true) (.s ((no.set (ps.getD p.toNat 0).toNat (no.getD p.toNat 0)).length = (no.set (ps.getD p.toNat 0).toNat (no.getD p.toNat 0)).length) (.s (p.toNat < (no.set (ps.getD p.toNat 0).toNat (no.getD p.toNat 0)).length) (.s (no.length = (rm_c1 ps no p).length) (.s (ps.length = (rm_c0 ps no p).length) (.lf (D.tup [D.agg [D.oc [.ints .i64 (rm_c0 ps no p)], D.oc [.ints .i64 (rm_c1 ps no p)], i64 h, i64 t], i64 0])))))))))))))))))))))))))))))) (fun e3 => .p (.c 4) (.s (decide (p < (ps.length : Int)) = true) (.s (decide (0 ≤ p) = true) (.d (!cmpI .neq (ps.getD p.toNat 0) (-1)) (fun e4 => .lf (D.tup [D.agg [D.v (Value.slice none 0 0), D.v (Value.slice none 0 0), i64 0, i64 0], i64 6])) (fun e4 => .s (ps.length ≤ 200 ∧ no.length ≤ 200) (.s (decide (p < (ps.length : Int)) = true) (.s (decide (0 ≤ p) = true) (.s (p.toNat < ps.length) (.s (decide (p < (no.length : Int)) = true) (.s (decide (0 ≤ p) = true) (.s (p.toNat < no.length) (.d (cmpI .eql (ps.getD p.toNat 0) (-1)) (fun e5 => .d (cmpI .eql (no.getD p.toNat 0) (-1)) (fun e6 => .s (decide (p < (ps.length : Int)) = true) (.s (decide (0 ≤ p) = true) (.s (ps.length = ps.length) (.s (p.toNat < ps.length) (.s (decide (p < (no.length : Int)) = true) (.s (decide (0 ≤ p) = true) (.s (no.length = no.length) (.s (p.toNat < no.length) (.s (no.length = (no.set p.toNat (-1)).length) (.s (ps.length = (ps.set p.toNat (-1)).length) (.lf (D.tup [D.agg [D.oc [.ints .i64 (ps.set p.toNat (-1))], D.oc [.ints .i64 (no.set p.toNat (-1))], i64 (no.getD p.toNat 0), i64 (ps.getD p.toNat 0)], i64 0])))))))))))) (fun e6 => .s (decide (no.getD p.toNat 0 < (ps.length : Int)) = true) (.s (decide (0 ≤ no.getD p.toNat 0) = true) (.s (ps.length = ps.length) (.s ((no.getD p.toNat 0).toNat < ps.length) (.s (decide (p < (ps.length : Int)) = true) (.s (decide (0 ≤ p) = true) (.s ((ps.set (no.getD p.toNat 0).toNat (ps.getD p.toNat 0)).length = (ps.set (no.getD p.toNat 0).toNat (ps.getD p.toNat 0)).length) (.s (p.toNat < (ps.set (no.getD p.toNat 0).toNat (ps.getD p.toNat 0)).length) (.s (decide (p < (no.length : Int)) = true) (.s (decide (0 ≤ p) = true) (.s (no.length = no.length) (.s (p.toNat < no.length) (.s (no.length = (no.set p.toNat (-1)).length) (.s (ps.length = (rm_c0 ps no p).length) (.lf (D.tup [D.agg [D.oc [.ints .i64 (rm_c0 ps no p)], D.oc [.ints .i64 (no.set p.toNat (-1))], i64 (no.getD p.toNat 0), i64 t], i64 0]))))))))))))))))) (fun e5 => .s (decide (ps.getD p.toNat 0 < (no.length : Int)) = true) (.s (decide (0 ≤ ps.getD p.toNat 0) = true) (.s (no.length = no.length) (.s ((ps.getD p.toNat 0).toNat < no.length) (.d (cmpI .eql (no.getD p.toNat 0) (-1)) (fun e6 => .s (decide (p < (ps.length : Int)) = true) (.s (decide (0 ≤ p) = true) (.s (ps.length = ps.length) (.s (p.toNat < ps.length) (.s (decide (p < (no.length : Int)) = true) (.s (decide (0 ≤ p) = true) (.s ((no.set (ps.getD p.toNat 0).toNat (no.getD p.toNat 0)).length = (no.set (ps.getD p.toNat 0).toNat (no.getD p.toNat 0)).length) (.s (p.toNat < (no.set (ps.getD p.toNat 0).toNat (no.getD p.toNat 0)).length) (.s (no.length = (rm_c1 ps no p).length) (.s (ps.length = (ps.set p.toNat (-1)).length) (.lf (D.tup [D.agg [D.oc [.ints .i64 (ps.set p.toNat (-1))], D.oc [.ints .i64 (rm_c1 ps no p)], i64 h, i64 (ps.getD p.toNat 0)], i64 0])))))))))))) (fun e6 => .s (decide (no.getD p.toNat 0 < (ps.length : Int)) = true) (.s (decide (0 ≤ no.getD p.toNat 0) = true) (.s (ps.length = ps.length) (.s ((no.getD p.toNat 0).toNat < ps.length) (.s (decide (p < (ps.length : Int)) = true) (.s (decide (0 ≤ p) = true) (.s ((ps.set (no.getD p.toNat 0).toNat (ps.getD p.toNat 0)).length = (ps.set (no.getD p.toNat 0).toNat (ps.getD p.toNat 0)).length) (.s (p.toNat < (ps.set (no.getD p.toNat 0).toNat (ps.getD p.toNat 0)).length) (.s (decide (p < (no.length : Int)) = true) (.s (decide (0 ≤ p) = true) (.s ((no.set (ps.getD p.toNat 0).toNat (no.getD p.toNat 0)).length = (no.set (ps.getD p.toNat 0).toNat (no.getD p.toNat 0)).length) (.s (p.toNat < (no.set (ps.getD p.toNat 0).toNat (no.getD p.toNat 0)).length) (.s (no.length = (rm_c1 ps no p).length) (.s (ps.length = (rm_c0 ps no p).length) (.lf (D.tup [D.agg [D.oc [.ints .i64 (rm_c0 ps no p)], D.oc [.ints .i64 (rm_c1 ps no p)], i64 h, i64 t], i64 0]))))))))))))))))))))))))))))))))))))))
theorem rm_L (ps no : List Int) (h t p : Int) : Leaves (fun l => fnX Try.prog (X12) 100000 l 85 [D.agg [ri ps, ri no, i64 h, i64 t], i64 p]) (rm_T ps no h t p) [] [] := by refine ⟨fun _ => ?_, fun _ => ⟨fun _ => ?_, fun _ => ⟨fun _ => ?_, fun _ => ⟨fun _ => ⟨fun _ => ⟨fun _ => ?_, fun _ => ?_⟩, fun _ => ⟨fun _ => ?_, fun _ => ?_⟩⟩, fun _ => ⟨fun _ => ?_, fun _ => ⟨fun _ => ⟨fun _ => ?_, fun _ => ?_⟩, fun _ => ⟨fun _ => ?_, fun _ => ?_⟩⟩⟩⟩⟩⟩⟩ <;> (show _ = _; kernel_rfl)
theorem rm_calls (ps no : List Int) (h t p : Int) (res : D) (h0 : At (fun r => res = r) (rm_T ps no h t p) [true] True) (h1 : At (fun r => res = r) (rm_T ps no h t p) [false, true] True) (h2 : At (fun r => res = r) (rm_T ps no h t p) [false, false, true] True) (h3 : At (fun r => res = r) (rm_T ps no h t p) [false, false, false, true, true, true] True) (h4 : At (fun r => res = r) (rm_T ps no h t p) [false, false, false, true, true, false] True) (h5 : At (fun r => res = r) (rm_T ps no h t p) [false, false, false, true, false, true] True) (h6 : At (fun r => res = r) (rm_T ps no h t p) [false, false, false, true, false, false] True) (h7 : At (fun r => res = r) (rm_T ps no h t p) [false, false, false, false, true] True) (h8 : At (fun r => res = r) (rm_T ps no h t p) [false, false, false, false, false, true, true] True) (h9 : At (fun r => res = r) (rm_T ps no h t p) [false, false, false, false, false, true, false] True) (h10 : At (fun r => res = r) (rm_T ps no h t p) [false, false, false, false, false, false, true] True) (h11 : At (fun r => res = r) (rm_T ps no h t p) [false, false, false, false, false, false, false] True) : CallsD Try.prog 85 [D.agg [ri ps, ri no, i64 h, i64 t], i64 p] res := tree_calls (hX12) (rm_L ps no h t p) ⟨fun e0 => h0 e0, fun e0 => ⟨fun e1 => h1 e0 e1, fun e1 => ⟨fun e2 => h2 e0 e1 e2, fun e2 => ⟨fun e3 => ⟨fun e4 => ⟨fun e5 => h3 e0 e1 e2 e3 e4 e5, fun e5 => h4 e0 e1 e2 e3 e4 e5⟩, fun e4 => ⟨fun e5 => h5 e0 e1 e2 e3 e4 e5, fun e5 => h6 e0 e1 e2 e3 e4 e5⟩⟩, fun e3 => ⟨fun e4 => h7 e0 e1 e2 e3 e4, fun e4 => ⟨fun e5 => ⟨fun e6 => h8 e0 e1 e2 e3 e4 e5 e6, fun e6 => h9 e0 e1 e2 e3 e4 e5 e6⟩, fun e5 => ⟨fun e6 => h10 e0 e1 e2 e3 e4 e5 e6, fun e6 => h11 e0 e1 e2 e3 e4 e5 e6⟩⟩⟩⟩⟩⟩⟩
def rng (n : Nat) (x : Int) : Prop := x = -1 ∨ (0 ≤ x ∧ x < (n : Int))
theorem walkL_first {ps nx : List Int} : ∀ {d : Nat} {la i : Int} {ys : List Bool} {q : Int × List Bool}, walkL ps nx d la i ys = some q → rng ps.length i
 | 0, _, _, _, _, h => by cases h
 | d + 1, la, i, ys, q, h => by
  simp only [walkL] at h
  split at h
  next c => exact .inl c
  next c =>
   split at h
   ·cases h
   next c2 => exact .inr ⟨by omega, by omega⟩
theorem walkL_rng {ps nx : List Int} : ∀ (d : Nat) (la i : Int) (ys : List Bool) (q : Int × List Bool), walkL ps nx d la i ys = some q → rng ps.length la → ys.length = ps.length →
  ∀ j, j < ps.length → q.2.getD j false = true → ys.getD j false = true ∨ (rng ps.length (ps.getD j 0) ∧ rng ps.length (nx.getD j 0))
 | 0, _, _, _, _, h, _, _ => by cases h
 | d + 1, la, i, ys, q, h, hla, hy => fun j hj hq => by
  simp only [walkL] at h
  split at h
  next c => simp only [Option.some.injEq] at h; subst h; exact .inl hq
  next c =>
   split at h
   ·cases h
   next c2 =>
    have i0 : 0 ≤ i := by omega
    have i1 : i < (ps.length : Int) := by omega
    have hps : ps.getD i.toNat 0 = la := by omega
    have := walkL_rng d i (nx.getD i.toNat 0) (ys.set i.toNat true) q h (.inr ⟨i0, i1⟩) (by simpa using hy) j hj hq
    by_cases e : i.toNat = j
    ·subst e
     exact .inr ⟨by rw [hps]; exact hla, walkL_first h⟩
    ·rcases this with t | t
     ·left
      rw [List.getD_eq_getElem?_getD, List.getElem?_set_ne e, ← List.getD_eq_getElem?_getD] at t; exact t
     ·exact .inr t
theorem lcV_rng {ps nx : List Int} {h t : Int} (e : lcV ps nx h t = 0) : ∀ j, j < ps.length → rng ps.length (ps.getD j 0) ∧ rng ps.length (nx.getD j 0) := by
 obtain ⟨c1, c2, c3, la, ys, hw, hb, _⟩ := lcV_is e
 intro j hj
 have hl := walkL_len hw
 by_cases s : ys.getD j false = true
 ·rcases walkL_rng _ _ _ _ _ hw (.inl rfl) (by simp) j hj s with t | t
  ·simp [List.getD_eq_getElem?_getD, hj] at t
  ·exact t
 ·have := (findI_lt _ 0).1 hb j (by omega) (by omega)
  have s' : ys.getD j false = false := by simpa using s
  simp only [lcBad, s', Bool.not_false, Bool.true_and, Bool.or_eq_false_iff, bne_eq_false_iff_eq] at this
  exact ⟨.inl this.1, .inl this.2⟩
/-- A place taken out. -/
def rmO (ps no : List Int) (h t p : Int) : Prop := lcV ps no h t = 0 ∧ (0 ≤ p ∧ p < (ps.length : Int)) ∧ (h = p ∨ ps.getD p.toNat 0 ≠ -1)
instance (ps no : List Int) (h t p : Int) : Decidable (rmO ps no h t p) := by unfold rmO; exact inferInstance
def rmP (ps no : List Int) (p : Int) : List Int := if no.getD p.toNat 0 = -1 then ps.set p.toNat (-1) else (ps.set (no.getD p.toNat 0).toNat (ps.getD p.toNat 0)).set p.toNat (-1)
def rmN (ps no : List Int) (p : Int) : List Int := if ps.getD p.toNat 0 = -1 then no.set p.toNat (-1) else (no.set (ps.getD p.toNat 0).toNat (no.getD p.toNat 0)).set p.toNat (-1)
def rmH (ps no : List Int) (h p : Int) : Int := if ps.getD p.toNat 0 = -1 then no.getD p.toNat 0 else h
def rmT (ps no : List Int) (t p : Int) : Int := if no.getD p.toNat 0 = -1 then ps.getD p.toNat 0 else t
def rmE (ps no : List Int) (h t p : Int) : Int := if lcV ps no h t = 0 then (if 0 ≤ p ∧ p < (ps.length : Int) then (if h = p ∨ ps.getD p.toNat 0 ≠ -1 then 0 else 6) else 2) else lcV ps no h t
theorem nilO : ReadsN (D.agg [D.v (Value.slice none 0 0), D.v (Value.slice none 0 0), i64 0, i64 0]) (.agg [oi [], oi [], i64 0, i64 0]) := ReadsNs.agg (.cons (.nil rfl) (.cons (.nil rfl) (.refl _)))
theorem rm_ok (ps no : List Int) (h t p : Int) : CallsD Try.prog 85 [.agg [ri ps, ri no, i64 h, i64 t], i64 p]
  (.tup [.agg [oi (if rmO ps no h t p then rmP ps no p else []), oi (if rmO ps no h t p then rmN ps no p else []), i64 (if rmO ps no h t p then rmH ps no h p else 0), i64 (if rmO ps no h t p then rmT ps no t p else 0)], i64 (rmE ps no h t p)]) := by
 by_cases hO : rmO ps no h t p
 ·have hO' := hO
  obtain ⟨c, ⟨p0, p1⟩, hin⟩ := hO'
  obtain ⟨c1, c2, c3, _⟩ := lcV_is c
  obtain ⟨r1, r2⟩ := lcV_rng c p.toNat (by omega)
  have hE : rmE ps no h t p = 0 := by unfold rmE; rw [if_pos c, if_pos ⟨p0, p1⟩, if_pos hin]
  simp only [if_pos hO]; rw [hE]
  have dp0 := decide_eq_true p0
  have dp1 : decide (p < (ps.length : Int)) = true := decide_eq_true p1
  have dp2 : decide (p < (no.length : Int)) = true := decide_eq_true (by omega)
  have q1 : p.toNat < ps.length := by omega
  have q2 : p.toNat < no.length := by omega
  have q3 : ps.length ≤ 200 ∧ no.length ≤ 200 := by omega
  have k1 : ∀ x y : Int, ps.length = ((ps.set x.toNat y).set p.toNat (-1)).length := fun x y => by rw [List.length_set, List.length_set]
  have k2 : ∀ x y : Int, no.length = ((no.set x.toNat y).set p.toNat (-1)).length := fun x y => by rw [List.length_set, List.length_set]
  have k3 : ps.length = (ps.set p.toNat (-1)).length := by rw [List.length_set]
  have k4 : no.length = (no.set p.toNat (-1)).length := by rw [List.length_set]
  have k5 : ∀ x y : Int, p.toNat < (ps.set x.toNat y).length := fun x y => by rw [List.length_set]; exact q1
  have k6 : ∀ x y : Int, p.toNat < (no.set x.toNat y).length := fun x y => by rw [List.length_set]; exact q2
  unfold rmP rmN rmH rmT
  have nb : no.getD p.toNat 0 ≠ -1 → (no.getD p.toNat 0).toNat < ps.length ∧ decide (0 ≤ no.getD p.toNat 0) = true ∧ decide (no.getD p.toNat 0 < (ps.length : Int)) = true := fun n => by
   rcases r2 with r | r
   ·exact absurd r n
   ·exact ⟨by omega, decide_eq_true r.1, decide_eq_true r.2⟩
  have pb : ps.getD p.toNat 0 ≠ -1 → (ps.getD p.toNat 0).toNat < no.length ∧ decide (0 ≤ ps.getD p.toNat 0) = true ∧ decide (ps.getD p.toNat 0 < (no.length : Int)) = true := fun n => by
   rcases r1 with r | r
   ·exact absurd r n
   ·exact ⟨by omega, decide_eq_true r.1, decide_eq_true (by omega)⟩
  refine rm_calls ps no h t p _ ?_ ?_ ?_ ?_ ?_ ?_ ?_ ?_ ?_ ?_ ?_ ?_ <;> dsimp only [At, Tr.q, rm_T]
  ·intro g; rw [neq_t] at g; exact absurd c g
  ·intro _ g; rw [lss_t] at g; omega
  ·intro _ _ g; rw [geq_t] at g; omega
  ·intro _ _ _ _ g1 g2
   rw [eql_t] at g1 g2
   rw [if_pos g1, if_pos g1, if_pos g2, if_pos g2]
   exact ⟨⟨k3, k4, q2, rfl, dp0, dp2, q1, rfl, dp0, dp1, q2, dp0, dp2, q1, dp0, dp1, q3, trivial⟩, rfl⟩
  ·intro _ _ _ _ g1 g2
   rw [eql_t] at g1; rw [eql_f] at g2
   obtain ⟨n1, n2, n3⟩ := nb g2
   rw [if_pos g1, if_pos g1, if_neg g2, if_neg g2]
   exact ⟨⟨k1 _ _, k4, q2, rfl, dp0, dp2, k5 _ _, rfl, dp0, dp1, n1, rfl, n2, n3, q2, dp0, dp2, q1, dp0, dp1, q3, trivial⟩, rfl⟩
  ·intro _ _ _ _ g1 g2
   rw [eql_f] at g1; rw [eql_t] at g2
   obtain ⟨n1, n2, n3⟩ := pb g1
   rw [if_neg g1, if_neg g1, if_pos g2, if_pos g2]
   exact ⟨⟨k3, k2 _ _, k6 _ _, rfl, dp0, dp2, q1, rfl, dp0, dp1, n1, rfl, n2, n3, q2, dp0, dp2, q1, dp0, dp1, q3, trivial⟩, rfl⟩
  ·intro _ _ _ _ g1 g2
   rw [eql_f] at g1 g2
   obtain ⟨n1, n2, n3⟩ := pb g1
   obtain ⟨m1, m2, m3⟩ := nb g2
   rw [if_neg g1, if_neg g1, if_neg g2, if_neg g2]
   exact ⟨⟨k1 _ _, k2 _ _, k6 _ _, rfl, dp0, dp2, k5 _ _, rfl, dp0, dp1, m1, rfl, m2, m3, n1, rfl, n2, n3, q2, dp0, dp2, q1, dp0, dp1, q3, trivial⟩, rfl⟩
  ·intro _ _ _ g g2
   rw [eql_f] at g
   have : ps.getD p.toNat 0 = -1 := by
    rw [Bool.not_eq_true', neq_f] at g2; exact g2
   rcases hin with q | q
   ·exact absurd q g
   ·exact absurd this q
  ·intro _ _ _ _ g2 g1
   rw [Bool.not_eq_false', neq_t] at g2; rw [eql_t] at g1; exact absurd g1 g2
  ·intro _ _ _ _ g2 g1
   rw [Bool.not_eq_false', neq_t] at g2; rw [eql_t] at g1; exact absurd g1 g2
  ·intro _ _ _ _ _ g1 g2
   rw [eql_f] at g1; rw [eql_t] at g2
   obtain ⟨n1, n2, n3⟩ := pb g1
   rw [if_neg g1, if_neg g1, if_pos g2, if_pos g2]
   exact ⟨⟨k3, k2 _ _, k6 _ _, rfl, dp0, dp2, q1, rfl, dp0, dp1, n1, rfl, n2, n3, q2, dp0, dp2, q1, dp0, dp1, q3, dp0, dp1, trivial⟩, rfl⟩
  ·intro _ _ _ _ _ g1 g2
   rw [eql_f] at g1 g2
   obtain ⟨n1, n2, n3⟩ := pb g1
   obtain ⟨m1, m2, m3⟩ := nb g2
   rw [if_neg g1, if_neg g1, if_neg g2, if_neg g2]
   exact ⟨⟨k1 _ _, k2 _ _, k6 _ _, rfl, dp0, dp2, k5 _ _, rfl, dp0, dp1, m1, rfl, m2, m3, n1, rfl, n2, n3, q2, dp0, dp2, q1, dp0, dp1, q3, dp0, dp1, trivial⟩, rfl⟩
 ·simp only [if_neg hO]
  refine calls_reads (ReadsNs.tup (.cons nilO (.refl _))) ?_
  unfold rmE
  have out : ∀ {P : Prop}, cmpI .neq (lcV ps no h t) 0 = false → cmpI .lss p 0 = false → cmpI .geq p (ps.length : Int) = false → (h = p ∨ ps.getD p.toNat 0 ≠ -1) → P := fun g1 g2 g3 g4 => by
   rw [neq_f] at g1; rw [lss_f] at g2; rw [geq_f] at g3
   exact absurd ⟨g1, ⟨by omega, by omega⟩, g4⟩ hO
  refine rm_calls ps no h t p _ ?_ ?_ ?_ ?_ ?_ ?_ ?_ ?_ ?_ ?_ ?_ ?_ <;> dsimp only [At, Tr.q, rm_T]
  ·intro g; rw [neq_t] at g; exact ⟨trivial, by rw [if_neg g]⟩
  ·intro g g2; rw [neq_f] at g; rw [lss_t] at g2; exact ⟨trivial, by rw [if_pos g, if_neg (by omega)]⟩
  ·intro g g2 g3; rw [neq_f] at g; rw [geq_t] at g3; exact ⟨trivial, by rw [if_pos g, if_neg (by omega)]⟩
  ·intro g1 g2 g3 g; exact out g1 g2 g3 (.inl (by rw [eql_t] at g; exact g))
  ·intro g1 g2 g3 g; exact out g1 g2 g3 (.inl (by rw [eql_t] at g; exact g))
  ·intro g1 g2 g3 g; exact out g1 g2 g3 (.inl (by rw [eql_t] at g; exact g))
  ·intro g1 g2 g3 g; exact out g1 g2 g3 (.inl (by rw [eql_t] at g; exact g))
  ·intro g1 g2 g3 g g4
   rw [neq_f] at g1; rw [lss_f] at g2; rw [geq_f] at g3; rw [eql_f] at g
   rw [Bool.not_eq_true', neq_f] at g4
   refine ⟨⟨decide_eq_true (by omega), decide_eq_true (by omega), trivial⟩, ?_⟩
   rw [if_pos g1, if_pos ⟨by omega, by omega⟩, if_neg]
   rintro (q | q)
   ·exact g q
   ·exact q g4
  all_goals (intro g1 g2 g3 _ g4; exact out g1 g2 g3 (.inr (by rw [Bool.not_eq_false', neq_t] at g4; exact g4)))
def rmC : List D → Option (D × List Prop)
 | [.agg [.rc [.ints .i64 ps], .rc [.ints .i64 no], .v (.int .i64 h), .v (.int .i64 t)], .v (.int .i64 p)] => some ((.tup [.agg [oi (if rmO ps no h t p then rmP ps no p else []), oi (if rmO ps no h t p then rmN ps no p else []), i64 (if rmO ps no h t p then rmH ps no h p else 0), i64 (if rmO ps no h t p then rmT ps no t p else 0)], i64 (rmE ps no h t p)]), [])
 | _ => none
theorem rmC_ok (args res l) (h : rmC args = some (res, l)) (hl : AllP l) : CallsD Try.prog 85 args res := by
 unfold rmC at h; split at h
 ·simp only [Option.some.injEq, Prod.mk.injEq] at h
  obtain ⟨rfl, rfl⟩ := h
  exact rm_ok _ _ _ _ _
 ·cases h
end TableS
end
