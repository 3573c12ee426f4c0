/- What the functions compute, and the law. No condition. -/
import Derived.Test.YtakcfkmfiamliaaTaVJ
import Derived.Test.YtakcfkmfiamliaaTaTZ
import Derived.Test.YtakcfkmfiamliaaDamYA
set_option linter.unusedSectionVars false
set_option linter.unusedVariables false
set_option linter.unusedSimpArgs false
section
namespace TableS
open Go Go.Dam Go.Proofs
set_option maxRecDepth 1000000
set_option linter.unusedVariables false
set_option linter.unusedSectionVars false
set_option linter.unusedSimpArgs false
/-- Which keys stay. -/
def flt (k g : Int) (v : Bool) (x : Int) : Bool := decide (x ≠ k) && !(v && decide (x = g))
def keysOf (T : Tb) (L : List Int) : List Int := L.map fun i => T.ks.getD i.toNat 0
/-- What a use makes of a right table: the key's place is in front, the others stay as they are. -/
structure Used (T U : Tb) (k g : Int) (v : Bool) (L L1 : List Int) (i : Nat) : Prop where
  inv : ∃ F, Inv U ((i : Int) :: L1) F
  ok : okT U
  n : U.n = T.n
  hi : (i : Int) < U.n
  us : U.us.getD i false = true
  ke : U.ks.getD i 0 = k
  nin : (i : Int) ∉ L1
  same : ∀ j ∈ L1, U.ks.getD j.toNat 0 = T.ks.getD j.toNat 0
  keys : keysOf T L1 = (keysOf T L).filter (flt k g v)
theorem filter_keys {T : Tb} {L M : List Int} {k g : Int} {v : Bool} (h1 : ∀ j ∈ L, j ∈ M ↔ flt k g v (T.ks.getD j.toNat 0) = true) (h2 : M = L.filter fun j => decide (j ∈ M)) : keysOf T M = (keysOf T L).filter (flt k g v) := by
  unfold keysOf
  rw [List.filter_map]
  conv => lhs; rw [h2]
  congr 1
  apply List.filter_congr
  intro j hj
  have := h1 j hj
  simp only [Function.comp_apply]
  rw [Bool.eq_iff_iff, decide_eq_true_eq]
  exact this
theorem wo_mem_filter {L : List Int} {p : Int} : wo L p = L.filter fun j => decide (j ∈ wo L p) := by
  conv => lhs; unfold wo
  apply List.filter_congr
  intro j hj
  rw [Bool.eq_iff_iff]; simp [mem_wo, hj]
theorem inv_key_mem {T : Tb} {L F : List Int} (v : Inv T L F) {j : Int} (hj : j ∈ L) {i : Nat} (hi : (i : Int) < T.n) (hu : T.us.getD i false = true) (e : T.ks.getD j.toNat 0 = T.ks.getD i 0) : j = i := by
  obtain ⟨a, b, c⟩ := inv_mem v hj
  have := inv_keys v (i := j.toNat) (j := i) (by omega) hi c hu e
  omega
theorem less_used {T : Tb} (ho : okT T) {L F : List Int} (v : Inv T L F) (hf : T.fr = -1) : ∀ j ∈ wo L T.t, T.less.ks.getD j.toNat 0 = T.ks.getD j.toNat 0 := fun j hj => by
  obtain ⟨hF, i, A, ei, eA, hi, hu⟩ := inv_last v hf
  obtain ⟨m, n⟩ := mem_wo.1 hj
  obtain ⟨a, b, c⟩ := inv_mem v m
  show (T.ks.set T.t.toNat 0).getD j.toNat 0 = _
  rw [getD_set_ne (by omega)]
theorem plus_used {T : Tb} (ho : okT T) {L F : List Int} (v : Inv T L F) {k b r p a : Int} (hk : inU k) (hf : T.fr ≠ -1) (hn : ∀ i : Nat, (i : Int) < T.n → T.us.getD i false = true → T.ks.getD i 0 ≠ k) (hb : limV b r p = 0) :
    ∃ i : Nat, T.fr = i ∧ (i : Int) ∉ L ∧ (∃ F', Inv (T.plus k b r p a) ((i : Int) :: L) F') ∧ okT (T.plus k b r p a) ∧ (i : Int) < T.n ∧ (T.plus k b r p a).us.getD i false = true ∧ (T.plus k b r p a).ks.getD i 0 = k ∧
      (∀ j ∈ L, (T.plus k b r p a).ks.getD j.toNat 0 = T.ks.getD j.toNat 0) ∧
      (T.plus k b r p a).x1.getD i 0 = b ∧ (T.plus k b r p a).x2.getD i 0 = r ∧ (T.plus k b r p a).x3.getD i 0 = p ∧ (T.plus k b r p a).x4.getD i 0 = b ∧ (T.plus k b r p a).x5.getD i 0 = 0 ∧ (T.plus k b r p a).x6.getD i 0 = a := by
  obtain ⟨F', eF, f0, f1, f2, w⟩ := inv_plus (a := a) ho v hk hf hn hb
  have ok' := okT_plus (a := a) ho v hk hf hn hb
  obtain ⟨k1, k2, k3, k4, k5, k6, k7⟩ := okT_lens ho v
  have ul := inv_us_len v
  refine ⟨T.fr.toNat, by omega, by rw [show ((T.fr.toNat : Nat) : Int) = T.fr by omega]; exact f2, ⟨F', by rw [show ((T.fr.toNat : Nat) : Int) = T.fr by omega]; exact w⟩, ok', by omega, ?_, ?_, fun j hj => ?_, ?_, ?_, ?_, ?_, ?_, ?_⟩
  · show (T.us.set T.fr.toNat true).getD _ _ = _; exact getB_set_self (by omega)
  · show (T.ks.set T.fr.toNat k).getD _ _ = _; exact getD_set_self (by omega)
  · show (T.ks.set T.fr.toNat k).getD _ _ = _
    have := inv_mem v hj
    have : j ≠ T.fr := fun e => f2 (by rw [← e]; exact hj)
    exact getD_set_ne (by omega)
  · show (T.x1.set T.fr.toNat b).getD _ _ = _; exact getD_set_self (by omega)
  · show (T.x2.set T.fr.toNat r).getD _ _ = _; exact getD_set_self (by omega)
  · show (T.x3.set T.fr.toNat p).getD _ _ = _; exact getD_set_self (by omega)
  · show (T.x4.set T.fr.toNat b).getD _ _ = _; exact getD_set_self (by omega)
  · show (T.x5.set T.fr.toNat 0).getD _ _ = _; exact getD_set_self (by omega)
  · show (T.x6.set T.fr.toNat a).getD _ _ = _; exact getD_set_self (by omega)
/-- The law of Use. -/
theorem use_used {T : Tb} (ho : okT T) {L F : List Int} (v : Inv T L F) {k b r p a : Int} (hk : inU k) (hb : limV b r p = 0) : ∃ (L1 : List Int) (i : Nat),
    Used T (usR T k b r p a) k (usG T k b r p) (decide (usW T k b r p)) L L1 i ∧
    ((∃ i0 : Nat, (i0 : Int) < T.n ∧ T.us.getD i0 false = true ∧ T.ks.getD i0 0 = k) → ¬ usW T k b r p ∧ T.ks.getD i 0 = k ∧ (i : Int) ∈ L ∧ usR T k b r p a = T.touch i) ∧
    ((∀ i0 : Nat, (i0 : Int) < T.n → T.us.getD i0 false = true → T.ks.getD i0 0 ≠ k) → (usR T k b r p a).x1.getD i 0 = b ∧ (usR T k b r p a).x2.getD i 0 = r ∧ (usR T k b r p a).x3.getD i 0 = p ∧ (usR T k b r p a).x4.getD i 0 = b ∧ (usR T k b r p a).x5.getD i 0 = 0 ∧ (usR T k b r p a).x6.getD i 0 = a) ∧
    (usW T k b r p → ∃ A, L = A ++ [T.t] ∧ (L.length : Int) = T.n ∧ usG T k b r p = T.ks.getD T.t.toNat 0) ∧ (¬ usW T k b r p → (∀ i0 : Nat, (i0 : Int) < T.n → T.us.getD i0 false = true → T.ks.getD i0 0 ≠ k) → (L.length : Int) < T.n) := by
  have ht := inv_tc ho v
  have hkm : ∀ {i0 : Nat}, (i0 : Int) < T.n → T.us.getD i0 false = true → (i0 : Int) ∈ L := fun h u => by have := v.us _ h; rw [u] at this; simpa using this.symm
  have nd : L.Nodup := v.od.2.2.2.1
  rcases inv_pl v hk with ⟨i, ep, hi, hu, ek⟩ | ⟨ep, hn⟩
  · have c3 : ¬ plV T k < 0 := by omega
    have hW : ¬ usW T k b r p := fun n => c3 n.2.2.1
    have eR : usR T k b r p a = T.touch i := by unfold usR; rw [if_pos ⟨ht, hb⟩, if_neg c3, ep]
    have hG : usG T k b r p = 0 := by unfold usG; rw [if_neg hW]
    have him := hkm hi hu
    rw [eR, hG, decide_eq_false hW]
    refine ⟨wo L i, i, ⟨⟨F, inv_touch v hi hu⟩, okT_touch ho i, rfl, hi, hu, ek, fun m => (mem_wo.1 m).2 rfl, fun j _ => rfl, ?_⟩, fun _ => ⟨hW, ek, him, rfl⟩, fun h => absurd ek (h i hi hu), fun w => absurd w hW, fun _ h => absurd ek (h i hi hu)⟩
    refine filter_keys (fun j hj => ?_) wo_mem_filter
    rw [mem_wo]
    unfold flt
    simp only [Bool.false_and, Bool.not_false, Bool.and_true, decide_eq_true_eq]
    constructor
    · rintro ⟨_, n⟩ e
      exact n (inv_key_mem v hj hi hu (by rw [e, ek]))
    · intro n
      exact ⟨hj, fun e => n (by subst e; rw [Int.toNat_natCast]; exact ek)⟩
  · by_cases c4 : T.fr = -1
    · have hW : usW T k b r p := ⟨ht, hb, by omega, c4⟩
      have eR : usR T k b r p a = T.less.plus k b r p a := by unfold usR; rw [if_pos ⟨ht, hb⟩, if_pos (by omega), if_pos c4]
      have hG : usG T k b r p = T.ks.getD T.t.toNat 0 := by unfold usG; rw [if_pos hW]
      obtain ⟨v1, ho1⟩ := less_inv ho v c4
      have hn1 := less_no ho v c4 hn
      obtain ⟨hF, i, A, ei, eA, hi, hu⟩ := inv_last v c4
      have hlen := inv_full v
      rw [hF] at hlen
      obtain ⟨q, e1, e2, e3, e4, e5, e6, e7, e8, x1, x2, x3, x4, x5, x6⟩ := plus_used (a := a) (r := r) (p := p) ho1 v1 hk (by show ((T.t.toNat : Nat) : Int) ≠ -1; omega) hn1 hb
      rw [eR, hG, decide_eq_true hW]
      refine ⟨wo L T.t, q, ⟨e3, e4, rfl, e5, e6, e7, e2, fun j hj => (e8 j hj).trans (less_used ho v c4 j hj), ?_⟩, fun ⟨i0, a1, a2, a3⟩ => absurd a3 (hn i0 a1 a2), fun _ => ⟨x1, x2, x3, x4, x5, x6⟩, fun _ => ⟨A, eA, by simp only [List.length_nil] at hlen; omega, rfl⟩, fun n => absurd hW n⟩
      refine filter_keys (fun j hj => ?_) wo_mem_filter
      rw [mem_wo]
      unfold flt
      obtain ⟨a1, a2, a3⟩ := inv_mem v hj
      have : T.ks.getD j.toNat 0 ≠ k := hn _ (by omega) a3
      simp only [this, ne_eq, not_false_eq_true, decide_true, Bool.true_and, Bool.not_eq_true', decide_eq_false_iff_not]
      constructor
      · rintro ⟨_, n⟩ e
        apply n
        rw [ei]
        exact inv_key_mem v hj hi hu (by rw [e, ei, Int.toNat_natCast])
      · intro n
        exact ⟨hj, fun e => n (by rw [e])⟩
    · have hW : ¬ usW T k b r p := fun n => c4 n.2.2.2
      have eR : usR T k b r p a = T.plus k b r p a := by unfold usR; rw [if_pos ⟨ht, hb⟩, if_pos (by omega), if_neg c4]
      have hG : usG T k b r p = 0 := by unfold usG; rw [if_neg hW]
      obtain ⟨q, e1, e2, e3, e4, e5, e6, e7, e8, x1, x2, x3, x4, x5, x6⟩ := plus_used (a := a) (r := r) (p := p) ho v hk c4 hn hb
      have hlen := inv_full v
      obtain ⟨F', eF, _⟩ := ar_take v.ar c4
      rw [eR, hG, decide_eq_false hW]
      refine ⟨L, q, ⟨e3, e4, rfl, e5, e6, e7, e2, e8, ?_⟩, fun ⟨i0, a1, a2, a3⟩ => absurd a3 (hn i0 a1 a2), fun _ => ⟨x1, x2, x3, x4, x5, x6⟩, fun w => absurd w hW, fun _ _ => by rw [eF] at hlen; simp only [List.length_cons] at hlen; omega⟩
      symm
      rw [List.filter_eq_self]
      intro x hx
      unfold keysOf at hx
      obtain ⟨j, hj, e⟩ := List.mem_map.1 hx
      obtain ⟨a1, a2, a3⟩ := inv_mem v hj
      have : T.ks.getD j.toNat 0 ≠ k := hn _ (by omega) a3
      rw [e] at this
      unfold flt; simp [this]
/-- What the key holds after it. -/
theorem used_get {T U : Tb} {k g : Int} {v : Bool} {L L1 : List Int} {i : Nat} (u : Used T U k g v L L1 i) (hk : inU k) : gtE U k = 0 ∧ plV U k = i ∧ ∀ xs, gtN U k xs = xs.getD i 0 := by
  obtain ⟨F, w⟩ := u.inv
  have ht := inv_tc u.ok w
  obtain ⟨e1, e2⟩ := inv_has w hk u.hi u.us u.ke
  refine ⟨by unfold gtE; rw [if_pos ht, if_pos e1], by unfold plV; rw [if_pos e1, e2], fun xs => ?_⟩
  unfold gtN; rw [if_pos ⟨ht, e1⟩, e2, Int.toNat_natCast]
/-- Dropping it again. -/
theorem used_drop {T U : Tb} {k g : Int} {v : Bool} {L L1 : List Int} {i : Nat} (u : Used T U k g v L L1 i) (hk : inU k) : okT (drX U k) ∧ drE U k = 0 ∧ (∃ F, Inv (drX U k) L1 F) ∧ kyV (drX U k) = (keysOf T L).filter (flt k g v) := by
  obtain ⟨F, w⟩ := u.inv
  have ht := inv_tc u.ok w
  obtain ⟨_, ep, _⟩ := used_get u hk
  have eX : drX U k = U.without k i := by unfold drX; rw [if_pos ⟨ht, by omega⟩, ep, Int.toNat_natCast]
  have w2 := (inv_without u.ok w hk u.hi u.us u.ke).1
  have ok2 := okT_without u.ok w hk u.hi u.us u.ke
  have ew : wo ((i : Int) :: L1) i = L1 := by
    have := wo_split (A := []) (B := L1) (p := (i : Int)) (by rw [List.nil_append, List.nodup_cons]; exact ⟨u.nin, (List.nodup_cons.1 w.od.2.2.2.1).2⟩)
    simpa using this
  rw [ew] at w2
  rw [eX]
  refine ⟨ok2, by unfold drE; rw [if_pos ht, if_neg (by omega)], ⟨_, w2⟩, ?_⟩
  rw [inv_ky ok2 w2, ← u.keys]
  unfold keysOf
  apply List.map_congr_left
  intro j hj
  show (U.ks.set i 0).getD j.toNat 0 = _
  have : j ≠ i := fun e => u.nin (by rw [← e]; exact hj)
  have := (inv_mem w (x := j) (by simp [hj])).1
  rw [getD_set_ne (by omega)]
  exact u.same j hj
end TableS
end

section
namespace TableS
open Go Go.Dam Go.Proofs
set_option maxRecDepth 1000000
set_option linter.unusedVariables false
set_option linter.unusedSectionVars false
set_option linter.unusedSimpArgs false
noncomputable def nw2_T  : Tr D := .p (.c 5) (.p (.u) (.p (.c 9) (.p (.u) (.p (.c 1) (.s ((2 : Int) ≤ (1099511627776 : Int)) (.s ((2 : Int) ≤ (1099511627776 : Int)) (.q ((2 : Int)) (.q (true) (.q (true) (.q (true) (.q (true) (.q (true) (.q (true) (.s ((2 : Int) ≤ (1099511627776 : Int)) (.s ((16 : Int) ≤ (1099511627776 : Int)) (.q ((2 : Int)) (.q (true) (.s ((2 : Nat) ≤ (200 : Nat)) (.q ((2 : Nat)) (.q ((2 : Nat)) (.q ((2 : Nat)) (.q ((16 : Nat)) (.q ((2 : Nat)) (.lf (D.tup [D.agg [i64 2, D.ow 2 1 [u32 0, u32 0], D.ow 2 6 [i64 0, i64 0, i64 0, i64 0, i64 0, u64 0, i64 0, i64 0, i64 0, i64 0, i64 0, u64 0], D.ow 2 1 [i64 1, i64 (-1)], D.oc [Col0.bools (List.replicate 2 false)], i64 0, D.oc [Col0.ints IntKind.u32 zc1, Col0.ints IntKind.i64 zc1, Col0.bools zc2], D.oc [Col0.ints IntKind.i64 [-1, -1]], D.oc [Col0.ints IntKind.i64 [-1, -1]], i64 (-1), i64 (-1)], i64 0])))))))))))))))))))))))))
theorem nw2_L  : Leaves (fun l => fnX Try.prog (X14) 100000 l 10 [i64 2]) (nw2_T) [] [] := by show _ = _; kernel_rfl
theorem nw2_calls  (res : D) (h0 : At (fun r => res = r) (nw2_T) [] True) : CallsD Try.prog 10 [i64 2] res := tree_calls (hX14) (nw2_L) h0
theorem readsOw {n sz : Nat} {cs : List D} {cols : List Col0} (h1 : n = rowLen0 cols) (h2 : sz = cols.length) (h3 : cs = rowCells0 cols) : ReadsN (.ow n sz cs) (.oc cols) := fun w A u bl hr => by
  subst h1; subst h2; subst h3
  refine ⟨bl, ?_, rfl⟩
  simp only [RepO] at hr ⊢
  exact hr
def tN : Tb := ⟨2, [0, 0], [0, 0], [0, 0], [0, 0], [0, 0], [0, 0], [0, 0], [1, -1], [false, false], 0, zc1, zc1, zc2, [-1, -1], [-1, -1], -1, -1⟩
theorem nw_ok : CallsD Try.prog 10 [i64 2] (.tup [tN.o, i64 0]) := by
  refine calls_reads (ReadsNs.tup (.cons (ReadsNs.agg (.cons (.refl _) (.cons (readsOw rfl rfl rfl) (.cons (readsOw rfl rfl rfl) (.cons (readsOw rfl rfl rfl) (.refl _)))))) (.refl _))) ?_
  exact nw2_calls _ ⟨⟨by omega, by omega, by omega, by omega, by omega, trivial⟩, rfl⟩
end TableS
end

section
namespace TableS
open Go Go.Dam Go.Proofs
set_option maxRecDepth 1000000
set_option linter.unusedVariables false
set_option linter.unusedSectionVars false
set_option linter.unusedSimpArgs false
def tA : Tb := ⟨2, [5, 0], [10, 0], [1, 0], [2, 0], [10, 0], [0, 0], [0, 0], [-1, -1], [true, false], 1, zc1.set 1 5, zc1, zc2.set 1 true, [-1, -1], [-1, -1], 0, 0⟩
def tBB : Tb := ⟨2, [5, 7], [10, 10], [1, 1], [2, 2], [10, 10], [0, 0], [0, 0], [-1, -1], [true, true], -1, (zc1.set 1 5).set 5 7, zc1.set 5 1, (zc2.set 1 true).set 5 true, [1, -1], [-1, 0], 1, 0⟩
def tC : Tb := ⟨2, [5, 7], [10, 10], [1, 1], [2, 2], [10, 10], [0, 0], [0, 0], [-1, -1], [true, true], -1, (zc1.set 1 5).set 5 7, zc1.set 5 1, (zc2.set 1 true).set 5 true, [-1, 0], [1, -1], 0, 1⟩
def tD : Tb := ⟨2, [5, 9], [10, 10], [1, 1], [2, 2], [10, 10], [0, 0], [0, 2], [-1, -1], [true, true], -1, (zc1.set 1 5).set 8 9, zc1.set 8 1, (zc2.set 1 true).set 8 true, [1, -1], [-1, 0], 1, 0⟩
def tS : Tb := ⟨2, [5, 9], [10, 10], [1, 1], [2, 2], [3, 10], [0, 0], [7, 2], [-1, -1], [true, true], -1, (zc1.set 1 5).set 8 9, zc1.set 8 1, (zc2.set 1 true).set 8 true, [1, -1], [-1, 0], 1, 0⟩
theorem q1 : usR tN 5 10 1 2 0 = tA := by kernel_rfl
theorem q2 : usR tA 7 10 1 2 0 = tBB := by kernel_rfl
theorem q3 : usR tBB 5 10 1 2 1 = tC := by kernel_rfl
theorem q6 : usR tC 9 10 1 2 2 = tD := by kernel_rfl
theorem q7 : seT tD 5 10 1 2 3 0 7 = tS := by kernel_rfl
theorem q8 : kyV tC = [5, 7] := by kernel_rfl
theorem q9 : kyV tS = [9, 5] := by kernel_rfl
theorem okU0 : okT tN := by unfold okT okI inU in64 kcS ccS; decide +kernel
theorem okU1 : okT tA := by unfold okT okI inU in64 kcS ccS; decide +kernel
theorem okU2 : okT tBB := by unfold okT okI inU in64 kcS ccS; decide +kernel
theorem kC : okT tC := by unfold okT okI inU in64 kcS ccS; decide +kernel
/-- A use, or a setting, makes this table. -/
def isU (n : Int) (ks x1 x2 x3 x4 x5 x6 nx : List Int) (us : List Bool) (fr : Int) (kx px : List Int) (ux : List Bool) (ps no : List Int) (h t : Int) (k b r p a : Int) (U : Tb) (g : Int) (v : Bool) : Prop := okT ⟨n, ks, x1, x2, x3, x4, x5, x6, nx, us, fr, kx, px, ux, ps, no, h, t⟩ ∧ inU k ∧ usR ⟨n, ks, x1, x2, x3, x4, x5, x6, nx, us, fr, kx, px, ux, ps, no, h, t⟩ k b r p a = U ∧ usG ⟨n, ks, x1, x2, x3, x4, x5, x6, nx, us, fr, kx, px, ux, ps, no, h, t⟩ k b r p = g ∧ decide (usW ⟨n, ks, x1, x2, x3, x4, x5, x6, nx, us, fr, kx, px, ux, ps, no, h, t⟩ k b r p) = v ∧ usE ⟨n, ks, x1, x2, x3, x4, x5, x6, nx, us, fr, kx, px, ux, ps, no, h, t⟩ b r p = 0
def isS (n : Int) (ks x1 x2 x3 x4 x5 x6 nx : List Int) (us : List Bool) (fr : Int) (kx px : List Int) (ux : List Bool) (ps no : List Int) (h t : Int) (k b r p v q a : Int) (U : Tb) : Prop := (okT ⟨n, ks, x1, x2, x3, x4, x5, x6, nx, us, fr, kx, px, ux, ps, no, h, t⟩ ∧ inU k ∧ in64 v) ∧ seT ⟨n, ks, x1, x2, x3, x4, x5, x6, nx, us, fr, kx, px, ux, ps, no, h, t⟩ k b r p v q a = U ∧ seE ⟨n, ks, x1, x2, x3, x4, x5, x6, nx, us, fr, kx, px, ux, ps, no, h, t⟩ k b r p v q = 0
def nwP (U0 : Tb) : List D → Option (D × List Prop)
  | [.v (.int .i64 n)] => some (.tup [U0.o, i64 0], [n = 2, U0 = tN])
  | _ => none
def usP (U1 U2 U3 U4 : Tb) : List D → Option (D × List Prop)
  | [.agg [.v (.int .i64 n), .rc [.ints .u32 ks], .rc [.ints .i64 x1, .ints .i64 x2, .ints .i64 x3, .ints .i64 x4, .ints .i64 x5, .ints .u64 x6], .rc [.ints .i64 nx], .rc [.bools us], .v (.int .i64 fr), .rc [.ints .u32 kx, .ints .i64 px, .bools ux], .rc [.ints .i64 ps], .rc [.ints .i64 no], .v (.int .i64 h), .v (.int .i64 t)], .v (.int .u32 k), .agg [.v (.int .i64 b), .v (.int .i64 r), .v (.int .i64 p)], .v (.int .u64 a)] =>
    if k = 5 ∧ a = 0 then some (.tup [U1.o, u32 0, bo false, i64 0], [isU n ks x1 x2 x3 x4 x5 x6 nx us fr kx px ux ps no h t k b r p a U1 0 false])
    else if k = 7 then some (.tup [U2.o, u32 0, bo false, i64 0], [isU n ks x1 x2 x3 x4 x5 x6 nx us fr kx px ux ps no h t k b r p a U2 0 false])
    else if k = 5 then some (.tup [U3.o, u32 0, bo false, i64 0], [isU n ks x1 x2 x3 x4 x5 x6 nx us fr kx px ux ps no h t k b r p a U3 0 false])
    else some (.tup [U4.o, u32 7, bo true, i64 0], [isU n ks x1 x2 x3 x4 x5 x6 nx us fr kx px ux ps no h t k b r p a U4 7 true])
  | _ => none
def seP (U5 : Tb) : List D → Option (D × List Prop)
  | [.agg [.v (.int .i64 n), .rc [.ints .u32 ks], .rc [.ints .i64 x1, .ints .i64 x2, .ints .i64 x3, .ints .i64 x4, .ints .i64 x5, .ints .u64 x6], .rc [.ints .i64 nx], .rc [.bools us], .v (.int .i64 fr), .rc [.ints .u32 kx, .ints .i64 px, .bools ux], .rc [.ints .i64 ps], .rc [.ints .i64 no], .v (.int .i64 h), .v (.int .i64 t)], .v (.int .u32 k), .agg [.v (.int .i64 b), .v (.int .i64 r), .v (.int .i64 p), .v (.int .i64 v), .v (.int .i64 q), .v (.int .u64 a)]] => some (.tup [U5.o, i64 0], [isS n ks x1 x2 x3 x4 x5 x6 nx us fr kx px ux ps no h t k b r p v q a U5])
  | _ => none
theorem isU_ok {T : Tb} {k b r p a : Int} {U : Tb} {g : Int} {v : Bool} (h : isU T.n T.ks T.x1 T.x2 T.x3 T.x4 T.x5 T.x6 T.nx T.us T.fr T.kx T.px T.ux T.ps T.no T.h T.t k b r p a U g v) : CallsD Try.prog 14 [T.d, u32 k, .agg [i64 b, i64 r, i64 p], u64 a] (.tup [U.o, u32 g, bo v, i64 0]) := by
  obtain ⟨h1, h2, h3, h4, h5, h6⟩ := h
  have := us_ok T k b r p a ⟨h1, h2⟩
  rw [show usR T k b r p a = U from h3, show usG T k b r p = g from h4, show decide (usW T k b r p) = v from h5, show usE T b r p = 0 from h6] at this
  exact this
theorem nwP_ok (U0 : Tb) (args res l) (h : nwP U0 args = some (res, l)) (hl : AllP l) : CallsD Try.prog 10 args res := by
  unfold nwP at h; split at h
  · simp only [Option.some.injEq, Prod.mk.injEq] at h
    obtain ⟨rfl, rfl⟩ := h
    obtain ⟨rfl, rfl, _⟩ := hl
    exact nw_ok
  · cases h
theorem usP_ok (U1 U2 U3 U4 : Tb) (args res l) (h : usP U1 U2 U3 U4 args = some (res, l)) (hl : AllP l) : CallsD Try.prog 14 args res := by
  unfold usP at h; split at h
  next n ks x1 x2 x3 x4 x5 x6 nx us fr kx px ux ps no h' t k b r p a =>
    have key := fun U g v => @isU_ok ⟨n, ks, x1, x2, x3, x4, x5, x6, nx, us, fr, kx, px, ux, ps, no, h', t⟩ k b r p a U g v
    repeat' split at h
    all_goals
      simp only [Option.some.injEq, Prod.mk.injEq] at h
      obtain ⟨rfl, rfl⟩ := h
      exact key _ _ _ hl.1
  · cases h
theorem seP_ok (U5 : Tb) (args res l) (h : seP U5 args = some (res, l)) (hl : AllP l) : CallsD Try.prog 22 args res := by
  unfold seP at h; split at h
  next n ks x1 x2 x3 x4 x5 x6 nx us fr kx px ux ps no h' t k b r p v q a =>
    simp only [Option.some.injEq, Prod.mk.injEq] at h
    obtain ⟨rfl, rfl⟩ := h
    obtain ⟨⟨h1, h2, h3⟩, _⟩ := hl
    have := se_ok ⟨n, ks, x1, x2, x3, x4, x5, x6, nx, us, fr, kx, px, ux, ps, no, h', t⟩ k b r p v q a h1
    rw [h2, h3] at this
    exact this
  · cases h
def isK (n : Int) (ks x1 x2 x3 x4 x5 x6 nx : List Int) (us : List Bool) (fr : Int) (kx px : List Int) (ux : List Bool) (ps no : List Int) (h t : Int) : Prop := okT ⟨n, ks, x1, x2, x3, x4, x5, x6, nx, us, fr, kx, px, ux, ps, no, h, t⟩ ∧ tcV ⟨n, ks, x1, x2, x3, x4, x5, x6, nx, us, fr, kx, px, ux, ps, no, h, t⟩ = 0
def isG (n : Int) (ks x1 x2 x3 x4 x5 x6 nx : List Int) (us : List Bool) (fr : Int) (kx px : List Int) (ux : List Bool) (ps no : List Int) (h t : Int) (k : Int) : Prop := (okT ⟨n, ks, x1, x2, x3, x4, x5, x6, nx, us, fr, kx, px, ux, ps, no, h, t⟩ ∧ inU k) ∧ gtN ⟨n, ks, x1, x2, x3, x4, x5, x6, nx, us, fr, kx, px, ux, ps, no, h, t⟩ k x1 = 10 ∧ gtN ⟨n, ks, x1, x2, x3, x4, x5, x6, nx, us, fr, kx, px, ux, ps, no, h, t⟩ k x2 = 1 ∧ gtN ⟨n, ks, x1, x2, x3, x4, x5, x6, nx, us, fr, kx, px, ux, ps, no, h, t⟩ k x3 = 2 ∧ gtN ⟨n, ks, x1, x2, x3, x4, x5, x6, nx, us, fr, kx, px, ux, ps, no, h, t⟩ k x4 = 3 ∧ gtN ⟨n, ks, x1, x2, x3, x4, x5, x6, nx, us, fr, kx, px, ux, ps, no, h, t⟩ k x5 = 0 ∧ gtN ⟨n, ks, x1, x2, x3, x4, x5, x6, nx, us, fr, kx, px, ux, ps, no, h, t⟩ k x6 = 7 ∧ gtE ⟨n, ks, x1, x2, x3, x4, x5, x6, nx, us, fr, kx, px, ux, ps, no, h, t⟩ k = 0
def kyP : List D → Option (D × List Prop)
  | [.agg [.v (.int .i64 n), .rc [.ints .u32 ks], .rc [.ints .i64 x1, .ints .i64 x2, .ints .i64 x3, .ints .i64 x4, .ints .i64 x5, .ints .u64 x6], .rc [.ints .i64 nx], .rc [.bools us], .v (.int .i64 fr), .rc [.ints .u32 kx, .ints .i64 px, .bools ux], .rc [.ints .i64 ps], .rc [.ints .i64 no], .v (.int .i64 h), .v (.int .i64 t)]] => some (.tup [ou (kyV ⟨n, ks, x1, x2, x3, x4, x5, x6, nx, us, fr, kx, px, ux, ps, no, h, t⟩), i64 0], [isK n ks x1 x2 x3 x4 x5 x6 nx us fr kx px ux ps no h t])
  | _ => none
def gtP : List D → Option (D × List Prop)
  | [.agg [.v (.int .i64 n), .rc [.ints .u32 ks], .rc [.ints .i64 x1, .ints .i64 x2, .ints .i64 x3, .ints .i64 x4, .ints .i64 x5, .ints .u64 x6], .rc [.ints .i64 nx], .rc [.bools us], .v (.int .i64 fr), .rc [.ints .u32 kx, .ints .i64 px, .bools ux], .rc [.ints .i64 ps], .rc [.ints .i64 no], .v (.int .i64 h), .v (.int .i64 t)], .v (.int .u32 k)] => some (.tup [.agg [i64 10, i64 1, i64 2, i64 3, i64 0, u64 7], i64 0], [isG n ks x1 x2 x3 x4 x5 x6 nx us fr kx px ux ps no h t k])
  | _ => none
def skP : List D → Option (D × List Prop)
  | [.rc [.ints .u32 xs], .sh 2 [.v (.int .u32 a), .v (.int .u32 b)]] => some (bo (eqB xs [a, b]), [xs.length ≤ 200])
  | _ => none
theorem kyP_ok (args res l) (h : kyP args = some (res, l)) (hl : AllP l) : CallsD Try.prog 12 args res := by
  unfold kyP at h; split at h
  · simp only [Option.some.injEq, Prod.mk.injEq] at h
    obtain ⟨rfl, rfl⟩ := h
    obtain ⟨⟨h1, h2⟩, _⟩ := hl
    have := ky_ok _ h1
    rw [h2] at this; exact this
  · cases h
theorem gtP_ok (args res l) (h : gtP args = some (res, l)) (hl : AllP l) : CallsD Try.prog 20 args res := by
  unfold gtP at h; split at h
  next n ks x1 x2 x3 x4 x5 x6 nx us fr kx px ux ps no h' t k =>
    simp only [Option.some.injEq, Prod.mk.injEq] at h
    obtain ⟨rfl, rfl⟩ := h
    obtain ⟨⟨h0, h1, h2, h3, h4, h5, h6, h7⟩, _⟩ := hl
    have := gt_ok _ _ h0
    rw [h7] at this
    simp only at this
    rw [h1, h2, h3, h4, h5, h6] at this; exact this
  · cases h
theorem calls_in {P : Program} {f : FuncId} {args args' : List D} {e : D} (h : ReadsL args' args) (k : CallsD P f args e) : CallsD P f args' e := fun w A vs hv low glo => k w A vs (h.repL hv) low glo
theorem skP_ok (args res l) (h : skP args = some (res, l)) (hl : AllP l) : CallsD Try.prog 19 args res := by
  unfold skP at h; split at h
  next xs a b =>
    simp only [Option.some.injEq, Prod.mk.injEq] at h
    obtain ⟨rfl, rfl⟩ := h
    exact calls_in (.cons (.refl _) (.cons (sh_rc (fun g => by cases g) [.ints .u32 [a, b]]) .nil)) (sk_ok xs [a, b] hl.1)
  · cases h
noncomputable def X17 (U0 U1 U2 U3 U4 U5 : Tb) : Contracts := addCon 19 (.call skP) (addCon 12 (.call kyP) (addCon 20 (.call gtP) (addCon 10 (.call (nwP U0)) (addCon 14 (.call (usP U1 U2 U3 U4)) (addCon 22 (.call (seP U5)) X14)))))
theorem hX17 (U0 U1 U2 U3 U4 U5 : Tb) : ConOK Try.prog (X17 U0 U1 U2 U3 U4 U5) := addCall_ok skP_ok (addCall_ok kyP_ok (addCall_ok gtP_ok (addCall_ok (nwP_ok U0) (addCall_ok (usP_ok U1 U2 U3 U4) (addCall_ok (seP_ok U5) hX14)))))
end TableS
end

section
namespace TableS
open Go Go.Dam Go.Proofs
set_option maxRecDepth 1000000
set_option linter.unusedVariables false
set_option linter.unusedSectionVars false
set_option linter.unusedSimpArgs false
theorem aly_p0 (U0 U1 U2 U3 U4 U5 : Tb) : fnX Try.prog (X17 U0 U1 U2 U3 U4 U5) 100000 [.c 27, .d true, .c 1, .d true, .c 2] 28 [] = some (bo true, [eqB (kyV U5) [9, 5] = true, rowLen0 [Col0.ints IntKind.u32 (kyV U5)] = rowLen0 [Col0.ints IntKind.u32 (kyV U5)], (kyV U5).length ≤ 200, eqB (kyV U3) [5, 7] = true, rowLen0 [Col0.ints IntKind.u32 (kyV U3)] = rowLen0 [Col0.ints IntKind.u32 (kyV U3)], (kyV U3).length ≤ 200, rowLen0 [Col0.ints IntKind.u32 U5.ks] = rowLen0 [Col0.ints IntKind.u32 U5.ks], rowLen0 [Col0.ints IntKind.i64 U5.x1, Col0.ints IntKind.i64 U5.x2, Col0.ints IntKind.i64 U5.x3, Col0.ints IntKind.i64 U5.x4, Col0.ints IntKind.i64 U5.x5, Col0.ints IntKind.u64 U5.x6] = rowLen0 [Col0.ints IntKind.i64 U5.x1, Col0.ints IntKind.i64 U5.x2, Col0.ints IntKind.i64 U5.x3, Col0.ints IntKind.i64 U5.x4, Col0.ints IntKind.i64 U5.x5, Col0.ints IntKind.u64 U5.x6], rowLen0 [Col0.ints IntKind.i64 U5.nx] = rowLen0 [Col0.ints IntKind.i64 U5.nx], rowLen0 [Col0.bools U5.us] = rowLen0 [Col0.bools U5.us], rowLen0 [Col0.ints IntKind.u32 U5.kx, Col0.ints IntKind.i64 U5.px, Col0.bools U5.ux] = rowLen0 [Col0.ints IntKind.u32 U5.kx, Col0.ints IntKind.i64 U5.px, Col0.bools U5.ux], rowLen0 [Col0.ints IntKind.i64 U5.ps] = rowLen0 [Col0.ints IntKind.i64 U5.ps], rowLen0 [Col0.ints IntKind.i64 U5.no] = rowLen0 [Col0.ints IntKind.i64 U5.no], isG U5.n U5.ks U5.x1 U5.x2 U5.x3 U5.x4 U5.x5 U5.x6 U5.nx U5.us U5.fr U5.kx U5.px U5.ux U5.ps U5.no U5.h U5.t 5, rowLen0 [Col0.ints IntKind.u32 U5.ks] = rowLen0 [Col0.ints IntKind.u32 U5.ks], rowLen0 [Col0.ints IntKind.i64 U5.x1, Col0.ints IntKind.i64 U5.x2, Col0.ints IntKind.i64 U5.x3, Col0.ints IntKind.i64 U5.x4, Col0.ints IntKind.i64 U5.x5, Col0.ints IntKind.u64 U5.x6] = rowLen0 [Col0.ints IntKind.i64 U5.x1, Col0.ints IntKind.i64 U5.x2, Col0.ints IntKind.i64 U5.x3, Col0.ints IntKind.i64 U5.x4, Col0.ints IntKind.i64 U5.x5, Col0.ints IntKind.u64 U5.x6], rowLen0 [Col0.ints IntKind.i64 U5.nx] = rowLen0 [Col0.ints IntKind.i64 U5.nx], rowLen0 [Col0.bools U5.us] = rowLen0 [Col0.bools U5.us], rowLen0 [Col0.ints IntKind.u32 U5.kx, Col0.ints IntKind.i64 U5.px, Col0.bools U5.ux] = rowLen0 [Col0.ints IntKind.u32 U5.kx, Col0.ints IntKind.i64 U5.px, Col0.bools U5.ux], rowLen0 [Col0.ints IntKind.i64 U5.ps] = rowLen0 [Col0.ints IntKind.i64 U5.ps], rowLen0 [Col0.ints IntKind.i64 U5.no] = rowLen0 [Col0.ints IntKind.i64 U5.no], isK U5.n U5.ks U5.x1 U5.x2 U5.x3 U5.x4 U5.x5 U5.x6 U5.nx U5.us U5.fr U5.kx U5.px U5.ux U5.ps U5.no U5.h U5.t, rowLen0 [Col0.ints IntKind.u32 U4.ks] = rowLen0 [Col0.ints IntKind.u32 U4.ks], rowLen0 [Col0.ints IntKind.i64 U4.x1, Col0.ints IntKind.i64 U4.x2, Col0.ints IntKind.i64 U4.x3, Col0.ints IntKind.i64 U4.x4, Col0.ints IntKind.i64 U4.x5, Col0.ints IntKind.u64 U4.x6] = rowLen0 [Col0.ints IntKind.i64 U4.x1, Col0.ints IntKind.i64 U4.x2, Col0.ints IntKind.i64 U4.x3, Col0.ints IntKind.i64 U4.x4, Col0.ints IntKind.i64 U4.x5, Col0.ints IntKind.u64 U4.x6], rowLen0 [Col0.ints IntKind.i64 U4.nx] = rowLen0 [Col0.ints IntKind.i64 U4.nx], rowLen0 [Col0.bools U4.us] = rowLen0 [Col0.bools U4.us], rowLen0 [Col0.ints IntKind.u32 U4.kx, Col0.ints IntKind.i64 U4.px, Col0.bools U4.ux] = rowLen0 [Col0.ints IntKind.u32 U4.kx, Col0.ints IntKind.i64 U4.px, Col0.bools U4.ux], rowLen0 [Col0.ints IntKind.i64 U4.ps] = rowLen0 [Col0.ints IntKind.i64 U4.ps], rowLen0 [Col0.ints IntKind.i64 U4.no] = rowLen0 [Col0.ints IntKind.i64 U4.no], isS U4.n U4.ks U4.x1 U4.x2 U4.x3 U4.x4 U4.x5 U4.x6 U4.nx U4.us U4.fr U4.kx U4.px U4.ux U4.ps U4.no U4.h U4.t 5 10 1 2 3 0 7 U5, rowLen0 [Col0.ints IntKind.u32 U3.ks] = rowLen0 [Col0.ints IntKind.u32 U3.ks], rowLen0 [Col0.ints IntKind.i64 U3.x1, Col0.ints IntKind.i64 U3.x2, Col0.ints IntKind.i64 U3.x3, Col0.ints IntKind.i64 U3.x4, Col0.ints IntKind.i64 U3.x5, Col0.ints IntKind.u64 U3.x6] = rowLen0 [Col0.ints IntKind.i64 U3.x1, Col0.ints IntKind.i64 U3.x2, Col0.ints IntKind.i64 U3.x3, Col0.ints IntKind.i64 U3.x4, Col0.ints IntKind.i64 U3.x5, Col0.ints IntKind.u64 U3.x6], rowLen0 [Col0.ints IntKind.i64 U3.nx] = rowLen0 [Col0.ints IntKind.i64 U3.nx], rowLen0 [Col0.bools U3.us] = rowLen0 [Col0.bools U3.us], rowLen0 [Col0.ints IntKind.u32 U3.kx, Col0.ints IntKind.i64 U3.px, Col0.bools U3.ux] = rowLen0 [Col0.ints IntKind.u32 U3.kx, Col0.ints IntKind.i64 U3.px, Col0.bools U3.ux], rowLen0 [Col0.ints IntKind.i64 U3.ps] = rowLen0 [Col0.ints IntKind.i64 U3.ps], rowLen0 [Col0.ints IntKind.i64 U3.no] = rowLen0 [Col0.ints IntKind.i64 U3.no], isU U3.n U3.ks U3.x1 U3.x2 U3.x3 U3.x4 U3.x5 U3.x6 U3.nx U3.us U3.fr U3.kx U3.px U3.ux U3.ps U3.no U3.h U3.t 9 10 1 2 2 U4 7 true, rowLen0 [Col0.ints IntKind.u32 U3.ks] = rowLen0 [Col0.ints IntKind.u32 U3.ks], rowLen0 [Col0.ints IntKind.i64 U3.x1, Col0.ints IntKind.i64 U3.x2, Col0.ints IntKind.i64 U3.x3, Col0.ints IntKind.i64 U3.x4, Col0.ints IntKind.i64 U3.x5, Col0.ints IntKind.u64 U3.x6] = rowLen0 [Col0.ints IntKind.i64 U3.x1, Col0.ints IntKind.i64 U3.x2, Col0.ints IntKind.i64 U3.x3, Col0.ints IntKind.i64 U3.x4, Col0.ints IntKind.i64 U3.x5, Col0.ints IntKind.u64 U3.x6], rowLen0 [Col0.ints IntKind.i64 U3.nx] = rowLen0 [Col0.ints IntKind.i64 U3.nx], rowLen0 [Col0.bools U3.us] = rowLen0 [Col0.bools U3.us], rowLen0 [Col0.ints IntKind.u32 U3.kx, Col0.ints IntKind.i64 U3.px, Col0.bools U3.ux] = rowLen0 [Col0.ints IntKind.u32 U3.kx, Col0.ints IntKind.i64 U3.px, Col0.bools U3.ux], rowLen0 [Col0.ints IntKind.i64 U3.ps] = rowLen0 [Col0.ints IntKind.i64 U3.ps], rowLen0 [Col0.ints IntKind.i64 U3.no] = rowLen0 [Col0.ints IntKind.i64 U3.no], isK U3.n U3.ks U3.x1 U3.x2 U3.x3 U3.x4 U3.x5 U3.x6 U3.nx U3.us U3.fr U3.kx U3.px U3.ux U3.ps U3.no U3.h U3.t, rowLen0 [Col0.ints IntKind.u32 U2.ks] = rowLen0 [Col0.ints IntKind.u32 U2.ks], rowLen0 [Col0.ints IntKind.i64 U2.x1, Col0.ints IntKind.i64 U2.x2, Col0.ints IntKind.i64 U2.x3, Col0.ints IntKind.i64 U2.x4, Col0.ints IntKind.i64 U2.x5, Col0.ints IntKind.u64 U2.x6] = rowLen0 [Col0.ints IntKind.i64 U2.x1, Col0.ints IntKind.i64 U2.x2, Col0.ints IntKind.i64 U2.x3, Col0.ints IntKind.i64 U2.x4, Col0.ints IntKind.i64 U2.x5, Col0.ints IntKind.u64 U2.x6], rowLen0 [Col0.ints IntKind.i64 U2.nx] = rowLen0 [Col0.ints IntKind.i64 U2.nx], rowLen0 [Col0.bools U2.us] = rowLen0 [Col0.bools U2.us], rowLen0 [Col0.ints IntKind.u32 U2.kx, Col0.ints IntKind.i64 U2.px, Col0.bools U2.ux] = rowLen0 [Col0.ints IntKind.u32 U2.kx, Col0.ints IntKind.i64 U2.px, Col0.bools U2.ux], rowLen0 [Col0.ints IntKind.i64 U2.ps] = rowLen0 [Col0.ints IntKind.i64 U2.ps], rowLen0 [Col0.ints IntKind.i64 U2.no] = rowLen0 [Col0.ints IntKind.i64 U2.no], isU U2.n U2.ks U2.x1 U2.x2 U2.x3 U2.x4 U2.x5 U2.x6 U2.nx U2.us U2.fr U2.kx U2.px U2.ux U2.ps U2.no U2.h U2.t 5 10 1 2 1 U3 0 false, rowLen0 [Col0.ints IntKind.u32 U1.ks] = rowLen0 [Col0.ints IntKind.u32 U1.ks], rowLen0 [Col0.ints IntKind.i64 U1.x1, Col0.ints IntKind.i64 U1.x2, Col0.ints IntKind.i64 U1.x3, Col0.ints IntKind.i64 U1.x4, Col0.ints IntKind.i64 U1.x5, Col0.ints IntKind.u64 U1.x6] = rowLen0 [Col0.ints IntKind.i64 U1.x1, Col0.ints IntKind.i64 U1.x2, Col0.ints IntKind.i64 U1.x3, Col0.ints IntKind.i64 U1.x4, Col0.ints IntKind.i64 U1.x5, Col0.ints IntKind.u64 U1.x6], rowLen0 [Col0.ints IntKind.i64 U1.nx] = rowLen0 [Col0.ints IntKind.i64 U1.nx], rowLen0 [Col0.bools U1.us] = rowLen0 [Col0.bools U1.us], rowLen0 [Col0.ints IntKind.u32 U1.kx, Col0.ints IntKind.i64 U1.px, Col0.bools U1.ux] = rowLen0 [Col0.ints IntKind.u32 U1.kx, Col0.ints IntKind.i64 U1.px, Col0.bools U1.ux], rowLen0 [Col0.ints IntKind.i64 U1.ps] = rowLen0 [Col0.ints IntKind.i64 U1.ps], rowLen0 [Col0.ints IntKind.i64 U1.no] = rowLen0 [Col0.ints IntKind.i64 U1.no], isU U1.n U1.ks U1.x1 U1.x2 U1.x3 U1.x4 U1.x5 U1.x6 U1.nx U1.us U1.fr U1.kx U1.px U1.ux U1.ps U1.no U1.h U1.t 7 10 1 2 0 U2 0 false, rowLen0 [Col0.ints IntKind.u32 U0.ks] = rowLen0 [Col0.ints IntKind.u32 U0.ks], rowLen0 [Col0.ints IntKind.i64 U0.x1, Col0.ints IntKind.i64 U0.x2, Col0.ints IntKind.i64 U0.x3, Col0.ints IntKind.i64 U0.x4, Col0.ints IntKind.i64 U0.x5, Col0.ints IntKind.u64 U0.x6] = rowLen0 [Col0.ints IntKind.i64 U0.x1, Col0.ints IntKind.i64 U0.x2, Col0.ints IntKind.i64 U0.x3, Col0.ints IntKind.i64 U0.x4, Col0.ints IntKind.i64 U0.x5, Col0.ints IntKind.u64 U0.x6], rowLen0 [Col0.ints IntKind.i64 U0.nx] = rowLen0 [Col0.ints IntKind.i64 U0.nx], rowLen0 [Col0.bools U0.us] = rowLen0 [Col0.bools U0.us], rowLen0 [Col0.ints IntKind.u32 U0.kx, Col0.ints IntKind.i64 U0.px, Col0.bools U0.ux] = rowLen0 [Col0.ints IntKind.u32 U0.kx, Col0.ints IntKind.i64 U0.px, Col0.bools U0.ux], rowLen0 [Col0.ints IntKind.i64 U0.ps] = rowLen0 [Col0.ints IntKind.i64 U0.ps], rowLen0 [Col0.ints IntKind.i64 U0.no] = rowLen0 [Col0.ints IntKind.i64 U0.no], isU U0.n U0.ks U0.x1 U0.x2 U0.x3 U0.x4 U0.x5 U0.x6 U0.nx U0.us U0.fr U0.kx U0.px U0.ux U0.ps U0.no U0.h U0.t 5 10 1 2 0 U1 0 false, (2 : Int) = (2 : Int), U0 = tN]) := by kernel_rfl
theorem aly_calls (U0 U1 U2 U3 U4 U5 : Tb) (res : D)
  (e0 : (eqB (kyV U3) [5, 7]) = true)
  (e1 : (eqB (kyV U5) [9, 5]) = true)
  (h0 : (((kyV U5).length ≤ 200) ∧ ((kyV U3).length ≤ 200) ∧ (isG U5.n U5.ks U5.x1 U5.x2 U5.x3 U5.x4 U5.x5 U5.x6 U5.nx U5.us U5.fr U5.kx U5.px U5.ux U5.ps U5.no U5.h U5.t 5) ∧ (isK U5.n U5.ks U5.x1 U5.x2 U5.x3 U5.x4 U5.x5 U5.x6 U5.nx U5.us U5.fr U5.kx U5.px U5.ux U5.ps U5.no U5.h U5.t) ∧ (isS U4.n U4.ks U4.x1 U4.x2 U4.x3 U4.x4 U4.x5 U4.x6 U4.nx U4.us U4.fr U4.kx U4.px U4.ux U4.ps U4.no U4.h U4.t 5 10 1 2 3 0 7 U5) ∧ (isU U3.n U3.ks U3.x1 U3.x2 U3.x3 U3.x4 U3.x5 U3.x6 U3.nx U3.us U3.fr U3.kx U3.px U3.ux U3.ps U3.no U3.h U3.t 9 10 1 2 2 U4 7 true) ∧ (isK U3.n U3.ks U3.x1 U3.x2 U3.x3 U3.x4 U3.x5 U3.x6 U3.nx U3.us U3.fr U3.kx U3.px U3.ux U3.ps U3.no U3.h U3.t) ∧ (isU U2.n U2.ks U2.x1 U2.x2 U2.x3 U2.x4 U2.x5 U2.x6 U2.nx U2.us U2.fr U2.kx U2.px U2.ux U2.ps U2.no U2.h U2.t 5 10 1 2 1 U3 0 false) ∧ (isU U1.n U1.ks U1.x1 U1.x2 U1.x3 U1.x4 U1.x5 U1.x6 U1.nx U1.us U1.fr U1.kx U1.px U1.ux U1.ps U1.no U1.h U1.t 7 10 1 2 0 U2 0 false) ∧ (isU U0.n U0.ks U0.x1 U0.x2 U0.x3 U0.x4 U0.x5 U0.x6 U0.nx U0.us U0.fr U0.kx U0.px U0.ux U0.ps U0.no U0.h U0.t 5 10 1 2 0 U1 0 false) ∧ (U0 = tN) ∧ True) ∧ res = bo true) : CallsD Try.prog 28 [] res := by
  exact of_path (hX17 U0 U1 U2 U3 U4 U5) (aly_p0 U0 U1 U2 U3 U4 U5) ⟨e1, rfl, (h0).1.1, e0, rfl, (h0).1.2.1, rfl, rfl, rfl, rfl, rfl, rfl, rfl, (h0).1.2.2.1, rfl, rfl, rfl, rfl, rfl, rfl, rfl, (h0).1.2.2.2.1, rfl, rfl, rfl, rfl, rfl, rfl, rfl, (h0).1.2.2.2.2.1, rfl, rfl, rfl, rfl, rfl, rfl, rfl, (h0).1.2.2.2.2.2.1, rfl, rfl, rfl, rfl, rfl, rfl, rfl, (h0).1.2.2.2.2.2.2.1, rfl, rfl, rfl, rfl, rfl, rfl, rfl, (h0).1.2.2.2.2.2.2.2.1, rfl, rfl, rfl, rfl, rfl, rfl, rfl, (h0).1.2.2.2.2.2.2.2.2.1, rfl, rfl, rfl, rfl, rfl, rfl, rfl, (h0).1.2.2.2.2.2.2.2.2.2.1, rfl, (h0).1.2.2.2.2.2.2.2.2.2.2.1, trivial⟩ (h0).2
theorem okD : okT tD := by unfold okT okI inU in64 kcS ccS; decide +kernel
theorem okS : okT tS := by unfold okT okI inU in64 kcS ccS; decide +kernel
theorem alive_ok : CallsD Try.prog 28 [] (bo true) := by
  have u0 : isU tN.n tN.ks tN.x1 tN.x2 tN.x3 tN.x4 tN.x5 tN.x6 tN.nx tN.us tN.fr tN.kx tN.px tN.ux tN.ps tN.no tN.h tN.t 5 10 1 2 0 tA 0 false := ⟨okU0, by unfold inU; omega, q1, by kernel_rfl, by kernel_rfl, by kernel_rfl⟩
  have u1 : isU tA.n tA.ks tA.x1 tA.x2 tA.x3 tA.x4 tA.x5 tA.x6 tA.nx tA.us tA.fr tA.kx tA.px tA.ux tA.ps tA.no tA.h tA.t 7 10 1 2 0 tBB 0 false := ⟨okU1, by unfold inU; omega, q2, by kernel_rfl, by kernel_rfl, by kernel_rfl⟩
  have u2 : isU tBB.n tBB.ks tBB.x1 tBB.x2 tBB.x3 tBB.x4 tBB.x5 tBB.x6 tBB.nx tBB.us tBB.fr tBB.kx tBB.px tBB.ux tBB.ps tBB.no tBB.h tBB.t 5 10 1 2 1 tC 0 false := ⟨okU2, by unfold inU; omega, q3, by kernel_rfl, by kernel_rfl, by kernel_rfl⟩
  have u3 : isU tC.n tC.ks tC.x1 tC.x2 tC.x3 tC.x4 tC.x5 tC.x6 tC.nx tC.us tC.fr tC.kx tC.px tC.ux tC.ps tC.no tC.h tC.t 9 10 1 2 2 tD 7 true := ⟨kC, by unfold inU; omega, q6, by kernel_rfl, by kernel_rfl, by kernel_rfl⟩
  have s0 : isS tD.n tD.ks tD.x1 tD.x2 tD.x3 tD.x4 tD.x5 tD.x6 tD.nx tD.us tD.fr tD.kx tD.px tD.ux tD.ps tD.no tD.h tD.t 5 10 1 2 3 0 7 tS := ⟨⟨okD, by unfold inU; omega, by unfold in64; omega⟩, q7, by kernel_rfl⟩
  have k0 : isK tC.n tC.ks tC.x1 tC.x2 tC.x3 tC.x4 tC.x5 tC.x6 tC.nx tC.us tC.fr tC.kx tC.px tC.ux tC.ps tC.no tC.h tC.t := ⟨kC, by kernel_rfl⟩
  have k1 : isK tS.n tS.ks tS.x1 tS.x2 tS.x3 tS.x4 tS.x5 tS.x6 tS.nx tS.us tS.fr tS.kx tS.px tS.ux tS.ps tS.no tS.h tS.t := ⟨okS, by kernel_rfl⟩
  have g0 : isG tS.n tS.ks tS.x1 tS.x2 tS.x3 tS.x4 tS.x5 tS.x6 tS.nx tS.us tS.fr tS.kx tS.px tS.ux tS.ps tS.no tS.h tS.t 5 := ⟨⟨okS, by unfold inU; omega⟩, by kernel_rfl, by kernel_rfl, by kernel_rfl, by kernel_rfl, by kernel_rfl, by kernel_rfl, by kernel_rfl⟩
  refine aly_calls tN tA tBB tC tD tS _ (by rw [show kyV tC = [5, 7] from q8]; rfl) (by rw [show kyV tS = [9, 5] from q9]; rfl) ⟨?_, rfl⟩
  (repeat' (first | assumption | exact trivial | apply And.intro)) <;> first | rfl | (rw [show kyV tC = [5, 7] from q8]; decide) | (rw [show kyV tS = [9, 5] from q9]; decide)
theorem aliveC_ok (args res l) (h : aliveC args = some (res, l)) (hl : AllP l) : CallsD Try.prog 28 args res := by
  unfold aliveC at h; split at h
  · simp only [Option.some.injEq, Prod.mk.injEq] at h
    obtain ⟨rfl, rfl⟩ := h
    exact alive_ok
  · cases h
end TableS
end

section
namespace TableS
open Go Go.Dam Go.Proofs Go.RowKit Go.ChangeShapes Go.WideShapes
set_option maxRecDepth 1000000
set_option linter.unusedVariables false
set_option linter.unusedSectionVars false
set_option linter.unusedSimpArgs false
/-- What is known of any table that comes in. -/
def okW (T : Tb) : Prop := (∀ i, i < T.kx.length → inU (T.kx.getD i 0)) ∧ (∀ i, i < T.ks.length → inU (T.ks.getD i 0)) ∧ (∀ i, i < T.x1.length → in64 (T.x4.getD i 0)) ∧
  T.x2.length = T.x1.length ∧ T.x3.length = T.x1.length ∧ T.x4.length = T.x1.length ∧ T.x5.length = T.x1.length ∧ T.x6.length = T.x1.length ∧ T.px.length = T.kx.length ∧ T.ux.length = T.kx.length
theorem okT_of {T : Tb} (h : okW T) (g : T.great = false) : okT T := by
  obtain ⟨h1, h2, h3, e2, e3, e4, e5, e6, e7, e8⟩ := h
  simp only [Tb.great, gr2, Bool.or_eq_false_iff, decide_eq_false_iff_not] at g
  obtain ⟨g1, g2, g3, ⟨g4, g5⟩, g6, g7⟩ := g
  exact ⟨⟨by omega, h1⟩, h2, h3, by omega, by omega, by omega, ⟨by omega, e2, e3, e4, e5, e6⟩, ⟨by omega, e7, e8⟩, by omega, by omega⟩
theorem notLive : ¬ Live := fun h => by cases h
def bKinds : List IntKind := [.i64, .i64, .i64, .i64, .i64, .u64]
def lKinds : List IntKind := [.i64, .i64, .i64]
def tKinds : List FK := [.one (.int .i64), .row [.int .u32], .row (bKinds.map CK.int), .row [.int .i64], .row [.bool], .one (.int .i64), .row [.int .u32, .int .i64, .bool], .row [.int .i64], .row [.int .i64], .one (.int .i64), .one (.int .i64)]
theorem ffits_cons {w : World} {k : FK} {ks : List FK} {vs : List Value} (h : FFits w (k :: ks) vs) : ∃ v vs', vs = v :: vs' ∧ k.ok w v ∧ FFits w ks vs' := by
  cases vs with
  | nil => cases h
  | cons v vs' => exact ⟨v, vs', rfl, h.1, h.2⟩
theorem wf_i64 {n : Int} (h : (Lit.int .i64 n).wf = true) : in64 n := by
  unfold in64
  simp [Lit.wf, IntKind.has, IntKind.min, IntKind.max, IntKind.signed, IntKind.bits] at h; omega
def inQ (n : Int) : Prop := 0 ≤ n ∧ n < 18446744073709551616
theorem wf_u64 {n : Int} (h : (Lit.int .u64 n).wf = true) : inQ n := by
  unfold inQ
  simp [Lit.wf, IntKind.has, IntKind.min, IntKind.max, IntKind.signed, IntKind.bits] at h; omega
theorem rep_nums {w : World} {A : Nat → Prop} (ks : List IntKind) (f : Nat → Int) : RepS w A (.agg (mkL ks f)) (.agg (mkVal ks f).toArray) := rep_ints ks f
theorem one_int {w : World} {k : IntKind} {v : Value} (h : (FK.one (.int k)).ok w v) : ∃ n, v = .int k n := by
  obtain ⟨n, e, _⟩ := h; exact ⟨n, e⟩
theorem row_ints {w : World} {k : IntKind} {v : Value} (h : (FK.row [.int k]).ok w v) : ∃ xs, RepS w (fun k => k < w.heap.size) (.rc [.ints k xs]) v ∧ ∀ i, i < xs.length → (Lit.int k (xs.getD i 0)).wf = true := by
  obtain ⟨cols, n, hc, hr⟩ := h
  obtain ⟨xs, cs, rfl, e, hw, hc⟩ := colsOf_int hc
  have := colsOf_nil hc; subst this; subst e
  exact ⟨xs, hr.rep notLive rfl (fun c hc m f q => by simp at hc; subst hc; cases q), hw⟩
theorem row_bools {w : World} {v : Value} (h : (FK.row [.bool]).ok w v) : ∃ xs, RepS w (fun k => k < w.heap.size) (.rc [.bools xs]) v := by
  obtain ⟨cols, n, hc, hr⟩ := h
  obtain ⟨xs, cs, rfl, e, hc⟩ := colsOf_bool hc
  have := colsOf_nil hc; subst this; subst e
  exact ⟨xs, hr.rep notLive rfl (fun c hc m f q => by simp at hc; subst hc; cases q)⟩
theorem row_cells {w : World} {v : Value} (h : (FK.row [.int .u32, .int .i64, .bool]).ok w v) : ∃ kx px ux, RepS w (fun k => k < w.heap.size) (cc kx px ux) v ∧ px.length = kx.length ∧ ux.length = kx.length ∧ ∀ i, i < kx.length → inU (kx.getD i 0) := by
  obtain ⟨cols, n, hc, hr⟩ := h
  obtain ⟨kx, cs, rfl, e, hw, hc⟩ := colsOf_int hc
  obtain ⟨px, cs, rfl, e2, _, hc⟩ := colsOf_int hc
  obtain ⟨ux, cs, rfl, e3, hc⟩ := colsOf_bool hc
  have := colsOf_nil hc; subst this; subst e
  exact ⟨kx, px, ux, hr.rep notLive rfl (fun c hc m f q => by simp at hc; rcases hc with rfl | rfl | rfl <;> cases q), e2, e3, fun i hi => wf_u32 (hw i hi)⟩
theorem row_buckets {w : World} {v : Value} (h : (FK.row (bKinds.map CK.int)).ok w v) : ∃ x1 x2 x3 x4 x5 x6, RepS w (fun k => k < w.heap.size) (kr x1 x2 x3 x4 x5 x6) v ∧
    (x2.length = x1.length ∧ x3.length = x1.length ∧ x4.length = x1.length ∧ x5.length = x1.length ∧ x6.length = x1.length) ∧ ∀ i, i < x1.length → in64 (x4.getD i 0) := by
  obtain ⟨cols, n, hc, hr⟩ := h
  obtain ⟨x1, cs, rfl, e, _, hc⟩ := colsOf_int hc
  obtain ⟨x2, cs, rfl, e2, _, hc⟩ := colsOf_int hc
  obtain ⟨x3, cs, rfl, e3, _, hc⟩ := colsOf_int hc
  obtain ⟨x4, cs, rfl, e4, hw, hc⟩ := colsOf_int hc
  obtain ⟨x5, cs, rfl, e5, _, hc⟩ := colsOf_int hc
  obtain ⟨x6, cs, rfl, e6, _, hc⟩ := colsOf_int hc
  have := colsOf_nil hc; subst this; subst e
  exact ⟨x1, x2, x3, x4, x5, x6, hr.rep notLive rfl (fun c hc m f q => by simp at hc; rcases hc with rfl | rfl | rfl | rfl | rfl | rfl <;> cases q), ⟨e2, e3, e4, e5, e6⟩, fun i hi => wf_i64 (hw i hi)⟩
/-- A table that comes in. -/
theorem table_in {w : World} {vs : List Value} (h : FFits w tKinds vs) : ∃ T : Tb, okW T ∧ RepS w (fun k => k < w.heap.size) T.d (.agg vs.toArray) := by
  obtain ⟨v0, vs, rfl, h0, h⟩ := ffits_cons h
  obtain ⟨v1, vs, rfl, h1, h⟩ := ffits_cons h
  obtain ⟨v2, vs, rfl, h2, h⟩ := ffits_cons h
  obtain ⟨v3, vs, rfl, h3, h⟩ := ffits_cons h
  obtain ⟨v4, vs, rfl, h4, h⟩ := ffits_cons h
  obtain ⟨v5, vs, rfl, h5, h⟩ := ffits_cons h
  obtain ⟨v6, vs, rfl, h6, h⟩ := ffits_cons h
  obtain ⟨v7, vs, rfl, h7, h⟩ := ffits_cons h
  obtain ⟨v8, vs, rfl, h8, h⟩ := ffits_cons h
  obtain ⟨v9, vs, rfl, h9, h⟩ := ffits_cons h
  obtain ⟨v10, vs, rfl, h10, h⟩ := ffits_cons h
  have : vs = [] := by cases vs with | nil => rfl | cons => cases h
  subst this
  obtain ⟨n, rfl⟩ := one_int h0
  obtain ⟨ks, r1, k1⟩ := row_ints h1
  obtain ⟨x1, x2, x3, x4, x5, x6, r2, ⟨e2, e3, e4, e5, e6⟩, k2⟩ := row_buckets h2
  obtain ⟨nx, r3, _⟩ := row_ints h3
  obtain ⟨us, r4⟩ := row_bools h4
  obtain ⟨fr, rfl⟩ := one_int h5
  obtain ⟨kx, px, ux, r6, e7, e8, k6⟩ := row_cells h6
  obtain ⟨ps, r7, _⟩ := row_ints h7
  obtain ⟨no, r8, _⟩ := row_ints h8
  obtain ⟨hh, rfl⟩ := one_int h9
  obtain ⟨t, rfl⟩ := one_int h10
  refine ⟨⟨n, ks, x1, x2, x3, x4, x5, x6, nx, us, fr, kx, px, ux, ps, no, hh, t⟩, ⟨k6, fun i hi => wf_u32 (k1 i hi), k2, e2, e3, e4, e5, e6, e7, e8⟩, ?_⟩
  simp only [RepS]
  refine ⟨_, rfl, ?_⟩
  simp only [RepL]
  exact ⟨_, _, rfl, rfl, _, _, rfl, r1, _, _, rfl, r2, _, _, rfl, r3, _, _, rfl, r4, _, _, rfl, rfl, _, _, rfl, r6, _, _, rfl, r7, _, _, rfl, r8, _, _, rfl, rfl, _, _, rfl, rfl, rfl⟩
end TableS
end
