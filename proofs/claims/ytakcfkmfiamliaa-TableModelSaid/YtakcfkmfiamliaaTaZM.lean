/- What the functions compute, and the law. No condition. -/
import Derived.Test.YtakcfkmfiamliaaTaUR
import Derived.Test.YtakcfkmfiamliaaTaTZ
import Derived.Test.YtakcfkmfiamliaaDamYA
import Derived.Test.YtakcfkmfiamliaaRows
set_option linter.unusedSectionVars false
set_option linter.unusedVariables false
set_option linter.unusedSimpArgs false
section
namespace TableS
open Go Go.Dam Go.Proofs
set_option maxRecDepth 1000000
/-- Which keys stay. -/
def flt (k g : Int) (v : Bool) (x : Int) : Bool := decide (x ≠ k) && !(v && decide (x = g))
def keysOf (T : Tb) (L : List Int) : List Int := L.map fun i => T.ks.getD i.toNat 0
/-- What a use makes of a right table: the key's place is in front, the others stay as they are. -/
structure Used (T U : Tb) (k g : Int) (v : Bool) (L L1 : List Int) (i : Nat) : Prop where
 inv : ∃ F, Inv U ((i : Int) :: L1) F
 ok : okT U
 n : U.n = T.n
 hi : (i : Int) < U.n
 us : U.us.getD i false = true
 ke : U.ks.getD i 0 = k
 nin : (i : Int) ∉ L1
 same : ∀ j ∈ L1, U.ks.getD j.toNat 0 = T.ks.getD j.toNat 0
 keys : keysOf T L1 = (keysOf T L).filter (flt k g v)
theorem filter_keys {T : Tb} {L M : List Int} {k g : Int} {v : Bool} (h1 : ∀ j ∈ L, j ∈ M ↔ flt k g v (T.ks.getD j.toNat 0) = true) (h2 : M = L.filter fun j => decide (j ∈ M)) : keysOf T M = (keysOf T L).filter (flt k g v) := by
 unfold keysOf
 rw [List.filter_map]
 conv => lhs; rw [h2]
 congr 1
 apply List.filter_congr
 intro j hj
 have := h1 j hj
 simp only [Function.comp_apply]
 rw [Bool.eq_iff_iff, decide_eq_true_eq]
 exact this
theorem wo_mem_filter {L : List Int} {p : Int} : wo L p = L.filter fun j => decide (j ∈ wo L p) := by
 conv => lhs; unfold wo
 apply List.filter_congr
 intro j hj
 rw [Bool.eq_iff_iff]; simp [mem_wo, hj]
theorem inv_key_mem {T : Tb} {L F : List Int} (v : Inv T L F) {j : Int} (hj : j ∈ L) {i : Nat} (hi : (i : Int) < T.n) (hu : T.us.getD i false = true) (e : T.ks.getD j.toNat 0 = T.ks.getD i 0) : j = i := by
 obtain ⟨a, b, c⟩ := inv_mem v hj
 have := inv_keys v (i := j.toNat) (j := i) (by omega) hi c hu e
 omega
theorem less_used {T : Tb} (ho : okT T) {L F : List Int} (v : Inv T L F) (hf : T.fr = -1) : ∀ j ∈ wo L T.t, T.less.ks.getD j.toNat 0 = T.ks.getD j.toNat 0 := fun j hj => by
 obtain ⟨hF, i, A, ei, eA, hi, hu⟩ := inv_last v hf
 obtain ⟨m, n⟩ := mem_wo.1 hj
 obtain ⟨a, b, c⟩ := inv_mem v m
 show (T.ks.set T.t.toNat 0).getD j.toNat 0 = _
 rw [getD_set_ne (by omega)]
theorem plus_used {T : Tb} (ho : okT T) {L F : List Int} (v : Inv T L F) {k b r p a : Int} (hk : inU k) (hf : T.fr ≠ -1) (hn : ∀ i : Nat, (i : Int) < T.n → T.us.getD i false = true → T.ks.getD i 0 ≠ k) (hb : limV b r p = 0) :
  ∃ i : Nat, T.fr = i ∧ (i : Int) ∉ L ∧ (∃ F', Inv (T.plus k b r p a) ((i : Int) :: L) F') ∧ okT (T.plus k b r p a) ∧ (i : Int) < T.n ∧ (T.plus k b r p a).us.getD i false = true ∧ (T.plus k b r p a).ks.getD i 0 = k ∧
   (∀ j ∈ L, (T.plus k b r p a).ks.getD j.toNat 0 = T.ks.getD j.toNat 0) ∧
   (T.plus k b r p a).x1.getD i 0 = b ∧ (T.plus k b r p a).x2.getD i 0 = r ∧ (T.plus k b r p a).x3.getD i 0 = p ∧ (T.plus k b r p a).x4.getD i 0 = b ∧ (T.plus k b r p a).x5.getD i 0 = 0 ∧ (T.plus k b r p a).x6.getD i 0 = a := by
 obtain ⟨F', eF, f0, f1, f2, w⟩ := inv_plus (a := a) ho v hk hf hn hb
 have ok' := okT_plus (a := a) ho v hk hf hn hb
 obtain ⟨k1, k2, k3, k4, k5, k6, k7⟩ := okT_lens ho v
 have ul := inv_us_len v
 refine ⟨T.fr.toNat, by omega, by rw [show ((T.fr.toNat : Nat) : Int) = T.fr by omega]; exact f2, ⟨F', by rw [show ((T.fr.toNat : Nat) : Int) = T.fr by omega]; exact w⟩, ok', by omega, ?_, ?_, fun j hj => ?_, ?_, ?_, ?_, ?_, ?_, ?_⟩
 ·show (T.us.set T.fr.toNat true).getD _ _ = _; exact getB_set_self (by omega)
 ·show (T.ks.set T.fr.toNat k).getD _ _ = _; exact getD_set_self (by omega)
 ·show (T.ks.set T.fr.toNat k).getD _ _ = _
  have := inv_mem v hj
  have : j ≠ T.fr := fun e => f2 (by rw [← e]; exact hj)
  exact getD_set_ne (by omega)
 ·show (T.x1.set T.fr.toNat b).getD _ _ = _; exact getD_set_self (by omega)
 ·show (T.x2.set T.fr.toNat r).getD _ _ = _; exact getD_set_self (by omega)
 ·show (T.x3.set T.fr.toNat p).getD _ _ = _; exact getD_set_self (by omega)
 ·show (T.x4.set T.fr.toNat b).getD _ _ = _; exact getD_set_self (by omega)
 ·show (T.x5.set T.fr.toNat 0).getD _ _ = _; exact getD_set_self (by omega)
 ·show (T.x6.set T.fr.toNat a).getD _ _ = _; exact getD_set_self (by omega)
/-- The law of Use. -/
theorem use_used {T : Tb} (ho : okT T) {L F : List Int} (v : Inv T L F) {k b r p a : Int} (hk : inU k) (hb : limV b r p = 0) : ∃ (L1 : List Int) (i : Nat),
  Used T (usR T k b r p a) k (usG T k b r p) (decide (usW T k b r p)) L L1 i ∧
  ((∃ i0 : Nat, (i0 : Int) < T.n ∧ T.us.getD i0 false = true ∧ T.ks.getD i0 0 = k) → ¬ usW T k b r p ∧ T.ks.getD i 0 = k ∧ (i : Int) ∈ L ∧ usR T k b r p a = T.touch i) ∧
  ((∀ i0 : Nat, (i0 : Int) < T.n → T.us.getD i0 false = true → T.ks.getD i0 0 ≠ k) → (usR T k b r p a).x1.getD i 0 = b ∧ (usR T k b r p a).x2.getD i 0 = r ∧ (usR T k b r p a).x3.getD i 0 = p ∧ (usR T k b r p a).x4.getD i 0 = b ∧ (usR T k b r p a).x5.getD i 0 = 0 ∧ (usR T k b r p a).x6.getD i 0 = a) ∧
  (usW T k b r p → ∃ A, L = A ++ [T.t] ∧ (L.length : Int) = T.n ∧ usG T k b r p = T.ks.getD T.t.toNat 0) ∧ (¬ usW T k b r p → (∀ i0 : Nat, (i0 : Int) < T.n → T.us.getD i0 false = true → T.ks.getD i0 0 ≠ k) → (L.length : Int) < T.n) := by
 have ht := inv_tc ho v
 have hkm : ∀ {i0 : Nat}, (i0 : Int) < T.n → T.us.getD i0 false = true → (i0 : Int) ∈ L := fun h u => by have := v.us _ h; rw [u] at this; simpa using this.symm
 have nd : L.Nodup := v.od.2.2.2.1
 rcases inv_pl v hk with ⟨i, ep, hi, hu, ek⟩ | ⟨ep, hn⟩
 ·have c3 : ¬ plV T k < 0 := by omega
  have hW : ¬ usW T k b r p := fun n => c3 n.2.2.1
  have eR : usR T k b r p a = T.touch i := by unfold usR; rw [if_pos ⟨ht, hb⟩, if_neg c3, ep]
  have hG : usG T k b r p = 0 := by unfold usG; rw [if_neg hW]
  have him := hkm hi hu
  rw [eR, hG, decide_eq_false hW]
  refine ⟨wo L i, i, ⟨⟨F, inv_touch v hi hu⟩, okT_touch ho i, rfl, hi, hu, ek, fun m => (mem_wo.1 m).2 rfl, fun j _ => rfl, ?_⟩, fun _ => ⟨hW, ek, him, rfl⟩, fun h => absurd ek (h i hi hu), fun w => absurd w hW, fun _ h => absurd ek (h i hi hu)⟩
  refine filter_keys (fun j hj => ?_) wo_mem_filter
  rw [mem_wo]
  unfold flt
  simp only [Bool.false_and, Bool.not_false, Bool.and_true, decide_eq_true_eq]
  constructor
  ·rintro ⟨_, n⟩ e
   exact n (inv_key_mem v hj hi hu (by rw [e, ek]))
  ·intro n
   exact ⟨hj, fun e => n (by subst e; rw [Int.toNat_natCast]; exact ek)⟩
 ·by_cases c4 : T.fr = -1
  ·have hW : usW T k b r p := ⟨ht, hb, by omega, c4⟩
   have eR : usR T k b r p a = T.less.plus k b r p a := by unfold usR; rw [if_pos ⟨ht, hb⟩, if_pos (by omega), if_pos c4]
   have hG : usG T k b r p = T.ks.getD T.t.toNat 0 := by unfold usG; rw [if_pos hW]
   obtain ⟨v1, ho1⟩ := less_inv ho v c4
   have hn1 := less_no ho v c4 hn
   obtain ⟨hF, i, A, ei, eA, hi, hu⟩ := inv_last v c4
   have hlen := inv_full v
   rw [hF] at hlen
   obtain ⟨q, e1, e2, e3, e4, e5, e6, e7, e8, x1, x2, x3, x4, x5, x6⟩ := plus_used (a := a) (r := r) (p := p) ho1 v1 hk (by show ((T.t.toNat : Nat) : Int) ≠ -1; omega) hn1 hb
   rw [eR, hG, decide_eq_true hW]
   refine ⟨wo L T.t, q, ⟨e3, e4, rfl, e5, e6, e7, e2, fun j hj => (e8 j hj).trans (less_used ho v c4 j hj), ?_⟩, fun ⟨i0, a1, a2, a3⟩ => absurd a3 (hn i0 a1 a2), fun _ => ⟨x1, x2, x3, x4, x5, x6⟩, fun _ => ⟨A, eA, by simp only [List.length_nil] at hlen; omega, rfl⟩, fun n => absurd hW n⟩
   refine filter_keys (fun j hj => ?_) wo_mem_filter
   rw [mem_wo]
   unfold flt
   obtain ⟨a1, a2, a3⟩ := inv_mem v hj
   have : T.ks.getD j.toNat 0 ≠ k := hn _ (by omega) a3
   simp only [this, ne_eq, not_false_eq_true, decide_true, Bool.true_and, Bool.not_eq_true', decide_eq_false_iff_not]
   constructor
   ·rintro ⟨_, n⟩ e
    apply n
    rw [ei]
    exact inv_key_mem v hj hi hu (by rw [e, ei, Int.toNat_natCast])
   ·intro n
    exact ⟨hj, fun e => n (by rw [e])⟩
  ·have hW : ¬ usW T k b r p := fun n => c4 n.2.2.2
   have eR : usR T k b r p a = T.plus k b r p a := by unfold usR; rw [if_pos ⟨ht, hb⟩, if_pos (by omega), if_neg c4]
   have hG : usG T k b r p = 0 := by unfold usG; rw [if_neg hW]
   obtain ⟨q, e1, e2, e3, e4, e5, e6, e7, e8, x1, x2, x3, x4, x5, x6⟩ := plus_used (a := a) (r := r) (p := p) ho v hk c4 hn hb
   have hlen := inv_full v
   obtain ⟨F', eF, _⟩ := ar_take v.ar c4
   rw [eR, hG, decide_eq_false hW]
   refine ⟨L, q, ⟨e3, e4, rfl, e5, e6, e7, e2, e8, ?_⟩, fun ⟨i0, a1, a2, a3⟩ => absurd a3 (hn i0 a1 a2), fun _ => ⟨x1, x2, x3, x4, x5, x6⟩, fun w => absurd w hW, fun _ _ => by rw [eF] at hlen; simp only [List.length_cons] at hlen; omega⟩
   symm
   rw [List.filter_eq_self]
   intro x hx
   unfold keysOf at hx
   obtain ⟨j, hj, e⟩ := List.mem_map.1 hx
   obtain ⟨a1, a2, a3⟩ := inv_mem v hj
   have : T.ks.getD j.toNat 0 ≠ k := hn _ (by omega) a3
   rw [e] at this
   unfold flt; simp [this]
end TableS
end

section
namespace TableS
open Go Go.Dam Go.Proofs
set_option maxRecDepth 1000000
noncomputable def X30 : Contracts := addCon 28 (.call aliveC) X26
theorem hX30 : ConOK Try.prog X30 := addCall_ok aliveC_ok hX26
end TableS
end

section
namespace TableS
open Go Go.Dam Go.Proofs
set_option maxRecDepth 1000000
noncomputable def tbB (T : Tb) (d1 d2 d3 d4 d5 d6 d7 : Nat) : BX := BX.cells [i64 T.n, D.sl d1 0 T.ks.length ⟨1, 0⟩, D.sl d2 0 T.x1.length ⟨6, 0⟩, D.sl d3 0 T.nx.length ⟨1, 0⟩, D.sl d4 0 T.us.length ⟨1, 0⟩, i64 T.fr, D.sl d5 0 T.kx.length ⟨3, 0⟩, D.sl d6 0 T.ps.length ⟨1, 0⟩, D.sl d7 0 T.no.length ⟨1, 0⟩, i64 T.h, i64 T.t] false
/-- The rounds of the law on the model: the table T, the model md of m keys, the round i. -/
noncomputable def moT (w : Bool) (n : Int) (l : List Int) (o : Bool) (i : Int) (T : Tb) (m rr : Nat) (md : List Int) : Cs := ⟨TT.of [(0, i64 n), (1, ru l), (4, bo o), (5, bo true), (6, D.ptr 192 0), (8, D.sl 9001 0 m ⟨1, rr⟩), (9, i64 i)], 165, [],
 [(192, tbB T 704 705 706 707 708 709 710), (704, BX.row [.ints .u32 T.ks] w), (705, BX.row [.ints .i64 T.x1, .ints .i64 T.x2, .ints .i64 T.x3, .ints .i64 T.x4, .ints .i64 T.x5, .ints .u64 T.x6] w), (706, BX.row [.ints .i64 T.nx] w), (707, BX.row [.bools T.us] w), (708, BX.row [.ints .u32 T.kx, .ints .i64 T.px, .bools T.ux] w), (709, BX.row [.ints .i64 T.ps] w), (710, BX.row [.ints .i64 T.no] w), (9001, BX.row [.ints .u32 md] false)], none, 0⟩
/-- The rounds of the inner loop: the table U that comes of a use, the list out of mm keys that is made of the model. -/
noncomputable def noT (w : Bool) (n : Int) (l : List Int) (o : Bool) (i : Int) (T : Tb) (m rr : Nat) (md : List Int) (U : Tb) (g : Int) (v : Bool) (f k : Int) (mm : Nat) (out : List Int) : Cs := ⟨TT.of [(0, i64 n), (1, ru l), (4, bo o), (5, bo true), (6, D.ptr 192 0), (8, D.sl 9001 0 m ⟨1, rr⟩), (9, i64 i), (10, D.ptr 320 0), (11, u32 g), (12, bo v), (13, i64 f), (14, D.sl 2560 0 mm ⟨1, 0⟩), (15, i64 k)], 165, [],
 [(192, tbB T 704 705 706 707 708 709 710), (704, BX.row [.ints .u32 T.ks] w), (705, BX.row [.ints .i64 T.x1, .ints .i64 T.x2, .ints .i64 T.x3, .ints .i64 T.x4, .ints .i64 T.x5, .ints .u64 T.x6] w), (706, BX.row [.ints .i64 T.nx] w), (707, BX.row [.bools T.us] w), (708, BX.row [.ints .u32 T.kx, .ints .i64 T.px, .bools T.ux] w), (709, BX.row [.ints .i64 T.ps] w), (710, BX.row [.ints .i64 T.no] w), (9001, BX.row [.ints .u32 md] false), (320, tbB U 2272 2273 2274 2275 2276 2277 2278), (2272, BX.row [.ints .u32 U.ks] false), (2273, BX.row [.ints .i64 U.x1, .ints .i64 U.x2, .ints .i64 U.x3, .ints .i64 U.x4, .ints .i64 U.x5, .ints .u64 U.x6] false), (2274, BX.row [.ints .i64 U.nx] false), (2275, BX.row [.bools U.us] false), (2276, BX.row [.ints .u32 U.kx, .ints .i64 U.px, .bools U.ux] false), (2277, BX.row [.ints .i64 U.ps] false), (2278, BX.row [.ints .i64 U.no] false), (2560, BX.row [.ints .u32 out] false)], none, 0⟩
end TableS
end

section
namespace TableS
open Go Go.Dam Go.Proofs
set_option maxRecDepth 1000000
noncomputable def noL_T (w : Bool) (n : Int) (l : List Int) (o : Bool) (i : Int) (T : Tb) (m : Nat) (rr : Nat) (md : List Int) (U : Tb) (g : Int) (v : Bool) (f : Int) (k : Int) (mm : Nat) (out : List Int) : Tr (Ex × Cs) := .d (cmpI .lss k ↑m) (fun e0 => .s (decide (k < ↑m) = true) (.s (decide (0 ≤ k) = true) (.s (k.toNat < md.length) (.s (decide (i < ↑(l.length)) = true) (.s (decide (0 ≤ i) = true) (.d (cmpI .neq (md.getD k.toNat 0) (l.getD i.toNat 0)) (fun e1 => .s (decide (k < ↑m) = true) (.s (decide (0 ≤ k) = true) (.s (k.toNat < md.length) (.s (out.length = out.length) (.s (mm = out.length) (.s ((mm + 1) * 4 ≤ 17592186044416) (.lf (Ex.normal, (noT (w) (n) (l) (o) (i) T (m) (rr) (md) U (g) (v) (f) (opI .add .i64 k 1) (mm + 1) (out ++ [md.getD k.toNat 0])))))))))) (fun e1 => .lf (Ex.normal, (noT (w) (n) (l) (o) (i) T (m) (rr) (md) U (g) (v) (f) (opI .add .i64 k 1) (mm) (out)))))))))) (fun e0 => .lf (Ex.exit 2, (noT (w) (n) (l) (o) (i) T (m) (rr) (md) U (g) (v) (f) (k) (mm) (out))))
theorem noL_L (w : Bool) (n : Int) (l : List Int) (o : Bool) (i : Int) (T : Tb) (m rr : Nat) (md : List Int) (U : Tb) (g : Int) (v : Bool) (f k : Int) (mm : Nat) (out : List Int) : Leaves (roundT Try.prog (X30) 100000 (loopAt Try.prog 5 1) [[0, 1, 4, 5, 6, 8, 9, 10, 11, 12, 13, 14, 15]] [(192, 192), (704, 704), (705, 705), (706, 706), (707, 707), (708, 708), (709, 709), (710, 710), (9001, 9001), (320, 320), (2272, 2272), (2273, 2273), (2274, 2274), (2275, 2275), (2276, 2276), (2277, 2277), (2278, 2278), (2560, 2560)] (noT w n l o i T m rr md U g v f k mm out)) (noL_T w n l o i T m rr md U g v f k mm out) [] [] := by refine ⟨fun _ => ⟨fun _ => ?_, fun _ => ?_⟩, fun _ => ?_⟩ <;> (show _ = _; kernel_rfl)
theorem noL_step (w : Bool) (n : Int) (l : List Int) (o : Bool) (i : Int) (T : Tb) (m : Nat) (rr : Nat) (md : List Int) (U : Tb) (g : Int) (v : Bool) (f : Int) (k : Int) (mm : Nat) (out : List Int) (σ : St) (e : Ex) (h0 : At (RG Try.prog (loopAt Try.prog 5 1) e σ) (noL_T w n l o i T m rr md U g v f k mm out) [true, true] True) (h1 : At (RG Try.prog (loopAt Try.prog 5 1) e σ) (noL_T w n l o i T m rr md U g v f k mm out) [true, false] True) (h2 : At (RG Try.prog (loopAt Try.prog 5 1) e σ) (noL_T w n l o i T m rr md U g v f k mm out) [false] True) : Runs Try.prog (CallsD Try.prog) (.rounds (loopAt Try.prog 5 1)) (noT w n l o i T m rr md U g v f k mm out).abs e σ := tree_rounds (hX30) (noL_L w n l o i T m rr md U g v f k mm out) ⟨fun e0 => ⟨fun e1 => h0 e0 e1, fun e1 => h1 e0 e1⟩, fun e0 => h2 e0⟩
theorem moE_r0 (w : Bool) (n : Int) (l : List Int) (o : Bool) (i : Int) (T : Tb) (m rr : Nat) (md : List Int) : roundX Try.prog (X30) 100000 (loopAt Try.prog 5 0) [.d false] [[0, 1, 4, 5, 6, 8, 9]] [(192, 192), (704, 704), (705, 705), (706, 706), (707, 707), (708, 708), (709, 709), (710, 710), (9001, 9001)] (moT w n l o i T m rr md) = some (Ex.exit 0, (moT (w) (n) (l) (o) (i) T (m) (rr) (md)), [cmpI .lss i ↑(l.length) = false]) := by kernel_rfl
noncomputable def moAr_c0 (l : List Int) (i : Int) (T : Tb) := ltV (usR T (l.getD i.toNat 0) 10 1 2 (IntKind.u64.wrap i))
theorem moA_r0 (w : Bool) (n : Int) (l : List Int) (o : Bool) (i : Int) (T : Tb) (m rr : Nat) (md : List Int) (k : Int) (mm : Nat) (out : List Int) : roundX Try.prog (X30) 100000 (loopAt Try.prog 5 0) [.d true, PE.k [Cast.cells 2560 (Col0.ints .u32 [])], PE.l [[0, 1, 4, 5, 6, 8, 9, 10, 11, 12, 13, 14, 15]] [(192, 192), (704, 704), (705, 705), (706, 706), (707, 707), (708, 708), (709, 709), (710, 710), (9001, 9001), (320, 320), (2272, 2272), (2273, 2273), (2274, 2274), (2275, 2275), (2276, 2276), (2277, 2277), (2278, 2278), (2560, 2560)] (noT w n l o i T m rr md (usR T (l.getD i.toNat 0) 10 1 2 (IntKind.u64.wrap i)) (usG T (l.getD i.toNat 0) 10 1 2) (decide (usW T (l.getD i.toNat 0) 10 1 2)) (usE T 10 1 2) 0 1 [l.getD i.toNat 0]) (Ex.exit 2) (noT w n l o i T m rr md (usR T (l.getD i.toNat 0) 10 1 2 (IntKind.u64.wrap i)) (usG T (l.getD i.toNat 0) 10 1 2) (decide (usW T (l.getD i.toNat 0) 10 1 2)) (usE T 10 1 2) k mm out), .d false, .c 1, .d false, .c 0, .d true, .c 5, .d false, .c 1, .d false, .c 4, .d false, PE.q [Cast.cut 2560 (mostI .lss n ↑mm).toNat], .d false] [[0, 1, 4, 5, 6, 8, 9]] [(192, 192), (2272, 704), (2273, 705), (2274, 706), (2275, 707), (2276, 708), (2277, 709), (2278, 710), (2560, 9001)] (moT w n l o i T m rr md) = some (Ex.normal, (moT (false) (n) (l) (o) (opI .add .i64 i 1) (usR T (l.getD i.toNat 0) 10 1 2 (IntKind.u64.wrap i)) ((mostI .lss n ↑mm).toNat) (max mm 0) (List.take (mostI .lss n ↑mm).toNat out)), [(!eqB (moAr_c0 l i T) (List.take (mostI .lss n ↑mm).toNat out)) = false, rowLen0 [.ints .u32 (moAr_c0 l i T)] = rowLen0 [.ints .u32 (moAr_c0 l i T)], (mostI .lss n ↑mm).toNat = rowLen0 [Col0.cut (mostI .lss n ↑mm).toNat (Col0.ints .u32 out)], (moAr_c0 l i T).length ≤ 200, (usR T (l.getD i.toNat 0) 10 1 2 (IntKind.u64.wrap i)).ks.length = rowLen0 [.ints .u32 (usR T (l.getD i.toNat 0) 10 1 2 (IntKind.u64.wrap i)).ks], (usR T (l.getD i.toNat 0) 10 1 2 (IntKind.u64.wrap i)).x1.length = rowLen0 [.ints .i64 (usR T (l.getD i.toNat 0) 10 1 2 (IntKind.u64.wrap i)).x1, .ints .i64 (usR T (l.getD i.toNat 0) 10 1 2 (IntKind.u64.wrap i)).x2, .ints .i64 (usR T (l.getD i.toNat 0) 10 1 2 (IntKind.u64.wrap i)).x3, .ints .i64 (usR T (l.getD i.toNat 0) 10 1 2 (IntKind.u64.wrap i)).x4, .ints .i64 (usR T (l.getD i.toNat 0) 10 1 2 (IntKind.u64.wrap i)).x5, .ints .u64 (usR T (l.getD i.toNat 0) 10 1 2 (IntKind.u64.wrap i)).x6], (usR T (l.getD i.toNat 0) 10 1 2 (IntKind.u64.wrap i)).nx.length = rowLen0 [.ints .i64 (usR T (l.getD i.toNat 0) 10 1 2 (IntKind.u64.wrap i)).nx], (usR T (l.getD i.toNat 0) 10 1 2 (IntKind.u64.wrap i)).us.length = rowLen0 [.bools (usR T (l.getD i.toNat 0) 10 1 2 (IntKind.u64.wrap i)).us], (usR T (l.getD i.toNat 0) 10 1 2 (IntKind.u64.wrap i)).kx.length = rowLen0 [.ints .u32 (usR T (l.getD i.toNat 0) 10 1 2 (IntKind.u64.wrap i)).kx, .ints .i64 (usR T (l.getD i.toNat 0) 10 1 2 (IntKind.u64.wrap i)).px, .bools (usR T (l.getD i.toNat 0) 10 1 2 (IntKind.u64.wrap i)).ux], (usR T (l.getD i.toNat 0) 10 1 2 (IntKind.u64.wrap i)).ps.length = rowLen0 [.ints .i64 (usR T (l.getD i.toNat 0) 10 1 2 (IntKind.u64.wrap i)).ps], (usR T (l.getD i.toNat 0) 10 1 2 (IntKind.u64.wrap i)).no.length = rowLen0 [.ints .i64 (usR T (l.getD i.toNat 0) 10 1 2 (IntKind.u64.wrap i)).no], ltS (usR T (l.getD i.toNat 0) 10 1 2 (IntKind.u64.wrap i)), decide (0 ≤ mostI .lss n ↑mm) = true, decide (mostI .lss n ↑mm ≤ ↑mm) = true, cmpI .neq (rcV (usR T (l.getD i.toNat 0) 10 1 2 (IntKind.u64.wrap i))) 0 = false, (usR T (l.getD i.toNat 0) 10 1 2 (IntKind.u64.wrap i)).ks.length = rowLen0 [.ints .u32 (usR T (l.getD i.toNat 0) 10 1 2 (IntKind.u64.wrap i)).ks], (usR T (l.getD i.toNat 0) 10 1 2 (IntKind.u64.wrap i)).x1.length = rowLen0 [.ints .i64 (usR T (l.getD i.toNat 0) 10 1 2 (IntKind.u64.wrap i)).x1, .ints .i64 (usR T (l.getD i.toNat 0) 10 1 2 (IntKind.u64.wrap i)).x2, .ints .i64 (usR T (l.getD i.toNat 0) 10 1 2 (IntKind.u64.wrap i)).x3, .ints .i64 (usR T (l.getD i.toNat 0) 10 1 2 (IntKind.u64.wrap i)).x4, .ints .i64 (usR T (l.getD i.toNat 0) 10 1 2 (IntKind.u64.wrap i)).x5, .ints .u64 (usR T (l.getD i.toNat 0) 10 1 2 (IntKind.u64.wrap i)).x6], (usR T (l.getD i.toNat 0) 10 1 2 (IntKind.u64.wrap i)).nx.length = rowLen0 [.ints .i64 (usR T (l.getD i.toNat 0) 10 1 2 (IntKind.u64.wrap i)).nx], (usR T (l.getD i.toNat 0) 10 1 2 (IntKind.u64.wrap i)).us.length = rowLen0 [.bools (usR T (l.getD i.toNat 0) 10 1 2 (IntKind.u64.wrap i)).us], (usR T (l.getD i.toNat 0) 10 1 2 (IntKind.u64.wrap i)).kx.length = rowLen0 [.ints .u32 (usR T (l.getD i.toNat 0) 10 1 2 (IntKind.u64.wrap i)).kx, .ints .i64 (usR T (l.getD i.toNat 0) 10 1 2 (IntKind.u64.wrap i)).px, .bools (usR T (l.getD i.toNat 0) 10 1 2 (IntKind.u64.wrap i)).ux], (usR T (l.getD i.toNat 0) 10 1 2 (IntKind.u64.wrap i)).ps.length = rowLen0 [.ints .i64 (usR T (l.getD i.toNat 0) 10 1 2 (IntKind.u64.wrap i)).ps], (usR T (l.getD i.toNat 0) 10 1 2 (IntKind.u64.wrap i)).no.length = rowLen0 [.ints .i64 (usR T (l.getD i.toNat 0) 10 1 2 (IntKind.u64.wrap i)).no], okT (usR T (l.getD i.toNat 0) 10 1 2 (IntKind.u64.wrap i)), (!cmpI .gtr (↑mm) n) = false, cmpI .neq (usG T (l.getD i.toNat 0) 10 1 2) (out.getD n.toNat 0) = false, n.toNat < out.length, decide (0 ≤ n) = true, decide (n < ↑mm) = true, cmpI .gtr (↑mm) n = true, (!decide (usW T (l.getD i.toNat 0) 10 1 2) == cmpI .gtr (↑mm) n) = false, cmpI .neq (usE T 10 1 2) 0 = false, (noT w n l o i T m rr md (usR T (l.getD i.toNat 0) 10 1 2 (IntKind.u64.wrap i)) (usG T (l.getD i.toNat 0) 10 1 2) (decide (usW T (l.getD i.toNat 0) 10 1 2)) (usE T 10 1 2) 0 1 [l.getD i.toNat 0] = noT w n l o i T m rr md (usR T (l.getD i.toNat 0) 10 1 2 (IntKind.u64.wrap i)) (usG T (l.getD i.toNat 0) 10 1 2) (decide (usW T (l.getD i.toNat 0) 10 1 2)) (usE T 10 1 2) 0 1 [l.getD i.toNat 0]), Runs Try.prog (CallsD Try.prog) (.code (.loop (loopAt Try.prog 5 1))) (noT w n l o i T m rr md (usR T (l.getD i.toNat 0) 10 1 2 (IntKind.u64.wrap i)) (usG T (l.getD i.toNat 0) 10 1 2) (decide (usW T (l.getD i.toNat 0) 10 1 2)) (usE T 10 1 2) 0 1 [l.getD i.toNat 0]).abs (Ex.exit 2) (noT w n l o i T m rr md (usR T (l.getD i.toNat 0) 10 1 2 (IntKind.u64.wrap i)) (usG T (l.getD i.toNat 0) 10 1 2) (decide (usW T (l.getD i.toNat 0) 10 1 2)) (usE T 10 1 2) k mm out).abs, decide (0 ≤ i) = true, decide (i < ↑(l.length)) = true, T.ks.length = rowLen0 [.ints .u32 T.ks], T.x1.length = rowLen0 [.ints .i64 T.x1, .ints .i64 T.x2, .ints .i64 T.x3, .ints .i64 T.x4, .ints .i64 T.x5, .ints .u64 T.x6], T.nx.length = rowLen0 [.ints .i64 T.nx], T.us.length = rowLen0 [.bools T.us], T.kx.length = rowLen0 [.ints .u32 T.kx, .ints .i64 T.px, .bools T.ux], T.ps.length = rowLen0 [.ints .i64 T.ps], T.no.length = rowLen0 [.ints .i64 T.no], okT T ∧ inU (l.getD i.toNat 0), decide (0 ≤ i) = true, decide (i < ↑(l.length)) = true, cmpI .lss i ↑(l.length) = true]) := by kernel_rfl
noncomputable def moBr_c0 (l : List Int) (i : Int) (T : Tb) := ltV (usR T (l.getD i.toNat 0) 10 1 2 (IntKind.u64.wrap i))
theorem moB_r0 (w : Bool) (n : Int) (l : List Int) (o : Bool) (i : Int) (T : Tb) (m rr : Nat) (md : List Int) (k : Int) (mm : Nat) (out : List Int) : roundX Try.prog (X30) 100000 (loopAt Try.prog 5 0) [.d true, PE.k [Cast.cells 2560 (Col0.ints .u32 [])], PE.l [[0, 1, 4, 5, 6, 8, 9, 10, 11, 12, 13, 14, 15]] [(192, 192), (704, 704), (705, 705), (706, 706), (707, 707), (708, 708), (709, 709), (710, 710), (9001, 9001), (320, 320), (2272, 2272), (2273, 2273), (2274, 2274), (2275, 2275), (2276, 2276), (2277, 2277), (2278, 2278), (2560, 2560)] (noT w n l o i T m rr md (usR T (l.getD i.toNat 0) 10 1 2 (IntKind.u64.wrap i)) (usG T (l.getD i.toNat 0) 10 1 2) (decide (usW T (l.getD i.toNat 0) 10 1 2)) (usE T 10 1 2) 0 1 [l.getD i.toNat 0]) (Ex.exit 2) (noT w n l o i T m rr md (usR T (l.getD i.toNat 0) 10 1 2 (IntKind.u64.wrap i)) (usG T (l.getD i.toNat 0) 10 1 2) (decide (usW T (l.getD i.toNat 0) 10 1 2)) (usE T 10 1 2) k mm out), .d false, .c 1, .d false, .c 0, .d false, .c 8, .d true, .c 1, .d false, .c 1, .d false, PE.q [Cast.cut 2560 (mostI .lss n ↑mm).toNat], .d false] [[0, 1, 4, 5, 6, 8, 9]] [(192, 192), (2272, 704), (2273, 705), (2274, 706), (2275, 707), (2276, 708), (2277, 709), (2278, 710), (2560, 9001)] (moT w n l o i T m rr md) = some (Ex.normal, (moT (false) (n) (l) (o) (opI .add .i64 i 1) (usR T (l.getD i.toNat 0) 10 1 2 (IntKind.u64.wrap i)) ((mostI .lss n ↑mm).toNat) (max mm 0) (List.take (mostI .lss n ↑mm).toNat out)), [(!eqB (moBr_c0 l i T) (List.take (mostI .lss n ↑mm).toNat out)) = false, rowLen0 [.ints .u32 (moBr_c0 l i T)] = rowLen0 [.ints .u32 (moBr_c0 l i T)], (mostI .lss n ↑mm).toNat = rowLen0 [Col0.cut (mostI .lss n ↑mm).toNat (Col0.ints .u32 out)], (moBr_c0 l i T).length ≤ 200, (usR T (l.getD i.toNat 0) 10 1 2 (IntKind.u64.wrap i)).ks.length = rowLen0 [.ints .u32 (usR T (l.getD i.toNat 0) 10 1 2 (IntKind.u64.wrap i)).ks], (usR T (l.getD i.toNat 0) 10 1 2 (IntKind.u64.wrap i)).x1.length = rowLen0 [.ints .i64 (usR T (l.getD i.toNat 0) 10 1 2 (IntKind.u64.wrap i)).x1, .ints .i64 (usR T (l.getD i.toNat 0) 10 1 2 (IntKind.u64.wrap i)).x2, .ints .i64 (usR T (l.getD i.toNat 0) 10 1 2 (IntKind.u64.wrap i)).x3, .ints .i64 (usR T (l.getD i.toNat 0) 10 1 2 (IntKind.u64.wrap i)).x4, .ints .i64 (usR T (l.getD i.toNat 0) 10 1 2 (IntKind.u64.wrap i)).x5, .ints .u64 (usR T (l.getD i.toNat 0) 10 1 2 (IntKind.u64.wrap i)).x6], (usR T (l.getD i.toNat 0) 10 1 2 (IntKind.u64.wrap i)).nx.length = rowLen0 [.ints .i64 (usR T (l.getD i.toNat 0) 10 1 2 (IntKind.u64.wrap i)).nx], (usR T (l.getD i.toNat 0) 10 1 2 (IntKind.u64.wrap i)).us.length = rowLen0 [.bools (usR T (l.getD i.toNat 0) 10 1 2 (IntKind.u64.wrap i)).us], (usR T (l.getD i.toNat 0) 10 1 2 (IntKind.u64.wrap i)).kx.length = rowLen0 [.ints .u32 (usR T (l.getD i.toNat 0) 10 1 2 (IntKind.u64.wrap i)).kx, .ints .i64 (usR T (l.getD i.toNat 0) 10 1 2 (IntKind.u64.wrap i)).px, .bools (usR T (l.getD i.toNat 0) 10 1 2 (IntKind.u64.wrap i)).ux], (usR T (l.getD i.toNat 0) 10 1 2 (IntKind.u64.wrap i)).ps.length = rowLen0 [.ints .i64 (usR T (l.getD i.toNat 0) 10 1 2 (IntKind.u64.wrap i)).ps], (usR T (l.getD i.toNat 0) 10 1 2 (IntKind.u64.wrap i)).no.length = rowLen0 [.ints .i64 (usR T (l.getD i.toNat 0) 10 1 2 (IntKind.u64.wrap i)).no], ltS (usR T (l.getD i.toNat 0) 10 1 2 (IntKind.u64.wrap i)), decide (0 ≤ mostI .lss n ↑mm) = true, decide (mostI .lss n ↑mm ≤ ↑mm) = true, cmpI .neq (rcV (usR T (l.getD i.toNat 0) 10 1 2 (IntKind.u64.wrap i))) 0 = false, (usR T (l.getD i.toNat 0) 10 1 2 (IntKind.u64.wrap i)).ks.length = rowLen0 [.ints .u32 (usR T (l.getD i.toNat 0) 10 1 2 (IntKind.u64.wrap i)).ks], (usR T (l.getD i.toNat 0) 10 1 2 (IntKind.u64.wrap i)).x1.length = rowLen0 [.ints .i64 (usR T (l.getD i.toNat 0) 10 1 2 (IntKind.u64.wrap i)).x1, .ints .i64 (usR T (l.getD i.toNat 0) 10 1 2 (IntKind.u64.wrap i)).x2, .ints .i64 (usR T (l.getD i.toNat 0) 10 1 2 (IntKind.u64.wrap i)).x3, .ints .i64 (usR T (l.getD i.toNat 0) 10 1 2 (IntKind.u64.wrap i)).x4, .ints .i64 (usR T (l.getD i.toNat 0) 10 1 2 (IntKind.u64.wrap i)).x5, .ints .u64 (usR T (l.getD i.toNat 0) 10 1 2 (IntKind.u64.wrap i)).x6], (usR T (l.getD i.toNat 0) 10 1 2 (IntKind.u64.wrap i)).nx.length = rowLen0 [.ints .i64 (usR T (l.getD i.toNat 0) 10 1 2 (IntKind.u64.wrap i)).nx], (usR T (l.getD i.toNat 0) 10 1 2 (IntKind.u64.wrap i)).us.length = rowLen0 [.bools (usR T (l.getD i.toNat 0) 10 1 2 (IntKind.u64.wrap i)).us], (usR T (l.getD i.toNat 0) 10 1 2 (IntKind.u64.wrap i)).kx.length = rowLen0 [.ints .u32 (usR T (l.getD i.toNat 0) 10 1 2 (IntKind.u64.wrap i)).kx, .ints .i64 (usR T (l.getD i.toNat 0) 10 1 2 (IntKind.u64.wrap i)).px, .bools (usR T (l.getD i.toNat 0) 10 1 2 (IntKind.u64.wrap i)).ux], (usR T (l.getD i.toNat 0) 10 1 2 (IntKind.u64.wrap i)).ps.length = rowLen0 [.ints .i64 (usR T (l.getD i.toNat 0) 10 1 2 (IntKind.u64.wrap i)).ps], (usR T (l.getD i.toNat 0) 10 1 2 (IntKind.u64.wrap i)).no.length = rowLen0 [.ints .i64 (usR T (l.getD i.toNat 0) 10 1 2 (IntKind.u64.wrap i)).no], okT (usR T (l.getD i.toNat 0) 10 1 2 (IntKind.u64.wrap i)), cmpI .neq (usG T (l.getD i.toNat 0) 10 1 2) 0 = false, (!cmpI .gtr (↑mm) n) = true, cmpI .gtr (↑mm) n = false, (!decide (usW T (l.getD i.toNat 0) 10 1 2) == cmpI .gtr (↑mm) n) = false, cmpI .neq (usE T 10 1 2) 0 = false, (noT w n l o i T m rr md (usR T (l.getD i.toNat 0) 10 1 2 (IntKind.u64.wrap i)) (usG T (l.getD i.toNat 0) 10 1 2) (decide (usW T (l.getD i.toNat 0) 10 1 2)) (usE T 10 1 2) 0 1 [l.getD i.toNat 0] = noT w n l o i T m rr md (usR T (l.getD i.toNat 0) 10 1 2 (IntKind.u64.wrap i)) (usG T (l.getD i.toNat 0) 10 1 2) (decide (usW T (l.getD i.toNat 0) 10 1 2)) (usE T 10 1 2) 0 1 [l.getD i.toNat 0]), Runs Try.prog (CallsD Try.prog) (.code (.loop (loopAt Try.prog 5 1))) (noT w n l o i T m rr md (usR T (l.getD i.toNat 0) 10 1 2 (IntKind.u64.wrap i)) (usG T (l.getD i.toNat 0) 10 1 2) (decide (usW T (l.getD i.toNat 0) 10 1 2)) (usE T 10 1 2) 0 1 [l.getD i.toNat 0]).abs (Ex.exit 2) (noT w n l o i T m rr md (usR T (l.getD i.toNat 0) 10 1 2 (IntKind.u64.wrap i)) (usG T (l.getD i.toNat 0) 10 1 2) (decide (usW T (l.getD i.toNat 0) 10 1 2)) (usE T 10 1 2) k mm out).abs, decide (0 ≤ i) = true, decide (i < ↑(l.length)) = true, T.ks.length = rowLen0 [.ints .u32 T.ks], T.x1.length = rowLen0 [.ints .i64 T.x1, .ints .i64 T.x2, .ints .i64 T.x3, .ints .i64 T.x4, .ints .i64 T.x5, .ints .u64 T.x6], T.nx.length = rowLen0 [.ints .i64 T.nx], T.us.length = rowLen0 [.bools T.us], T.kx.length = rowLen0 [.ints .u32 T.kx, .ints .i64 T.px, .bools T.ux], T.ps.length = rowLen0 [.ints .i64 T.ps], T.no.length = rowLen0 [.ints .i64 T.no], okT T ∧ inU (l.getD i.toNat 0), decide (0 ≤ i) = true, decide (i < ↑(l.length)) = true, cmpI .lss i ↑(l.length) = true]) := by kernel_rfl
noncomputable def moF_T (n : Int) (la : List Int) (i : Int) (T : Tb) (m : Nat) (rr : Nat) (md : List Int) : Tr D := .d (cmpI .neq (nwE n) 0) (fun e0 => .p (.c 13) (.d (cmpI .lss n 1) (fun e1 => .p (.c 2) (.lf (D.v (Value.bool (cmpI .neq (nwE n) 0 == true))))) (fun e1 => .p (.c 2) (.lf (D.v (Value.bool (cmpI .neq (nwE n) 0 == cmpI .gtr n 8))))))) (fun e0 => .p (.c 0) (.d (cmpI .lss n 1) (fun e1 => .p (.c 11) (.p (.d true) (.p (.c 2) (.k _ e1 (.lf (D.v (Value.bool (cmpI .neq (nwE n) 0 == true)))))))) (fun e1 => .p (.c 0) (.d (cmpI .gtr n 8) (fun e2 => .p (.c 9) (.p (.d false) (.p (.c 2) (.k _ e1 (.lf (D.v (Value.bool (cmpI .neq (nwE n) 0 == cmpI .gtr n 8)))))))) (fun e2 => .p (.c 1) (.d (cmpI .gtr (↑(la.length)) 60) (fun e3 => .p (.c 6) (.p (.d false) (.p (.c 2) (.k _ e1 (.lf (D.v (Value.bool (cmpI .neq (nwE n) 0 == cmpI .gtr n 8)))))))) (fun e3 => .p (.c 1) (.p (.k [Cast.nil 8 9001 1 [.ints .u32 []]]) (.p (.l [[0, 1, 4, 5, 6, 8, 9]] [(192, 192), (704, 704), (705, 705), (706, 706), (707, 707), (708, 708), (709, 709), (710, 710), (9001, 9001)] (moT false n la false 0 (nwV n) 0 0 []) (Ex.exit 0) (moT false n la false i T m rr md)) (.p (.c 1) (.s (Runs Try.prog (CallsD Try.prog) (.code (.loop (loopAt Try.prog 5 0))) (moT false n la false 0 (nwV n) 0 0 []).abs (Ex.exit 0) (moT false n la false i T m rr md).abs) (.k ((moT false n la false 0 (nwV n) 0 0 [] = moT false n la false 0 (nwV n) 0 0 [])) rfl (.s (okT T) (.s (T.no.length = rowLen0 [.ints .i64 T.no]) (.s (T.ps.length = rowLen0 [.ints .i64 T.ps]) (.s (T.kx.length = rowLen0 [.ints .u32 T.kx, .ints .i64 T.px, .bools T.ux]) (.s (T.us.length = rowLen0 [.bools T.us]) (.s (T.nx.length = rowLen0 [.ints .i64 T.nx]) (.s (T.x1.length = rowLen0 [.ints .i64 T.x1, .ints .i64 T.x2, .ints .i64 T.x3, .ints .i64 T.x4, .ints .i64 T.x5, .ints .u64 T.x6]) (.s (T.ks.length = rowLen0 [.ints .u32 T.ks]) (.d (cmpI .eql (tcV T) 0) (fun e4 => .p (.c 1) (.s ((kyV T).length ≤ 200) (.s (m = md.length) (.q (rowLen0 [.ints .u32 (kyV T)]) (.lf (D.v (Value.bool (eqB (kyV T) md)))))))) (fun e4 => .p (.c 1) (.lf (bo false))))))))))))))))))))))))
theorem moF_L (n : Int) (la : List Int) (i : Int) (T : Tb) (m rr : Nat) (md : List Int) : Leaves (fun l => fnX Try.prog (X30) 100000 l 5 [i64 n, ru la]) (moF_T n la i T m rr md) [] [] := by refine ⟨fun _ => ⟨fun _ => ?_, fun _ => ?_⟩, fun _ => ⟨fun _ => ?_, fun _ => ⟨fun _ => ?_, fun _ => ⟨fun _ => ?_, fun _ => ⟨fun _ => ?_, fun _ => ?_⟩⟩⟩⟩⟩ <;> (show _ = _; kernel_rfl)
theorem moF_calls (n : Int) (la : List Int) (i : Int) (T : Tb) (m rr : Nat) (md : List Int) (res : D) (h0 : At (fun r => res = r) (moF_T n la i T m rr md) [true, true] True) (h1 : At (fun r => res = r) (moF_T n la i T m rr md) [true, false] True) (h2 : At (fun r => res = r) (moF_T n la i T m rr md) [false, true] True) (h3 : At (fun r => res = r) (moF_T n la i T m rr md) [false, false, true] True) (h4 : At (fun r => res = r) (moF_T n la i T m rr md) [false, false, false, true] True) (h5 : At (fun r => res = r) (moF_T n la i T m rr md) [false, false, false, false, true] True) (h6 : At (fun r => res = r) (moF_T n la i T m rr md) [false, false, false, false, false] True) : CallsD Try.prog 5 [i64 n, ru la] res := tree_calls (hX30) (moF_L n la i T m rr md) ⟨fun e0 => ⟨fun e1 => h0 e0 e1, fun e1 => h1 e0 e1⟩, fun e0 => ⟨fun e1 => h2 e0 e1, fun e1 => ⟨fun e2 => h3 e0 e1 e2, fun e2 => ⟨fun e3 => h4 e0 e1 e2 e3, fun e3 => ⟨fun e4 => h5 e0 e1 e2 e3 e4, fun e4 => h6 e0 e1 e2 e3 e4⟩⟩⟩⟩⟩
/-! ## The list alone -/
theorem mostI_min5 (p q : Int) : mostI .lss p q = min p q := by
 unfold mostI
 cases h : cmpI .lss q p with
 | true => rw [lss_t] at h; simp only [cond_true]; omega
 | false => rw [lss_f] at h; simp only [cond_false]; omega
/-- What a use makes of the list: the keys that stay, behind the one used. -/
def outOf (x : Int) (K : List Int) : List Int := x :: K.filter fun y => decide (y ≠ x)
theorem used_list {T U : Tb} {x g : Int} {v : Bool} {L L1 : List Int} {i : Nat} (u : Used T U x g v L L1 i) : keysOf U ((i : Int) :: L1) = x :: (keysOf T L).filter (flt x g v) := by
 unfold keysOf
 rw [List.map_cons, Int.toNat_natCast, u.ke]
 congr 1
 have : L1.map (fun i => U.ks.getD i.toNat 0) = L1.map fun i => T.ks.getD i.toNat 0 := List.map_congr_left fun j hj => u.same j hj
 rw [this]
 exact u.keys
theorem keys_len (T : Tb) (L : List Int) : (keysOf T L).length = L.length := by unfold keysOf; rw [List.length_map]
theorem inv_len {T : Tb} {L F : List Int} (v : Inv T L F) : (L.length : Int) ≤ T.n ∧ 1 ≤ T.n ∧ T.n ≤ 8 := by
 have c := inv_full v
 have s := v.sz
 exact ⟨by omega, s.1, s.2.1⟩
theorem filter_false (x g : Int) (K : List Int) : K.filter (flt x g false) = K.filter fun y => decide (y ≠ x) := by
 congr 1; funext y; simp [flt]
theorem filter_out {x : Int} {K : List Int} (h : ∀ y ∈ K, y ≠ x) : (K.filter fun y => decide (y ≠ x)) = K :=
 List.filter_eq_self.2 fun y hy => by simpa using h y hy
/-- The list is full, and the key is new: the last one goes. -/
theorem filter_last {x g : Int} {A : List Int} (h : ∀ y ∈ A ++ [g], y ≠ x) (hg : g ∉ A) : (A ++ [g]).filter (flt x g true) = A := by
 rw [List.filter_append]
 have e1 : A.filter (flt x g true) = A := List.filter_eq_self.2 fun y hy => by
  have a := h y (by simp [hy])
  have b : y ≠ g := fun e => hg (by rw [← e]; exact hy)
  simp [flt, a, b]
 have e2 : [g].filter (flt x g true) = [] := by simp [flt]
 rw [e1, e2, List.append_nil]
end TableS
end

section
namespace TableS
open Go Go.Dam Go.Proofs
set_option maxRecDepth 1000000
theorem out_succ (x : Int) {md : List Int} {j : Nat} (h : j < md.length) : outOf x (md.take (j + 1)) = outOf x (md.take j) ++ if md.getD j 0 ≠ x then [md.getD j 0] else [] := by
 unfold outOf
 rw [List.take_succ_eq_append_getElem h, List.filter_append, List.cons_append]
 have : md.getD j 0 = md[j] := by rw [List.getD_eq_getElem?_getD, List.getElem?_eq_getElem h]; rfl
 rw [this]
 by_cases e : md[j] = x <;> simp [e]
theorem no_run (n : Int) (l : List Int) (o : Bool) (i : Nat) (T : Tb) (rr : Nat) (md : List Int) (U : Tb) (g : Int) (v : Bool) (f : Int) (hi : i < l.length) (hm : md.length ≤ 8) :
  Runs Try.prog (CallsD Try.prog) (.rounds (loopAt Try.prog 5 1)) (noT false n l o i T md.length rr md U g v f 0 1 [l.getD (i : Int).toNat 0]).abs (.exit 2)
   (noT false n l o i T md.length rr md U g v f md.length (outOf (l.getD (i : Int).toNat 0) md).length (outOf (l.getD (i : Int).toNat 0) md)).abs := by
 have e0 : md = md.take md.length := (List.take_length).symm
 have z := scan_all (P := Try.prog) (F := CallsD Try.prog) (b := loopAt Try.prog 5 1) (fun j => noT false n l o i T md.length rr md U g v f (j : Int) (outOf (l.getD (i : Int).toNat 0) (md.take j)).length (outOf (l.getD (i : Int).toNat 0) (md.take j))) md.length (fun _ => True) (fun j hj _ σ e hr => ?_)
  (σ := (noT false n l o i T md.length rr md U g v f md.length (outOf (l.getD (i : Int).toNat 0) md).length (outOf (l.getD (i : Int).toNat 0) md)).abs) (e := .exit 2) ?_ md.length 0 (by omega) (fun _ _ _ => trivial)
 ·exact z
 ·rw [out_succ _ hj] at hr
  have tj : ((j : Nat) : Int).toNat = j := Int.toNat_natCast j
  have hle : (outOf (l.getD (i : Int).toNat 0) (md.take j)).length ≤ 9 := by
   unfold outOf
   have := List.length_filter_le (fun y => decide (y ≠ l.getD (i : Int).toNat 0)) (md.take j)
   rw [List.length_take] at this
   simp only [List.length_cons]; omega
  have cast1 : opI .add .i64 (j : Int) 1 = ((j + 1 : Nat) : Int) := succL hj (by omega)
  refine noL_step false n l o i T md.length rr md U g v f j _ _ σ e ?_ ?_ ?_ <;> dsimp only [At, Tr.q, RG, noL_T]
  ·intro _ g1
   rw [tj, neq_t] at g1
   rw [if_pos g1, List.length_append] at hr
   simp only [tj, cast1]
   exact ⟨(by (repeat' apply And.intro) <;> first | exact trivial | rfl | exact hj | exact (natLt hj).1 | exact (natLt hj).2 | exact (natLt hi).1 | exact (natLt hi).2 | omega), hr⟩
  ·intro _ g1
   rw [tj, neq_f] at g1
   rw [if_neg (fun n => n g1), List.append_nil] at hr
   simp only [tj, cast1]
   exact ⟨(by (repeat' apply And.intro) <;> first | exact trivial | rfl | exact hj | exact (natLt hj).1 | exact (natLt hj).2 | exact (natLt hi).1 | exact (natLt hi).2 | omega), hr⟩
  ·intro g1; rw [lss_f] at g1; omega
 ·rw [← e0]
  refine noL_step false n l o i T md.length rr md U g v f md.length _ _ _ _ ?_ ?_ ?_ <;> dsimp only [At, Tr.q, RG, noL_T]
  ·intro g1; rw [lss_t] at g1; omega
  ·intro g1; rw [lss_t] at g1; omega
  ·intro _; exact ⟨trivial, rfl, rfl⟩
end TableS
end

section
namespace TableS
open Go Go.Dam Go.Proofs
set_option maxRecDepth 1000000
theorem keys_mem {T : Tb} {L F : List Int} (v : Inv T L F) {y : Int} (h : y ∈ keysOf T L) : ∃ j : Nat, (j : Int) ∈ L ∧ (j : Int) < T.n ∧ T.us.getD j false = true ∧ T.ks.getD j 0 = y := by
 unfold keysOf at h
 obtain ⟨j, hj, e⟩ := List.mem_map.1 h
 obtain ⟨a, b, c⟩ := inv_mem v hj
 refine ⟨j.toNat, ?_, by omega, c, e⟩
 rw [show ((j.toNat : Nat) : Int) = j by omega]; exact hj
theorem cut_len (h : Nat) (out : List Int) (e : h ≤ out.length) : h = rowLen0 [Col0.cut h (Col0.ints .u32 out)] := by
 simp only [rowLen0, Col0.cut, Col0.len, List.length_take]; omega
/-- A round of the law: a use, and the same in the list. -/
theorem mo_round {n : Int} {l : List Int} {o : Bool} {i rr : Nat} {T : Tb} {L F : List Int} (ho : okT T) (v : Inv T L F) (hn : T.n = n) (hi : i < l.length) (h60 : l.length ≤ 60) (hu : inU (l.getD (i : Int).toNat 0)) :
  ∃ (U : Tb) (r' : Nat) (L' F' : List Int), okT U ∧ Inv U L' F' ∧ U.n = n ∧ ∀ (σ : St) (e : Ex),
   Runs Try.prog (CallsD Try.prog) (.rounds (loopAt Try.prog 5 0)) (moT false n l o ((i + 1 : Nat) : Int) U (keysOf U L').length r' (keysOf U L')).abs e σ →
   Runs Try.prog (CallsD Try.prog) (.rounds (loopAt Try.prog 5 0)) (moT false n l o i T (keysOf T L).length rr (keysOf T L)).abs e σ := by
 have hb : limV 10 1 2 = 0 := by decide
 obtain ⟨L1, q, u, fnd, _, w1, w2⟩ := use_used (k := l.getD (i : Int).toNat 0) (b := 10) (r := 1) (p := 2) (a := IntKind.u64.wrap (i : Int)) ho v hu hb
 obtain ⟨F', v'⟩ := u.inv
 have hk := used_list u
 have ht := inv_tc ho v
 have hE : usE T 10 1 2 = 0 := by unfold usE; rw [if_pos ht]; exact hb
 have il := inv_len v
 have kl := keys_len T L
 have hadd : opI .add .i64 (i : Int) 1 = ((i + 1 : Nat) : Int) := succL hi (by omega)
 have hlt := inv_lt v'
 have hltK : ltV (usR T (l.getD (i : Int).toNat 0) 10 1 2 (IntKind.u64.wrap (i : Int))) = keysOf (usR T (l.getD (i : Int).toNat 0) 10 1 2 (IntKind.u64.wrap (i : Int))) ((q : Int) :: L1) := hlt.2
 have il' := inv_len v'
 have kl' := keys_len (usR T (l.getD (i : Int).toNat 0) 10 1 2 (IntKind.u64.wrap (i : Int))) ((q : Int) :: L1)
 have run := loop_of_rounds (no_run n l o i T rr (keysOf T L) (usR T (l.getD (i : Int).toNat 0) 10 1 2 (IntKind.u64.wrap (i : Int))) (usG T (l.getD (i : Int).toNat 0) 10 1 2) (decide (usW T (l.getD (i : Int).toNat 0) 10 1 2)) (usE T 10 1 2) hi (by omega))
 have hrc : cmpI .neq (rcV (usR T (l.getD (i : Int).toNat 0) 10 1 2 (IntKind.u64.wrap (i : Int)))) 0 = false := by rw [neq_f]; exact inv_rc v'
 have hE' : cmpI .neq (usE T 10 1 2) 0 = false := by rw [neq_f]; exact hE
 have hll : cmpI .lss (i : Int) (l.length : Int) = true := by rw [lss_t]; omega
 have huok := u.ok
 have hl200 : (ltV (usR T (l.getD (i : Int).toNat 0) 10 1 2 (IntKind.u64.wrap (i : Int)))).length ≤ 200 := by rw [hltK]; have := u.n; omega
 refine ⟨_, max (outOf (l.getD (i : Int).toNat 0) (keysOf T L)).length 0, _, F', u.ok, v', u.n.trans hn, fun σ e hr => ?_⟩
 -- what is left of the list
 have main : ∀ M : Nat, mostI .lss n ((outOf (l.getD (i : Int).toNat 0) (keysOf T L)).length : Int) = M → M ≤ (outOf (l.getD (i : Int).toNat 0) (keysOf T L)).length →
   (outOf (l.getD (i : Int).toNat 0) (keysOf T L)).take M = keysOf (usR T (l.getD (i : Int).toNat 0) 10 1 2 (IntKind.u64.wrap (i : Int))) ((q : Int) :: L1) →
   (!eqB (ltV (usR T (l.getD (i : Int).toNat 0) 10 1 2 (IntKind.u64.wrap (i : Int)))) ((outOf (l.getD (i : Int).toNat 0) (keysOf T L)).take (mostI .lss n ((outOf (l.getD (i : Int).toNat 0) (keysOf T L)).length : Int)).toNat)) = false ∧
   (mostI .lss n ((outOf (l.getD (i : Int).toNat 0) (keysOf T L)).length : Int)).toNat = rowLen0 [Col0.cut (mostI .lss n ((outOf (l.getD (i : Int).toNat 0) (keysOf T L)).length : Int)).toNat (Col0.ints .u32 (outOf (l.getD (i : Int).toNat 0) (keysOf T L)))] ∧
   decide (0 ≤ mostI .lss n ((outOf (l.getD (i : Int).toNat 0) (keysOf T L)).length : Int)) = true ∧ decide (mostI .lss n ((outOf (l.getD (i : Int).toNat 0) (keysOf T L)).length : Int) ≤ ((outOf (l.getD (i : Int).toNat 0) (keysOf T L)).length : Int)) = true ∧
   Runs Try.prog (CallsD Try.prog) (.rounds (loopAt Try.prog 5 0)) (moT false n l o (opI .add .i64 (i : Int) 1) (usR T (l.getD (i : Int).toNat 0) 10 1 2 (IntKind.u64.wrap (i : Int))) (mostI .lss n ((outOf (l.getD (i : Int).toNat 0) (keysOf T L)).length : Int)).toNat (max (outOf (l.getD (i : Int).toNat 0) (keysOf T L)).length 0) ((outOf (l.getD (i : Int).toNat 0) (keysOf T L)).take (mostI .lss n ((outOf (l.getD (i : Int).toNat 0) (keysOf T L)).length : Int)).toNat)).abs e σ := by
  intro M eM hM eT
  have tM : ((M : Nat) : Int).toNat = M := Int.toNat_natCast M
  have lM : M = (keysOf (usR T (l.getD (i : Int).toNat 0) 10 1 2 (IntKind.u64.wrap (i : Int))) ((q : Int) :: L1)).length := by rw [← eT, List.length_take]; omega
  rw [eM, tM, eT, hltK, hadd]
  refine ⟨by simp [eqB], ?_, by simp, decide_eq_true (by omega), ?_⟩
  ·exact cut_len M _ hM
  ·rw [lM]; exact hr
 by_cases W : usW T (l.getD (i : Int).toNat 0) 10 1 2
 ·obtain ⟨A, eA, lA, eg⟩ := w1 W
  have nf : ∀ y ∈ keysOf T L, y ≠ l.getD (i : Int).toNat 0 := fun y hy e => by
   obtain ⟨j, _, j1, j2, j3⟩ := keys_mem v hy
   exact (fnd ⟨j, j1, j2, j3.trans e⟩).1 W
  have eK : keysOf T L = keysOf T A ++ [usG T (l.getD (i : Int).toNat 0) 10 1 2] := by unfold keysOf; rw [eA, List.map_append, eg]; rfl
  have eO : outOf (l.getD (i : Int).toNat 0) (keysOf T L) = l.getD (i : Int).toNat 0 :: keysOf T L := by unfold outOf; rw [filter_out nf]
  have gA : usG T (l.getD (i : Int).toNat 0) 10 1 2 ∉ keysOf T A := fun h => by
   unfold keysOf at h
   obtain ⟨j, hj, e⟩ := List.mem_map.1 h
   obtain ⟨a, b, c⟩ := inv_mem v (show j ∈ L by rw [eA]; simp [hj])
   obtain ⟨a', b', c'⟩ := inv_mem v (show T.t ∈ L by rw [eA]; simp)
   have nd : L.Nodup := v.od.2.2.2.1
   have := inv_keys v (i := j.toNat) (j := T.t.toNat) (by omega) (by omega) c c' (by rw [e, eg])
   have jt : j = T.t := by omega
   rw [eA, List.nodup_append] at nd
   exact nd.2.2 j hj T.t (by simp) jt
  have lK : (keysOf T L).length = (keysOf T A).length + 1 := by rw [eK, List.length_append]; rfl
  have lO : (outOf (l.getD (i : Int).toNat 0) (keysOf T L)).length = (keysOf T A).length + 2 := by rw [eO, List.length_cons, lK]
  have nA : n = ((keysOf T A).length + 1 : Nat) := by omega
  have gW : decide (usW T (l.getD (i : Int).toNat 0) 10 1 2) = true := decide_eq_true W
  have gt : cmpI .gtr ((outOf (l.getD (i : Int).toNat 0) (keysOf T L)).length : Int) n = true := by rw [gtr_t]; omega
  have eF : keysOf (usR T (l.getD (i : Int).toNat 0) 10 1 2 (IntKind.u64.wrap (i : Int))) ((q : Int) :: L1) = l.getD (i : Int).toNat 0 :: keysOf T A := by
   rw [hk, gW, eK, filter_last (by rw [← eK]; exact nf) gA]
  obtain ⟨m1, m2, m3, m4, m5⟩ := main ((keysOf T A).length + 1) (by rw [mostI_min5]; omega) (by omega) (by
   rw [eF, eO, eK, List.take_succ_cons, List.take_left])
  have gn : (outOf (l.getD (i : Int).toNat 0) (keysOf T L)).getD n.toNat 0 = usG T (l.getD (i : Int).toNat 0) 10 1 2 := by
   rw [show n.toNat = (keysOf T A).length + 1 by omega, eO, eK, List.getD_cons_succ, List.getD_eq_getElem?_getD, List.getElem?_append_right (Nat.le_refl _), Nat.sub_self]; rfl
  exact rounds_on hX30 (moA_r0 false n l o i T (keysOf T L).length rr (keysOf T L) (keysOf T L).length (outOf (l.getD (i : Int).toNat 0) (keysOf T L)).length (outOf (l.getD (i : Int).toNat 0) (keysOf T L)))
   ⟨m1, rfl, m2, hl200, rfl, rfl, rfl, rfl, rfl, rfl, rfl, hlt.1, m3, m4, hrc, rfl, rfl, rfl, rfl, rfl, rfl, rfl, huok, by rw [gt]; rfl, by rw [gn, neq_f], by omega, decide_eq_true (by omega), decide_eq_true (by omega), gt, by rw [gW, gt]; rfl, hE', rfl, run, (natLt hi).1, (natLt hi).2, rfl, rfl, rfl, rfl, rfl, rfl, rfl, ⟨ho, hu⟩, (natLt hi).1, (natLt hi).2, hll, trivial⟩ m5
 ·have gW : decide (usW T (l.getD (i : Int).toNat 0) 10 1 2) = false := decide_eq_false W
  have hG : usG T (l.getD (i : Int).toNat 0) 10 1 2 = 0 := by unfold usG; rw [if_neg W]
  have eF : keysOf (usR T (l.getD (i : Int).toNat 0) 10 1 2 (IntKind.u64.wrap (i : Int))) ((q : Int) :: L1) = outOf (l.getD (i : Int).toNat 0) (keysOf T L) := by
   rw [hk, gW, filter_false]; rfl
  have lO : ((outOf (l.getD (i : Int).toNat 0) (keysOf T L)).length : Int) ≤ n := by
   rw [← eF, kl']; have := u.n; omega
  have gt : cmpI .gtr ((outOf (l.getD (i : Int).toNat 0) (keysOf T L)).length : Int) n = false := by rw [gtr_f]; omega
  obtain ⟨m1, m2, m3, m4, m5⟩ := main (outOf (l.getD (i : Int).toNat 0) (keysOf T L)).length (by rw [mostI_min5]; omega) (Nat.le_refl _) (by rw [eF, List.take_length])
  exact rounds_on hX30 (moB_r0 false n l o i T (keysOf T L).length rr (keysOf T L) (keysOf T L).length (outOf (l.getD (i : Int).toNat 0) (keysOf T L)).length (outOf (l.getD (i : Int).toNat 0) (keysOf T L)))
   ⟨m1, rfl, m2, hl200, rfl, rfl, rfl, rfl, rfl, rfl, rfl, hlt.1, m3, m4, hrc, rfl, rfl, rfl, rfl, rfl, rfl, rfl, huok, by rw [hG, neq_f], by rw [gt]; rfl, gt, by rw [gW, gt]; rfl, hE', rfl, run, (natLt hi).1, (natLt hi).2, rfl, rfl, rfl, rfl, rfl, rfl, rfl, ⟨ho, hu⟩, (natLt hi).1, (natLt hi).2, hll, trivial⟩ m5
end TableS
end

section
namespace TableS
open Go Go.Dam Go.Proofs Go.RowKit Go.ChangeShapes Go.WideShapes
set_option maxRecDepth 1000000
theorem notLive : ¬ Live := fun h => by cases h
theorem wf_i64 {n : Int} (h : (Lit.int .i64 n).wf = true) : in64 n := by
 unfold in64
 simp [Lit.wf, IntKind.has, IntKind.min, IntKind.max, IntKind.signed, IntKind.bits] at h; omega
theorem row_ints {w : World} {k : IntKind} {v : Value} (h : (FK.row [.int k]).ok w v) : ∃ xs, RepS w (fun k => k < w.heap.size) (.rc [.ints k xs]) v ∧ ∀ i, i < xs.length → (Lit.int k (xs.getD i 0)).wf = true := by
 obtain ⟨cols, n, hc, hr⟩ := h
 obtain ⟨xs, cs, rfl, e, hw, hc⟩ := colsOf_int hc
 have := colsOf_nil hc; subst this; subst e
 exact ⟨xs, hr.rep notLive rfl (fun c hc m f q => by simp at hc; subst hc; cases q), hw⟩
/-- A list of keys that comes in. -/
theorem row_in {H : Type} {enc : TypeId × Value → H} {P : Program} {w : World} {spare : Nat → Bool} {t e : TypeId} {n : Nat} {k : IntKind} {v : Value} {d : DataW H} {ps : List MemPlace} {r : Reach} {b0 : Nat} (ht : P.underlying t = some (.slice e)) (hk : flatT P n e = some [.int k])
  (hval : Value.okWide P w r b0 t v) (h : DataW.Trod enc P w 0 spare true t v d ps) : ∃ a, RepS w (fun k => k < w.heap.size) (.rc [.ints k a]) v ∧ ∀ i, i < a.length → (Lit.int k (a.getD i 0)).wf = true := by
 obtain ⟨a0, l0, cp0, rfl⟩ := okWide_slice ht hval
 obtain ⟨fuel, hf⟩ := h
 obtain ⟨u, e, ho⟩ := row_trod ht hk hf
 simp [Value.cells] at e
 subst e
 exact row_ints ho
end TableS
end

section
namespace TableS
open Go Go.Dam Go.Proofs
set_option maxRecDepth 1000000
theorem mo_run {n : Int} {l : List Int} {o : Bool} (h60 : l.length ≤ 60) (hu : ∀ j, j < l.length → inU (l.getD j 0)) : ∀ (d i rr : Nat) (T : Tb) (L F : List Int), okT T → Inv T L F → T.n = n → i + d = l.length →
  ∃ (T' : Tb) (r' : Nat) (L' F' : List Int), okT T' ∧ Inv T' L' F' ∧
   Runs Try.prog (CallsD Try.prog) (.rounds (loopAt Try.prog 5 0)) (moT false n l o i T (keysOf T L).length rr (keysOf T L)).abs (.exit 0) (moT false n l o l.length T' (keysOf T' L').length r' (keysOf T' L')).abs
 | 0, i, rr, T, L, F, ho, v, hn, h => by
  obtain rfl : i = l.length := by omega
  exact ⟨T, rr, L, F, ho, v, rounds_end hX30 (moE_r0 false n l o l.length T (keysOf T L).length rr (keysOf T L)) ⟨by rw [lss_f]; omega, trivial⟩ (by simp) ⟨rfl, rfl⟩⟩
 | d + 1, i, rr, T, L, F, ho, v, hn, h => by
  obtain ⟨U, r1, L1, F1, ho1, v1, n1, hs⟩ := mo_round (o := o) (rr := rr) ho v hn (i := i) (by omega) h60 (by rw [Int.toNat_natCast]; exact hu i (by omega))
  obtain ⟨T', r', L', F', ho', v', hr⟩ := mo_run h60 hu d (i + 1) r1 U L1 F1 ho1 v1 n1 (by omega)
  exact ⟨T', r', L', F', ho', v', hs _ _ hr⟩
theorem zr_get (n i : Nat) : (List.replicate n (0 : Int)).getD i 0 = 0 := by
 rw [List.getD_eq_getElem?_getD, List.getElem?_replicate]; split <;> rfl
theorem nwT_ok (m : Nat) (h : m ≤ 8) : okT (nwT m) := by
 have z : inU 0 := ⟨by omega, by omega⟩
 have z6 : in64 0 := ⟨by omega, by omega⟩
 refine ⟨⟨?_, fun i _ => ?_⟩, fun i _ => ?_, fun i _ => ?_, ?_, ?_, ?_, ⟨?_, ?_, ?_, ?_, ?_, ?_⟩, ⟨?_, ?_, ?_⟩, ?_, ?_⟩
 ·simp [nwT, zc1]
 ·show inU ((List.replicate 16 (0 : Int)).getD i 0); rw [zr_get]; exact z
 ·show inU ((List.replicate m (0 : Int)).getD i 0); rw [zr_get]; exact z
 ·show in64 ((List.replicate m (0 : Int)).getD i 0); rw [zr_get]; exact z6
 all_goals (simp [nwT, zr, mr, nwX, zc1, zc2]; try omega)
theorem nwT_tc : ∀ m : Nat, 1 ≤ m → m ≤ 8 → tcV (nwT m) = 0 ∧ kyV (nwT m) = []
 | 0, h, _ => by omega
 | 1, _, _ => ⟨by kernel_rfl, by kernel_rfl⟩
 | 2, _, _ => ⟨by kernel_rfl, by kernel_rfl⟩
 | 3, _, _ => ⟨by kernel_rfl, by kernel_rfl⟩
 | 4, _, _ => ⟨by kernel_rfl, by kernel_rfl⟩
 | 5, _, _ => ⟨by kernel_rfl, by kernel_rfl⟩
 | 6, _, _ => ⟨by kernel_rfl, by kernel_rfl⟩
 | 7, _, _ => ⟨by kernel_rfl, by kernel_rfl⟩
 | 8, _, _ => ⟨by kernel_rfl, by kernel_rfl⟩
 | n + 9, _, h => by omega
theorem model_ok (n : Int) (l : List Int) (hh : in64 n ∧ ∀ j, j < l.length → inU (l.getD j 0)) : CallsD Try.prog 5 [i64 n, ru l] (bo true) := by
 obtain ⟨_, hu⟩ := hh
 by_cases c : 1 ≤ n ∧ n ≤ 8
 ·have hE : nwE n = 0 := by unfold nwE; rw [if_pos c]
  have f0 : cmpI .neq (nwE n) 0 = false := by rw [neq_f]; exact hE
  have f1 : cmpI .lss n 1 = false := by rw [lss_f]; omega
  have f2 : cmpI .gtr n 8 = false := by rw [gtr_f]; omega
  by_cases h60 : l.length ≤ 60
  ·have f3 : cmpI .gtr (l.length : Int) 60 = false := by rw [gtr_f]; omega
   obtain ⟨m, em⟩ : ∃ m : Nat, n = m := ⟨n.toNat, by omega⟩
   have eV : nwV n = nwT m := by unfold nwV; rw [if_pos c, em, Int.toNat_natCast]
   have hoN : okT (nwV n) := by rw [eV]; exact nwT_ok m (by omega)
   obtain ⟨c1, c2⟩ := nwT_tc m (by omega) (by omega)
   rw [← eV] at c1 c2
   obtain ⟨L, F, v⟩ := tc_inv hoN c1
   have eL : keysOf (nwV n) L = [] := by rw [← c2, inv_ky hoN v]; rfl
   have eN : (nwV n).n = n := by rw [eV, em]; rfl
   obtain ⟨T', r', L', F', ho', v', run⟩ := mo_run (o := false) h60 hu l.length 0 0 (nwV n) L F hoN v eN (by omega)
   rw [eL] at run
   have ht := inv_tc ho' v'
   have f4 : cmpI .eql (tcV T') 0 = true := by rw [eql_t]; exact ht
   have hky : kyV T' = keysOf T' L' := inv_ky ho' v'
   have h200 : (kyV T').length ≤ 200 := by rw [hky, keys_len]; have := inv_len v'; omega
   refine moF_calls n l l.length T' (keysOf T' L').length r' (keysOf T' L') _ ?_ ?_ ?_ ?_ ?_ ?_ ?_ <;> dsimp only [At, Tr.q, moF_T]
   ·intro g; rw [f0] at g; cases g
   ·intro g; rw [f0] at g; cases g
   ·intro _ g; rw [f1] at g; cases g
   ·intro _ _ g; rw [f2] at g; cases g
   ·intro _ _ _ g; rw [f3] at g; cases g
   ·intro _ _ _ _ _
    refine ⟨⟨rfl, h200, rfl, rfl, rfl, rfl, rfl, rfl, rfl, ho', loop_of_rounds run, trivial⟩, ?_⟩
    rw [hky]; simp [eqB]
   ·intro _ _ _ _ g; rw [f4] at g; cases g
  ·have f3 : cmpI .gtr (l.length : Int) 60 = true := by rw [gtr_t]; omega
   refine moF_calls n l 0 t0 0 0 [] _ ?_ ?_ ?_ ?_ ?_ ?_ ?_ <;> dsimp only [At, Tr.q, moF_T]
   ·intro g; rw [f0] at g; cases g
   ·intro g; rw [f0] at g; cases g
   ·intro _ g; rw [f1] at g; cases g
   ·intro _ _ g; rw [f2] at g; cases g
   ·intro _ _ _ _; exact ⟨trivial, by rw [f0, f2]; rfl⟩
   ·intro _ _ _ g; rw [f3] at g; cases g
   ·intro _ _ _ g; rw [f3] at g; cases g
 ·have hE : nwE n = 2 := by unfold nwE; rw [if_neg c]
  have f0 : cmpI .neq (nwE n) 0 = true := by rw [neq_t, hE]; omega
  refine moF_calls n l 0 t0 0 0 [] _ ?_ ?_ ?_ ?_ ?_ ?_ ?_ <;> dsimp only [At, Tr.q, moF_T]
  ·intro _ _; exact ⟨trivial, by rw [f0]; rfl⟩
  ·intro _ g
   rw [lss_f] at g
   have f2 : cmpI .gtr n 8 = true := by rw [gtr_t]; omega
   exact ⟨trivial, by rw [f0, f2]; rfl⟩
  all_goals (intro g; rw [f0] at g; cases g)
end TableS
end

section
namespace Go.Proofs.Ytakcfkmfiamliaa.tableModel
open Go.ChangeShapes Go.WideShapes Go.ChangeAt Go.RowKit Go.Dam _root_.TableS
set_option maxRecDepth 100000
theorem walk (W : World) (v0 v1 : Value) (n0 : Int) (a1 : List Int) (h0 : v0 = .int .i64 n0) (w0 : (Lit.int .i64 n0).wf = true) (h1 : RepS W (fun k => k < W.heap.size) (.rc [.ints .u32 a1]) v1) (w1 : ∀ j, j < a1.length → (Lit.int .u32 (a1.getD j 0)).wf = true) :
  Calls Try.prog 5 #[v0, v1] W (fun e W' => e = .returned (.bool true) ∧ Below W.heap.size W W') := by
 subst h0
 refine (model_ok n0 a1 ⟨TableS.wf_i64 w0, fun j hj => Go.Dam.wf_u32 (w1 j hj)⟩ W (fun k => k < W.heap.size) [_, v1] ?_ (fun _ h => h) (fun g h => absurd rfl h)).mono ?_
 ·exact ⟨_, _, rfl, rfl, ⟨_, _, rfl, h1, rfl⟩⟩
 ·rintro e w' ⟨v, A', bl, rfl, hr, _, _, _, _, hb⟩
  have hv : v = .bool true := by
   simp only [RepO, RepS] at hr
   exact hr.1
  exact ⟨by rw [hv], hb⟩
theorem own : ownKnob Try.prog.godebug = none := by kernel_rfl
theorem laidOut : laidOutB Try.prog = true := by kernel_rfl
theorem lifted (os : Os) (started : os.Started) (H : Type) (enc : TypeId × Value → H) :
  ReturnsInHanded {} Try.checked os 5 .any (Rows.tableModelSpec.pre6 enc Try.prog Try.f5 Rows.tableModelRow.domain false) (Rows.tableModelSpec.post enc Try.prog Try.f5 false true false false) := by
 refine returnsInHanded_of_change_sized (C := Try.checked) own started (by kernel_rfl) Try.func5
  (ChangeSpec.witness6 (enc := enc) (C := Try.checked) false ⟨#[], #[.int .i64 0, .slice none 0 0], []⟩ 8 (by kernel_rfl) (by kernel_rfl) (by kernel_rfl) (by kernel_rfl)) ?_
 intro W base args ds gs before hval0 hW hcnd hsz0 _
 have hval : ∀ (j : Nat) t v, Try.f5.params[j]? = some t → args[j]? = some v → Value.okWide Try.prog W .any base t v := hval0
 have hW' := hW
 obtain ⟨p, q, hA0, hV, rfl, hfz, hnd⟩ := hW
 have hA : DataW.TrodAll enc Try.prog W 0 (fun _ => true) true Try.f5.params.toList args.toList ds p := hA0
 rw [Try.params5] at hA hval
 obtain ⟨v0, vs0, d0, ds0, p0, q0, hargs, rfl, rfl, h0, r0⟩ := trodAll_cons hA
 obtain ⟨v1, vs1, d1, ds1, p1, q1, rfl, rfl, rfl, h1, r1⟩ := trodAll_cons r0
 obtain ⟨rfl, rfl, rfl⟩ := trodAll_nil r1
 obtain rfl : args = #[v0, v1] := by cases args; simp_all
 obtain ⟨rfl, rfl⟩ := trodVars_none hV
 have lt : ∀ {t : TypeId} {v : Value} {d : DataW H} {ps : List MemPlace}, DataW.Trod enc Try.prog W 0 (fun _ => true) true t v d ps → ∀ x ∈ ps, x.block < W.heap.size := fun h => by
  obtain ⟨m, hm⟩ := h; exact DataW.trod_lt m _ _ _ hm
 obtain ⟨n0, e0, _, _, w0⟩ := open_int (k := .i64) Try.underlying3 (hval 0 3 v0 rfl rfl) h0
 obtain ⟨a1, e1, w1⟩ := row_in (n := 3) (k := .u32) Try.underlying22 (by kernel_rfl) (hval 1 22 v1 rfl rfl) h1
 clear hA0 hval0 hsz0
 refine (walk W v0 v1 n0 a1 e0 w0 e1 w1).mono fun e W' ⟨he, bel⟩ => ?_
 subst he
 exact ⟨_, rfl, _, _, _, [], _, [], hW', trodAll_mk1 (shut_bool Try.underlying4 _),
  (trodAll_cons_mk (Below.trod laidOut (by kernel_rfl) (of_decide_eq_true (by kernel_rfl)) h0 bel (lt h0)) (trodAll_cons_mk (Below.trod laidOut (by kernel_rfl) (of_decide_eq_true (by kernel_rfl)) h1 bel (lt h1)) trodAll_mk0)), rfl, bel.frame _, fun h => by cases h⟩
theorem over : Rows.tableModelRow.holds Try.pinned (OpenSpec.ofChange Rows.tableModelSpec) :=
 OpenClaim.holds_of_wide 5 Try.f5 rfl rfl rfl rfl rfl rfl rfl ⟨rfl, rfl, rfl, rfl, rfl⟩ rfl rfl rfl rfl rfl (by kernel_rfl) Try.func5 (by kernel_rfl)
  (of_decide_eq_true (by kernel_rfl)) (by unfold Func.isWrapper; first | (rw [if_pos (by decide +kernel)]; kernel_rfl) | (rw [if_neg (by decide +kernel)]; exact ⟨rfl, rfl⟩))
  (fun os started H enc _ => lifted os started H enc)
theorem proved : Rows.TableModelSaid := over
#print axioms proved
end Go.Proofs.Ytakcfkmfiamliaa.tableModel
namespace Go.Proofs.Ytakcfkmfiamliaa
theorem tableModel_holds : Rows.TableModelSaid := tableModel.proved
end Go.Proofs.Ytakcfkmfiamliaa
end
