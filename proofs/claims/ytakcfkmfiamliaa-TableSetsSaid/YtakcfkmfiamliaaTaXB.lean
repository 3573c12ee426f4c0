/- What the functions compute, and the law. No condition. -/
import Derived.Test.YtakcfkmfiamliaaTaVS
import Derived.Test.YtakcfkmfiamliaaTaTE
set_option linter.unusedSectionVars false
set_option linter.unusedVariables false
set_option linter.unusedSimpArgs false
section
namespace TableS
open Go Go.Dam Go.Proofs
set_option maxRecDepth 1000000
/-- Is a cell met before the cell k? -/
def bhW (c k : Nat) : Nat → Nat → Bool
 | 0, _ => false
 | d + 1, i => if i = c then true else if i = k then false else bhW c k d ((i + 1) % 16)
theorem bh_run (c k : Nat) : ∀ (D d i : Nat) (b : Bool), i < 16 → d < D → (i + d) % 16 = k →
  ∃ j : Int, Runs Try.prog (CallsD Try.prog) (.rounds (loopAt Try.prog 108 0)) (bhT c k b i).abs .ret (bhT c k (bhW c k D i) j).abs
 | 0, d, i, b, _, h, _ => by omega
 | D + 1, d, i, b, hi, hd, he => by
  by_cases e1 : i = c
  ·refine ⟨i, ?_⟩
   have : bhW c k (D + 1) i = true := by simp only [bhW, if_pos e1]
   rw [this]
   refine bhL_step c k b i _ _ ?_ ?_ ?_ <;> dsimp only [At, Tr.q, RG, bhL_T]
   ·intro _; exact ⟨trivial, rfl, rfl⟩
   ·intro g; rw [eql_f] at g; omega
   ·intro g; rw [eql_f] at g; omega
  ·by_cases e2 : i = k
   ·refine ⟨i, ?_⟩
    have : bhW c k (D + 1) i = false := by simp only [bhW, if_neg e1, if_pos e2]
    rw [this]
    refine bhL_step c k b i _ _ ?_ ?_ ?_ <;> dsimp only [At, Tr.q, RG, bhL_T]
    ·intro g; rw [eql_t] at g; omega
    ·intro _ _; exact ⟨trivial, rfl, rfl⟩
    ·intro _ g; rw [eql_f] at g; omega
   ·have d0 : d ≠ 0 := fun q => e2 (by rw [← he, q, Nat.add_zero, Nat.mod_eq_of_lt hi])
    obtain ⟨j, r⟩ := bh_run c k D (d - 1) ((i + 1) % 16) b (by omega) (by omega) (by omega)
    refine ⟨j, ?_⟩
    have : bhW c k (D + 1) i = bhW c k D ((i + 1) % 16) := by simp only [bhW, if_neg e1, if_neg e2]
    rw [this]
    refine bhL_step c k b i _ _ ?_ ?_ ?_ <;> dsimp only [At, Tr.q, RG, bhL_T]
    ·intro g; rw [eql_t] at g; omega
    ·intro _ g; rw [eql_t] at g; omega
    ·intro _ _; rw [next16 i hi]; exact ⟨trivial, r⟩
def in16 (x : Int) : Prop := 0 ≤ x ∧ x < 16
def bhV (c e k : Int) : Bool := bhW c.toNat k.toNat 16 ((e.toNat + 1) % 16)
theorem bh_ok (c e k : Int) (h : in16 c ∧ in16 e ∧ in16 k) : CallsD Try.prog 108 [i64 c, i64 e, i64 k] (bo (bhV c e k)) := by
 obtain ⟨⟨c0, c1⟩, ⟨e0, e1⟩, k0, k1⟩ := h
 obtain ⟨cn, rfl⟩ : ∃ n : Nat, c = n := ⟨c.toNat, by omega⟩
 obtain ⟨en, rfl⟩ : ∃ n : Nat, e = n := ⟨e.toNat, by omega⟩
 obtain ⟨kn, rfl⟩ : ∃ n : Nat, k = n := ⟨k.toNat, by omega⟩
 unfold bhV
 simp only [Int.toNat_natCast]
 obtain ⟨j, r⟩ := bh_run cn kn 16 ((kn + 16 - (en + 1) % 16) % 16) ((en + 1) % 16) false (by omega) (by omega) (by omega)
 have r2 := loop_of_rounds r
 refine bhF_calls cn en kn (bhW cn kn 16 ((en + 1) % 16)) j _ ⟨⟨?_, trivial⟩, rfl⟩
 unfold bhF_c0
 rw [next16 en (by omega)]
 exact r2
theorem bh_all : ∀ h : Nat, h < 16 → ∀ i : Nat, i < 16 → ∀ j : Nat, j < 16 → i ≠ j → bhW h j 16 ((i + 1) % 16) = !decide (ds i j ≤ (h + 15 - i) % 16) := by decide +kernel
def bhC : List D → Option (D × List Prop)
 | [.v (.int .i64 c), .v (.int .i64 e), .v (.int .i64 k)] => some (bo (bhV c e k), [in16 c ∧ in16 e ∧ in16 k])
 | _ => none
theorem bhC_ok (args res l) (h : bhC args = some (res, l)) (hl : AllP l) : CallsD Try.prog 108 args res := by
 unfold bhC at h; split at h
 ·simp only [Option.some.injEq, Prod.mk.injEq] at h
  obtain ⟨rfl, rfl⟩ := h; obtain ⟨h0, _⟩ := hl
  exact bh_ok _ _ _ h0
 ·cases h
/-- A table told by its description. -/
def tbOf : D → Option Tb
 | .agg [.v (.int .i64 n), .rc [.ints .u32 ks], .rc [.ints .i64 x1, .ints .i64 x2, .ints .i64 x3, .ints .i64 x4, .ints .i64 x5, .ints .u64 x6], .rc [.ints .i64 nx], .rc [.bools us], .v (.int .i64 fr), .rc [.ints .u32 kx, .ints .i64 px, .bools ux], .rc [.ints .i64 ps], .rc [.ints .i64 no], .v (.int .i64 h), .v (.int .i64 t)] => some ⟨n, ks, x1, x2, x3, x4, x5, x6, nx, us, fr, kx, px, ux, ps, no, h, t⟩
 | _ => none
theorem tbOf_d {d : D} {T : Tb} (h : tbOf d = some T) : d = T.d := by
 unfold tbOf at h
 split at h
 ·simp only [Option.some.injEq] at h; subst h; rfl
 ·cases h
/-- A contract of a function of one table. -/
def conT (f : Tb → D × List Prop) : List D → Option (D × List Prop)
 | [d] => match tbOf d with
  | some T => some (f T)
  | none => none
 | _ => none
theorem conT_ok {f : Tb → D × List Prop} {g : FuncId} (hf : ∀ T, AllP (f T).2 → CallsD Try.prog g [T.d] (f T).1) (args res l) (h : conT f args = some (res, l)) (hl : AllP l) : CallsD Try.prog g args res := by
 unfold conT at h
 split at h
 next d =>
  split at h
  next T ht =>
   simp only [Option.some.injEq] at h
   have e := tbOf_d ht
   subst e
   have := hf T (by rw [h]; exact hl)
   rw [h] at this; exact this
  ·cases h
 ·cases h
def twS (T : Tb) : Prop := T.ks.length ≤ 200 ∧ kcS T.x1 T.x2 T.x3 T.x4 T.x5 T.x6 ∧ T.nx.length ≤ 200 ∧ T.us.length ≤ 200 ∧ ccS T.kx T.px T.ux ∧ T.ps.length ≤ 200 ∧ T.no.length ≤ 200
def twrC : List D → Option (D × List Prop) := conT fun T => (T.o, [twS T])
theorem twrC_ok (args res l) (h : twrC args = some (res, l)) (hl : AllP l) : CallsD Try.prog 9 args res := conT_ok (f := fun T => (T.o, [twS T])) (fun T h => tr_ok T h.1) args res l h hl
noncomputable def X20 : Contracts := addCon 9 (.call twrC) (addCon 108 (.call bhC) (addCon 96 (.call rmD) X19))
theorem hX20 : ConOK Try.prog X20 := addCall_ok twrC_ok (addCall_ok bhC_ok (addCall_ok rmD_ok hX19))
end TableS
end

section
namespace TableS
open Go Go.Dam Go.Proofs
set_option maxRecDepth 1000000
noncomputable def d4L_c0 (j : Int) := opI .rem .i64 (opI .add .i64 j 1) 16
noncomputable def d4L_T (m : Nat) (o : Int) (j : Int) (kx : List Int) (px : List Int) (ux : List Bool) : Tr (Ex × Cs) := .s (decide (j < ↑m) = true) (.s (decide (0 ≤ j) = true) (.s (j.toNat < kx.length) (.d (ux.getD j.toNat false) (fun e0 => .s (decide (j < ↑m) = true) (.s (decide (0 ≤ j) = true) (.s (j.toNat < kx.length) (.s (inU (kx.getD j.toNat 0)) (.s (in16 (homeN (kx.getD j.toNat 0)) ∧ in16 o ∧ in16 j) (.d (bhV (homeN (kx.getD j.toNat 0)) o j) (fun e1 => .q (false) (.lf (Ex.normal, (d4T (m) (o) (d4L_c0 j) (kx) (px) (ux))))) (fun e1 => .s (decide (j < ↑m) = true) (.s (decide (0 ≤ j) = true) (.s (j.toNat < kx.length) (.s (decide (o < ↑m) = true) (.s (decide (0 ≤ o) = true) (.s (ux.length = kx.length) (.s (px.length = kx.length) (.s (kx.length = kx.length) (.s (o.toNat < kx.length) (.s (decide (j < ↑m) = true) (.s (decide (0 ≤ j) = true) (.s ((Col0.bools (ux.set o.toNat (ux.getD j.toNat false))).len = rowLen0 [.ints .u32 (kx.set o.toNat (kx.getD j.toNat 0)), .ints .i64 (px.set o.toNat (px.getD j.toNat 0)), .bools (ux.set o.toNat (ux.getD j.toNat false))]) (.s ((Col0.ints .i64 (px.set o.toNat (px.getD j.toNat 0))).len = rowLen0 [.ints .u32 (kx.set o.toNat (kx.getD j.toNat 0)), .ints .i64 (px.set o.toNat (px.getD j.toNat 0)), .bools (ux.set o.toNat (ux.getD j.toNat false))]) (.s ((Col0.ints .u32 (kx.set o.toNat (kx.getD j.toNat 0))).len = rowLen0 [.ints .u32 (kx.set o.toNat (kx.getD j.toNat 0)), .ints .i64 (px.set o.toNat (px.getD j.toNat 0)), .bools (ux.set o.toNat (ux.getD j.toNat false))]) (.s (j.toNat < rowLen0 [.ints .u32 (kx.set o.toNat (kx.getD j.toNat 0)), .ints .i64 (px.set o.toNat (px.getD j.toNat 0)), .bools (ux.set o.toNat (ux.getD j.toNat false))]) (.q (false) (.lf (Ex.normal, (d4T (m) (j) (d4L_c0 j) ((kx.set o.toNat (kx.getD j.toNat 0)).set j.toNat 0) ((px.set o.toNat (px.getD j.toNat 0)).set j.toNat 0) ((ux.set o.toNat (ux.getD j.toNat false)).set j.toNat false)))))))))))))))))))))))))) (fun e0 => .lf (Ex.exit 0, (d4T (m) (o) (j) (kx) (px) (ux)))))))
theorem d4L_L (m : Nat) (o j : Int) (kx px : List Int) (ux : List Bool) : Leaves (roundT Try.prog (X20) 100000 (loopAt Try.prog 97 0) [[4, 5, 6, 7, 8]] [(672, 672)] (d4T m o j kx px ux)) (d4L_T m o j kx px ux) [] [] := by refine ⟨fun _ => ⟨fun _ => ?_, fun _ => ?_⟩, fun _ => ?_⟩ <;> (show _ = _; kernel_rfl)
theorem d4L_step (m : Nat) (o : Int) (j : Int) (kx : List Int) (px : List Int) (ux : List Bool) (σ : St) (e : Ex) (h0 : At (RG Try.prog (loopAt Try.prog 97 0) e σ) (d4L_T m o j kx px ux) [true, true] True) (h1 : At (RG Try.prog (loopAt Try.prog 97 0) e σ) (d4L_T m o j kx px ux) [true, false] True) (h2 : At (RG Try.prog (loopAt Try.prog 97 0) e σ) (d4L_T m o j kx px ux) [false] True) : Runs Try.prog (CallsD Try.prog) (.rounds (loopAt Try.prog 97 0)) (d4T m o j kx px ux).abs e σ := tree_rounds (hX20) (d4L_L m o j kx px ux) ⟨fun e0 => ⟨fun e1 => h0 e0 e1, fun e1 => h1 e0 e1⟩, fun e0 => h2 e0⟩
noncomputable def d4_c0 (kx : List Int) (ux : List Bool) (k : Int) := opI .rem .i64 (opI .add .i64 (atN kx ux k) 1) 16
noncomputable def d4_c1 (kx px : List Int) (ux : List Bool) (k : Int) := d4T kx.length (atN kx ux k) (d4_c0 kx ux k) (kx.set (atN kx ux k).toNat 0) (px.set (atN kx ux k).toNat 0) (ux.set (atN kx ux k).toNat false)
noncomputable def d4_T (kx : List Int) (px : List Int) (ux : List Bool) (k : Int) (e : Int) (j : Int) (ky : List Int) (py : List Int) (uy : List Bool) : Tr D := .s (okI kx) (.d (cmpI .neq (c14V kx px ux) 0) (fun e0 => .s (okI kx) (.lf (D.tup [D.v (Value.slice none 0 0), i64 (c14V kx px ux)]))) (fun e0 => .s (kx.length ≤ 200) (.d (cmpI .lss (atN kx ux k) 0) (fun e1 => .lf (D.tup [D.v (Value.slice none 0 0), i64 6])) (fun e1 => .p (.l [[4, 5, 6, 7, 8]] [(672, 672)] (d4_c1 kx px ux k) (Ex.exit 0) (d4T kx.length e j ky py uy)) (.s (ux.length = kx.length) (.s (px.length = kx.length) (.s (kx.length = kx.length) (.s (kx.length * 24 ≤ 17592186044416) (.s (decide (atN kx ux k < (kx.length : Int)) = true) (.s (decide (0 ≤ atN kx ux k) = true) (.s (ux.length = kx.length) (.s (px.length = kx.length) (.s (kx.length = kx.length) (.s ((atN kx ux k).toNat < kx.length) (.q (false) (.s (Runs Try.prog (CallsD Try.prog) (.code (.loop (loopAt Try.prog 97 0))) (d4_c1 kx px ux k).abs (Ex.exit 0) (d4T kx.length e j ky py uy).abs) (.k ((d4T kx.length (atN kx ux k) (d4_c0 kx ux k) (kx.set (atN kx ux k).toNat 0) (px.set (atN kx ux k).toNat 0) (ux.set (atN kx ux k).toNat false) = d4T kx.length (atN kx ux k) (d4_c0 kx ux k) (kx.set (atN kx ux k).toNat 0) (px.set (atN kx ux k).toNat 0) (ux.set (atN kx ux k).toNat false))) rfl (.s (kx.length = rowLen0 [.ints .u32 ky, .ints .i64 py, .bools uy]) (.lf (D.tup [D.oc [.ints .u32 ky, .ints .i64 py, .bools uy], i64 0]))))))))))))))))))))
theorem d4_L (kx px : List Int) (ux : List Bool) (k e j : Int) (ky py : List Int) (uy : List Bool) : Leaves (fun l => fnX Try.prog (X20) 100000 l 97 [cc kx px ux, u32 k]) (d4_T kx px ux k e j ky py uy) [] [] := by refine ⟨fun _ => ?_, fun _ => ⟨fun _ => ?_, fun _ => ?_⟩⟩ <;> (show _ = _; kernel_rfl)
theorem d4_calls (kx px : List Int) (ux : List Bool) (k e j : Int) (ky py : List Int) (uy : List Bool) (res : D) (h0 : At (fun r => res = r) (d4_T kx px ux k e j ky py uy) [true] True) (h1 : At (fun r => res = r) (d4_T kx px ux k e j ky py uy) [false, true] True) (h2 : At (fun r => res = r) (d4_T kx px ux k e j ky py uy) [false, false] True) : CallsD Try.prog 97 [cc kx px ux, u32 k] res := tree_calls (hX20) (d4_L kx px ux k e j ky py uy) ⟨fun e0 => h0 e0, fun e0 => ⟨fun e1 => h1 e0 e1, fun e1 => h2 e0 e1⟩⟩
end TableS
end

section
namespace TableS
open Go Go.Dam Go.Proofs
set_option maxRecDepth 1000000
theorem d4_run : ∀ (D d : Nat) (R : Dp), dpOk R → d < D → R.ux.getD ((R.j + d) % 16) false = false → 1 ≤ ds R.i R.j ∧ ds R.i R.j + d ≤ 15 →
  Runs Try.prog (CallsD Try.prog) (.rounds (loopAt Try.prog 97 0)) (d4T 16 R.i R.j (R.kx.set R.i 0) (R.px.set R.i 0) (R.ux.set R.i false)).abs (.exit 0)
   (d4T 16 (dpW D R).i (dpW D R).j ((dpW D R).kx.set (dpW D R).i 0) ((dpW D R).px.set (dpW D R).i 0) ((dpW D R).ux.set (dpW D R).i false)).abs
 | 0, d, R, _, h, _, _ => by omega
 | D + 1, d, R, ho, hd, hf, hs => by
  have ho' := ho
  obtain ⟨o1, o2, o3, o4, o5, o6, o7⟩ := ho'
  have hij : R.i ≠ R.j := fun e => by have := hs.1; unfold ds at this; omega
  have bi : decide (0 ≤ (R.i : Int)) = true := decide_eq_true (by omega)
  have bj : decide (0 ≤ (R.j : Int)) = true := decide_eq_true (by omega)
  have bi2 : decide ((R.i : Int) < ((16 : Nat) : Int)) = true := decide_eq_true (by omega)
  have bj2 : decide ((R.j : Int) < ((16 : Nat) : Int)) = true := decide_eq_true (by omega)
  have g1 : (R.kx.set R.i 0).getD R.j 0 = R.kx.getD R.j 0 := getD_set_ne hij
  have g2 : (R.px.set R.i 0).getD R.j 0 = R.px.getD R.j 0 := getD_set_ne hij
  have g3 : (R.ux.set R.i false).getD R.j false = R.ux.getD R.j false := getB_set_ne hij
  have hk := o6 R.j o2
  have hh := hmN_lt hk
  have hb := homeN_lt hk
  have hq := dpC_is (kx := R.kx) o1 o2 hk
  have hbv : bhV (homeN (R.kx.getD R.j 0)) R.i R.j = !dpC R.kx R.i R.j := by
   rw [hq]
   unfold bhV
   simp only [Int.toNat_natCast]
   exact bh_all _ hh R.i o1 R.j o2 hij
  have nx : d4L_c0 (R.j : Int) = (((R.j + 1) % 16 : Nat) : Int) := next16 R.j o2
  by_cases c : R.ux.getD R.j false = true
  ·have hd0 : d ≠ 0 := fun e => by
    subst e
    rw [Nat.add_zero, Nat.mod_eq_of_lt o2, c] at hf; cases hf
   have huu : R.ux.set R.i (R.ux.getD R.j false) = R.ux := by
    rw [c]
    apply List.ext_getElem (by simp)
    intro n h1 h2
    by_cases e : R.i = n
    ·subst e
     rw [List.getElem_set_self]
     rw [List.getD_eq_getElem?_getD, List.getElem?_eq_getElem h2] at o7
     exact o7.symm
    ·rw [List.getElem_set_ne e]
   by_cases c2 : dpC R.kx R.i R.j = true
   ·have e : dpW (D + 1) R = dpW D ⟨R.j, (R.j + 1) % 16, R.kx.set R.i (R.kx.getD R.j 0), R.px.set R.i (R.px.getD R.j 0), R.ux⟩ := by simp only [dpW, if_pos c, if_pos c2, huu]
    have ih := d4_run D (d - 1) ⟨R.j, (R.j + 1) % 16, R.kx.set R.i (R.kx.getD R.j 0), R.px.set R.i (R.px.getD R.j 0), R.ux⟩
     ⟨o2, by show (R.j + 1) % 16 < 16; omega, by show (List.set _ _ _).length = 16; rw [List.length_set]; exact o3, by show (List.set _ _ _).length = 16; rw [List.length_set]; exact o4, o5, fun j hj => by
      show inU ((R.kx.set R.i (R.kx.getD R.j 0)).getD j 0)
      by_cases q : R.i = j
      ·subst q; rw [getD_set_self (by omega)]; exact o6 R.j o2
      ·rw [getD_set_ne q]; exact o6 j hj, c⟩ (by omega) (by
      show R.ux.getD (((R.j + 1) % 16 + (d - 1)) % 16) false = false
      rw [show ((R.j + 1) % 16 + (d - 1)) % 16 = (R.j + d) % 16 by omega]; exact hf) (by
      show 1 ≤ ds R.j ((R.j + 1) % 16) ∧ ds R.j ((R.j + 1) % 16) + (d - 1) ≤ 15
      unfold ds at hs ⊢; omega)
    rw [e]
    refine d4L_step 16 R.i R.j _ _ _ _ _ ?_ ?_ ?_ <;> dsimp only [At, Tr.q, RG, d4L_T]
    ·intro _ g
     rw [Int.toNat_natCast, g1, hbv, c2] at g; cases g
    ·intro _ _
     simp only [Int.toNat_natCast, g1, g2, g3, nx, List.set_set, huu]
     refine ⟨?_, ih⟩
     (repeat' (first | assumption | apply And.intro)) <;> first | exact trivial | rfl | omega | (simp only [rowLen0, Col0.len, List.length_set] <;> omega)
    ·intro g; rw [Int.toNat_natCast, g3, c] at g; cases g
   ·have e : dpW (D + 1) R = dpW D { R with j := (R.j + 1) % 16 } := by simp only [dpW, if_pos c, if_neg c2]
    have ih := d4_run D (d - 1) { R with j := (R.j + 1) % 16 } ⟨o1, by show (R.j + 1) % 16 < 16; omega, o3, o4, o5, o6, o7⟩ (by omega) (by
     show R.ux.getD (((R.j + 1) % 16 + (d - 1)) % 16) false = false
     rw [show ((R.j + 1) % 16 + (d - 1)) % 16 = (R.j + d) % 16 by omega]; exact hf) (by
     show 1 ≤ ds R.i ((R.j + 1) % 16) ∧ ds R.i ((R.j + 1) % 16) + (d - 1) ≤ 15
     unfold ds at hs ⊢; omega)
    rw [e]
    have c3 : dpC R.kx R.i R.j = false := by simpa using c2
    refine d4L_step 16 R.i R.j _ _ _ _ _ ?_ ?_ ?_ <;> dsimp only [At, Tr.q, RG, d4L_T]
    ·intro _ _
     simp only [Int.toNat_natCast, g1, nx]
     refine ⟨?_, ih⟩
     (repeat' (first | assumption | apply And.intro)) <;> first | exact trivial | rfl | omega | (simp only [rowLen0, Col0.len, List.length_set] <;> omega)
    ·intro _ g
     rw [Int.toNat_natCast, g1, hbv, c3] at g; cases g
    ·intro g; rw [Int.toNat_natCast, g3, c] at g; cases g
  ·have e : dpW (D + 1) R = R := by simp only [dpW, if_neg c]
   rw [e]
   refine d4L_step 16 R.i R.j _ _ _ _ _ ?_ ?_ ?_ <;> dsimp only [At, Tr.q, RG, d4L_T]
   ·intro g; rw [Int.toNat_natCast, g3] at g; exact absurd g c
   ·intro g; rw [Int.toNat_natCast, g3] at g; exact absurd g c
   ·intro _
    refine ⟨?_, rfl, rfl⟩
    (repeat' (first | assumption | apply And.intro)) <;> first | exact trivial | rfl | omega | (simp only [rowLen0, Col0.len, List.length_set, Int.toNat_natCast] <;> omega)
end TableS
end

section
namespace TableS
open Go Go.Dam Go.Proofs
set_option maxRecDepth 1000000
/-! The reference's index is the code's: Drop. -/
theorem d4_ok (kx px : List Int) (ux : List Bool) (k : Int) (h : okI kx ∧ inU k ∧ ccS kx px ux) : CallsD Try.prog 97 [cc kx px ux, u32 k]
  (.tup [cco (if dpO kx px ux k then (dpR kx px ux k).kx.set (dpR kx px ux k).i 0 else []) (if dpO kx px ux k then (dpR kx px ux k).px.set (dpR kx px ux k).i 0 else []) (if dpO kx px ux k then (dpR kx px ux k).ux.set (dpR kx px ux k).i false else []), i64 (dpE kx px ux k)]) := by
 obtain ⟨ho, hk, hc⟩ := h
 have he := pc_eq ho hc
 have hc' := hc
 obtain ⟨c0, c1, c2⟩ := hc
 by_cases c : pcV kx px ux = 0
 ·have c' : c14V kx px ux = 0 := by rw [he]; exact c
  have x := pcV_ix ho ⟨c0, c1, c2⟩ c
  obtain ⟨a1, a2⟩ := ix_atN x hk
  have l := x.1.1
  have l2 : px.length = 16 := by omega
  have l3 : ux.length = 16 := by omega
  have hle := x.2.1
  have hlt := lkI_lt (kx := kx) ux hk
  by_cases u : ux.getD (lkI kx ux k) false = true
  ·have hO : dpO kx px ux k := ⟨c, u⟩
   have hat := a2 (a1.2 u)
   obtain ⟨f, hf, hz⟩ := ctN_free (n := 16) (ux := ux) (by omega)
   have hne : f ≠ lkI kx ux k := fun q => by rw [q, u] at hz; cases hz
   have hd : (f + 16 - (lkI kx ux k + 1) % 16) % 16 ≤ 14 := by omega
   have hfree : ux.getD (((lkI kx ux k + 1) % 16 + (f + 16 - (lkI kx ux k + 1) % 16) % 16) % 16) false = false := by
    rw [show ((lkI kx ux k + 1) % 16 + (f + 16 - (lkI kx ux k + 1) % 16) % 16) % 16 = f by omega]; exact hz
   have ok0 : dpOk ⟨lkI kx ux k, (lkI kx ux k + 1) % 16, kx, px, ux⟩ := ⟨hlt, by show (lkI kx ux k + 1) % 16 < 16; omega, l, l2, l3, fun j hj => ho.2 j (by omega), u⟩
   obtain ⟨r1, _⟩ := pd_run 16 ((f + 16 - (lkI kx ux k + 1) % 16) % 16) _ ok0 (by omega) hfree
   have r2 := d4_run 16 ((f + 16 - (lkI kx ux k + 1) % 16) % 16) _ ok0 (by omega) hfree (by
    show 1 ≤ ds (lkI kx ux k) ((lkI kx ux k + 1) % 16) ∧ ds (lkI kx ux k) ((lkI kx ux k + 1) % 16) + _ ≤ 15
    unfold ds; omega)
   have r3 : dpOk (dpR kx px ux k) := r1
   have r4 := loop_of_rounds r2
   obtain ⟨q1, q2, q3, q4, q5, _⟩ := r3
   have hE : dpE kx px ux k = 0 := by unfold dpE; rw [if_pos c, if_pos u]
   have b := natLt (n := kx.length) (i := lkI kx ux k) (by omega)
   have nx : opI .rem .i64 (opI .add .i64 (lkI kx ux k : Int) 1) 16 = (((lkI kx ux k + 1) % 16 : Nat) : Int) := next16 _ hlt
   simp only [if_pos hO]; rw [hE]
   refine d4_calls kx px ux k (dpR kx px ux k).i (dpR kx px ux k).j ((dpR kx px ux k).kx.set (dpR kx px ux k).i 0) ((dpR kx px ux k).px.set (dpR kx px ux k).i 0) ((dpR kx px ux k).ux.set (dpR kx px ux k).i false) _ ?_ ?_ ?_ <;> dsimp only [At, Tr.q, d4_T]
   ·intro g; rw [neq_t] at g; exact absurd c' g
   ·intro _ g; rw [lss_t] at g; omega
   ·intro _ _
    have hc1 : d4_c1 kx px ux k = d4T 16 (lkI kx ux k) (((lkI kx ux k + 1) % 16 : Nat) : Int) (kx.set (lkI kx ux k) 0) (px.set (lkI kx ux k) 0) (ux.set (lkI kx ux k) false) := by
     show d4T kx.length (atN kx ux k) (opI .rem .i64 (opI .add .i64 (atN kx ux k) 1) 16) (kx.set (atN kx ux k).toNat 0) (px.set (atN kx ux k).toNat 0) (ux.set (atN kx ux k).toNat false) = _
     rw [hat, nx, l, Int.toNat_natCast]
    rw [hat, hc1, l]
    refine ⟨⟨?_, r4, ?_⟩, rfl⟩
    ·simp only [rowLen0, Col0.len, List.length_set]; omega
    ·have b1 := b.1
     have b2 := b.2
     (repeat' (first | assumption | apply And.intro)) <;> first | exact trivial | rfl | assumption | omega | (simp only [rowLen0, Col0.len, List.length_set, Int.toNat_natCast] <;> omega) | (rw [← l]; assumption) | (rw [Int.toNat_natCast]; exact hlt)
  ·have hO : ¬ dpO kx px ux k := fun o => u o.2
   simp only [if_neg hO]
   unfold dpE; rw [if_pos c, if_neg u]
   refine calls_reads (nilC _) ?_
   refine d4_calls kx px ux k 0 0 [] [] [] _ ?_ ?_ ?_ <;> dsimp only [At, Tr.q, d4_T]
   ·intro g; rw [neq_t] at g; exact absurd c' g
   ·intro _ _; exact ⟨⟨by omega, ho, trivial⟩, rfl⟩
   ·intro _ g; rw [lss_f] at g; exact absurd (a1.1 (by omega)) u
 ·have hO : ¬ dpO kx px ux k := fun o => c o.1
  have hne : c14V kx px ux ≠ 0 := fun e => c (by rw [← he]; exact e)
  simp only [if_neg hO]
  unfold dpE; rw [if_neg c, ← he]
  refine calls_reads (nilC _) ?_
  refine d4_calls kx px ux k 0 0 [] [] [] _ ?_ ?_ ?_ <;> dsimp only [At, Tr.q, d4_T]
  ·intro _; exact ⟨⟨ho, ho, trivial⟩, rfl⟩
  ·intro g; rw [neq_f] at g; exact absurd g hne
  ·intro g; rw [neq_f] at g; exact absurd g hne
theorem d4C_ok (args res l) (h : pdC args = some (res, l)) (hl : AllP l) : CallsD Try.prog 97 args res := by
 unfold pdC at h; split at h
 ·simp only [Option.some.injEq, Prod.mk.injEq] at h
  obtain ⟨rfl, rfl⟩ := h; obtain ⟨h0, _⟩ := hl
  exact d4_ok _ _ _ _ h0
 ·cases h
end TableS
end

section
namespace TableS
open Go Go.Dam Go.Proofs
set_option maxRecDepth 1000000
noncomputable def a6L_T (T : Tb) (k : Int) (o : Int) (i : Int) : Tr (Ex × Cs) := .d (cmpI .lss i T.n) (fun e0 => .s (decide (i < (T.us.length : Int)) = true) (.s (decide (0 ≤ i) = true) (.d (T.us.getD i.toNat false) (fun e1 => .p (.c 5) (.s (decide (i < (T.ks.length : Int)) = true) (.s (decide (0 ≤ i) = true) (.d (cmpI .eql (T.ks.getD i.toNat 0) k) (fun e2 => .lf (Ex.ret, (a6T T (k) (i) (i)))) (fun e2 => .lf (Ex.normal, (a6T T (k) (o) (opI .add .i64 i 1)))))))) (fun e1 => .p (.c 6) (.lf (Ex.normal, (a6T T (k) (o) (opI .add .i64 i 1)))))))) (fun e0 => .lf (Ex.exit 0, (a6T T (k) (o) (i))))
theorem a6L_L (T : Tb) (k o i : Int) : Leaves (roundT Try.prog (X19) 100000 (loopAt Try.prog 51 0) [[1, 2, 4, 5]] [(64, 64)] (a6T T k o i)) (a6L_T T k o i) [] [] := by refine ⟨fun _ => ⟨fun _ => ⟨fun _ => ?_, fun _ => ?_⟩, fun _ => ?_⟩, fun _ => ?_⟩ <;> (show _ = _; kernel_rfl)
theorem a6L_step (T : Tb) (k : Int) (o : Int) (i : Int) (σ : St) (e : Ex) (h0 : At (RG Try.prog (loopAt Try.prog 51 0) e σ) (a6L_T T k o i) [true, true, true] True) (h1 : At (RG Try.prog (loopAt Try.prog 51 0) e σ) (a6L_T T k o i) [true, true, false] True) (h2 : At (RG Try.prog (loopAt Try.prog 51 0) e σ) (a6L_T T k o i) [true, false] True) (h3 : At (RG Try.prog (loopAt Try.prog 51 0) e σ) (a6L_T T k o i) [false] True) : Runs Try.prog (CallsD Try.prog) (.rounds (loopAt Try.prog 51 0)) (a6T T k o i).abs e σ := tree_rounds (hX19) (a6L_L T k o i) ⟨fun e0 => ⟨fun e1 => ⟨fun e2 => h0 e0 e1 e2, fun e2 => h1 e0 e1 e2⟩, fun e1 => h2 e0 e1⟩, fun e0 => h3 e0⟩
noncomputable def a6F_T (T : Tb) (k : Int) (i : Int) : Tr D := .p (.l [[1, 2, 4, 5]] [(64, 64)] (a6T T k 0 0) (Ex.exit 0) (a6T T k 0 i)) (.s (Runs Try.prog (CallsD Try.prog) (.code (.loop (loopAt Try.prog 51 0))) (a6T T k 0 0).abs (Ex.exit 0) (a6T T k 0 i).abs) (.k ((a6T T k 0 0 = a6T T k 0 0)) rfl (.lf (i64 (-1)))))
theorem a6F_L (T : Tb) (k i : Int) : Leaves (fun l => fnX Try.prog (X19) 100000 l 51 [T.d, u32 k]) (a6F_T T k i) [] [] := by show _ = _; kernel_rfl
theorem a6F_calls (T : Tb) (k i : Int) (res : D) (h0 : At (fun r => res = r) (a6F_T T k i) [] True) : CallsD Try.prog 51 [T.d, u32 k] res := tree_calls (hX19) (a6F_L T k i) h0
noncomputable def a6R_T (T : Tb) (k : Int) (o : Int) (i : Int) : Tr D := .p (.l [[1, 2, 4, 5]] [(64, 64)] (a6T T k 0 0) Ex.ret (a6T T k o i)) (.s (Runs Try.prog (CallsD Try.prog) (.code (.loop (loopAt Try.prog 51 0))) (a6T T k 0 0).abs (Ex.ret) (a6T T k o i).abs) (.k ((a6T T k 0 0 = a6T T k 0 0)) rfl (.lf (i64 o))))
theorem a6R_L (T : Tb) (k o i : Int) : Leaves (fun l => fnX Try.prog (X19) 100000 l 51 [T.d, u32 k]) (a6R_T T k o i) [] [] := by show _ = _; kernel_rfl
theorem a6R_calls (T : Tb) (k o i : Int) (res : D) (h0 : At (fun r => res = r) (a6R_T T k o i) [] True) : CallsD Try.prog 51 [T.d, u32 k] res := tree_calls (hX19) (a6R_L T k o i) h0
/-! Where a key is, by the reference. -/
theorem a6_run {T : Tb} {k : Int} (hn : T.n ≤ 200) (hk : (T.ks.length : Int) = T.n) (hu : (T.us.length : Int) = T.n) {m : Nat} (hm : (m : Int) ≤ T.n) {o : Int} {e : Ex} {σ : St}
  (hno : ∀ i : Nat, i < m → T.us.getD i false = true → T.ks.getD i 0 ≠ k)
  (hr : Runs Try.prog (CallsD Try.prog) (.rounds (loopAt Try.prog 51 0)) (a6T T k o m).abs e σ) : ∀ (d i : Nat), i + d = m →
  Runs Try.prog (CallsD Try.prog) (.rounds (loopAt Try.prog 51 0)) (a6T T k o i).abs e σ
 | 0, i, h => by rw [Nat.add_zero] at h; subst h; exact hr
 | d + 1, i, h => by
  have ih := a6_run hn hk hu hm hno hr d (i + 1) (by omega)
  have nx : opI .add .i64 (i : Int) 1 = ((i + 1 : Nat) : Int) := by rw [opI_add, wrap_i64_of (by omega) (by omega)]; omega
  have b1 : decide (0 ≤ (i : Int)) = true := decide_eq_true (by omega)
  have b2 : decide ((i : Int) < (T.us.length : Int)) = true := decide_eq_true (by omega)
  have b3 : decide ((i : Int) < (T.ks.length : Int)) = true := decide_eq_true (by omega)
  refine a6L_step T k o i _ _ ?_ ?_ ?_ ?_ <;> dsimp only [At, Tr.q, RG, a6L_T]
  ·intro _ g1 g2; rw [Int.toNat_natCast] at g1 g2; rw [eql_t] at g2; exact absurd g2 (hno i (by omega) g1)
  ·intro _ _ _; rw [nx]; exact ⟨⟨b1, b3, b1, b2, trivial⟩, ih⟩
  ·intro _ _; rw [nx]; exact ⟨⟨b1, b2, trivial⟩, ih⟩
  ·intro g; rw [lss_f] at g; omega
theorem a6_ok (T : Tb) (k : Int) (h : okT T ∧ inU k ∧ tcV T = 0) : CallsD Try.prog 51 [T.d, u32 k] (i64 (plV T k)) := by
 obtain ⟨ho, hk, c⟩ := h
 obtain ⟨L, F, v⟩ := tc_inv ho c
 have lens := okT_lens ho v
 have ul := inv_us_len v
 have hn : T.n ≤ 200 := by have := v.sz.2.1; omega
 have h0 := v.sz.1
 rcases inv_pl v hk with ⟨i, ep, hi, hu, ek⟩ | ⟨ep, hn2⟩
 ·have b1 : decide (0 ≤ (i : Int)) = true := decide_eq_true (by omega)
  have b2 : decide ((i : Int) < (T.us.length : Int)) = true := decide_eq_true (by omega)
  have b3 : decide ((i : Int) < (T.ks.length : Int)) = true := decide_eq_true (by omega)
  have r := a6_run (T := T) (k := k) (m := i) (o := 0) (e := .ret) (σ := (a6T T k i i).abs) hn lens.1 ul (by omega) (fun j hj uj e => by
   have := inv_keys v (i := j) (j := i) (by omega) hi uj hu (by rw [e, ek]); omega) (by
   refine a6L_step T k 0 i _ _ ?_ ?_ ?_ ?_ <;> dsimp only [At, Tr.q, RG, a6L_T]
   ·intro _ _ _; exact ⟨⟨b1, b3, b1, b2, trivial⟩, rfl, rfl⟩
   ·intro _ _ g; rw [Int.toNat_natCast, eql_f] at g; exact absurd ek g
   ·intro _ g; rw [Int.toNat_natCast, hu] at g; cases g
   ·intro g; rw [lss_f] at g; omega) i 0 (by omega)
  rw [ep]
  exact a6R_calls T k i i _ ⟨⟨loop_of_rounds r, trivial⟩, rfl⟩
 ·obtain ⟨m, em⟩ : ∃ m : Nat, T.n = m := ⟨T.n.toNat, by omega⟩
  have r := a6_run (T := T) (k := k) (m := m) (o := 0) (e := .exit 0) (σ := (a6T T k 0 m).abs) hn lens.1 ul (by omega) (fun j hj uj e => hn2 j (by omega) uj e) (by
   refine a6L_step T k 0 m _ _ ?_ ?_ ?_ ?_ <;> dsimp only [At, Tr.q, RG, a6L_T]
   ·intro g; rw [lss_t] at g; omega
   ·intro g; rw [lss_t] at g; omega
   ·intro g; rw [lss_t] at g; omega
   ·intro _; exact ⟨trivial, rfl, rfl⟩) m 0 (by omega)
  rw [ep]
  exact a6F_calls T k m _ ⟨⟨loop_of_rounds r, trivial⟩, rfl⟩
/-- A contract of a function of one table and a key. -/
def conTK (f : Tb → Int → D × List Prop) : List D → Option (D × List Prop)
 | [d, .v (.int .u32 k)] => match tbOf d with
  | some T => some (f T k)
  | none => none
 | _ => none
theorem conTK_ok {f : Tb → Int → D × List Prop} {g : FuncId} (hf : ∀ T k, AllP (f T k).2 → CallsD Try.prog g [T.d, u32 k] (f T k).1) (args res l) (h : conTK f args = some (res, l)) (hl : AllP l) : CallsD Try.prog g args res := by
 unfold conTK at h
 split at h
 next d k =>
  split at h
  next T ht =>
   simp only [Option.some.injEq] at h
   have e := tbOf_d ht
   subst e
   have := hf T k (by rw [h]; exact hl)
   rw [h] at this; exact this
  ·cases h
 ·cases h
def a6S (T : Tb) (k : Int) : Prop := okT T ∧ inU k ∧ tcV T = 0
def a6C : List D → Option (D × List Prop) := conTK fun T k => (i64 (plV T k), [a6S T k])
theorem a6C_ok (args res l) (h : a6C args = some (res, l)) (hl : AllP l) : CallsD Try.prog 51 args res := conTK_ok (f := fun T k => (i64 (plV T k), [a6S T k])) (fun T k h => a6_ok T k h.1) args res l h hl
noncomputable def X21 : Contracts := addCon 51 (.call a6C) (addCon 97 (.call pdC) X20)
theorem hX21 : ConOK Try.prog X21 := addCall_ok a6C_ok (addCall_ok d4C_ok hX20)
end TableS
end

section
namespace TableS
open Go Go.Dam Go.Proofs
set_option maxRecDepth 1000000
noncomputable def dd6_c0 (T : Tb) (k : Int) := if rmO T.ps T.no T.h T.t (plV T k) then rmP T.ps T.no (plV T k) else []
noncomputable def dd6_c1 (T : Tb) (k : Int) := if rmO T.ps T.no T.h T.t (plV T k) then rmN T.ps T.no (plV T k) else []
noncomputable def dd6_c2 (T : Tb) (k : Int) := if gvO T.nx T.us T.fr (plV T k) then T.nx.set (plV T k).toNat T.fr else []
noncomputable def dd6_c3 (T : Tb) (k : Int) := if gvO T.nx T.us T.fr (plV T k) then T.us.set (plV T k).toNat false else []
noncomputable def dd6_c4 (T : Tb) (k : Int) := if dpO T.kx T.px T.ux k then (dpR T.kx T.px T.ux k).kx.set (dpR T.kx T.px T.ux k).i 0 else []
noncomputable def dd6_c5 (T : Tb) (k : Int) := if dpO T.kx T.px T.ux k then (dpR T.kx T.px T.ux k).px.set (dpR T.kx T.px T.ux k).i 0 else []
noncomputable def dd6_c6 (T : Tb) (k : Int) := if dpO T.kx T.px T.ux k then (dpR T.kx T.px T.ux k).ux.set (dpR T.kx T.px T.ux k).i false else []
noncomputable def dd6_T (T : Tb) (k : Int) : Tr D := .s (a6S T k) (.s (twS T) (.s (T.no.length ≤ 200) (.s (okI T.kx ∧ inU k ∧ ccS T.kx T.px T.ux) (.s (T.us.length ≤ 200 ∧ T.nx.length ≤ 200) (.s (decide (plV T k < ↑(rowLen0 [.ints .u32 T.ks])) = true) (.s (decide (0 ≤ plV T k) = true) (.s ((Col0.ints .u32 T.ks).len = rowLen0 [.ints .u32 T.ks]) (.s ((plV T k).toNat < rowLen0 [.ints .u32 T.ks]) (.s (decide (plV T k < ↑(rowLen0 [.ints .i64 T.x1, .ints .i64 T.x2, .ints .i64 T.x3, .ints .i64 T.x4, .ints .i64 T.x5, .ints .u64 T.x6])) = true) (.s (decide (0 ≤ plV T k) = true) (.s ((Col0.ints .u64 T.x6).len = rowLen0 [.ints .i64 T.x1, .ints .i64 T.x2, .ints .i64 T.x3, .ints .i64 T.x4, .ints .i64 T.x5, .ints .u64 T.x6]) (.s ((Col0.ints .i64 T.x5).len = rowLen0 [.ints .i64 T.x1, .ints .i64 T.x2, .ints .i64 T.x3, .ints .i64 T.x4, .ints .i64 T.x5, .ints .u64 T.x6]) (.s ((Col0.ints .i64 T.x4).len = rowLen0 [.ints .i64 T.x1, .ints .i64 T.x2, .ints .i64 T.x3, .ints .i64 T.x4, .ints .i64 T.x5, .ints .u64 T.x6]) (.s ((Col0.ints .i64 T.x3).len = rowLen0 [.ints .i64 T.x1, .ints .i64 T.x2, .ints .i64 T.x3, .ints .i64 T.x4, .ints .i64 T.x5, .ints .u64 T.x6]) (.s ((Col0.ints .i64 T.x2).len = rowLen0 [.ints .i64 T.x1, .ints .i64 T.x2, .ints .i64 T.x3, .ints .i64 T.x4, .ints .i64 T.x5, .ints .u64 T.x6]) (.s ((Col0.ints .i64 T.x1).len = rowLen0 [.ints .i64 T.x1, .ints .i64 T.x2, .ints .i64 T.x3, .ints .i64 T.x4, .ints .i64 T.x5, .ints .u64 T.x6]) (.s ((plV T k).toNat < rowLen0 [.ints .i64 T.x1, .ints .i64 T.x2, .ints .i64 T.x3, .ints .i64 T.x4, .ints .i64 T.x5, .ints .u64 T.x6]) (.q (rowLen0 [.ints .i64 (dd6_c1 T k)]) (.q (rowLen0 [.ints .i64 (dd6_c0 T k)]) (.q (rowLen0 [.ints .u32 (dd6_c4 T k), .ints .i64 (dd6_c5 T k), .bools (dd6_c6 T k)]) (.q (rowLen0 [.bools (dd6_c3 T k)]) (.q (rowLen0 [.ints .i64 (dd6_c2 T k)]) (.s (rowLen0 [.ints .i64 T.x1, .ints .i64 T.x2, .ints .i64 T.x3, .ints .i64 T.x4, .ints .i64 T.x5, .ints .u64 T.x6] = rowLen0 [.ints .i64 (T.x1.set (plV T k).toNat 0), .ints .i64 (T.x2.set (plV T k).toNat 0), .ints .i64 (T.x3.set (plV T k).toNat 0), .ints .i64 (T.x4.set (plV T k).toNat 0), .ints .i64 (T.x5.set (plV T k).toNat 0), .ints .u64 (T.x6.set (plV T k).toNat 0)]) (.s (rowLen0 [.ints .u32 T.ks] = rowLen0 [.ints .u32 (T.ks.set (plV T k).toNat 0)]) (.lf (D.agg [i64 T.n, D.oc [.ints .u32 (T.ks.set (plV T k).toNat 0)], D.oc [.ints .i64 (T.x1.set (plV T k).toNat 0), .ints .i64 (T.x2.set (plV T k).toNat 0), .ints .i64 (T.x3.set (plV T k).toNat 0), .ints .i64 (T.x4.set (plV T k).toNat 0), .ints .i64 (T.x5.set (plV T k).toNat 0), .ints .u64 (T.x6.set (plV T k).toNat 0)], D.oc [.ints .i64 (dd6_c2 T k)], D.oc [.bools (dd6_c3 T k)], i64 (if gvO T.nx T.us T.fr (plV T k) then plV T k else 0), D.oc [.ints .u32 (dd6_c4 T k), .ints .i64 (dd6_c5 T k), .bools (dd6_c6 T k)], D.oc [.ints .i64 (dd6_c0 T k)], D.oc [.ints .i64 (dd6_c1 T k)], i64 (if rmO T.ps T.no T.h T.t (plV T k) then rmH T.ps T.no T.h (plV T k) else 0), i64 (if rmO T.ps T.no T.h T.t (plV T k) then rmT T.ps T.no T.t (plV T k) else 0)]))))))))))))))))))))))))))
theorem dd6_L (T : Tb) (k : Int) : Leaves (fun l => fnX Try.prog (X21) 100000 l 54 [T.d, u32 k]) (dd6_T T k) [] [] := by show _ = _; kernel_rfl
theorem dd6_calls (T : Tb) (k : Int) (res : D) (h0 : At (fun r => res = r) (dd6_T T k) [] True) : CallsD Try.prog 54 [T.d, u32 k] res := tree_calls (hX21) (dd6_L T k) h0
def dd6S (T : Tb) (k : Int) : Prop := okT T ∧ inU k ∧ tcV T = 0 ∧ 0 ≤ plV T k
theorem dd6_ok (T : Tb) (k : Int) (h : dd6S T k) : CallsD Try.prog 54 [T.d, u32 k] (T.without k (plV T k).toNat).o := by
 obtain ⟨ho, hk, c, hp⟩ := h
 obtain ⟨L, F, v⟩ := tc_inv ho c
 have ho' := ho
 obtain ⟨d8, _, _, d1, d2, d3, d4, d5, d6, d7⟩ := ho'
 have lens := okT_lens ho v
 rcases inv_pl v hk with ⟨i, ep, hi, hu, ek⟩ | ⟨ep, hn⟩
 ·have lc := or_lc v.od
  have tm : (i : Int) ∈ L := by have := v.us i hi; rw [hu] at this; simpa using this.symm
  have ps6 : (T.ps.length : Int) = T.n := v.sz.2.2.2.2.2
  have nx5 : (T.nx.length : Int) = T.n := v.sz.2.2.2.2.1
  have hrm : rmO T.ps T.no T.h T.t i := ⟨lc, ⟨by omega, by omega⟩, (or_mem v.od (by omega) (by omega)).2 tm⟩
  have hgv : gvO T.nx T.us T.fr i := ⟨ar_ak v.ar, by omega, by omega, by rw [Int.toNat_natCast]; exact hu⟩
  have hdp : dpO T.kx T.px T.ux k := by
   obtain ⟨j, hj, uj, e1, e2⟩ := inv_cell v hi hu
   refine ⟨ix_pc v.ix, ?_⟩
   have := ix_at v.ix hj uj
   rw [e1, ek] at this
   rw [this]; exact uj
  have tws : twS T := ⟨d6, d4, d1, d2, d5, d7, d3⟩
  have a6s : a6S T k := ⟨ho, hk, c⟩
  refine dd6_calls T k _ ?_ <;> dsimp only [At, Tr.q, dd6_T]
  simp only [dd6_c0, dd6_c1, dd6_c2, dd6_c3, dd6_c4, dd6_c5, dd6_c6, ep, if_pos hrm, if_pos hgv, if_pos hdp]
  refine ⟨?_, rfl⟩
  (repeat' (first | assumption | apply And.intro)) <;> first | exact trivial | rfl | ((try refine @decide_eq_true _ _ ?_); first | omega | (simp only [rowLen0, Col0.len, List.length_set, Int.toNat_natCast] <;> omega))
 ·omega
def dd6C : List D → Option (D × List Prop) := conTK fun T k => ((T.without k (plV T k).toNat).o, [dd6S T k])
theorem dd6C_ok (args res l) (h : dd6C args = some (res, l)) (hl : AllP l) : CallsD Try.prog 54 args res := conTK_ok (f := fun T k => ((T.without k (plV T k).toNat).o, [dd6S T k])) (fun T k h => dd6_ok T k h.1) args res l h hl
end TableS
end

section
namespace TableS
open Go Go.Dam Go.Proofs
set_option maxRecDepth 1000000
noncomputable def X22 : Contracts := addCon 54 (.call dd6C) X21
theorem hX22 : ConOK Try.prog X22 := addCall_ok dd6C_ok hX21
end TableS
end

section
namespace TableS
open Go Go.Dam Go.Proofs
set_option maxRecDepth 1000000
/-! The reference's Use is the code's. -/
end TableS
end

section
namespace TableS
open Go Go.Dam Go.Proofs
set_option maxRecDepth 1000000
noncomputable def X23 : Contracts := X22
theorem hX23 : ConOK Try.prog X23 := hX22
end TableS
end

section
namespace TableS
open Go Go.Dam Go.Proofs
set_option maxRecDepth 1000000
end TableS
end

section
namespace TableS
open Go Go.Dam Go.Proofs
set_option maxRecDepth 1000000
def zr (n : Nat) : List Int := List.replicate n 0
end TableS
end

section
namespace TableS
open Go Go.Dam Go.Proofs
set_option maxRecDepth 1000000
end TableS
end

section
namespace TableS
open Go Go.Dam Go.Proofs
set_option maxRecDepth 1000000
/-! Keys of the reference keeps Keys' contract. -/
/-! Same, of equal arguments. -/
noncomputable def s3T (nx : List Int) (us : List Bool) (fr : Int) (o : Bool) (i : Int) : Cs := ⟨TT.of [(2, D.ptr 64 0), (3, D.ptr 96 0), (4, bo o), (5, i64 i)], 66, [], [(64, BX.cells [ri nx, rb us, i64 fr] false), (96, BX.cells [ri nx, rb us, i64 fr] false)], none, 0⟩
noncomputable def s4T (kx px : List Int) (ux : List Bool) (o : Bool) (i : Int) : Cs := ⟨TT.of [(0, cc kx px ux), (1, cc kx px ux), (4, bo o), (5, i64 i)], 26, [], [], none, 0⟩
noncomputable def s3U (nx : List Int) (us : List Bool) (fr : Int) (o : Bool) (i : Int) : Cs := ⟨TT.of [(2, D.ptr 64 0), (3, D.ptr 96 0), (4, bo o), (6, i64 i)], 66, [], [(64, BX.cells [ri nx, rb us, i64 fr] false), (96, BX.cells [ri nx, rb us, i64 fr] false)], none, 0⟩
noncomputable def s6T (T : Tb) (o : Bool) (i : Int) : Cs := ⟨TT.of [(2, D.ptr 64 0), (3, D.ptr 96 0), (4, bo o), (5, i64 i)], 70, [], [(64, T.b), (96, T.b)], none, 0⟩
def s3C : List D → Option (D × List Prop)
 | [.agg [.rc [.ints .i64 n1], .rc [.bools u1], .v (.int .i64 f1)], .agg [.rc [.ints .i64 n2], .rc [.bools u2], .v (.int .i64 f2)]] => some (bo true, [n1 = n2 ∧ u1 = u2 ∧ f1 = f2 ∧ n1.length ≤ 200 ∧ u1.length ≤ 200])
 | _ => none
def s4C : List D → Option (D × List Prop)
 | [.rc [.ints .u32 k1, .ints .i64 p1, .bools u1], .rc [.ints .u32 k2, .ints .i64 p2, .bools u2]] => some (bo true, [k1 = k2 ∧ p1 = p2 ∧ u1 = u2 ∧ k1.length ≤ 200])
 | _ => none
/-- To draw Same by. -/
noncomputable def X25 : Contracts := addCon 58 (.call s3C) (addCon 59 (.call s4C) X23)
end TableS
end

section
namespace TableS
open Go Go.Dam Go.Proofs
set_option maxRecDepth 1000000
noncomputable def s4L_c0 (px : List Int) (ux : List Bool) (i : Int) := px.getD i.toNat 0 == px.getD i.toNat 0 && (ux.getD i.toNat false == ux.getD i.toNat false && true)
noncomputable def s4L_c1 (kx px : List Int) (ux : List Bool) (i : Int) := kx.getD i.toNat 0 == kx.getD i.toNat 0 && (s4L_c0 px ux i)
noncomputable def s4L_T (kx : List Int) (px : List Int) (ux : List Bool) (o : Bool) (i : Int) : Tr (Ex × Cs) := .d (cmpI .lss i ↑(kx.length)) (fun e0 => .s (decide (i < ↑(kx.length)) = true) (.s (decide (0 ≤ i) = true) (.s (decide (i < ↑(kx.length)) = true) (.s (decide (0 ≤ i) = true) (.d (!(s4L_c1 kx px ux i)) (fun e1 => .lf (Ex.ret, (s4T (kx) (px) (ux) (false) (i)))) (fun e1 => .lf (Ex.normal, (s4T (kx) (px) (ux) (o) (opI .add .i64 i 1))))))))) (fun e0 => .lf (Ex.exit 0, (s4T (kx) (px) (ux) (o) (i))))
theorem s4L_L (kx px : List Int) (ux : List Bool) (o : Bool) (i : Int) : Leaves (roundT Try.prog (X23) 100000 (loopAt Try.prog 59 0) [[0, 1, 4, 5]] [] (s4T kx px ux o i)) (s4L_T kx px ux o i) [] [] := by refine ⟨fun _ => ⟨fun _ => ?_, fun _ => ?_⟩, fun _ => ?_⟩ <;> (show _ = _; kernel_rfl)
theorem s4L_step (kx : List Int) (px : List Int) (ux : List Bool) (o : Bool) (i : Int) (σ : St) (e : Ex) (h0 : At (RG Try.prog (loopAt Try.prog 59 0) e σ) (s4L_T kx px ux o i) [true, true] True) (h1 : At (RG Try.prog (loopAt Try.prog 59 0) e σ) (s4L_T kx px ux o i) [true, false] True) (h2 : At (RG Try.prog (loopAt Try.prog 59 0) e σ) (s4L_T kx px ux o i) [false] True) : Runs Try.prog (CallsD Try.prog) (.rounds (loopAt Try.prog 59 0)) (s4T kx px ux o i).abs e σ := tree_rounds (hX23) (s4L_L kx px ux o i) ⟨fun e0 => ⟨fun e1 => h0 e0 e1, fun e1 => h1 e0 e1⟩, fun e0 => h2 e0⟩
noncomputable def s4F_T (kx : List Int) (px : List Int) (ux : List Bool) (i : Int) : Tr D := .d (cmpI .neq ↑(kx.length) ↑(kx.length)) (fun e0 => .lf (bo false)) (fun e0 => .p (.l [[0, 1, 4, 5]] [] (s4T kx px ux false 0) (Ex.exit 0) (s4T kx px ux false i)) (.s (Runs Try.prog (CallsD Try.prog) (.code (.loop (loopAt Try.prog 59 0))) (s4T kx px ux false 0).abs (Ex.exit 0) (s4T kx px ux false i).abs) (.k ((s4T kx px ux false 0 = s4T kx px ux false 0)) rfl (.lf (bo true)))))
theorem s4F_L (kx px : List Int) (ux : List Bool) (i : Int) : Leaves (fun l => fnX Try.prog (X23) 100000 l 59 [cc kx px ux, cc kx px ux]) (s4F_T kx px ux i) [] [] := by refine ⟨fun _ => ?_, fun _ => ?_⟩ <;> (show _ = _; kernel_rfl)
theorem s4F_calls (kx px : List Int) (ux : List Bool) (i : Int) (res : D) (h0 : At (fun r => res = r) (s4F_T kx px ux i) [true] True) (h1 : At (fun r => res = r) (s4F_T kx px ux i) [false] True) : CallsD Try.prog 59 [cc kx px ux, cc kx px ux] res := tree_calls (hX23) (s4F_L kx px ux i) ⟨fun e0 => h0 e0, fun e0 => h1 e0⟩
noncomputable def s3L_T (nx : List Int) (us : List Bool) (fr : Int) (o : Bool) (i : Int) : Tr (Ex × Cs) := .d (cmpI .lss i ↑(nx.length)) (fun e0 => .s (decide (i < ↑(nx.length)) = true) (.s (decide (0 ≤ i) = true) (.s (decide (i < ↑(nx.length)) = true) (.s (decide (0 ≤ i) = true) (.d (cmpI .neq (nx.getD i.toNat 0) (nx.getD i.toNat 0)) (fun e1 => .lf (Ex.ret, (s3T (nx) (us) (fr) (false) (i)))) (fun e1 => .lf (Ex.normal, (s3T (nx) (us) (fr) (o) (opI .add .i64 i 1))))))))) (fun e0 => .lf (Ex.exit 0, (s3T (nx) (us) (fr) (o) (i))))
theorem s3L_L (nx : List Int) (us : List Bool) (fr : Int) (o : Bool) (i : Int) : Leaves (roundT Try.prog (X23) 100000 (loopAt Try.prog 58 0) [[2, 3, 4, 5]] [(64, 64), (96, 96)] (s3T nx us fr o i)) (s3L_T nx us fr o i) [] [] := by refine ⟨fun _ => ⟨fun _ => ?_, fun _ => ?_⟩, fun _ => ?_⟩ <;> (show _ = _; kernel_rfl)
theorem s3L_step (nx : List Int) (us : List Bool) (fr : Int) (o : Bool) (i : Int) (σ : St) (e : Ex) (h0 : At (RG Try.prog (loopAt Try.prog 58 0) e σ) (s3L_T nx us fr o i) [true, true] True) (h1 : At (RG Try.prog (loopAt Try.prog 58 0) e σ) (s3L_T nx us fr o i) [true, false] True) (h2 : At (RG Try.prog (loopAt Try.prog 58 0) e σ) (s3L_T nx us fr o i) [false] True) : Runs Try.prog (CallsD Try.prog) (.rounds (loopAt Try.prog 58 0)) (s3T nx us fr o i).abs e σ := tree_rounds (hX23) (s3L_L nx us fr o i) ⟨fun e0 => ⟨fun e1 => h0 e0 e1, fun e1 => h1 e0 e1⟩, fun e0 => h2 e0⟩
noncomputable def s3M_T (nx : List Int) (us : List Bool) (fr : Int) (o : Bool) (i : Int) : Tr (Ex × Cs) := .d (cmpI .lss i ↑(us.length)) (fun e0 => .s (decide (i < ↑(us.length)) = true) (.s (decide (0 ≤ i) = true) (.s (decide (i < ↑(us.length)) = true) (.s (decide (0 ≤ i) = true) (.d (!us.getD i.toNat false == us.getD i.toNat false) (fun e1 => .lf (Ex.ret, (s3U (nx) (us) (fr) (false) (i)))) (fun e1 => .lf (Ex.normal, (s3U (nx) (us) (fr) (o) (opI .add .i64 i 1))))))))) (fun e0 => .lf (Ex.exit 2, (s3U (nx) (us) (fr) (o) (i))))
theorem s3M_L (nx : List Int) (us : List Bool) (fr : Int) (o : Bool) (i : Int) : Leaves (roundT Try.prog (X23) 100000 (loopAt Try.prog 58 1) [[2, 3, 4, 6]] [(64, 64), (96, 96)] (s3U nx us fr o i)) (s3M_T nx us fr o i) [] [] := by refine ⟨fun _ => ⟨fun _ => ?_, fun _ => ?_⟩, fun _ => ?_⟩ <;> (show _ = _; kernel_rfl)
theorem s3M_step (nx : List Int) (us : List Bool) (fr : Int) (o : Bool) (i : Int) (σ : St) (e : Ex) (h0 : At (RG Try.prog (loopAt Try.prog 58 1) e σ) (s3M_T nx us fr o i) [true, true] True) (h1 : At (RG Try.prog (loopAt Try.prog 58 1) e σ) (s3M_T nx us fr o i) [true, false] True) (h2 : At (RG Try.prog (loopAt Try.prog 58 1) e σ) (s3M_T nx us fr o i) [false] True) : Runs Try.prog (CallsD Try.prog) (.rounds (loopAt Try.prog 58 1)) (s3U nx us fr o i).abs e σ := tree_rounds (hX23) (s3M_L nx us fr o i) ⟨fun e0 => ⟨fun e1 => h0 e0 e1, fun e1 => h1 e0 e1⟩, fun e0 => h2 e0⟩
noncomputable def s3F_T (nx : List Int) (us : List Bool) (fr : Int) (i : Int) (k : Int) : Tr D := .d (cmpI .neq fr fr) (fun e0 => .p (.c 13) (.lf (bo false))) (fun e0 => .p (.c 5) (.d (cmpI .neq ↑(nx.length) ↑(nx.length)) (fun e1 => .p (.c 6) (.lf (bo false))) (fun e1 => .p (.c 5) (.d (cmpI .neq ↑(us.length) ↑(us.length)) (fun e2 => .lf (bo false)) (fun e2 => .p (.l [[2, 3, 4, 5]] [(64, 64), (96, 96)] (s3T nx us fr false 0) (Ex.exit 0) (s3T nx us fr false i)) (.p (.l [[2, 3, 4, 6]] [(64, 64), (96, 96)] (s3U nx us fr false 0) (Ex.exit 2) (s3U nx us fr false k)) (.s (Runs Try.prog (CallsD Try.prog) (.code (.loop (loopAt Try.prog 58 0))) (s3T nx us fr false 0).abs (Ex.exit 0) (s3T nx us fr false i).abs) (.k ((s3T nx us fr false 0 = s3T nx us fr false 0)) rfl (.s (Runs Try.prog (CallsD Try.prog) (.code (.loop (loopAt Try.prog 58 1))) (s3U nx us fr false 0).abs (Ex.exit 2) (s3U nx us fr false k).abs) (.k ((s3U nx us fr false 0 = s3U nx us fr false 0)) rfl (.lf (bo true))))))))))))
theorem s3F_L (nx : List Int) (us : List Bool) (fr i k : Int) : Leaves (fun l => fnX Try.prog (X23) 100000 l 58 [D.agg [ri nx, rb us, i64 fr], D.agg [ri nx, rb us, i64 fr]]) (s3F_T nx us fr i k) [] [] := by refine ⟨fun _ => ?_, fun _ => ⟨fun _ => ?_, fun _ => ⟨fun _ => ?_, fun _ => ?_⟩⟩⟩ <;> (show _ = _; kernel_rfl)
theorem s3F_calls (nx : List Int) (us : List Bool) (fr i k : Int) (res : D) (h0 : At (fun r => res = r) (s3F_T nx us fr i k) [true] True) (h1 : At (fun r => res = r) (s3F_T nx us fr i k) [false, true] True) (h2 : At (fun r => res = r) (s3F_T nx us fr i k) [false, false, true] True) (h3 : At (fun r => res = r) (s3F_T nx us fr i k) [false, false, false] True) : CallsD Try.prog 58 [D.agg [ri nx, rb us, i64 fr], D.agg [ri nx, rb us, i64 fr]] res := tree_calls (hX23) (s3F_L nx us fr i k) ⟨fun e0 => h0 e0, fun e0 => ⟨fun e1 => h1 e0 e1, fun e1 => ⟨fun e2 => h2 e0 e1 e2, fun e2 => h3 e0 e1 e2⟩⟩⟩
theorem neqs (x : Int) : cmpI .neq x x = false := by rw [neq_f]
theorem s4_ok (kx px : List Int) (ux : List Bool) (h : kx.length ≤ 200) : CallsD Try.prog 59 [cc kx px ux, cc kx px ux] (bo true) := by
 have r : Runs Try.prog (CallsD Try.prog) (.rounds (loopAt Try.prog 59 0)) (s4T kx px ux false 0).abs (.exit 0) (s4T kx px ux false kx.length).abs := by
  refine scan_all (fun i => s4T kx px ux false (i : Int)) kx.length (fun _ => True) (fun i hi _ σ e hr => ?_) ?_ kx.length 0 (by omega) (fun _ _ _ => trivial)
  ·refine s4L_step kx px ux false i σ e ?_ ?_ ?_ <;> dsimp only [At, Tr.q, RG, s4L_T]
   ·intro _ g; simp [s4L_c1, s4L_c0] at g
   ·intro _ _; rw [succL hi h]; exact ⟨⟨(natLt hi).1, (natLt hi).2, (natLt hi).1, (natLt hi).2, trivial⟩, hr⟩
   ·intro g; rw [lss_f] at g; omega
  ·refine s4L_step kx px ux false kx.length _ _ ?_ ?_ ?_ <;> dsimp only [At, Tr.q, RG, s4L_T]
   ·intro g; rw [lss_t] at g; omega
   ·intro g; rw [lss_t] at g; omega
   ·intro _; exact ⟨trivial, rfl, rfl⟩
 refine s4F_calls kx px ux kx.length _ ?_ ?_ <;> dsimp only [At, Tr.q, s4F_T]
 ·intro g; rw [neqs] at g; cases g
 ·intro _; exact ⟨⟨loop_of_rounds r, trivial⟩, rfl⟩
theorem s3_ok (nx : List Int) (us : List Bool) (fr : Int) (h : nx.length ≤ 200) (h' : us.length ≤ 200) : CallsD Try.prog 58 [.agg [ri nx, rb us, i64 fr], .agg [ri nx, rb us, i64 fr]] (bo true) := by
 have r : Runs Try.prog (CallsD Try.prog) (.rounds (loopAt Try.prog 58 0)) (s3T nx us fr false 0).abs (.exit 0) (s3T nx us fr false nx.length).abs := by
  refine scan_all (fun i => s3T nx us fr false (i : Int)) nx.length (fun _ => True) (fun i hi _ σ e hr => ?_) ?_ nx.length 0 (by omega) (fun _ _ _ => trivial)
  ·refine s3L_step nx us fr false i σ e ?_ ?_ ?_ <;> dsimp only [At, Tr.q, RG, s3L_T]
   ·intro _ g; rw [neqs] at g; cases g
   ·intro _ _; rw [succL hi h]; exact ⟨⟨(natLt hi).1, (natLt hi).2, (natLt hi).1, (natLt hi).2, trivial⟩, hr⟩
   ·intro g; rw [lss_f] at g; omega
  ·refine s3L_step nx us fr false nx.length _ _ ?_ ?_ ?_ <;> dsimp only [At, Tr.q, RG, s3L_T]
   ·intro g; rw [lss_t] at g; omega
   ·intro g; rw [lss_t] at g; omega
   ·intro _; exact ⟨trivial, rfl, rfl⟩
 have r2 : Runs Try.prog (CallsD Try.prog) (.rounds (loopAt Try.prog 58 1)) (s3U nx us fr false 0).abs (.exit 2) (s3U nx us fr false us.length).abs := by
  refine scan_all (fun i => s3U nx us fr false (i : Int)) us.length (fun _ => True) (fun i hi _ σ e hr => ?_) ?_ us.length 0 (by omega) (fun _ _ _ => trivial)
  ·refine s3M_step nx us fr false i σ e ?_ ?_ ?_ <;> dsimp only [At, Tr.q, RG, s3M_T]
   ·intro _ g; simp at g
   ·intro _ _; rw [succL hi h']; exact ⟨⟨(natLt hi).1, (natLt hi).2, (natLt hi).1, (natLt hi).2, trivial⟩, hr⟩
   ·intro g; rw [lss_f] at g; omega
  ·refine s3M_step nx us fr false us.length _ _ ?_ ?_ ?_ <;> dsimp only [At, Tr.q, RG, s3M_T]
   ·intro g; rw [lss_t] at g; omega
   ·intro g; rw [lss_t] at g; omega
   ·intro _; exact ⟨trivial, rfl, rfl⟩
 refine s3F_calls nx us fr nx.length us.length _ ?_ ?_ ?_ ?_ <;> dsimp only [At, Tr.q, s3F_T]
 ·intro g; rw [neqs] at g; cases g
 ·intro _ g; rw [neqs] at g; cases g
 ·intro _ _ g; rw [neqs] at g; cases g
 ·intro _ _ _; exact ⟨⟨loop_of_rounds r2, loop_of_rounds r, trivial⟩, rfl⟩
theorem s3o (n1 : List Int) (u1 : List Bool) (f1 : Int) (n2 : List Int) (u2 : List Bool) (f2 : Int) (h : n1 = n2 ∧ u1 = u2 ∧ f1 = f2 ∧ n1.length ≤ 200 ∧ u1.length ≤ 200) : CallsD Try.prog 58 [.agg [ri n1, rb u1, i64 f1], .agg [ri n2, rb u2, i64 f2]] (bo true) := by
 obtain ⟨rfl, rfl, rfl, h1, h2⟩ := h; exact s3_ok _ _ _ h1 h2
theorem s4o (k1 p1 : List Int) (u1 : List Bool) (k2 p2 : List Int) (u2 : List Bool) (h : k1 = k2 ∧ p1 = p2 ∧ u1 = u2 ∧ k1.length ≤ 200) : CallsD Try.prog 59 [cc k1 p1 u1, cc k2 p2 u2] (bo true) := by
 obtain ⟨rfl, rfl, rfl, h1⟩ := h; exact s4_ok _ _ _ h1
theorem s3C_ok (args res l) (h : s3C args = some (res, l)) (hl : AllP l) : CallsD Try.prog 58 args res := by
 unfold s3C at h; split at h
 ·simp only [Option.some.injEq, Prod.mk.injEq] at h
  obtain ⟨rfl, rfl⟩ := h; obtain ⟨h0, _⟩ := hl
  exact s3o _ _ _ _ _ _ h0
 ·cases h
theorem s4C_ok (args res l) (h : s4C args = some (res, l)) (hl : AllP l) : CallsD Try.prog 59 args res := by
 unfold s4C at h; split at h
 ·simp only [Option.some.injEq, Prod.mk.injEq] at h
  obtain ⟨rfl, rfl⟩ := h; obtain ⟨h0, _⟩ := hl
  exact s4o _ _ _ _ _ _ h0
 ·cases h
theorem hX25 : ConOK Try.prog X25 := addCall_ok s3C_ok (addCall_ok s4C_ok hX23)
noncomputable def s6L_c0 (T : Tb) (i : Int) := T.x2.getD i.toNat 0 == T.x2.getD i.toNat 0 && (T.x3.getD i.toNat 0 == T.x3.getD i.toNat 0 && true)
noncomputable def s6L_c1 (T : Tb) (i : Int) := T.x5.getD i.toNat 0 == T.x5.getD i.toNat 0 && (T.x6.getD i.toNat 0 == T.x6.getD i.toNat 0 && true)
noncomputable def s6L_c2 (T : Tb) (i : Int) := T.x4.getD i.toNat 0 == T.x4.getD i.toNat 0 && (s6L_c1 T i)
noncomputable def s6L_c3 (T : Tb) (i : Int) := T.x1.getD i.toNat 0 == T.x1.getD i.toNat 0 && (s6L_c0 T i) && (s6L_c2 T i)
noncomputable def s6L_T (T : Tb) (o : Bool) (i : Int) : Tr (Ex × Cs) := .d (cmpI .lss i ↑(T.x1.length)) (fun e0 => .s (decide (i < ↑(T.x1.length)) = true) (.s (decide (0 ≤ i) = true) (.s (decide (i < ↑(T.x1.length)) = true) (.s (decide (0 ≤ i) = true) (.d (!(s6L_c3 T i)) (fun e1 => .lf (Ex.ret, (s6T T (false) (i)))) (fun e1 => .lf (Ex.normal, (s6T T (o) (opI .add .i64 i 1))))))))) (fun e0 => .lf (Ex.exit 0, (s6T T (o) (i))))
theorem s6L_L (T : Tb) (o : Bool) (i : Int) : Leaves (roundT Try.prog (X25) 100000 (loopAt Try.prog 16 0) [[2, 3, 4, 5]] [(64, 64), (96, 96)] (s6T T o i)) (s6L_T T o i) [] [] := by refine ⟨fun _ => ⟨fun _ => ?_, fun _ => ?_⟩, fun _ => ?_⟩ <;> (show _ = _; kernel_rfl)
theorem s6L_step (T : Tb) (o : Bool) (i : Int) (σ : St) (e : Ex) (h0 : At (RG Try.prog (loopAt Try.prog 16 0) e σ) (s6L_T T o i) [true, true] True) (h1 : At (RG Try.prog (loopAt Try.prog 16 0) e σ) (s6L_T T o i) [true, false] True) (h2 : At (RG Try.prog (loopAt Try.prog 16 0) e σ) (s6L_T T o i) [false] True) : Runs Try.prog (CallsD Try.prog) (.rounds (loopAt Try.prog 16 0)) (s6T T o i).abs e σ := tree_rounds (hX25) (s6L_L T o i) ⟨fun e0 => ⟨fun e1 => h0 e0 e1, fun e1 => h1 e0 e1⟩, fun e0 => h2 e0⟩
noncomputable def s6F_T (T : Tb) (i : Int) : Tr D := .d (cmpI .neq T.n T.n) (fun e0 => .p (.c 30) (.lf (bo false))) (fun e0 => .p (.c 4) (.s (T.ks.length ≤ 200) (.d (!eqB T.ks T.ks) (fun e1 => .p (.c 24) (.lf (bo false))) (fun e1 => .p (.c 5) (.d (cmpI .neq ↑(T.x1.length) ↑(T.x1.length)) (fun e2 => .p (.c 17) (.lf (bo false))) (fun e2 => .p (.c 16) (.s (T.nx = T.nx ∧ T.us = T.us ∧ T.fr = T.fr ∧ T.nx.length ≤ 200 ∧ T.us.length ≤ 200) (.s (T.kx = T.kx ∧ T.px = T.px ∧ T.ux = T.ux ∧ T.kx.length ≤ 200) (.s (T.ps.length ≤ 200 ∧ T.no.length ≤ 200) (.d (!sm15 T.ps T.no T.h T.t T.ps T.no T.h T.t) (fun e3 => .lf (bo false)) (fun e3 => .p (.l [[2, 3, 4, 5]] [(64, 64), (96, 96)] (s6T T false 0) (Ex.exit 0) (s6T T false i)) (.s (Runs Try.prog (CallsD Try.prog) (.code (.loop (loopAt Try.prog 16 0))) (s6T T false 0).abs (Ex.exit 0) (s6T T false i).abs) (.k ((s6T T false 0 = s6T T false 0)) rfl (.lf (bo true)))))))))))))))
theorem s6F_L (T : Tb) (i : Int) : Leaves (fun l => fnX Try.prog (X25) 100000 l 16 [T.d, T.d]) (s6F_T T i) [] [] := by refine ⟨fun _ => ?_, fun _ => ⟨fun _ => ?_, fun _ => ⟨fun _ => ?_, fun _ => ⟨fun _ => ?_, fun _ => ?_⟩⟩⟩⟩ <;> (show _ = _; kernel_rfl)
theorem s6F_calls (T : Tb) (i : Int) (res : D) (h0 : At (fun r => res = r) (s6F_T T i) [true] True) (h1 : At (fun r => res = r) (s6F_T T i) [false, true] True) (h2 : At (fun r => res = r) (s6F_T T i) [false, false, true] True) (h3 : At (fun r => res = r) (s6F_T T i) [false, false, false, true] True) (h4 : At (fun r => res = r) (s6F_T T i) [false, false, false, false] True) : CallsD Try.prog 16 [T.d, T.d] res := tree_calls (hX25) (s6F_L T i) ⟨fun e0 => h0 e0, fun e0 => ⟨fun e1 => h1 e0 e1, fun e1 => ⟨fun e2 => h2 e0 e1 e2, fun e2 => ⟨fun e3 => h3 e0 e1 e2 e3, fun e3 => h4 e0 e1 e2 e3⟩⟩⟩⟩
theorem s6_ok (T : Tb) (w : twS T) : CallsD Try.prog 16 [T.d, T.d] (bo true) := by
 obtain ⟨h1, h2, h3, h4, h5, h6, h7⟩ := w
 obtain ⟨k1, k2, k3, k4, k5, k6⟩ := h2
 obtain ⟨c1, c2, c3⟩ := h5
 have r : Runs Try.prog (CallsD Try.prog) (.rounds (loopAt Try.prog 16 0)) (s6T T false 0).abs (.exit 0) (s6T T false T.x1.length).abs := by
  refine scan_all (fun i => s6T T false (i : Int)) T.x1.length (fun _ => True) (fun i hi _ σ e hr => ?_) ?_ T.x1.length 0 (by omega) (fun _ _ _ => trivial)
  ·refine s6L_step T false i σ e ?_ ?_ ?_ <;> dsimp only [At, Tr.q, RG, s6L_T]
   ·intro _ g; simp [s6L_c3, s6L_c2, s6L_c1, s6L_c0] at g
   ·intro _ _; rw [succL hi (by omega)]; exact ⟨⟨(natLt hi).1, (natLt hi).2, (natLt hi).1, (natLt hi).2, trivial⟩, hr⟩
   ·intro g; rw [lss_f] at g; omega
  ·refine s6L_step T false T.x1.length _ _ ?_ ?_ ?_ <;> dsimp only [At, Tr.q, RG, s6L_T]
   ·intro g; rw [lss_t] at g; omega
   ·intro g; rw [lss_t] at g; omega
   ·intro _; exact ⟨trivial, rfl, rfl⟩
 refine s6F_calls T T.x1.length _ ?_ ?_ ?_ ?_ ?_ <;> dsimp only [At, Tr.q, s6F_T]
 ·intro g; rw [neqs] at g; cases g
 ·intro _ g; simp [eqB] at g
 ·intro _ _ g; rw [neqs] at g; cases g
 ·intro _ _ _ g; simp [sm15, eqB] at g
 ·intro _ _ _ _; exact ⟨⟨loop_of_rounds r, ⟨h6, h7⟩, ⟨rfl, rfl, rfl, by omega⟩, ⟨rfl, rfl, rfl, h3, h4⟩, h1, trivial⟩, rfl⟩
theorem okT_twS {T : Tb} (h : okT T) : twS T := by
 obtain ⟨d8, _, _, d1, d2, d3, d4, d5, d6, d7⟩ := h
 exact ⟨d6, d4, d1, d2, d5, d7, d3⟩
theorem t0_twS : twS t0 := by
 refine ⟨?_, ⟨?_, ?_, ?_, ?_, ?_, ?_⟩, ?_, ?_, ⟨?_, ?_, ?_⟩, ?_, ?_⟩ <;> simp [t0]
/-- A contract of a function of two tables. -/
def con2T (f : Tb → Tb → D × List Prop) : List D → Option (D × List Prop)
 | [d, e] => match tbOf d, tbOf e with
  | some T, some U => some (f T U)
  | _, _ => none
 | _ => none
theorem con2T_ok {f : Tb → Tb → D × List Prop} {g : FuncId} (hf : ∀ T U, AllP (f T U).2 → CallsD Try.prog g [T.d, U.d] (f T U).1) (args res l) (h : con2T f args = some (res, l)) (hl : AllP l) : CallsD Try.prog g args res := by
 unfold con2T at h
 split at h
 next d e =>
  split at h
  next T U ht hu =>
   simp only [Option.some.injEq] at h
   have e1 := tbOf_d ht
   have e2 := tbOf_d hu
   subst e1 e2
   have := hf T U (by rw [h]; exact hl)
   rw [h] at this; exact this
  ·cases h
 ·cases h
def smC : List D → Option (D × List Prop) := con2T fun T U => (bo true, [T = U, twS T])
theorem smC_ok (args res l) (h : smC args = some (res, l)) (hl : AllP l) : CallsD Try.prog 16 args res := con2T_ok (f := fun T U => (bo true, [T = U, twS T])) (fun T U h => by obtain ⟨rfl, w, _⟩ := h; exact s6_ok T w) args res l h hl
noncomputable def X26 : Contracts := addCon 16 (.call smC) X25
theorem hX26 : ConOK Try.prog X26 := addCall_ok smC_ok hX25
end TableS
end

section
namespace TableS
open Go Go.Dam Go.Proofs
set_option maxRecDepth 1000000
def bkS (b r p v q t n : Int) : Prop := bkV b r p v q = 0 ∧ (0 ≤ t ∧ t < 18446744073709551616) ∧ 0 ≤ n ∧ n < 18446744073709551616
theorem bkV_E {b r p v q : Int} (h : bkV b r p v q = 0) : MeterS.bkE b r p v q = 0 := by
 unfold bkV at h; split at h
 ·have hl : MeterS.limE b r p = 0 := by unfold MeterS.limE; rw [if_neg (by omega)]
  unfold MeterS.bkE; rw [if_pos ⟨hl, by omega⟩]
 ·cases h
theorem fiA_ok (b r p v q t n : Int) (h : bkS b r p v q t n) : CallsD Try.prog 103 [.agg [i64 b, i64 r, i64 p, i64 v, i64 q, u64 t], u64 n] (.agg [i64 b, i64 r, i64 p, i64 (MeterS.fiV b r p v q t n), i64 (MeterS.fiQ b r p v q t n), u64 (MeterS.fiT t n)]) :=
 MeterS.bfillA_ok b r p v q t n (bkV_E h.1) h.2.1.1 h.2.1.2 h.2.2.1 h.2.2.2
theorem fiB_ok (b r p v q t n : Int) (h : bkS b r p v q t n) : CallsD Try.prog 104 [.agg [i64 b, i64 r, i64 p, i64 v, i64 q, u64 t], u64 n] (.agg [i64 b, i64 r, i64 p, i64 (MeterS.fiV b r p v q t n), i64 (MeterS.fiQ b r p v q t n), u64 (MeterS.fiT t n)]) :=
 MeterS.bfillB_ok b r p v q t n (bkV_E h.1) h.2.1.1 h.2.1.2 h.2.2.1 h.2.2.2
def fiC : List D → Option (D × List Prop)
 | [.agg [.v (.int .i64 b), .v (.int .i64 r), .v (.int .i64 p), .v (.int .i64 v), .v (.int .i64 q), .v (.int .u64 t)], .v (.int .u64 n)] => some (.agg [i64 b, i64 r, i64 p, i64 (MeterS.fiV b r p v q t n), i64 (MeterS.fiQ b r p v q t n), u64 (MeterS.fiT t n)], [bkS b r p v q t n])
 | _ => none
theorem fiAC_ok (args res l) (h : fiC args = some (res, l)) (hl : AllP l) : CallsD Try.prog 103 args res := by
 unfold fiC at h; split at h
 ·simp only [Option.some.injEq, Prod.mk.injEq] at h
  obtain ⟨rfl, rfl⟩ := h; obtain ⟨h0, _⟩ := hl
  exact fiA_ok _ _ _ _ _ _ _ h0
 ·cases h
theorem fiBC_ok (args res l) (h : fiC args = some (res, l)) (hl : AllP l) : CallsD Try.prog 104 args res := by
 unfold fiC at h; split at h
 ·simp only [Option.some.injEq, Prod.mk.injEq] at h
  obtain ⟨rfl, rfl⟩ := h; obtain ⟨h0, _⟩ := hl
  exact fiB_ok _ _ _ _ _ _ _ h0
 ·cases h
noncomputable def X27 : Contracts := addCon 103 (.call fiC) (addCon 104 (.call fiC) X26)
theorem hX27 : ConOK Try.prog X27 := addCall_ok fiAC_ok (addCall_ok fiBC_ok hX26)
end TableS
end
