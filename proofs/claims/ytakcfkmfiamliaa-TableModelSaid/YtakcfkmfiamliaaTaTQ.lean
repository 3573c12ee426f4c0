/- What the functions compute, and the law. No condition. -/
import Derived.Test.YtakcfkmfiamliaaTaTK
set_option linter.unusedSectionVars false
set_option linter.unusedVariables false
set_option linter.unusedSimpArgs false
section
namespace TableS
open Go Go.Dam Go.Proofs
set_option maxRecDepth 1000000
noncomputable def akL_T (r : Int) (n : Int) (i : Int) (k : Nat) (xs : List Int) (us : List Bool) (f : Int) (ys : List Bool) : Tr (Ex × Cs) := .d (cmpI .neq i (-1)) (fun e0 => .d (cmpI .lss i 0) (fun e1 => .p (.c 6) (.lf (Ex.ret, (akT (8) (n) (i) (k) (xs) (us) (f) (ys))))) (fun e1 => .p (.c 1) (.d (cmpI .geq i n) (fun e2 => .p (.c 3) (.lf (Ex.ret, (akT (8) (n) (i) (k) (xs) (us) (f) (ys))))) (fun e2 => .p (.c 2) (.s (decide (i < ↑k) = true) (.s (decide (0 ≤ i) = true) (.s (i.toNat < ys.length) (.d (ys.getD i.toNat false) (fun e3 => .lf (Ex.ret, (akT (8) (n) (i) (k) (xs) (us) (f) (ys)))) (fun e3 => .s (decide (i < ↑k) = true) (.s (decide (0 ≤ i) = true) (.s (ys.length = ys.length) (.s (i.toNat < ys.length) (.s (decide (i < ↑(xs.length)) = true) (.s (decide (0 ≤ i) = true) (.lf (Ex.normal, (akT (r) (n) (xs.getD i.toNat 0) (k) (xs) (us) (f) (ys.set i.toNat true)))))))))))))))))) (fun e0 => .lf (Ex.exit 0, (akT (r) (n) (i) (k) (xs) (us) (f) (ys))))
theorem akL_L (r n i : Int) (k : Nat) (xs : List Int) (us : List Bool) (f : Int) (ys : List Bool) : Leaves (roundT Try.prog (X1) 100000 (loopAt Try.prog 61 0) [[1, 2, 3, 4, 5]] [(32, 32), (832, 832)] (akT r n i k xs us f ys)) (akL_T r n i k xs us f ys) [] [] := by refine ⟨fun _ => ⟨fun _ => ?_, fun _ => ⟨fun _ => ?_, fun _ => ⟨fun _ => ?_, fun _ => ?_⟩⟩⟩, fun _ => ?_⟩ <;> (show _ = _; kernel_rfl)
theorem akL_step (r : Int) (n : Int) (i : Int) (k : Nat) (xs : List Int) (us : List Bool) (f : Int) (ys : List Bool) (σ : St) (e : Ex) (h0 : At (RG Try.prog (loopAt Try.prog 61 0) e σ) (akL_T r n i k xs us f ys) [true, true] True) (h1 : At (RG Try.prog (loopAt Try.prog 61 0) e σ) (akL_T r n i k xs us f ys) [true, false, true] True) (h2 : At (RG Try.prog (loopAt Try.prog 61 0) e σ) (akL_T r n i k xs us f ys) [true, false, false, true] True) (h3 : At (RG Try.prog (loopAt Try.prog 61 0) e σ) (akL_T r n i k xs us f ys) [true, false, false, false] True) (h4 : At (RG Try.prog (loopAt Try.prog 61 0) e σ) (akL_T r n i k xs us f ys) [false] True) : Runs Try.prog (CallsD Try.prog) (.rounds (loopAt Try.prog 61 0)) (akT r n i k xs us f ys).abs e σ := tree_rounds (hX1) (akL_L r n i k xs us f ys) ⟨fun e0 => ⟨fun e1 => h0 e0 e1, fun e1 => ⟨fun e2 => h1 e0 e1 e2, fun e2 => ⟨fun e3 => h2 e0 e1 e2 e3, fun e3 => h3 e0 e1 e2 e3⟩⟩⟩, fun e0 => h4 e0⟩
noncomputable def akL2_c0 (r : Int) (k : Nat) (us0 : List Bool) (m i : Int) (xs : List Int) (us : List Bool) (f : Int) (ys : List Bool) := akT2 (r) (k) (us0) (m) (opI .add .i64 i 1) (xs) (us) (f) (ys)
noncomputable def akL2_T (r : Int) (k : Nat) (us0 : List Bool) (m : Int) (i : Int) (xs : List Int) (us : List Bool) (f : Int) (ys : List Bool) : Tr (Ex × Cs) := .d (cmpI .lss i m) (fun e0 => .s (decide (i < ↑(us0.length)) = true) (.s (decide (0 ≤ i) = true) (.s (decide (i < ↑k) = true) (.s (decide (0 ≤ i) = true) (.s (i.toNat < ys.length) (.d (!ys.getD i.toNat false) (fun e1 => .p (.c 2) (.lf (Ex.ret, (akT2 (8) (k) (us0) (m) (i) (xs) (us) (f) (ys))))) (fun e1 => .p (.c 0) (.d (us0.getD i.toNat false) (fun e2 => .p (.c 5) (.s (decide (i < ↑(xs.length)) = true) (.s (decide (0 ≤ i) = true) (.d (cmpI .neq (xs.getD i.toNat 0) (-1)) (fun e3 => .lf (Ex.ret, (akT2 (8) (k) (us0) (m) (i) (xs) (us) (f) (ys)))) (fun e3 => .lf (Ex.normal, (akL2_c0 r k us0 m i xs us f ys))))))) (fun e2 => .p (.c 6) (.lf (Ex.normal, (akL2_c0 r k us0 m i xs us f ys)))))))))))) (fun e0 => .lf (Ex.exit 2, (akT2 (r) (k) (us0) (m) (i) (xs) (us) (f) (ys))))
theorem akL2_L (r : Int) (k : Nat) (us0 : List Bool) (m i : Int) (xs : List Int) (us : List Bool) (f : Int) (ys : List Bool) : Leaves (roundT Try.prog (X2) 100000 (loopAt Try.prog 61 1) [[1, 2, 4, 53, 54, 55]] [(32, 32), (832, 832)] (akT2 r k us0 m i xs us f ys)) (akL2_T r k us0 m i xs us f ys) [] [] := by refine ⟨fun _ => ⟨fun _ => ?_, fun _ => ⟨fun _ => ⟨fun _ => ?_, fun _ => ?_⟩, fun _ => ?_⟩⟩, fun _ => ?_⟩ <;> (show _ = _; kernel_rfl)
theorem akL2_step (r : Int) (k : Nat) (us0 : List Bool) (m : Int) (i : Int) (xs : List Int) (us : List Bool) (f : Int) (ys : List Bool) (σ : St) (e : Ex) (h0 : At (RG Try.prog (loopAt Try.prog 61 1) e σ) (akL2_T r k us0 m i xs us f ys) [true, true] True) (h1 : At (RG Try.prog (loopAt Try.prog 61 1) e σ) (akL2_T r k us0 m i xs us f ys) [true, false, true, true] True) (h2 : At (RG Try.prog (loopAt Try.prog 61 1) e σ) (akL2_T r k us0 m i xs us f ys) [true, false, true, false] True) (h3 : At (RG Try.prog (loopAt Try.prog 61 1) e σ) (akL2_T r k us0 m i xs us f ys) [true, false, false] True) (h4 : At (RG Try.prog (loopAt Try.prog 61 1) e σ) (akL2_T r k us0 m i xs us f ys) [false] True) : Runs Try.prog (CallsD Try.prog) (.rounds (loopAt Try.prog 61 1)) (akT2 r k us0 m i xs us f ys).abs e σ := tree_rounds (hX2) (akL2_L r k us0 m i xs us f ys) ⟨fun e0 => ⟨fun e1 => h0 e0 e1, fun e1 => ⟨fun e2 => ⟨fun e3 => h1 e0 e1 e2 e3, fun e3 => h2 e0 e1 e2 e3⟩, fun e2 => h3 e0 e1 e2⟩⟩, fun e0 => h4 e0⟩
noncomputable def akF_T (r : Int) (k : Nat) (us0 : List Bool) (m : Int) (i : Int) (xs : List Int) (us : List Bool) (f : Int) (ys : List Bool) : Tr D := .d (cmpI .lss (↑(xs.length)) 1) (fun e0 => .p (.c 6) (.lf (i64 8))) (fun e0 => .p (.c 0) (.d (cmpI .gtr (↑(xs.length)) 16) (fun e1 => .p (.c 4) (.lf (i64 8))) (fun e1 => .p (.c 3) (.d (cmpI .neq ↑(us.length) ↑(xs.length)) (fun e2 => .lf (i64 8)) (fun e2 => .p (.l [[1, 2, 3, 4, 5]] [(32, 32), (832, 832)] (akT 0 (↑(xs.length)) f us.length xs us f us) (Ex.exit 0) (akT 0 (↑(xs.length)) (-1) k xs us f ys)) (.p (.l [[1, 2, 4, 53, 54, 55]] [(32, 32), (832, 832)] (akT2 0 k us (↑(us.length)) 0 xs us f ys) (Ex.exit 2) (akT2 0 k us0 m i xs us f ys)) (.s (us.length ≤ 200) (.s (Runs Try.prog (CallsD Try.prog) (.code (.loop (loopAt Try.prog 61 0))) (akT 0 (↑(xs.length)) f us.length xs us f us).abs (Ex.exit 0) (akT 0 (↑(xs.length)) (-1) k xs us f ys).abs) (.k ((akT 0 (↑(xs.length)) f us.length xs us f us = akT 0 (↑(xs.length)) f us.length xs us f us)) rfl (.s (Runs Try.prog (CallsD Try.prog) (.code (.loop (loopAt Try.prog 61 1))) (akT2 0 k us (↑(us.length)) 0 xs us f ys).abs (Ex.exit 2) (akT2 0 k us0 m i xs us f ys).abs) (.k ((akT2 0 k us (↑(us.length)) 0 xs us f ys = akT2 0 k us (↑(us.length)) 0 xs us f ys)) rfl (.lf (i64 0)))))))))))))
theorem akF_L (r : Int) (k : Nat) (us0 : List Bool) (m i : Int) (xs : List Int) (us : List Bool) (f : Int) (ys : List Bool) : Leaves (fun l => fnX Try.prog (X2) 100000 l 61 [D.agg [ri xs, rb us, i64 f]]) (akF_T r k us0 m i xs us f ys) [] [] := by refine ⟨fun _ => ?_, fun _ => ⟨fun _ => ?_, fun _ => ⟨fun _ => ?_, fun _ => ?_⟩⟩⟩ <;> (show _ = _; kernel_rfl)
theorem akF_calls (r : Int) (k : Nat) (us0 : List Bool) (m i : Int) (xs : List Int) (us : List Bool) (f : Int) (ys : List Bool) (res : D) (h0 : At (fun r => res = r) (akF_T r k us0 m i xs us f ys) [true] True) (h1 : At (fun r => res = r) (akF_T r k us0 m i xs us f ys) [false, true] True) (h2 : At (fun r => res = r) (akF_T r k us0 m i xs us f ys) [false, false, true] True) (h3 : At (fun r => res = r) (akF_T r k us0 m i xs us f ys) [false, false, false] True) : CallsD Try.prog 61 [D.agg [ri xs, rb us, i64 f]] res := tree_calls (hX2) (akF_L r k us0 m i xs us f ys) ⟨fun e0 => h0 e0, fun e0 => ⟨fun e1 => h1 e0 e1, fun e1 => ⟨fun e2 => h2 e0 e1 e2, fun e2 => h3 e0 e1 e2⟩⟩⟩
noncomputable def akR_T (r : Int) (n : Int) (i : Int) (k : Nat) (xs : List Int) (us : List Bool) (f : Int) (ys : List Bool) : Tr D := .d (cmpI .lss (↑(xs.length)) 1) (fun e0 => .p (.c 6) (.lf (i64 8))) (fun e0 => .p (.c 0) (.d (cmpI .gtr (↑(xs.length)) 16) (fun e1 => .p (.c 4) (.lf (i64 8))) (fun e1 => .p (.c 3) (.d (cmpI .neq ↑(us.length) ↑(xs.length)) (fun e2 => .lf (i64 8)) (fun e2 => .p (.l [[1, 2, 3, 4, 5]] [(32, 32), (832, 832)] (akT 0 (↑(xs.length)) f us.length xs us f us) Ex.ret (akT r n i k xs us f ys)) (.s (us.length ≤ 200) (.s (Runs Try.prog (CallsD Try.prog) (.code (.loop (loopAt Try.prog 61 0))) (akT 0 (↑(xs.length)) f us.length xs us f us).abs (Ex.ret) (akT r n i k xs us f ys).abs) (.k ((akT 0 (↑(xs.length)) f us.length xs us f us = akT 0 (↑(xs.length)) f us.length xs us f us)) rfl (.lf (i64 r))))))))))
theorem akR_L (r n i : Int) (k : Nat) (xs : List Int) (us : List Bool) (f : Int) (ys : List Bool) : Leaves (fun l => fnX Try.prog (X2) 100000 l 61 [D.agg [ri xs, rb us, i64 f]]) (akR_T r n i k xs us f ys) [] [] := by refine ⟨fun _ => ?_, fun _ => ⟨fun _ => ?_, fun _ => ⟨fun _ => ?_, fun _ => ?_⟩⟩⟩ <;> (show _ = _; kernel_rfl)
theorem akR_calls (r n i : Int) (k : Nat) (xs : List Int) (us : List Bool) (f : Int) (ys : List Bool) (res : D) (h0 : At (fun r => res = r) (akR_T r n i k xs us f ys) [true] True) (h1 : At (fun r => res = r) (akR_T r n i k xs us f ys) [false, true] True) (h2 : At (fun r => res = r) (akR_T r n i k xs us f ys) [false, false, true] True) (h3 : At (fun r => res = r) (akR_T r n i k xs us f ys) [false, false, false] True) : CallsD Try.prog 61 [D.agg [ri xs, rb us, i64 f]] res := tree_calls (hX2) (akR_L r n i k xs us f ys) ⟨fun e0 => h0 e0, fun e0 => ⟨fun e1 => h1 e0 e1, fun e1 => ⟨fun e2 => h2 e0 e1 e2, fun e2 => h3 e0 e1 e2⟩⟩⟩
noncomputable def akR2_T (r : Int) (k : Nat) (us0 : List Bool) (m : Int) (i : Int) (xs : List Int) (us : List Bool) (f : Int) (ys : List Bool) : Tr D := .d (cmpI .lss (↑(xs.length)) 1) (fun e0 => .p (.c 6) (.lf (i64 8))) (fun e0 => .p (.c 0) (.d (cmpI .gtr (↑(xs.length)) 16) (fun e1 => .p (.c 4) (.lf (i64 8))) (fun e1 => .p (.c 3) (.d (cmpI .neq ↑(us.length) ↑(xs.length)) (fun e2 => .lf (i64 8)) (fun e2 => .p (.l [[1, 2, 3, 4, 5]] [(32, 32), (832, 832)] (akT 0 (↑(xs.length)) f us.length xs us f us) (Ex.exit 0) (akT 0 (↑(xs.length)) (-1) k xs us f ys)) (.p (.l [[1, 2, 4, 53, 54, 55]] [(32, 32), (832, 832)] (akT2 0 k us (↑(us.length)) 0 xs us f ys) Ex.ret (akT2 r k us0 m i xs us f ys)) (.s (us.length ≤ 200) (.s (Runs Try.prog (CallsD Try.prog) (.code (.loop (loopAt Try.prog 61 0))) (akT 0 (↑(xs.length)) f us.length xs us f us).abs (Ex.exit 0) (akT 0 (↑(xs.length)) (-1) k xs us f ys).abs) (.k ((akT 0 (↑(xs.length)) f us.length xs us f us = akT 0 (↑(xs.length)) f us.length xs us f us)) rfl (.s (Runs Try.prog (CallsD Try.prog) (.code (.loop (loopAt Try.prog 61 1))) (akT2 0 k us (↑(us.length)) 0 xs us f ys).abs (Ex.ret) (akT2 r k us0 m i xs us f ys).abs) (.k ((akT2 0 k us (↑(us.length)) 0 xs us f ys = akT2 0 k us (↑(us.length)) 0 xs us f ys)) rfl (.lf (i64 r)))))))))))))
theorem akR2_L (r : Int) (k : Nat) (us0 : List Bool) (m i : Int) (xs : List Int) (us : List Bool) (f : Int) (ys : List Bool) : Leaves (fun l => fnX Try.prog (X2) 100000 l 61 [D.agg [ri xs, rb us, i64 f]]) (akR2_T r k us0 m i xs us f ys) [] [] := by refine ⟨fun _ => ?_, fun _ => ⟨fun _ => ?_, fun _ => ⟨fun _ => ?_, fun _ => ?_⟩⟩⟩ <;> (show _ = _; kernel_rfl)
theorem akR2_calls (r : Int) (k : Nat) (us0 : List Bool) (m i : Int) (xs : List Int) (us : List Bool) (f : Int) (ys : List Bool) (res : D) (h0 : At (fun r => res = r) (akR2_T r k us0 m i xs us f ys) [true] True) (h1 : At (fun r => res = r) (akR2_T r k us0 m i xs us f ys) [false, true] True) (h2 : At (fun r => res = r) (akR2_T r k us0 m i xs us f ys) [false, false, true] True) (h3 : At (fun r => res = r) (akR2_T r k us0 m i xs us f ys) [false, false, false] True) : CallsD Try.prog 61 [D.agg [ri xs, rb us, i64 f]] res := tree_calls (hX2) (akR2_L r k us0 m i xs us f ys) ⟨fun e0 => h0 e0, fun e0 => ⟨fun e1 => h1 e0 e1, fun e1 => ⟨fun e2 => h2 e0 e1 e2, fun e2 => h3 e0 e1 e2⟩⟩⟩
/-- How many places have not been seen. -/
def unseen : List Bool → Nat
 | [] => 0
 | b :: l => (bif b then 0 else 1) + unseen l
theorem unseen_set : ∀ (ys : List Bool) (i : Nat), i < ys.length → ys.getD i false = false → unseen (ys.set i true) + 1 = unseen ys
 | [], i, h, _ => by simp at h
 | b :: l, 0, _, hb => by
  simp at hb; subst hb
  simp [unseen]; omega
 | b :: l, i + 1, h, hb => by
  have := unseen_set l i (by simpa using h) (by simpa using hb)
  simp only [List.set_cons_succ, unseen]; omega
theorem unseen_le : ∀ ys : List Bool, unseen ys ≤ ys.length
 | [] => Nat.le_refl _
 | b :: l => by have := unseen_le l; cases b <;> simp [unseen] <;> omega
/-- What is seen on the way from a place: it leads out, or comes to a place that was seen: none. -/
def walkA (nx : List Int) : Nat → Int → List Bool → Option (List Bool)
 | 0, _, _ => none
 | d + 1, i, ys => if i = -1 then some ys else if i < 0 ∨ (nx.length : Int) ≤ i ∨ ys.getD i.toNat false = true then none else walkA nx d (nx.getD i.toNat 0) (ys.set i.toNat true)
theorem walkA_len {nx : List Int} : ∀ {d : Nat} {i : Int} {ys ys' : List Bool}, walkA nx d i ys = some ys' → ys'.length = ys.length
 | 0, _, _, _, h => by cases h
 | d + 1, i, ys, ys', h => by
  simp only [walkA] at h
  split at h
  ·simp only [Option.some.injEq] at h; subst h; rfl
  ·split at h
   ·cases h
   ·have := walkA_len h; simpa using this
theorem ak_run (xs : List Int) (us : List Bool) (f : Int) : ∀ (d : Nat) (i : Int) (ys : List Bool), ys.length = xs.length → unseen ys < d →
  match walkA xs d i ys with
  | some ys' => Runs Try.prog (CallsD Try.prog) (.rounds (loopAt Try.prog 61 0)) (akT 0 xs.length i xs.length xs us f ys).abs (.exit 0) (akT 0 xs.length (-1) xs.length xs us f ys').abs
  | none => ∃ (i' : Int) (ys' : List Bool), Runs Try.prog (CallsD Try.prog) (.rounds (loopAt Try.prog 61 0)) (akT 0 xs.length i xs.length xs us f ys).abs .ret (akT 8 xs.length i' xs.length xs us f ys').abs := by
 intro d
 induction d with
 | zero => intro i ys _ h; omega
 | succ d ih =>
  intro i ys hl hd
  simp only [walkA]
  by_cases c1 : i = -1
  ·subst c1
   simp only [if_true]
   refine akL_step 0 xs.length (-1) xs.length xs us f ys _ _ ?_ ?_ ?_ ?_ ?_ <;> dsimp only [At, Tr.q, RG, akL_T]
   ·intro g; rw [neq_t] at g; exact absurd rfl g
   ·intro g; rw [neq_t] at g; exact absurd rfl g
   ·intro g; rw [neq_t] at g; exact absurd rfl g
   ·intro g; rw [neq_t] at g; exact absurd rfl g
   ·intro _; exact ⟨trivial, rfl, rfl⟩
  ·rw [if_neg c1]
   by_cases c2 : i < 0 ∨ (xs.length : Int) ≤ i ∨ ys.getD i.toNat false = true
   ·rw [if_pos c2]
    refine ⟨i, ys, akL_step 0 xs.length i xs.length xs us f ys _ _ ?_ ?_ ?_ ?_ ?_⟩
    ·intro _ _; exact ⟨trivial, rfl, rfl⟩
    ·intro _ _ _; exact ⟨trivial, rfl, rfl⟩
    ·intro _ g1 g2 _
     rw [lss_f] at g1; rw [geq_f] at g2
     exact ⟨⟨by omega, by simpa using g1, by simpa using g2, trivial⟩, rfl, rfl⟩
    ·intro _ g1 g2 g3
     rw [lss_f] at g1; rw [geq_f] at g2
     rcases c2 with c | c | c
     ·omega
     ·omega
     ·rw [c] at g3; cases g3
    ·intro g; rw [neq_f] at g; exact absurd g c1
   ·rw [if_neg c2]
    have hi0 : 0 ≤ i := by omega
    have hi1 : i < (xs.length : Int) := by omega
    have hi2 : ys.getD i.toNat false = false := by
     cases e : ys.getD i.toNat false with
     | false => rfl
     | true => exact absurd (.inr (.inr e)) c2
    have hu := unseen_set ys i.toNat (by omega) hi2
    have r := ih (xs.getD i.toNat 0) (ys.set i.toNat true) (by simpa using hl) (by omega)
    have d0 : decide (0 ≤ i) = true := by simpa using hi0
    have d1 : decide (i < (xs.length : Int)) = true := by simpa using hi1
    have step : ∀ (σ : St) (e : Ex), Runs Try.prog (CallsD Try.prog) (.rounds (loopAt Try.prog 61 0)) (akT 0 xs.length (xs.getD i.toNat 0) xs.length xs us f (ys.set i.toNat true)).abs e σ → Runs Try.prog (CallsD Try.prog) (.rounds (loopAt Try.prog 61 0)) (akT 0 xs.length i xs.length xs us f ys).abs e σ := by
     intro σ e hr
     refine akL_step 0 xs.length i xs.length xs us f ys σ e ?_ ?_ ?_ ?_ ?_ <;> dsimp only [At, Tr.q, RG, akL_T]
     ·intro _ g; rw [lss_t] at g; omega
     ·intro _ _ g; rw [geq_t] at g; omega
     ·intro _ _ _ g; rw [hi2] at g; cases g
     ·intro _ _ _ _
      exact ⟨⟨d0, d1, by omega, rfl, d0, d1, by omega, d0, d1, trivial⟩, hr⟩
     ·intro g; rw [neq_f] at g; exact absurd g c1
    cases hw : walkA xs d (xs.getD i.toNat 0) (ys.set i.toNat true) with
    | some ys' => rw [hw] at r; exact step _ _ r
    | none =>
     rw [hw] at r
     obtain ⟨i', ys', r⟩ := r
     exact ⟨i', ys', step _ _ r⟩
/-- Is an arena right, by the code? -/
def akBad (nx : List Int) (us ys : List Bool) (i : Nat) : Bool := !ys.getD i false || (us.getD i false && nx.getD i 0 != -1)
def akV (nx : List Int) (us : List Bool) (f : Int) : Int :=
 if 1 ≤ nx.length ∧ nx.length ≤ 16 ∧ us.length = nx.length then match walkA nx (nx.length + 1) f us with
  | some ys => if findI (akBad nx us ys) nx.length 0 < 0 then 0 else 8
  | none => 8
 else 8
theorem ak_ok (xs : List Int) (us : List Bool) (f : Int) (h : us.length ≤ 200) : CallsD Try.prog 61 [.agg [ri xs, rb us, i64 f]] (i64 (akV xs us f)) := by
 unfold akV
 by_cases c : 1 ≤ xs.length ∧ xs.length ≤ 16 ∧ us.length = xs.length
 ·rw [if_pos c]
  obtain ⟨c1, c2, c3⟩ := c
  have r := ak_run xs us f (xs.length + 1) f us c3 (by have := unseen_le us; omega)
  cases hw : walkA xs (xs.length + 1) f us with
  | none =>
   rw [hw] at r
   obtain ⟨i', ys', r⟩ := r
   refine akR_calls 8 xs.length i' xs.length xs us f ys' _ ?_ ?_ ?_ ?_ <;> dsimp only [At, Tr.q, akR_T]
   ·intro g; rw [lss_t] at g; omega
   ·intro _ g; rw [gtr_t] at g; omega
   ·intro _ _ g; rw [neq_t] at g; omega
   ·intro _ _ _
    have r' := loop_of_rounds r
    refine ⟨⟨?_, h, trivial⟩, rfl⟩
    rw [c3]; exact r'
  | some ys =>
   rw [hw] at r
   have hl := walkA_len hw
   have r' := loop_of_rounds r
   simp only
   refine look_for (b := loopAt Try.prog 61 1) (fun i => akT2 0 xs.length us us.length (i : Int) xs us f ys) xs.length (akBad xs us ys) (fun v => CallsD Try.prog 61 [.agg [ri xs, rb us, i64 f]] (i64 (if v < 0 then 0 else 8))) ?_ ?_ ?_
   ·intro i hi hp σ e hr
    have n1 := natLt hi
    have n2 := natLt (n := us.length) (i := i) (by omega)
    simp only [akBad, Bool.or_eq_false_iff, Bool.not_eq_false'] at hp
    refine akL2_step 0 xs.length us us.length i xs us f ys σ e ?_ ?_ ?_ ?_ ?_ <;> dsimp only [At, Tr.q, RG, akL2_T]
    ·intro _ g; rw [Int.toNat_natCast, hp.1] at g; cases g
    ·intro _ _ g1 g2
     rw [Int.toNat_natCast] at g1 g2
     rw [neq_t] at g2
     have := hp.2
     rw [g1] at this; simp at this; exact absurd this (by simpa using g2)
    ·intro _ _ _ _
     unfold akL2_c0; rw [succL hi (by omega)]
     exact ⟨⟨n1.1, n1.2, by rw [Int.toNat_natCast]; omega, n1.1, n1.2, n2.1, n2.2, trivial⟩, hr⟩
    ·intro _ _ _
     unfold akL2_c0; rw [succL hi (by omega)]
     exact ⟨⟨by rw [Int.toNat_natCast]; omega, n1.1, n1.2, n2.1, n2.2, trivial⟩, hr⟩
    ·intro g; rw [lss_f] at g; omega
   ·intro hr
    refine akF_calls 0 xs.length us us.length us.length xs us f ys _ ?_ ?_ ?_ ?_ <;> dsimp only [At, Tr.q, akF_T]
    ·intro g; rw [lss_t] at g; omega
    ·intro _ g; rw [gtr_t] at g; omega
    ·intro _ _ g; rw [neq_t] at g; omega
    ·intro _ _ _
     refine ⟨⟨loop_of_rounds (hr _ _ ?_), ?_, h, trivial⟩, rfl⟩
     ·rw [← c3]
      refine akL2_step 0 us.length us us.length us.length xs us f ys _ _ ?_ ?_ ?_ ?_ ?_ <;> dsimp only [At, Tr.q, RG, akL2_T]
      ·intro g; rw [lss_t] at g; omega
      ·intro g; rw [lss_t] at g; omega
      ·intro g; rw [lss_t] at g; omega
      ·intro g; rw [lss_t] at g; omega
      ·intro _; exact ⟨trivial, rfl, rfl⟩
     ·rw [c3]; exact r'
   ·intro j hj hp hr
    have n1 := natLt hj
    have n2 := natLt (n := us.length) (i := j) (by omega)
    refine akR2_calls 8 xs.length us us.length j xs us f ys _ ?_ ?_ ?_ ?_ <;> dsimp only [At, Tr.q, akR2_T]
    ·intro g; rw [lss_t] at g; omega
    ·intro _ g; rw [gtr_t] at g; omega
    ·intro _ _ g; rw [neq_t] at g; omega
    ·intro _ _ _
     refine ⟨⟨loop_of_rounds (hr _ _ ?_), ?_, h, trivial⟩, by rw [if_neg (by omega)]⟩
     ·refine akL2_step 0 xs.length us us.length j xs us f ys _ _ ?_ ?_ ?_ ?_ ?_ <;> dsimp only [At, Tr.q, RG, akL2_T]
      ·intro _ _; exact ⟨⟨by rw [Int.toNat_natCast]; omega, n1.1, n1.2, n2.1, n2.2, trivial⟩, rfl, rfl⟩
      ·intro _ _ _ _; exact ⟨⟨n1.1, n1.2, by rw [Int.toNat_natCast]; omega, n1.1, n1.2, n2.1, n2.2, trivial⟩, rfl, rfl⟩
      ·intro _ g1 g2 g3
       rw [Int.toNat_natCast] at g1 g2 g3
       rw [neq_f] at g3
       simp only [akBad, g2, g3, Bool.or_eq_true] at hp
       rcases hp with hp | hp
       ·rw [hp] at g1; cases g1
       ·simp at hp
      ·intro _ g1 g2
       rw [Int.toNat_natCast] at g1 g2
       simp only [akBad, g2, Bool.false_and, Bool.or_false] at hp
       rw [hp] at g1; cases g1
      ·intro g; rw [lss_f] at g; omega
     ·rw [c3]; exact r'
 ·rw [if_neg c]
  refine akF_calls 0 0 [] 0 0 xs us f [] _ ?_ ?_ ?_ ?_ <;> dsimp only [At, Tr.q, akF_T]
  ·intro _; exact ⟨trivial, rfl⟩
  ·intro _ _; exact ⟨trivial, rfl⟩
  ·intro _ _ _; exact ⟨trivial, rfl⟩
  ·intro g1 g2 g3
   rw [lss_f] at g1; rw [gtr_f] at g2; rw [neq_f] at g3; omega
end TableS
end

section
namespace TableS
open Go Go.Dam Go.Proofs
set_option maxRecDepth 1000000
noncomputable def lcL_T (r : Int) (n : Int) (la : Int) (i : Int) (k : Nat) (ps : List Int) (nx : List Int) (h : Int) (t : Int) (ys : List Bool) : Tr (Ex × Cs) := .d (cmpI .neq i (-1)) (fun e0 => .d (cmpI .lss i 0) (fun e1 => .p (.c 13) (.lf (Ex.ret, (lcT (8) (n) (la) (i) (k) (ps) (nx) (h) (t) (ys))))) (fun e1 => .p (.c 1) (.d (cmpI .geq i n) (fun e2 => .p (.c 10) (.lf (Ex.ret, (lcT (8) (n) (la) (i) (k) (ps) (nx) (h) (t) (ys))))) (fun e2 => .p (.c 2) (.s (decide (i < ↑k) = true) (.s (decide (0 ≤ i) = true) (.s (i.toNat < ys.length) (.d (ys.getD i.toNat false) (fun e3 => .p (.c 6) (.lf (Ex.ret, (lcT (8) (n) (la) (i) (k) (ps) (nx) (h) (t) (ys))))) (fun e3 => .p (.c 5) (.s (decide (i < (ps.length : Int)) = true) (.s (decide (0 ≤ i) = true) (.d (cmpI .neq (ps.getD i.toNat 0) la) (fun e4 => .lf (Ex.ret, (lcT (8) (n) (la) (i) (k) (ps) (nx) (h) (t) (ys)))) (fun e4 => .s (decide (i < ↑k) = true) (.s (decide (0 ≤ i) = true) (.s (ys.length = ys.length) (.s (i.toNat < ys.length) (.s (decide (i < ↑(nx.length)) = true) (.s (decide (0 ≤ i) = true) (.lf (Ex.normal, (lcT (r) (n) (i) (nx.getD i.toNat 0) (k) (ps) (nx) (h) (t) (ys.set i.toNat true)))))))))))))))))))))) (fun e0 => .lf (Ex.exit 0, (lcT (r) (n) (la) (i) (k) (ps) (nx) (h) (t) (ys))))
theorem lcL_L (r n la i : Int) (k : Nat) (ps nx : List Int) (h t : Int) (ys : List Bool) : Leaves (roundT Try.prog (X2) 100000 (loopAt Try.prog 79 0) [[1, 2, 3, 4, 5, 6]] [(32, 32), (832, 832)] (lcT r n la i k ps nx h t ys)) (lcL_T r n la i k ps nx h t ys) [] [] := by refine ⟨fun _ => ⟨fun _ => ?_, fun _ => ⟨fun _ => ?_, fun _ => ⟨fun _ => ?_, fun _ => ⟨fun _ => ?_, fun _ => ?_⟩⟩⟩⟩, fun _ => ?_⟩ <;> (show _ = _; kernel_rfl)
theorem lcL_step (r : Int) (n : Int) (la : Int) (i : Int) (k : Nat) (ps : List Int) (nx : List Int) (h : Int) (t : Int) (ys : List Bool) (σ : St) (e : Ex) (h0 : At (RG Try.prog (loopAt Try.prog 79 0) e σ) (lcL_T r n la i k ps nx h t ys) [true, true] True) (h1 : At (RG Try.prog (loopAt Try.prog 79 0) e σ) (lcL_T r n la i k ps nx h t ys) [true, false, true] True) (h2 : At (RG Try.prog (loopAt Try.prog 79 0) e σ) (lcL_T r n la i k ps nx h t ys) [true, false, false, true] True) (h3 : At (RG Try.prog (loopAt Try.prog 79 0) e σ) (lcL_T r n la i k ps nx h t ys) [true, false, false, false, true] True) (h4 : At (RG Try.prog (loopAt Try.prog 79 0) e σ) (lcL_T r n la i k ps nx h t ys) [true, false, false, false, false] True) (h5 : At (RG Try.prog (loopAt Try.prog 79 0) e σ) (lcL_T r n la i k ps nx h t ys) [false] True) : Runs Try.prog (CallsD Try.prog) (.rounds (loopAt Try.prog 79 0)) (lcT r n la i k ps nx h t ys).abs e σ := tree_rounds (hX2) (lcL_L r n la i k ps nx h t ys) ⟨fun e0 => ⟨fun e1 => h0 e0 e1, fun e1 => ⟨fun e2 => h1 e0 e1 e2, fun e2 => ⟨fun e3 => h2 e0 e1 e2 e3, fun e3 => ⟨fun e4 => h3 e0 e1 e2 e3 e4, fun e4 => h4 e0 e1 e2 e3 e4⟩⟩⟩⟩, fun e0 => h5 e0⟩
noncomputable def lcL2_c0 (r la : Int) (k : Nat) (m i : Int) (ps nx : List Int) (h t : Int) (ys : List Bool) := lcT2 (r) (la) (k) (m) (opI .add .i64 i 1) (ps) (nx) (h) (t) (ys)
noncomputable def lcL2_T (r : Int) (la : Int) (k : Nat) (m : Int) (i : Int) (ps : List Int) (nx : List Int) (h : Int) (t : Int) (ys : List Bool) : Tr (Ex × Cs) := .d (cmpI .lss i m) (fun e0 => .s (decide (i < ↑k) = true) (.s (decide (0 ≤ i) = true) (.s (i.toNat < ys.length) (.d (!ys.getD i.toNat false) (fun e1 => .p (.c 5) (.s (decide (i < (ps.length : Int)) = true) (.s (decide (0 ≤ i) = true) (.d (cmpI .neq (ps.getD i.toNat 0) (-1)) (fun e2 => .p (.c 6) (.lf (Ex.ret, (lcT2 (8) (la) (k) (m) (i) (ps) (nx) (h) (t) (ys))))) (fun e2 => .p (.c 5) (.s (decide (i < ↑(nx.length)) = true) (.s (decide (0 ≤ i) = true) (.d (cmpI .neq (nx.getD i.toNat 0) (-1)) (fun e3 => .lf (Ex.ret, (lcT2 (8) (la) (k) (m) (i) (ps) (nx) (h) (t) (ys)))) (fun e3 => .lf (Ex.normal, (lcL2_c0 r la k m i ps nx h t ys))))))))))) (fun e1 => .p (.c 7) (.lf (Ex.normal, (lcL2_c0 r la k m i ps nx h t ys)))))))) (fun e0 => .lf (Ex.exit 2, (lcT2 (r) (la) (k) (m) (i) (ps) (nx) (h) (t) (ys))))
theorem lcL2_L (r la : Int) (k : Nat) (m i : Int) (ps nx : List Int) (h t : Int) (ys : List Bool) : Leaves (roundT Try.prog (X2) 100000 (loopAt Try.prog 79 1) [[1, 2, 5, 62, 63, 64]] [(32, 32), (832, 832)] (lcT2 r la k m i ps nx h t ys)) (lcL2_T r la k m i ps nx h t ys) [] [] := by refine ⟨fun _ => ⟨fun _ => ⟨fun _ => ?_, fun _ => ⟨fun _ => ?_, fun _ => ?_⟩⟩, fun _ => ?_⟩, fun _ => ?_⟩ <;> (show _ = _; kernel_rfl)
theorem lcL2_step (r : Int) (la : Int) (k : Nat) (m : Int) (i : Int) (ps : List Int) (nx : List Int) (h : Int) (t : Int) (ys : List Bool) (σ : St) (e : Ex) (h0 : At (RG Try.prog (loopAt Try.prog 79 1) e σ) (lcL2_T r la k m i ps nx h t ys) [true, true, true] True) (h1 : At (RG Try.prog (loopAt Try.prog 79 1) e σ) (lcL2_T r la k m i ps nx h t ys) [true, true, false, true] True) (h2 : At (RG Try.prog (loopAt Try.prog 79 1) e σ) (lcL2_T r la k m i ps nx h t ys) [true, true, false, false] True) (h3 : At (RG Try.prog (loopAt Try.prog 79 1) e σ) (lcL2_T r la k m i ps nx h t ys) [true, false] True) (h4 : At (RG Try.prog (loopAt Try.prog 79 1) e σ) (lcL2_T r la k m i ps nx h t ys) [false] True) : Runs Try.prog (CallsD Try.prog) (.rounds (loopAt Try.prog 79 1)) (lcT2 r la k m i ps nx h t ys).abs e σ := tree_rounds (hX2) (lcL2_L r la k m i ps nx h t ys) ⟨fun e0 => ⟨fun e1 => ⟨fun e2 => h0 e0 e1 e2, fun e2 => ⟨fun e3 => h1 e0 e1 e2 e3, fun e3 => h2 e0 e1 e2 e3⟩⟩, fun e1 => h3 e0 e1⟩, fun e0 => h4 e0⟩
noncomputable def lcF_T (r : Int) (la : Int) (k : Nat) (m : Int) (i : Int) (ps : List Int) (nx : List Int) (h : Int) (t : Int) (ys : List Bool) : Tr D := .d (cmpI .lss ((ps.length : Int)) 1) (fun e0 => .p (.c 6) (.lf (i64 8))) (fun e0 => .p (.c 0) (.d (cmpI .gtr ((ps.length : Int)) 16) (fun e1 => .p (.c 4) (.lf (i64 8))) (fun e1 => .p (.c 3) (.d (cmpI .neq ↑(nx.length) (ps.length : Int)) (fun e2 => .lf (i64 8)) (fun e2 => .p (.l [[1, 2, 3, 4, 5, 6]] [(32, 32), (832, 832)] (lcT 0 ((ps.length : Int)) (-1) h ps.length ps nx h t (List.replicate ps.length false)) (Ex.exit 0) (lcT 0 ((ps.length : Int)) la (-1) k ps nx h t ys)) (.p (.l [[1, 2, 5, 62, 63, 64]] [(32, 32), (832, 832)] (lcT2 0 la k (↑k) 0 ps nx h t ys) (Ex.exit 2) (lcT2 0 la k m i ps nx h t ys)) (.s ((ps.length : Int) ≤ 1099511627776) (.s ((ps.length : Int) * 1 ≤ 1099511627776) (.q ((ps.length : Int)) (.s (decide (0 ≤ (ps.length : Int)) = true) (.s (Runs Try.prog (CallsD Try.prog) (.code (.loop (loopAt Try.prog 79 0))) (lcT 0 ((ps.length : Int)) (-1) h ps.length ps nx h t (List.replicate ps.length false)).abs (Ex.exit 0) (lcT 0 ((ps.length : Int)) la (-1) k ps nx h t ys).abs) (.k ((lcT 0 ((ps.length : Int)) (-1) h ps.length ps nx h t (List.replicate ps.length false) = lcT 0 ((ps.length : Int)) (-1) h ps.length ps nx h t (List.replicate ps.length false))) rfl (.s (Runs Try.prog (CallsD Try.prog) (.code (.loop (loopAt Try.prog 79 1))) (lcT2 0 la k (↑k) 0 ps nx h t ys).abs (Ex.exit 2) (lcT2 0 la k m i ps nx h t ys).abs) (.k ((lcT2 0 la k (↑k) 0 ps nx h t ys = lcT2 0 la k (↑k) 0 ps nx h t ys)) rfl (.d (cmpI .neq t la) (fun e3 => .lf (i64 8)) (fun e3 => .lf (i64 0)))))))))))))))))
theorem lcF_L (r la : Int) (k : Nat) (m i : Int) (ps nx : List Int) (h t : Int) (ys : List Bool) : Leaves (fun l => fnX Try.prog (X2) 100000 l 79 [D.agg [ri ps, ri nx, i64 h, i64 t]]) (lcF_T r la k m i ps nx h t ys) [] [] := by refine ⟨fun _ => ?_, fun _ => ⟨fun _ => ?_, fun _ => ⟨fun _ => ?_, fun _ => ⟨fun _ => ?_, fun _ => ?_⟩⟩⟩⟩ <;> (show _ = _; kernel_rfl)
theorem lcF_calls (r la : Int) (k : Nat) (m i : Int) (ps nx : List Int) (h t : Int) (ys : List Bool) (res : D) (h0 : At (fun r => res = r) (lcF_T r la k m i ps nx h t ys) [true] True) (h1 : At (fun r => res = r) (lcF_T r la k m i ps nx h t ys) [false, true] True) (h2 : At (fun r => res = r) (lcF_T r la k m i ps nx h t ys) [false, false, true] True) (h3 : At (fun r => res = r) (lcF_T r la k m i ps nx h t ys) [false, false, false, true] True) (h4 : At (fun r => res = r) (lcF_T r la k m i ps nx h t ys) [false, false, false, false] True) : CallsD Try.prog 79 [D.agg [ri ps, ri nx, i64 h, i64 t]] res := tree_calls (hX2) (lcF_L r la k m i ps nx h t ys) ⟨fun e0 => h0 e0, fun e0 => ⟨fun e1 => h1 e0 e1, fun e1 => ⟨fun e2 => h2 e0 e1 e2, fun e2 => ⟨fun e3 => h3 e0 e1 e2 e3, fun e3 => h4 e0 e1 e2 e3⟩⟩⟩⟩
noncomputable def lcR_T (r : Int) (n : Int) (la : Int) (i : Int) (k : Nat) (ps : List Int) (nx : List Int) (h : Int) (t : Int) (ys : List Bool) : Tr D := .d (cmpI .lss ((ps.length : Int)) 1) (fun e0 => .p (.c 6) (.lf (i64 8))) (fun e0 => .p (.c 0) (.d (cmpI .gtr ((ps.length : Int)) 16) (fun e1 => .p (.c 4) (.lf (i64 8))) (fun e1 => .p (.c 3) (.d (cmpI .neq ↑(nx.length) (ps.length : Int)) (fun e2 => .lf (i64 8)) (fun e2 => .p (.l [[1, 2, 3, 4, 5, 6]] [(32, 32), (832, 832)] (lcT 0 ((ps.length : Int)) (-1) h ps.length ps nx h t (List.replicate ps.length false)) Ex.ret (lcT r n la i k ps nx h t ys)) (.s ((ps.length : Int) ≤ 1099511627776) (.s ((ps.length : Int) * 1 ≤ 1099511627776) (.q ((ps.length : Int)) (.s (decide (0 ≤ (ps.length : Int)) = true) (.s (Runs Try.prog (CallsD Try.prog) (.code (.loop (loopAt Try.prog 79 0))) (lcT 0 ((ps.length : Int)) (-1) h ps.length ps nx h t (List.replicate ps.length false)).abs (Ex.ret) (lcT r n la i k ps nx h t ys).abs) (.k ((lcT 0 ((ps.length : Int)) (-1) h ps.length ps nx h t (List.replicate ps.length false) = lcT 0 ((ps.length : Int)) (-1) h ps.length ps nx h t (List.replicate ps.length false))) rfl (.lf (i64 r)))))))))))))
theorem lcR_L (r n la i : Int) (k : Nat) (ps nx : List Int) (h t : Int) (ys : List Bool) : Leaves (fun l => fnX Try.prog (X2) 100000 l 79 [D.agg [ri ps, ri nx, i64 h, i64 t]]) (lcR_T r n la i k ps nx h t ys) [] [] := by refine ⟨fun _ => ?_, fun _ => ⟨fun _ => ?_, fun _ => ⟨fun _ => ?_, fun _ => ?_⟩⟩⟩ <;> (show _ = _; kernel_rfl)
theorem lcR_calls (r n la i : Int) (k : Nat) (ps nx : List Int) (h t : Int) (ys : List Bool) (res : D) (h0 : At (fun r => res = r) (lcR_T r n la i k ps nx h t ys) [true] True) (h1 : At (fun r => res = r) (lcR_T r n la i k ps nx h t ys) [false, true] True) (h2 : At (fun r => res = r) (lcR_T r n la i k ps nx h t ys) [false, false, true] True) (h3 : At (fun r => res = r) (lcR_T r n la i k ps nx h t ys) [false, false, false] True) : CallsD Try.prog 79 [D.agg [ri ps, ri nx, i64 h, i64 t]] res := tree_calls (hX2) (lcR_L r n la i k ps nx h t ys) ⟨fun e0 => h0 e0, fun e0 => ⟨fun e1 => h1 e0 e1, fun e1 => ⟨fun e2 => h2 e0 e1 e2, fun e2 => h3 e0 e1 e2⟩⟩⟩
noncomputable def lcR2_T (r : Int) (la : Int) (k : Nat) (m : Int) (i : Int) (ps : List Int) (nx : List Int) (h : Int) (t : Int) (ys : List Bool) : Tr D := .d (cmpI .lss ((ps.length : Int)) 1) (fun e0 => .p (.c 6) (.lf (i64 8))) (fun e0 => .p (.c 0) (.d (cmpI .gtr ((ps.length : Int)) 16) (fun e1 => .p (.c 4) (.lf (i64 8))) (fun e1 => .p (.c 3) (.d (cmpI .neq ↑(nx.length) (ps.length : Int)) (fun e2 => .lf (i64 8)) (fun e2 => .p (.l [[1, 2, 3, 4, 5, 6]] [(32, 32), (832, 832)] (lcT 0 ((ps.length : Int)) (-1) h ps.length ps nx h t (List.replicate ps.length false)) (Ex.exit 0) (lcT 0 ((ps.length : Int)) la (-1) k ps nx h t ys)) (.p (.l [[1, 2, 5, 62, 63, 64]] [(32, 32), (832, 832)] (lcT2 0 la k (↑k) 0 ps nx h t ys) Ex.ret (lcT2 r la k m i ps nx h t ys)) (.s ((ps.length : Int) ≤ 1099511627776) (.s ((ps.length : Int) * 1 ≤ 1099511627776) (.q ((ps.length : Int)) (.s (decide (0 ≤ (ps.length : Int)) = true) (.s (Runs Try.prog (CallsD Try.prog) (.code (.loop (loopAt Try.prog 79 0))) (lcT 0 ((ps.length : Int)) (-1) h ps.length ps nx h t (List.replicate ps.length false)).abs (Ex.exit 0) (lcT 0 ((ps.length : Int)) la (-1) k ps nx h t ys).abs) (.k ((lcT 0 ((ps.length : Int)) (-1) h ps.length ps nx h t (List.replicate ps.length false) = lcT 0 ((ps.length : Int)) (-1) h ps.length ps nx h t (List.replicate ps.length false))) rfl (.s (Runs Try.prog (CallsD Try.prog) (.code (.loop (loopAt Try.prog 79 1))) (lcT2 0 la k (↑k) 0 ps nx h t ys).abs (Ex.ret) (lcT2 r la k m i ps nx h t ys).abs) (.k ((lcT2 0 la k (↑k) 0 ps nx h t ys = lcT2 0 la k (↑k) 0 ps nx h t ys)) rfl (.lf (i64 r))))))))))))))))
theorem lcR2_L (r la : Int) (k : Nat) (m i : Int) (ps nx : List Int) (h t : Int) (ys : List Bool) : Leaves (fun l => fnX Try.prog (X2) 100000 l 79 [D.agg [ri ps, ri nx, i64 h, i64 t]]) (lcR2_T r la k m i ps nx h t ys) [] [] := by refine ⟨fun _ => ?_, fun _ => ⟨fun _ => ?_, fun _ => ⟨fun _ => ?_, fun _ => ?_⟩⟩⟩ <;> (show _ = _; kernel_rfl)
theorem lcR2_calls (r la : Int) (k : Nat) (m i : Int) (ps nx : List Int) (h t : Int) (ys : List Bool) (res : D) (h0 : At (fun r => res = r) (lcR2_T r la k m i ps nx h t ys) [true] True) (h1 : At (fun r => res = r) (lcR2_T r la k m i ps nx h t ys) [false, true] True) (h2 : At (fun r => res = r) (lcR2_T r la k m i ps nx h t ys) [false, false, true] True) (h3 : At (fun r => res = r) (lcR2_T r la k m i ps nx h t ys) [false, false, false] True) : CallsD Try.prog 79 [D.agg [ri ps, ri nx, i64 h, i64 t]] res := tree_calls (hX2) (lcR2_L r la k m i ps nx h t ys) ⟨fun e0 => h0 e0, fun e0 => ⟨fun e1 => h1 e0 e1, fun e1 => ⟨fun e2 => h2 e0 e1 e2, fun e2 => h3 e0 e1 e2⟩⟩⟩
/-- What is seen on the way from a place, and the last place. -/
def walkL (ps nx : List Int) : Nat → Int → Int → List Bool → Option (Int × List Bool)
 | 0, _, _, _ => none
 | d + 1, la, i, ys => if i = -1 then some (la, ys) else if i < 0 ∨ (ps.length : Int) ≤ i ∨ ys.getD i.toNat false = true ∨ ps.getD i.toNat 0 ≠ la then none else walkL ps nx d i (nx.getD i.toNat 0) (ys.set i.toNat true)
theorem walkL_len {ps nx : List Int} : ∀ {d : Nat} {la i : Int} {ys : List Bool} {r : Int × List Bool}, walkL ps nx d la i ys = some r → r.2.length = ys.length
 | 0, _, _, _, _, h => by cases h
 | d + 1, la, i, ys, r, h => by
  simp only [walkL] at h
  split at h
  ·simp only [Option.some.injEq] at h; subst h; rfl
  ·split at h
   ·cases h
   ·have := walkL_len h; simpa using this
theorem lc_run (ps nx : List Int) (h t : Int) (hn : nx.length = ps.length) : ∀ (d : Nat) (la i : Int) (ys : List Bool), ys.length = ps.length → unseen ys < d →
  match walkL ps nx d la i ys with
  | some (la', ys') => Runs Try.prog (CallsD Try.prog) (.rounds (loopAt Try.prog 79 0)) (lcT 0 ps.length la i ps.length ps nx h t ys).abs (.exit 0) (lcT 0 ps.length la' (-1) ps.length ps nx h t ys').abs
  | none => ∃ (la' i' : Int) (ys' : List Bool), Runs Try.prog (CallsD Try.prog) (.rounds (loopAt Try.prog 79 0)) (lcT 0 ps.length la i ps.length ps nx h t ys).abs .ret (lcT 8 ps.length la' i' ps.length ps nx h t ys').abs := by
 intro d
 induction d with
 | zero => intro la i ys _ h; omega
 | succ d ih =>
  intro la i ys hl hd
  simp only [walkL]
  by_cases c1 : i = -1
  ·subst c1
   simp only [if_true]
   refine lcL_step 0 ps.length la (-1) ps.length ps nx h t ys _ _ ?_ ?_ ?_ ?_ ?_ ?_ <;> dsimp only [At, Tr.q, RG, lcL_T]
   ·intro g; rw [neq_t] at g; exact absurd rfl g
   ·intro g; rw [neq_t] at g; exact absurd rfl g
   ·intro g; rw [neq_t] at g; exact absurd rfl g
   ·intro g; rw [neq_t] at g; exact absurd rfl g
   ·intro g; rw [neq_t] at g; exact absurd rfl g
   ·intro _; exact ⟨trivial, rfl, rfl⟩
  ·rw [if_neg c1]
   by_cases c2 : i < 0 ∨ (ps.length : Int) ≤ i ∨ ys.getD i.toNat false = true ∨ ps.getD i.toNat 0 ≠ la
   ·rw [if_pos c2]
    refine ⟨la, i, ys, lcL_step 0 ps.length la i ps.length ps nx h t ys _ _ ?_ ?_ ?_ ?_ ?_ ?_⟩
    ·intro _ _; exact ⟨trivial, rfl, rfl⟩
    ·intro _ _ _; exact ⟨trivial, rfl, rfl⟩
    ·intro _ g1 g2 _
     rw [lss_f] at g1; rw [geq_f] at g2
     exact ⟨⟨by omega, by simpa using g1, by simpa using g2, trivial⟩, rfl, rfl⟩
    ·intro _ g1 g2 _ _
     rw [lss_f] at g1; rw [geq_f] at g2
     exact ⟨⟨by simpa using g1, by simpa using g2, by omega, by simpa using g1, by simpa using g2, trivial⟩, rfl, rfl⟩
    ·intro _ g1 g2 g3 g4
     rw [lss_f] at g1; rw [geq_f] at g2; rw [neq_f] at g4
     rcases c2 with c | c | c | c
     ·omega
     ·omega
     ·rw [c] at g3; cases g3
     ·exact absurd g4 c
    ·intro g; rw [neq_f] at g; exact absurd g c1
   ·rw [if_neg c2]
    have hi0 : 0 ≤ i := by omega
    have hi1 : i < (ps.length : Int) := by omega
    have hi2 : ys.getD i.toNat false = false := by
     cases e : ys.getD i.toNat false with
     | false => rfl
     | true => exact absurd (.inr (.inr (.inl e))) c2
    have hi3 : ps.getD i.toNat 0 = la := Classical.byContradiction fun e => c2 (.inr (.inr (.inr e)))
    have hu := unseen_set ys i.toNat (by omega) hi2
    have r := ih i (nx.getD i.toNat 0) (ys.set i.toNat true) (by simpa using hl) (by omega)
    have d0 : decide (0 ≤ i) = true := by simpa using hi0
    have d1 : decide (i < (ps.length : Int)) = true := by simpa using hi1
    have d2 : decide (i < (nx.length : Int)) = true := by rw [hn]; exact d1
    have step : ∀ (σ : St) (e : Ex), Runs Try.prog (CallsD Try.prog) (.rounds (loopAt Try.prog 79 0)) (lcT 0 ps.length i (nx.getD i.toNat 0) ps.length ps nx h t (ys.set i.toNat true)).abs e σ → Runs Try.prog (CallsD Try.prog) (.rounds (loopAt Try.prog 79 0)) (lcT 0 ps.length la i ps.length ps nx h t ys).abs e σ := by
     intro σ e hr
     refine lcL_step 0 ps.length la i ps.length ps nx h t ys σ e ?_ ?_ ?_ ?_ ?_ ?_ <;> dsimp only [At, Tr.q, RG, lcL_T]
     ·intro _ g; rw [lss_t] at g; omega
     ·intro _ _ g; rw [geq_t] at g; omega
     ·intro _ _ _ g; rw [hi2] at g; cases g
     ·intro _ _ _ _ g; rw [neq_t] at g; exact absurd hi3 g
     ·intro _ _ _ _ _
      exact ⟨⟨d0, d2, by omega, rfl, d0, d1, d0, d1, by omega, d0, d1, trivial⟩, hr⟩
     ·intro g; rw [neq_f] at g; exact absurd g c1
    cases hw : walkL ps nx d i (nx.getD i.toNat 0) (ys.set i.toNat true) with
    | some q => rw [hw] at r; exact step _ _ r
    | none =>
     rw [hw] at r
     obtain ⟨la', i', ys', r⟩ := r
     exact ⟨la', i', ys', step _ _ r⟩
def lcBad (ps nx : List Int) (ys : List Bool) (i : Nat) : Bool := !ys.getD i false && (ps.getD i 0 != -1 || nx.getD i 0 != -1)
def lcV (ps nx : List Int) (h t : Int) : Int :=
 if 1 ≤ ps.length ∧ ps.length ≤ 16 ∧ nx.length = ps.length then match walkL ps nx (ps.length + 1) (-1) h (List.replicate ps.length false) with
  | some (la, ys) => if findI (lcBad ps nx ys) ps.length 0 < 0 ∧ t = la then 0 else 8
  | none => 8
 else 8
theorem lc_ok (ps nx : List Int) (h t : Int) : CallsD Try.prog 79 [.agg [ri ps, ri nx, i64 h, i64 t]] (i64 (lcV ps nx h t)) := by
 unfold lcV
 by_cases c : 1 ≤ ps.length ∧ ps.length ≤ 16 ∧ nx.length = ps.length
 ·rw [if_pos c]
  obtain ⟨c1, c2, c3⟩ := c
  have u0 : unseen (List.replicate ps.length false) ≤ ps.length := by simpa using unseen_le (List.replicate ps.length false)
  have r := lc_run ps nx h t c3 (ps.length + 1) (-1) h (List.replicate ps.length false) (by simp) (by omega)
  have b0 : decide (0 ≤ (ps.length : Int)) = true := by simp
  cases hw : walkL ps nx (ps.length + 1) (-1) h (List.replicate ps.length false) with
  | none =>
   rw [hw] at r
   obtain ⟨la', i', ys', r⟩ := r
   refine lcR_calls 8 ps.length la' i' ps.length ps nx h t ys' _ ?_ ?_ ?_ ?_ <;> dsimp only [At, Tr.q, lcR_T]
   ·intro g; rw [lss_t] at g; omega
   ·intro _ g; rw [gtr_t] at g; omega
   ·intro _ _ g; rw [neq_t] at g; omega
   ·intro _ _ _
    exact ⟨⟨loop_of_rounds r, b0, by omega, by omega, trivial⟩, rfl⟩
  | some q =>
   obtain ⟨la, ys⟩ := q
   rw [hw] at r
   have hl : ys.length = ps.length := by have := walkL_len hw; simpa using this
   have r' := loop_of_rounds r
   simp only
   refine look_for (b := loopAt Try.prog 79 1) (fun i => lcT2 0 la ps.length ps.length (i : Int) ps nx h t ys) ps.length (lcBad ps nx ys) (fun v => CallsD Try.prog 79 [.agg [ri ps, ri nx, i64 h, i64 t]] (i64 (if v < 0 ∧ t = la then 0 else 8))) ?_ ?_ ?_
   ·intro i hi hp σ e hr
    have n1 := natLt hi
    have n2 := natLt (n := nx.length) (i := i) (by omega)
    simp only [lcBad] at hp
    refine lcL2_step 0 la ps.length ps.length i ps nx h t ys σ e ?_ ?_ ?_ ?_ ?_ <;> dsimp only [At, Tr.q, RG, lcL2_T]
    ·intro _ g1 g2
     rw [Int.toNat_natCast] at g1 g2; rw [neq_t] at g2
     rw [g1, Bool.true_and, Bool.or_eq_false_iff] at hp
     have := hp.1; simp at this; exact absurd this (by simpa using g2)
    ·intro _ g1 _ g2
     rw [Int.toNat_natCast] at g1 g2; rw [neq_t] at g2
     rw [g1, Bool.true_and, Bool.or_eq_false_iff] at hp
     have := hp.2; simp at this; exact absurd this (by simpa using g2)
    ·intro _ _ _ _
     unfold lcL2_c0; rw [succL hi (by omega)]
     exact ⟨⟨n1.1, n2.2, n1.1, n1.2, by rw [Int.toNat_natCast]; omega, n1.1, n1.2, trivial⟩, hr⟩
    ·intro _ _
     unfold lcL2_c0; rw [succL hi (by omega)]
     exact ⟨⟨by rw [Int.toNat_natCast]; omega, n1.1, n1.2, trivial⟩, hr⟩
    ·intro g; rw [lss_f] at g; omega
   ·intro hr
    have lp := loop_of_rounds (hr _ _ (lcL2_step 0 la ps.length ps.length ps.length ps nx h t ys _ _ (fun g => by rw [lss_t] at g; omega) (fun g => by rw [lss_t] at g; omega) (fun g => by rw [lss_t] at g; omega) (fun g => by rw [lss_t] at g; omega) (fun _ => ⟨trivial, rfl, rfl⟩)))
    refine lcF_calls 0 la ps.length ps.length ps.length ps nx h t ys _ ?_ ?_ ?_ ?_ ?_ <;> dsimp only [At, Tr.q, lcF_T]
    ·intro g; rw [lss_t] at g; omega
    ·intro _ g; rw [gtr_t] at g; omega
    ·intro _ _ g; rw [neq_t] at g; omega
    ·intro _ _ _ g; rw [neq_t] at g
     exact ⟨⟨lp, r', b0, by omega, by omega, trivial⟩, by rw [if_neg fun x => g x.2]⟩
    ·intro _ _ _ g; rw [neq_f] at g
     exact ⟨⟨lp, r', b0, by omega, by omega, trivial⟩, by rw [if_pos ⟨by omega, g⟩]⟩
   ·intro j hj hp hr
    have n1 := natLt hj
    have n2 := natLt (n := nx.length) (i := j) (by omega)
    simp only [lcBad, Bool.and_eq_true, Bool.or_eq_true] at hp
    refine lcR2_calls 8 la ps.length ps.length j ps nx h t ys _ ?_ ?_ ?_ ?_ <;> dsimp only [At, Tr.q, lcR2_T]
    ·intro g; rw [lss_t] at g; omega
    ·intro _ g; rw [gtr_t] at g; omega
    ·intro _ _ g; rw [neq_t] at g; omega
    ·intro _ _ _
     refine ⟨⟨loop_of_rounds (hr _ _ ?_), r', b0, by omega, by omega, trivial⟩, by rw [if_neg (fun x => by omega)]⟩
     refine lcL2_step 0 la ps.length ps.length j ps nx h t ys _ _ ?_ ?_ ?_ ?_ ?_ <;> dsimp only [At, Tr.q, RG, lcL2_T]
     ·intro _ _ _; exact ⟨⟨n1.1, n1.2, by rw [Int.toNat_natCast]; omega, n1.1, n1.2, trivial⟩, rfl, rfl⟩
     ·intro _ _ _ _; exact ⟨⟨n1.1, n2.2, n1.1, n1.2, by rw [Int.toNat_natCast]; omega, n1.1, n1.2, trivial⟩, rfl, rfl⟩
     ·intro _ _ g2 g3
      rw [Int.toNat_natCast, neq_f] at g2 g3
      rcases hp.2 with q | q
      ·simp at q; exact absurd g2 (by simpa using q)
      ·simp at q; exact absurd g3 (by simpa using q)
     ·intro _ g1
      rw [Int.toNat_natCast] at g1
      rw [hp.1] at g1; cases g1
     ·intro g; rw [lss_f] at g; omega
 ·rw [if_neg c]
  refine lcF_calls 0 0 0 0 0 ps nx h t [] _ ?_ ?_ ?_ ?_ ?_ <;> dsimp only [At, Tr.q, lcF_T]
  ·intro _; exact ⟨trivial, rfl⟩
  ·intro _ _; exact ⟨trivial, rfl⟩
  ·intro _ _ _; exact ⟨trivial, rfl⟩
  ·intro g1 g2 g3
   rw [lss_f] at g1; rw [gtr_f] at g2; rw [neq_f] at g3; omega
  ·intro g1 g2 g3
   rw [lss_f] at g1; rw [gtr_f] at g2; rw [neq_f] at g3; omega
end TableS
end

section
namespace TableS
open Go Go.Dam Go.Proofs
set_option maxRecDepth 1000000
def akC : List D → Option (D × List Prop)
 | [.agg [.rc [.ints .i64 nx], .rc [.bools us], .v (.int .i64 f)]] => some (i64 (akV nx us f), [us.length ≤ 200])
 | _ => none
theorem akC_ok (args res l) (h : akC args = some (res, l)) (hl : AllP l) : CallsD Try.prog 61 args res := by
 unfold akC at h; split at h
 ·simp only [Option.some.injEq, Prod.mk.injEq] at h
  obtain ⟨rfl, rfl⟩ := h; obtain ⟨h0, _⟩ := hl
  exact ak_ok _ _ _ h0
 ·cases h
def lcC : List D → Option (D × List Prop)
 | [.agg [.rc [.ints .i64 ps], .rc [.ints .i64 nx], .v (.int .i64 h), .v (.int .i64 t)]] => some (i64 (lcV ps nx h t), [])
 | _ => none
theorem lcC_ok (args res l) (h : lcC args = some (res, l)) (hl : AllP l) : CallsD Try.prog 79 args res := by
 unfold lcC at h; split at h
 ·simp only [Option.some.injEq, Prod.mk.injEq] at h
  obtain ⟨rfl, rfl⟩ := h
  exact lc_ok _ _ _ _
 ·cases h
def X5 : Contracts := addCon 61 (.call akC) (addCon 79 (.call lcC) X4)
theorem hX5 : ConOK Try.prog X5 := addCall_ok akC_ok (addCall_ok lcC_ok hX4)
noncomputable def llT (k : Nat) (i : Int) (ps nx : List Int) (h t : Int) (l : List Int) : Cs := ⟨TT.of [(1, D.ptr 32 0), (2, D.v (Value.slice none 0 0)), (3, i64 0), (5, D.sl 9001 0 k ⟨1, 0⟩), (6, i64 i)], 26, [], [(32, BX.cells [ri ps, ri nx, i64 h, i64 t] false), (9001, BX.row [.ints .i64 l] false)], none, 0⟩
end TableS
end

section
namespace TableS
open Go Go.Dam Go.Proofs
set_option maxRecDepth 1000000
noncomputable def llL_T (k : Nat) (i : Int) (ps : List Int) (nx : List Int) (h : Int) (t : Int) (l : List Int) : Tr (Ex × Cs) := .d (cmpI .neq i (-1)) (fun e0 => .s (l.length = l.length) (.s (k = l.length) (.s ((k + 1) * 8 ≤ 17592186044416) (.s (decide (i < (nx.length : Int)) = true) (.s (decide (0 ≤ i) = true) (.lf (Ex.normal, (llT (k + 1) (nx.getD i.toNat 0) (ps) (nx) (h) (t) (l ++ [i]))))))))) (fun e0 => .lf (Ex.exit 0, (llT (k) (i) (ps) (nx) (h) (t) (l))))
theorem llL_L (k : Nat) (i : Int) (ps nx : List Int) (h t : Int) (l : List Int) : Leaves (roundT Try.prog (X5) 100000 (loopAt Try.prog 43 0) [[1, 2, 3, 5, 6]] [(32, 32), (9001, 9001)] (llT k i ps nx h t l)) (llL_T k i ps nx h t l) [] [] := by refine ⟨fun _ => ?_, fun _ => ?_⟩ <;> (show _ = _; kernel_rfl)
theorem llL_step (k : Nat) (i : Int) (ps : List Int) (nx : List Int) (h : Int) (t : Int) (l : List Int) (σ : St) (e : Ex) (h0 : At (RG Try.prog (loopAt Try.prog 43 0) e σ) (llL_T k i ps nx h t l) [true] True) (h1 : At (RG Try.prog (loopAt Try.prog 43 0) e σ) (llL_T k i ps nx h t l) [false] True) : Runs Try.prog (CallsD Try.prog) (.rounds (loopAt Try.prog 43 0)) (llT k i ps nx h t l).abs e σ := tree_rounds (hX5) (llL_L k i ps nx h t l) ⟨fun e0 => h0 e0, fun e0 => h1 e0⟩
noncomputable def llF_T (k : Nat) (i : Int) (ps : List Int) (nx : List Int) (h : Int) (t : Int) (l : List Int) : Tr D := .d (cmpI .neq (lcV ps nx h t) 0) (fun e0 => .lf (D.tup [D.v (Value.slice none 0 0), i64 (lcV ps nx h t)])) (fun e0 => .p (.k [Cast.nil 5 9001 1 [.ints .i64 []]]) (.p (.l [[1, 2, 3, 5, 6]] [(32, 32), (9001, 9001)] (llT 0 h ps nx h t []) (Ex.exit 0) (llT k i ps nx h t l)) (.s (Runs Try.prog (CallsD Try.prog) (.code (.loop (loopAt Try.prog 43 0))) (llT 0 h ps nx h t []).abs (Ex.exit 0) (llT k i ps nx h t l).abs) (.k ((llT 0 h ps nx h t [] = llT 0 h ps nx h t [])) rfl (.s (k = l.length) (.lf (D.tup [D.oc [.ints .i64 l], i64 0])))))))
theorem llF_L (k : Nat) (i : Int) (ps nx : List Int) (h t : Int) (l : List Int) : Leaves (fun l => fnX Try.prog (X5) 100000 l 43 [D.agg [ri ps, ri nx, i64 h, i64 t]]) (llF_T k i ps nx h t l) [] [] := by refine ⟨fun _ => ?_, fun _ => ?_⟩ <;> (show _ = _; kernel_rfl)
theorem llF_calls (k : Nat) (i : Int) (ps nx : List Int) (h t : Int) (l : List Int) (res : D) (h0 : At (fun r => res = r) (llF_T k i ps nx h t l) [true] True) (h1 : At (fun r => res = r) (llF_T k i ps nx h t l) [false] True) : CallsD Try.prog 43 [D.agg [ri ps, ri nx, i64 h, i64 t]] res := tree_calls (hX5) (llF_L k i ps nx h t l) ⟨fun e0 => h0 e0, fun e0 => h1 e0⟩
/-- What was seen is what the list has. -/
def seenAs (n : Nat) (ys : List Bool) (l : List Int) : Prop := ys.length = n ∧ ∀ j, j < n → ys.getD j false = decide ((j : Int) ∈ l)
theorem seenAs_nil (n : Nat) : seenAs n (List.replicate n false) [] := ⟨by simp, fun j hj => by simp [List.getD_eq_getElem?_getD, hj]⟩
theorem seenAs_set {n : Nat} {ys : List Bool} {l : List Int} (h : seenAs n ys l) {i : Int} (h0 : 0 ≤ i) (h1 : i < (n : Int)) : seenAs n (ys.set i.toNat true) (l ++ [i]) := by
 refine ⟨by simpa using h.1, fun j hj => ?_⟩
 have hl := h.1
 by_cases e : i.toNat = j
 ·subst e
  have : i = ((i.toNat : Nat) : Int) := by omega
  simp only [List.getD_eq_getElem?_getD]
  rw [List.getElem?_set_self (by omega)]
  simp [← this]
 ·have := h.2 j hj
  simp only [List.getD_eq_getElem?_getD] at this ⊢
  rw [List.getElem?_set_ne e, this]
  have : (j : Int) ≠ i := by omega
  simp [this]
theorem walkL_chain {ps nx : List Int} (hn : nx.length = ps.length) : ∀ (d : Nat) (la i : Int) (ys : List Bool) (l : List Int) (q : Int × List Bool), seenAs nx.length ys l → walkL ps nx d la i ys = some q →
  ∃ l', chain nx d i l = some l' ∧ seenAs nx.length q.2 l'
 | 0, _, _, _, _, _, _, h => by cases h
 | d + 1, la, i, ys, l, q, hs, h => by
  simp only [walkL] at h
  simp only [chain]
  by_cases c1 : i = -1
  ·rw [if_pos c1] at h ⊢
   simp only [Option.some.injEq] at h; subst h
   exact ⟨l, rfl, hs⟩
  ·rw [if_neg c1] at h ⊢
   split at h
   ·cases h
   next c2 =>
    have h0 : 0 ≤ i := by omega
    have h1 : i < (nx.length : Int) := by omega
    have hm : i ∉ l := fun hm => by
     apply c2
     right; right; left
     rw [hs.2 i.toNat (by omega), show ((i.toNat : Nat) : Int) = i by omega]
     simpa using hm
    rw [if_neg (by rintro (c | c | c) <;> first | omega | exact hm c)]
    exact walkL_chain hn d i (nx.getD i.toNat 0) _ _ q (seenAs_set hs h0 h1) h
theorem lcV_is {ps nx : List Int} {h t : Int} (e : lcV ps nx h t = 0) : 1 ≤ ps.length ∧ ps.length ≤ 16 ∧ nx.length = ps.length ∧ ∃ la ys, walkL ps nx (ps.length + 1) (-1) h (List.replicate ps.length false) = some (la, ys) ∧ findI (lcBad ps nx ys) ps.length 0 < 0 ∧ t = la := by
 unfold lcV at e
 split at e
 next c =>
  refine ⟨c.1, c.2.1, c.2.2, ?_⟩
  split at e
  next la ys hw =>
   split at e
   next g => exact ⟨la, ys, hw, g.1, g.2⟩
   ·cases e
  ·cases e
 ·cases e
theorem lcV_chain {ps nx : List Int} {h t : Int} (e : lcV ps nx h t = 0) : chain nx (nx.length + 1) h [] = some (chL nx h) := by
 obtain ⟨c1, c2, c3, la, ys, hw, _⟩ := lcV_is e
 rw [← c3] at hw
 obtain ⟨l', h1, _⟩ := walkL_chain c3 _ _ _ _ [] _ (seenAs_nil _) hw
 unfold chL; rw [h1]; rfl
theorem ll_run (ps nx : List Int) (h t : Int) (hn : nx.length ≤ 200) : ∀ (d : Nat) (i : Int) (l l' : List Int), okL nx.length l → chain nx d i l = some l' →
  Runs Try.prog (CallsD Try.prog) (.rounds (loopAt Try.prog 43 0)) (llT l.length i ps nx h t l).abs (.exit 0) (llT l'.length (-1) ps nx h t l').abs
 | 0, _, _, _, _, hc => by cases hc
 | d + 1, i, l, l', ho, hc => by
  have hl := pigeon _ _ ho.1 ho.2
  simp only [chain] at hc
  by_cases c1 : i = -1
  ·rw [if_pos c1] at hc
   simp only [Option.some.injEq] at hc; subst hc; subst c1
   refine llL_step l.length (-1) ps nx h t l _ _ ?_ ?_ <;> dsimp only [At, Tr.q, RG, llL_T]
   ·intro g; rw [neq_t] at g; exact absurd rfl g
   ·intro _; exact ⟨trivial, rfl, rfl⟩
  ·rw [if_neg c1] at hc
   split at hc
   ·cases hc
   next c2 =>
    have h0 : 0 ≤ i := by omega
    have h1 : i < (nx.length : Int) := by omega
    have ih := ll_run ps nx h t hn d (nx.getD i.toNat 0) (l ++ [i]) l' (okL_snoc ho h0 h1 fun hm => c2 (.inr (.inr hm))) hc
    refine llL_step l.length i ps nx h t l _ _ ?_ ?_ <;> dsimp only [At, Tr.q, RG, llL_T]
    ·intro _
     refine ⟨⟨by simpa using h0, by simpa using h1, by omega, rfl, rfl, trivial⟩, ?_⟩
     simpa using ih
    ·intro g; rw [neq_f] at g; exact absurd g c1
def llL (ps nx : List Int) (h t : Int) : List Int := if lcV ps nx h t = 0 then chL nx h else []
theorem ll_ok (ps nx : List Int) (h t : Int) : CallsD Try.prog 43 [.agg [ri ps, ri nx, i64 h, i64 t]] (.tup [oi (llL ps nx h t), i64 (lcV ps nx h t)]) := by
 unfold llL
 by_cases e : lcV ps nx h t = 0
 ·rw [if_pos e, e]
  obtain ⟨c1, c2, c3, _⟩ := lcV_is e
  refine llF_calls (chL nx h).length (-1) ps nx h t (chL nx h) _ (fun g => by rw [neq_t] at g; exact absurd e g) fun _ => ?_ <;> dsimp only [At, Tr.q, llF_T]
  exact ⟨⟨rfl, loop_of_rounds (ll_run ps nx h t (by omega) _ h [] _ (okL_nil _) (lcV_chain e)), trivial⟩, rfl⟩
 ·rw [if_neg e]
  refine calls_reads (e := .tup [.v (.slice none 0 0), i64 (lcV ps nx h t)]) (ReadsNs.tup (.cons (.nil rfl) (.refl _))) ?_
  exact llF_calls 0 0 ps nx h t [] _ (fun _ => ⟨trivial, rfl⟩) fun g => by rw [neq_f] at g; exact absurd g e
def llC : List D → Option (D × List Prop)
 | [.agg [.rc [.ints .i64 ps], .rc [.ints .i64 nx], .v (.int .i64 h), .v (.int .i64 t)]] => some ((.tup [oi (llL ps nx h t), i64 (lcV ps nx h t)]), [])
 | _ => none
theorem llC_ok (args res l) (h : llC args = some (res, l)) (hl : AllP l) : CallsD Try.prog 43 args res := by
 unfold llC at h; split at h
 ·simp only [Option.some.injEq, Prod.mk.injEq] at h
  obtain ⟨rfl, rfl⟩ := h
  exact ll_ok _ _ _ _
 ·cases h
def X6 : Contracts := addCon 43 (.call llC) X5
theorem hX6 : ConOK Try.prog X6 := addCall_ok llC_ok hX5
end TableS
end

section
namespace TableS
open Go Go.Dam Go.Proofs
set_option maxRecDepth 1000000
noncomputable def sm15_T (p1 : List Int) (n1 : List Int) (p2 : List Int) (n2 : List Int) (c1 : Int) (t1 : Int) (c2 : Int) (t2 : Int) : Tr D := .s (p1.length ≤ 200) (.d (eqB p1 p2) (fun e0 => .p (.c 3) (.s (n1.length ≤ 200) (.d (eqB n1 n2) (fun e1 => .p (.c 3) (.d (cmpI .eql c1 c2) (fun e2 => .p (.c 3) (.lf (bo (cmpI .eql t1 t2)))) (fun e2 => .p (.c 3) (.lf (bo false))))) (fun e1 => .p (.c 8) (.lf (bo false)))))) (fun e0 => .p (.c 13) (.lf (bo false))))
theorem sm15_L (p1 n1 p2 n2 : List Int) (c1 t1 c2 t2 : Int) : Leaves (fun l => fnX Try.prog (X6) 100000 l 60 [D.agg [ri p1, ri n1, i64 c1, i64 t1], D.agg [ri p2, ri n2, i64 c2, i64 t2]]) (sm15_T p1 n1 p2 n2 c1 t1 c2 t2) [] [] := by refine ⟨fun _ => ⟨fun _ => ⟨fun _ => ?_, fun _ => ?_⟩, fun _ => ?_⟩, fun _ => ?_⟩ <;> (show _ = _; kernel_rfl)
theorem sm15_calls (p1 n1 p2 n2 : List Int) (c1 t1 c2 t2 : Int) (res : D) (h0 : At (fun r => res = r) (sm15_T p1 n1 p2 n2 c1 t1 c2 t2) [true, true, true] True) (h1 : At (fun r => res = r) (sm15_T p1 n1 p2 n2 c1 t1 c2 t2) [true, true, false] True) (h2 : At (fun r => res = r) (sm15_T p1 n1 p2 n2 c1 t1 c2 t2) [true, false] True) (h3 : At (fun r => res = r) (sm15_T p1 n1 p2 n2 c1 t1 c2 t2) [false] True) : CallsD Try.prog 60 [D.agg [ri p1, ri n1, i64 c1, i64 t1], D.agg [ri p2, ri n2, i64 c2, i64 t2]] res := tree_calls (hX6) (sm15_L p1 n1 p2 n2 c1 t1 c2 t2) ⟨fun e0 => ⟨fun e1 => ⟨fun e2 => h0 e0 e1 e2, fun e2 => h1 e0 e1 e2⟩, fun e1 => h2 e0 e1⟩, fun e0 => h3 e0⟩
def sm15 (p1 n1 : List Int) (h1 t1 : Int) (p2 n2 : List Int) (h2 t2 : Int) : Bool := eqB p1 p2 && (eqB n1 n2 && (decide (h1 = h2) && decide (t1 = t2)))
theorem sm15_ok (p1 n1 : List Int) (h1 t1 : Int) (p2 n2 : List Int) (h2 t2 : Int) (hp : p1.length ≤ 200 ∧ n1.length ≤ 200) : CallsD Try.prog 60 [.agg [ri p1, ri n1, i64 h1, i64 t1], .agg [ri p2, ri n2, i64 h2, i64 t2]] (bo (sm15 p1 n1 h1 t1 p2 n2 h2 t2)) := by
 refine sm15_calls p1 n1 p2 n2 h1 t1 h2 t2 _ ?_ ?_ ?_ ?_ <;> dsimp only [At, Tr.q, sm15_T]
 ·intro a b c
  rw [eql_t] at c
  refine ⟨⟨hp.2, hp.1, trivial⟩, ?_⟩
  simp only [sm15, a, b, c, Bool.true_and, decide_true]
  congr 2
 ·intro a b c
  rw [eql_f] at c
  exact ⟨⟨hp.2, hp.1, trivial⟩, by simp [sm15, a, b, c]⟩
 ·intro a b
  exact ⟨⟨hp.2, hp.1, trivial⟩, by simp [sm15, a, b]⟩
 ·intro a
  exact ⟨⟨hp.1, trivial⟩, by simp [sm15, a]⟩
end TableS
end

section
namespace TableS
open Go Go.Dam Go.Proofs
set_option maxRecDepth 1000000
def sm15C : List D → Option (D × List Prop)
 | [.agg [.rc [.ints .i64 p1], .rc [.ints .i64 n1], .v (.int .i64 h1), .v (.int .i64 t1)], .agg [.rc [.ints .i64 p2], .rc [.ints .i64 n2], .v (.int .i64 h2), .v (.int .i64 t2)]] => some (bo (sm15 p1 n1 h1 t1 p2 n2 h2 t2), [p1.length ≤ 200 ∧ n1.length ≤ 200])
 | _ => none
theorem sm15C_ok (args res l) (h : sm15C args = some (res, l)) (hl : AllP l) : CallsD Try.prog 60 args res := by
 unfold sm15C at h; split at h
 ·simp only [Option.some.injEq, Prod.mk.injEq] at h
  obtain ⟨rfl, rfl⟩ := h; obtain ⟨h0, _⟩ := hl
  exact sm15_ok _ _ _ _ _ _ _ _ h0
 ·cases h
def X7 : Contracts := addCon 60 (.call sm15C) X6
theorem hX7 : ConOK Try.prog X7 := addCall_ok sm15C_ok hX6
noncomputable def c13T (o k : Int) (nx : List Int) (us : List Bool) (f : Int) (m : Nat) (l : List Int) : Cs := ⟨TT.of [(1, D.ptr 32 0), (2, i64 o), (3, D.sl 864 0 m ⟨1, 0⟩), (5, i64 k)], 63, [], [(32, BX.cells [ri nx, rb us, i64 f] false), (864, BX.row [.ints .i64 l] false)], none, 0⟩
noncomputable def c14T (kx px : List Int) (ux : List Bool) (o i : Int) : Cs := ⟨TT.of [(0, cc kx px ux), (2, i64 o), (3, i64 i)], 72, [], [], none, 0⟩
noncomputable def pcT (kx px : List Int) (ux : List Bool) (o n m j : Int) : Cs := ⟨TT.of [(0, cc kx px ux), (2, i64 o), (3, i64 n), (13, cc kx px ux), (14, i64 m), (15, i64 j)], 70, [], [], none, 0⟩
noncomputable def c14T2 (kx px : List Int) (ux : List Bool) (o i k : Int) : Cs := ⟨TT.of [(0, cc kx px ux), (2, i64 o), (3, i64 i), (4, i64 k)], 72, [], [], none, 0⟩
noncomputable def pcT2 (kx px : List Int) (ux : List Bool) (o i : Int) : Cs := ⟨TT.of [(0, cc kx px ux), (2, i64 o), (26, i64 i)], 70, [], [], none, 0⟩
end TableS
end
