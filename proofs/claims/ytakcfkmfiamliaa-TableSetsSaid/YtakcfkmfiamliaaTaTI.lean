/- What the functions compute, and the law. No condition. -/
import Derived.Test.YtakcfkmfiamliaaTaTE
import Derived.Test.YtakcfkmfiamliaaDamYA
set_option linter.unusedSectionVars false
set_option linter.unusedVariables false
set_option linter.unusedSimpArgs false
section
namespace TableS
open Go Go.Dam Go.Proofs
set_option maxRecDepth 1000000
theorem getD_same {xs ys : List Int} (h : xs.length = ys.length) : decide (xs = ys) = decide (findI (fun i => xs.getD i 0 != ys.getD i 0) xs.length 0 < 0) := by
 rw [Bool.eq_iff_iff]
 simp only [decide_eq_true_eq, findI_lt]
 constructor
 ·intro e j _ _; simp [e]
 ·intro q
  apply List.ext_getElem h
  intro i h1 h2
  have := q i (by omega) (by omega)
  simpa [List.getD_eq_getElem?_getD, List.getElem?_eq_getElem h1, List.getElem?_eq_getElem h2] using this
/-- How many numbers are right; whether all are. -/
def cnt (q : Nat → Bool) : Nat → Nat
 | 0 => 0
 | n + 1 => cnt q n + bif q n then 1 else 0
def alls (q : Nat → Bool) : Nat → Bool
 | 0 => true
 | n + 1 => alls q n && q n
theorem cnt_le (q : Nat → Bool) : ∀ n, cnt q n ≤ n
 | 0 => Nat.le_refl _
 | n + 1 => by have := cnt_le q n; simp only [cnt]; cases q n <;> simp <;> omega
theorem alls_iff {q : Nat → Bool} : ∀ {n}, alls q n = true ↔ ∀ i, i < n → q i = true
 | 0 => by simp [alls]
 | n + 1 => by
  simp only [alls, Bool.and_eq_true, alls_iff]
  constructor
  ·intro h i hi
   rcases Nat.lt_or_ge i n with a | a
   ·exact h.1 i a
   ·rw [show i = n by omega]; exact h.2
  ·intro h; exact ⟨fun i hi => h i (by omega), h n (by omega)⟩
theorem cnt1 {q : Nat → Bool} {i n : Nat} (h : i < n) (hn : n ≤ 200) : opI .add .i64 (cnt q i : Int) 1 = ((cnt q i + 1 : Nat) : Int) := by
 have := cnt_le q i
 rw [opI_add, wrap_i64_of (by omega) (by omega)]; omega
noncomputable def siL_T (xs : List Int) (ys : List Int) (o : Bool) (i : Int) : Tr (Ex × Cs) := .d (cmpI .lss i ↑(xs.length)) (fun e0 => .s (decide (i < ↑(xs.length)) = true) (.s (decide (0 ≤ i) = true) (.s (decide (i < ↑(ys.length)) = true) (.s (decide (0 ≤ i) = true) (.d (cmpI .neq (xs.getD i.toNat 0) (ys.getD i.toNat 0)) (fun e1 => .lf (Ex.ret, (siT (xs) (ys) (false) (i)))) (fun e1 => .lf (Ex.normal, (siT (xs) (ys) (o) (opI .add .i64 i 1))))))))) (fun e0 => .lf (Ex.exit 0, (siT (xs) (ys) (o) (i))))
theorem siL_L (xs ys : List Int) (o : Bool) (i : Int) : Leaves (roundT Try.prog (X1) 100000 (loopAt Try.prog 101 0) [[0, 1, 4, 5]] [] (siT xs ys o i)) (siL_T xs ys o i) [] [] := by refine ⟨fun _ => ⟨fun _ => ?_, fun _ => ?_⟩, fun _ => ?_⟩ <;> (show _ = _; kernel_rfl)
theorem siL_step (xs : List Int) (ys : List Int) (o : Bool) (i : Int) (σ : St) (e : Ex) (h0 : At (RG Try.prog (loopAt Try.prog 101 0) e σ) (siL_T xs ys o i) [true, true] True) (h1 : At (RG Try.prog (loopAt Try.prog 101 0) e σ) (siL_T xs ys o i) [true, false] True) (h2 : At (RG Try.prog (loopAt Try.prog 101 0) e σ) (siL_T xs ys o i) [false] True) : Runs Try.prog (CallsD Try.prog) (.rounds (loopAt Try.prog 101 0)) (siT xs ys o i).abs e σ := tree_rounds (hX1) (siL_L xs ys o i) ⟨fun e0 => ⟨fun e1 => h0 e0 e1, fun e1 => h1 e0 e1⟩, fun e0 => h2 e0⟩
noncomputable def siF_T (xs : List Int) (ys : List Int) (o : Bool) (i : Int) : Tr D := .d (cmpI .neq ↑(xs.length) ↑(ys.length)) (fun e0 => .lf (bo false)) (fun e0 => .p (.l [[0, 1, 4, 5]] [] (siT xs ys false 0) (Ex.exit 0) (siT xs ys o i)) (.s (Runs Try.prog (CallsD Try.prog) (.code (.loop (loopAt Try.prog 101 0))) (siT xs ys false 0).abs (Ex.exit 0) (siT xs ys o i).abs) (.k ((siT xs ys false 0 = siT xs ys false 0)) rfl (.lf (bo true)))))
theorem siF_L (xs ys : List Int) (o : Bool) (i : Int) : Leaves (fun l => fnX Try.prog (X1) 100000 l 101 [ri xs, ri ys]) (siF_T xs ys o i) [] [] := by refine ⟨fun _ => ?_, fun _ => ?_⟩ <;> (show _ = _; kernel_rfl)
theorem siF_calls (xs ys : List Int) (o : Bool) (i : Int) (res : D) (h0 : At (fun r => res = r) (siF_T xs ys o i) [true] True) (h1 : At (fun r => res = r) (siF_T xs ys o i) [false] True) : CallsD Try.prog 101 [ri xs, ri ys] res := tree_calls (hX1) (siF_L xs ys o i) ⟨fun e0 => h0 e0, fun e0 => h1 e0⟩
noncomputable def siR_T (xs : List Int) (ys : List Int) (o : Bool) (i : Int) : Tr D := .d (cmpI .neq ↑(xs.length) ↑(ys.length)) (fun e0 => .lf (bo false)) (fun e0 => .p (.l [[0, 1, 4, 5]] [] (siT xs ys false 0) Ex.ret (siT xs ys o i)) (.s (Runs Try.prog (CallsD Try.prog) (.code (.loop (loopAt Try.prog 101 0))) (siT xs ys false 0).abs (Ex.ret) (siT xs ys o i).abs) (.k ((siT xs ys false 0 = siT xs ys false 0)) rfl (.lf (bo o)))))
theorem siR_L (xs ys : List Int) (o : Bool) (i : Int) : Leaves (fun l => fnX Try.prog (X1) 100000 l 101 [ri xs, ri ys]) (siR_T xs ys o i) [] [] := by refine ⟨fun _ => ?_, fun _ => ?_⟩ <;> (show _ = _; kernel_rfl)
theorem siR_calls (xs ys : List Int) (o : Bool) (i : Int) (res : D) (h0 : At (fun r => res = r) (siR_T xs ys o i) [true] True) (h1 : At (fun r => res = r) (siR_T xs ys o i) [false] True) : CallsD Try.prog 101 [ri xs, ri ys] res := tree_calls (hX1) (siR_L xs ys o i) ⟨fun e0 => h0 e0, fun e0 => h1 e0⟩
theorem si_ok (xs ys : List Int) (h : xs.length ≤ 200) : CallsD Try.prog 101 [ri xs, ri ys] (bo (eqB xs ys)) := by
 unfold eqB
 by_cases hl : xs.length = ys.length
 ·rw [getD_same hl]
  refine look_for (b := loopAt Try.prog 101 0) (fun i => siT xs ys false (i : Int)) xs.length (fun i => xs.getD i 0 != ys.getD i 0) (fun v => CallsD Try.prog 101 [ri xs, ri ys] (bo (decide (v < 0)))) ?_ ?_ ?_
  ·intro i hi hp σ e hr
   have hj : i < ys.length := by omega
   refine siL_step xs ys false i σ e ?_ ?_ ?_ <;> dsimp only [At, Tr.q, RG, siL_T]
   ·intro _ g; rw [Int.toNat_natCast, neq_t] at g; simp at hp; exact absurd hp g
   ·intro _ _; rw [succL hi h]; exact ⟨⟨(natLt hj).1, (natLt hj).2, (natLt hi).1, (natLt hi).2, trivial⟩, hr⟩
   ·intro g; rw [lss_f] at g; omega
  ·intro hr
   refine siF_calls xs ys false xs.length _ (fun g => ?_) fun _ => ⟨⟨loop_of_rounds (hr _ _ (siL_step xs ys false xs.length _ _ ?_ ?_ ?_)), trivial⟩, rfl⟩
   ·rw [neq_t] at g; omega
   ·intro g; rw [lss_t] at g; omega
   ·intro g; rw [lss_t] at g; omega
   ·intro _; exact ⟨trivial, rfl, rfl⟩
  ·intro j hj hp hr
   have hj' : j < ys.length := by omega
   refine siR_calls xs ys false j _ (fun g => ?_) fun _ => ⟨⟨loop_of_rounds (hr _ _ (siL_step xs ys false j _ _ ?_ ?_ ?_)), trivial⟩, by simp⟩
   ·rw [neq_t] at g; omega
   ·intro _ _; exact ⟨⟨(natLt hj').1, (natLt hj').2, (natLt hj).1, (natLt hj).2, trivial⟩, rfl, rfl⟩
   ·intro _ g; rw [Int.toNat_natCast, neq_f] at g; simp at hp; exact absurd g hp
   ·intro g; rw [lss_f] at g; omega
 ·rw [decide_eq_false (fun e => hl (by rw [e]))]
  refine siF_calls xs ys false 0 _ (fun _ => ⟨trivial, rfl⟩) fun g => ?_ <;> dsimp only [At, Tr.q, siF_T]
  rw [neq_f] at g; omega
noncomputable def skL_T (xs : List Int) (ys : List Int) (o : Bool) (i : Int) : Tr (Ex × Cs) := .d (cmpI .lss i ↑(xs.length)) (fun e0 => .s (decide (i < ↑(xs.length)) = true) (.s (decide (0 ≤ i) = true) (.s (decide (i < ↑(ys.length)) = true) (.s (decide (0 ≤ i) = true) (.d (cmpI .neq (xs.getD i.toNat 0) (ys.getD i.toNat 0)) (fun e1 => .lf (Ex.ret, (skT (xs) (ys) (false) (i)))) (fun e1 => .lf (Ex.normal, (skT (xs) (ys) (o) (opI .add .i64 i 1))))))))) (fun e0 => .lf (Ex.exit 0, (skT (xs) (ys) (o) (i))))
theorem skL_L (xs ys : List Int) (o : Bool) (i : Int) : Leaves (roundT Try.prog (X1) 100000 (loopAt Try.prog 19 0) [[0, 1, 4, 5]] [] (skT xs ys o i)) (skL_T xs ys o i) [] [] := by refine ⟨fun _ => ⟨fun _ => ?_, fun _ => ?_⟩, fun _ => ?_⟩ <;> (show _ = _; kernel_rfl)
theorem skL_step (xs : List Int) (ys : List Int) (o : Bool) (i : Int) (σ : St) (e : Ex) (h0 : At (RG Try.prog (loopAt Try.prog 19 0) e σ) (skL_T xs ys o i) [true, true] True) (h1 : At (RG Try.prog (loopAt Try.prog 19 0) e σ) (skL_T xs ys o i) [true, false] True) (h2 : At (RG Try.prog (loopAt Try.prog 19 0) e σ) (skL_T xs ys o i) [false] True) : Runs Try.prog (CallsD Try.prog) (.rounds (loopAt Try.prog 19 0)) (skT xs ys o i).abs e σ := tree_rounds (hX1) (skL_L xs ys o i) ⟨fun e0 => ⟨fun e1 => h0 e0 e1, fun e1 => h1 e0 e1⟩, fun e0 => h2 e0⟩
noncomputable def skF_T (xs : List Int) (ys : List Int) (o : Bool) (i : Int) : Tr D := .d (cmpI .neq ↑(xs.length) ↑(ys.length)) (fun e0 => .lf (bo false)) (fun e0 => .p (.l [[0, 1, 4, 5]] [] (skT xs ys false 0) (Ex.exit 0) (skT xs ys o i)) (.s (Runs Try.prog (CallsD Try.prog) (.code (.loop (loopAt Try.prog 19 0))) (skT xs ys false 0).abs (Ex.exit 0) (skT xs ys o i).abs) (.k ((skT xs ys false 0 = skT xs ys false 0)) rfl (.lf (bo true)))))
theorem skF_L (xs ys : List Int) (o : Bool) (i : Int) : Leaves (fun l => fnX Try.prog (X1) 100000 l 19 [ru xs, ru ys]) (skF_T xs ys o i) [] [] := by refine ⟨fun _ => ?_, fun _ => ?_⟩ <;> (show _ = _; kernel_rfl)
theorem skF_calls (xs ys : List Int) (o : Bool) (i : Int) (res : D) (h0 : At (fun r => res = r) (skF_T xs ys o i) [true] True) (h1 : At (fun r => res = r) (skF_T xs ys o i) [false] True) : CallsD Try.prog 19 [ru xs, ru ys] res := tree_calls (hX1) (skF_L xs ys o i) ⟨fun e0 => h0 e0, fun e0 => h1 e0⟩
noncomputable def skR_T (xs : List Int) (ys : List Int) (o : Bool) (i : Int) : Tr D := .d (cmpI .neq ↑(xs.length) ↑(ys.length)) (fun e0 => .lf (bo false)) (fun e0 => .p (.l [[0, 1, 4, 5]] [] (skT xs ys false 0) Ex.ret (skT xs ys o i)) (.s (Runs Try.prog (CallsD Try.prog) (.code (.loop (loopAt Try.prog 19 0))) (skT xs ys false 0).abs (Ex.ret) (skT xs ys o i).abs) (.k ((skT xs ys false 0 = skT xs ys false 0)) rfl (.lf (bo o)))))
theorem skR_L (xs ys : List Int) (o : Bool) (i : Int) : Leaves (fun l => fnX Try.prog (X1) 100000 l 19 [ru xs, ru ys]) (skR_T xs ys o i) [] [] := by refine ⟨fun _ => ?_, fun _ => ?_⟩ <;> (show _ = _; kernel_rfl)
theorem skR_calls (xs ys : List Int) (o : Bool) (i : Int) (res : D) (h0 : At (fun r => res = r) (skR_T xs ys o i) [true] True) (h1 : At (fun r => res = r) (skR_T xs ys o i) [false] True) : CallsD Try.prog 19 [ru xs, ru ys] res := tree_calls (hX1) (skR_L xs ys o i) ⟨fun e0 => h0 e0, fun e0 => h1 e0⟩
theorem sk_ok (xs ys : List Int) (h : xs.length ≤ 200) : CallsD Try.prog 19 [ru xs, ru ys] (bo (eqB xs ys)) := by
 unfold eqB
 by_cases hl : xs.length = ys.length
 ·rw [getD_same hl]
  refine look_for (b := loopAt Try.prog 19 0) (fun i => skT xs ys false (i : Int)) xs.length (fun i => xs.getD i 0 != ys.getD i 0) (fun v => CallsD Try.prog 19 [ru xs, ru ys] (bo (decide (v < 0)))) ?_ ?_ ?_
  ·intro i hi hp σ e hr
   have hj : i < ys.length := by omega
   refine skL_step xs ys false i σ e ?_ ?_ ?_ <;> dsimp only [At, Tr.q, RG, skL_T]
   ·intro _ g; rw [Int.toNat_natCast, neq_t] at g; simp at hp; exact absurd hp g
   ·intro _ _; rw [succL hi h]; exact ⟨⟨(natLt hj).1, (natLt hj).2, (natLt hi).1, (natLt hi).2, trivial⟩, hr⟩
   ·intro g; rw [lss_f] at g; omega
  ·intro hr
   refine skF_calls xs ys false xs.length _ (fun g => ?_) fun _ => ⟨⟨loop_of_rounds (hr _ _ (skL_step xs ys false xs.length _ _ ?_ ?_ ?_)), trivial⟩, rfl⟩
   ·rw [neq_t] at g; omega
   ·intro g; rw [lss_t] at g; omega
   ·intro g; rw [lss_t] at g; omega
   ·intro _; exact ⟨trivial, rfl, rfl⟩
  ·intro j hj hp hr
   have hj' : j < ys.length := by omega
   refine skR_calls xs ys false j _ (fun g => ?_) fun _ => ⟨⟨loop_of_rounds (hr _ _ (skL_step xs ys false j _ _ ?_ ?_ ?_)), trivial⟩, by simp⟩
   ·rw [neq_t] at g; omega
   ·intro _ _; exact ⟨⟨(natLt hj').1, (natLt hj').2, (natLt hj).1, (natLt hj).2, trivial⟩, rfl, rfl⟩
   ·intro _ g; rw [Int.toNat_natCast, neq_f] at g; simp at hp; exact absurd g hp
   ·intro g; rw [lss_f] at g; omega
 ·rw [decide_eq_false (fun e => hl (by rw [e]))]
  refine skF_calls xs ys false 0 _ (fun _ => ⟨trivial, rfl⟩) fun g => ?_ <;> dsimp only [At, Tr.q, skF_T]
  rw [neq_f] at g; omega
noncomputable def ctL_T (xs : List Int) (ys : List Int) (zs : List Bool) (o : Int) (n : Int) (i : Int) : Tr (Ex × Cs) := .d (cmpI .lss i ↑(xs.length)) (fun e0 => .s (decide (i < ↑(xs.length)) = true) (.s (decide (0 ≤ i) = true) (.d (zs.getD i.toNat false) (fun e1 => .lf (Ex.normal, (ctT (xs) (ys) (zs) (o) (opI .add .i64 n 1) (opI .add .i64 i 1)))) (fun e1 => .lf (Ex.normal, (ctT (xs) (ys) (zs) (o) (n) (opI .add .i64 i 1))))))) (fun e0 => .lf (Ex.exit 0, (ctT (xs) (ys) (zs) (o) (n) (i))))
theorem ctL_L (xs ys : List Int) (zs : List Bool) (o n i : Int) : Leaves (roundT Try.prog (X1) 100000 (loopAt Try.prog 70 0) [[0, 2, 3, 4]] [] (ctT xs ys zs o n i)) (ctL_T xs ys zs o n i) [] [] := by refine ⟨fun _ => ⟨fun _ => ?_, fun _ => ?_⟩, fun _ => ?_⟩ <;> (show _ = _; kernel_rfl)
theorem ctL_step (xs : List Int) (ys : List Int) (zs : List Bool) (o : Int) (n : Int) (i : Int) (σ : St) (e : Ex) (h0 : At (RG Try.prog (loopAt Try.prog 70 0) e σ) (ctL_T xs ys zs o n i) [true, true] True) (h1 : At (RG Try.prog (loopAt Try.prog 70 0) e σ) (ctL_T xs ys zs o n i) [true, false] True) (h2 : At (RG Try.prog (loopAt Try.prog 70 0) e σ) (ctL_T xs ys zs o n i) [false] True) : Runs Try.prog (CallsD Try.prog) (.rounds (loopAt Try.prog 70 0)) (ctT xs ys zs o n i).abs e σ := tree_rounds (hX1) (ctL_L xs ys zs o n i) ⟨fun e0 => ⟨fun e1 => h0 e0 e1, fun e1 => h1 e0 e1⟩, fun e0 => h2 e0⟩
noncomputable def ctF_T (xs : List Int) (ys : List Int) (zs : List Bool) (o : Int) (n : Int) (i : Int) : Tr D := .p (.l [[0, 2, 3, 4]] [] (ctT xs ys zs 0 0 0) (Ex.exit 0) (ctT xs ys zs o n i)) (.s (Runs Try.prog (CallsD Try.prog) (.code (.loop (loopAt Try.prog 70 0))) (ctT xs ys zs 0 0 0).abs (Ex.exit 0) (ctT xs ys zs o n i).abs) (.k ((ctT xs ys zs 0 0 0 = ctT xs ys zs 0 0 0)) rfl (.lf (i64 n))))
theorem ctF_L (xs ys : List Int) (zs : List Bool) (o n i : Int) : Leaves (fun l => fnX Try.prog (X1) 100000 l 70 [cc xs ys zs]) (ctF_T xs ys zs o n i) [] [] := by show _ = _; kernel_rfl
theorem ctF_calls (xs ys : List Int) (zs : List Bool) (o n i : Int) (res : D) (h0 : At (fun r => res = r) (ctF_T xs ys zs o n i) [] True) : CallsD Try.prog 70 [cc xs ys zs] res := tree_calls (hX1) (ctF_L xs ys zs o n i) h0
noncomputable def atL_c0 (xs ys : List Int) (zs : List Bool) (k o i : Int) := atT (xs) (ys) (zs) (k) (o) (opI .add .i64 i 1)
noncomputable def atL_T (xs : List Int) (ys : List Int) (zs : List Bool) (k : Int) (o : Int) (i : Int) : Tr (Ex × Cs) := .d (cmpI .lss i ↑(xs.length)) (fun e0 => .s (decide (i < ↑(xs.length)) = true) (.s (decide (0 ≤ i) = true) (.d (zs.getD i.toNat false) (fun e1 => .p (.c 5) (.s (decide (i < ↑(xs.length)) = true) (.s (decide (0 ≤ i) = true) (.d (cmpI .eql (xs.getD i.toNat 0) k) (fun e2 => .lf (Ex.ret, (atT (xs) (ys) (zs) (k) (i) (i)))) (fun e2 => .lf (Ex.normal, (atL_c0 xs ys zs k o i))))))) (fun e1 => .p (.c 6) (.lf (Ex.normal, (atL_c0 xs ys zs k o i))))))) (fun e0 => .lf (Ex.exit 0, (atT (xs) (ys) (zs) (k) (o) (i))))
theorem atL_L (xs ys : List Int) (zs : List Bool) (k o i : Int) : Leaves (roundT Try.prog (X1) 100000 (loopAt Try.prog 99 0) [[0, 1, 4, 5]] [] (atT xs ys zs k o i)) (atL_T xs ys zs k o i) [] [] := by refine ⟨fun _ => ⟨fun _ => ⟨fun _ => ?_, fun _ => ?_⟩, fun _ => ?_⟩, fun _ => ?_⟩ <;> (show _ = _; kernel_rfl)
theorem atL_step (xs : List Int) (ys : List Int) (zs : List Bool) (k : Int) (o : Int) (i : Int) (σ : St) (e : Ex) (h0 : At (RG Try.prog (loopAt Try.prog 99 0) e σ) (atL_T xs ys zs k o i) [true, true, true] True) (h1 : At (RG Try.prog (loopAt Try.prog 99 0) e σ) (atL_T xs ys zs k o i) [true, true, false] True) (h2 : At (RG Try.prog (loopAt Try.prog 99 0) e σ) (atL_T xs ys zs k o i) [true, false] True) (h3 : At (RG Try.prog (loopAt Try.prog 99 0) e σ) (atL_T xs ys zs k o i) [false] True) : Runs Try.prog (CallsD Try.prog) (.rounds (loopAt Try.prog 99 0)) (atT xs ys zs k o i).abs e σ := tree_rounds (hX1) (atL_L xs ys zs k o i) ⟨fun e0 => ⟨fun e1 => ⟨fun e2 => h0 e0 e1 e2, fun e2 => h1 e0 e1 e2⟩, fun e1 => h2 e0 e1⟩, fun e0 => h3 e0⟩
noncomputable def atF_T (xs : List Int) (ys : List Int) (zs : List Bool) (k : Int) (o : Int) (i : Int) : Tr D := .p (.l [[0, 1, 4, 5]] [] (atT xs ys zs k 0 0) (Ex.exit 0) (atT xs ys zs k o i)) (.s (Runs Try.prog (CallsD Try.prog) (.code (.loop (loopAt Try.prog 99 0))) (atT xs ys zs k 0 0).abs (Ex.exit 0) (atT xs ys zs k o i).abs) (.k ((atT xs ys zs k 0 0 = atT xs ys zs k 0 0)) rfl (.lf (i64 (-1)))))
theorem atF_L (xs ys : List Int) (zs : List Bool) (k o i : Int) : Leaves (fun l => fnX Try.prog (X1) 100000 l 99 [cc xs ys zs, u32 k]) (atF_T xs ys zs k o i) [] [] := by show _ = _; kernel_rfl
theorem atF_calls (xs ys : List Int) (zs : List Bool) (k o i : Int) (res : D) (h0 : At (fun r => res = r) (atF_T xs ys zs k o i) [] True) : CallsD Try.prog 99 [cc xs ys zs, u32 k] res := tree_calls (hX1) (atF_L xs ys zs k o i) h0
noncomputable def atR_T (xs : List Int) (ys : List Int) (zs : List Bool) (k : Int) (o : Int) (i : Int) : Tr D := .p (.l [[0, 1, 4, 5]] [] (atT xs ys zs k 0 0) Ex.ret (atT xs ys zs k o i)) (.s (Runs Try.prog (CallsD Try.prog) (.code (.loop (loopAt Try.prog 99 0))) (atT xs ys zs k 0 0).abs (Ex.ret) (atT xs ys zs k o i).abs) (.k ((atT xs ys zs k 0 0 = atT xs ys zs k 0 0)) rfl (.lf (i64 o))))
theorem atR_L (xs ys : List Int) (zs : List Bool) (k o i : Int) : Leaves (fun l => fnX Try.prog (X1) 100000 l 99 [cc xs ys zs, u32 k]) (atR_T xs ys zs k o i) [] [] := by show _ = _; kernel_rfl
theorem atR_calls (xs ys : List Int) (zs : List Bool) (k o i : Int) (res : D) (h0 : At (fun r => res = r) (atR_T xs ys zs k o i) [] True) : CallsD Try.prog 99 [cc xs ys zs, u32 k] res := tree_calls (hX1) (atR_L xs ys zs k o i) h0
noncomputable def ceL_c0 (xs ys : List Int) (zs : List Bool) (p k o : Int) (b : Bool) (n : Int) (s : Bool) (i : Int) := ceT (xs) (ys) (zs) (p) (k) (o) (b) (n) (s) (opI .add .i64 i 1)
noncomputable def ceL_T (xs : List Int) (ys : List Int) (zs : List Bool) (p : Int) (k : Int) (o : Int) (b : Bool) (n : Int) (s : Bool) (i : Int) : Tr (Ex × Cs) := .d (cmpI .lss i ↑(xs.length)) (fun e0 => .s (decide (i < ↑(xs.length)) = true) (.s (decide (0 ≤ i) = true) (.d (zs.getD i.toNat false) (fun e1 => .p (.c 5) (.s (decide (i < ↑(xs.length)) = true) (.s (decide (0 ≤ i) = true) (.d (cmpI .eql (ys.getD i.toNat 0) p) (fun e2 => .d (s) (fun e3 => .p (.c 5) (.s (decide (i < ↑(xs.length)) = true) (.s (decide (0 ≤ i) = true) (.lf (Ex.normal, (ceT (xs) (ys) (zs) (p) (k) (o) (b) (opI .add .i64 n 1) (cmpI .eql (xs.getD i.toNat 0) k) (opI .add .i64 i 1))))))) (fun e3 => .p (.c 5) (.lf (Ex.normal, (ceT (xs) (ys) (zs) (p) (k) (o) (b) (opI .add .i64 n 1) (false) (opI .add .i64 i 1)))))) (fun e2 => .lf (Ex.normal, (ceL_c0 xs ys zs p k o b n s i))))))) (fun e1 => .p (.c 6) (.lf (Ex.normal, (ceL_c0 xs ys zs p k o b n s i))))))) (fun e0 => .lf (Ex.exit 0, (ceT (xs) (ys) (zs) (p) (k) (o) (b) (n) (s) (i))))
theorem ceL_L (xs ys : List Int) (zs : List Bool) (p k o : Int) (b : Bool) (n : Int) (s : Bool) (i : Int) : Leaves (roundT Try.prog (X1) 100000 (loopAt Try.prog 71 0) [[0, 1, 2, 6, 7, 8, 9, 10]] [] (ceT xs ys zs p k o b n s i)) (ceL_T xs ys zs p k o b n s i) [] [] := by refine ⟨fun _ => ⟨fun _ => ⟨fun _ => ⟨fun _ => ?_, fun _ => ?_⟩, fun _ => ?_⟩, fun _ => ?_⟩, fun _ => ?_⟩ <;> (show _ = _; kernel_rfl)
theorem ceL_step (xs : List Int) (ys : List Int) (zs : List Bool) (p : Int) (k : Int) (o : Int) (b : Bool) (n : Int) (s : Bool) (i : Int) (σ : St) (e : Ex) (h0 : At (RG Try.prog (loopAt Try.prog 71 0) e σ) (ceL_T xs ys zs p k o b n s i) [true, true, true, true] True) (h1 : At (RG Try.prog (loopAt Try.prog 71 0) e σ) (ceL_T xs ys zs p k o b n s i) [true, true, true, false] True) (h2 : At (RG Try.prog (loopAt Try.prog 71 0) e σ) (ceL_T xs ys zs p k o b n s i) [true, true, false] True) (h3 : At (RG Try.prog (loopAt Try.prog 71 0) e σ) (ceL_T xs ys zs p k o b n s i) [true, false] True) (h4 : At (RG Try.prog (loopAt Try.prog 71 0) e σ) (ceL_T xs ys zs p k o b n s i) [false] True) : Runs Try.prog (CallsD Try.prog) (.rounds (loopAt Try.prog 71 0)) (ceT xs ys zs p k o b n s i).abs e σ := tree_rounds (hX1) (ceL_L xs ys zs p k o b n s i) ⟨fun e0 => ⟨fun e1 => ⟨fun e2 => ⟨fun e3 => h0 e0 e1 e2 e3, fun e3 => h1 e0 e1 e2 e3⟩, fun e2 => h2 e0 e1 e2⟩, fun e1 => h3 e0 e1⟩, fun e0 => h4 e0⟩
noncomputable def ceF_T (xs : List Int) (ys : List Int) (zs : List Bool) (p : Int) (k : Int) (o : Int) (b : Bool) (n : Int) (s : Bool) (i : Int) : Tr D := .p (.l [[0, 1, 2, 6, 7, 8, 9, 10]] [] (ceT xs ys zs p k 0 false 0 true 0) (Ex.exit 0) (ceT xs ys zs p k o b n s i)) (.s (Runs Try.prog (CallsD Try.prog) (.code (.loop (loopAt Try.prog 71 0))) (ceT xs ys zs p k 0 false 0 true 0).abs (Ex.exit 0) (ceT xs ys zs p k o b n s i).abs) (.k ((ceT xs ys zs p k 0 false 0 true 0 = ceT xs ys zs p k 0 false 0 true 0)) rfl (.lf (D.tup [i64 n, bo s]))))
theorem ceF_L (xs ys : List Int) (zs : List Bool) (p k o : Int) (b : Bool) (n : Int) (s : Bool) (i : Int) : Leaves (fun l => fnX Try.prog (X1) 100000 l 71 [cc xs ys zs, i64 p, u32 k]) (ceF_T xs ys zs p k o b n s i) [] [] := by show _ = _; kernel_rfl
theorem ceF_calls (xs ys : List Int) (zs : List Bool) (p k o : Int) (b : Bool) (n : Int) (s : Bool) (i : Int) (res : D) (h0 : At (fun r => res = r) (ceF_T xs ys zs p k o b n s i) [] True) : CallsD Try.prog 71 [cc xs ys zs, i64 p, u32 k] res := tree_calls (hX1) (ceF_L xs ys zs p k o b n s i) h0
def ctN (n : Nat) (zs : List Bool) : Nat := cnt (fun i => zs.getD i false) n
theorem ct_ok (xs ys : List Int) (zs : List Bool) (h : xs.length ≤ 200) : CallsD Try.prog 70 [cc xs ys zs] (i64 (ctN xs.length zs)) := by
 refine ctF_calls xs ys zs 0 (ctN xs.length zs) xs.length _ ⟨⟨loop_of_rounds ?_, trivial⟩, rfl⟩
 refine scan_all (fun i => ctT xs ys zs 0 (ctN i zs : Nat) (i : Int)) xs.length (fun _ => True) (fun i hi _ σ e hr => ?_) ?_ xs.length 0 (by omega) (fun _ _ _ => trivial)
 ·refine ctL_step xs ys zs 0 _ i σ e ?_ ?_ ?_ <;> dsimp only [At, Tr.q, RG, ctL_T]
  ·intro _ g
   rw [Int.toNat_natCast] at g
   rw [succL hi h]; unfold ctN; rw [cnt1 hi h]
   refine ⟨⟨(natLt hi).1, (natLt hi).2, trivial⟩, ?_⟩
   simp only [ctN, cnt, g, cond_true] at hr; exact hr
  ·intro _ g
   rw [Int.toNat_natCast] at g
   rw [succL hi h]
   refine ⟨⟨(natLt hi).1, (natLt hi).2, trivial⟩, ?_⟩
   simp only [ctN, cnt, g, cond_false, Nat.add_zero] at hr; exact hr
  ·intro g; rw [lss_f] at g; omega
 ·refine ctL_step xs ys zs 0 _ xs.length _ _ ?_ ?_ ?_ <;> dsimp only [At, Tr.q, RG, ctL_T]
  ·intro g; rw [lss_t] at g; omega
  ·intro g; rw [lss_t] at g; omega
  ·intro _; exact ⟨trivial, rfl, rfl⟩
def atN (xs : List Int) (zs : List Bool) (k : Int) : Int := findI (fun i => zs.getD i false && xs.getD i 0 == k) xs.length 0
theorem at_ok (xs ys : List Int) (zs : List Bool) (k : Int) (h : xs.length ≤ 200) : CallsD Try.prog 99 [cc xs ys zs, u32 k] (i64 (atN xs zs k)) := by
 refine look_for (b := loopAt Try.prog 99 0) (fun i => atT xs ys zs k 0 (i : Int)) xs.length (fun i => zs.getD i false && xs.getD i 0 == k) (fun v => CallsD Try.prog 99 [cc xs ys zs, u32 k] (i64 v)) ?_ ?_ ?_
 ·intro i hi hp σ e hr
  refine atL_step xs ys zs k 0 i σ e ?_ ?_ ?_ ?_ <;> dsimp only [At, Tr.q, RG, atL_T]
  ·intro _ g1 g2; rw [Int.toNat_natCast] at g1; rw [Int.toNat_natCast, eql_t] at g2; rw [g1, g2] at hp; simp at hp
  ·intro _ _ _; unfold atL_c0; rw [succL hi h]; exact ⟨⟨(natLt hi).1, (natLt hi).2, (natLt hi).1, (natLt hi).2, trivial⟩, hr⟩
  ·intro _ _; unfold atL_c0; rw [succL hi h]; exact ⟨⟨(natLt hi).1, (natLt hi).2, trivial⟩, hr⟩
  ·intro g; rw [lss_f] at g; omega
 ·intro hr
  refine atF_calls xs ys zs k 0 xs.length _ ⟨⟨loop_of_rounds (hr _ _ (atL_step xs ys zs k 0 xs.length _ _ ?_ ?_ ?_ ?_)), trivial⟩, rfl⟩
  ·intro g; rw [lss_t] at g; omega
  ·intro g; rw [lss_t] at g; omega
  ·intro g; rw [lss_t] at g; omega
  ·intro _; exact ⟨trivial, rfl, rfl⟩
 ·intro j hj hp hr
  simp only [Bool.and_eq_true, beq_iff_eq] at hp
  refine atR_calls xs ys zs k j j _ ⟨⟨loop_of_rounds (hr _ _ (atL_step xs ys zs k 0 j _ _ ?_ ?_ ?_ ?_)), trivial⟩, rfl⟩
  ·intro _ _ _; exact ⟨⟨(natLt hj).1, (natLt hj).2, (natLt hj).1, (natLt hj).2, trivial⟩, rfl, rfl⟩
  ·intro _ _ g; rw [Int.toNat_natCast, eql_f] at g; exact absurd hp.2 g
  ·intro _ g; rw [Int.toNat_natCast, hp.1] at g; cases g
  ·intro g; rw [lss_f] at g; omega
def ceQ (ys : List Int) (zs : List Bool) (p : Int) (i : Nat) : Bool := zs.getD i false && ys.getD i 0 == p
def ceN (n : Nat) (ys : List Int) (zs : List Bool) (p : Int) : Nat := cnt (ceQ ys zs p) n
def ceS (n : Nat) (xs ys : List Int) (zs : List Bool) (p k : Int) : Bool := alls (fun i => !ceQ ys zs p i || xs.getD i 0 == k) n
theorem ce_ok (xs ys : List Int) (zs : List Bool) (p k : Int) (h : xs.length ≤ 200) : CallsD Try.prog 71 [cc xs ys zs, i64 p, u32 k] (.tup [i64 (ceN xs.length ys zs p), bo (ceS xs.length xs ys zs p k)]) := by
 refine ceF_calls xs ys zs p k 0 false (ceN xs.length ys zs p) (ceS xs.length xs ys zs p k) xs.length _ ⟨⟨loop_of_rounds ?_, trivial⟩, rfl⟩
 refine scan_all (fun i => ceT xs ys zs p k 0 false (ceN i ys zs p : Nat) (ceS i xs ys zs p k) (i : Int)) xs.length (fun _ => True) (fun i hi _ σ e hr => ?_) ?_ xs.length 0 (by omega) (fun _ _ _ => trivial)
 ·refine ceL_step xs ys zs p k 0 false _ _ i σ e ?_ ?_ ?_ ?_ ?_ <;> dsimp only [At, Tr.q, RG, ceL_T]
  ·intro _ g1 g2 g3
   rw [Int.toNat_natCast] at g1; rw [Int.toNat_natCast, eql_t] at g2
   have q : ceQ ys zs p i = true := by unfold ceQ; rw [g1, g2]; simp
   rw [succL hi h]; unfold ceN; rw [cnt1 hi h]
   refine ⟨⟨(natLt hi).1, (natLt hi).2, (natLt hi).1, (natLt hi).2, (natLt hi).1, (natLt hi).2, trivial⟩, ?_⟩
   unfold ceS at g3
   simp only [ceN, ceS, cnt, alls, q, cond_true, g3, Bool.true_and, Bool.not_true, Bool.false_or] at hr
   exact hr
  ·intro _ g1 g2 g3
   rw [Int.toNat_natCast] at g1; rw [Int.toNat_natCast, eql_t] at g2
   have q : ceQ ys zs p i = true := by unfold ceQ; rw [g1, g2]; simp
   rw [succL hi h]; unfold ceN; rw [cnt1 hi h]
   refine ⟨⟨(natLt hi).1, (natLt hi).2, (natLt hi).1, (natLt hi).2, trivial⟩, ?_⟩
   unfold ceS at g3
   simp only [ceN, ceS, cnt, alls, q, cond_true, g3, Bool.false_and] at hr
   exact hr
  ·intro _ g1 g2
   rw [Int.toNat_natCast, eql_f] at g2
   have q : ceQ ys zs p i = false := by unfold ceQ; rw [beq_eq_false_iff_ne.2 g2, Bool.and_false]
   unfold ceL_c0; rw [succL hi h]
   refine ⟨⟨(natLt hi).1, (natLt hi).2, (natLt hi).1, (natLt hi).2, trivial⟩, ?_⟩
   simp only [ceN, ceS, cnt, alls, q, cond_false, Nat.add_zero, Bool.not_false, Bool.true_or, Bool.and_true] at hr
   exact hr
  ·intro _ g1
   rw [Int.toNat_natCast] at g1
   have q : ceQ ys zs p i = false := by simp only [ceQ, g1, Bool.false_and]
   unfold ceL_c0; rw [succL hi h]
   refine ⟨⟨(natLt hi).1, (natLt hi).2, trivial⟩, ?_⟩
   simp only [ceN, ceS, cnt, alls, q, cond_false, Nat.add_zero, Bool.not_false, Bool.true_or, Bool.and_true] at hr
   exact hr
  ·intro g; rw [lss_f] at g; omega
 ·refine ceL_step xs ys zs p k 0 false _ _ xs.length _ _ ?_ ?_ ?_ ?_ ?_ <;> dsimp only [At, Tr.q, RG, ceL_T]
  ·intro g; rw [lss_t] at g; omega
  ·intro g; rw [lss_t] at g; omega
  ·intro g; rw [lss_t] at g; omega
  ·intro g; rw [lss_t] at g; omega
  ·intro _; exact ⟨trivial, rfl, rfl⟩
def inC : List D → Option (D × List Prop)
 | [.rc [.ints .i64 xs], .v (.int .i64 n)] => some (bo (inB xs n), [xs.length ≤ 200])
 | _ => none
theorem inC_ok (args res l) (h : inC args = some (res, l)) (hl : AllP l) : CallsD Try.prog 72 args res := by
 unfold inC at h; split at h
 ·simp only [Option.some.injEq, Prod.mk.injEq] at h
  obtain ⟨rfl, rfl⟩ := h; obtain ⟨h0, _⟩ := hl
  exact in_ok _ _ h0
 ·cases h
def ixC : List D → Option (D × List Prop)
 | [.rc [.ints .i64 xs], .v (.int .i64 n)] => some (i64 (ixN xs n), [xs.length ≤ 200])
 | _ => none
theorem ixC_ok (args res l) (h : ixC args = some (res, l)) (hl : AllP l) : CallsD Try.prog 102 args res := by
 unfold ixC at h; split at h
 ·simp only [Option.some.injEq, Prod.mk.injEq] at h
  obtain ⟨rfl, rfl⟩ := h; obtain ⟨h0, _⟩ := hl
  exact ix_ok _ _ h0
 ·cases h
def siC : List D → Option (D × List Prop)
 | [.rc [.ints .i64 xs], .rc [.ints .i64 ys]] => some (bo (eqB xs ys), [xs.length ≤ 200])
 | _ => none
theorem siC_ok (args res l) (h : siC args = some (res, l)) (hl : AllP l) : CallsD Try.prog 101 args res := by
 unfold siC at h; split at h
 ·simp only [Option.some.injEq, Prod.mk.injEq] at h
  obtain ⟨rfl, rfl⟩ := h; obtain ⟨h0, _⟩ := hl
  exact si_ok _ _ h0
 ·cases h
def skC : List D → Option (D × List Prop)
 | [.rc [.ints .u32 xs], .rc [.ints .u32 ys]] => some (bo (eqB xs ys), [xs.length ≤ 200])
 | _ => none
theorem skC_ok (args res l) (h : skC args = some (res, l)) (hl : AllP l) : CallsD Try.prog 19 args res := by
 unfold skC at h; split at h
 ·simp only [Option.some.injEq, Prod.mk.injEq] at h
  obtain ⟨rfl, rfl⟩ := h; obtain ⟨h0, _⟩ := hl
  exact sk_ok _ _ h0
 ·cases h
def ctC : List D → Option (D × List Prop)
 | [.rc [.ints .u32 xs, .ints .i64 ys, .bools zs]] => some (i64 (ctN xs.length zs), [xs.length ≤ 200])
 | _ => none
theorem ctC_ok (args res l) (h : ctC args = some (res, l)) (hl : AllP l) : CallsD Try.prog 70 args res := by
 unfold ctC at h; split at h
 ·simp only [Option.some.injEq, Prod.mk.injEq] at h
  obtain ⟨rfl, rfl⟩ := h; obtain ⟨h0, _⟩ := hl
  exact ct_ok _ _ _ h0
 ·cases h
def atC : List D → Option (D × List Prop)
 | [.rc [.ints .u32 xs, .ints .i64 ys, .bools zs], .v (.int .u32 k)] => some (i64 (atN xs zs k), [xs.length ≤ 200])
 | _ => none
theorem atC_ok (args res l) (h : atC args = some (res, l)) (hl : AllP l) : CallsD Try.prog 99 args res := by
 unfold atC at h; split at h
 ·simp only [Option.some.injEq, Prod.mk.injEq] at h
  obtain ⟨rfl, rfl⟩ := h; obtain ⟨h0, _⟩ := hl
  exact at_ok _ _ _ _ h0
 ·cases h
def ceC : List D → Option (D × List Prop)
 | [.rc [.ints .u32 xs, .ints .i64 ys, .bools zs], .v (.int .i64 p), .v (.int .u32 k)] => some ((.tup [i64 (ceN xs.length ys zs p), bo (ceS xs.length xs ys zs p k)]), [xs.length ≤ 200])
 | _ => none
theorem ceC_ok (args res l) (h : ceC args = some (res, l)) (hl : AllP l) : CallsD Try.prog 71 args res := by
 unfold ceC at h; split at h
 ·simp only [Option.some.injEq, Prod.mk.injEq] at h
  obtain ⟨rfl, rfl⟩ := h; obtain ⟨h0, _⟩ := hl
  exact ce_ok _ _ _ _ _ h0
 ·cases h
def X2 : Contracts := addCon 72 (.call inC) (addCon 102 (.call ixC) (addCon 101 (.call siC) (addCon 19 (.call skC) (addCon 70 (.call ctC) (addCon 99 (.call atC) (addCon 71 (.call ceC) X1))))))
theorem hX2 : ConOK Try.prog X2 := addCall_ok inC_ok (addCall_ok ixC_ok (addCall_ok siC_ok (addCall_ok skC_ok (addCall_ok ctC_ok (addCall_ok atC_ok (addCall_ok ceC_ok hX1))))))
end TableS
end

section
namespace TableS
open Go Go.Dam Go.Proofs
set_option maxRecDepth 1000000
noncomputable def frT (o : Bool) (k : Nat) (i : Int) (nx : List Int) (us : List Bool) (f : Int) (l : List Int) : Cs := ⟨TT.of [(1, D.ptr 32 0), (2, D.v (Value.slice none 0 0)), (3, bo o), (4, D.sl 9001 0 k ⟨1, 0⟩), (5, i64 i)], 34, [], [(32, BX.cells [ri nx, rb us, i64 f] false), (9001, BX.row [.ints .i64 l] false)], none, 0⟩
noncomputable def alT (o : Bool) (k : Nat) (i : Int) (ps nx : List Int) (h t : Int) (l : List Int) : Cs := ⟨TT.of [(1, D.ptr 32 0), (2, D.v (Value.slice none 0 0)), (3, bo o), (4, D.sl 9001 0 k ⟨1, 0⟩), (5, i64 i)], 34, [], [(32, BX.cells [ri ps, ri nx, i64 h, i64 t] false), (9001, BX.row [.ints .i64 l] false)], none, 0⟩
noncomputable def lcT (r n la i : Int) (k : Nat) (ps nx : List Int) (h t : Int) (ys : List Bool) : Cs := ⟨TT.of [(1, D.ptr 32 0), (2, i64 r), (3, i64 n), (4, D.sl 832 0 k ⟨1, 0⟩), (5, i64 la), (6, i64 i)], 92, [], [(32, BX.cells [ri ps, ri nx, i64 h, i64 t] false), (832, BX.row [.bools ys] false)], none, 0⟩
noncomputable def mdT (n : Int) (xs : List Int) (i : Int) (j k : Nat) (ps nx : List Int) : Cs := ⟨TT.of [(0, i64 n), (1, ri xs), (4, D.ptr 128 0), (5, D.ptr 160 0), (6, i64 i)], 67, [], [(128, BX.cells [.v (.slice none 0 0), .v (.slice none 0 0), i64 0, i64 0] false), (160, BX.cells [D.sl 9001 0 j ⟨1, 0⟩, D.sl 9002 0 k ⟨1, 0⟩, i64 (-1), i64 (-1)] false), (9001, BX.row [.ints .i64 ps] false), (9002, BX.row [.ints .i64 nx] false)], none, 0⟩
noncomputable def akT2 (r : Int) (k : Nat) (us0 : List Bool) (m i : Int) (xs : List Int) (us : List Bool) (f : Int) (ys : List Bool) : Cs := ⟨TT.of [(1, (D.ptr 32 0)), (2, i64 r), (4, (D.sl 832 0 k ⟨1, 0⟩)), (53, rb us0), (54, i64 m), (55, i64 i)], 77, [], [(32, BX.cells [ri xs, rb us, i64 f] false), (832, BX.row [.bools ys] false)], none, 0⟩
noncomputable def lcT2 (r la : Int) (k : Nat) (m i : Int) (ps nx : List Int) (h t : Int) (ys : List Bool) : Cs := ⟨TT.of [(1, D.ptr 32 0), (2, i64 r), (5, i64 la), (62, D.sl 832 0 k ⟨1, 0⟩), (63, i64 m), (64, i64 i)], 92, [], [(32, BX.cells [ri ps, ri nx, i64 h, i64 t] false), (832, BX.row [.bools ys] false)], none, 0⟩
noncomputable def mdT2 (xs : List Int) (i : Int) (j k : Nat) (h t : Int) (ps nx : List Int) : Cs := ⟨TT.of [(1, ri xs), (4, D.ptr 128 0), (5, D.ptr 160 0), (7, i64 i)], 67, [], [(128, BX.cells [.v (.slice none 0 0), .v (.slice none 0 0), i64 0, i64 0] false), (160, BX.cells [D.sl 9001 0 j ⟨1, 0⟩, D.sl 9002 0 k ⟨1, 0⟩, i64 h, i64 t] false), (9001, BX.row [.ints .i64 ps] false), (9002, BX.row [.ints .i64 nx] false)], none, 0⟩
end TableS
end

section
namespace TableS
open Go Go.Dam Go.Proofs
set_option maxRecDepth 1000000
/-- A list without a number twice, in a range, is no longer than the range. -/
theorem pigeon : ∀ (n : Nat) (l : List Int), l.Nodup → (∀ x ∈ l, 0 ≤ x ∧ x < (n : Int)) → l.length ≤ n
 | 0, l, _, h => by
  cases l with
  | nil => exact Nat.le_refl _
  | cons a l => have := h a (by simp); omega
 | n + 1, l, hn, h => by
  have := pigeon n (l.erase (n : Int)) (hn.erase _) fun x hx => by
   rw [hn.mem_erase_iff] at hx
   have := h x hx.2
   omega
  by_cases hm : (n : Int) ∈ l
  ·rw [List.length_erase_of_mem hm] at this; omega
  ·rw [List.erase_of_not_mem hm] at this; omega
/-- The list that begins at a place: it leads out, or has a place twice: none. -/
def chain (nx : List Int) : Nat → Int → List Int → Option (List Int)
 | 0, _, _ => none
 | d + 1, i, l => if i = -1 then some l else if i < 0 ∨ (nx.length : Int) ≤ i ∨ i ∈ l then none else chain nx d (nx.getD i.toNat 0) (l ++ [i])
def okL (n : Nat) (l : List Int) : Prop := l.Nodup ∧ ∀ x ∈ l, 0 ≤ x ∧ x < (n : Int)
theorem okL_snoc {n : Nat} {l : List Int} {i : Int} (h : okL n l) (h0 : 0 ≤ i) (h1 : i < (n : Int)) (h2 : i ∉ l) : okL n (l ++ [i]) := by
 refine ⟨?_, ?_⟩
 ·rw [List.nodup_append]
  refine ⟨h.1, by simp, ?_⟩
  intro a ha b hb e
  simp at hb; subst hb; subst e; exact h2 ha
 ·intro x hx
  rcases List.mem_append.1 hx with hx | hx
  ·exact h.2 x hx
  ·simp at hx; subst hx; exact ⟨h0, h1⟩
theorem okL_nil (n : Nat) : okL n [] := ⟨by simp, by simp⟩
theorem chain_ok {nx : List Int} : ∀ {d : Nat} {i : Int} {l l' : List Int}, okL nx.length l → chain nx d i l = some l' → okL nx.length l'
 | 0, _, _, _, _, h => by cases h
 | d + 1, i, l, l', ho, h => by
  simp only [chain] at h
  split at h
  ·simp only [Option.some.injEq] at h; subst h; exact ho
  ·split at h
   ·cases h
   next hc =>
    exact chain_ok (okL_snoc ho (by omega) (by omega) fun hm => hc (.inr (.inr hm))) h
noncomputable def frL_T (o : Bool) (k : Nat) (i : Int) (nx : List Int) (us : List Bool) (f : Int) (l : List Int) : Tr (Ex × Cs) := .d (cmpI .neq i (-1)) (fun e0 => .d (cmpI .lss i 0) (fun e1 => .p (.c 7) (.lf (Ex.ret, (frT (false) (k) (i) (nx) (us) (f) (l))))) (fun e1 => .p (.c 3) (.d (cmpI .geq i ↑(nx.length)) (fun e2 => .p (.c 2) (.lf (Ex.ret, (frT (false) (k) (i) (nx) (us) (f) (l))))) (fun e2 => .p (.c 1) (.s (l.length ≤ 200) (.s (k = l.length) (.d (inB l i) (fun e3 => .lf (Ex.ret, (frT (false) (k) (i) (nx) (us) (f) (l)))) (fun e3 => .s (l.length = l.length) (.s (k = l.length) (.s ((k + 1) * 8 ≤ 17592186044416) (.s (decide (i < ↑(nx.length)) = true) (.s (decide (0 ≤ i) = true) (.lf (Ex.normal, (frT (o) (k + 1) (nx.getD i.toNat 0) (nx) (us) (f) (l ++ [i])))))))))))))))) (fun e0 => .lf (Ex.exit 0, (frT (o) (k) (i) (nx) (us) (f) (l))))
theorem frL_L (o : Bool) (k : Nat) (i : Int) (nx : List Int) (us : List Bool) (f : Int) (l : List Int) : Leaves (roundT Try.prog (X2) 100000 (loopAt Try.prog 95 0) [[1, 2, 3, 4, 5]] [(32, 32), (9001, 9001)] (frT o k i nx us f l)) (frL_T o k i nx us f l) [] [] := by refine ⟨fun _ => ⟨fun _ => ?_, fun _ => ⟨fun _ => ?_, fun _ => ⟨fun _ => ?_, fun _ => ?_⟩⟩⟩, fun _ => ?_⟩ <;> (show _ = _; kernel_rfl)
theorem frL_step (o : Bool) (k : Nat) (i : Int) (nx : List Int) (us : List Bool) (f : Int) (l : List Int) (σ : St) (e : Ex) (h0 : At (RG Try.prog (loopAt Try.prog 95 0) e σ) (frL_T o k i nx us f l) [true, true] True) (h1 : At (RG Try.prog (loopAt Try.prog 95 0) e σ) (frL_T o k i nx us f l) [true, false, true] True) (h2 : At (RG Try.prog (loopAt Try.prog 95 0) e σ) (frL_T o k i nx us f l) [true, false, false, true] True) (h3 : At (RG Try.prog (loopAt Try.prog 95 0) e σ) (frL_T o k i nx us f l) [true, false, false, false] True) (h4 : At (RG Try.prog (loopAt Try.prog 95 0) e σ) (frL_T o k i nx us f l) [false] True) : Runs Try.prog (CallsD Try.prog) (.rounds (loopAt Try.prog 95 0)) (frT o k i nx us f l).abs e σ := tree_rounds (hX2) (frL_L o k i nx us f l) ⟨fun e0 => ⟨fun e1 => h0 e0 e1, fun e1 => ⟨fun e2 => h1 e0 e1 e2, fun e2 => ⟨fun e3 => h2 e0 e1 e2 e3, fun e3 => h3 e0 e1 e2 e3⟩⟩⟩, fun e0 => h4 e0⟩
noncomputable def frF_T (o : Bool) (k : Nat) (i : Int) (nx : List Int) (us : List Bool) (f : Int) (l : List Int) : Tr D := .p (.k [Cast.nil 4 9001 1 [.ints .i64 []]]) (.p (.l [[1, 2, 3, 4, 5]] [(32, 32), (9001, 9001)] (frT false 0 f nx us f []) (Ex.exit 0) (frT o k i nx us f l)) (.s (Runs Try.prog (CallsD Try.prog) (.code (.loop (loopAt Try.prog 95 0))) (frT false 0 f nx us f []).abs (Ex.exit 0) (frT o k i nx us f l).abs) (.k ((frT false 0 f nx us f [] = frT false 0 f nx us f [])) rfl (.s (k = l.length) (.lf (D.tup [D.oc [.ints .i64 l], bo true]))))))
theorem frF_L (o : Bool) (k : Nat) (i : Int) (nx : List Int) (us : List Bool) (f : Int) (l : List Int) : Leaves (fun l => fnX Try.prog (X2) 100000 l 95 [D.agg [ri nx, rb us, i64 f]]) (frF_T o k i nx us f l) [] [] := by show _ = _; kernel_rfl
theorem frF_calls (o : Bool) (k : Nat) (i : Int) (nx : List Int) (us : List Bool) (f : Int) (l : List Int) (res : D) (h0 : At (fun r => res = r) (frF_T o k i nx us f l) [] True) : CallsD Try.prog 95 [D.agg [ri nx, rb us, i64 f]] res := tree_calls (hX2) (frF_L o k i nx us f l) h0
noncomputable def frR_T (o : Bool) (k : Nat) (i : Int) (nx : List Int) (us : List Bool) (f : Int) (l : List Int) : Tr D := .p (.k [Cast.nil 4 9001 1 [.ints .i64 []]]) (.p (.l [[1, 2, 3, 4, 5]] [(32, 32), (9001, 9001)] (frT false 0 f nx us f []) Ex.ret (frT o k i nx us f l)) (.s (Runs Try.prog (CallsD Try.prog) (.code (.loop (loopAt Try.prog 95 0))) (frT false 0 f nx us f []).abs (Ex.ret) (frT o k i nx us f l).abs) (.k ((frT false 0 f nx us f [] = frT false 0 f nx us f [])) rfl (.lf (D.tup [D.v (Value.slice none 0 0), bo o])))))
theorem frR_L (o : Bool) (k : Nat) (i : Int) (nx : List Int) (us : List Bool) (f : Int) (l : List Int) : Leaves (fun l => fnX Try.prog (X2) 100000 l 95 [D.agg [ri nx, rb us, i64 f]]) (frR_T o k i nx us f l) [] [] := by show _ = _; kernel_rfl
theorem frR_calls (o : Bool) (k : Nat) (i : Int) (nx : List Int) (us : List Bool) (f : Int) (l : List Int) (res : D) (h0 : At (fun r => res = r) (frR_T o k i nx us f l) [] True) : CallsD Try.prog 95 [D.agg [ri nx, rb us, i64 f]] res := tree_calls (hX2) (frR_L o k i nx us f l) h0
noncomputable def alL_T (o : Bool) (k : Nat) (i : Int) (ps : List Int) (nx : List Int) (h : Int) (t : Int) (l : List Int) : Tr (Ex × Cs) := .d (cmpI .neq i (-1)) (fun e0 => .d (cmpI .lss i 0) (fun e1 => .p (.c 7) (.lf (Ex.ret, (alT (false) (k) (i) (ps) (nx) (h) (t) (l))))) (fun e1 => .p (.c 3) (.d (cmpI .geq i ↑(nx.length)) (fun e2 => .p (.c 2) (.lf (Ex.ret, (alT (false) (k) (i) (ps) (nx) (h) (t) (l))))) (fun e2 => .p (.c 1) (.s (l.length ≤ 200) (.s (k = l.length) (.d (inB l i) (fun e3 => .lf (Ex.ret, (alT (false) (k) (i) (ps) (nx) (h) (t) (l)))) (fun e3 => .s (l.length = l.length) (.s (k = l.length) (.s ((k + 1) * 8 ≤ 17592186044416) (.s (decide (i < ↑(nx.length)) = true) (.s (decide (0 ≤ i) = true) (.lf (Ex.normal, (alT (o) (k + 1) (nx.getD i.toNat 0) (ps) (nx) (h) (t) (l ++ [i])))))))))))))))) (fun e0 => .lf (Ex.exit 0, (alT (o) (k) (i) (ps) (nx) (h) (t) (l))))
theorem alL_L (o : Bool) (k : Nat) (i : Int) (ps nx : List Int) (h t : Int) (l : List Int) : Leaves (roundT Try.prog (X2) 100000 (loopAt Try.prog 69 0) [[1, 2, 3, 4, 5]] [(32, 32), (9001, 9001)] (alT o k i ps nx h t l)) (alL_T o k i ps nx h t l) [] [] := by refine ⟨fun _ => ⟨fun _ => ?_, fun _ => ⟨fun _ => ?_, fun _ => ⟨fun _ => ?_, fun _ => ?_⟩⟩⟩, fun _ => ?_⟩ <;> (show _ = _; kernel_rfl)
theorem alL_step (o : Bool) (k : Nat) (i : Int) (ps : List Int) (nx : List Int) (h : Int) (t : Int) (l : List Int) (σ : St) (e : Ex) (h0 : At (RG Try.prog (loopAt Try.prog 69 0) e σ) (alL_T o k i ps nx h t l) [true, true] True) (h1 : At (RG Try.prog (loopAt Try.prog 69 0) e σ) (alL_T o k i ps nx h t l) [true, false, true] True) (h2 : At (RG Try.prog (loopAt Try.prog 69 0) e σ) (alL_T o k i ps nx h t l) [true, false, false, true] True) (h3 : At (RG Try.prog (loopAt Try.prog 69 0) e σ) (alL_T o k i ps nx h t l) [true, false, false, false] True) (h4 : At (RG Try.prog (loopAt Try.prog 69 0) e σ) (alL_T o k i ps nx h t l) [false] True) : Runs Try.prog (CallsD Try.prog) (.rounds (loopAt Try.prog 69 0)) (alT o k i ps nx h t l).abs e σ := tree_rounds (hX2) (alL_L o k i ps nx h t l) ⟨fun e0 => ⟨fun e1 => h0 e0 e1, fun e1 => ⟨fun e2 => h1 e0 e1 e2, fun e2 => ⟨fun e3 => h2 e0 e1 e2 e3, fun e3 => h3 e0 e1 e2 e3⟩⟩⟩, fun e0 => h4 e0⟩
noncomputable def alF_T (o : Bool) (k : Nat) (i : Int) (ps : List Int) (nx : List Int) (h : Int) (t : Int) (l : List Int) : Tr D := .p (.k [Cast.nil 4 9001 1 [.ints .i64 []]]) (.p (.l [[1, 2, 3, 4, 5]] [(32, 32), (9001, 9001)] (alT false 0 h ps nx h t []) (Ex.exit 0) (alT o k i ps nx h t l)) (.s (Runs Try.prog (CallsD Try.prog) (.code (.loop (loopAt Try.prog 69 0))) (alT false 0 h ps nx h t []).abs (Ex.exit 0) (alT o k i ps nx h t l).abs) (.k ((alT false 0 h ps nx h t [] = alT false 0 h ps nx h t [])) rfl (.s (k = l.length) (.lf (D.tup [D.oc [.ints .i64 l], bo true]))))))
theorem alF_L (o : Bool) (k : Nat) (i : Int) (ps nx : List Int) (h t : Int) (l : List Int) : Leaves (fun l => fnX Try.prog (X2) 100000 l 69 [D.agg [ri ps, ri nx, i64 h, i64 t]]) (alF_T o k i ps nx h t l) [] [] := by show _ = _; kernel_rfl
theorem alF_calls (o : Bool) (k : Nat) (i : Int) (ps nx : List Int) (h t : Int) (l : List Int) (res : D) (h0 : At (fun r => res = r) (alF_T o k i ps nx h t l) [] True) : CallsD Try.prog 69 [D.agg [ri ps, ri nx, i64 h, i64 t]] res := tree_calls (hX2) (alF_L o k i ps nx h t l) h0
noncomputable def alR_T (o : Bool) (k : Nat) (i : Int) (ps : List Int) (nx : List Int) (h : Int) (t : Int) (l : List Int) : Tr D := .p (.k [Cast.nil 4 9001 1 [.ints .i64 []]]) (.p (.l [[1, 2, 3, 4, 5]] [(32, 32), (9001, 9001)] (alT false 0 h ps nx h t []) Ex.ret (alT o k i ps nx h t l)) (.s (Runs Try.prog (CallsD Try.prog) (.code (.loop (loopAt Try.prog 69 0))) (alT false 0 h ps nx h t []).abs (Ex.ret) (alT o k i ps nx h t l).abs) (.k ((alT false 0 h ps nx h t [] = alT false 0 h ps nx h t [])) rfl (.lf (D.tup [D.v (Value.slice none 0 0), bo o])))))
theorem alR_L (o : Bool) (k : Nat) (i : Int) (ps nx : List Int) (h t : Int) (l : List Int) : Leaves (fun l => fnX Try.prog (X2) 100000 l 69 [D.agg [ri ps, ri nx, i64 h, i64 t]]) (alR_T o k i ps nx h t l) [] [] := by show _ = _; kernel_rfl
theorem alR_calls (o : Bool) (k : Nat) (i : Int) (ps nx : List Int) (h t : Int) (l : List Int) (res : D) (h0 : At (fun r => res = r) (alR_T o k i ps nx h t l) [] True) : CallsD Try.prog 69 [D.agg [ri ps, ri nx, i64 h, i64 t]] res := tree_calls (hX2) (alR_L o k i ps nx h t l) h0
theorem fr_run (nx : List Int) (us : List Bool) (f : Int) (hn : nx.length ≤ 200) : ∀ (d : Nat) (i : Int) (l : List Int), okL nx.length l → l.length + d = nx.length + 1 →
  match chain nx d i l with
  | some l' => Runs Try.prog (CallsD Try.prog) (.rounds (loopAt Try.prog 95 0)) (frT false l.length i nx us f l).abs (.exit 0) (frT false l'.length (-1) nx us f l').abs
  | none => ∃ (k : Nat) (i' : Int) (l' : List Int), Runs Try.prog (CallsD Try.prog) (.rounds (loopAt Try.prog 95 0)) (frT false l.length i nx us f l).abs .ret (frT false k i' nx us f l').abs
 | 0, i, l, ho, hd => by
  have := pigeon _ _ ho.1 ho.2
  omega
 | d + 1, i, l, ho, hd => by
  have hl := pigeon _ _ ho.1 ho.2
  simp only [chain]
  by_cases c1 : i = -1
  ·subst c1
   simp only [if_true]
   refine frL_step false l.length (-1) nx us f l _ _ ?_ ?_ ?_ ?_ ?_ <;> dsimp only [At, Tr.q, RG, frL_T]
   ·intro g; rw [neq_t] at g; exact absurd rfl g
   ·intro g; rw [neq_t] at g; exact absurd rfl g
   ·intro g; rw [neq_t] at g; exact absurd rfl g
   ·intro g; rw [neq_t] at g; exact absurd rfl g
   ·intro _; exact ⟨trivial, rfl, rfl⟩
  ·rw [if_neg c1]
   by_cases c2 : i < 0 ∨ (nx.length : Int) ≤ i ∨ i ∈ l
   ·rw [if_pos c2]
    refine ⟨l.length, i, l, frL_step false l.length i nx us f l _ _ ?_ ?_ ?_ ?_ ?_⟩
    ·intro _ _; exact ⟨trivial, rfl, rfl⟩
    ·intro _ _ _; exact ⟨trivial, rfl, rfl⟩
    ·intro _ _ _ _; exact ⟨⟨rfl, by omega, trivial⟩, rfl, rfl⟩
    ·intro _ g1 g2 g3
     rw [lss_f] at g1; rw [geq_f] at g2; simp only [inB, decide_eq_false_iff_not] at g3
     rcases c2 with c | c | c
     ·omega
     ·omega
     ·exact absurd c g3
    ·intro g; rw [neq_f] at g; exact absurd g c1
   ·rw [if_neg c2]
    have hi0 : 0 ≤ i := by omega
    have hi1 : i < (nx.length : Int) := by omega
    have hi2 : i ∉ l := fun h => c2 (.inr (.inr h))
    have ih := fr_run nx us f hn d (nx.getD i.toNat 0) (l ++ [i]) (okL_snoc ho hi0 hi1 hi2) (by simp; omega)
    have step : ∀ (σ : St) (e : Ex), Runs Try.prog (CallsD Try.prog) (.rounds (loopAt Try.prog 95 0)) (frT false (l ++ [i]).length (nx.getD i.toNat 0) nx us f (l ++ [i])).abs e σ → Runs Try.prog (CallsD Try.prog) (.rounds (loopAt Try.prog 95 0)) (frT false l.length i nx us f l).abs e σ := by
     intro σ e hr
     refine frL_step false l.length i nx us f l σ e ?_ ?_ ?_ ?_ ?_ <;> dsimp only [At, Tr.q, RG, frL_T]
     ·intro _ g; rw [lss_t] at g; omega
     ·intro _ _ g; rw [geq_t] at g; omega
     ·intro _ _ _ g; simp only [inB, decide_eq_true_eq] at g; exact absurd g hi2
     ·intro _ _ _ _
      refine ⟨⟨by simpa using hi0, by simpa using hi1, by omega, rfl, rfl, rfl, by omega, trivial⟩, ?_⟩
      simpa using hr
     ·intro g; rw [neq_f] at g; exact absurd g c1
    cases hch : chain nx d (nx.getD i.toNat 0) (l ++ [i]) with
    | some l' => rw [hch] at ih; exact step _ _ ih
    | none =>
     rw [hch] at ih
     obtain ⟨k, i', l', h⟩ := ih
     exact ⟨k, i', l', step _ _ h⟩
/-- The free list, and whether it is one. -/
def frD (nx : List Int) (f : Int) : D := match chain nx (nx.length + 1) f [] with
 | some l => .tup [oi l, bo true]
 | none => .tup [.v (.slice none 0 0), bo false]
theorem fr_ok (nx : List Int) (us : List Bool) (f : Int) (h : nx.length ≤ 200) : CallsD Try.prog 95 [.agg [ri nx, rb us, i64 f]] (frD nx f) := by
 have hr := fr_run nx us f h (nx.length + 1) f [] (okL_nil _) (by simp)
 unfold frD
 cases hc : chain nx (nx.length + 1) f [] with
 | some l =>
  rw [hc] at hr
  exact frF_calls false l.length (-1) nx us f l _ ⟨⟨rfl, loop_of_rounds hr, trivial⟩, rfl⟩
 | none =>
  rw [hc] at hr
  obtain ⟨k, i, l, hr⟩ := hr
  exact frR_calls false k i nx us f l _ ⟨⟨loop_of_rounds hr, trivial⟩, rfl⟩
theorem al_run (ps nx : List Int) (h t : Int) (hn : nx.length ≤ 200) : ∀ (d : Nat) (i : Int) (l : List Int), okL nx.length l → l.length + d = nx.length + 1 →
  match chain nx d i l with
  | some l' => Runs Try.prog (CallsD Try.prog) (.rounds (loopAt Try.prog 69 0)) (alT false l.length i ps nx h t l).abs (.exit 0) (alT false l'.length (-1) ps nx h t l').abs
  | none => ∃ (k : Nat) (i' : Int) (l' : List Int), Runs Try.prog (CallsD Try.prog) (.rounds (loopAt Try.prog 69 0)) (alT false l.length i ps nx h t l).abs .ret (alT false k i' ps nx h t l').abs
 | 0, i, l, ho, hd => by
  have := pigeon _ _ ho.1 ho.2
  omega
 | d + 1, i, l, ho, hd => by
  have hl := pigeon _ _ ho.1 ho.2
  simp only [chain]
  by_cases c1 : i = -1
  ·subst c1
   simp only [if_true]
   refine alL_step false l.length (-1) ps nx h t l _ _ ?_ ?_ ?_ ?_ ?_ <;> dsimp only [At, Tr.q, RG, alL_T]
   ·intro g; rw [neq_t] at g; exact absurd rfl g
   ·intro g; rw [neq_t] at g; exact absurd rfl g
   ·intro g; rw [neq_t] at g; exact absurd rfl g
   ·intro g; rw [neq_t] at g; exact absurd rfl g
   ·intro _; exact ⟨trivial, rfl, rfl⟩
  ·rw [if_neg c1]
   by_cases c2 : i < 0 ∨ (nx.length : Int) ≤ i ∨ i ∈ l
   ·rw [if_pos c2]
    refine ⟨l.length, i, l, alL_step false l.length i ps nx h t l _ _ ?_ ?_ ?_ ?_ ?_⟩
    ·intro _ _; exact ⟨trivial, rfl, rfl⟩
    ·intro _ _ _; exact ⟨trivial, rfl, rfl⟩
    ·intro _ _ _ _; exact ⟨⟨rfl, by omega, trivial⟩, rfl, rfl⟩
    ·intro _ g1 g2 g3
     rw [lss_f] at g1; rw [geq_f] at g2; simp only [inB, decide_eq_false_iff_not] at g3
     rcases c2 with c | c | c
     ·omega
     ·omega
     ·exact absurd c g3
    ·intro g; rw [neq_f] at g; exact absurd g c1
   ·rw [if_neg c2]
    have hi0 : 0 ≤ i := by omega
    have hi1 : i < (nx.length : Int) := by omega
    have hi2 : i ∉ l := fun hh => c2 (.inr (.inr hh))
    have ih := al_run ps nx h t hn d (nx.getD i.toNat 0) (l ++ [i]) (okL_snoc ho hi0 hi1 hi2) (by simp; omega)
    have step : ∀ (σ : St) (e : Ex), Runs Try.prog (CallsD Try.prog) (.rounds (loopAt Try.prog 69 0)) (alT false (l ++ [i]).length (nx.getD i.toNat 0) ps nx h t (l ++ [i])).abs e σ → Runs Try.prog (CallsD Try.prog) (.rounds (loopAt Try.prog 69 0)) (alT false l.length i ps nx h t l).abs e σ := by
     intro σ e hr
     refine alL_step false l.length i ps nx h t l σ e ?_ ?_ ?_ ?_ ?_ <;> dsimp only [At, Tr.q, RG, alL_T]
     ·intro _ g; rw [lss_t] at g; omega
     ·intro _ _ g; rw [geq_t] at g; omega
     ·intro _ _ _ g; simp only [inB, decide_eq_true_eq] at g; exact absurd g hi2
     ·intro _ _ _ _
      refine ⟨⟨by simpa using hi0, by simpa using hi1, by omega, rfl, rfl, rfl, by omega, trivial⟩, ?_⟩
      simpa using hr
     ·intro g; rw [neq_f] at g; exact absurd g c1
    cases hch : chain nx d (nx.getD i.toNat 0) (l ++ [i]) with
    | some l' => rw [hch] at ih; exact step _ _ ih
    | none =>
     rw [hch] at ih
     obtain ⟨k, i', l', hh⟩ := ih
     exact ⟨k, i', l', step _ _ hh⟩
theorem al_ok (ps nx : List Int) (h t : Int) (hn : nx.length ≤ 200) : CallsD Try.prog 69 [.agg [ri ps, ri nx, i64 h, i64 t]] (frD nx h) := by
 have hr := al_run ps nx h t hn (nx.length + 1) h [] (okL_nil _) (by simp)
 unfold frD
 cases hc : chain nx (nx.length + 1) h [] with
 | some l =>
  rw [hc] at hr
  exact alF_calls false l.length (-1) ps nx h t l _ ⟨⟨rfl, loop_of_rounds hr, trivial⟩, rfl⟩
 | none =>
  rw [hc] at hr
  obtain ⟨k, i, l, hr⟩ := hr
  exact alR_calls false k i ps nx h t l _ ⟨⟨loop_of_rounds hr, trivial⟩, rfl⟩
end TableS
end

section
namespace TableS
open Go Go.Dam Go.Proofs
set_option maxRecDepth 1000000
noncomputable def hmA_T (k : Int) : Tr D := .q (true) (.lf (i64 (IntKind.i64.wrap (opI .shr .u32 (opI .mul .u32 k 2654435769) 28))))
theorem hmA_L (k : Int) : Leaves (fun l => fnX Try.prog (X2) 100000 l 107 [u32 k]) (hmA_T k) [] [] := by show _ = _; kernel_rfl
theorem hmA_calls (k : Int) (res : D) (h0 : At (fun r => res = r) (hmA_T k) [] True) : CallsD Try.prog 107 [u32 k] res := tree_calls (hX2) (hmA_L k) h0
noncomputable def hmB_T (k : Int) : Tr D := .q (false) (.q (false) (.lf (i64 (IntKind.i64.wrap (opI .quo .u64 (opI .rem .u64 (opI .mul .u64 (IntKind.u64.wrap k) 2654435769) 4294967296) 268435456)))))
theorem hmB_L (k : Int) : Leaves (fun l => fnX Try.prog (X2) 100000 l 100 [u32 k]) (hmB_T k) [] [] := by show _ = _; kernel_rfl
theorem hmB_calls (k : Int) (res : D) (h0 : At (fun r => res = r) (hmB_T k) [] True) : CallsD Try.prog 100 [u32 k] res := tree_calls (hX2) (hmB_L k) h0
noncomputable def cnA_T (xs : List Int) (n : Int) : Tr D := .s (xs.length ≤ 200) (.lf (D.v (Value.bool (cmpI .geq (ixN xs n) 0))))
theorem cnA_L (xs : List Int) (n : Int) : Leaves (fun l => fnX Try.prog (X2) 100000 l 63 [ri xs, i64 n]) (cnA_T xs n) [] [] := by show _ = _; kernel_rfl
theorem cnA_calls (xs : List Int) (n : Int) (res : D) (h0 : At (fun r => res = r) (cnA_T xs n) [] True) : CallsD Try.prog 63 [ri xs, i64 n] res := tree_calls (hX2) (cnA_L xs n) h0
def homeN (k : Int) : Int := k * 2654435769 % 4294967296 / 268435456
def inU (k : Int) : Prop := 0 ≤ k ∧ k < 4294967296
theorem homeN_lt {k : Int} (h : inU k) : 0 ≤ homeN k ∧ homeN k < 16 := by unfold homeN; omega
theorem shr28 {a : Int} (h0 : 0 ≤ a) (h1 : a < 4294967296) : opI .shr .u32 a 28 = a / 268435456 := by
 show a.fdiv (2 ^ min (28 : Int).toNat 32) = _
 rw [Int.fdiv_eq_ediv_of_nonneg _ (by decide)]; rfl
theorem home_eq {k : Int} (h : inU k) : IntKind.i64.wrap (opI .shr .u32 (opI .mul .u32 k 2654435769) 28) = homeN k := by
 obtain ⟨h0, h1⟩ := h
 rw [opI_mul, wrap_u32, shr28 (by omega) (by omega), wrap_i64_of (by omega) (by omega)]; rfl
theorem hmA_ok (k : Int) (h : inU k) : CallsD Try.prog 107 [u32 k] (i64 (homeN k)) := hmA_calls k _ ⟨trivial, by rw [home_eq h]⟩
theorem hmB_ok (k : Int) (h : inU k) : CallsD Try.prog 100 [u32 k] (i64 (homeN k)) := by
 refine hmB_calls k _ ⟨trivial, ?_⟩
 obtain ⟨h0, h1⟩ := h
 rw [wrap_u64_of (by omega) (by omega), opI_mul, wrap_u64_of (by omega) (by omega), opI_rem _ (by omega), opI_quo _ (by omega), wrap_u64_of (by omega) (by omega), wrap_i64_of (by omega) (by omega)]; rfl
theorem and15 {i : Int} (h0 : 0 ≤ i) (h1 : i ≤ 16) : opI .and .i64 i 15 = i % 16 := by
 have : i.toNat ≤ 16 := by omega
 obtain ⟨n, rfl⟩ := Int.eq_ofNat_of_zero_le h0
 have : n ≤ 16 := by omega
 clear h0 h1
 rcases n with _|_|_|_|_|_|_|_|_|_|_|_|_|_|_|_|_|n <;> first | rfl | (exfalso; omega)
theorem cn_ok (xs : List Int) (n : Int) (h : xs.length ≤ 200) : CallsD Try.prog 63 [ri xs, i64 n] (bo (inB xs n)) := by
 refine cnA_calls xs n _ ⟨⟨h, trivial⟩, ?_⟩
 congr 2
 unfold inB
 rw [mem_findI]
 have e : ixN xs n = findI (fun i => xs.getD i 0 == n) xs.length 0 := by
  unfold ixN; congr 1; funext i; exact Bool.beq_comm ..
 rw [e, Bool.eq_iff_iff]
 simp only [geq_t, Bool.not_eq_true', decide_eq_false_iff_not]
 omega
/-- The list of a chain, and whether it is one. -/
def chL (nx : List Int) (f : Int) : List Int := (chain nx (nx.length + 1) f []).getD []
def chB (nx : List Int) (f : Int) : Bool := (chain nx (nx.length + 1) f []).isSome
theorem frD_reads (nx : List Int) (f : Int) : ReadsN (frD nx f) (.tup [oi (chL nx f), bo (chB nx f)]) := by
 unfold frD chL chB
 cases chain nx (nx.length + 1) f [] with
 | some l => exact .refl _
 | none => exact ReadsNs.tup (.cons (.nil rfl) (.refl _))
theorem fr2_ok (nx : List Int) (us : List Bool) (f : Int) (h : nx.length ≤ 200) : CallsD Try.prog 95 [.agg [ri nx, rb us, i64 f]] (.tup [oi (chL nx f), bo (chB nx f)]) := calls_reads (frD_reads nx f) (fr_ok nx us f h)
theorem al2_ok (ps nx : List Int) (h t : Int) (hn : nx.length ≤ 200) : CallsD Try.prog 69 [.agg [ri ps, ri nx, i64 h, i64 t]] (.tup [oi (chL nx h), bo (chB nx h)]) := calls_reads (frD_reads nx h) (al_ok ps nx h t hn)
def hmC : List D → Option (D × List Prop)
 | [.v (.int .u32 k)] => some (i64 (homeN k), [inU k])
 | _ => none
theorem hmC_okA (args res l) (h : hmC args = some (res, l)) (hl : AllP l) : CallsD Try.prog 107 args res := by
 unfold hmC at h; split at h
 ·simp only [Option.some.injEq, Prod.mk.injEq] at h
  obtain ⟨rfl, rfl⟩ := h; obtain ⟨h0, _⟩ := hl
  exact hmA_ok _ h0
 ·cases h
theorem hmC_okB (args res l) (h : hmC args = some (res, l)) (hl : AllP l) : CallsD Try.prog 100 args res := by
 unfold hmC at h; split at h
 ·simp only [Option.some.injEq, Prod.mk.injEq] at h
  obtain ⟨rfl, rfl⟩ := h; obtain ⟨h0, _⟩ := hl
  exact hmB_ok _ h0
 ·cases h
def frC : List D → Option (D × List Prop)
 | [.agg [.rc [.ints .i64 nx], .rc [.bools us], .v (.int .i64 f)]] => some ((.tup [oi (chL nx f), bo (chB nx f)]), [nx.length ≤ 200])
 | _ => none
theorem frC_ok (args res l) (h : frC args = some (res, l)) (hl : AllP l) : CallsD Try.prog 95 args res := by
 unfold frC at h; split at h
 ·simp only [Option.some.injEq, Prod.mk.injEq] at h
  obtain ⟨rfl, rfl⟩ := h; obtain ⟨h0, _⟩ := hl
  exact fr2_ok _ _ _ h0
 ·cases h
def alC : List D → Option (D × List Prop)
 | [.agg [.rc [.ints .i64 ps], .rc [.ints .i64 nx], .v (.int .i64 h), .v (.int .i64 t)]] => some ((.tup [oi (chL nx h), bo (chB nx h)]), [nx.length ≤ 200])
 | _ => none
theorem alC_ok (args res l) (h : alC args = some (res, l)) (hl : AllP l) : CallsD Try.prog 69 args res := by
 unfold alC at h; split at h
 ·simp only [Option.some.injEq, Prod.mk.injEq] at h
  obtain ⟨rfl, rfl⟩ := h; obtain ⟨h0, _⟩ := hl
  exact al2_ok _ _ _ _ h0
 ·cases h
theorem cnC_ok (args res l) (h : inC args = some (res, l)) (hl : AllP l) : CallsD Try.prog 63 args res := by
 unfold inC at h; split at h
 ·simp only [Option.some.injEq, Prod.mk.injEq] at h
  obtain ⟨rfl, rfl⟩ := h; obtain ⟨h0, _⟩ := hl
  exact cn_ok _ _ h0
 ·cases h
def X3 : Contracts := addCon 107 (.call hmC) (addCon 100 (.call hmC) (addCon 63 (.call inC) (addCon 95 (.call frC) (addCon 69 (.call alC) X2))))
theorem hX3 : ConOK Try.prog X3 := addCall_ok hmC_okA (addCall_ok hmC_okB (addCall_ok cnC_ok (addCall_ok frC_ok (addCall_ok alC_ok hX2))))
end TableS
end
