/- What the functions compute, and the law. No condition. -/
import Derived.Test.YtakcfkmfiamliaaTaWE
import Derived.Test.YtakcfkmfiamliaaTaVQ
import Derived.Test.YtakcfkmfiamliaaTaTZ
import Derived.Test.YtakcfkmfiamliaaDamYA
import Derived.Test.YtakcfkmfiamliaaRows
set_option linter.unusedSectionVars false
set_option linter.unusedVariables false
set_option linter.unusedSimpArgs false
section
namespace TableS
open Go Go.Dam Go.Proofs
set_option maxRecDepth 1000000
noncomputable def s4L_c0 (px : List Int) (ux : List Bool) (i : Int) := px.getD i.toNat 0 == px.getD i.toNat 0 && (ux.getD i.toNat false == ux.getD i.toNat false && true)
noncomputable def s4L_c1 (kx px : List Int) (ux : List Bool) (i : Int) := kx.getD i.toNat 0 == kx.getD i.toNat 0 && (s4L_c0 px ux i)
noncomputable def s4L_T (kx : List Int) (px : List Int) (ux : List Bool) (o : Bool) (i : Int) : Tr (Ex × Cs) := .d (cmpI .lss i ↑(kx.length)) (fun e0 => .s (decide (i < ↑(kx.length)) = true) (.s (decide (0 ≤ i) = true) (.s (decide (i < ↑(kx.length)) = true) (.s (decide (0 ≤ i) = true) (.d (!(s4L_c1 kx px ux i)) (fun e1 => .lf (Ex.ret, (s4T (kx) (px) (ux) (false) (i)))) (fun e1 => .lf (Ex.normal, (s4T (kx) (px) (ux) (o) (opI .add .i64 i 1))))))))) (fun e0 => .lf (Ex.exit 0, (s4T (kx) (px) (ux) (o) (i))))
theorem s4L_L (kx px : List Int) (ux : List Bool) (o : Bool) (i : Int) : Leaves (roundT Try.prog (X23) 100000 (loopAt Try.prog 59 0) [[0, 1, 4, 5]] [] (s4T kx px ux o i)) (s4L_T kx px ux o i) [] [] := by refine ⟨fun _ => ⟨fun _ => ?_, fun _ => ?_⟩, fun _ => ?_⟩ <;> (show _ = _; kernel_rfl)
theorem s4L_step (kx : List Int) (px : List Int) (ux : List Bool) (o : Bool) (i : Int) (σ : St) (e : Ex) (h0 : At (RG Try.prog (loopAt Try.prog 59 0) e σ) (s4L_T kx px ux o i) [true, true] True) (h1 : At (RG Try.prog (loopAt Try.prog 59 0) e σ) (s4L_T kx px ux o i) [true, false] True) (h2 : At (RG Try.prog (loopAt Try.prog 59 0) e σ) (s4L_T kx px ux o i) [false] True) : Runs Try.prog (CallsD Try.prog) (.rounds (loopAt Try.prog 59 0)) (s4T kx px ux o i).abs e σ := tree_rounds (hX23) (s4L_L kx px ux o i) ⟨fun e0 => ⟨fun e1 => h0 e0 e1, fun e1 => h1 e0 e1⟩, fun e0 => h2 e0⟩
noncomputable def s4F_T (kx : List Int) (px : List Int) (ux : List Bool) (i : Int) : Tr D := .d (cmpI .neq ↑(kx.length) ↑(kx.length)) (fun e0 => .lf (bo false)) (fun e0 => .p (.l [[0, 1, 4, 5]] [] (s4T kx px ux false 0) (Ex.exit 0) (s4T kx px ux false i)) (.s (Runs Try.prog (CallsD Try.prog) (.code (.loop (loopAt Try.prog 59 0))) (s4T kx px ux false 0).abs (Ex.exit 0) (s4T kx px ux false i).abs) (.k ((s4T kx px ux false 0 = s4T kx px ux false 0)) rfl (.lf (bo true)))))
theorem s4F_L (kx px : List Int) (ux : List Bool) (i : Int) : Leaves (fun l => fnX Try.prog (X23) 100000 l 59 [cc kx px ux, cc kx px ux]) (s4F_T kx px ux i) [] [] := by refine ⟨fun _ => ?_, fun _ => ?_⟩ <;> (show _ = _; kernel_rfl)
theorem s4F_calls (kx px : List Int) (ux : List Bool) (i : Int) (res : D) (h0 : At (fun r => res = r) (s4F_T kx px ux i) [true] True) (h1 : At (fun r => res = r) (s4F_T kx px ux i) [false] True) : CallsD Try.prog 59 [cc kx px ux, cc kx px ux] res := tree_calls (hX23) (s4F_L kx px ux i) ⟨fun e0 => h0 e0, fun e0 => h1 e0⟩
noncomputable def s3L_T (nx : List Int) (us : List Bool) (fr : Int) (o : Bool) (i : Int) : Tr (Ex × Cs) := .d (cmpI .lss i ↑(nx.length)) (fun e0 => .s (decide (i < ↑(nx.length)) = true) (.s (decide (0 ≤ i) = true) (.s (decide (i < ↑(nx.length)) = true) (.s (decide (0 ≤ i) = true) (.d (cmpI .neq (nx.getD i.toNat 0) (nx.getD i.toNat 0)) (fun e1 => .lf (Ex.ret, (s3T (nx) (us) (fr) (false) (i)))) (fun e1 => .lf (Ex.normal, (s3T (nx) (us) (fr) (o) (opI .add .i64 i 1))))))))) (fun e0 => .lf (Ex.exit 0, (s3T (nx) (us) (fr) (o) (i))))
theorem s3L_L (nx : List Int) (us : List Bool) (fr : Int) (o : Bool) (i : Int) : Leaves (roundT Try.prog (X23) 100000 (loopAt Try.prog 58 0) [[2, 3, 4, 5]] [(64, 64), (96, 96)] (s3T nx us fr o i)) (s3L_T nx us fr o i) [] [] := by refine ⟨fun _ => ⟨fun _ => ?_, fun _ => ?_⟩, fun _ => ?_⟩ <;> (show _ = _; kernel_rfl)
theorem s3L_step (nx : List Int) (us : List Bool) (fr : Int) (o : Bool) (i : Int) (σ : St) (e : Ex) (h0 : At (RG Try.prog (loopAt Try.prog 58 0) e σ) (s3L_T nx us fr o i) [true, true] True) (h1 : At (RG Try.prog (loopAt Try.prog 58 0) e σ) (s3L_T nx us fr o i) [true, false] True) (h2 : At (RG Try.prog (loopAt Try.prog 58 0) e σ) (s3L_T nx us fr o i) [false] True) : Runs Try.prog (CallsD Try.prog) (.rounds (loopAt Try.prog 58 0)) (s3T nx us fr o i).abs e σ := tree_rounds (hX23) (s3L_L nx us fr o i) ⟨fun e0 => ⟨fun e1 => h0 e0 e1, fun e1 => h1 e0 e1⟩, fun e0 => h2 e0⟩
noncomputable def s3M_T (nx : List Int) (us : List Bool) (fr : Int) (o : Bool) (i : Int) : Tr (Ex × Cs) := .d (cmpI .lss i ↑(us.length)) (fun e0 => .s (decide (i < ↑(us.length)) = true) (.s (decide (0 ≤ i) = true) (.s (decide (i < ↑(us.length)) = true) (.s (decide (0 ≤ i) = true) (.d (!us.getD i.toNat false == us.getD i.toNat false) (fun e1 => .lf (Ex.ret, (s3U (nx) (us) (fr) (false) (i)))) (fun e1 => .lf (Ex.normal, (s3U (nx) (us) (fr) (o) (opI .add .i64 i 1))))))))) (fun e0 => .lf (Ex.exit 2, (s3U (nx) (us) (fr) (o) (i))))
theorem s3M_L (nx : List Int) (us : List Bool) (fr : Int) (o : Bool) (i : Int) : Leaves (roundT Try.prog (X23) 100000 (loopAt Try.prog 58 1) [[2, 3, 4, 6]] [(64, 64), (96, 96)] (s3U nx us fr o i)) (s3M_T nx us fr o i) [] [] := by refine ⟨fun _ => ⟨fun _ => ?_, fun _ => ?_⟩, fun _ => ?_⟩ <;> (show _ = _; kernel_rfl)
theorem s3M_step (nx : List Int) (us : List Bool) (fr : Int) (o : Bool) (i : Int) (σ : St) (e : Ex) (h0 : At (RG Try.prog (loopAt Try.prog 58 1) e σ) (s3M_T nx us fr o i) [true, true] True) (h1 : At (RG Try.prog (loopAt Try.prog 58 1) e σ) (s3M_T nx us fr o i) [true, false] True) (h2 : At (RG Try.prog (loopAt Try.prog 58 1) e σ) (s3M_T nx us fr o i) [false] True) : Runs Try.prog (CallsD Try.prog) (.rounds (loopAt Try.prog 58 1)) (s3U nx us fr o i).abs e σ := tree_rounds (hX23) (s3M_L nx us fr o i) ⟨fun e0 => ⟨fun e1 => h0 e0 e1, fun e1 => h1 e0 e1⟩, fun e0 => h2 e0⟩
noncomputable def s3F_T (nx : List Int) (us : List Bool) (fr : Int) (i : Int) (k : Int) : Tr D := .d (cmpI .neq fr fr) (fun e0 => .p (.c 13) (.lf (bo false))) (fun e0 => .p (.c 5) (.d (cmpI .neq ↑(nx.length) ↑(nx.length)) (fun e1 => .p (.c 6) (.lf (bo false))) (fun e1 => .p (.c 5) (.d (cmpI .neq ↑(us.length) ↑(us.length)) (fun e2 => .lf (bo false)) (fun e2 => .p (.l [[2, 3, 4, 5]] [(64, 64), (96, 96)] (s3T nx us fr false 0) (Ex.exit 0) (s3T nx us fr false i)) (.p (.l [[2, 3, 4, 6]] [(64, 64), (96, 96)] (s3U nx us fr false 0) (Ex.exit 2) (s3U nx us fr false k)) (.s (Runs Try.prog (CallsD Try.prog) (.code (.loop (loopAt Try.prog 58 0))) (s3T nx us fr false 0).abs (Ex.exit 0) (s3T nx us fr false i).abs) (.k ((s3T nx us fr false 0 = s3T nx us fr false 0)) rfl (.s (Runs Try.prog (CallsD Try.prog) (.code (.loop (loopAt Try.prog 58 1))) (s3U nx us fr false 0).abs (Ex.exit 2) (s3U nx us fr false k).abs) (.k ((s3U nx us fr false 0 = s3U nx us fr false 0)) rfl (.lf (bo true))))))))))))
theorem s3F_L (nx : List Int) (us : List Bool) (fr i k : Int) : Leaves (fun l => fnX Try.prog (X23) 100000 l 58 [D.agg [ri nx, rb us, i64 fr], D.agg [ri nx, rb us, i64 fr]]) (s3F_T nx us fr i k) [] [] := by refine ⟨fun _ => ?_, fun _ => ⟨fun _ => ?_, fun _ => ⟨fun _ => ?_, fun _ => ?_⟩⟩⟩ <;> (show _ = _; kernel_rfl)
theorem s3F_calls (nx : List Int) (us : List Bool) (fr i k : Int) (res : D) (h0 : At (fun r => res = r) (s3F_T nx us fr i k) [true] True) (h1 : At (fun r => res = r) (s3F_T nx us fr i k) [false, true] True) (h2 : At (fun r => res = r) (s3F_T nx us fr i k) [false, false, true] True) (h3 : At (fun r => res = r) (s3F_T nx us fr i k) [false, false, false] True) : CallsD Try.prog 58 [D.agg [ri nx, rb us, i64 fr], D.agg [ri nx, rb us, i64 fr]] res := tree_calls (hX23) (s3F_L nx us fr i k) ⟨fun e0 => h0 e0, fun e0 => ⟨fun e1 => h1 e0 e1, fun e1 => ⟨fun e2 => h2 e0 e1 e2, fun e2 => h3 e0 e1 e2⟩⟩⟩
theorem neqs (x : Int) : cmpI .neq x x = false := by rw [neq_f]
theorem s4_ok (kx px : List Int) (ux : List Bool) (h : kx.length ≤ 200) : CallsD Try.prog 59 [cc kx px ux, cc kx px ux] (bo true) := by
 have r : Runs Try.prog (CallsD Try.prog) (.rounds (loopAt Try.prog 59 0)) (s4T kx px ux false 0).abs (.exit 0) (s4T kx px ux false kx.length).abs := by
  refine scan_all (fun i => s4T kx px ux false (i : Int)) kx.length (fun _ => True) (fun i hi _ σ e hr => ?_) ?_ kx.length 0 (by omega) (fun _ _ _ => trivial)
  ·refine s4L_step kx px ux false i σ e ?_ ?_ ?_ <;> dsimp only [At, Tr.q, RG, s4L_T]
   ·intro _ g; simp [s4L_c1, s4L_c0] at g
   ·intro _ _; rw [succL hi h]; exact ⟨⟨(natLt hi).1, (natLt hi).2, (natLt hi).1, (natLt hi).2, trivial⟩, hr⟩
   ·intro g; rw [lss_f] at g; omega
  ·refine s4L_step kx px ux false kx.length _ _ ?_ ?_ ?_ <;> dsimp only [At, Tr.q, RG, s4L_T]
   ·intro g; rw [lss_t] at g; omega
   ·intro g; rw [lss_t] at g; omega
   ·intro _; exact ⟨trivial, rfl, rfl⟩
 refine s4F_calls kx px ux kx.length _ ?_ ?_ <;> dsimp only [At, Tr.q, s4F_T]
 ·intro g; rw [neqs] at g; cases g
 ·intro _; exact ⟨⟨loop_of_rounds r, trivial⟩, rfl⟩
theorem s3_ok (nx : List Int) (us : List Bool) (fr : Int) (h : nx.length ≤ 200) (h' : us.length ≤ 200) : CallsD Try.prog 58 [.agg [ri nx, rb us, i64 fr], .agg [ri nx, rb us, i64 fr]] (bo true) := by
 have r : Runs Try.prog (CallsD Try.prog) (.rounds (loopAt Try.prog 58 0)) (s3T nx us fr false 0).abs (.exit 0) (s3T nx us fr false nx.length).abs := by
  refine scan_all (fun i => s3T nx us fr false (i : Int)) nx.length (fun _ => True) (fun i hi _ σ e hr => ?_) ?_ nx.length 0 (by omega) (fun _ _ _ => trivial)
  ·refine s3L_step nx us fr false i σ e ?_ ?_ ?_ <;> dsimp only [At, Tr.q, RG, s3L_T]
   ·intro _ g; rw [neqs] at g; cases g
   ·intro _ _; rw [succL hi h]; exact ⟨⟨(natLt hi).1, (natLt hi).2, (natLt hi).1, (natLt hi).2, trivial⟩, hr⟩
   ·intro g; rw [lss_f] at g; omega
  ·refine s3L_step nx us fr false nx.length _ _ ?_ ?_ ?_ <;> dsimp only [At, Tr.q, RG, s3L_T]
   ·intro g; rw [lss_t] at g; omega
   ·intro g; rw [lss_t] at g; omega
   ·intro _; exact ⟨trivial, rfl, rfl⟩
 have r2 : Runs Try.prog (CallsD Try.prog) (.rounds (loopAt Try.prog 58 1)) (s3U nx us fr false 0).abs (.exit 2) (s3U nx us fr false us.length).abs := by
  refine scan_all (fun i => s3U nx us fr false (i : Int)) us.length (fun _ => True) (fun i hi _ σ e hr => ?_) ?_ us.length 0 (by omega) (fun _ _ _ => trivial)
  ·refine s3M_step nx us fr false i σ e ?_ ?_ ?_ <;> dsimp only [At, Tr.q, RG, s3M_T]
   ·intro _ g; simp at g
   ·intro _ _; rw [succL hi h']; exact ⟨⟨(natLt hi).1, (natLt hi).2, (natLt hi).1, (natLt hi).2, trivial⟩, hr⟩
   ·intro g; rw [lss_f] at g; omega
  ·refine s3M_step nx us fr false us.length _ _ ?_ ?_ ?_ <;> dsimp only [At, Tr.q, RG, s3M_T]
   ·intro g; rw [lss_t] at g; omega
   ·intro g; rw [lss_t] at g; omega
   ·intro _; exact ⟨trivial, rfl, rfl⟩
 refine s3F_calls nx us fr nx.length us.length _ ?_ ?_ ?_ ?_ <;> dsimp only [At, Tr.q, s3F_T]
 ·intro g; rw [neqs] at g; cases g
 ·intro _ g; rw [neqs] at g; cases g
 ·intro _ _ g; rw [neqs] at g; cases g
 ·intro _ _ _; exact ⟨⟨loop_of_rounds r2, loop_of_rounds r, trivial⟩, rfl⟩
theorem s3o (n1 : List Int) (u1 : List Bool) (f1 : Int) (n2 : List Int) (u2 : List Bool) (f2 : Int) (h : n1 = n2 ∧ u1 = u2 ∧ f1 = f2 ∧ n1.length ≤ 200 ∧ u1.length ≤ 200) : CallsD Try.prog 58 [.agg [ri n1, rb u1, i64 f1], .agg [ri n2, rb u2, i64 f2]] (bo true) := by
 obtain ⟨rfl, rfl, rfl, h1, h2⟩ := h; exact s3_ok _ _ _ h1 h2
theorem s4o (k1 p1 : List Int) (u1 : List Bool) (k2 p2 : List Int) (u2 : List Bool) (h : k1 = k2 ∧ p1 = p2 ∧ u1 = u2 ∧ k1.length ≤ 200) : CallsD Try.prog 59 [cc k1 p1 u1, cc k2 p2 u2] (bo true) := by
 obtain ⟨rfl, rfl, rfl, h1⟩ := h; exact s4_ok _ _ _ h1
theorem s3C_ok (args res l) (h : s3C args = some (res, l)) (hl : AllP l) : CallsD Try.prog 58 args res := by
 unfold s3C at h; split at h
 ·simp only [Option.some.injEq, Prod.mk.injEq] at h
  obtain ⟨rfl, rfl⟩ := h; obtain ⟨h0, _⟩ := hl
  exact s3o _ _ _ _ _ _ h0
 ·cases h
theorem s4C_ok (args res l) (h : s4C args = some (res, l)) (hl : AllP l) : CallsD Try.prog 59 args res := by
 unfold s4C at h; split at h
 ·simp only [Option.some.injEq, Prod.mk.injEq] at h
  obtain ⟨rfl, rfl⟩ := h; obtain ⟨h0, _⟩ := hl
  exact s4o _ _ _ _ _ _ h0
 ·cases h
theorem hX25 : ConOK Try.prog X25 := addCall_ok s3C_ok (addCall_ok s4C_ok (addCall_ok ky6C_ok hX23))
noncomputable def s6L_c0 (T : Tb) (i : Int) := T.x2.getD i.toNat 0 == T.x2.getD i.toNat 0 && (T.x3.getD i.toNat 0 == T.x3.getD i.toNat 0 && true)
noncomputable def s6L_c1 (T : Tb) (i : Int) := T.x5.getD i.toNat 0 == T.x5.getD i.toNat 0 && (T.x6.getD i.toNat 0 == T.x6.getD i.toNat 0 && true)
noncomputable def s6L_c2 (T : Tb) (i : Int) := T.x4.getD i.toNat 0 == T.x4.getD i.toNat 0 && (s6L_c1 T i)
noncomputable def s6L_c3 (T : Tb) (i : Int) := T.x1.getD i.toNat 0 == T.x1.getD i.toNat 0 && (s6L_c0 T i) && (s6L_c2 T i)
noncomputable def s6L_T (T : Tb) (o : Bool) (i : Int) : Tr (Ex × Cs) := .d (cmpI .lss i ↑(T.x1.length)) (fun e0 => .s (decide (i < ↑(T.x1.length)) = true) (.s (decide (0 ≤ i) = true) (.s (decide (i < ↑(T.x1.length)) = true) (.s (decide (0 ≤ i) = true) (.d (!(s6L_c3 T i)) (fun e1 => .lf (Ex.ret, (s6T T (false) (i)))) (fun e1 => .lf (Ex.normal, (s6T T (o) (opI .add .i64 i 1))))))))) (fun e0 => .lf (Ex.exit 0, (s6T T (o) (i))))
theorem s6L_L (T : Tb) (o : Bool) (i : Int) : Leaves (roundT Try.prog (X25) 100000 (loopAt Try.prog 16 0) [[2, 3, 4, 5]] [(64, 64), (96, 96)] (s6T T o i)) (s6L_T T o i) [] [] := by refine ⟨fun _ => ⟨fun _ => ?_, fun _ => ?_⟩, fun _ => ?_⟩ <;> (show _ = _; kernel_rfl)
theorem s6L_step (T : Tb) (o : Bool) (i : Int) (σ : St) (e : Ex) (h0 : At (RG Try.prog (loopAt Try.prog 16 0) e σ) (s6L_T T o i) [true, true] True) (h1 : At (RG Try.prog (loopAt Try.prog 16 0) e σ) (s6L_T T o i) [true, false] True) (h2 : At (RG Try.prog (loopAt Try.prog 16 0) e σ) (s6L_T T o i) [false] True) : Runs Try.prog (CallsD Try.prog) (.rounds (loopAt Try.prog 16 0)) (s6T T o i).abs e σ := tree_rounds (hX25) (s6L_L T o i) ⟨fun e0 => ⟨fun e1 => h0 e0 e1, fun e1 => h1 e0 e1⟩, fun e0 => h2 e0⟩
noncomputable def s6F_T (T : Tb) (i : Int) : Tr D := .d (cmpI .neq T.n T.n) (fun e0 => .p (.c 30) (.lf (bo false))) (fun e0 => .p (.c 4) (.s (T.ks.length ≤ 200) (.d (!eqB T.ks T.ks) (fun e1 => .p (.c 24) (.lf (bo false))) (fun e1 => .p (.c 5) (.d (cmpI .neq ↑(T.x1.length) ↑(T.x1.length)) (fun e2 => .p (.c 17) (.lf (bo false))) (fun e2 => .p (.c 16) (.s (T.nx = T.nx ∧ T.us = T.us ∧ T.fr = T.fr ∧ T.nx.length ≤ 200 ∧ T.us.length ≤ 200) (.s (T.kx = T.kx ∧ T.px = T.px ∧ T.ux = T.ux ∧ T.kx.length ≤ 200) (.s (T.ps.length ≤ 200 ∧ T.no.length ≤ 200) (.d (!sm15 T.ps T.no T.h T.t T.ps T.no T.h T.t) (fun e3 => .lf (bo false)) (fun e3 => .p (.l [[2, 3, 4, 5]] [(64, 64), (96, 96)] (s6T T false 0) (Ex.exit 0) (s6T T false i)) (.s (Runs Try.prog (CallsD Try.prog) (.code (.loop (loopAt Try.prog 16 0))) (s6T T false 0).abs (Ex.exit 0) (s6T T false i).abs) (.k ((s6T T false 0 = s6T T false 0)) rfl (.lf (bo true)))))))))))))))
theorem s6F_L (T : Tb) (i : Int) : Leaves (fun l => fnX Try.prog (X25) 100000 l 16 [T.d, T.d]) (s6F_T T i) [] [] := by refine ⟨fun _ => ?_, fun _ => ⟨fun _ => ?_, fun _ => ⟨fun _ => ?_, fun _ => ⟨fun _ => ?_, fun _ => ?_⟩⟩⟩⟩ <;> (show _ = _; kernel_rfl)
theorem s6F_calls (T : Tb) (i : Int) (res : D) (h0 : At (fun r => res = r) (s6F_T T i) [true] True) (h1 : At (fun r => res = r) (s6F_T T i) [false, true] True) (h2 : At (fun r => res = r) (s6F_T T i) [false, false, true] True) (h3 : At (fun r => res = r) (s6F_T T i) [false, false, false, true] True) (h4 : At (fun r => res = r) (s6F_T T i) [false, false, false, false] True) : CallsD Try.prog 16 [T.d, T.d] res := tree_calls (hX25) (s6F_L T i) ⟨fun e0 => h0 e0, fun e0 => ⟨fun e1 => h1 e0 e1, fun e1 => ⟨fun e2 => h2 e0 e1 e2, fun e2 => ⟨fun e3 => h3 e0 e1 e2 e3, fun e3 => h4 e0 e1 e2 e3⟩⟩⟩⟩
theorem s6_ok (T : Tb) (w : twS T) : CallsD Try.prog 16 [T.d, T.d] (bo true) := by
 obtain ⟨h1, h2, h3, h4, h5, h6, h7⟩ := w
 obtain ⟨k1, k2, k3, k4, k5, k6⟩ := h2
 obtain ⟨c1, c2, c3⟩ := h5
 have r : Runs Try.prog (CallsD Try.prog) (.rounds (loopAt Try.prog 16 0)) (s6T T false 0).abs (.exit 0) (s6T T false T.x1.length).abs := by
  refine scan_all (fun i => s6T T false (i : Int)) T.x1.length (fun _ => True) (fun i hi _ σ e hr => ?_) ?_ T.x1.length 0 (by omega) (fun _ _ _ => trivial)
  ·refine s6L_step T false i σ e ?_ ?_ ?_ <;> dsimp only [At, Tr.q, RG, s6L_T]
   ·intro _ g; simp [s6L_c3, s6L_c2, s6L_c1, s6L_c0] at g
   ·intro _ _; rw [succL hi (by omega)]; exact ⟨⟨(natLt hi).1, (natLt hi).2, (natLt hi).1, (natLt hi).2, trivial⟩, hr⟩
   ·intro g; rw [lss_f] at g; omega
  ·refine s6L_step T false T.x1.length _ _ ?_ ?_ ?_ <;> dsimp only [At, Tr.q, RG, s6L_T]
   ·intro g; rw [lss_t] at g; omega
   ·intro g; rw [lss_t] at g; omega
   ·intro _; exact ⟨trivial, rfl, rfl⟩
 refine s6F_calls T T.x1.length _ ?_ ?_ ?_ ?_ ?_ <;> dsimp only [At, Tr.q, s6F_T]
 ·intro g; rw [neqs] at g; cases g
 ·intro _ g; simp [eqB] at g
 ·intro _ _ g; rw [neqs] at g; cases g
 ·intro _ _ _ g; simp [sm15, eqB] at g
 ·intro _ _ _ _; exact ⟨⟨loop_of_rounds r, ⟨h6, h7⟩, ⟨rfl, rfl, rfl, by omega⟩, ⟨rfl, rfl, rfl, h3, h4⟩, h1, trivial⟩, rfl⟩
/-- A contract of a function of two tables. -/
def con2T (f : Tb → Tb → D × List Prop) : List D → Option (D × List Prop)
 | [d, e] => match tbOf d, tbOf e with
  | some T, some U => some (f T U)
  | _, _ => none
 | _ => none
theorem con2T_ok {f : Tb → Tb → D × List Prop} {g : FuncId} (hf : ∀ T U, AllP (f T U).2 → CallsD Try.prog g [T.d, U.d] (f T U).1) (args res l) (h : con2T f args = some (res, l)) (hl : AllP l) : CallsD Try.prog g args res := by
 unfold con2T at h
 split at h
 next d e =>
  split at h
  next T U ht hu =>
   simp only [Option.some.injEq] at h
   have e1 := tbOf_d ht
   have e2 := tbOf_d hu
   subst e1 e2
   have := hf T U (by rw [h]; exact hl)
   rw [h] at this; exact this
  ·cases h
 ·cases h
def smC : List D → Option (D × List Prop) := con2T fun T U => (bo true, [T = U, twS T])
theorem smC_ok (args res l) (h : smC args = some (res, l)) (hl : AllP l) : CallsD Try.prog 16 args res := con2T_ok (f := fun T U => (bo true, [T = U, twS T])) (fun T U h => by obtain ⟨rfl, w, _⟩ := h; exact s6_ok T w) args res l h hl
noncomputable def X26 : Contracts := addCon 16 (.call smC) (addCon 11 (.call nwG) (addCon 10 (.call nwG) X25))
theorem hX26 : ConOK Try.prog X26 := addCall_ok smC_ok (addCall_ok n6C_ok (addCall_ok nwG_ok hX25))
end TableS
end

section
namespace TableS
open Go Go.Dam Go.Proofs
set_option maxRecDepth 1000000
/-- Which keys stay. -/
def flt (k g : Int) (v : Bool) (x : Int) : Bool := decide (x ≠ k) && !(v && decide (x = g))
def keysOf (T : Tb) (L : List Int) : List Int := L.map fun i => T.ks.getD i.toNat 0
/-- What a use makes of a right table: the key's place is in front, the others stay as they are. -/
structure Used (T U : Tb) (k g : Int) (v : Bool) (L L1 : List Int) (i : Nat) : Prop where
 inv : ∃ F, Inv U ((i : Int) :: L1) F
 ok : okT U
 n : U.n = T.n
 hi : (i : Int) < U.n
 us : U.us.getD i false = true
 ke : U.ks.getD i 0 = k
 nin : (i : Int) ∉ L1
 same : ∀ j ∈ L1, U.ks.getD j.toNat 0 = T.ks.getD j.toNat 0
 keys : keysOf T L1 = (keysOf T L).filter (flt k g v)
theorem filter_keys {T : Tb} {L M : List Int} {k g : Int} {v : Bool} (h1 : ∀ j ∈ L, j ∈ M ↔ flt k g v (T.ks.getD j.toNat 0) = true) (h2 : M = L.filter fun j => decide (j ∈ M)) : keysOf T M = (keysOf T L).filter (flt k g v) := by
 unfold keysOf
 rw [List.filter_map]
 conv => lhs; rw [h2]
 congr 1
 apply List.filter_congr
 intro j hj
 have := h1 j hj
 simp only [Function.comp_apply]
 rw [Bool.eq_iff_iff, decide_eq_true_eq]
 exact this
theorem wo_mem_filter {L : List Int} {p : Int} : wo L p = L.filter fun j => decide (j ∈ wo L p) := by
 conv => lhs; unfold wo
 apply List.filter_congr
 intro j hj
 rw [Bool.eq_iff_iff]; simp [mem_wo, hj]
theorem inv_key_mem {T : Tb} {L F : List Int} (v : Inv T L F) {j : Int} (hj : j ∈ L) {i : Nat} (hi : (i : Int) < T.n) (hu : T.us.getD i false = true) (e : T.ks.getD j.toNat 0 = T.ks.getD i 0) : j = i := by
 obtain ⟨a, b, c⟩ := inv_mem v hj
 have := inv_keys v (i := j.toNat) (j := i) (by omega) hi c hu e
 omega
theorem less_used {T : Tb} (ho : okT T) {L F : List Int} (v : Inv T L F) (hf : T.fr = -1) : ∀ j ∈ wo L T.t, T.less.ks.getD j.toNat 0 = T.ks.getD j.toNat 0 := fun j hj => by
 obtain ⟨hF, i, A, ei, eA, hi, hu⟩ := inv_last v hf
 obtain ⟨m, n⟩ := mem_wo.1 hj
 obtain ⟨a, b, c⟩ := inv_mem v m
 show (T.ks.set T.t.toNat 0).getD j.toNat 0 = _
 rw [getD_set_ne (by omega)]
theorem plus_used {T : Tb} (ho : okT T) {L F : List Int} (v : Inv T L F) {k b r p a : Int} (hk : inU k) (hf : T.fr ≠ -1) (hn : ∀ i : Nat, (i : Int) < T.n → T.us.getD i false = true → T.ks.getD i 0 ≠ k) (hb : limV b r p = 0) :
  ∃ i : Nat, T.fr = i ∧ (i : Int) ∉ L ∧ (∃ F', Inv (T.plus k b r p a) ((i : Int) :: L) F') ∧ okT (T.plus k b r p a) ∧ (i : Int) < T.n ∧ (T.plus k b r p a).us.getD i false = true ∧ (T.plus k b r p a).ks.getD i 0 = k ∧
   (∀ j ∈ L, (T.plus k b r p a).ks.getD j.toNat 0 = T.ks.getD j.toNat 0) ∧
   (T.plus k b r p a).x1.getD i 0 = b ∧ (T.plus k b r p a).x2.getD i 0 = r ∧ (T.plus k b r p a).x3.getD i 0 = p ∧ (T.plus k b r p a).x4.getD i 0 = b ∧ (T.plus k b r p a).x5.getD i 0 = 0 ∧ (T.plus k b r p a).x6.getD i 0 = a := by
 obtain ⟨F', eF, f0, f1, f2, w⟩ := inv_plus (a := a) ho v hk hf hn hb
 have ok' := okT_plus (a := a) ho v hk hf hn hb
 obtain ⟨k1, k2, k3, k4, k5, k6, k7⟩ := okT_lens ho v
 have ul := inv_us_len v
 refine ⟨T.fr.toNat, by omega, by rw [show ((T.fr.toNat : Nat) : Int) = T.fr by omega]; exact f2, ⟨F', by rw [show ((T.fr.toNat : Nat) : Int) = T.fr by omega]; exact w⟩, ok', by omega, ?_, ?_, fun j hj => ?_, ?_, ?_, ?_, ?_, ?_, ?_⟩
 ·show (T.us.set T.fr.toNat true).getD _ _ = _; exact getB_set_self (by omega)
 ·show (T.ks.set T.fr.toNat k).getD _ _ = _; exact getD_set_self (by omega)
 ·show (T.ks.set T.fr.toNat k).getD _ _ = _
  have := inv_mem v hj
  have : j ≠ T.fr := fun e => f2 (by rw [← e]; exact hj)
  exact getD_set_ne (by omega)
 ·show (T.x1.set T.fr.toNat b).getD _ _ = _; exact getD_set_self (by omega)
 ·show (T.x2.set T.fr.toNat r).getD _ _ = _; exact getD_set_self (by omega)
 ·show (T.x3.set T.fr.toNat p).getD _ _ = _; exact getD_set_self (by omega)
 ·show (T.x4.set T.fr.toNat b).getD _ _ = _; exact getD_set_self (by omega)
 ·show (T.x5.set T.fr.toNat 0).getD _ _ = _; exact getD_set_self (by omega)
 ·show (T.x6.set T.fr.toNat a).getD _ _ = _; exact getD_set_self (by omega)
/-- The law of Use. -/
theorem use_used {T : Tb} (ho : okT T) {L F : List Int} (v : Inv T L F) {k b r p a : Int} (hk : inU k) (hb : limV b r p = 0) : ∃ (L1 : List Int) (i : Nat),
  Used T (usR T k b r p a) k (usG T k b r p) (decide (usW T k b r p)) L L1 i ∧
  ((∃ i0 : Nat, (i0 : Int) < T.n ∧ T.us.getD i0 false = true ∧ T.ks.getD i0 0 = k) → ¬ usW T k b r p ∧ T.ks.getD i 0 = k ∧ (i : Int) ∈ L ∧ usR T k b r p a = T.touch i) ∧
  ((∀ i0 : Nat, (i0 : Int) < T.n → T.us.getD i0 false = true → T.ks.getD i0 0 ≠ k) → (usR T k b r p a).x1.getD i 0 = b ∧ (usR T k b r p a).x2.getD i 0 = r ∧ (usR T k b r p a).x3.getD i 0 = p ∧ (usR T k b r p a).x4.getD i 0 = b ∧ (usR T k b r p a).x5.getD i 0 = 0 ∧ (usR T k b r p a).x6.getD i 0 = a) ∧
  (usW T k b r p → ∃ A, L = A ++ [T.t] ∧ (L.length : Int) = T.n ∧ usG T k b r p = T.ks.getD T.t.toNat 0) ∧ (¬ usW T k b r p → (∀ i0 : Nat, (i0 : Int) < T.n → T.us.getD i0 false = true → T.ks.getD i0 0 ≠ k) → (L.length : Int) < T.n) := by
 have ht := inv_tc ho v
 have hkm : ∀ {i0 : Nat}, (i0 : Int) < T.n → T.us.getD i0 false = true → (i0 : Int) ∈ L := fun h u => by have := v.us _ h; rw [u] at this; simpa using this.symm
 have nd : L.Nodup := v.od.2.2.2.1
 rcases inv_pl v hk with ⟨i, ep, hi, hu, ek⟩ | ⟨ep, hn⟩
 ·have c3 : ¬ plV T k < 0 := by omega
  have hW : ¬ usW T k b r p := fun n => c3 n.2.2.1
  have eR : usR T k b r p a = T.touch i := by unfold usR; rw [if_pos ⟨ht, hb⟩, if_neg c3, ep]
  have hG : usG T k b r p = 0 := by unfold usG; rw [if_neg hW]
  have him := hkm hi hu
  rw [eR, hG, decide_eq_false hW]
  refine ⟨wo L i, i, ⟨⟨F, inv_touch v hi hu⟩, okT_touch ho i, rfl, hi, hu, ek, fun m => (mem_wo.1 m).2 rfl, fun j _ => rfl, ?_⟩, fun _ => ⟨hW, ek, him, rfl⟩, fun h => absurd ek (h i hi hu), fun w => absurd w hW, fun _ h => absurd ek (h i hi hu)⟩
  refine filter_keys (fun j hj => ?_) wo_mem_filter
  rw [mem_wo]
  unfold flt
  simp only [Bool.false_and, Bool.not_false, Bool.and_true, decide_eq_true_eq]
  constructor
  ·rintro ⟨_, n⟩ e
   exact n (inv_key_mem v hj hi hu (by rw [e, ek]))
  ·intro n
   exact ⟨hj, fun e => n (by subst e; rw [Int.toNat_natCast]; exact ek)⟩
 ·by_cases c4 : T.fr = -1
  ·have hW : usW T k b r p := ⟨ht, hb, by omega, c4⟩
   have eR : usR T k b r p a = T.less.plus k b r p a := by unfold usR; rw [if_pos ⟨ht, hb⟩, if_pos (by omega), if_pos c4]
   have hG : usG T k b r p = T.ks.getD T.t.toNat 0 := by unfold usG; rw [if_pos hW]
   obtain ⟨v1, ho1⟩ := less_inv ho v c4
   have hn1 := less_no ho v c4 hn
   obtain ⟨hF, i, A, ei, eA, hi, hu⟩ := inv_last v c4
   have hlen := inv_full v
   rw [hF] at hlen
   obtain ⟨q, e1, e2, e3, e4, e5, e6, e7, e8, x1, x2, x3, x4, x5, x6⟩ := plus_used (a := a) (r := r) (p := p) ho1 v1 hk (by show ((T.t.toNat : Nat) : Int) ≠ -1; omega) hn1 hb
   rw [eR, hG, decide_eq_true hW]
   refine ⟨wo L T.t, q, ⟨e3, e4, rfl, e5, e6, e7, e2, fun j hj => (e8 j hj).trans (less_used ho v c4 j hj), ?_⟩, fun ⟨i0, a1, a2, a3⟩ => absurd a3 (hn i0 a1 a2), fun _ => ⟨x1, x2, x3, x4, x5, x6⟩, fun _ => ⟨A, eA, by simp only [List.length_nil] at hlen; omega, rfl⟩, fun n => absurd hW n⟩
   refine filter_keys (fun j hj => ?_) wo_mem_filter
   rw [mem_wo]
   unfold flt
   obtain ⟨a1, a2, a3⟩ := inv_mem v hj
   have : T.ks.getD j.toNat 0 ≠ k := hn _ (by omega) a3
   simp only [this, ne_eq, not_false_eq_true, decide_true, Bool.true_and, Bool.not_eq_true', decide_eq_false_iff_not]
   constructor
   ·rintro ⟨_, n⟩ e
    apply n
    rw [ei]
    exact inv_key_mem v hj hi hu (by rw [e, ei, Int.toNat_natCast])
   ·intro n
    exact ⟨hj, fun e => n (by rw [e])⟩
  ·have hW : ¬ usW T k b r p := fun n => c4 n.2.2.2
   have eR : usR T k b r p a = T.plus k b r p a := by unfold usR; rw [if_pos ⟨ht, hb⟩, if_pos (by omega), if_neg c4]
   have hG : usG T k b r p = 0 := by unfold usG; rw [if_neg hW]
   obtain ⟨q, e1, e2, e3, e4, e5, e6, e7, e8, x1, x2, x3, x4, x5, x6⟩ := plus_used (a := a) (r := r) (p := p) ho v hk c4 hn hb
   have hlen := inv_full v
   obtain ⟨F', eF, _⟩ := ar_take v.ar c4
   rw [eR, hG, decide_eq_false hW]
   refine ⟨L, q, ⟨e3, e4, rfl, e5, e6, e7, e2, e8, ?_⟩, fun ⟨i0, a1, a2, a3⟩ => absurd a3 (hn i0 a1 a2), fun _ => ⟨x1, x2, x3, x4, x5, x6⟩, fun w => absurd w hW, fun _ _ => by rw [eF] at hlen; simp only [List.length_cons] at hlen; omega⟩
   symm
   rw [List.filter_eq_self]
   intro x hx
   unfold keysOf at hx
   obtain ⟨j, hj, e⟩ := List.mem_map.1 hx
   obtain ⟨a1, a2, a3⟩ := inv_mem v hj
   have : T.ks.getD j.toNat 0 ≠ k := hn _ (by omega) a3
   rw [e] at this
   unfold flt; simp [this]
end TableS
end

section
namespace TableS
open Go Go.Dam Go.Proofs Go.RowKit Go.ChangeShapes Go.WideShapes
set_option maxRecDepth 1000000
/-- What is known of any table that comes in. -/
def okW (T : Tb) : Prop := (∀ i, i < T.kx.length → inU (T.kx.getD i 0)) ∧ (∀ i, i < T.ks.length → inU (T.ks.getD i 0)) ∧ (∀ i, i < T.x1.length → in64 (T.x4.getD i 0)) ∧
 T.x2.length = T.x1.length ∧ T.x3.length = T.x1.length ∧ T.x4.length = T.x1.length ∧ T.x5.length = T.x1.length ∧ T.x6.length = T.x1.length ∧ T.px.length = T.kx.length ∧ T.ux.length = T.kx.length
theorem okT_of {T : Tb} (h : okW T) (g : T.great = false) : okT T := by
 obtain ⟨h1, h2, h3, e2, e3, e4, e5, e6, e7, e8⟩ := h
 simp only [Tb.great, gr2, Bool.or_eq_false_iff, decide_eq_false_iff_not] at g
 obtain ⟨g1, g2, g3, ⟨g4, g5⟩, g6, g7⟩ := g
 exact ⟨⟨by omega, h1⟩, h2, h3, by omega, by omega, by omega, ⟨by omega, e2, e3, e4, e5, e6⟩, ⟨by omega, e7, e8⟩, by omega, by omega⟩
theorem notLive : ¬ Live := fun h => by cases h
def bKinds : List IntKind := [.i64, .i64, .i64, .i64, .i64, .u64]
def lKinds : List IntKind := [.i64, .i64, .i64]
def tKinds : List FK := [.one (.int .i64), .row [.int .u32], .row (bKinds.map CK.int), .row [.int .i64], .row [.bool], .one (.int .i64), .row [.int .u32, .int .i64, .bool], .row [.int .i64], .row [.int .i64], .one (.int .i64), .one (.int .i64)]
theorem ffits_cons {w : World} {k : FK} {ks : List FK} {vs : List Value} (h : FFits w (k :: ks) vs) : ∃ v vs', vs = v :: vs' ∧ k.ok w v ∧ FFits w ks vs' := by
 cases vs with
 | nil => cases h
 | cons v vs' => exact ⟨v, vs', rfl, h.1, h.2⟩
theorem wf_i64 {n : Int} (h : (Lit.int .i64 n).wf = true) : in64 n := by
 unfold in64
 simp [Lit.wf, IntKind.has, IntKind.min, IntKind.max, IntKind.signed, IntKind.bits] at h; omega
def inQ (n : Int) : Prop := 0 ≤ n ∧ n < 18446744073709551616
theorem wf_u64 {n : Int} (h : (Lit.int .u64 n).wf = true) : inQ n := by
 unfold inQ
 simp [Lit.wf, IntKind.has, IntKind.min, IntKind.max, IntKind.signed, IntKind.bits] at h; omega
theorem rep_nums {w : World} {A : Nat → Prop} (ks : List IntKind) (f : Nat → Int) : RepS w A (.agg (mkL ks f)) (.agg (mkVal ks f).toArray) := rep_ints ks f
theorem one_int {w : World} {k : IntKind} {v : Value} (h : (FK.one (.int k)).ok w v) : ∃ n, v = .int k n := by
 obtain ⟨n, e, _⟩ := h; exact ⟨n, e⟩
theorem row_ints {w : World} {k : IntKind} {v : Value} (h : (FK.row [.int k]).ok w v) : ∃ xs, RepS w (fun k => k < w.heap.size) (.rc [.ints k xs]) v ∧ ∀ i, i < xs.length → (Lit.int k (xs.getD i 0)).wf = true := by
 obtain ⟨cols, n, hc, hr⟩ := h
 obtain ⟨xs, cs, rfl, e, hw, hc⟩ := colsOf_int hc
 have := colsOf_nil hc; subst this; subst e
 exact ⟨xs, hr.rep notLive rfl (fun c hc m f q => by simp at hc; subst hc; cases q), hw⟩
theorem row_bools {w : World} {v : Value} (h : (FK.row [.bool]).ok w v) : ∃ xs, RepS w (fun k => k < w.heap.size) (.rc [.bools xs]) v := by
 obtain ⟨cols, n, hc, hr⟩ := h
 obtain ⟨xs, cs, rfl, e, hc⟩ := colsOf_bool hc
 have := colsOf_nil hc; subst this; subst e
 exact ⟨xs, hr.rep notLive rfl (fun c hc m f q => by simp at hc; subst hc; cases q)⟩
theorem row_cells {w : World} {v : Value} (h : (FK.row [.int .u32, .int .i64, .bool]).ok w v) : ∃ kx px ux, RepS w (fun k => k < w.heap.size) (cc kx px ux) v ∧ px.length = kx.length ∧ ux.length = kx.length ∧ ∀ i, i < kx.length → inU (kx.getD i 0) := by
 obtain ⟨cols, n, hc, hr⟩ := h
 obtain ⟨kx, cs, rfl, e, hw, hc⟩ := colsOf_int hc
 obtain ⟨px, cs, rfl, e2, _, hc⟩ := colsOf_int hc
 obtain ⟨ux, cs, rfl, e3, hc⟩ := colsOf_bool hc
 have := colsOf_nil hc; subst this; subst e
 exact ⟨kx, px, ux, hr.rep notLive rfl (fun c hc m f q => by simp at hc; rcases hc with rfl | rfl | rfl <;> cases q), e2, e3, fun i hi => wf_u32 (hw i hi)⟩
theorem row_buckets {w : World} {v : Value} (h : (FK.row (bKinds.map CK.int)).ok w v) : ∃ x1 x2 x3 x4 x5 x6, RepS w (fun k => k < w.heap.size) (kr x1 x2 x3 x4 x5 x6) v ∧
  (x2.length = x1.length ∧ x3.length = x1.length ∧ x4.length = x1.length ∧ x5.length = x1.length ∧ x6.length = x1.length) ∧ ∀ i, i < x1.length → in64 (x4.getD i 0) := by
 obtain ⟨cols, n, hc, hr⟩ := h
 obtain ⟨x1, cs, rfl, e, _, hc⟩ := colsOf_int hc
 obtain ⟨x2, cs, rfl, e2, _, hc⟩ := colsOf_int hc
 obtain ⟨x3, cs, rfl, e3, _, hc⟩ := colsOf_int hc
 obtain ⟨x4, cs, rfl, e4, hw, hc⟩ := colsOf_int hc
 obtain ⟨x5, cs, rfl, e5, _, hc⟩ := colsOf_int hc
 obtain ⟨x6, cs, rfl, e6, _, hc⟩ := colsOf_int hc
 have := colsOf_nil hc; subst this; subst e
 exact ⟨x1, x2, x3, x4, x5, x6, hr.rep notLive rfl (fun c hc m f q => by simp at hc; rcases hc with rfl | rfl | rfl | rfl | rfl | rfl <;> cases q), ⟨e2, e3, e4, e5, e6⟩, fun i hi => wf_i64 (hw i hi)⟩
/-- A table that comes in. -/
theorem table_in {w : World} {vs : List Value} (h : FFits w tKinds vs) : ∃ T : Tb, okW T ∧ RepS w (fun k => k < w.heap.size) T.d (.agg vs.toArray) := by
 obtain ⟨v0, vs, rfl, h0, h⟩ := ffits_cons h
 obtain ⟨v1, vs, rfl, h1, h⟩ := ffits_cons h
 obtain ⟨v2, vs, rfl, h2, h⟩ := ffits_cons h
 obtain ⟨v3, vs, rfl, h3, h⟩ := ffits_cons h
 obtain ⟨v4, vs, rfl, h4, h⟩ := ffits_cons h
 obtain ⟨v5, vs, rfl, h5, h⟩ := ffits_cons h
 obtain ⟨v6, vs, rfl, h6, h⟩ := ffits_cons h
 obtain ⟨v7, vs, rfl, h7, h⟩ := ffits_cons h
 obtain ⟨v8, vs, rfl, h8, h⟩ := ffits_cons h
 obtain ⟨v9, vs, rfl, h9, h⟩ := ffits_cons h
 obtain ⟨v10, vs, rfl, h10, h⟩ := ffits_cons h
 have : vs = [] := by cases vs with | nil => rfl | cons => cases h
 subst this
 obtain ⟨n, rfl⟩ := one_int h0
 obtain ⟨ks, r1, k1⟩ := row_ints h1
 obtain ⟨x1, x2, x3, x4, x5, x6, r2, ⟨e2, e3, e4, e5, e6⟩, k2⟩ := row_buckets h2
 obtain ⟨nx, r3, _⟩ := row_ints h3
 obtain ⟨us, r4⟩ := row_bools h4
 obtain ⟨fr, rfl⟩ := one_int h5
 obtain ⟨kx, px, ux, r6, e7, e8, k6⟩ := row_cells h6
 obtain ⟨ps, r7, _⟩ := row_ints h7
 obtain ⟨no, r8, _⟩ := row_ints h8
 obtain ⟨hh, rfl⟩ := one_int h9
 obtain ⟨t, rfl⟩ := one_int h10
 refine ⟨⟨n, ks, x1, x2, x3, x4, x5, x6, nx, us, fr, kx, px, ux, ps, no, hh, t⟩, ⟨k6, fun i hi => wf_u32 (k1 i hi), k2, e2, e3, e4, e5, e6, e7, e8⟩, ?_⟩
 simp only [RepS]
 refine ⟨_, rfl, ?_⟩
 simp only [RepL]
 exact ⟨_, _, rfl, rfl, _, _, rfl, r1, _, _, rfl, r2, _, _, rfl, r3, _, _, rfl, r4, _, _, rfl, rfl, _, _, rfl, r6, _, _, rfl, r7, _, _, rfl, r8, _, _, rfl, rfl, _, _, rfl, rfl, rfl⟩
end TableS
end

section
namespace TableS
open Go Go.Dam Go.Proofs
set_option maxRecDepth 1000000
theorem lu0_p0 (T : Tb) (n k b r p a : Int) : fnX Try.prog (X26) 100000 [.d true] 3 [i64 n, T.d, u32 k, D.agg [i64 b, i64 r, i64 p], u64 a] = some (bo true, [T.great = true]) := by kernel_rfl
theorem lu0_calls (T : Tb) (n k b r p a : Int) (res : D)
 (e0 : (T.great) = true)
 (h0 : (True) ∧ res = bo true) : CallsD Try.prog 3 [i64 n, T.d, u32 k, D.agg [i64 b, i64 r, i64 p], u64 a] res := by
 obtain ⟨_, kr⟩ := h0
 exact of_path (hX26) (lu0_p0 T n k b r p a) ⟨e0, trivial⟩ kr
theorem lu_p0 (T : Tb) (n k b r p a : Int) : fnX Try.prog (X26) 100000 [.d false, .c 2, .d true, .c 3, .d true, .c 1, .d true, .c 1, .d true, .c 4, .d true, .c 1, .d true, .c 1, .d true, .c 1] 3 [i64 n, T.d, u32 k, D.agg [i64 b, i64 r, i64 p], u64 a] = some (bo true, [rowLen0 [.ints .u32 T.ks] = rowLen0 [.ints .u32 T.ks], rowLen0 [.ints .i64 T.x1, .ints .i64 T.x2, .ints .i64 T.x3, .ints .i64 T.x4, .ints .i64 T.x5, .ints .u64 T.x6] = rowLen0 [.ints .i64 T.x1, .ints .i64 T.x2, .ints .i64 T.x3, .ints .i64 T.x4, .ints .i64 T.x5, .ints .u64 T.x6], rowLen0 [.ints .i64 T.nx] = rowLen0 [.ints .i64 T.nx], rowLen0 [.bools T.us] = rowLen0 [.bools T.us], rowLen0 [.ints .u32 T.kx, .ints .i64 T.px, .bools T.ux] = rowLen0 [.ints .u32 T.kx, .ints .i64 T.px, .bools T.ux], rowLen0 [.ints .i64 T.ps] = rowLen0 [.ints .i64 T.ps], rowLen0 [.ints .i64 T.no] = rowLen0 [.ints .i64 T.no], T = T, twS T, cmpI .eql (usE T b r p) (usE T b r p) = true, (decide (usW T k b r p) == decide (usW T k b r p)) = true, cmpI .eql (usG T k b r p) (usG T k b r p) = true, rowLen0 [.ints .u32 (usR T k b r p a).ks] = rowLen0 [.ints .u32 (usR T k b r p a).ks], rowLen0 [.ints .i64 (usR T k b r p a).x1, .ints .i64 (usR T k b r p a).x2, .ints .i64 (usR T k b r p a).x3, .ints .i64 (usR T k b r p a).x4, .ints .i64 (usR T k b r p a).x5, .ints .u64 (usR T k b r p a).x6] = rowLen0 [.ints .i64 (usR T k b r p a).x1, .ints .i64 (usR T k b r p a).x2, .ints .i64 (usR T k b r p a).x3, .ints .i64 (usR T k b r p a).x4, .ints .i64 (usR T k b r p a).x5, .ints .u64 (usR T k b r p a).x6], rowLen0 [.ints .i64 (usR T k b r p a).nx] = rowLen0 [.ints .i64 (usR T k b r p a).nx], rowLen0 [.bools (usR T k b r p a).us] = rowLen0 [.bools (usR T k b r p a).us], rowLen0 [.ints .u32 (usR T k b r p a).kx, .ints .i64 (usR T k b r p a).px, .bools (usR T k b r p a).ux] = rowLen0 [.ints .u32 (usR T k b r p a).kx, .ints .i64 (usR T k b r p a).px, .bools (usR T k b r p a).ux], rowLen0 [.ints .i64 (usR T k b r p a).ps] = rowLen0 [.ints .i64 (usR T k b r p a).ps], rowLen0 [.ints .i64 (usR T k b r p a).no] = rowLen0 [.ints .i64 (usR T k b r p a).no], rowLen0 [.ints .u32 (usR T k b r p a).ks] = rowLen0 [.ints .u32 (usR T k b r p a).ks], rowLen0 [.ints .i64 (usR T k b r p a).x1, .ints .i64 (usR T k b r p a).x2, .ints .i64 (usR T k b r p a).x3, .ints .i64 (usR T k b r p a).x4, .ints .i64 (usR T k b r p a).x5, .ints .u64 (usR T k b r p a).x6] = rowLen0 [.ints .i64 (usR T k b r p a).x1, .ints .i64 (usR T k b r p a).x2, .ints .i64 (usR T k b r p a).x3, .ints .i64 (usR T k b r p a).x4, .ints .i64 (usR T k b r p a).x5, .ints .u64 (usR T k b r p a).x6], rowLen0 [.ints .i64 (usR T k b r p a).nx] = rowLen0 [.ints .i64 (usR T k b r p a).nx], rowLen0 [.bools (usR T k b r p a).us] = rowLen0 [.bools (usR T k b r p a).us], rowLen0 [.ints .u32 (usR T k b r p a).kx, .ints .i64 (usR T k b r p a).px, .bools (usR T k b r p a).ux] = rowLen0 [.ints .u32 (usR T k b r p a).kx, .ints .i64 (usR T k b r p a).px, .bools (usR T k b r p a).ux], rowLen0 [.ints .i64 (usR T k b r p a).ps] = rowLen0 [.ints .i64 (usR T k b r p a).ps], rowLen0 [.ints .i64 (usR T k b r p a).no] = rowLen0 [.ints .i64 (usR T k b r p a).no], (usR T k b r p a) = (usR T k b r p a), twS (usR T k b r p a), cmpI .eql (tcV T) (tcV T) = true, eqB (kyV T) (kyV T) = true, rowLen0 [.ints .u32 (kyV T)] = rowLen0 [.ints .u32 (kyV T)], rowLen0 [.ints .u32 (kyV T)] = rowLen0 [.ints .u32 (kyV T)], (kyV T).length ≤ 200, cmpI .eql (tcV T) (rcV T) = true, okT T, rowLen0 [.ints .u32 T.ks] = rowLen0 [.ints .u32 T.ks], rowLen0 [.ints .i64 T.x1, .ints .i64 T.x2, .ints .i64 T.x3, .ints .i64 T.x4, .ints .i64 T.x5, .ints .u64 T.x6] = rowLen0 [.ints .i64 T.x1, .ints .i64 T.x2, .ints .i64 T.x3, .ints .i64 T.x4, .ints .i64 T.x5, .ints .u64 T.x6], rowLen0 [.ints .i64 T.nx] = rowLen0 [.ints .i64 T.nx], rowLen0 [.bools T.us] = rowLen0 [.bools T.us], rowLen0 [.ints .u32 T.kx, .ints .i64 T.px, .bools T.ux] = rowLen0 [.ints .u32 T.kx, .ints .i64 T.px, .bools T.ux], rowLen0 [.ints .i64 T.ps] = rowLen0 [.ints .i64 T.ps], rowLen0 [.ints .i64 T.no] = rowLen0 [.ints .i64 T.no], okT T, cmpI .eql (nwE n) (nwE n) = true, rowLen0 [.ints .u32 (nwV n).ks] = rowLen0 [.ints .u32 (nwV n).ks], rowLen0 [.ints .i64 (nwV n).x1, .ints .i64 (nwV n).x2, .ints .i64 (nwV n).x3, .ints .i64 (nwV n).x4, .ints .i64 (nwV n).x5, .ints .u64 (nwV n).x6] = rowLen0 [.ints .i64 (nwV n).x1, .ints .i64 (nwV n).x2, .ints .i64 (nwV n).x3, .ints .i64 (nwV n).x4, .ints .i64 (nwV n).x5, .ints .u64 (nwV n).x6], rowLen0 [.ints .i64 (nwV n).nx] = rowLen0 [.ints .i64 (nwV n).nx], rowLen0 [.bools (nwV n).us] = rowLen0 [.bools (nwV n).us], rowLen0 [.ints .u32 (nwV n).kx, .ints .i64 (nwV n).px, .bools (nwV n).ux] = rowLen0 [.ints .u32 (nwV n).kx, .ints .i64 (nwV n).px, .bools (nwV n).ux], rowLen0 [.ints .i64 (nwV n).ps] = rowLen0 [.ints .i64 (nwV n).ps], rowLen0 [.ints .i64 (nwV n).no] = rowLen0 [.ints .i64 (nwV n).no], rowLen0 [.ints .u32 (nwV n).ks] = rowLen0 [.ints .u32 (nwV n).ks], rowLen0 [.ints .i64 (nwV n).x1, .ints .i64 (nwV n).x2, .ints .i64 (nwV n).x3, .ints .i64 (nwV n).x4, .ints .i64 (nwV n).x5, .ints .u64 (nwV n).x6] = rowLen0 [.ints .i64 (nwV n).x1, .ints .i64 (nwV n).x2, .ints .i64 (nwV n).x3, .ints .i64 (nwV n).x4, .ints .i64 (nwV n).x5, .ints .u64 (nwV n).x6], rowLen0 [.ints .i64 (nwV n).nx] = rowLen0 [.ints .i64 (nwV n).nx], rowLen0 [.bools (nwV n).us] = rowLen0 [.bools (nwV n).us], rowLen0 [.ints .u32 (nwV n).kx, .ints .i64 (nwV n).px, .bools (nwV n).ux] = rowLen0 [.ints .u32 (nwV n).kx, .ints .i64 (nwV n).px, .bools (nwV n).ux], rowLen0 [.ints .i64 (nwV n).ps] = rowLen0 [.ints .i64 (nwV n).ps], rowLen0 [.ints .i64 (nwV n).no] = rowLen0 [.ints .i64 (nwV n).no], (nwV n) = (nwV n), twS (nwV n), okT T ∧ inU k, rowLen0 [.ints .u32 T.ks] = rowLen0 [.ints .u32 T.ks], rowLen0 [.ints .i64 T.x1, .ints .i64 T.x2, .ints .i64 T.x3, .ints .i64 T.x4, .ints .i64 T.x5, .ints .u64 T.x6] = rowLen0 [.ints .i64 T.x1, .ints .i64 T.x2, .ints .i64 T.x3, .ints .i64 T.x4, .ints .i64 T.x5, .ints .u64 T.x6], rowLen0 [.ints .i64 T.nx] = rowLen0 [.ints .i64 T.nx], rowLen0 [.bools T.us] = rowLen0 [.bools T.us], rowLen0 [.ints .u32 T.kx, .ints .i64 T.px, .bools T.ux] = rowLen0 [.ints .u32 T.kx, .ints .i64 T.px, .bools T.ux], rowLen0 [.ints .i64 T.ps] = rowLen0 [.ints .i64 T.ps], rowLen0 [.ints .i64 T.no] = rowLen0 [.ints .i64 T.no], okT T ∧ inU k, okT T, rowLen0 [.ints .u32 T.ks] = rowLen0 [.ints .u32 T.ks], rowLen0 [.ints .i64 T.x1, .ints .i64 T.x2, .ints .i64 T.x3, .ints .i64 T.x4, .ints .i64 T.x5, .ints .u64 T.x6] = rowLen0 [.ints .i64 T.x1, .ints .i64 T.x2, .ints .i64 T.x3, .ints .i64 T.x4, .ints .i64 T.x5, .ints .u64 T.x6], rowLen0 [.ints .i64 T.nx] = rowLen0 [.ints .i64 T.nx], rowLen0 [.bools T.us] = rowLen0 [.bools T.us], rowLen0 [.ints .u32 T.kx, .ints .i64 T.px, .bools T.ux] = rowLen0 [.ints .u32 T.kx, .ints .i64 T.px, .bools T.ux], rowLen0 [.ints .i64 T.ps] = rowLen0 [.ints .i64 T.ps], rowLen0 [.ints .i64 T.no] = rowLen0 [.ints .i64 T.no], okT T, twS T, T.great = false]) := by kernel_rfl
theorem lu_calls (T : Tb) (n k b r p a : Int) (res : D)
 (e0 : (T.great) = false)
 (e1 : (cmpI .eql (nwE n) (nwE n)) = true)
 (e2 : (cmpI .eql (tcV T) (rcV T)) = true)
 (e3 : (eqB (kyV T) (kyV T)) = true)
 (e4 : (cmpI .eql (tcV T) (tcV T)) = true)
 (e5 : (cmpI .eql (usG T k b r p) (usG T k b r p)) = true)
 (e6 : (decide (usW T k b r p) == decide (usW T k b r p)) = true)
 (e7 : (cmpI .eql (usE T b r p) (usE T b r p)) = true)
 (h0 : ((T = T) ∧ (twS T) ∧ ((usR T k b r p a) = (usR T k b r p a)) ∧ (twS (usR T k b r p a)) ∧ ((kyV T).length ≤ 200) ∧ (okT T) ∧ (okT T) ∧ (twS (nwV n)) ∧ (okT T ∧ inU k) ∧ (okT T ∧ inU k) ∧ (okT T) ∧ (okT T) ∧ (twS T) ∧ True) ∧ res = bo true) : CallsD Try.prog 3 [i64 n, T.d, u32 k, D.agg [i64 b, i64 r, i64 p], u64 a] res := by
 obtain ⟨⟨k0, k1, k2, k3, k4, k5, k6, k7, k8, k9, k10, k11, k12, _⟩, kr⟩ := h0
 exact of_path (hX26) (lu_p0 T n k b r p a) ⟨rfl, rfl, rfl, rfl, rfl, rfl, rfl, k0, k1, e7, e6, e5, rfl, rfl, rfl, rfl, rfl, rfl, rfl, rfl, rfl, rfl, rfl, rfl, rfl, rfl, k2, k3, e4, e3, rfl, rfl, k4, e2, k5, rfl, rfl, rfl, rfl, rfl, rfl, rfl, k6, e1, rfl, rfl, rfl, rfl, rfl, rfl, rfl, rfl, rfl, rfl, rfl, rfl, rfl, rfl, rfl, k7, k8, rfl, rfl, rfl, rfl, rfl, rfl, rfl, k9, k10, rfl, rfl, rfl, rfl, rfl, rfl, rfl, k11, k12, e0, trivial⟩ kr
theorem okT_twS {T : Tb} (h : okT T) : twS T := by
 obtain ⟨d8, _, _, d1, d2, d3, d4, d5, d6, d7⟩ := h
 exact ⟨d6, d4, d1, d2, d5, d7, d3⟩
theorem t0_twS : twS t0 := by
 refine ⟨?_, ⟨?_, ?_, ?_, ?_, ?_, ?_⟩, ?_, ?_, ⟨?_, ?_, ?_⟩, ?_, ?_⟩ <;> simp [t0]
theorem usR_twS {T : Tb} (ho : okT T) {k b r p a : Int} (hk : inU k) : twS (usR T k b r p a) := by
 by_cases c : tcV T = 0 ∧ limV b r p = 0
 ·obtain ⟨L, F, v⟩ := tc_inv ho c.1
  obtain ⟨_, _, u, _⟩ := use_used (a := a) ho v hk c.2
  exact okT_twS u.ok
 ·unfold usR; rw [if_neg c]; exact t0_twS
theorem nwV_twS (n : Int) : twS (nwV n) := by
 unfold nwV
 split
 ·next c =>
  refine ⟨?_, ⟨?_, ?_, ?_, ?_, ?_, ?_⟩, ?_, ?_, ⟨?_, ?_, ?_⟩, ?_, ?_⟩ <;> simp [nwT, zr, mr, nwX, zc1, zc2] <;> omega
 ·exact t0_twS
theorem kyV_len {T : Tb} : (kyV T).length ≤ 200 := by
 unfold kyV
 split
 ·next f =>
  rw [List.length_map]
  obtain ⟨l1, l2⟩ := tc_list f
  have := okL_len l2
  have := (tcV_is f).1.2.1
  rw [l1]; omega
 ·simp
theorem eqls (x : Int) : cmpI .eql x x = true := by rw [eql_t]
theorem uses_ok (n : Int) (T : Tb) (k b r p a : Int) (hh : in64 n ∧ okW T ∧ inU k ∧ (in64 b ∧ in64 r ∧ in64 p) ∧ inQ a) :
  CallsD Try.prog 3 [i64 n, T.d, u32 k, .agg [i64 b, i64 r, i64 p], u64 a] (bo true) := by
 obtain ⟨_, hw, hk, _, _⟩ := hh
 cases f0 : T.great with
 | true => exact lu0_calls T n k b r p a _ f0 ⟨trivial, rfl⟩
 | false =>
  have ho := okT_of hw f0
  have w := okT_twS ho
  have wu := usR_twS (b := b) (r := r) (p := p) (a := a) ho hk
  exact lu_calls T n k b r p a _ f0 (eqls _) (by rw [eql_t]; exact tc_eq_rc ho) (by simp [eqB]) (eqls _) (eqls _) (by simp) (eqls _)
   ⟨⟨rfl, w, rfl, wu, kyV_len, ho, ho, nwV_twS n, ⟨ho, hk⟩, ⟨ho, hk⟩, ho, ho, w, trivial⟩, rfl⟩
end TableS
end

section
namespace Go.Proofs.Ytakcfkmfiamliaa.tableUses
open Go.ChangeShapes Go.WideShapes Go.ChangeAt Go.RowKit Go.Dam _root_.TableS
set_option maxRecDepth 100000
theorem walk (W : World) (v0 v1 v2 v3 v4 : Value) (n0 : Int) (l1 : List Value) (n2 : Int) (f3 : Nat → Int) (n4 : Int) (h0 : v0 = .int .i64 n0) (w0 : (Lit.int .i64 n0).wf = true) (h1 : v1 = .agg l1.toArray) (w1 : FFits W tKinds l1) (h2 : v2 = .int .u32 n2) (w2 : (Lit.int .u32 n2).wf = true) (h3 : v3 = .agg (mkVal lKinds f3).toArray) (w3 : ∀ j k, lKinds[j]? = some k → (Lit.int k (f3 j)).wf = true) (h4 : v4 = .int .u64 n4) (w4 : (Lit.int .u64 n4).wf = true) :
  Calls Try.prog 3 #[v0, v1, v2, v3, v4] W (fun e W' => e = .returned (.bool true) ∧ Below W.heap.size W W') := by
 obtain ⟨T1, t1, r1⟩ := table_in w1
 subst h0; subst h1; subst h2; subst h3; subst h4
 refine (uses_ok n0 T1 n2 (f3 0) (f3 1) (f3 2) n4 ⟨TableS.wf_i64 w0, t1, Go.Dam.wf_u32 w2, ⟨TableS.wf_i64 (w3 0 .i64 rfl), TableS.wf_i64 (w3 1 .i64 rfl), TableS.wf_i64 (w3 2 .i64 rfl)⟩, TableS.wf_u64 w4⟩ W (fun k => k < W.heap.size) [_, _, _, _, _] ?_ (fun _ h => h) (fun g h => absurd rfl h)).mono ?_
 ·exact ⟨_, _, rfl, rfl, ⟨_, _, rfl, r1, ⟨_, _, rfl, rfl, ⟨_, _, rfl, rep_nums _ _, ⟨_, _, rfl, rfl, rfl⟩⟩⟩⟩⟩
 ·rintro e w' ⟨v, A', bl, rfl, hr, _, _, _, _, hb⟩
  have hv : v = .bool true := by
   simp only [RepO, RepS] at hr
   exact hr.1
  exact ⟨by rw [hv], hb⟩
theorem own : ownKnob Try.prog.godebug = none := by kernel_rfl
theorem laidOut : laidOutB Try.prog = true := by kernel_rfl
theorem lifted (os : Os) (started : os.Started) (H : Type) (enc : TypeId × Value → H) :
  ReturnsInHanded {} Try.checked os 3 .any (Rows.tableUsesSpec.pre6 enc Try.prog Try.f3 Rows.tableUsesRow.domain false) (Rows.tableUsesSpec.post enc Try.prog Try.f3 false true false false) := by
 refine returnsInHanded_of_change_sized (C := Try.checked) own started (by kernel_rfl) Try.func3
  (ChangeSpec.witness6 (enc := enc) (C := Try.checked) false ⟨#[], #[.int .i64 0, .agg #[.int .i64 0, .slice none 0 0, .slice none 0 0, .slice none 0 0, .slice none 0 0, .int .i64 0, .slice none 0 0, .slice none 0 0, .slice none 0 0, .int .i64 0, .int .i64 0], .int .u32 0, .agg #[.int .i64 0, .int .i64 0, .int .i64 0], .int .u64 0], []⟩ 8 (by kernel_rfl) (by kernel_rfl) (by kernel_rfl) (by kernel_rfl)) ?_
 intro W base args ds gs before hval0 hW hcnd hsz0 _
 have hval : ∀ (j : Nat) t v, Try.f3.params[j]? = some t → args[j]? = some v → Value.okWide Try.prog W .any base t v := hval0
 have hW' := hW
 obtain ⟨p, q, hA0, hV, rfl, hfz, hnd⟩ := hW
 have hA : DataW.TrodAll enc Try.prog W 0 (fun _ => true) true Try.f3.params.toList args.toList ds p := hA0
 rw [Try.params3] at hA hval
 obtain ⟨v0, vs0, d0, ds0, p0, q0, hargs, rfl, rfl, h0, r0⟩ := trodAll_cons hA
 obtain ⟨v1, vs1, d1, ds1, p1, q1, rfl, rfl, rfl, h1, r1⟩ := trodAll_cons r0
 obtain ⟨v2, vs2, d2, ds2, p2, q2, rfl, rfl, rfl, h2, r2⟩ := trodAll_cons r1
 obtain ⟨v3, vs3, d3, ds3, p3, q3, rfl, rfl, rfl, h3, r3⟩ := trodAll_cons r2
 obtain ⟨v4, vs4, d4, ds4, p4, q4, rfl, rfl, rfl, h4, r4⟩ := trodAll_cons r3
 obtain ⟨rfl, rfl, rfl⟩ := trodAll_nil r4
 obtain rfl : args = #[v0, v1, v2, v3, v4] := by cases args; simp_all
 obtain ⟨rfl, rfl⟩ := trodVars_none hV
 have lt : ∀ {t : TypeId} {v : Value} {d : DataW H} {ps : List MemPlace}, DataW.Trod enc Try.prog W 0 (fun _ => true) true t v d ps → ∀ x ∈ ps, x.block < W.heap.size := fun h => by
  obtain ⟨m, hm⟩ := h; exact DataW.trod_lt m _ _ _ hm
 obtain ⟨n0, e0, _, _, w0⟩ := open_int (k := .i64) Try.underlying3 (hval 0 3 v0 rfl rfl) h0
 obtain ⟨l1, e1, w1⟩ := open_flat (n := 5) (ks := tKinds) (by kernel_rfl) (by rw [Try.underlying32]) (hval 1 32 v1 rfl rfl) h1
 obtain ⟨n2, e2, _, _, w2⟩ := open_int (k := .u32) Try.underlying33 (hval 2 33 v2 rfl rfl) h2
 obtain ⟨f3, e3, w3⟩ := open_ints (n := 5) (ks := lKinds) (by kernel_rfl) (by rw [Try.underlying35]) (hval 3 35 v3 rfl rfl) h3
 obtain ⟨n4, e4, _, _, w4⟩ := open_int (k := .u64) Try.underlying36 (hval 4 36 v4 rfl rfl) h4
 clear hA0 hval0 hsz0
 refine (walk W v0 v1 v2 v3 v4 n0 l1 n2 f3 n4 e0 w0 e1 w1 e2 w2 e3 w3 e4 w4).mono fun e W' ⟨he, bel⟩ => ?_
 subst he
 exact ⟨_, rfl, _, _, _, [], _, [], hW', trodAll_mk1 (shut_bool Try.underlying4 _),
  (trodAll_cons_mk (Below.trod laidOut (by kernel_rfl) (of_decide_eq_true (by kernel_rfl)) h0 bel (lt h0)) (trodAll_cons_mk (Below.trod laidOut (by kernel_rfl) (of_decide_eq_true (by kernel_rfl)) h1 bel (lt h1)) (trodAll_cons_mk (Below.trod laidOut (by kernel_rfl) (of_decide_eq_true (by kernel_rfl)) h2 bel (lt h2)) (trodAll_cons_mk (Below.trod laidOut (by kernel_rfl) (of_decide_eq_true (by kernel_rfl)) h3 bel (lt h3)) (trodAll_cons_mk (Below.trod laidOut (by kernel_rfl) (of_decide_eq_true (by kernel_rfl)) h4 bel (lt h4)) trodAll_mk0))))), rfl, bel.frame _, fun h => by cases h⟩
theorem over : Rows.tableUsesRow.holds Try.pinned (OpenSpec.ofChange Rows.tableUsesSpec) :=
 OpenClaim.holds_of_wide 3 Try.f3 rfl rfl rfl rfl rfl rfl rfl ⟨rfl, rfl, rfl, rfl, rfl⟩ rfl rfl rfl rfl rfl (by kernel_rfl) Try.func3 (by kernel_rfl)
  (of_decide_eq_true (by kernel_rfl)) (by unfold Func.isWrapper; first | (rw [if_pos (by decide +kernel)]; kernel_rfl) | (rw [if_neg (by decide +kernel)]; exact ⟨rfl, rfl⟩))
  (fun os started H enc _ => lifted os started H enc)
theorem proved : Rows.TableUsesSaid := over
#print axioms proved
end Go.Proofs.Ytakcfkmfiamliaa.tableUses
namespace Go.Proofs.Ytakcfkmfiamliaa
theorem tableUses_holds : Rows.TableUsesSaid := tableUses.proved
end Go.Proofs.Ytakcfkmfiamliaa
end
