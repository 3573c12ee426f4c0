/- What the functions compute, and the law. No condition. -/
import Derived.Test.YtakcfkmfiamliaaTaTW
set_option linter.unusedSectionVars false
set_option linter.unusedVariables false
set_option linter.unusedSimpArgs false
section
namespace TableS
open Go Go.Dam Go.Proofs
set_option maxRecDepth 1000000
noncomputable def t18L_c0 (T : Tb) (i : Int) := T.x2.getD i.toNat 0 == 0 && (T.x3.getD i.toNat 0 == 0 && true)
noncomputable def t18L_c1 (T : Tb) (i : Int) := T.x5.getD i.toNat 0 == 0 && (T.x6.getD i.toNat 0 == 0 && true)
noncomputable def t18L_c2 (T : Tb) (i : Int) := !T.us.getD i.toNat false == cmpI .eql (↑(ceN T.kx.length T.px T.ux i)) 1
noncomputable def t18L_c3 (T : Tb) (i : Int) := T.x1.getD i.toNat 0 == 0 && (t18L_c0 T i) && (T.x4.getD i.toNat 0 == 0 && (t18L_c1 T i))
noncomputable def t18L_c4 (T : Tb) (i : Int) := bkV (T.x1.getD i.toNat 0) (T.x2.getD i.toNat 0) (T.x3.getD i.toNat 0) (T.x4.getD i.toNat 0) (T.x5.getD i.toNat 0)
noncomputable def t18L_T (T : Tb) (o : Int) (m : Nat) (i : Int) (l : List Int) : Tr (Ex × Cs) := .d (cmpI .lss i T.n) (fun e0 => .s (decide (i < (T.ks.length : Int)) = true) (.s (decide (0 ≤ i) = true) (.s (T.kx.length ≤ 200) (.s (decide (i < (T.us.length : Int)) = true) (.s (decide (0 ≤ i) = true) (.s (l.length ≤ 200) (.s (m = l.length) (.d (!T.us.getD i.toNat false == inB l i) (fun e1 => .p (.c 10) (.lf (Ex.ret, (t18T T (8) (m) (i) (l))))) (fun e1 => .p (.c 7) (.s (decide (i < (T.us.length : Int)) = true) (.s (decide (0 ≤ i) = true) (.d (t18L_c2 T i) (fun e2 => .p (.c 1) (.lf (Ex.ret, (t18T T (8) (m) (i) (l))))) (fun e2 => .p (.c 0) (.d (!ceS T.kx.length T.kx T.px T.ux i (T.ks.getD i.toNat 0)) (fun e3 => .lf (Ex.ret, (t18T T (8) (m) (i) (l)))) (fun e3 => .s (decide (i < (T.us.length : Int)) = true) (.s (decide (0 ≤ i) = true) (.d (T.us.getD i.toNat false) (fun e4 => .p (.c 5) (.s (decide (i < (T.x1.length : Int)) = true) (.s (decide (0 ≤ i) = true) (.d (cmpI .neq (t18L_c4 T i) 0) (fun e5 => .lf (Ex.ret, (t18T T (8) (m) (i) (l)))) (fun e5 => .s (decide (i < (T.us.length : Int)) = true) (.s (decide (0 ≤ i) = true) (.d (!T.us.getD i.toNat false) (fun e6 => .p (.c 5) (.s (decide (i < (T.ks.length : Int)) = true) (.s (decide (0 ≤ i) = true) (.d (cmpI .neq (T.ks.getD i.toNat 0) 0) (fun e7 => .p (.c 7) (.lf (Ex.ret, (t18T T (8) (m) (i) (l))))) (fun e7 => .p (.c 6) (.s (decide (i < (T.x1.length : Int)) = true) (.s (decide (0 ≤ i) = true) (.d (!(t18L_c3 T i)) (fun e8 => .lf (Ex.ret, (t18T T (8) (m) (i) (l)))) (fun e8 => .lf (Ex.normal, (t18T T (o) (m) (opI .add .i64 i 1) (l)))))))))))) (fun e6 => .p (.c 7) (.lf (Ex.normal, (t18T T (o) (m) (opI .add .i64 i 1) (l)))))))))))) (fun e4 => .p (.c 6) (.s (decide (i < (T.us.length : Int)) = true) (.s (decide (0 ≤ i) = true) (.d (!T.us.getD i.toNat false) (fun e5 => .p (.c 5) (.s (decide (i < (T.ks.length : Int)) = true) (.s (decide (0 ≤ i) = true) (.d (cmpI .neq (T.ks.getD i.toNat 0) 0) (fun e6 => .p (.c 7) (.lf (Ex.ret, (t18T T (8) (m) (i) (l))))) (fun e6 => .p (.c 6) (.s (decide (i < (T.x1.length : Int)) = true) (.s (decide (0 ≤ i) = true) (.d (!(t18L_c3 T i)) (fun e7 => .lf (Ex.ret, (t18T T (8) (m) (i) (l)))) (fun e7 => .lf (Ex.normal, (t18T T (o) (m) (opI .add .i64 i 1) (l)))))))))))) (fun e5 => .p (.c 7) (.lf (Ex.normal, (t18T T (o) (m) (opI .add .i64 i 1) (l)))))))))))))))))))))))))) (fun e0 => .lf (Ex.exit 0, (t18T T (o) (m) (i) (l))))
theorem t18L_L (T : Tb) (o : Int) (m : Nat) (i : Int) (l : List Int) : Leaves (roundT Try.prog (X9) 100000 (loopAt Try.prog 18 0) [[1, 2, 3, 5]] [(32, 32), (2208, 2208)] (t18T T o m i l)) (t18L_T T o m i l) [] [] := by refine ⟨fun _ => ⟨fun _ => ?_, fun _ => ⟨fun _ => ?_, fun _ => ⟨fun _ => ?_, fun _ => ⟨fun _ => ⟨fun _ => ?_, fun _ => ⟨fun _ => ⟨fun _ => ?_, fun _ => ⟨fun _ => ?_, fun _ => ?_⟩⟩, fun _ => ?_⟩⟩, fun _ => ⟨fun _ => ⟨fun _ => ?_, fun _ => ⟨fun _ => ?_, fun _ => ?_⟩⟩, fun _ => ?_⟩⟩⟩⟩⟩, fun _ => ?_⟩ <;> (show _ = _; kernel_rfl)
theorem t18L_step (T : Tb) (o : Int) (m : Nat) (i : Int) (l : List Int) (σ : St) (e : Ex) (h0 : At (RG Try.prog (loopAt Try.prog 18 0) e σ) (t18L_T T o m i l) [true, true] True) (h1 : At (RG Try.prog (loopAt Try.prog 18 0) e σ) (t18L_T T o m i l) [true, false, true] True) (h2 : At (RG Try.prog (loopAt Try.prog 18 0) e σ) (t18L_T T o m i l) [true, false, false, true] True) (h3 : At (RG Try.prog (loopAt Try.prog 18 0) e σ) (t18L_T T o m i l) [true, false, false, false, true, true] True) (h4 : At (RG Try.prog (loopAt Try.prog 18 0) e σ) (t18L_T T o m i l) [true, false, false, false, true, false, true, true] True) (h5 : At (RG Try.prog (loopAt Try.prog 18 0) e σ) (t18L_T T o m i l) [true, false, false, false, true, false, true, false, true] True) (h6 : At (RG Try.prog (loopAt Try.prog 18 0) e σ) (t18L_T T o m i l) [true, false, false, false, true, false, true, false, false] True) (h7 : At (RG Try.prog (loopAt Try.prog 18 0) e σ) (t18L_T T o m i l) [true, false, false, false, true, false, false] True) (h8 : At (RG Try.prog (loopAt Try.prog 18 0) e σ) (t18L_T T o m i l) [true, false, false, false, false, true, true] True) (h9 : At (RG Try.prog (loopAt Try.prog 18 0) e σ) (t18L_T T o m i l) [true, false, false, false, false, true, false, true] True) (h10 : At (RG Try.prog (loopAt Try.prog 18 0) e σ) (t18L_T T o m i l) [true, false, false, false, false, true, false, false] True) (h11 : At (RG Try.prog (loopAt Try.prog 18 0) e σ) (t18L_T T o m i l) [true, false, false, false, false, false] True) (h12 : At (RG Try.prog (loopAt Try.prog 18 0) e σ) (t18L_T T o m i l) [false] True) : Runs Try.prog (CallsD Try.prog) (.rounds (loopAt Try.prog 18 0)) (t18T T o m i l).abs e σ := tree_rounds (hX9) (t18L_L T o m i l) ⟨fun e0 => ⟨fun e1 => h0 e0 e1, fun e1 => ⟨fun e2 => h1 e0 e1 e2, fun e2 => ⟨fun e3 => h2 e0 e1 e2 e3, fun e3 => ⟨fun e4 => ⟨fun e5 => h3 e0 e1 e2 e3 e4 e5, fun e5 => ⟨fun e6 => ⟨fun e7 => h4 e0 e1 e2 e3 e4 e5 e6 e7, fun e7 => ⟨fun e8 => h5 e0 e1 e2 e3 e4 e5 e6 e7 e8, fun e8 => h6 e0 e1 e2 e3 e4 e5 e6 e7 e8⟩⟩, fun e6 => h7 e0 e1 e2 e3 e4 e5 e6⟩⟩, fun e4 => ⟨fun e5 => ⟨fun e6 => h8 e0 e1 e2 e3 e4 e5 e6, fun e6 => ⟨fun e7 => h9 e0 e1 e2 e3 e4 e5 e6 e7, fun e7 => h10 e0 e1 e2 e3 e4 e5 e6 e7⟩⟩, fun e5 => h11 e0 e1 e2 e3 e4 e5⟩⟩⟩⟩⟩, fun e0 => h12 e0⟩
noncomputable def t18F_c0 (T : Tb) := cmpI .neq ↑(ctN T.kx.length T.ux) ↑((chL T.no T.h).length)
noncomputable def t18F_T (T : Tb) (i : Int) : Tr D := .d (cmpI .lss T.n 1) (fun e0 => .p (.c 28) (.lf (i64 8))) (fun e0 => .p (.c 1) (.d (cmpI .gtr T.n 8) (fun e1 => .p (.c 25) (.lf (i64 8))) (fun e1 => .p (.c 4) (.d (cmpI .neq ((T.ks.length : Int)) T.n) (fun e2 => .p (.c 19) (.lf (i64 8))) (fun e2 => .p (.c 4) (.d (cmpI .neq ((T.x1.length : Int)) T.n) (fun e3 => .p (.c 13) (.lf (i64 8))) (fun e3 => .p (.c 5) (.d (cmpI .neq ((T.nx.length : Int)) T.n) (fun e4 => .p (.c 6) (.lf (i64 8))) (fun e4 => .p (.c 5) (.d (cmpI .neq ((T.ps.length : Int)) T.n) (fun e5 => .lf (i64 8)) (fun e5 => .s (T.nx.length ≤ 200) (.d (cmpI .neq (c13V T.nx T.us T.fr) 0) (fun e6 => .p (.c 7) (.lf (i64 8))) (fun e6 => .p (.c 2) (.s (okI T.kx) (.d (cmpI .neq (c14V T.kx T.px T.ux) 0) (fun e7 => .p (.c 3) (.lf (i64 8))) (fun e7 => .p (.c 2) (.s (T.no.length ≤ 200) (.d (cmpI .neq (c15V T.ps T.no T.h T.t) 0) (fun e8 => .lf (i64 8)) (fun e8 => .s (T.no.length ≤ 200) (.s (T.kx.length ≤ 200) (.d (t18F_c0 T) (fun e9 => .lf (i64 8)) (fun e9 => .p (.l [[1, 2, 3, 5]] [(32, 32), (2208, 2208)] (t18T T 0 ((chL T.no T.h).length) 0 (chL T.no T.h)) (Ex.exit 0) (t18T T 0 ((chL T.no T.h).length) i (chL T.no T.h))) (.s (Runs Try.prog (CallsD Try.prog) (.code (.loop (loopAt Try.prog 18 0))) (t18T T 0 ((chL T.no T.h).length) 0 (chL T.no T.h)).abs (Ex.exit 0) (t18T T 0 ((chL T.no T.h).length) i (chL T.no T.h)).abs) (.k ((t18T T 0 ((chL T.no T.h).length) 0 (chL T.no T.h) = t18T T 0 ((chL T.no T.h).length) 0 (chL T.no T.h))) rfl (.lf (i64 0))))))))))))))))))))))))))
theorem t18F_L (T : Tb) (i : Int) : Leaves (fun l => fnX Try.prog (X9) 100000 l 18 [T.d]) (t18F_T T i) [] [] := by refine ⟨fun _ => ?_, fun _ => ⟨fun _ => ?_, fun _ => ⟨fun _ => ?_, fun _ => ⟨fun _ => ?_, fun _ => ⟨fun _ => ?_, fun _ => ⟨fun _ => ?_, fun _ => ⟨fun _ => ?_, fun _ => ⟨fun _ => ?_, fun _ => ⟨fun _ => ?_, fun _ => ⟨fun _ => ?_, fun _ => ?_⟩⟩⟩⟩⟩⟩⟩⟩⟩⟩ <;> (show _ = _; kernel_rfl)
theorem t18F_calls (T : Tb) (i : Int) (res : D) (h0 : At (fun r => res = r) (t18F_T T i) [true] True) (h1 : At (fun r => res = r) (t18F_T T i) [false, true] True) (h2 : At (fun r => res = r) (t18F_T T i) [false, false, true] True) (h3 : At (fun r => res = r) (t18F_T T i) [false, false, false, true] True) (h4 : At (fun r => res = r) (t18F_T T i) [false, false, false, false, true] True) (h5 : At (fun r => res = r) (t18F_T T i) [false, false, false, false, false, true] True) (h6 : At (fun r => res = r) (t18F_T T i) [false, false, false, false, false, false, true] True) (h7 : At (fun r => res = r) (t18F_T T i) [false, false, false, false, false, false, false, true] True) (h8 : At (fun r => res = r) (t18F_T T i) [false, false, false, false, false, false, false, false, true] True) (h9 : At (fun r => res = r) (t18F_T T i) [false, false, false, false, false, false, false, false, false, true] True) (h10 : At (fun r => res = r) (t18F_T T i) [false, false, false, false, false, false, false, false, false, false] True) : CallsD Try.prog 18 [T.d] res := tree_calls (hX9) (t18F_L T i) ⟨fun e0 => h0 e0, fun e0 => ⟨fun e1 => h1 e0 e1, fun e1 => ⟨fun e2 => h2 e0 e1 e2, fun e2 => ⟨fun e3 => h3 e0 e1 e2 e3, fun e3 => ⟨fun e4 => h4 e0 e1 e2 e3 e4, fun e4 => ⟨fun e5 => h5 e0 e1 e2 e3 e4 e5, fun e5 => ⟨fun e6 => h6 e0 e1 e2 e3 e4 e5 e6, fun e6 => ⟨fun e7 => h7 e0 e1 e2 e3 e4 e5 e6 e7, fun e7 => ⟨fun e8 => h8 e0 e1 e2 e3 e4 e5 e6 e7 e8, fun e8 => ⟨fun e9 => h9 e0 e1 e2 e3 e4 e5 e6 e7 e8 e9, fun e9 => h10 e0 e1 e2 e3 e4 e5 e6 e7 e8 e9⟩⟩⟩⟩⟩⟩⟩⟩⟩⟩
noncomputable def t18R_c0 (T : Tb) := cmpI .neq ↑(ctN T.kx.length T.ux) ↑((chL T.no T.h).length)
noncomputable def t18R_T (T : Tb) (o : Int) (i : Int) : Tr D := .d (cmpI .lss T.n 1) (fun e0 => .p (.c 28) (.lf (i64 8))) (fun e0 => .p (.c 1) (.d (cmpI .gtr T.n 8) (fun e1 => .p (.c 25) (.lf (i64 8))) (fun e1 => .p (.c 4) (.d (cmpI .neq ((T.ks.length : Int)) T.n) (fun e2 => .p (.c 19) (.lf (i64 8))) (fun e2 => .p (.c 4) (.d (cmpI .neq ((T.x1.length : Int)) T.n) (fun e3 => .p (.c 13) (.lf (i64 8))) (fun e3 => .p (.c 5) (.d (cmpI .neq ((T.nx.length : Int)) T.n) (fun e4 => .p (.c 6) (.lf (i64 8))) (fun e4 => .p (.c 5) (.d (cmpI .neq ((T.ps.length : Int)) T.n) (fun e5 => .lf (i64 8)) (fun e5 => .s (T.nx.length ≤ 200) (.d (cmpI .neq (c13V T.nx T.us T.fr) 0) (fun e6 => .p (.c 7) (.lf (i64 8))) (fun e6 => .p (.c 2) (.s (okI T.kx) (.d (cmpI .neq (c14V T.kx T.px T.ux) 0) (fun e7 => .p (.c 3) (.lf (i64 8))) (fun e7 => .p (.c 2) (.s (T.no.length ≤ 200) (.d (cmpI .neq (c15V T.ps T.no T.h T.t) 0) (fun e8 => .lf (i64 8)) (fun e8 => .s (T.no.length ≤ 200) (.s (T.kx.length ≤ 200) (.d (t18R_c0 T) (fun e9 => .lf (i64 8)) (fun e9 => .p (.l [[1, 2, 3, 5]] [(32, 32), (2208, 2208)] (t18T T 0 ((chL T.no T.h).length) 0 (chL T.no T.h)) Ex.ret (t18T T o ((chL T.no T.h).length) i (chL T.no T.h))) (.s (Runs Try.prog (CallsD Try.prog) (.code (.loop (loopAt Try.prog 18 0))) (t18T T 0 ((chL T.no T.h).length) 0 (chL T.no T.h)).abs (Ex.ret) (t18T T o ((chL T.no T.h).length) i (chL T.no T.h)).abs) (.k ((t18T T 0 ((chL T.no T.h).length) 0 (chL T.no T.h) = t18T T 0 ((chL T.no T.h).length) 0 (chL T.no T.h))) rfl (.lf (i64 o))))))))))))))))))))))))))
theorem t18R_L (T : Tb) (o i : Int) : Leaves (fun l => fnX Try.prog (X9) 100000 l 18 [T.d]) (t18R_T T o i) [] [] := by refine ⟨fun _ => ?_, fun _ => ⟨fun _ => ?_, fun _ => ⟨fun _ => ?_, fun _ => ⟨fun _ => ?_, fun _ => ⟨fun _ => ?_, fun _ => ⟨fun _ => ?_, fun _ => ⟨fun _ => ?_, fun _ => ⟨fun _ => ?_, fun _ => ⟨fun _ => ?_, fun _ => ⟨fun _ => ?_, fun _ => ?_⟩⟩⟩⟩⟩⟩⟩⟩⟩⟩ <;> (show _ = _; kernel_rfl)
theorem t18R_calls (T : Tb) (o i : Int) (res : D) (h0 : At (fun r => res = r) (t18R_T T o i) [true] True) (h1 : At (fun r => res = r) (t18R_T T o i) [false, true] True) (h2 : At (fun r => res = r) (t18R_T T o i) [false, false, true] True) (h3 : At (fun r => res = r) (t18R_T T o i) [false, false, false, true] True) (h4 : At (fun r => res = r) (t18R_T T o i) [false, false, false, false, true] True) (h5 : At (fun r => res = r) (t18R_T T o i) [false, false, false, false, false, true] True) (h6 : At (fun r => res = r) (t18R_T T o i) [false, false, false, false, false, false, true] True) (h7 : At (fun r => res = r) (t18R_T T o i) [false, false, false, false, false, false, false, true] True) (h8 : At (fun r => res = r) (t18R_T T o i) [false, false, false, false, false, false, false, false, true] True) (h9 : At (fun r => res = r) (t18R_T T o i) [false, false, false, false, false, false, false, false, false, true] True) (h10 : At (fun r => res = r) (t18R_T T o i) [false, false, false, false, false, false, false, false, false, false] True) : CallsD Try.prog 18 [T.d] res := tree_calls (hX9) (t18R_L T o i) ⟨fun e0 => h0 e0, fun e0 => ⟨fun e1 => h1 e0 e1, fun e1 => ⟨fun e2 => h2 e0 e1 e2, fun e2 => ⟨fun e3 => h3 e0 e1 e2 e3, fun e3 => ⟨fun e4 => h4 e0 e1 e2 e3 e4, fun e4 => ⟨fun e5 => h5 e0 e1 e2 e3 e4 e5, fun e5 => ⟨fun e6 => h6 e0 e1 e2 e3 e4 e5 e6, fun e6 => ⟨fun e7 => h7 e0 e1 e2 e3 e4 e5 e6 e7, fun e7 => ⟨fun e8 => h8 e0 e1 e2 e3 e4 e5 e6 e7 e8, fun e8 => ⟨fun e9 => h9 e0 e1 e2 e3 e4 e5 e6 e7 e8 e9, fun e9 => h10 e0 e1 e2 e3 e4 e5 e6 e7 e8 e9⟩⟩⟩⟩⟩⟩⟩⟩⟩⟩
noncomputable def gr16_T (T : Tb) : Tr D := .d (cmpI .gtr ((T.ks.length : Int)) 100) (fun e0 => .p (.c 12) (.lf (bo true))) (fun e0 => .p (.c 2) (.d (cmpI .gtr ((T.x1.length : Int)) 100) (fun e1 => .p (.c 8) (.lf (bo true))) (fun e1 => .p (.c 2) (.d (cmpI .gtr ((T.kx.length : Int)) 100) (fun e2 => .p (.c 4) (.lf (bo true))) (fun e2 => .p (.c 1) (.d (gr2 T.nx.length T.us.length) (fun e3 => .p (.c 1) (.lf (bo true))) (fun e3 => .p (.c 1) (.lf (bo (gr2 T.ps.length T.no.length))))))))))
theorem gr16_L (T : Tb) : Leaves (fun l => fnX Try.prog (X9) 100000 l 8 [T.d]) (gr16_T T) [] [] := by refine ⟨fun _ => ?_, fun _ => ⟨fun _ => ?_, fun _ => ⟨fun _ => ?_, fun _ => ⟨fun _ => ?_, fun _ => ?_⟩⟩⟩⟩ <;> (show _ = _; kernel_rfl)
theorem gr16_calls (T : Tb) (res : D) (h0 : At (fun r => res = r) (gr16_T T) [true] True) (h1 : At (fun r => res = r) (gr16_T T) [false, true] True) (h2 : At (fun r => res = r) (gr16_T T) [false, false, true] True) (h3 : At (fun r => res = r) (gr16_T T) [false, false, false, true] True) (h4 : At (fun r => res = r) (gr16_T T) [false, false, false, false] True) : CallsD Try.prog 8 [T.d] res := tree_calls (hX9) (gr16_L T) ⟨fun e0 => h0 e0, fun e0 => ⟨fun e1 => h1 e0 e1, fun e1 => ⟨fun e2 => h2 e0 e1 e2, fun e2 => ⟨fun e3 => h3 e0 e1 e2 e3, fun e3 => h4 e0 e1 e2 e3⟩⟩⟩⟩
theorem z18 (T : Tb) (i : Nat) : t18L_c3 T (i : Int) = z6 T i := by
 unfold t18L_c3 t18L_c0 t18L_c1 z6; simp only [Int.toNat_natCast, Bool.and_true, Bool.and_assoc]
theorem c18 (T : Tb) (i : Nat) : t18L_c2 T (i : Int) = !(T.us.getD i false == decide (ceN T.kx.length T.px T.ux i = 1)) := by
 have : cmpI .eql (((ceN T.kx.length T.px T.ux i : Nat) : Int)) 1 = decide (ceN T.kx.length T.px T.ux i = 1) := by
  rw [Bool.eq_iff_iff, eql_t, decide_eq_true_eq]; omega
 unfold t18L_c2; rw [this, Int.toNat_natCast]
def t18Bad (T : Tb) (l : List Int) (i : Nat) : Bool :=
 (!(T.us.getD i false == inB l i)) || ((!(T.us.getD i false == decide (ceN T.kx.length T.px T.ux i = 1))) || ((!ceS T.kx.length T.kx T.px T.ux i (T.ks.getD i 0)) || (if T.us.getD i false = true then decide (bk6 T i ≠ 0) else decide (T.ks.getD i 0 ≠ 0) || !z6 T i)))
def rcV (T : Tb) : Int :=
 if T.sz ∧ c13V T.nx T.us T.fr = 0 ∧ c14V T.kx T.px T.ux = 0 ∧ c15V T.ps T.no T.h T.t = 0 ∧ ctN T.kx.length T.ux = (chL T.no T.h).length then
  (if findI (t18Bad T (chL T.no T.h)) T.n.toNat 0 < 0 then 0 else 8) else 8
theorem c13V_len {nx : List Int} {us : List Bool} {f : Int} (h : c13V nx us f = 0) : us.length = nx.length := by
 unfold c13V at h; split at h
 next c => exact c.2.2.1
 next => cases h
theorem c15V_ch {ps nx : List Int} {h t : Int} (e : c15V ps nx h t = 0) : chB nx h = true := by
 unfold c15V at e; split at e
 next c => exact c.2.2.2.1
 next => cases e
theorem rc_ok (T : Tb) (h : okT T) : CallsD Try.prog 18 [T.d] (i64 (rcV T)) := by
 unfold rcV
 obtain ⟨hI, hK, hB, hnx, hus, hno, _⟩ := h
 have hkl := hI.1
 by_cases c : T.sz ∧ c13V T.nx T.us T.fr = 0 ∧ c14V T.kx T.px T.ux = 0 ∧ c15V T.ps T.no T.h T.t = 0 ∧ ctN T.kx.length T.ux = (chL T.no T.h).length
 ·rw [if_pos c]
  obtain ⟨⟨s1, s2, s3, s4, s5, s6⟩, a1, a2, a3, a4⟩ := c
  have hun := c13V_len a1
  have hl : (chL T.no T.h).length ≤ 200 := by
   have := okL_len (chB_okL (c15V_ch a3)); omega
  have a4' : t18F_c0 T = false := by unfold t18F_c0; rw [neq_f]; omega
  have a4'' : t18R_c0 T = false := by unfold t18R_c0; rw [neq_f]; omega
  generalize hlq : chL T.no T.h = l at *
  obtain ⟨n, hn⟩ := Int.eq_ofNat_of_zero_le (by omega : 0 ≤ T.n)
  have hnn : T.n.toNat = n := by omega
  rw [hnn]
  refine look_for (b := loopAt Try.prog 18 0) (fun i => t18T T 0 l.length (i : Int) l) n (t18Bad T l) (fun v => CallsD Try.prog 18 [T.d] (i64 (if v < 0 then 0 else 8))) ?_ ?_ ?_
  ·intro i hi hp σ e hr
   have n1 := natLt (n := T.us.length) (i := i) (by omega)
   have n2 := natLt (n := T.ks.length) (i := i) (by omega)
   have n3 := natLt (n := T.x1.length) (i := i) (by omega)
   simp only [t18Bad, Bool.or_eq_false_iff] at hp
   obtain ⟨p1, p2, p3, p4⟩ := hp
   have sc := succL (n := n) hi (by omega)
   refine t18L_step T 0 _ i l σ e ?_ ?_ ?_ ?_ ?_ ?_ ?_ ?_ ?_ ?_ ?_ ?_ ?_ <;> dsimp only [At, Tr.q, RG, t18L_T]
   ·intro _ g; rw [Int.toNat_natCast, p1] at g; cases g
   ·intro _ _ g; rw [c18, p2] at g; cases g
   ·intro _ _ _ g; rw [Int.toNat_natCast, p3] at g; cases g
   all_goals try (intro _ _ _ _ g1; rw [Int.toNat_natCast] at g1)
   all_goals try (rw [g1] at p4)
   ·intro g2; unfold t18L_c4 at g2; rw [Int.toNat_natCast, neq_t] at g2
    rw [if_pos rfl, decide_eq_false_iff_not] at p4; exact absurd g2 p4
   ·intro _ g2; rw [Int.toNat_natCast, g1] at g2; cases g2
   ·intro _ g2; rw [Int.toNat_natCast, g1] at g2; cases g2
   ·intro _ g2; rw [Int.toNat_natCast, g1] at g2; cases g2
   ·intro _ _; rw [sc]
    exact ⟨⟨n1.1, n1.2, n3.1, n3.2, n1.1, n1.2, n1.1, n1.2, rfl, hl, n1.1, n1.2, hkl, n2.1, n2.2, trivial⟩, hr⟩
   ·intro _ g2; rw [Int.toNat_natCast, neq_t] at g2
    rw [if_neg (by simp), Bool.or_eq_false_iff, decide_eq_false_iff_not] at p4; exact absurd g2 p4.1
   ·intro _ _ g2; rw [z18] at g2
    rw [if_neg (by simp), Bool.or_eq_false_iff, g2] at p4; cases p4.2
   ·intro _ _ _; rw [sc]
    exact ⟨⟨n3.1, n3.2, n2.1, n2.2, n1.1, n1.2, n1.1, n1.2, n1.1, n1.2, rfl, hl, n1.1, n1.2, hkl, n2.1, n2.2, trivial⟩, hr⟩
   ·intro g2; rw [Int.toNat_natCast, g1] at g2; cases g2
   ·intro g; rw [lss_f] at g; omega
  ·intro hr
   have c0 : ¬ cmpI .lss ((n : Nat) : Int) T.n = true := by rw [lss_t]; omega
   have hL := loop_of_rounds (hr _ _ (t18L_step T 0 l.length n l (t18T T 0 l.length n l).abs (.exit 0) (fun g => absurd g c0) (fun g => absurd g c0) (fun g => absurd g c0) (fun g => absurd g c0) (fun g => absurd g c0) (fun g => absurd g c0) (fun g => absurd g c0) (fun g => absurd g c0) (fun g => absurd g c0) (fun g => absurd g c0) (fun g => absurd g c0) (fun g => absurd g c0) (fun _ => ⟨trivial, rfl, rfl⟩)))
   refine t18F_calls T n _ ?_ ?_ ?_ ?_ ?_ ?_ ?_ ?_ ?_ ?_ ?_ <;> dsimp only [At, Tr.q, t18F_T]
   ·intro g; rw [lss_t] at g; omega
   ·intro _ g; rw [gtr_t] at g; omega
   ·intro _ _ g; rw [neq_t] at g; omega
   ·intro _ _ _ g; rw [neq_t] at g; omega
   ·intro _ _ _ _ g; rw [neq_t] at g; omega
   ·intro _ _ _ _ _ g; rw [neq_t] at g; omega
   ·intro _ _ _ _ _ _ g; rw [neq_t] at g; exact absurd a1 g
   ·intro _ _ _ _ _ _ _ g; rw [neq_t] at g; exact absurd a2 g
   ·intro _ _ _ _ _ _ _ _ g; rw [neq_t] at g; exact absurd a3 g
   ·intro _ _ _ _ _ _ _ _ _ g; rw [a4'] at g; cases g
   ·intro _ _ _ _ _ _ _ _ _ _
    rw [hlq]
    exact ⟨⟨hL, hkl, hno, hno, hI, hnx, trivial⟩, rfl⟩
  ·intro j hj hp hr
   have n1 := natLt (n := T.us.length) (i := j) (by omega)
   have n2 := natLt (n := T.ks.length) (i := j) (by omega)
   have n3 := natLt (n := T.x1.length) (i := j) (by omega)
   have hu : Runs Try.prog (CallsD Try.prog) (.rounds (loopAt Try.prog 18 0)) (t18T T 0 l.length j l).abs .ret (t18T T 8 l.length j l).abs := by
    refine t18L_step T 0 _ j l _ _ ?_ ?_ ?_ ?_ ?_ ?_ ?_ ?_ ?_ ?_ ?_ ?_ ?_ <;> dsimp only [At, Tr.q, RG, t18L_T]
    ·intro _ _; exact ⟨⟨rfl, hl, n1.1, n1.2, hkl, n2.1, n2.2, trivial⟩, rfl, rfl⟩
    ·intro _ _ _; exact ⟨⟨n1.1, n1.2, rfl, hl, n1.1, n1.2, hkl, n2.1, n2.2, trivial⟩, rfl, rfl⟩
    ·intro _ _ _ _; exact ⟨⟨n1.1, n1.2, rfl, hl, n1.1, n1.2, hkl, n2.1, n2.2, trivial⟩, rfl, rfl⟩
    ·intro _ _ _ _ _ _; exact ⟨⟨n3.1, n3.2, n1.1, n1.2, n1.1, n1.2, rfl, hl, n1.1, n1.2, hkl, n2.1, n2.2, trivial⟩, rfl, rfl⟩
    ·intro _ _ _ _ g1 _ g2; rw [g1] at g2; cases g2
    ·intro _ _ _ _ g1 _ g2; rw [g1] at g2; cases g2
    ·intro _ _ _ _ g1 _ g2; rw [g1] at g2; cases g2
    ·intro _ d1 d2 d3 g1 g2 _
     rw [Int.toNat_natCast] at d1 d3 g1
     rw [c18] at d2
     unfold t18L_c4 at g2; rw [Int.toNat_natCast, neq_f] at g2
     unfold t18Bad at hp; rw [d1, d2, d3, Bool.false_or, Bool.false_or, Bool.false_or, if_pos g1, decide_eq_true_eq] at hp
     exact absurd g2 hp
    ·intro _ _ _ _ _ _ _; exact ⟨⟨n2.1, n2.2, n1.1, n1.2, n1.1, n1.2, n1.1, n1.2, rfl, hl, n1.1, n1.2, hkl, n2.1, n2.2, trivial⟩, rfl, rfl⟩
    ·intro _ _ _ _ _ _ _ _; exact ⟨⟨n3.1, n3.2, n2.1, n2.2, n1.1, n1.2, n1.1, n1.2, n1.1, n1.2, rfl, hl, n1.1, n1.2, hkl, n2.1, n2.2, trivial⟩, rfl, rfl⟩
    ·intro _ d1 d2 d3 g1 _ g2 g3
     rw [Int.toNat_natCast] at d1 d3 g1 g2
     rw [c18] at d2
     rw [neq_f] at g2; rw [z18] at g3
     have g3' : z6 T j = true := by simpa using g3
     unfold t18Bad at hp; rw [d1, d2, d3, Bool.false_or, Bool.false_or, Bool.false_or, if_neg (by rw [g1]; simp), g3', Bool.not_true, Bool.or_false, decide_eq_true_eq] at hp
     exact absurd g2 hp
    ·intro _ _ _ _ g1 g2; rw [g1] at g2; cases g2
    ·intro g; rw [lss_f] at g; omega
   refine t18R_calls T 8 j _ ?_ ?_ ?_ ?_ ?_ ?_ ?_ ?_ ?_ ?_ ?_ <;> dsimp only [At, Tr.q, t18R_T]
   ·intro g; rw [lss_t] at g; omega
   ·intro _ g; rw [gtr_t] at g; omega
   ·intro _ _ g; rw [neq_t] at g; omega
   ·intro _ _ _ g; rw [neq_t] at g; omega
   ·intro _ _ _ _ g; rw [neq_t] at g; omega
   ·intro _ _ _ _ _ g; rw [neq_t] at g; omega
   ·intro _ _ _ _ _ _ g; rw [neq_t] at g; exact absurd a1 g
   ·intro _ _ _ _ _ _ _ g; rw [neq_t] at g; exact absurd a2 g
   ·intro _ _ _ _ _ _ _ _ g; rw [neq_t] at g; exact absurd a3 g
   ·intro _ _ _ _ _ _ _ _ _ g; rw [a4''] at g; cases g
   ·intro _ _ _ _ _ _ _ _ _ _
    rw [hlq]
    exact ⟨⟨loop_of_rounds (hr _ _ hu), hkl, hno, hno, hI, hnx, trivial⟩, by rw [if_neg (by omega)]⟩
 ·rw [if_neg c]
  refine t18R_calls T 8 0 _ ?_ ?_ ?_ ?_ ?_ ?_ ?_ ?_ ?_ ?_ ?_ <;> dsimp only [At, Tr.q, t18R_T]
  ·intro _; exact ⟨trivial, rfl⟩
  ·intro _ _; exact ⟨trivial, rfl⟩
  ·intro _ _ _; exact ⟨trivial, rfl⟩
  ·intro _ _ _ _; exact ⟨trivial, rfl⟩
  ·intro _ _ _ _ _; exact ⟨trivial, rfl⟩
  ·intro _ _ _ _ _ _; exact ⟨trivial, rfl⟩
  ·intro _ _ _ _ _ _ _; exact ⟨⟨hnx, trivial⟩, rfl⟩
  ·intro _ _ _ _ _ _ _ _; exact ⟨⟨hI, hnx, trivial⟩, rfl⟩
  ·intro _ _ _ _ _ _ _ _ _; exact ⟨⟨hno, hI, hnx, trivial⟩, rfl⟩
  ·intro _ _ _ _ _ _ _ _ _ _; exact ⟨⟨hkl, hno, hno, hI, hnx, trivial⟩, rfl⟩
  ·intro g1 g2 g3 g4 g5 g6 g7 g8 g9 g10
   unfold t18R_c0 at g10
   rw [lss_f] at g1; rw [gtr_f] at g2; rw [neq_f] at g3 g4 g5 g6 g7 g8 g9 g10
   exact absurd ⟨⟨by omega, by omega, g3, g4, g5, g6⟩, g7, g8, g9, by omega⟩ c
def Tb.great (T : Tb) : Bool := decide (100 < T.ks.length) || (decide (100 < T.x1.length) || (decide (100 < T.kx.length) || (gr2 T.nx.length T.us.length || gr2 T.ps.length T.no.length)))
theorem gr16_ok (T : Tb) : CallsD Try.prog 8 [T.d] (bo T.great) := by
 unfold Tb.great
 refine gr16_calls T _ ?_ ?_ ?_ ?_ ?_ <;> dsimp only [At, Tr.q, gr16_T]
 ·intro g; rw [gtr100] at g; exact ⟨trivial, by rw [g]; rfl⟩
 ·intro g1 g; rw [gtr100] at g1 g; exact ⟨trivial, by rw [g1, g]; rfl⟩
 ·intro g1 g2 g; rw [gtr100] at g1 g2 g; exact ⟨trivial, by rw [g1, g2, g]; rfl⟩
 ·intro g1 g2 g3 g; rw [gtr100] at g1 g2 g3; exact ⟨trivial, by rw [g1, g2, g3, g]; rfl⟩
 ·intro g1 g2 g3 g; rw [gtr100] at g1 g2 g3; exact ⟨trivial, by rw [g1, g2, g3, g]; rfl⟩
def tcC : List D → Option (D × List Prop)
 | [.agg [.v (.int .i64 n), .rc [.ints .u32 ks], .rc [.ints .i64 x1, .ints .i64 x2, .ints .i64 x3, .ints .i64 x4, .ints .i64 x5, .ints .u64 x6], .rc [.ints .i64 nx], .rc [.bools us], .v (.int .i64 fr), .rc [.ints .u32 kx, .ints .i64 px, .bools ux], .rc [.ints .i64 ps], .rc [.ints .i64 no], .v (.int .i64 h), .v (.int .i64 t)]] => some (i64 (tcV ⟨n, ks, x1, x2, x3, x4, x5, x6, nx, us, fr, kx, px, ux, ps, no, h, t⟩), [okT ⟨n, ks, x1, x2, x3, x4, x5, x6, nx, us, fr, kx, px, ux, ps, no, h, t⟩])
 | _ => none
def rcC : List D → Option (D × List Prop)
 | [.agg [.v (.int .i64 n), .rc [.ints .u32 ks], .rc [.ints .i64 x1, .ints .i64 x2, .ints .i64 x3, .ints .i64 x4, .ints .i64 x5, .ints .u64 x6], .rc [.ints .i64 nx], .rc [.bools us], .v (.int .i64 fr), .rc [.ints .u32 kx, .ints .i64 px, .bools ux], .rc [.ints .i64 ps], .rc [.ints .i64 no], .v (.int .i64 h), .v (.int .i64 t)]] => some (i64 (rcV ⟨n, ks, x1, x2, x3, x4, x5, x6, nx, us, fr, kx, px, ux, ps, no, h, t⟩), [okT ⟨n, ks, x1, x2, x3, x4, x5, x6, nx, us, fr, kx, px, ux, ps, no, h, t⟩])
 | _ => none
theorem tcC_ok (args res l) (h : tcC args = some (res, l)) (hl : AllP l) : CallsD Try.prog 17 args res := by
 unfold tcC at h; split at h
 ·simp only [Option.some.injEq, Prod.mk.injEq] at h
  obtain ⟨rfl, rfl⟩ := h
  exact tc_ok _ hl.1
 ·cases h
theorem rcC_ok (args res l) (h : rcC args = some (res, l)) (hl : AllP l) : CallsD Try.prog 18 args res := by
 unfold rcC at h; split at h
 ·simp only [Option.some.injEq, Prod.mk.injEq] at h
  obtain ⟨rfl, rfl⟩ := h
  exact rc_ok _ hl.1
 ·cases h
def grC : List D → Option (D × List Prop)
 | [.agg [.v (.int .i64 n), .rc [.ints .u32 ks], .rc [.ints .i64 x1, .ints .i64 x2, .ints .i64 x3, .ints .i64 x4, .ints .i64 x5, .ints .u64 x6], .rc [.ints .i64 nx], .rc [.bools us], .v (.int .i64 fr), .rc [.ints .u32 kx, .ints .i64 px, .bools ux], .rc [.ints .i64 ps], .rc [.ints .i64 no], .v (.int .i64 h), .v (.int .i64 t)]] => some (bo (Tb.great ⟨n, ks, x1, x2, x3, x4, x5, x6, nx, us, fr, kx, px, ux, ps, no, h, t⟩), [])
 | _ => none
theorem grC_ok (args res l) (h : grC args = some (res, l)) (hl : AllP l) : CallsD Try.prog 8 args res := by
 unfold grC at h; split at h
 ·simp only [Option.some.injEq, Prod.mk.injEq] at h
  obtain ⟨rfl, rfl⟩ := h
  exact gr16_ok ⟨_, _, _, _, _, _, _, _, _, _, _, _, _, _, _, _, _, _⟩
 ·cases h
def X10 : Contracts := addCon 17 (.call tcC) (addCon 18 (.call rcC) (addCon 8 (.call grC) X9))
theorem hX10 : ConOK Try.prog X10 := addCall_ok tcC_ok (addCall_ok rcC_ok (addCall_ok grC_ok hX9))
noncomputable def kyT (T : Tb) (o : Int) (m : Nat) (g i : Int) (l : List Int) (k : Nat) (out : List Int) : Cs := ⟨TT.of [(1, D.ptr 32 0), (2, D.v (Value.slice none 0 0)), (3, i64 o), (7, D.sl 9001 0 k ⟨1, 0⟩), (21, D.sl 576 0 m ⟨1, 0⟩), (22, i64 g), (23, i64 i)], 37, [], [(32, T.b), (576, BX.row [.ints .i64 l] false), (9001, BX.row [.ints .u32 out] false)], none, 0⟩
end TableS
end

section
namespace TableS
open Go Go.Dam Go.Proofs
set_option maxRecDepth 1000000
/-! Where a key is found. -/
theorem lkW_spec (xs : List Int) (zs : List Bool) (k : Int) : ∀ (d i n : Nat), i < 16 → ∃ s, s ≤ d ∧ (lkW xs zs k d i n).1 = (i + s) % 16 ∧
  (∀ t, t < s → zs.getD ((i + t) % 16) false = true ∧ xs.getD ((i + t) % 16) 0 ≠ k) ∧ (s < d → ¬ (zs.getD ((i + s) % 16) false = true ∧ xs.getD ((i + s) % 16) 0 ≠ k))
 | 0, i, n, h => ⟨0, Nat.le_refl _, by simp only [lkW]; rw [Nat.add_zero, Nat.mod_eq_of_lt h], fun t ht => by omega, fun h => by omega⟩
 | d + 1, i, n, h => by
  simp only [lkW]
  split
  next c =>
   obtain ⟨s, h1, h2, h3, h4⟩ := lkW_spec xs zs k d ((i + 1) % 16) (n + 1) (by omega)
   refine ⟨s + 1, by omega, by rw [h2]; omega, fun t ht => ?_, fun hs => ?_⟩
   ·rcases t with _ | t
    ·rw [Nat.add_zero, Nat.mod_eq_of_lt h]; exact c
    ·have := h3 t (by omega)
     rwa [show ((i + 1) % 16 + t) % 16 = (i + (t + 1)) % 16 by omega] at this
   ·have := h4 (by omega)
    rwa [show ((i + 1) % 16 + s) % 16 = (i + (s + 1)) % 16 by omega] at this
  next c =>
   refine ⟨0, by omega, by rw [Nat.add_zero, Nat.mod_eq_of_lt h], fun t ht => by omega, fun _ => ?_⟩
   rw [Nat.add_zero, Nat.mod_eq_of_lt h]; exact c
/-- From the key's home on: used, with other keys, up to where it is found or a free one is. -/
theorem lkI_spec {xs : List Int} {zs : List Bool} {k : Int} (hk : inU k) (hf : ∃ j, j < 16 ∧ zs.getD j false = false) : ∃ s, s < 16 ∧ lkI xs zs k = ((homeN k).toNat + s) % 16 ∧
  (∀ t, t < s → zs.getD (((homeN k).toNat + t) % 16) false = true ∧ xs.getD (((homeN k).toNat + t) % 16) 0 ≠ k) ∧ ¬ (zs.getD (lkI xs zs k) false = true ∧ xs.getD (lkI xs zs k) 0 ≠ k) := by
 have hh := homeN_lt hk
 obtain ⟨s, h1, h2, h3, h4⟩ := lkW_spec xs zs k 16 (homeN k).toNat 0 (by omega)
 obtain ⟨j, hj, hz⟩ := hf
 have hs : s < 16 := by
  rcases Nat.lt_or_ge s 16 with c | c
  ·exact c
  ·have := (h3 ((j + 16 - (homeN k).toNat) % 16) (by omega)).1
   rw [show ((homeN k).toNat + (j + 16 - (homeN k).toNat) % 16) % 16 = j by omega, hz] at this; cases this
 have e : lkI xs zs k = ((homeN k).toNat + s) % 16 := h2
 refine ⟨s, hs, e, h3, ?_⟩
 rw [e]; exact h4 hs
theorem nodup_le : ∀ {L M : List Nat}, L.Nodup → (∀ x ∈ L, x ∈ M) → L.length ≤ M.length
 | [], M, _, _ => by simp
 | x :: L, M, h, hm => by
  rw [List.nodup_cons] at h
  have hx := hm x (by simp)
  have ih := nodup_le (L := L) (M := M.erase x) h.2 fun y hy => (List.mem_erase_of_ne (fun e : y = x => h.1 (by rw [← e]; exact hy))).2 (hm y (by simp [hy]))
  rw [List.length_erase_of_mem hx] at ih
  have : 0 < M.length := List.length_pos_of_mem hx
  simp only [List.length_cons]; omega
theorem ctN_filter (zs : List Bool) : ∀ n, ctN n zs = ((List.range n).filter fun i => zs.getD i false).length
 | 0 => rfl
 | n + 1 => by
  have ih := ctN_filter zs n
  simp only [ctN, cnt] at *
  rw [List.range_succ, List.filter_append, List.length_append, ← ih]
  have : (List.filter (fun i => zs.getD i false) [n]).length = bif zs.getD n false then 1 else 0 := by
   simp only [List.filter_cons]; cases zs.getD n false <;> rfl
  rw [this]
theorem tcV_is {T : Tb} (h : tcV T = 0) : T.sz ∧ akV T.nx T.us T.fr = 0 ∧ pcV T.kx T.px T.ux = 0 ∧ lcV T.ps T.no T.h T.t = 0 ∧
  (∀ i, i < T.us.length → t17Bad T (llL T.ps T.no T.h T.t) i = false) ∧ ctN T.us.length T.us = ctN T.kx.length T.ux := by
 unfold tcV at h; split at h
 next c =>
  split at h
  next d => exact ⟨c.1, c.2.1, c.2.2.1, c.2.2.2, fun i hi => (findI_lt _ 0).1 d.1 i (by omega) (by omega), d.2⟩
  next => cases h
 next => cases h
theorem map_nodup {α β : Type} {f : α → β} : ∀ {L : List α}, L.Nodup → (∀ x ∈ L, ∀ y ∈ L, f x = f y → x = y) → (L.map f).Nodup
 | [], _, _ => by simp
 | a :: L, h, hi => by
  rw [List.nodup_cons] at h
  rw [List.map_cons, List.nodup_cons]
  refine ⟨fun hm => ?_, map_nodup h.2 fun x hx y hy e => hi x (by simp [hx]) y (by simp [hy]) e⟩
  obtain ⟨y, hy, e⟩ := List.mem_map.1 hm
  have := hi y (by simp [hy]) a (by simp) e
  exact h.1 (this ▸ hy)
/-- Every used cell of a right table names a used place, with its key. -/
theorem tc_cells {T : Tb} (ho : okT T) (h : tcV T = 0) {j : Nat} (hj : j < 16) (hu : T.ux.getD j false = true) :
  ∃ i : Nat, (i : Int) < T.n ∧ T.us.getD i false = true ∧ T.px.getD j 0 = i ∧ T.kx.getD j 0 = T.ks.getD i 0 ∧ lkI T.kx T.ux (T.ks.getD i 0) = j := by
 obtain ⟨⟨s1, s2, s3, s4, s5, s6⟩, a1, a2, a3, a4, a5⟩ := tcV_is h
 obtain ⟨b1, b2, b3⟩ := pcV_is a2
 have hun := akV_len a1
 have hfree := ctN_free (ux := T.ux) (n := 16) (by omega)
 let c : Nat → Nat := fun i => lkI T.kx T.ux (T.ks.getD i 0)
 have hc : ∀ i, i < T.us.length → T.us.getD i false = true → c i < 16 ∧ T.ux.getD (c i) false = true ∧ T.px.getD (c i) 0 = i ∧ T.kx.getD (c i) 0 = T.ks.getD i 0 := fun i hi hui => by
  have hk := ho.2.1 i (by omega)
  have hb := a4 i hi
  simp only [t17Bad, Bool.or_eq_false_iff, hui, if_true, decide_eq_false_iff_not, not_or, ne_eq, Decidable.not_not] at hb
  obtain ⟨_, e1, e2, _⟩ := hb
  have hl := lkI_lt (kx := T.kx) T.ux hk
  obtain ⟨s, _, _, _, hs⟩ := lkI_spec (xs := T.kx) hk hfree
  unfold fdE at e1; rw [if_pos a2] at e1
  unfold fdI at e2; rw [if_pos a2] at e2
  by_cases d : T.ux.getD (lkI T.kx T.ux (T.ks.getD i 0)) false = true
  ·rw [if_pos d] at e2
   exact ⟨hl, d, e2, Decidable.not_not.1 fun n => hs ⟨d, n⟩⟩
  ·rw [if_neg d] at e1; cases e1
 let U := (List.range T.us.length).filter fun i => T.us.getD i false
 have hU : ∀ i, i ∈ U ↔ i < T.us.length ∧ T.us.getD i false = true := fun i => by simp [U]
 have hnd : U.Nodup := List.nodup_range.sublist List.filter_sublist
 have himg : (U.map c).Nodup := map_nodup hnd fun x hx y hy e => by
  have h1 := (hc x ((hU x).1 hx).1 ((hU x).1 hx).2).2.2.1
  have h2 := (hc y ((hU y).1 hy).1 ((hU y).1 hy).2).2.2.1
  rw [e, h2] at h1; omega
 have hlen : U.length = ctN 16 T.ux := by
  have := ctN_filter T.us T.us.length
  rw [a5, b1] at this; exact this.symm
 by_cases hm : j ∈ U.map c
 ·obtain ⟨i, hi, rfl⟩ := List.mem_map.1 hm
  obtain ⟨h1, h2⟩ := (hU i).1 hi
  have := hc i h1 h2
  exact ⟨i, by omega, h2, this.2.2.1, this.2.2.2, rfl⟩
 ·exfalso
  have hle := nodup_le (L := j :: U.map c) (M := (List.range 16).filter fun i => T.ux.getD i false) (List.nodup_cons.2 ⟨hm, himg⟩) (fun x hx => by
   rw [List.mem_filter, List.mem_range]
   rcases List.mem_cons.1 hx with rfl | hx
   ·exact ⟨hj, hu⟩
   ·obtain ⟨i, hi, rfl⟩ := List.mem_map.1 hx
    obtain ⟨h1, h2⟩ := (hU i).1 hi
    have := hc i h1 h2
    exact ⟨this.1, this.2.1⟩)
  rw [← ctN_filter, List.length_cons, List.length_map, hlen] at hle
  omega
/-- What is found in a right table. -/
theorem tc_find {T : Tb} (ho : okT T) (h : tcV T = 0) {k : Int} (hk : inU k) (he : fdE T.kx T.px T.ux k = 0) :
  ∃ i : Nat, fdI T.kx T.px T.ux k = i ∧ (i : Int) < T.n ∧ T.us.getD i false = true ∧ T.ks.getD i 0 = k := by
 obtain ⟨_, _, a2, _⟩ := tcV_is h
 obtain ⟨b1, b2, b3⟩ := pcV_is a2
 have hfree := ctN_free (ux := T.ux) (n := 16) (by omega)
 have hl := lkI_lt (kx := T.kx) T.ux hk
 obtain ⟨s, _, _, _, hs⟩ := lkI_spec (xs := T.kx) hk hfree
 unfold fdE at he; rw [if_pos a2] at he
 by_cases d : T.ux.getD (lkI T.kx T.ux k) false = true
 ·obtain ⟨i, h1, h2, h3, h4, _⟩ := tc_cells ho h hl d
  refine ⟨i, ?_, h1, h2, ?_⟩
  ·unfold fdI; rw [if_pos a2, if_pos d]; exact h3
  ·rw [← h4]; exact Decidable.not_not.1 fun n => hs ⟨d, n⟩
 ·rw [if_neg d] at he; cases he
end TableS
end

section
namespace TableS
open Go Go.Dam Go.Proofs
set_option maxRecDepth 1000000
noncomputable def pl_T (T : Tb) (k : Int) : Tr D := .s (okI T.kx ∧ inU k) (.d (cmpI .neq (fdE T.kx T.px T.ux k) 0) (fun e0 => .lf (i64 (-1))) (fun e0 => .lf (i64 (fdI T.kx T.px T.ux k))))
theorem pl_L (T : Tb) (k : Int) : Leaves (fun l => fnX Try.prog (X10) 100000 l 45 [T.d, u32 k]) (pl_T T k) [] [] := by refine ⟨fun _ => ?_, fun _ => ?_⟩ <;> (show _ = _; kernel_rfl)
theorem pl_calls (T : Tb) (k : Int) (res : D) (h0 : At (fun r => res = r) (pl_T T k) [true] True) (h1 : At (fun r => res = r) (pl_T T k) [false] True) : CallsD Try.prog 45 [T.d, u32 k] res := tree_calls (hX10) (pl_L T k) ⟨fun e0 => h0 e0, fun e0 => h1 e0⟩
noncomputable def gt_T (T : Tb) (k : Int) : Tr D := .s (okT T) (.d (cmpI .neq (tcV T) 0) (fun e0 => .lf (D.tup [D.agg [i64 0, i64 0, i64 0, i64 0, i64 0, u64 0], i64 (tcV T)])) (fun e0 => .s (okI T.kx ∧ inU k) (.d (cmpI .neq (fdE T.kx T.px T.ux k) 0) (fun e1 => .p (.c 0) (.lf (D.tup [D.agg [i64 0, i64 0, i64 0, i64 0, i64 0, u64 0], i64 6]))) (fun e1 => .d (cmpI .lss (fdI T.kx T.px T.ux k) 0) (fun e2 => .lf (D.tup [D.agg [i64 0, i64 0, i64 0, i64 0, i64 0, u64 0], i64 6])) (fun e2 => .s (decide (fdI T.kx T.px T.ux k < (T.x1.length : Int)) = true) (.s (decide (0 ≤ fdI T.kx T.px T.ux k) = true) (.lf (D.tup [D.agg [i64 (T.x1.getD (fdI T.kx T.px T.ux k).toNat 0), i64 (T.x2.getD (fdI T.kx T.px T.ux k).toNat 0), i64 (T.x3.getD (fdI T.kx T.px T.ux k).toNat 0), i64 (T.x4.getD (fdI T.kx T.px T.ux k).toNat 0), i64 (T.x5.getD (fdI T.kx T.px T.ux k).toNat 0), u64 (T.x6.getD (fdI T.kx T.px T.ux k).toNat 0)], i64 0]))))))))
theorem gt_L (T : Tb) (k : Int) : Leaves (fun l => fnX Try.prog (X10) 100000 l 20 [T.d, u32 k]) (gt_T T k) [] [] := by refine ⟨fun _ => ?_, fun _ => ⟨fun _ => ?_, fun _ => ⟨fun _ => ?_, fun _ => ?_⟩⟩⟩ <;> (show _ = _; kernel_rfl)
theorem gt_calls (T : Tb) (k : Int) (res : D) (h0 : At (fun r => res = r) (gt_T T k) [true] True) (h1 : At (fun r => res = r) (gt_T T k) [false, true] True) (h2 : At (fun r => res = r) (gt_T T k) [false, false, true] True) (h3 : At (fun r => res = r) (gt_T T k) [false, false, false] True) : CallsD Try.prog 20 [T.d, u32 k] res := tree_calls (hX10) (gt_L T k) ⟨fun e0 => h0 e0, fun e0 => ⟨fun e1 => h1 e0 e1, fun e1 => ⟨fun e2 => h2 e0 e1 e2, fun e2 => h3 e0 e1 e2⟩⟩⟩
noncomputable def se_T (T : Tb) (k : Int) (b : Int) (r : Int) (p : Int) (v : Int) (q : Int) (a : Int) : Tr D := .s (okT T) (.d (cmpI .neq (tcV T) 0) (fun e0 => .lf (D.tup [D.agg [i64 0, D.v (Value.slice none 0 0), D.v (Value.slice none 0 0), D.v (Value.slice none 0 0), D.v (Value.slice none 0 0), i64 0, D.v (Value.slice none 0 0), D.v (Value.slice none 0 0), D.v (Value.slice none 0 0), i64 0, i64 0], i64 (tcV T)])) (fun e0 => .s (in64 v) (.d (cmpI .neq (bkV b r p v q) 0) (fun e1 => .lf (D.tup [D.agg [i64 0, D.v (Value.slice none 0 0), D.v (Value.slice none 0 0), D.v (Value.slice none 0 0), D.v (Value.slice none 0 0), i64 0, D.v (Value.slice none 0 0), D.v (Value.slice none 0 0), D.v (Value.slice none 0 0), i64 0, i64 0], i64 (bkV b r p v q)])) (fun e1 => .s (okI T.kx ∧ inU k) (.d (cmpI .neq (fdE T.kx T.px T.ux k) 0) (fun e2 => .p (.c 0) (.lf (D.tup [D.agg [i64 0, D.v (Value.slice none 0 0), D.v (Value.slice none 0 0), D.v (Value.slice none 0 0), D.v (Value.slice none 0 0), i64 0, D.v (Value.slice none 0 0), D.v (Value.slice none 0 0), D.v (Value.slice none 0 0), i64 0, i64 0], i64 6]))) (fun e2 => .d (cmpI .lss (fdI T.kx T.px T.ux k) 0) (fun e3 => .lf (D.tup [D.agg [i64 0, D.v (Value.slice none 0 0), D.v (Value.slice none 0 0), D.v (Value.slice none 0 0), D.v (Value.slice none 0 0), i64 0, D.v (Value.slice none 0 0), D.v (Value.slice none 0 0), D.v (Value.slice none 0 0), i64 0, i64 0], i64 6])) (fun e3 => .s (T.ks.length ≤ 200) (.s (kcS T.x1 T.x2 T.x3 T.x4 T.x5 T.x6) (.s (T.nx.length ≤ 200) (.s (T.us.length ≤ 200) (.s (ccS T.kx T.px T.ux) (.s (T.ps.length ≤ 200) (.s (T.no.length ≤ 200) (.s (decide (fdI T.kx T.px T.ux k < (T.x1.length : Int)) = true) (.s (decide (0 ≤ fdI T.kx T.px T.ux k) = true) (.s ((Col0.ints .u64 T.x6).len = T.x1.length) (.s ((Col0.ints .i64 T.x5).len = T.x1.length) (.s ((Col0.ints .i64 T.x4).len = T.x1.length) (.s ((Col0.ints .i64 T.x3).len = T.x1.length) (.s ((Col0.ints .i64 T.x2).len = T.x1.length) (.s ((Col0.ints .i64 T.x1).len = T.x1.length) (.s ((fdI T.kx T.px T.ux k).toNat < T.x1.length) (.q (rowLen0 [.ints .i64 T.no]) (.q (rowLen0 [.ints .i64 T.ps]) (.q (rowLen0 [.ints .u32 T.kx, .ints .i64 T.px, .bools T.ux]) (.q (rowLen0 [.bools T.us]) (.q (rowLen0 [.ints .i64 T.nx]) (.s (T.x1.length = (T.x1.set (fdI T.kx T.px T.ux k).toNat b).length) (.q (rowLen0 [.ints .u32 T.ks]) (.lf (D.tup [D.agg [i64 T.n, D.oc [.ints .u32 T.ks], D.oc [.ints .i64 (T.x1.set (fdI T.kx T.px T.ux k).toNat b), .ints .i64 (T.x2.set (fdI T.kx T.px T.ux k).toNat r), .ints .i64 (T.x3.set (fdI T.kx T.px T.ux k).toNat p), .ints .i64 (T.x4.set (fdI T.kx T.px T.ux k).toNat v), .ints .i64 (T.x5.set (fdI T.kx T.px T.ux k).toNat q), .ints .u64 (T.x6.set (fdI T.kx T.px T.ux k).toNat a)], D.oc [.ints .i64 T.nx], D.oc [.bools T.us], i64 T.fr, D.oc [.ints .u32 T.kx, .ints .i64 T.px, .bools T.ux], D.oc [.ints .i64 T.ps], D.oc [.ints .i64 T.no], i64 T.h, i64 T.t], i64 0])))))))))))))))))))))))))))))))
theorem se_L (T : Tb) (k b r p v q a : Int) : Leaves (fun l => fnX Try.prog (X10) 100000 l 22 [T.d, u32 k, D.agg [i64 b, i64 r, i64 p, i64 v, i64 q, u64 a]]) (se_T T k b r p v q a) [] [] := by refine ⟨fun _ => ?_, fun _ => ⟨fun _ => ?_, fun _ => ⟨fun _ => ?_, fun _ => ⟨fun _ => ?_, fun _ => ?_⟩⟩⟩⟩ <;> (show _ = _; kernel_rfl)
theorem se_calls (T : Tb) (k b r p v q a : Int) (res : D) (h0 : At (fun r => res = r) (se_T T k b r p v q a) [true] True) (h1 : At (fun r => res = r) (se_T T k b r p v q a) [false, true] True) (h2 : At (fun r => res = r) (se_T T k b r p v q a) [false, false, true] True) (h3 : At (fun r => res = r) (se_T T k b r p v q a) [false, false, false, true] True) (h4 : At (fun r => res = r) (se_T T k b r p v q a) [false, false, false, false] True) : CallsD Try.prog 22 [T.d, u32 k, D.agg [i64 b, i64 r, i64 p, i64 v, i64 q, u64 a]] res := tree_calls (hX10) (se_L T k b r p v q a) ⟨fun e0 => h0 e0, fun e0 => ⟨fun e1 => h1 e0 e1, fun e1 => ⟨fun e2 => h2 e0 e1 e2, fun e2 => ⟨fun e3 => h3 e0 e1 e2 e3, fun e3 => h4 e0 e1 e2 e3⟩⟩⟩⟩
noncomputable def kyL_T (T : Tb) (o : Int) (m : Nat) (g : Int) (i : Int) (l : List Int) (k : Nat) (out : List Int) : Tr (Ex × Cs) := .d (cmpI .lss i g) (fun e0 => .s (decide (i < ↑m) = true) (.s (decide (0 ≤ i) = true) (.s (i.toNat < l.length) (.s (decide (l.getD i.toNat 0 < (T.ks.length : Int)) = true) (.s (decide (0 ≤ l.getD i.toNat 0) = true) (.s ((Col0.ints .u32 out).len = out.length) (.s (k = out.length) (.s ((k + 1) * 4 ≤ 17592186044416) (.lf (Ex.normal, (kyT T (o) (m) (g) (opI .add .i64 i 1) (l) (k + 1) (out ++ [T.ks.getD (l.getD i.toNat 0).toNat 0])))))))))))) (fun e0 => .lf (Ex.exit 0, (kyT T (o) (m) (g) (i) (l) (k) (out))))
theorem kyL_L (T : Tb) (o : Int) (m : Nat) (g i : Int) (l : List Int) (k : Nat) (out : List Int) : Leaves (roundT Try.prog (X10) 100000 (loopAt Try.prog 12 0) [[1, 2, 3, 7, 21, 22, 23]] [(32, 32), (576, 576), (9001, 9001)] (kyT T o m g i l k out)) (kyL_T T o m g i l k out) [] [] := by refine ⟨fun _ => ?_, fun _ => ?_⟩ <;> (show _ = _; kernel_rfl)
theorem kyL_step (T : Tb) (o : Int) (m : Nat) (g : Int) (i : Int) (l : List Int) (k : Nat) (out : List Int) (σ : St) (e : Ex) (h0 : At (RG Try.prog (loopAt Try.prog 12 0) e σ) (kyL_T T o m g i l k out) [true] True) (h1 : At (RG Try.prog (loopAt Try.prog 12 0) e σ) (kyL_T T o m g i l k out) [false] True) : Runs Try.prog (CallsD Try.prog) (.rounds (loopAt Try.prog 12 0)) (kyT T o m g i l k out).abs e σ := tree_rounds (hX10) (kyL_L T o m g i l k out) ⟨fun e0 => h0 e0, fun e0 => h1 e0⟩
noncomputable def kyF_c0 (T : Tb) := kyT T 0 ((llL T.ps T.no T.h T.t).length) (↑((llL T.ps T.no T.h T.t).length)) 0 (llL T.ps T.no T.h T.t) 0 []
noncomputable def kyF_c1 (T : Tb) (k : Nat) (i : Int) (out : List Int) := kyT T 0 ((llL T.ps T.no T.h T.t).length) (↑((llL T.ps T.no T.h T.t).length)) i (llL T.ps T.no T.h T.t) k out
noncomputable def kyF_T (T : Tb) (k : Nat) (i : Int) (out : List Int) : Tr D := .s (okT T) (.d (cmpI .neq (tcV T) 0) (fun e0 => .lf (D.tup [D.v (Value.slice none 0 0), i64 (tcV T)])) (fun e0 => .p (.k [Cast.nil 7 9001 1 [.ints .u32 []]]) (.p (.l [[1, 2, 3, 7, 21, 22, 23]] [(32, 32), (576, 576), (9001, 9001)] (kyF_c0 T) (Ex.exit 0) (kyF_c1 T k i out)) (.s (Runs Try.prog (CallsD Try.prog) (.code (.loop (loopAt Try.prog 12 0))) (kyF_c0 T).abs (Ex.exit 0) (kyF_c1 T k i out).abs) (.k ((kyT T 0 ((llL T.ps T.no T.h T.t).length) (↑((llL T.ps T.no T.h T.t).length)) 0 (llL T.ps T.no T.h T.t) 0 [] = kyT T 0 ((llL T.ps T.no T.h T.t).length) (↑((llL T.ps T.no T.h T.t).length)) 0 (llL T.ps T.no T.h T.t) 0 [])) rfl (.s (k = out.length) (.lf (D.tup [D.oc [.ints .u32 out], i64 0]))))))))
theorem kyF_L (T : Tb) (k : Nat) (i : Int) (out : List Int) : Leaves (fun l => fnX Try.prog (X10) 100000 l 12 [T.d]) (kyF_T T k i out) [] [] := by refine ⟨fun _ => ?_, fun _ => ?_⟩ <;> (show _ = _; kernel_rfl)
theorem kyF_calls (T : Tb) (k : Nat) (i : Int) (out : List Int) (res : D) (h0 : At (fun r => res = r) (kyF_T T k i out) [true] True) (h1 : At (fun r => res = r) (kyF_T T k i out) [false] True) : CallsD Try.prog 12 [T.d] res := tree_calls (hX10) (kyF_L T k i out) ⟨fun e0 => h0 e0, fun e0 => h1 e0⟩
/-! place, Get, Set, Keys. -/
def plV (T : Tb) (k : Int) : Int := if fdE T.kx T.px T.ux k = 0 then fdI T.kx T.px T.ux k else -1
theorem pl_ok (T : Tb) (k : Int) (h : okT T ∧ inU k) : CallsD Try.prog 45 [T.d, u32 k] (i64 (plV T k)) := by
 unfold plV
 refine pl_calls T k _ ?_ ?_ <;> dsimp only [At, Tr.q, pl_T]
 ·intro g; rw [neq_t] at g; exact ⟨⟨⟨h.1.1, h.2⟩, trivial⟩, by rw [if_neg g]⟩
 ·intro g; rw [neq_f] at g; exact ⟨⟨⟨h.1.1, h.2⟩, trivial⟩, by rw [if_pos g]⟩
def gtN (T : Tb) (k : Int) (xs : List Int) : Int := if tcV T = 0 ∧ fdE T.kx T.px T.ux k = 0 then xs.getD (fdI T.kx T.px T.ux k).toNat 0 else 0
def gtE (T : Tb) (k : Int) : Int := if tcV T = 0 then (if fdE T.kx T.px T.ux k = 0 then 0 else 6) else tcV T
theorem gt_ok (T : Tb) (k : Int) (h : okT T ∧ inU k) : CallsD Try.prog 20 [T.d, u32 k] (.tup [.agg [i64 (gtN T k T.x1), i64 (gtN T k T.x2), i64 (gtN T k T.x3), i64 (gtN T k T.x4), i64 (gtN T k T.x5), u64 (gtN T k T.x6)], i64 (gtE T k)]) := by
 obtain ⟨h, hk⟩ := h
 unfold gtN gtE
 refine gt_calls T k _ ?_ ?_ ?_ ?_ <;> dsimp only [At, Tr.q, gt_T]
 ·intro g; rw [neq_t] at g
  refine ⟨⟨h, trivial⟩, ?_⟩
  simp only [if_neg (show ¬ (tcV T = 0 ∧ fdE T.kx T.px T.ux k = 0) from fun c => g c.1), if_neg g]
 ·intro g g2; rw [neq_f] at g; rw [neq_t] at g2
  refine ⟨⟨⟨h.1, hk⟩, h, trivial⟩, ?_⟩
  simp only [if_neg (show ¬ (tcV T = 0 ∧ fdE T.kx T.px T.ux k = 0) from fun c => g2 c.2), if_pos g, if_neg g2]
 ·intro g g2 g3; rw [neq_f] at g g2; rw [lss_t] at g3
  obtain ⟨i, e, _⟩ := tc_find h g hk g2
  omega
 ·intro g g2 g3; rw [neq_f] at g g2; rw [lss_f] at g3
  obtain ⟨i, e, e2, _⟩ := tc_find h g hk g2
  obtain ⟨⟨_, _, _, s4, _⟩, _⟩ := tcV_is g
  refine ⟨⟨decide_eq_true (by omega), decide_eq_true (by omega), ⟨h.1, hk⟩, h, trivial⟩, ?_⟩
  simp only [if_pos (show tcV T = 0 ∧ fdE T.kx T.px T.ux k = 0 from ⟨g, g2⟩), if_pos g, if_pos g2]
/-- A table of one's own. -/
abbrev Tb.o (T : Tb) : D := .agg [i64 T.n, ou T.ks, kco T.x1 T.x2 T.x3 T.x4 T.x5 T.x6, oi T.nx, ob T.us, i64 T.fr, cco T.kx T.px T.ux, oi T.ps, oi T.no, i64 T.h, i64 T.t]
def t0 : Tb := ⟨0, [], [], [], [], [], [], [], [], [], 0, [], [], [], [], [], 0, 0⟩
/-- The table with another bucket at a place. -/
def Tb.put (T : Tb) (i : Nat) (b r p v q a : Int) : Tb := { T with x1 := T.x1.set i b, x2 := T.x2.set i r, x3 := T.x3.set i p, x4 := T.x4.set i v, x5 := T.x5.set i q, x6 := T.x6.set i a }
def seT (T : Tb) (k b r p v q a : Int) : Tb := if tcV T = 0 ∧ bkV b r p v q = 0 ∧ fdE T.kx T.px T.ux k = 0 then T.put (fdI T.kx T.px T.ux k).toNat b r p v q a else t0
def seE (T : Tb) (k b r p v q : Int) : Int := if tcV T = 0 then (if bkV b r p v q = 0 then (if fdE T.kx T.px T.ux k = 0 then 0 else 6) else bkV b r p v q) else tcV T
theorem nilT : ReadsN (D.agg [i64 0, D.v (Value.slice none 0 0), D.v (Value.slice none 0 0), D.v (Value.slice none 0 0), D.v (Value.slice none 0 0), i64 0, D.v (Value.slice none 0 0), D.v (Value.slice none 0 0), D.v (Value.slice none 0 0), i64 0, i64 0]) t0.o :=
 ReadsNs.agg (.cons (.refl _) (.cons (.nil rfl) (.cons (.nil rfl) (.cons (.nil rfl) (.cons (.nil rfl) (.cons (.refl _) (.cons (.nil rfl) (.cons (.nil rfl) (.cons (.nil rfl) (.refl _))))))))))
theorem se_ok (T : Tb) (k b r p v q a : Int) (h : okT T ∧ inU k ∧ in64 v) : CallsD Try.prog 22 [T.d, u32 k, .agg [i64 b, i64 r, i64 p, i64 v, i64 q, u64 a]] (.tup [(seT T k b r p v q a).o, i64 (seE T k b r p v q)]) := by
 obtain ⟨h, hk, hv⟩ := h
 unfold seT seE
 by_cases c : tcV T = 0 ∧ bkV b r p v q = 0 ∧ fdE T.kx T.px T.ux k = 0
 ·rw [if_pos c]
  obtain ⟨c1, c2, c3⟩ := c
  obtain ⟨i, e, e2, _⟩ := tc_find h c1 hk c3
  obtain ⟨⟨_, _, _, s4, _⟩, _⟩ := tcV_is c1
  rw [if_pos c1, if_pos c2, if_pos c3]
  obtain ⟨_, _, _, d1, d2, d3, d4, d5, d6, d7⟩ := h
  have h' : okT T := ⟨‹_›, ‹_›, ‹_›, d1, d2, d3, d4, d5, d6, d7⟩
  have d4' := d4
  obtain ⟨f0, f1, f2, f3, f4, f5⟩ := d4'
  refine se_calls T k b r p v q a _ ?_ ?_ ?_ ?_ ?_ <;> dsimp only [At, Tr.q, se_T]
  ·intro g; rw [neq_t] at g; exact absurd c1 g
  ·intro _ g; rw [neq_t] at g; exact absurd c2 g
  ·intro _ _ g; rw [neq_t] at g; exact absurd c3 g
  ·intro _ _ _ g; rw [lss_t] at g; omega
  ·intro _ _ _ _
   refine ⟨⟨?_, ?_, rfl, f1, f2, f3, f4, f5, decide_eq_true (by omega), decide_eq_true (by omega), d3, d7, d5, d2, d1, d4, d6, ⟨h'.1, hk⟩, hv, h', trivial⟩, rfl⟩
   ·rw [List.length_set]
   ·omega
 ·rw [if_neg c]
  have st : ∀ e : Int, CallsD Try.prog 22 [T.d, u32 k, .agg [i64 b, i64 r, i64 p, i64 v, i64 q, u64 a]] (.tup [D.agg [i64 0, D.v (Value.slice none 0 0), D.v (Value.slice none 0 0), D.v (Value.slice none 0 0), D.v (Value.slice none 0 0), i64 0, D.v (Value.slice none 0 0), D.v (Value.slice none 0 0), D.v (Value.slice none 0 0), i64 0, i64 0], i64 e]) →
    CallsD Try.prog 22 [T.d, u32 k, .agg [i64 b, i64 r, i64 p, i64 v, i64 q, u64 a]] (.tup [t0.o, i64 e]) := fun e => calls_reads (ReadsNs.tup (.cons nilT (.refl _)))
  refine st _ ?_
  refine se_calls T k b r p v q a _ ?_ ?_ ?_ ?_ ?_ <;> dsimp only [At, Tr.q, se_T]
  ·intro g; rw [neq_t] at g; exact ⟨⟨h, trivial⟩, by rw [if_neg g]⟩
  ·intro g g2; rw [neq_f] at g; rw [neq_t] at g2; exact ⟨⟨hv, h, trivial⟩, by rw [if_pos g, if_neg g2]⟩
  ·intro g g2 g3; rw [neq_f] at g g2; rw [neq_t] at g3; exact ⟨⟨⟨h.1, hk⟩, hv, h, trivial⟩, by rw [if_pos g, if_pos g2, if_neg g3]⟩
  ·intro g g2 g3; rw [neq_f] at g g2 g3; exact absurd ⟨g, g2, g3⟩ c
  ·intro g g2 g3; rw [neq_f] at g g2 g3; exact absurd ⟨g, g2, g3⟩ c
def kyV (T : Tb) : List Int := if tcV T = 0 then (llL T.ps T.no T.h T.t).map fun i => T.ks.getD i.toNat 0 else []
theorem tc_list {T : Tb} (h : tcV T = 0) : llL T.ps T.no T.h T.t = chL T.no T.h ∧ okL T.n.toNat (chL T.no T.h) := by
 obtain ⟨⟨s1, s2, s3, s4, s5, s6⟩, a1, a2, a3, _⟩ := tcV_is h
 have ho := chain_ok (okL_nil _) (lcV_chain a3)
 obtain ⟨_, _, c3, _⟩ := lcV_is a3
 refine ⟨by unfold llL; rw [if_pos a3], ?_⟩
 rw [show T.n.toNat = T.no.length by omega]; exact ho
theorem map_snoc (f : Int → Int) (l : List Int) (i : Nat) (h : i < l.length) : (l.take (i + 1)).map f = (l.take i).map f ++ [f (l.getD i 0)] := by
 rw [List.take_add_one, List.getElem?_eq_getElem h, List.map_append, List.getD_eq_getElem?_getD, List.getElem?_eq_getElem h]; rfl
theorem ky_ok (T : Tb) (h : okT T) : CallsD Try.prog 12 [T.d] (.tup [ou (kyV T), i64 (tcV T)]) := by
 unfold kyV
 by_cases c : tcV T = 0
 ·rw [if_pos c, c]
  obtain ⟨e1, hl⟩ := tc_list c
  obtain ⟨⟨s1, s2, s3, s4, s5, s6⟩, _⟩ := tcV_is c
  have hll := okL_len hl
  rw [← e1] at hl hll
  refine kyF_calls T (((llL T.ps T.no T.h T.t).map fun i => T.ks.getD i.toNat 0)).length (llL T.ps T.no T.h T.t).length ((llL T.ps T.no T.h T.t).map fun i => T.ks.getD i.toNat 0) _ (fun g => by rw [neq_t] at g; exact absurd c g) fun _ => ?_ <;> dsimp only [At, Tr.q, kyF_T]
  refine ⟨⟨rfl, loop_of_rounds ?_, h, trivial⟩, rfl⟩
  unfold kyF_c0 kyF_c1
  generalize llL T.ps T.no T.h T.t = l at *
  have z := scan_all (P := Try.prog) (F := CallsD Try.prog) (b := loopAt Try.prog 12 0) (fun i => kyT T 0 l.length l.length (i : Int) l ((l.take i).map fun i => T.ks.getD i.toNat 0).length ((l.take i).map fun i => T.ks.getD i.toNat 0)) l.length (fun _ => True) (fun i hi _ σ e hr => ?_)
   (σ := (kyT T 0 l.length l.length l.length l (l.map fun i => T.ks.getD i.toNat 0).length (l.map fun i => T.ks.getD i.toNat 0)).abs) (e := .exit 0) ?_ l.length 0 (by omega) (fun _ _ _ => trivial)
  ·exact z
  ·have hx : l.getD i 0 ∈ l := by rw [List.getD_eq_getElem?_getD, List.getElem?_eq_getElem hi]; exact List.getElem_mem hi
   have hb := hl.2 _ hx
   refine kyL_step T 0 _ _ i l _ _ σ e ?_ ?_ <;> dsimp only [At, Tr.q, RG, kyL_T]
   ·intro _
    rw [Int.toNat_natCast, succL hi (by omega)]
    refine ⟨⟨?_, rfl, rfl, decide_eq_true hb.1, decide_eq_true (by omega), by omega, (natLt hi).1, (natLt hi).2, trivial⟩, ?_⟩
    ·rw [List.length_map, List.length_take]; omega
    ·rw [map_snoc _ l i hi] at hr
     rw [List.length_append] at hr
     exact hr
   ·intro g; rw [lss_f] at g; omega
  ·rw [List.take_length]
   refine kyL_step T 0 _ _ l.length l _ _ _ _ ?_ ?_ <;> dsimp only [At, Tr.q, RG, kyL_T]
   ·intro g; rw [lss_t] at g; omega
   ·intro _; exact ⟨trivial, rfl, rfl⟩
 ·rw [if_neg c]
  refine calls_reads (e := .tup [.v (.slice none 0 0), i64 (tcV T)]) (ReadsNs.tup (.cons (.nil rfl) (.refl _))) ?_
  exact kyF_calls T 0 0 [] _ (fun _ => ⟨⟨h, trivial⟩, rfl⟩) fun g => by rw [neq_f] at g; exact absurd g c
def plC : List D → Option (D × List Prop)
 | [.agg [.v (.int .i64 n), .rc [.ints .u32 ks], .rc [.ints .i64 x1, .ints .i64 x2, .ints .i64 x3, .ints .i64 x4, .ints .i64 x5, .ints .u64 x6], .rc [.ints .i64 nx], .rc [.bools us], .v (.int .i64 fr), .rc [.ints .u32 kx, .ints .i64 px, .bools ux], .rc [.ints .i64 ps], .rc [.ints .i64 no], .v (.int .i64 h), .v (.int .i64 t)], .v (.int .u32 k)] => some (i64 (plV ⟨n, ks, x1, x2, x3, x4, x5, x6, nx, us, fr, kx, px, ux, ps, no, h, t⟩ k), [okT ⟨n, ks, x1, x2, x3, x4, x5, x6, nx, us, fr, kx, px, ux, ps, no, h, t⟩ ∧ inU k])
 | _ => none
theorem plC_ok (args res l) (h : plC args = some (res, l)) (hl : AllP l) : CallsD Try.prog 45 args res := by
 unfold plC at h; split at h
 ·simp only [Option.some.injEq, Prod.mk.injEq] at h
  obtain ⟨rfl, rfl⟩ := h
  exact pl_ok _ _ hl.1
 ·cases h
def kyC : List D → Option (D × List Prop)
 | [.agg [.v (.int .i64 n), .rc [.ints .u32 ks], .rc [.ints .i64 x1, .ints .i64 x2, .ints .i64 x3, .ints .i64 x4, .ints .i64 x5, .ints .u64 x6], .rc [.ints .i64 nx], .rc [.bools us], .v (.int .i64 fr), .rc [.ints .u32 kx, .ints .i64 px, .bools ux], .rc [.ints .i64 ps], .rc [.ints .i64 no], .v (.int .i64 h), .v (.int .i64 t)]] => some ((.tup [ou (kyV ⟨n, ks, x1, x2, x3, x4, x5, x6, nx, us, fr, kx, px, ux, ps, no, h, t⟩), i64 (tcV ⟨n, ks, x1, x2, x3, x4, x5, x6, nx, us, fr, kx, px, ux, ps, no, h, t⟩)]), [okT ⟨n, ks, x1, x2, x3, x4, x5, x6, nx, us, fr, kx, px, ux, ps, no, h, t⟩])
 | _ => none
theorem kyC_ok (args res l) (h : kyC args = some (res, l)) (hl : AllP l) : CallsD Try.prog 12 args res := by
 unfold kyC at h; split at h
 ·simp only [Option.some.injEq, Prod.mk.injEq] at h
  obtain ⟨rfl, rfl⟩ := h
  exact ky_ok _ hl.1
 ·cases h
def X11 : Contracts := addCon 45 (.call plC) (addCon 12 (.call kyC) X10)
theorem hX11 : ConOK Try.prog X11 := addCall_ok plC_ok (addCall_ok kyC_ok hX10)
end TableS
end
