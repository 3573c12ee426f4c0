/- The functions of the folder evict: what they compute. No condition. -/
import Derived.Test.YtnmgcibopkdijaaEvEO
import Derived.Test.YtnmgcibopkdijaaDamEB
import Derived.Test.YtnmgcibopkdijaaRows
set_option linter.unusedSectionVars false
set_option linter.unusedVariables false
set_option linter.unusedSimpArgs false
section
namespace EvS
open Go Go.Dam Go.Proofs
set_option maxRecDepth 1000000
set_option linter.unusedVariables false
set_option linter.unusedSectionVars false
set_option linter.unusedSimpArgs false
noncomputable def l4L_c0 (c : Int) (us : List Int) (h nd hit most dif k : Int) (n1 n2 n3 : Nat) (rs es ks os : List Int) := l4T (c) (us) (h) (nd) (hit) (most) (dif) (k) (n1) (n2) (n3) (rs) (es) (ks) (os)
noncomputable def l4L_c1 (c : Int) (us : List Int) (h nd hit most dif k : Int) (n1 n2 n3 : Nat) (rs es ks os : List Int) := l4T (c) (us) (h) (nd) (hit) (mostI BinOp.gtr most (rs.getD k.toNat 0)) (dif) (opI BinOp.add IntKind.i64 k 1) (n1) (n2) (n3) (rs) (es) (ks) (os)
noncomputable def l4L_c2 (c : Int) (us : List Int) (h nd hit most dif k : Int) (n1 n2 n3 : Nat) (rs es ks os : List Int) := l4T (c) (us) (h) (nd) (hit) (mostI BinOp.gtr most (rs.getD k.toNat 0)) (opI BinOp.add IntKind.i64 dif 1) (opI BinOp.add IntKind.i64 k 1) (n1) (n2) (n3) (rs) (es) (ks) (os)
theorem l4L_r0 (c : Int) (us : List Int) (h nd hit most dif k : Int) (n1 n2 n3 : Nat) (rs es ks os : List Int) : roundX Try.prog (X4) 100000 (loopAt Try.prog 4 0) [.d true, .d true, .c 5] [[0, 1, 4, 5, 6, 8, 10, 12, 14, 16, 17, 18, 19]] [(1024, 1024), (1568, 1568), (1760, 1760)] (l4T c us h nd hit most dif k n1 n2 n3 rs es ks os) = some (Ex.ret, (l4L_c0 c us h nd hit most dif k n1 n2 n3 rs es ks os), [cmpI BinOp.lss (rs.getD k.toNat 0) (-1) = true, k.toNat < rs.length, decide (0 ≤ k) = true, decide (k < ↑n1) = true, cmpI BinOp.lss k ↑n1 = true]) := by kernel_rfl
theorem l4L_r1 (c : Int) (us : List Int) (h nd hit most dif k : Int) (n1 n2 n3 : Nat) (rs es ks os : List Int) : roundX Try.prog (X4) 100000 (loopAt Try.prog 4 0) [.d true, .d false, .c 4, .d true] [[0, 1, 4, 5, 6, 8, 10, 12, 14, 16, 17, 18, 19]] [(1024, 1024), (1568, 1568), (1760, 1760)] (l4T c us h nd hit most dif k n1 n2 n3 rs es ks os) = some (Ex.ret, (l4L_c0 c us h nd hit most dif k n1 n2 n3 rs es ks os), [cmpI BinOp.gtr (rs.getD k.toNat 0) k = true, k.toNat < rs.length, decide (0 ≤ k) = true, decide (k < ↑n1) = true, cmpI BinOp.lss (rs.getD k.toNat 0) (-1) = false, k.toNat < rs.length, decide (0 ≤ k) = true, decide (k < ↑n1) = true, cmpI BinOp.lss k ↑n1 = true]) := by kernel_rfl
theorem l4L_r2 (c : Int) (us : List Int) (h nd hit most dif k : Int) (n1 n2 n3 : Nat) (rs es ks os : List Int) : roundX Try.prog (X4) 100000 (loopAt Try.prog 4 0) [.d true, .d false, .c 4, .d false, .d true, .c 4, .d true, .d true] [[0, 1, 4, 5, 6, 8, 10, 12, 14, 16, 17, 18, 19]] [(1024, 1024), (1568, 1568), (1760, 1760)] (l4T c us h nd hit most dif k n1 n2 n3 rs es ks os) = some (Ex.normal, (l4T (c) (us) (h) (nd) (opI BinOp.add IntKind.i64 hit 1) (mostI BinOp.gtr most (rs.getD k.toNat 0)) (opI BinOp.add IntKind.i64 dif 1) (opI BinOp.add IntKind.i64 k 1) (n1) (n2) (n3) (rs) (es) (ks) (os)), [k.toNat < rs.length, decide (0 ≤ k) = true, decide (k < ↑n1) = true, cmpI BinOp.lss (rs.getD k.toNat 0) 0 = true, k.toNat < rs.length, decide (0 ≤ k) = true, decide (k < ↑n1) = true, cmpI BinOp.lss (rs.getD k.toNat 0) c = true, k.toNat < rs.length, decide (0 ≤ k) = true, decide (k < ↑n1) = true, cmpI BinOp.geq (rs.getD k.toNat 0) 0 = true, k.toNat < rs.length, decide (0 ≤ k) = true, decide (k < ↑n1) = true, cmpI BinOp.gtr (rs.getD k.toNat 0) k = false, k.toNat < rs.length, decide (0 ≤ k) = true, decide (k < ↑n1) = true, cmpI BinOp.lss (rs.getD k.toNat 0) (-1) = false, k.toNat < rs.length, decide (0 ≤ k) = true, decide (k < ↑n1) = true, cmpI BinOp.lss k ↑n1 = true]) := by kernel_rfl
theorem l4L_r3 (c : Int) (us : List Int) (h nd hit most dif k : Int) (n1 n2 n3 : Nat) (rs es ks os : List Int) : roundX Try.prog (X4) 100000 (loopAt Try.prog 4 0) [.d true, .d false, .c 4, .d false, .d true, .c 4, .d true, .d false] [[0, 1, 4, 5, 6, 8, 10, 12, 14, 16, 17, 18, 19]] [(1024, 1024), (1568, 1568), (1760, 1760)] (l4T c us h nd hit most dif k n1 n2 n3 rs es ks os) = some (Ex.normal, (l4T (c) (us) (h) (nd) (opI BinOp.add IntKind.i64 hit 1) (mostI BinOp.gtr most (rs.getD k.toNat 0)) (dif) (opI BinOp.add IntKind.i64 k 1) (n1) (n2) (n3) (rs) (es) (ks) (os)), [k.toNat < rs.length, decide (0 ≤ k) = true, decide (k < ↑n1) = true, cmpI BinOp.lss (rs.getD k.toNat 0) 0 = false, k.toNat < rs.length, decide (0 ≤ k) = true, decide (k < ↑n1) = true, cmpI BinOp.lss (rs.getD k.toNat 0) c = true, k.toNat < rs.length, decide (0 ≤ k) = true, decide (k < ↑n1) = true, cmpI BinOp.geq (rs.getD k.toNat 0) 0 = true, k.toNat < rs.length, decide (0 ≤ k) = true, decide (k < ↑n1) = true, cmpI BinOp.gtr (rs.getD k.toNat 0) k = false, k.toNat < rs.length, decide (0 ≤ k) = true, decide (k < ↑n1) = true, cmpI BinOp.lss (rs.getD k.toNat 0) (-1) = false, k.toNat < rs.length, decide (0 ≤ k) = true, decide (k < ↑n1) = true, cmpI BinOp.lss k ↑n1 = true]) := by kernel_rfl
theorem l4L_r4 (c : Int) (us : List Int) (h nd hit most dif k : Int) (n1 n2 n3 : Nat) (rs es ks os : List Int) : roundX Try.prog (X4) 100000 (loopAt Try.prog 4 0) [.d true, .d false, .c 4, .d false, .d true, .c 4, .d false, .d true] [[0, 1, 4, 5, 6, 8, 10, 12, 14, 16, 17, 18, 19]] [(1024, 1024), (1568, 1568), (1760, 1760)] (l4T c us h nd hit most dif k n1 n2 n3 rs es ks os) = some (Ex.normal, (l4L_c2 c us h nd hit most dif k n1 n2 n3 rs es ks os), [k.toNat < rs.length, decide (0 ≤ k) = true, decide (k < ↑n1) = true, cmpI BinOp.lss (rs.getD k.toNat 0) 0 = true, k.toNat < rs.length, decide (0 ≤ k) = true, decide (k < ↑n1) = true, cmpI BinOp.lss (rs.getD k.toNat 0) c = false, k.toNat < rs.length, decide (0 ≤ k) = true, decide (k < ↑n1) = true, cmpI BinOp.geq (rs.getD k.toNat 0) 0 = true, k.toNat < rs.length, decide (0 ≤ k) = true, decide (k < ↑n1) = true, cmpI BinOp.gtr (rs.getD k.toNat 0) k = false, k.toNat < rs.length, decide (0 ≤ k) = true, decide (k < ↑n1) = true, cmpI BinOp.lss (rs.getD k.toNat 0) (-1) = false, k.toNat < rs.length, decide (0 ≤ k) = true, decide (k < ↑n1) = true, cmpI BinOp.lss k ↑n1 = true]) := by kernel_rfl
theorem l4L_r5 (c : Int) (us : List Int) (h nd hit most dif k : Int) (n1 n2 n3 : Nat) (rs es ks os : List Int) : roundX Try.prog (X4) 100000 (loopAt Try.prog 4 0) [.d true, .d false, .c 4, .d false, .d true, .c 4, .d false, .d false] [[0, 1, 4, 5, 6, 8, 10, 12, 14, 16, 17, 18, 19]] [(1024, 1024), (1568, 1568), (1760, 1760)] (l4T c us h nd hit most dif k n1 n2 n3 rs es ks os) = some (Ex.normal, (l4L_c1 c us h nd hit most dif k n1 n2 n3 rs es ks os), [k.toNat < rs.length, decide (0 ≤ k) = true, decide (k < ↑n1) = true, cmpI BinOp.lss (rs.getD k.toNat 0) 0 = false, k.toNat < rs.length, decide (0 ≤ k) = true, decide (k < ↑n1) = true, cmpI BinOp.lss (rs.getD k.toNat 0) c = false, k.toNat < rs.length, decide (0 ≤ k) = true, decide (k < ↑n1) = true, cmpI BinOp.geq (rs.getD k.toNat 0) 0 = true, k.toNat < rs.length, decide (0 ≤ k) = true, decide (k < ↑n1) = true, cmpI BinOp.gtr (rs.getD k.toNat 0) k = false, k.toNat < rs.length, decide (0 ≤ k) = true, decide (k < ↑n1) = true, cmpI BinOp.lss (rs.getD k.toNat 0) (-1) = false, k.toNat < rs.length, decide (0 ≤ k) = true, decide (k < ↑n1) = true, cmpI BinOp.lss k ↑n1 = true]) := by kernel_rfl
theorem l4L_r6 (c : Int) (us : List Int) (h nd hit most dif k : Int) (n1 n2 n3 : Nat) (rs es ks os : List Int) : roundX Try.prog (X4) 100000 (loopAt Try.prog 4 0) [.d true, .d false, .c 4, .d false, .d false, .c 5, .d true] [[0, 1, 4, 5, 6, 8, 10, 12, 14, 16, 17, 18, 19]] [(1024, 1024), (1568, 1568), (1760, 1760)] (l4T c us h nd hit most dif k n1 n2 n3 rs es ks os) = some (Ex.normal, (l4L_c2 c us h nd hit most dif k n1 n2 n3 rs es ks os), [k.toNat < rs.length, decide (0 ≤ k) = true, decide (k < ↑n1) = true, cmpI BinOp.lss (rs.getD k.toNat 0) 0 = true, k.toNat < rs.length, decide (0 ≤ k) = true, decide (k < ↑n1) = true, cmpI BinOp.geq (rs.getD k.toNat 0) 0 = false, k.toNat < rs.length, decide (0 ≤ k) = true, decide (k < ↑n1) = true, cmpI BinOp.gtr (rs.getD k.toNat 0) k = false, k.toNat < rs.length, decide (0 ≤ k) = true, decide (k < ↑n1) = true, cmpI BinOp.lss (rs.getD k.toNat 0) (-1) = false, k.toNat < rs.length, decide (0 ≤ k) = true, decide (k < ↑n1) = true, cmpI BinOp.lss k ↑n1 = true]) := by kernel_rfl
theorem l4L_r7 (c : Int) (us : List Int) (h nd hit most dif k : Int) (n1 n2 n3 : Nat) (rs es ks os : List Int) : roundX Try.prog (X4) 100000 (loopAt Try.prog 4 0) [.d true, .d false, .c 4, .d false, .d false, .c 5, .d false] [[0, 1, 4, 5, 6, 8, 10, 12, 14, 16, 17, 18, 19]] [(1024, 1024), (1568, 1568), (1760, 1760)] (l4T c us h nd hit most dif k n1 n2 n3 rs es ks os) = some (Ex.normal, (l4L_c1 c us h nd hit most dif k n1 n2 n3 rs es ks os), [k.toNat < rs.length, decide (0 ≤ k) = true, decide (k < ↑n1) = true, cmpI BinOp.lss (rs.getD k.toNat 0) 0 = false, k.toNat < rs.length, decide (0 ≤ k) = true, decide (k < ↑n1) = true, cmpI BinOp.geq (rs.getD k.toNat 0) 0 = false, k.toNat < rs.length, decide (0 ≤ k) = true, decide (k < ↑n1) = true, cmpI BinOp.gtr (rs.getD k.toNat 0) k = false, k.toNat < rs.length, decide (0 ≤ k) = true, decide (k < ↑n1) = true, cmpI BinOp.lss (rs.getD k.toNat 0) (-1) = false, k.toNat < rs.length, decide (0 ≤ k) = true, decide (k < ↑n1) = true, cmpI BinOp.lss k ↑n1 = true]) := by kernel_rfl
theorem l4L_r8 (c : Int) (us : List Int) (h nd hit most dif k : Int) (n1 n2 n3 : Nat) (rs es ks os : List Int) : roundX Try.prog (X4) 100000 (loopAt Try.prog 4 0) [.d false] [[0, 1, 4, 5, 6, 8, 10, 12, 14, 16, 17, 18, 19]] [(1024, 1024), (1568, 1568), (1760, 1760)] (l4T c us h nd hit most dif k n1 n2 n3 rs es ks os) = some (Ex.exit 0, (l4L_c0 c us h nd hit most dif k n1 n2 n3 rs es ks os), [cmpI BinOp.lss k ↑n1 = false]) := by kernel_rfl
theorem l4L_step (c : Int) (us : List Int) (h : Int) (nd : Int) (hit : Int) (most : Int) (dif : Int) (k : Int) (n1 : Nat) (n2 : Nat) (n3 : Nat) (rs : List Int) (es : List Int) (ks : List Int) (os : List Int) (σ : St) (e : Ex)
  (h0 : ((cmpI BinOp.lss k ↑n1) = true) → ((cmpI BinOp.lss (rs.getD k.toNat 0) (-1)) = true) → ((k.toNat < rs.length) ∧ (decide (0 ≤ k) = true) ∧ (decide (k < ↑n1) = true) ∧ True) ∧ (e = Ex.ret ∧ σ = (l4L_c0 c us h nd hit most dif k n1 n2 n3 rs es ks os).abs))
  (h1 : ((cmpI BinOp.lss k ↑n1) = true) → ((cmpI BinOp.lss (rs.getD k.toNat 0) (-1)) = false) → ((cmpI BinOp.gtr (rs.getD k.toNat 0) k) = true) → ((k.toNat < rs.length) ∧ (decide (0 ≤ k) = true) ∧ (decide (k < ↑n1) = true) ∧ (k.toNat < rs.length) ∧ (decide (0 ≤ k) = true) ∧ (decide (k < ↑n1) = true) ∧ True) ∧ (e = Ex.ret ∧ σ = (l4L_c0 c us h nd hit most dif k n1 n2 n3 rs es ks os).abs))
  (h2 : ((cmpI BinOp.lss k ↑n1) = true) → ((cmpI BinOp.lss (rs.getD k.toNat 0) (-1)) = false) → ((cmpI BinOp.gtr (rs.getD k.toNat 0) k) = false) → ((cmpI BinOp.geq (rs.getD k.toNat 0) 0) = true) → ((cmpI BinOp.lss (rs.getD k.toNat 0) c) = true) → ((cmpI BinOp.lss (rs.getD k.toNat 0) 0) = true) → ((k.toNat < rs.length) ∧ (decide (0 ≤ k) = true) ∧ (decide (k < ↑n1) = true) ∧ (k.toNat < rs.length) ∧ (decide (0 ≤ k) = true) ∧ (decide (k < ↑n1) = true) ∧ (k.toNat < rs.length) ∧ (decide (0 ≤ k) = true) ∧ (decide (k < ↑n1) = true) ∧ (k.toNat < rs.length) ∧ (decide (0 ≤ k) = true) ∧ (decide (k < ↑n1) = true) ∧ (k.toNat < rs.length) ∧ (decide (0 ≤ k) = true) ∧ (decide (k < ↑n1) = true) ∧ (k.toNat < rs.length) ∧ (decide (0 ≤ k) = true) ∧ (decide (k < ↑n1) = true) ∧ True) ∧ Runs Try.prog (CallsD Try.prog) (.rounds (loopAt Try.prog 4 0)) (l4T (c) (us) (h) (nd) (opI BinOp.add IntKind.i64 hit 1) (mostI BinOp.gtr most (rs.getD k.toNat 0)) (opI BinOp.add IntKind.i64 dif 1) (opI BinOp.add IntKind.i64 k 1) (n1) (n2) (n3) (rs) (es) (ks) (os)).abs e σ)
  (h3 : ((cmpI BinOp.lss k ↑n1) = true) → ((cmpI BinOp.lss (rs.getD k.toNat 0) (-1)) = false) → ((cmpI BinOp.gtr (rs.getD k.toNat 0) k) = false) → ((cmpI BinOp.geq (rs.getD k.toNat 0) 0) = true) → ((cmpI BinOp.lss (rs.getD k.toNat 0) c) = true) → ((cmpI BinOp.lss (rs.getD k.toNat 0) 0) = false) → ((k.toNat < rs.length) ∧ (decide (0 ≤ k) = true) ∧ (decide (k < ↑n1) = true) ∧ (k.toNat < rs.length) ∧ (decide (0 ≤ k) = true) ∧ (decide (k < ↑n1) = true) ∧ (k.toNat < rs.length) ∧ (decide (0 ≤ k) = true) ∧ (decide (k < ↑n1) = true) ∧ (k.toNat < rs.length) ∧ (decide (0 ≤ k) = true) ∧ (decide (k < ↑n1) = true) ∧ (k.toNat < rs.length) ∧ (decide (0 ≤ k) = true) ∧ (decide (k < ↑n1) = true) ∧ (k.toNat < rs.length) ∧ (decide (0 ≤ k) = true) ∧ (decide (k < ↑n1) = true) ∧ True) ∧ Runs Try.prog (CallsD Try.prog) (.rounds (loopAt Try.prog 4 0)) (l4T (c) (us) (h) (nd) (opI BinOp.add IntKind.i64 hit 1) (mostI BinOp.gtr most (rs.getD k.toNat 0)) (dif) (opI BinOp.add IntKind.i64 k 1) (n1) (n2) (n3) (rs) (es) (ks) (os)).abs e σ)
  (h4 : ((cmpI BinOp.lss k ↑n1) = true) → ((cmpI BinOp.lss (rs.getD k.toNat 0) (-1)) = false) → ((cmpI BinOp.gtr (rs.getD k.toNat 0) k) = false) → ((cmpI BinOp.geq (rs.getD k.toNat 0) 0) = true) → ((cmpI BinOp.lss (rs.getD k.toNat 0) c) = false) → ((cmpI BinOp.lss (rs.getD k.toNat 0) 0) = true) → ((k.toNat < rs.length) ∧ (decide (0 ≤ k) = true) ∧ (decide (k < ↑n1) = true) ∧ (k.toNat < rs.length) ∧ (decide (0 ≤ k) = true) ∧ (decide (k < ↑n1) = true) ∧ (k.toNat < rs.length) ∧ (decide (0 ≤ k) = true) ∧ (decide (k < ↑n1) = true) ∧ (k.toNat < rs.length) ∧ (decide (0 ≤ k) = true) ∧ (decide (k < ↑n1) = true) ∧ (k.toNat < rs.length) ∧ (decide (0 ≤ k) = true) ∧ (decide (k < ↑n1) = true) ∧ (k.toNat < rs.length) ∧ (decide (0 ≤ k) = true) ∧ (decide (k < ↑n1) = true) ∧ True) ∧ Runs Try.prog (CallsD Try.prog) (.rounds (loopAt Try.prog 4 0)) (l4L_c2 c us h nd hit most dif k n1 n2 n3 rs es ks os).abs e σ)
  (h5 : ((cmpI BinOp.lss k ↑n1) = true) → ((cmpI BinOp.lss (rs.getD k.toNat 0) (-1)) = false) → ((cmpI BinOp.gtr (rs.getD k.toNat 0) k) = false) → ((cmpI BinOp.geq (rs.getD k.toNat 0) 0) = true) → ((cmpI BinOp.lss (rs.getD k.toNat 0) c) = false) → ((cmpI BinOp.lss (rs.getD k.toNat 0) 0) = false) → ((k.toNat < rs.length) ∧ (decide (0 ≤ k) = true) ∧ (decide (k < ↑n1) = true) ∧ (k.toNat < rs.length) ∧ (decide (0 ≤ k) = true) ∧ (decide (k < ↑n1) = true) ∧ (k.toNat < rs.length) ∧ (decide (0 ≤ k) = true) ∧ (decide (k < ↑n1) = true) ∧ (k.toNat < rs.length) ∧ (decide (0 ≤ k) = true) ∧ (decide (k < ↑n1) = true) ∧ (k.toNat < rs.length) ∧ (decide (0 ≤ k) = true) ∧ (decide (k < ↑n1) = true) ∧ (k.toNat < rs.length) ∧ (decide (0 ≤ k) = true) ∧ (decide (k < ↑n1) = true) ∧ True) ∧ Runs Try.prog (CallsD Try.prog) (.rounds (loopAt Try.prog 4 0)) (l4L_c1 c us h nd hit most dif k n1 n2 n3 rs es ks os).abs e σ)
  (h6 : ((cmpI BinOp.lss k ↑n1) = true) → ((cmpI BinOp.lss (rs.getD k.toNat 0) (-1)) = false) → ((cmpI BinOp.gtr (rs.getD k.toNat 0) k) = false) → ((cmpI BinOp.geq (rs.getD k.toNat 0) 0) = false) → ((cmpI BinOp.lss (rs.getD k.toNat 0) 0) = true) → ((k.toNat < rs.length) ∧ (decide (0 ≤ k) = true) ∧ (decide (k < ↑n1) = true) ∧ (k.toNat < rs.length) ∧ (decide (0 ≤ k) = true) ∧ (decide (k < ↑n1) = true) ∧ (k.toNat < rs.length) ∧ (decide (0 ≤ k) = true) ∧ (decide (k < ↑n1) = true) ∧ (k.toNat < rs.length) ∧ (decide (0 ≤ k) = true) ∧ (decide (k < ↑n1) = true) ∧ (k.toNat < rs.length) ∧ (decide (0 ≤ k) = true) ∧ (decide (k < ↑n1) = true) ∧ True) ∧ Runs Try.prog (CallsD Try.prog) (.rounds (loopAt Try.prog 4 0)) (l4L_c2 c us h nd hit most dif k n1 n2 n3 rs es ks os).abs e σ)
  (h7 : ((cmpI BinOp.lss k ↑n1) = true) → ((cmpI BinOp.lss (rs.getD k.toNat 0) (-1)) = false) → ((cmpI BinOp.gtr (rs.getD k.toNat 0) k) = false) → ((cmpI BinOp.geq (rs.getD k.toNat 0) 0) = false) → ((cmpI BinOp.lss (rs.getD k.toNat 0) 0) = false) → ((k.toNat < rs.length) ∧ (decide (0 ≤ k) = true) ∧ (decide (k < ↑n1) = true) ∧ (k.toNat < rs.length) ∧ (decide (0 ≤ k) = true) ∧ (decide (k < ↑n1) = true) ∧ (k.toNat < rs.length) ∧ (decide (0 ≤ k) = true) ∧ (decide (k < ↑n1) = true) ∧ (k.toNat < rs.length) ∧ (decide (0 ≤ k) = true) ∧ (decide (k < ↑n1) = true) ∧ (k.toNat < rs.length) ∧ (decide (0 ≤ k) = true) ∧ (decide (k < ↑n1) = true) ∧ True) ∧ Runs Try.prog (CallsD Try.prog) (.rounds (loopAt Try.prog 4 0)) (l4L_c1 c us h nd hit most dif k n1 n2 n3 rs es ks os).abs e σ)
  (h8 : ((cmpI BinOp.lss k ↑n1) = false) → (True) ∧ (e = Ex.exit 0 ∧ σ = (l4L_c0 c us h nd hit most dif k n1 n2 n3 rs es ks os).abs)) : Runs Try.prog (CallsD Try.prog) (.rounds (loopAt Try.prog 4 0)) (l4T c us h nd hit most dif k n1 n2 n3 rs es ks os).abs e σ := by
  cases e0 : (cmpI BinOp.lss k ↑n1) with
  | true =>
    cases e1 : (cmpI BinOp.lss (rs.getD k.toNat 0) (-1)) with
    | true =>
      obtain ⟨⟨k0, k1, k2, _⟩, kr⟩ := h0 e0 e1
      exact rounds_end (hX4) (l4L_r0 c us h nd hit most dif k n1 n2 n3 rs es ks os) ⟨e1, k0, k1, k2, e0, trivial⟩ (by simp) kr
    | false =>
      cases e2 : (cmpI BinOp.gtr (rs.getD k.toNat 0) k) with
      | true =>
        obtain ⟨⟨k0, k1, k2, k3, k4, k5, _⟩, kr⟩ := h1 e0 e1 e2
        exact rounds_end (hX4) (l4L_r1 c us h nd hit most dif k n1 n2 n3 rs es ks os) ⟨e2, k0, k1, k2, e1, k3, k4, k5, e0, trivial⟩ (by simp) kr
      | false =>
        cases e3 : (cmpI BinOp.geq (rs.getD k.toNat 0) 0) with
        | true =>
          cases e4 : (cmpI BinOp.lss (rs.getD k.toNat 0) c) with
          | true =>
            cases e5 : (cmpI BinOp.lss (rs.getD k.toNat 0) 0) with
            | true =>
              obtain ⟨⟨k0, k1, k2, k3, k4, k5, k6, k7, k8, k9, k10, k11, k12, k13, k14, k15, k16, k17, _⟩, kr⟩ := h2 e0 e1 e2 e3 e4 e5
              exact rounds_on (hX4) (l4L_r2 c us h nd hit most dif k n1 n2 n3 rs es ks os) ⟨k0, k1, k2, e5, k3, k4, k5, e4, k6, k7, k8, e3, k9, k10, k11, e2, k12, k13, k14, e1, k15, k16, k17, e0, trivial⟩ kr
            | false =>
              obtain ⟨⟨k0, k1, k2, k3, k4, k5, k6, k7, k8, k9, k10, k11, k12, k13, k14, k15, k16, k17, _⟩, kr⟩ := h3 e0 e1 e2 e3 e4 e5
              exact rounds_on (hX4) (l4L_r3 c us h nd hit most dif k n1 n2 n3 rs es ks os) ⟨k0, k1, k2, e5, k3, k4, k5, e4, k6, k7, k8, e3, k9, k10, k11, e2, k12, k13, k14, e1, k15, k16, k17, e0, trivial⟩ kr
          | false =>
            cases e5 : (cmpI BinOp.lss (rs.getD k.toNat 0) 0) with
            | true =>
              obtain ⟨⟨k0, k1, k2, k3, k4, k5, k6, k7, k8, k9, k10, k11, k12, k13, k14, k15, k16, k17, _⟩, kr⟩ := h4 e0 e1 e2 e3 e4 e5
              exact rounds_on (hX4) (l4L_r4 c us h nd hit most dif k n1 n2 n3 rs es ks os) ⟨k0, k1, k2, e5, k3, k4, k5, e4, k6, k7, k8, e3, k9, k10, k11, e2, k12, k13, k14, e1, k15, k16, k17, e0, trivial⟩ kr
            | false =>
              obtain ⟨⟨k0, k1, k2, k3, k4, k5, k6, k7, k8, k9, k10, k11, k12, k13, k14, k15, k16, k17, _⟩, kr⟩ := h5 e0 e1 e2 e3 e4 e5
              exact rounds_on (hX4) (l4L_r5 c us h nd hit most dif k n1 n2 n3 rs es ks os) ⟨k0, k1, k2, e5, k3, k4, k5, e4, k6, k7, k8, e3, k9, k10, k11, e2, k12, k13, k14, e1, k15, k16, k17, e0, trivial⟩ kr
        | false =>
          cases e4 : (cmpI BinOp.lss (rs.getD k.toNat 0) 0) with
          | true =>
            obtain ⟨⟨k0, k1, k2, k3, k4, k5, k6, k7, k8, k9, k10, k11, k12, k13, k14, _⟩, kr⟩ := h6 e0 e1 e2 e3 e4
            exact rounds_on (hX4) (l4L_r6 c us h nd hit most dif k n1 n2 n3 rs es ks os) ⟨k0, k1, k2, e4, k3, k4, k5, e3, k6, k7, k8, e2, k9, k10, k11, e1, k12, k13, k14, e0, trivial⟩ kr
          | false =>
            obtain ⟨⟨k0, k1, k2, k3, k4, k5, k6, k7, k8, k9, k10, k11, k12, k13, k14, _⟩, kr⟩ := h7 e0 e1 e2 e3 e4
            exact rounds_on (hX4) (l4L_r7 c us h nd hit most dif k n1 n2 n3 rs es ks os) ⟨k0, k1, k2, e4, k3, k4, k5, e3, k6, k7, k8, e2, k9, k10, k11, e1, k12, k13, k14, e0, trivial⟩ kr
  | false =>
    obtain ⟨_, kr⟩ := h8 e0
    exact rounds_end (hX4) (l4L_r8 c us h nd hit most dif k n1 n2 n3 rs es ks os) ⟨e0, trivial⟩ (by simp) kr
noncomputable def l4F_c0 (us : List Int) (most : Int) := cmpI BinOp.eql (needV us) (opI BinOp.add IntKind.i64 most 1)
noncomputable def l4F_c1 (c : Int) (us : List Int) (dif : Int) := cmpI BinOp.eql (↑((orderL c us).length)) (mostI BinOp.lss c dif)
noncomputable def l4F_c2 (c : Int) (us : List Int) := l4T c us (hitsV c us) (needV us) 0 0 0 0 ((reachV us).length) ((evUL c us).length) ((orderL c us).length) (reachV us) (evUL c us) (evKL c us) (orderL c us)
noncomputable def l4F_c3 (c : Int) (us : List Int) (hit most dif k : Int) := l4T c us (hitsV c us) (needV us) hit most dif k ((reachV us).length) ((evUL c us).length) ((orderL c us).length) (reachV us) (evUL c us) (evKL c us) (orderL c us)
noncomputable def l4F_c4 (c : Int) (us : List Int) (hit most dif k : Int) := Runs Try.prog (CallsD Try.prog) (.code (.loop (loopAt Try.prog 4 0))) (l4F_c2 c us).abs (Ex.exit 0) (l4F_c3 c us hit most dif k).abs
theorem l4F_p0 (c : Int) (us : List Int) (hit most dif k : Int) : fnX Try.prog (X4) 100000 [.d true, .c 1] 4 [i64 c, ru us] = some (bo true, [cmpI BinOp.neq (chkV c us.length) 0 = true]) := by kernel_rfl
theorem l4F_p1 (c : Int) (us : List Int) (hit most dif k : Int) : fnX Try.prog (X4) 100000 [.d false, .c 1, .d true, .c 12] 4 [i64 c, ru us] = some (bo false, [cmpI BinOp.neq (lenV us) 0 = true, okX us, okX us, okX us, okX us, okX us, cmpI BinOp.neq (chkV c us.length) 0 = false]) := by kernel_rfl
theorem l4F_p2 (c : Int) (us : List Int) (hit most dif k : Int) : fnX Try.prog (X4) 100000 [.d false, .c 1, .d false, .c 0, .d false, .c 0, .d false, .c 0, .d false, .c 0, .d false, .c 3, .d true] 4 [i64 c, ru us] = some (bo false, [cmpI BinOp.neq ↑((reachV us).length) ↑(us.length) = true, cmpI BinOp.neq (chkV c us.length) 0 = false, cmpI BinOp.neq (chkV c us.length) 0 = false, cmpI BinOp.neq (lenV us) 0 = false, cmpI BinOp.neq (chkV c us.length) 0 = false, cmpI BinOp.neq (lenV us) 0 = false, okX us, okX us, okX us, okX us, okX us, cmpI BinOp.neq (chkV c us.length) 0 = false]) := by kernel_rfl
theorem l4F_p3 (c : Int) (us : List Int) (hit most dif k : Int) : fnX Try.prog (X4) 100000 [.d false, .c 1, .d false, .c 0, .d false, .c 0, .d false, .c 0, .d false, .c 0, .d false, .c 3, .d false, PE.l [[0, 1, 4, 5, 6, 8, 10, 12, 14, 16, 17, 18, 19]] [(1024, 1024), (1568, 1568), (1760, 1760)] (l4F_c2 c us) (Ex.exit 0) (l4F_c3 c us hit most dif k), .c 2, .d true, .c 2, .d true, .c 4, .d true, .c 8] 4 [i64 c, ru us] = some (D.v (Value.bool (cmpI BinOp.eql (↑((evUL c us).length)) (opI BinOp.sub IntKind.i64 (opI BinOp.sub IntKind.i64 (↑(us.length)) hit) ↑((orderL c us).length)))), [cmpI BinOp.eql (↑((orderL c us).length)) (mostI BinOp.lss c dif) = true, cmpI BinOp.eql (needV us) (opI BinOp.add IntKind.i64 most 1) = true, cmpI BinOp.eql (hitsV c us) hit = true, (l4T c us (hitsV c us) (needV us) 0 0 0 0 ((reachV us).length) ((evUL c us).length) ((orderL c us).length) (reachV us) (evUL c us) (evKL c us) (orderL c us) = l4T c us (hitsV c us) (needV us) 0 0 0 0 ((reachV us).length) ((evUL c us).length) ((orderL c us).length) (reachV us) (evUL c us) (evKL c us) (orderL c us)), Runs Try.prog (CallsD Try.prog) (.code (.loop (loopAt Try.prog 4 0))) (l4F_c2 c us).abs (Ex.exit 0) (l4F_c3 c us hit most dif k).abs, cmpI BinOp.neq ↑((reachV us).length) ↑(us.length) = false, cmpI BinOp.neq (chkV c us.length) 0 = false, cmpI BinOp.neq (chkV c us.length) 0 = false, cmpI BinOp.neq (lenV us) 0 = false, cmpI BinOp.neq (chkV c us.length) 0 = false, cmpI BinOp.neq (lenV us) 0 = false, okX us, okX us, okX us, okX us, okX us, cmpI BinOp.neq (chkV c us.length) 0 = false]) := by kernel_rfl
theorem l4F_p4 (c : Int) (us : List Int) (hit most dif k : Int) : fnX Try.prog (X4) 100000 [.d false, .c 1, .d false, .c 0, .d false, .c 0, .d false, .c 0, .d false, .c 0, .d false, .c 3, .d false, PE.l [[0, 1, 4, 5, 6, 8, 10, 12, 14, 16, 17, 18, 19]] [(1024, 1024), (1568, 1568), (1760, 1760)] (l4F_c2 c us) (Ex.exit 0) (l4F_c3 c us hit most dif k), .c 2, .d true, .c 2, .d true, .c 4, .d false, .c 8] 4 [i64 c, ru us] = some (bo false, [cmpI BinOp.eql (↑((orderL c us).length)) (mostI BinOp.lss c dif) = false, cmpI BinOp.eql (needV us) (opI BinOp.add IntKind.i64 most 1) = true, cmpI BinOp.eql (hitsV c us) hit = true, (l4T c us (hitsV c us) (needV us) 0 0 0 0 ((reachV us).length) ((evUL c us).length) ((orderL c us).length) (reachV us) (evUL c us) (evKL c us) (orderL c us) = l4T c us (hitsV c us) (needV us) 0 0 0 0 ((reachV us).length) ((evUL c us).length) ((orderL c us).length) (reachV us) (evUL c us) (evKL c us) (orderL c us)), Runs Try.prog (CallsD Try.prog) (.code (.loop (loopAt Try.prog 4 0))) (l4F_c2 c us).abs (Ex.exit 0) (l4F_c3 c us hit most dif k).abs, cmpI BinOp.neq ↑((reachV us).length) ↑(us.length) = false, cmpI BinOp.neq (chkV c us.length) 0 = false, cmpI BinOp.neq (chkV c us.length) 0 = false, cmpI BinOp.neq (lenV us) 0 = false, cmpI BinOp.neq (chkV c us.length) 0 = false, cmpI BinOp.neq (lenV us) 0 = false, okX us, okX us, okX us, okX us, okX us, cmpI BinOp.neq (chkV c us.length) 0 = false]) := by kernel_rfl
theorem l4F_p5 (c : Int) (us : List Int) (hit most dif k : Int) : fnX Try.prog (X4) 100000 [.d false, .c 1, .d false, .c 0, .d false, .c 0, .d false, .c 0, .d false, .c 0, .d false, .c 3, .d false, PE.l [[0, 1, 4, 5, 6, 8, 10, 12, 14, 16, 17, 18, 19]] [(1024, 1024), (1568, 1568), (1760, 1760)] (l4F_c2 c us) (Ex.exit 0) (l4F_c3 c us hit most dif k), .c 2, .d true, .c 2, .d false, .c 14] 4 [i64 c, ru us] = some (bo false, [cmpI BinOp.eql (needV us) (opI BinOp.add IntKind.i64 most 1) = false, cmpI BinOp.eql (hitsV c us) hit = true, (l4T c us (hitsV c us) (needV us) 0 0 0 0 ((reachV us).length) ((evUL c us).length) ((orderL c us).length) (reachV us) (evUL c us) (evKL c us) (orderL c us) = l4T c us (hitsV c us) (needV us) 0 0 0 0 ((reachV us).length) ((evUL c us).length) ((orderL c us).length) (reachV us) (evUL c us) (evKL c us) (orderL c us)), Runs Try.prog (CallsD Try.prog) (.code (.loop (loopAt Try.prog 4 0))) (l4F_c2 c us).abs (Ex.exit 0) (l4F_c3 c us hit most dif k).abs, cmpI BinOp.neq ↑((reachV us).length) ↑(us.length) = false, cmpI BinOp.neq (chkV c us.length) 0 = false, cmpI BinOp.neq (chkV c us.length) 0 = false, cmpI BinOp.neq (lenV us) 0 = false, cmpI BinOp.neq (chkV c us.length) 0 = false, cmpI BinOp.neq (lenV us) 0 = false, okX us, okX us, okX us, okX us, okX us, cmpI BinOp.neq (chkV c us.length) 0 = false]) := by kernel_rfl
theorem l4F_p6 (c : Int) (us : List Int) (hit most dif k : Int) : fnX Try.prog (X4) 100000 [.d false, .c 1, .d false, .c 0, .d false, .c 0, .d false, .c 0, .d false, .c 0, .d false, .c 3, .d false, PE.l [[0, 1, 4, 5, 6, 8, 10, 12, 14, 16, 17, 18, 19]] [(1024, 1024), (1568, 1568), (1760, 1760)] (l4F_c2 c us) (Ex.exit 0) (l4F_c3 c us hit most dif k), .c 2, .d false, .c 18] 4 [i64 c, ru us] = some (bo false, [cmpI BinOp.eql (hitsV c us) hit = false, (l4T c us (hitsV c us) (needV us) 0 0 0 0 ((reachV us).length) ((evUL c us).length) ((orderL c us).length) (reachV us) (evUL c us) (evKL c us) (orderL c us) = l4T c us (hitsV c us) (needV us) 0 0 0 0 ((reachV us).length) ((evUL c us).length) ((orderL c us).length) (reachV us) (evUL c us) (evKL c us) (orderL c us)), Runs Try.prog (CallsD Try.prog) (.code (.loop (loopAt Try.prog 4 0))) (l4F_c2 c us).abs (Ex.exit 0) (l4F_c3 c us hit most dif k).abs, cmpI BinOp.neq ↑((reachV us).length) ↑(us.length) = false, cmpI BinOp.neq (chkV c us.length) 0 = false, cmpI BinOp.neq (chkV c us.length) 0 = false, cmpI BinOp.neq (lenV us) 0 = false, cmpI BinOp.neq (chkV c us.length) 0 = false, cmpI BinOp.neq (lenV us) 0 = false, okX us, okX us, okX us, okX us, okX us, cmpI BinOp.neq (chkV c us.length) 0 = false]) := by kernel_rfl
theorem l4F_calls (c : Int) (us : List Int) (hit most dif k : Int) (res : D)
  (h0 : ((cmpI BinOp.neq (chkV c us.length) 0) = true) → (True) ∧ res = bo true)
  (h1 : ((cmpI BinOp.neq (chkV c us.length) 0) = false) → ((cmpI BinOp.neq (lenV us) 0) = true) → ((okX us) ∧ (okX us) ∧ (okX us) ∧ (okX us) ∧ (okX us) ∧ True) ∧ res = bo false)
  (h2 : ((cmpI BinOp.neq (chkV c us.length) 0) = false) → ((cmpI BinOp.neq (lenV us) 0) = false) → ((cmpI BinOp.neq ↑((reachV us).length) ↑(us.length)) = true) → ((okX us) ∧ (okX us) ∧ (okX us) ∧ (okX us) ∧ (okX us) ∧ True) ∧ res = bo false)
  (h3 : ((cmpI BinOp.neq (chkV c us.length) 0) = false) → ((cmpI BinOp.neq (lenV us) 0) = false) → ((cmpI BinOp.neq ↑((reachV us).length) ↑(us.length)) = false) → ((cmpI BinOp.eql (hitsV c us) hit) = true) → ((l4F_c0 us most) = true) → ((l4F_c1 c us dif) = true) → ((l4F_c4 c us hit most dif k) ∧ (okX us) ∧ (okX us) ∧ (okX us) ∧ (okX us) ∧ (okX us) ∧ True) ∧ res = D.v (Value.bool (cmpI BinOp.eql (↑((evUL c us).length)) (opI BinOp.sub IntKind.i64 (opI BinOp.sub IntKind.i64 (↑(us.length)) hit) ↑((orderL c us).length)))))
  (h4 : ((cmpI BinOp.neq (chkV c us.length) 0) = false) → ((cmpI BinOp.neq (lenV us) 0) = false) → ((cmpI BinOp.neq ↑((reachV us).length) ↑(us.length)) = false) → ((cmpI BinOp.eql (hitsV c us) hit) = true) → ((l4F_c0 us most) = true) → ((l4F_c1 c us dif) = false) → ((l4F_c4 c us hit most dif k) ∧ (okX us) ∧ (okX us) ∧ (okX us) ∧ (okX us) ∧ (okX us) ∧ True) ∧ res = bo false)
  (h5 : ((cmpI BinOp.neq (chkV c us.length) 0) = false) → ((cmpI BinOp.neq (lenV us) 0) = false) → ((cmpI BinOp.neq ↑((reachV us).length) ↑(us.length)) = false) → ((cmpI BinOp.eql (hitsV c us) hit) = true) → ((l4F_c0 us most) = false) → ((l4F_c4 c us hit most dif k) ∧ (okX us) ∧ (okX us) ∧ (okX us) ∧ (okX us) ∧ (okX us) ∧ True) ∧ res = bo false)
  (h6 : ((cmpI BinOp.neq (chkV c us.length) 0) = false) → ((cmpI BinOp.neq (lenV us) 0) = false) → ((cmpI BinOp.neq ↑((reachV us).length) ↑(us.length)) = false) → ((cmpI BinOp.eql (hitsV c us) hit) = false) → ((l4F_c4 c us hit most dif k) ∧ (okX us) ∧ (okX us) ∧ (okX us) ∧ (okX us) ∧ (okX us) ∧ True) ∧ res = bo false) : CallsD Try.prog 4 [i64 c, ru us] res := by
  cases e0 : (cmpI BinOp.neq (chkV c us.length) 0) with
  | true =>
    obtain ⟨_, kr⟩ := h0 e0
    exact of_path (hX4) (l4F_p0 c us hit most dif k) ⟨e0, trivial⟩ kr
  | false =>
    cases e1 : (cmpI BinOp.neq (lenV us) 0) with
    | true =>
      obtain ⟨⟨k0, k1, k2, k3, k4, _⟩, kr⟩ := h1 e0 e1
      exact of_path (hX4) (l4F_p1 c us hit most dif k) ⟨e1, k0, k1, k2, k3, k4, e0, trivial⟩ kr
    | false =>
      cases e2 : (cmpI BinOp.neq ↑((reachV us).length) ↑(us.length)) with
      | true =>
        obtain ⟨⟨k0, k1, k2, k3, k4, _⟩, kr⟩ := h2 e0 e1 e2
        exact of_path (hX4) (l4F_p2 c us hit most dif k) ⟨e2, e0, e0, e1, e0, e1, k0, k1, k2, k3, k4, e0, trivial⟩ kr
      | false =>
        cases e3 : (cmpI BinOp.eql (hitsV c us) hit) with
        | true =>
          cases e4 : (l4F_c0 us most) with
          | true =>
            cases e5 : (l4F_c1 c us dif) with
            | true =>
              obtain ⟨⟨k0, k1, k2, k3, k4, k5, _⟩, kr⟩ := h3 e0 e1 e2 e3 e4 e5
              exact of_path (hX4) (l4F_p3 c us hit most dif k) ⟨e5, e4, e3, rfl, k0, e2, e0, e0, e1, e0, e1, k1, k2, k3, k4, k5, e0, trivial⟩ kr
            | false =>
              obtain ⟨⟨k0, k1, k2, k3, k4, k5, _⟩, kr⟩ := h4 e0 e1 e2 e3 e4 e5
              exact of_path (hX4) (l4F_p4 c us hit most dif k) ⟨e5, e4, e3, rfl, k0, e2, e0, e0, e1, e0, e1, k1, k2, k3, k4, k5, e0, trivial⟩ kr
          | false =>
            obtain ⟨⟨k0, k1, k2, k3, k4, k5, _⟩, kr⟩ := h5 e0 e1 e2 e3 e4
            exact of_path (hX4) (l4F_p5 c us hit most dif k) ⟨e4, e3, rfl, k0, e2, e0, e0, e1, e0, e1, k1, k2, k3, k4, k5, e0, trivial⟩ kr
        | false =>
          obtain ⟨⟨k0, k1, k2, k3, k4, k5, _⟩, kr⟩ := h6 e0 e1 e2 e3
          exact of_path (hX4) (l4F_p6 c us hit most dif k) ⟨e3, rfl, k0, e2, e0, e0, e1, e0, e1, k1, k2, k3, k4, k5, e0, trivial⟩ kr
theorem mostI_max4 (p q : Int) : mostI .gtr p q = max p q := by
  show (bif decide (q > p) then q else p) = _
  by_cases h : q > p
  · simp [h]; omega
  · simp [h]; omega
theorem mostI_min4 (p q : Int) : mostI .lss p q = min p q := by
  show (bif decide (q < p) then q else p) = _
  by_cases h : q < p
  · simp [h]; omega
  · simp [h]; omega
def hitP (c : Int) (r : Int) : Bool := decide (0 ≤ r ∧ r < c)
def difP (r : Int) : Bool := decide (r < 0)
theorem l4_ok (c : Int) (us : List Int) (h : okU us) : CallsD Try.prog 4 [i64 c, ru us] (bo true) := by
  by_cases e : chkV c us.length = 0
  · obtain ⟨h1, h2, h3⟩ := chk_pos e
    obtain ⟨cn, rfl⟩ := Int.eq_ofNat_of_zero_le (by omega : 0 ≤ c)
    have hx : okX us := ⟨by omega, h⟩
    have hrs : reachV us = reachL us := by unfold reachV; rw [if_pos h3]
    have hrl : (reachV us).length = us.length := by rw [hrs, reachL_len]
    have hlen : lenV us = 0 := by unfold lenV; rw [if_pos h3]
    have hnd : needV us = mostR us + 1 := by unfold needV; rw [if_pos h3]
    have hh : hitsV cn us = (((reachV us).countP (hitP cn) : Nat) : Int) := by unfold hitsV hitP; rw [if_pos e, hrs]; rfl
    have hm : mostR us = (reachV us).foldl max 0 := by rw [hrs]; rfl
    have hd : (lru us).length = (reachV us).countP difP := by rw [hrs, lru_len]; rfl
    have ho : orderL cn us = lruN cn us := by unfold orderL; rw [if_pos e]; rfl
    have he : evUL cn us = evU cn us := by unfold evUL; rw [if_pos e]; rfl
    have hcount := ev_count cn us
    have hm0 := mostR_nonneg us
    have hm1 := mostR_le us
    have hln : (lruN cn us).length = min cn (lru us).length := by unfold lruN; rw [List.length_take]
    have hgood : ∀ i, i < us.length → -1 ≤ (reachV us).getD i 0 ∧ (reachV us).getD i 0 ≤ (i : Int) := fun i hi => by
      rw [hrs, reachL_getD us i hi]
      have := rc_le (us.take i) (us.getD i 0)
      rw [List.length_take] at this; omega
    have hck := List.countP_le_length (p := hitP cn) (l := reachV us)
    have hdk := List.countP_le_length (p := difP) (l := reachV us)
    have hev := evL_len cn us
    have hloop : Runs Try.prog (CallsD Try.prog) (.rounds (loopAt Try.prog 4 0)) (l4T cn us (hitsV cn us) (needV us) 0 0 0 0 (reachV us).length (evUL cn us).length (orderL cn us).length (reachV us) (evUL cn us) (evKL cn us) (orderL cn us)).abs (.exit 0)
        (l4T cn us (hitsV cn us) (needV us) ((reachV us).countP (hitP cn) : Nat) ((reachV us).foldl max 0) ((reachV us).countP difP : Nat) us.length (reachV us).length (evUL cn us).length (orderL cn us).length (reachV us) (evUL cn us) (evKL cn us) (orderL cn us)).abs := by
      generalize hitsV (cn : Int) us = hv
      generalize needV us = nv
      generalize (evUL (cn : Int) us).length = n2
      generalize (orderL (cn : Int) us).length = n3
      generalize evUL (cn : Int) us = es
      generalize evKL (cn : Int) us = ks
      generalize orderL (cn : Int) us = os
      generalize reachV us = rs at *
      have hz := scan_all (P := Try.prog) (F := CallsD Try.prog) (b := loopAt Try.prog 4 0) (fun i => l4T cn us hv nv ((rs.take i).countP (hitP cn) : Nat) ((rs.take i).foldl max 0) ((rs.take i).countP difP : Nat) (i : Int) rs.length n2 n3 rs es ks os) rs.length (fun _ => True) (fun i hi _ σ e hr => ?_)
        (σ := (l4T cn us hv nv (rs.countP (hitP cn) : Nat) (rs.foldl max 0) (rs.countP difP : Nat) us.length rs.length n2 n3 rs es ks os).abs) (e := .exit 0) ?_ rs.length 0 (by omega) (fun _ _ _ => trivial)
      · simpa using hz
      · have b := natLt hi
        have g := hgood i (by omega)
        have bi : (i : Int).toNat < rs.length := by rw [Int.toNat_natCast]; exact hi
        have c1 := List.countP_le_length (p := hitP cn) (l := rs.take i)
        have c2 := List.countP_le_length (p := difP) (l := rs.take i)
        rw [List.length_take] at c1 c2
        have e1 : ∀ n : Nat, n ≤ 100 → opI .add .i64 (n : Int) 1 = ((n + 1 : Nat) : Int) := fun n hn => by rw [opI_add, wrap_i64_of (by omega) (by omega)]; omega
        rw [take_snoc rs i hi, List.countP_append, List.countP_append, List.countP_singleton, List.countP_singleton, List.foldl_append] at hr
        simp only [List.foldl_cons, List.foldl_nil] at hr
        refine l4L_step cn us hv nv _ _ _ i _ n2 n3 rs es ks os σ e ?_ ?_ ?_ ?_ ?_ ?_ ?_ ?_ ?_
        · intro _ q; rw [Int.toNat_natCast, lss_t] at q; omega
        · intro _ _ q; rw [Int.toNat_natCast, gtr_t] at q; omega
        · intro _ _ _ q _ q2; rw [Int.toNat_natCast, geq_t] at q; rw [Int.toNat_natCast, lss_t] at q2; omega
        · intro _ _ _ q q1 _
          rw [Int.toNat_natCast, geq_t] at q
          rw [Int.toNat_natCast, lss_t] at q1
          rw [if_pos (by unfold hitP; simp only [decide_eq_true_eq]; exact ⟨q, q1⟩), if_neg (by unfold difP; simp only [decide_eq_true_eq]; omega), Nat.add_zero] at hr
          first | unfold l4L_c2 | unfold l4L_c1 | skip
          rw [succL hi (by omega), e1 _ (by omega), mostI_max4, Int.toNat_natCast]
          exact ⟨⟨hi, b.1, b.2, hi, b.1, b.2, hi, b.1, b.2, hi, b.1, b.2, hi, b.1, b.2, hi, b.1, b.2, trivial⟩, hr⟩
        · intro _ _ _ q _ q2; rw [Int.toNat_natCast, geq_t] at q; rw [Int.toNat_natCast, lss_t] at q2; omega
        · intro _ _ _ q q1 _
          rw [Int.toNat_natCast, geq_t] at q
          rw [Int.toNat_natCast, lss_f] at q1
          rw [if_neg (by unfold hitP; simp only [decide_eq_true_eq]; omega), if_neg (by unfold difP; simp only [decide_eq_true_eq]; omega), Nat.add_zero, Nat.add_zero] at hr
          first | unfold l4L_c1 | unfold l4L_c2 | skip
          rw [succL hi (by omega), mostI_max4, Int.toNat_natCast]
          exact ⟨⟨hi, b.1, b.2, hi, b.1, b.2, hi, b.1, b.2, hi, b.1, b.2, hi, b.1, b.2, hi, b.1, b.2, trivial⟩, hr⟩
        · intro _ _ _ q q2
          rw [Int.toNat_natCast, geq_f] at q
          rw [if_neg (by unfold hitP; simp only [decide_eq_true_eq]; omega), if_pos (by unfold difP; simp only [decide_eq_true_eq]; omega), Nat.add_zero] at hr
          first | unfold l4L_c2 | unfold l4L_c1 | skip
          rw [succL hi (by omega), e1 _ (by omega), mostI_max4, Int.toNat_natCast]
          exact ⟨⟨hi, b.1, b.2, hi, b.1, b.2, hi, b.1, b.2, hi, b.1, b.2, hi, b.1, b.2, trivial⟩, hr⟩
        · intro _ _ _ q q2; rw [Int.toNat_natCast, geq_f] at q; rw [Int.toNat_natCast, lss_f] at q2; omega
        · intro q; rw [lss_f] at q; omega
      · rw [List.take_length]
        have c0 : ¬ cmpI .lss ((rs.length : Nat) : Int) (rs.length : Int) = true := by rw [lss_t]; omega
        refine l4L_step cn us hv nv _ _ _ rs.length _ n2 n3 rs es ks os _ _ ?_ ?_ ?_ ?_ ?_ ?_ ?_ ?_ ?_
        · intro q; exact absurd q c0
        · intro q; exact absurd q c0
        · intro q; exact absurd q c0
        · intro q; exact absurd q c0
        · intro q; exact absurd q c0
        · intro q; exact absurd q c0
        · intro q; exact absurd q c0
        · intro q; exact absurd q c0
        · intro _; exact ⟨trivial, rfl, by unfold l4L_c0; rw [hrl]⟩
    refine l4F_calls cn us ((reachV us).countP (hitP cn) : Nat) ((reachV us).foldl max 0) ((reachV us).countP difP : Nat) us.length _ ?_ ?_ ?_ ?_ ?_ ?_ ?_
    · intro q; rw [neq_t] at q; exact absurd e q
    · intro _ q; rw [neq_t] at q; exact absurd hlen q
    · intro _ _ q; rw [neq_t] at q; omega
    · intro _ _ _ _ _ _
      refine ⟨⟨?_, hx, hx, hx, hx, hx, trivial⟩, ?_⟩
      · exact loop_of_rounds hloop
      · congr 2
        symm
        rw [eql_t, he, ho]
        rw [he] at hev
        have hh2 : hitsL cn us = (reachV us).countP (hitP cn) := by rw [hrs]; rfl
        have w1 : opI .sub .i64 ((us.length : Nat) : Int) (((reachV us).countP (hitP cn) : Nat) : Int) = ((us.length : Nat) : Int) - (((reachV us).countP (hitP cn) : Nat) : Int) := by rw [opI_sub, wrap_i64_of (by omega) (by omega)]
        rw [w1, opI_sub, wrap_i64_of (by omega) (by omega)]
        omega
    · intro _ _ _ _ _ q
      unfold l4F_c1 at q; rw [eql_f, ho, mostI_min4] at q
      exact absurd (by rw [hln]; omega) q
    · intro _ _ _ _ q
      unfold l4F_c0 at q; rw [eql_f, hnd, hm, opI_add, wrap_i64_of (by omega) (by omega)] at q
      exact absurd rfl q
    · intro _ _ _ q
      rw [eql_f] at q
      exact absurd hh q
  · refine l4F_calls c us 0 0 0 0 _ ?_ ?_ ?_ ?_ ?_ ?_ ?_
    · intro _; exact ⟨trivial, rfl⟩
    all_goals
      intro q
      rw [neq_f] at q
      exact absurd q e
end EvS
end

section
namespace Go.Proofs.Ytnmgcibopkdijaa.evictReaches
open Go.ChangeShapes Go.WideShapes Go.ChangeAt Go.RowKit Go.Dam _root_.EvS
set_option linter.unusedVariables false
set_option maxRecDepth 100000

theorem walk (W : World) (v0 v1 : Value) (n0 : Int) (a : Nat → List Int) (h0 : v0 = .int .i64 n0) (hs : IsRows [.u32] W v1 a) :
    Calls Try.prog 4 #[v0, v1] W (fun e W' => e = .returned (.bool true) ∧ Below W.heap.size W W') := by
  subst h0
  have hr := hs.rep notLive
  have ho : okU (a 0) := fun x hx => by
    obtain ⟨i, hi, rfl⟩ := List.mem_iff_getElem.1 hx
    have := hs.1 i 0 .u32 hi rfl
    rwa [List.getD_eq_getElem?_getD, List.getElem?_eq_getElem hi] at this
  refine (l4_ok n0 (a 0) ho W (fun k => k < W.heap.size) [_, v1] ?_ (fun _ h => h) (fun g h => absurd rfl h)).mono ?_
  · exact ⟨_, _, rfl, rfl, ⟨_, _, rfl, hr, rfl⟩⟩
  · rintro e w' ⟨v, A', bl, rfl, hr, _, _, _, _, hb⟩
    have hv : v = .bool true := by
      simp only [RepO, RepS] at hr
      exact hr.1
    exact ⟨by rw [hv], hb⟩
theorem own : ownKnob Try.prog.godebug = none := by kernel_rfl
theorem laidOut : laidOutB Try.prog = true := by kernel_rfl
theorem lifted (os : Os) (started : os.Started) (H : Type) (enc : TypeId × Value → H) :
    ReturnsInHanded {} Try.checked os 4 .any (Rows.evictReachesSpec.pre6 enc Try.prog Try.f4 Rows.evictReachesRow.domain false) (Rows.evictReachesSpec.post enc Try.prog Try.f4 false true false false) := by
  refine returnsInHanded_of_change_sized (C := Try.checked) own started (by kernel_rfl) Try.func4
    (ChangeSpec.witness6 (enc := enc) (C := Try.checked) false ⟨#[], #[.int .i64 0, .slice none 0 0], []⟩ 8 (by kernel_rfl) (by kernel_rfl) (by kernel_rfl) (by kernel_rfl)) ?_
  intro W base args ds gs before hval0 hW hcnd hsz0 _
  have hval : ∀ (j : Nat) t v, Try.f4.params[j]? = some t → args[j]? = some v → Value.okWide Try.prog W .any base t v := hval0
  have hW' := hW
  obtain ⟨p, q, hA0, hV, rfl, hfz, hnd⟩ := hW
  have hA : DataW.TrodAll enc Try.prog W 0 (fun _ => true) true Try.f4.params.toList args.toList ds p := hA0
  rw [Try.params4] at hA hval
  obtain ⟨v0, vs0, d0, ds0, p0, q0, hargs, rfl, rfl, h0, r0⟩ := trodAll_cons hA
  obtain ⟨v1, vs1, d1, ds1, p1, q1, rfl, rfl, rfl, h1, r1⟩ := trodAll_cons r0
  obtain ⟨rfl, rfl, rfl⟩ := trodAll_nil r1
  obtain rfl : args = #[v0, v1] := by cases args; simp_all
  obtain ⟨rfl, rfl⟩ := trodVars_none hV
  have lt : ∀ {t : TypeId} {v : Value} {d : DataW H} {ps : List MemPlace}, DataW.Trod enc Try.prog W 0 (fun _ => true) true t v d ps → ∀ x ∈ ps, x.block < W.heap.size := fun h => by
    obtain ⟨m, hm⟩ := h; exact DataW.trod_lt m _ _ _ hm
  obtain ⟨n0, e0, _, _, w0⟩ := open_int (k := .i64) Try.underlying3 (hval 0 3 v0 rfl rfl) h0
  obtain ⟨a, e1⟩ := open_rows (k0 := .u32) (ks := []) (n := 4) Try.underlying22 (by kernel_rfl) (hval 1 22 v1 rfl rfl) h1
  clear hA0 hval0 hsz0
  refine (walk W v0 v1 n0 a e0 e1).mono fun e W' ⟨he, bel⟩ => ?_
  subst he
  exact ⟨_, rfl, _, _, _, [], _, [], hW', trodAll_mk1 (shut_bool Try.underlying4 _),
    (trodAll_cons_mk (Below.trod laidOut (by kernel_rfl) (of_decide_eq_true (by kernel_rfl)) h0 bel (lt h0)) (trodAll_cons_mk (Below.trod laidOut (by kernel_rfl) (of_decide_eq_true (by kernel_rfl)) h1 bel (lt h1)) trodAll_mk0)), rfl, bel.frame _, fun h => by cases h⟩
theorem over : Rows.evictReachesRow.holds Try.pinned (OpenSpec.ofChange Rows.evictReachesSpec) :=
  OpenClaim.holds_of_wide 4 Try.f4 rfl rfl rfl rfl rfl rfl rfl ⟨rfl, rfl, rfl, rfl, rfl⟩ rfl rfl rfl rfl rfl (by kernel_rfl) Try.func4 (by kernel_rfl)
    (of_decide_eq_true (by kernel_rfl)) (by unfold Func.isWrapper; first | (rw [if_pos (by decide +kernel)]; kernel_rfl) | (rw [if_neg (by decide +kernel)]; exact ⟨rfl, rfl⟩))
    (fun os started H enc _ => lifted os started H enc)
theorem proved : Rows.EvictReachesSaid := over
#print axioms proved
end Go.Proofs.Ytnmgcibopkdijaa.evictReaches
namespace Go.Proofs.Ytnmgcibopkdijaa
theorem evictReaches_holds : Rows.EvictReachesSaid := evictReaches.proved
end Go.Proofs.Ytnmgcibopkdijaa
end
