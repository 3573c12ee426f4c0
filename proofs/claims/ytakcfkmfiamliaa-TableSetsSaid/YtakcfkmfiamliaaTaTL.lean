/- What the functions compute, and the law. No condition. -/
import Derived.Test.YtakcfkmfiamliaaTaTI
set_option linter.unusedSectionVars false
set_option linter.unusedVariables false
set_option linter.unusedSimpArgs false
section
namespace TableS
open Go Go.Dam Go.Proofs
set_option maxRecDepth 1000000
theorem mdL_r0 (n : Int) (xs : List Int) (i : Int) (j k : Nat) (ps nx : List Int) : roundX Try.prog (X2) 100000 (loopAt Try.prog 78 0) [.d true] [[0, 1, 4, 5, 6]] [(128, 128), (160, 160), (544, 9001), (672, 9002)] (mdT n xs i j k ps nx) = some (Ex.normal, (mdT (n) (xs) (opI .add .i64 i 1) (j + 1) (k + 1) (ps ++ [-1]) (nx ++ [-1])), [(k + 1) * 8 ≤ 17592186044416, k = nx.length, nx.length = nx.length, (j + 1) * 8 ≤ 17592186044416, j = ps.length, ps.length = ps.length, cmpI .lss i n = true]) := by kernel_rfl
theorem mdL_r1 (n : Int) (xs : List Int) (i : Int) (j k : Nat) (ps nx : List Int) : roundX Try.prog (X2) 100000 (loopAt Try.prog 78 0) [.d false] [[0, 1, 4, 5, 6]] [(128, 128), (160, 160), (9001, 9001), (9002, 9002)] (mdT n xs i j k ps nx) = some (Ex.exit 0, (mdT (n) (xs) (i) (j) (k) (ps) (nx)), [cmpI .lss i n = false]) := by kernel_rfl
theorem mdL_step (n : Int) (xs : List Int) (i : Int) (j : Nat) (k : Nat) (ps : List Int) (nx : List Int) (σ : St) (e : Ex)
 (h0 : ((cmpI .lss i n) = true) → (((k + 1) * 8 ≤ 17592186044416) ∧ (k = nx.length) ∧ (nx.length = nx.length) ∧ ((j + 1) * 8 ≤ 17592186044416) ∧ (j = ps.length) ∧ (ps.length = ps.length) ∧ True) ∧ Runs Try.prog (CallsD Try.prog) (.rounds (loopAt Try.prog 78 0)) (mdT (n) (xs) (opI .add .i64 i 1) (j + 1) (k + 1) (ps ++ [-1]) (nx ++ [-1])).abs e σ)
 (h1 : ((cmpI .lss i n) = false) → (True) ∧ (e = Ex.exit 0 ∧ σ = (mdT (n) (xs) (i) (j) (k) (ps) (nx)).abs)) : Runs Try.prog (CallsD Try.prog) (.rounds (loopAt Try.prog 78 0)) (mdT n xs i j k ps nx).abs e σ := by
 cases e0 : (cmpI .lss i n) with
 | true =>
  obtain ⟨⟨k0, k1, k2, k3, k4, k5, _⟩, kr⟩ := h0 e0
  exact rounds_on (hX2) (mdL_r0 n xs i j k ps nx) ⟨k0, k1, k2, k3, k4, k5, e0, trivial⟩ kr
 | false =>
  obtain ⟨_, kr⟩ := h1 e0
  exact rounds_end (hX2) (mdL_r1 n xs i j k ps nx) ⟨e0, trivial⟩ (by simp) kr
noncomputable def mdL2_T (xs : List Int) (i : Int) (j : Nat) (k : Nat) (h : Int) (t : Int) (ps : List Int) (nx : List Int) : Tr (Ex × Cs) := .d (cmpI .lss i ↑(xs.length)) (fun e0 => .d (cmpI .eql i 0) (fun e1 => .s (decide (i < ↑(xs.length)) = true) (.s (decide (0 ≤ i) = true) (.s (decide (i < ↑(xs.length)) = true) (.s (decide (0 ≤ i) = true) (.lf (Ex.normal, (mdT2 (xs) (opI .add .i64 i 1) (j) (k) (xs.getD i.toNat 0) (xs.getD i.toNat 0) (ps) (nx)))))))) (fun e1 => .s (decide (i < ↑(xs.length)) = true) (.s (decide (0 ≤ i) = true) (.s (decide (opI .sub .i64 i 1 < ↑(xs.length)) = true) (.s (decide (0 ≤ opI .sub .i64 i 1) = true) (.s (decide (xs.getD i.toNat 0 < ↑j) = true) (.s (decide (0 ≤ xs.getD i.toNat 0) = true) (.s (ps.length = ps.length) (.s ((xs.getD i.toNat 0).toNat < ps.length) (.s (decide (opI .sub .i64 i 1 < ↑(xs.length)) = true) (.s (decide (0 ≤ opI .sub .i64 i 1) = true) (.s (decide (i < ↑(xs.length)) = true) (.s (decide (0 ≤ i) = true) (.s (decide (xs.getD (opI .sub .i64 i 1).toNat 0 < ↑k) = true) (.s (decide (0 ≤ xs.getD (opI .sub .i64 i 1).toNat 0) = true) (.s (nx.length = nx.length) (.s ((xs.getD (opI .sub .i64 i 1).toNat 0).toNat < nx.length) (.s (decide (i < ↑(xs.length)) = true) (.s (decide (0 ≤ i) = true) (.lf (Ex.normal, (mdT2 (xs) (opI .add .i64 i 1) (j) (k) (h) (xs.getD i.toNat 0) (ps.set (xs.getD i.toNat 0).toNat (xs.getD (opI .sub .i64 i 1).toNat 0)) (nx.set (xs.getD (opI .sub .i64 i 1).toNat 0).toNat (xs.getD i.toNat 0)))))))))))))))))))))))) (fun e0 => .lf (Ex.exit 2, (mdT2 (xs) (i) (j) (k) (h) (t) (ps) (nx))))
theorem mdL2_L (xs : List Int) (i : Int) (j k : Nat) (h t : Int) (ps nx : List Int) : Leaves (roundT Try.prog (X2) 100000 (loopAt Try.prog 78 1) [[1, 4, 5, 7]] [(128, 128), (160, 160), (9001, 9001), (9002, 9002)] (mdT2 xs i j k h t ps nx)) (mdL2_T xs i j k h t ps nx) [] [] := by refine ⟨fun _ => ⟨fun _ => ?_, fun _ => ?_⟩, fun _ => ?_⟩ <;> (show _ = _; kernel_rfl)
theorem mdL2_step (xs : List Int) (i : Int) (j : Nat) (k : Nat) (h : Int) (t : Int) (ps : List Int) (nx : List Int) (σ : St) (e : Ex) (h0 : At (RG Try.prog (loopAt Try.prog 78 1) e σ) (mdL2_T xs i j k h t ps nx) [true, true] True) (h1 : At (RG Try.prog (loopAt Try.prog 78 1) e σ) (mdL2_T xs i j k h t ps nx) [true, false] True) (h2 : At (RG Try.prog (loopAt Try.prog 78 1) e σ) (mdL2_T xs i j k h t ps nx) [false] True) : Runs Try.prog (CallsD Try.prog) (.rounds (loopAt Try.prog 78 1)) (mdT2 xs i j k h t ps nx).abs e σ := tree_rounds (hX2) (mdL2_L xs i j k h t ps nx) ⟨fun e0 => ⟨fun e1 => h0 e0 e1, fun e1 => h1 e0 e1⟩, fun e0 => h2 e0⟩
noncomputable def mdF_T (n : Int) (xs : List Int) (i : Int) (i2 : Int) (j : Nat) (k : Nat) (h : Int) (t : Int) (ps : List Int) (nx : List Int) (ps2 : List Int) (nx2 : List Int) : Tr D := .p (.k [Cast.cnil 160 0 9001 1 [.ints .i64 []], Cast.cnil 160 1 9002 1 [.ints .i64 []]]) (.p (.l [[0, 1, 4, 5, 6]] [(128, 128), (160, 160), (9001, 9001), (9002, 9002)] (mdT n xs 0 0 0 [] []) (Ex.exit 0) (mdT n xs i j k ps nx)) (.p (.l [[1, 4, 5, 7]] [(128, 128), (160, 160), (9001, 9001), (9002, 9002)] (mdT2 xs 0 j k (-1) (-1) ps nx) (Ex.exit 2) (mdT2 xs i2 j k h t ps2 nx2)) (.s (Runs Try.prog (CallsD Try.prog) (.code (.loop (loopAt Try.prog 78 0))) (mdT n xs 0 0 0 [] []).abs (Ex.exit 0) (mdT n xs i j k ps nx).abs) (.k ((mdT n xs 0 0 0 [] [] = mdT n xs 0 0 0 [] [])) rfl (.s (Runs Try.prog (CallsD Try.prog) (.code (.loop (loopAt Try.prog 78 1))) (mdT2 xs 0 j k (-1) (-1) ps nx).abs (Ex.exit 2) (mdT2 xs i2 j k h t ps2 nx2).abs) (.k ((mdT2 xs 0 j k (-1) (-1) ps nx = mdT2 xs 0 j k (-1) (-1) ps nx)) rfl (.s (k = nx2.length) (.s (j = ps2.length) (.lf (D.agg [D.oc [.ints .i64 ps2], D.oc [.ints .i64 nx2], i64 h, i64 t]))))))))))
theorem mdF_L (n : Int) (xs : List Int) (i i2 : Int) (j k : Nat) (h t : Int) (ps nx ps2 nx2 : List Int) : Leaves (fun l => fnX Try.prog (X2) 100000 l 78 [i64 n, ri xs]) (mdF_T n xs i i2 j k h t ps nx ps2 nx2) [] [] := by show _ = _; kernel_rfl
theorem mdF_calls (n : Int) (xs : List Int) (i i2 : Int) (j k : Nat) (h t : Int) (ps nx ps2 nx2 : List Int) (res : D) (h0 : At (fun r => res = r) (mdF_T n xs i i2 j k h t ps nx ps2 nx2) [] True) : CallsD Try.prog 78 [i64 n, ri xs] res := tree_calls (hX2) (mdF_L n xs i i2 j k h t ps nx ps2 nx2) h0
/-- The two rows that a list makes, after so many of its places. -/
def mkP (n : Nat) (xs : List Int) : Nat → List Int
 | 0 => List.replicate n (-1)
 | i + 1 => if i = 0 then mkP n xs i else (mkP n xs i).set (xs.getD i 0).toNat (xs.getD (i - 1) 0)
def mkN (n : Nat) (xs : List Int) : Nat → List Int
 | 0 => List.replicate n (-1)
 | i + 1 => if i = 0 then mkN n xs i else (mkN n xs i).set (xs.getD (i - 1) 0).toNat (xs.getD i 0)
def mkH (xs : List Int) (i : Nat) : Int := if i = 0 then -1 else xs.getD 0 0
def mkT (xs : List Int) (i : Nat) : Int := if i = 0 then -1 else xs.getD (i - 1) 0
theorem mkP_len (n : Nat) (xs : List Int) : ∀ i, (mkP n xs i).length = n
 | 0 => by simp [mkP]
 | i + 1 => by simp only [mkP]; split <;> simp [mkP_len n xs i]
theorem mkN_len (n : Nat) (xs : List Int) : ∀ i, (mkN n xs i).length = n
 | 0 => by simp [mkN]
 | i + 1 => by simp only [mkN]; split <;> simp [mkN_len n xs i]
def mdS (n : Int) (xs : List Int) : Prop := 0 ≤ n ∧ n ≤ 200 ∧ xs.length ≤ 200 ∧ ∀ x ∈ xs, 0 ≤ x ∧ x < n
theorem md_ok (n : Int) (xs : List Int) (h : mdS n xs) : CallsD Try.prog 78 [i64 n, ri xs] (.agg [oi (mkP n.toNat xs xs.length), oi (mkN n.toNat xs xs.length), i64 (mkH xs xs.length), i64 (mkT xs xs.length)]) := by
 obtain ⟨h0, h1, h2, h3⟩ := h
 have hx : ∀ i, i < xs.length → 0 ≤ xs.getD i 0 ∧ xs.getD i 0 < n := fun i hi => by
  rw [List.getD_eq_getElem?_getD, List.getElem?_eq_getElem hi]
  exact h3 _ (List.getElem_mem hi)
 refine mdF_calls n xs n xs.length n.toNat n.toNat (mkH xs xs.length) (mkT xs xs.length) (mkP n.toNat xs 0) (mkN n.toNat xs 0) (mkP n.toNat xs xs.length) (mkN n.toNat xs xs.length) _ ⟨⟨(mkP_len _ _ _).symm, (mkN_len _ _ _).symm, loop_of_rounds ?_, loop_of_rounds ?_, trivial⟩, rfl⟩
 ·refine scan_all (fun i => mdT2 xs (i : Int) n.toNat n.toNat (mkH xs i) (mkT xs i) (mkP n.toNat xs i) (mkN n.toNat xs i)) xs.length (fun _ => True) (fun i hi _ σ e hr => ?_) ?_ xs.length 0 (by omega) (fun _ _ _ => trivial)
  ·obtain ⟨y0, y1⟩ := hx i hi
   refine mdL2_step xs i n.toNat n.toNat _ _ _ _ σ e ?_ ?_ ?_ <;> dsimp only [At, Tr.q, RG, mdL2_T]
   ·intro _ g
    rw [eql_t] at g
    obtain rfl : i = 0 := by omega
    rw [succL hi h2, Int.toNat_natCast]
    exact ⟨⟨(natLt hi).1, (natLt hi).2, (natLt hi).1, (natLt hi).2, trivial⟩, hr⟩
   ·intro _ g
    rw [eql_f] at g
    have hi0 : i ≠ 0 := by omega
    have hp : opI .sub .i64 (i : Int) 1 = ((i - 1 : Nat) : Int) := by
     rw [opI_sub, wrap_i64_of (by omega) (by omega)]; omega
    obtain ⟨z0, z1⟩ := hx (i - 1) (by omega)
    rw [succL hi h2, hp, Int.toNat_natCast, Int.toNat_natCast]
    have e1 : mkP n.toNat xs (i + 1) = (mkP n.toNat xs i).set (xs.getD i 0).toNat (xs.getD (i - 1) 0) := by simp only [mkP, if_neg hi0]
    have e2 : mkN n.toNat xs (i + 1) = (mkN n.toNat xs i).set (xs.getD (i - 1) 0).toNat (xs.getD i 0) := by simp only [mkN, if_neg hi0]
    have e3 : mkH xs (i + 1) = mkH xs i := by simp only [mkH, if_neg hi0]; rfl
    have e4 : mkT xs (i + 1) = xs.getD i 0 := by simp only [mkT]; rfl
    rw [e1, e2, e3, e4] at hr
    have n1 := natLt hi
    have n2 : decide (0 ≤ ((i - 1 : Nat) : Int)) = true ∧ decide (((i - 1 : Nat) : Int) < (xs.length : Int)) = true := natLt (by omega)
    have l1 := mkP_len n.toNat xs i
    have l2 := mkN_len n.toNat xs i
    refine ⟨⟨n1.1, n1.2, by omega, rfl, by simpa using z0, ?_, n1.1, n1.2, n2.1, n2.2, by omega, rfl, by simpa using y0, ?_, n2.1, n2.2, n1.1, n1.2, trivial⟩, hr⟩
    ·rw [decide_eq_true_eq]; omega
    ·rw [decide_eq_true_eq]; omega
   ·intro g; rw [lss_f] at g; omega
  ·refine mdL2_step xs xs.length n.toNat n.toNat _ _ _ _ _ _ ?_ ?_ ?_ <;> dsimp only [At, Tr.q, RG, mdL2_T]
   ·intro g; rw [lss_t] at g; omega
   ·intro g; rw [lss_t] at g; omega
   ·intro _; exact ⟨trivial, rfl, rfl⟩
 ·have hn : ((n.toNat : Nat) : Int) = n := by omega
  have key := scan_all (P := Try.prog) (F := CallsD Try.prog) (b := loopAt Try.prog 78 0) (fun i => mdT n xs (i : Int) i i (List.replicate i (-1)) (List.replicate i (-1))) n.toNat (fun _ => True) (fun i hi _ σ e hr => ?_) (σ := (mdT n xs n n.toNat n.toNat (mkP n.toNat xs 0) (mkN n.toNat xs 0)).abs) (e := .exit 0) ?_ n.toNat 0 (by omega) (fun _ _ _ => trivial)
  ·exact key
  ·refine mdL_step n xs i i i _ _ σ e ?_ ?_
   ·intro _
    rw [succL hi (by omega)]
    refine ⟨⟨by omega, by simp, rfl, by omega, by simp, rfl, trivial⟩, ?_⟩
    rw [← List.replicate_succ']; exact hr
   ·intro g; rw [lss_f] at g; omega
  ·rw [hn]
   refine mdL_step n xs n n.toNat n.toNat _ _ _ _ ?_ ?_
   ·intro g; rw [lss_t] at g; omega
   ·intro _; exact ⟨trivial, rfl, rfl⟩
def mdC : List D → Option (D × List Prop)
 | [.v (.int .i64 n), .rc [.ints .i64 xs]] => some ((.agg [oi (mkP n.toNat xs xs.length), oi (mkN n.toNat xs xs.length), i64 (mkH xs xs.length), i64 (mkT xs xs.length)]), [mdS n xs])
 | _ => none
theorem mdC_ok (args res l) (h : mdC args = some (res, l)) (hl : AllP l) : CallsD Try.prog 78 args res := by
 unfold mdC at h; split at h
 ·simp only [Option.some.injEq, Prod.mk.injEq] at h
  obtain ⟨rfl, rfl⟩ := h; obtain ⟨h0, _⟩ := hl
  exact md_ok _ _ h0
 ·cases h
end TableS
end

section
namespace TableS
open Go Go.Dam Go.Proofs
set_option maxRecDepth 1000000
noncomputable def lkL_T (xs : List Int) (ys : List Int) (zs : List Bool) (k : Int) (i : Int) (n : Int) : Tr (Ex × Cs) := .s (decide (i < ↑(xs.length)) = true) (.s (decide (0 ≤ i) = true) (.d (zs.getD i.toNat false) (fun e0 => .p (.c 5) (.s (decide (i < ↑(xs.length)) = true) (.s (decide (0 ≤ i) = true) (.d (cmpI .neq (xs.getD i.toNat 0) k) (fun e1 => .lf (Ex.normal, (lkT (xs) (ys) (zs) (k) (opI .and .i64 (opI .add .i64 i 1) 15) (opI .add .i64 n 1)))) (fun e1 => .lf (Ex.exit 0, (lkT (xs) (ys) (zs) (k) (i) (n)))))))) (fun e0 => .p (.c 6) (.lf (Ex.exit 0, (lkT (xs) (ys) (zs) (k) (i) (n)))))))
theorem lkL_L (xs ys : List Int) (zs : List Bool) (k i n : Int) : Leaves (roundT Try.prog (X1) 100000 (loopAt Try.prog 88 0) [[0, 1, 4, 5]] [] (lkT xs ys zs k i n)) (lkL_T xs ys zs k i n) [] [] := by refine ⟨fun _ => ⟨fun _ => ?_, fun _ => ?_⟩, fun _ => ?_⟩ <;> (show _ = _; kernel_rfl)
theorem lkL_step (xs : List Int) (ys : List Int) (zs : List Bool) (k : Int) (i : Int) (n : Int) (σ : St) (e : Ex) (h0 : At (RG Try.prog (loopAt Try.prog 88 0) e σ) (lkL_T xs ys zs k i n) [true, true] True) (h1 : At (RG Try.prog (loopAt Try.prog 88 0) e σ) (lkL_T xs ys zs k i n) [true, false] True) (h2 : At (RG Try.prog (loopAt Try.prog 88 0) e σ) (lkL_T xs ys zs k i n) [false] True) : Runs Try.prog (CallsD Try.prog) (.rounds (loopAt Try.prog 88 0)) (lkT xs ys zs k i n).abs e σ := tree_rounds (hX1) (lkL_L xs ys zs k i n) ⟨fun e0 => ⟨fun e1 => h0 e0 e1, fun e1 => h1 e0 e1⟩, fun e0 => h2 e0⟩
noncomputable def lkF_c0 (k : Int) := opI .shr .u32 (opI .mul .u32 k 2654435769) 28
noncomputable def lkF_T (xs : List Int) (ys : List Int) (zs : List Bool) (k : Int) (i : Int) (n : Int) : Tr D := .p (.l [[0, 1, 4, 5]] [] (lkT xs ys zs k (IntKind.i64.wrap (lkF_c0 k)) 0) (Ex.exit 0) (lkT xs ys zs k i n)) (.q (true) (.s (Runs Try.prog (CallsD Try.prog) (.code (.loop (loopAt Try.prog 88 0))) (lkT xs ys zs k (IntKind.i64.wrap (lkF_c0 k)) 0).abs (Ex.exit 0) (lkT xs ys zs k i n).abs) (.k ((lkT xs ys zs k (IntKind.i64.wrap (lkF_c0 k)) 0 = lkT xs ys zs k (IntKind.i64.wrap (lkF_c0 k)) 0)) rfl (.lf (D.tup [i64 i, i64 (opI .add .i64 n 1)])))))
theorem lkF_L (xs ys : List Int) (zs : List Bool) (k i n : Int) : Leaves (fun l => fnX Try.prog (X1) 100000 l 88 [cc xs ys zs, u32 k]) (lkF_T xs ys zs k i n) [] [] := by show _ = _; kernel_rfl
theorem lkF_calls (xs ys : List Int) (zs : List Bool) (k i n : Int) (res : D) (h0 : At (fun r => res = r) (lkF_T xs ys zs k i n) [] True) : CallsD Try.prog 88 [cc xs ys zs, u32 k] res := tree_calls (hX1) (lkF_L xs ys zs k i n) h0
/-- Where a key is looked for: the place, and how many steps it took. -/
def lkW (xs : List Int) (zs : List Bool) (k : Int) : Nat → Nat → Nat → Nat × Nat
 | 0, i, n => (i, n)
 | d + 1, i, n => if zs.getD i false = true ∧ xs.getD i 0 ≠ k then lkW xs zs k d ((i + 1) % 16) (n + 1) else (i, n)
theorem lkW_lt {xs : List Int} {zs : List Bool} {k : Int} : ∀ (d i n : Nat), i < 16 → (lkW xs zs k d i n).1 < 16 ∧ (lkW xs zs k d i n).2 ≤ n + d
 | 0, i, n, h => ⟨h, Nat.le_refl _⟩
 | d + 1, i, n, h => by
  simp only [lkW]
  split
  ·have := lkW_lt (xs := xs) (zs := zs) (k := k) d ((i + 1) % 16) (n + 1) (by omega)
   exact ⟨this.1, by omega⟩
  ·exact ⟨h, by show n ≤ _; omega⟩
theorem lk_run (xs ys : List Int) (zs : List Bool) (k : Int) (hx : xs.length = 16) : ∀ (D d i n : Nat), d ≤ D → i < 16 → n + D ≤ 100 → zs.getD ((i + d) % 16) false = false →
  Runs Try.prog (CallsD Try.prog) (.rounds (loopAt Try.prog 88 0)) (lkT xs ys zs k i n).abs (.exit 0) (lkT xs ys zs k (lkW xs zs k D i n).1 (lkW xs zs k D i n).2).abs := by
 intro D
 induction D with
 | zero =>
  intro d i n hd hi hn hz
  obtain rfl : d = 0 := by omega
  rw [Nat.add_zero, Nat.mod_eq_of_lt hi] at hz
  have b := natLt (n := xs.length) (i := i) (by omega)
  refine lkL_step xs ys zs k i n _ _ ?_ ?_ ?_ <;> dsimp only [At, Tr.q, RG, lkL_T]
  ·intro g; rw [Int.toNat_natCast, hz] at g; cases g
  ·intro g; rw [Int.toNat_natCast, hz] at g; cases g
  ·intro _; exact ⟨⟨b.1, b.2, trivial⟩, rfl, rfl⟩
 | succ D ih =>
  intro d i n hd hi hn hz
  have b := natLt (n := xs.length) (i := i) (by omega)
  by_cases c : zs.getD i false = true ∧ xs.getD i 0 ≠ k
  ·have hd0 : d ≠ 0 := fun e => by
    subst e
    rw [Nat.add_zero, Nat.mod_eq_of_lt hi, c.1] at hz; cases hz
   have r := ih (d - 1) ((i + 1) % 16) (n + 1) (by omega) (by omega) (by omega) (by rw [← hz]; congr 1; omega)
   have e1 : opI .and .i64 (opI .add .i64 (i : Int) 1) 15 = (((i + 1) % 16 : Nat) : Int) := by
    rw [opI_add, wrap_i64_of (by omega) (by omega), and15 (by omega) (by omega)]; omega
   have e2 : opI .add .i64 (n : Int) 1 = ((n + 1 : Nat) : Int) := by
    rw [opI_add, wrap_i64_of (by omega) (by omega)]; omega
   simp only [lkW, if_pos c]
   refine lkL_step xs ys zs k i n _ _ ?_ ?_ ?_ <;> dsimp only [At, Tr.q, RG, lkL_T]
   ·intro _ _; rw [e1, e2]; exact ⟨⟨b.1, b.2, b.1, b.2, trivial⟩, r⟩
   ·intro _ g; rw [Int.toNat_natCast, neq_f] at g; exact absurd g c.2
   ·intro g; rw [Int.toNat_natCast, c.1] at g; cases g
  ·simp only [lkW, if_neg c]
   refine lkL_step xs ys zs k i n _ _ ?_ ?_ ?_ <;> dsimp only [At, Tr.q, RG, lkL_T]
   ·intro g1 g2; rw [Int.toNat_natCast] at g1; rw [Int.toNat_natCast, neq_t] at g2; exact absurd ⟨g1, g2⟩ c
   ·intro _ _; exact ⟨⟨b.1, b.2, b.1, b.2, trivial⟩, rfl, rfl⟩
   ·intro _; exact ⟨⟨b.1, b.2, trivial⟩, rfl, rfl⟩
/-- An index whose key can be looked for. -/
def lkS (xs : List Int) (zs : List Bool) (k : Int) : Prop := xs.length = 16 ∧ inU k ∧ ∃ j, j < 16 ∧ zs.getD j false = false
def lkI (xs : List Int) (zs : List Bool) (k : Int) : Nat := (lkW xs zs k 16 (homeN k).toNat 0).1
def lkC (xs : List Int) (zs : List Bool) (k : Int) : Nat := (lkW xs zs k 16 (homeN k).toNat 0).2 + 1
theorem lk_ok (xs ys : List Int) (zs : List Bool) (k : Int) (h : lkS xs zs k) : CallsD Try.prog 88 [cc xs ys zs, u32 k] (.tup [i64 (lkI xs zs k), i64 (lkC xs zs k)]) := by
 obtain ⟨hx, hk, j, hj, hz⟩ := h
 have hh := homeN_lt hk
 have r := lk_run xs ys zs k hx 16 ((j + 16 - (homeN k).toNat) % 16) (homeN k).toNat 0 (by omega) (by omega) (by omega) (by rw [← hz]; congr 1; omega)
 have hw := lkW_lt (xs := xs) (zs := zs) (k := k) 16 (homeN k).toNat 0 (by omega)
 refine lkF_calls xs ys zs k (lkI xs zs k) (lkW xs zs k 16 (homeN k).toNat 0).2 _ ⟨⟨?_, trivial⟩, ?_⟩
 ·unfold lkF_c0; rw [home_eq hk]
  have e : homeN k = (((homeN k).toNat : Nat) : Int) := by omega
  have r' := loop_of_rounds r
  rw [← e] at r'
  exact r'
 ·rw [opI_add, wrap_i64_of (by omega) (by omega)]
  simp only [lkC, Int.natCast_add]; rfl
def lkC0 : List D → Option (D × List Prop)
 | [.rc [.ints .u32 xs, .ints .i64 ys, .bools zs], .v (.int .u32 k)] => some ((.tup [i64 (lkI xs zs k), i64 (lkC xs zs k)]), [lkS xs zs k])
 | _ => none
theorem lkC0_ok (args res l) (h : lkC0 args = some (res, l)) (hl : AllP l) : CallsD Try.prog 88 args res := by
 unfold lkC0 at h; split at h
 ·simp only [Option.some.injEq, Prod.mk.injEq] at h
  obtain ⟨rfl, rfl⟩ := h; obtain ⟨h0, _⟩ := hl
  exact lk_ok _ _ _ _ h0
 ·cases h
def X4 : Contracts := addCon 88 (.call lkC0) (addCon 78 (.call mdC) X3)
theorem hX4 : ConOK Try.prog X4 := addCall_ok lkC0_ok (addCall_ok mdC_ok hX3)
end TableS
end

section
namespace TableS
open Go Go.Dam Go.Proofs
set_option maxRecDepth 1000000
noncomputable def akL_T (r : Int) (n : Int) (i : Int) (k : Nat) (xs : List Int) (us : List Bool) (f : Int) (ys : List Bool) : Tr (Ex × Cs) := .d (cmpI .neq i (-1)) (fun e0 => .d (cmpI .lss i 0) (fun e1 => .p (.c 6) (.lf (Ex.ret, (akT (8) (n) (i) (k) (xs) (us) (f) (ys))))) (fun e1 => .p (.c 1) (.d (cmpI .geq i n) (fun e2 => .p (.c 3) (.lf (Ex.ret, (akT (8) (n) (i) (k) (xs) (us) (f) (ys))))) (fun e2 => .p (.c 2) (.s (decide (i < ↑k) = true) (.s (decide (0 ≤ i) = true) (.s (i.toNat < ys.length) (.d (ys.getD i.toNat false) (fun e3 => .lf (Ex.ret, (akT (8) (n) (i) (k) (xs) (us) (f) (ys)))) (fun e3 => .s (decide (i < ↑k) = true) (.s (decide (0 ≤ i) = true) (.s (ys.length = ys.length) (.s (i.toNat < ys.length) (.s (decide (i < ↑(xs.length)) = true) (.s (decide (0 ≤ i) = true) (.lf (Ex.normal, (akT (r) (n) (xs.getD i.toNat 0) (k) (xs) (us) (f) (ys.set i.toNat true)))))))))))))))))) (fun e0 => .lf (Ex.exit 0, (akT (r) (n) (i) (k) (xs) (us) (f) (ys))))
theorem akL_L (r n i : Int) (k : Nat) (xs : List Int) (us : List Bool) (f : Int) (ys : List Bool) : Leaves (roundT Try.prog (X1) 100000 (loopAt Try.prog 61 0) [[1, 2, 3, 4, 5]] [(32, 32), (832, 832)] (akT r n i k xs us f ys)) (akL_T r n i k xs us f ys) [] [] := by refine ⟨fun _ => ⟨fun _ => ?_, fun _ => ⟨fun _ => ?_, fun _ => ⟨fun _ => ?_, fun _ => ?_⟩⟩⟩, fun _ => ?_⟩ <;> (show _ = _; kernel_rfl)
theorem akL_step (r : Int) (n : Int) (i : Int) (k : Nat) (xs : List Int) (us : List Bool) (f : Int) (ys : List Bool) (σ : St) (e : Ex) (h0 : At (RG Try.prog (loopAt Try.prog 61 0) e σ) (akL_T r n i k xs us f ys) [true, true] True) (h1 : At (RG Try.prog (loopAt Try.prog 61 0) e σ) (akL_T r n i k xs us f ys) [true, false, true] True) (h2 : At (RG Try.prog (loopAt Try.prog 61 0) e σ) (akL_T r n i k xs us f ys) [true, false, false, true] True) (h3 : At (RG Try.prog (loopAt Try.prog 61 0) e σ) (akL_T r n i k xs us f ys) [true, false, false, false] True) (h4 : At (RG Try.prog (loopAt Try.prog 61 0) e σ) (akL_T r n i k xs us f ys) [false] True) : Runs Try.prog (CallsD Try.prog) (.rounds (loopAt Try.prog 61 0)) (akT r n i k xs us f ys).abs e σ := tree_rounds (hX1) (akL_L r n i k xs us f ys) ⟨fun e0 => ⟨fun e1 => h0 e0 e1, fun e1 => ⟨fun e2 => h1 e0 e1 e2, fun e2 => ⟨fun e3 => h2 e0 e1 e2 e3, fun e3 => h3 e0 e1 e2 e3⟩⟩⟩, fun e0 => h4 e0⟩
noncomputable def akL2_c0 (r : Int) (k : Nat) (us0 : List Bool) (m i : Int) (xs : List Int) (us : List Bool) (f : Int) (ys : List Bool) := akT2 (r) (k) (us0) (m) (opI .add .i64 i 1) (xs) (us) (f) (ys)
noncomputable def akL2_T (r : Int) (k : Nat) (us0 : List Bool) (m : Int) (i : Int) (xs : List Int) (us : List Bool) (f : Int) (ys : List Bool) : Tr (Ex × Cs) := .d (cmpI .lss i m) (fun e0 => .s (decide (i < ↑(us0.length)) = true) (.s (decide (0 ≤ i) = true) (.s (decide (i < ↑k) = true) (.s (decide (0 ≤ i) = true) (.s (i.toNat < ys.length) (.d (!ys.getD i.toNat false) (fun e1 => .p (.c 2) (.lf (Ex.ret, (akT2 (8) (k) (us0) (m) (i) (xs) (us) (f) (ys))))) (fun e1 => .p (.c 0) (.d (us0.getD i.toNat false) (fun e2 => .p (.c 5) (.s (decide (i < ↑(xs.length)) = true) (.s (decide (0 ≤ i) = true) (.d (cmpI .neq (xs.getD i.toNat 0) (-1)) (fun e3 => .lf (Ex.ret, (akT2 (8) (k) (us0) (m) (i) (xs) (us) (f) (ys)))) (fun e3 => .lf (Ex.normal, (akL2_c0 r k us0 m i xs us f ys))))))) (fun e2 => .p (.c 6) (.lf (Ex.normal, (akL2_c0 r k us0 m i xs us f ys)))))))))))) (fun e0 => .lf (Ex.exit 2, (akT2 (r) (k) (us0) (m) (i) (xs) (us) (f) (ys))))
theorem akL2_L (r : Int) (k : Nat) (us0 : List Bool) (m i : Int) (xs : List Int) (us : List Bool) (f : Int) (ys : List Bool) : Leaves (roundT Try.prog (X2) 100000 (loopAt Try.prog 61 1) [[1, 2, 4, 53, 54, 55]] [(32, 32), (832, 832)] (akT2 r k us0 m i xs us f ys)) (akL2_T r k us0 m i xs us f ys) [] [] := by refine ⟨fun _ => ⟨fun _ => ?_, fun _ => ⟨fun _ => ⟨fun _ => ?_, fun _ => ?_⟩, fun _ => ?_⟩⟩, fun _ => ?_⟩ <;> (show _ = _; kernel_rfl)
theorem akL2_step (r : Int) (k : Nat) (us0 : List Bool) (m : Int) (i : Int) (xs : List Int) (us : List Bool) (f : Int) (ys : List Bool) (σ : St) (e : Ex) (h0 : At (RG Try.prog (loopAt Try.prog 61 1) e σ) (akL2_T r k us0 m i xs us f ys) [true, true] True) (h1 : At (RG Try.prog (loopAt Try.prog 61 1) e σ) (akL2_T r k us0 m i xs us f ys) [true, false, true, true] True) (h2 : At (RG Try.prog (loopAt Try.prog 61 1) e σ) (akL2_T r k us0 m i xs us f ys) [true, false, true, false] True) (h3 : At (RG Try.prog (loopAt Try.prog 61 1) e σ) (akL2_T r k us0 m i xs us f ys) [true, false, false] True) (h4 : At (RG Try.prog (loopAt Try.prog 61 1) e σ) (akL2_T r k us0 m i xs us f ys) [false] True) : Runs Try.prog (CallsD Try.prog) (.rounds (loopAt Try.prog 61 1)) (akT2 r k us0 m i xs us f ys).abs e σ := tree_rounds (hX2) (akL2_L r k us0 m i xs us f ys) ⟨fun e0 => ⟨fun e1 => h0 e0 e1, fun e1 => ⟨fun e2 => ⟨fun e3 => h1 e0 e1 e2 e3, fun e3 => h2 e0 e1 e2 e3⟩, fun e2 => h3 e0 e1 e2⟩⟩, fun e0 => h4 e0⟩
noncomputable def akF_T (r : Int) (k : Nat) (us0 : List Bool) (m : Int) (i : Int) (xs : List Int) (us : List Bool) (f : Int) (ys : List Bool) : Tr D := .d (cmpI .lss (↑(xs.length)) 1) (fun e0 => .p (.c 6) (.lf (i64 8))) (fun e0 => .p (.c 0) (.d (cmpI .gtr (↑(xs.length)) 16) (fun e1 => .p (.c 4) (.lf (i64 8))) (fun e1 => .p (.c 3) (.d (cmpI .neq ↑(us.length) ↑(xs.length)) (fun e2 => .lf (i64 8)) (fun e2 => .p (.l [[1, 2, 3, 4, 5]] [(32, 32), (832, 832)] (akT 0 (↑(xs.length)) f us.length xs us f us) (Ex.exit 0) (akT 0 (↑(xs.length)) (-1) k xs us f ys)) (.p (.l [[1, 2, 4, 53, 54, 55]] [(32, 32), (832, 832)] (akT2 0 k us (↑(us.length)) 0 xs us f ys) (Ex.exit 2) (akT2 0 k us0 m i xs us f ys)) (.s (us.length ≤ 200) (.s (Runs Try.prog (CallsD Try.prog) (.code (.loop (loopAt Try.prog 61 0))) (akT 0 (↑(xs.length)) f us.length xs us f us).abs (Ex.exit 0) (akT 0 (↑(xs.length)) (-1) k xs us f ys).abs) (.k ((akT 0 (↑(xs.length)) f us.length xs us f us = akT 0 (↑(xs.length)) f us.length xs us f us)) rfl (.s (Runs Try.prog (CallsD Try.prog) (.code (.loop (loopAt Try.prog 61 1))) (akT2 0 k us (↑(us.length)) 0 xs us f ys).abs (Ex.exit 2) (akT2 0 k us0 m i xs us f ys).abs) (.k ((akT2 0 k us (↑(us.length)) 0 xs us f ys = akT2 0 k us (↑(us.length)) 0 xs us f ys)) rfl (.lf (i64 0)))))))))))))
theorem akF_L (r : Int) (k : Nat) (us0 : List Bool) (m i : Int) (xs : List Int) (us : List Bool) (f : Int) (ys : List Bool) : Leaves (fun l => fnX Try.prog (X2) 100000 l 61 [D.agg [ri xs, rb us, i64 f]]) (akF_T r k us0 m i xs us f ys) [] [] := by refine ⟨fun _ => ?_, fun _ => ⟨fun _ => ?_, fun _ => ⟨fun _ => ?_, fun _ => ?_⟩⟩⟩ <;> (show _ = _; kernel_rfl)
theorem akF_calls (r : Int) (k : Nat) (us0 : List Bool) (m i : Int) (xs : List Int) (us : List Bool) (f : Int) (ys : List Bool) (res : D) (h0 : At (fun r => res = r) (akF_T r k us0 m i xs us f ys) [true] True) (h1 : At (fun r => res = r) (akF_T r k us0 m i xs us f ys) [false, true] True) (h2 : At (fun r => res = r) (akF_T r k us0 m i xs us f ys) [false, false, true] True) (h3 : At (fun r => res = r) (akF_T r k us0 m i xs us f ys) [false, false, false] True) : CallsD Try.prog 61 [D.agg [ri xs, rb us, i64 f]] res := tree_calls (hX2) (akF_L r k us0 m i xs us f ys) ⟨fun e0 => h0 e0, fun e0 => ⟨fun e1 => h1 e0 e1, fun e1 => ⟨fun e2 => h2 e0 e1 e2, fun e2 => h3 e0 e1 e2⟩⟩⟩
noncomputable def akR_T (r : Int) (n : Int) (i : Int) (k : Nat) (xs : List Int) (us : List Bool) (f : Int) (ys : List Bool) : Tr D := .d (cmpI .lss (↑(xs.length)) 1) (fun e0 => .p (.c 6) (.lf (i64 8))) (fun e0 => .p (.c 0) (.d (cmpI .gtr (↑(xs.length)) 16) (fun e1 => .p (.c 4) (.lf (i64 8))) (fun e1 => .p (.c 3) (.d (cmpI .neq ↑(us.length) ↑(xs.length)) (fun e2 => .lf (i64 8)) (fun e2 => .p (.l [[1, 2, 3, 4, 5]] [(32, 32), (832, 832)] (akT 0 (↑(xs.length)) f us.length xs us f us) Ex.ret (akT r n i k xs us f ys)) (.s (us.length ≤ 200) (.s (Runs Try.prog (CallsD Try.prog) (.code (.loop (loopAt Try.prog 61 0))) (akT 0 (↑(xs.length)) f us.length xs us f us).abs (Ex.ret) (akT r n i k xs us f ys).abs) (.k ((akT 0 (↑(xs.length)) f us.length xs us f us = akT 0 (↑(xs.length)) f us.length xs us f us)) rfl (.lf (i64 r))))))))))
theorem akR_L (r n i : Int) (k : Nat) (xs : List Int) (us : List Bool) (f : Int) (ys : List Bool) : Leaves (fun l => fnX Try.prog (X2) 100000 l 61 [D.agg [ri xs, rb us, i64 f]]) (akR_T r n i k xs us f ys) [] [] := by refine ⟨fun _ => ?_, fun _ => ⟨fun _ => ?_, fun _ => ⟨fun _ => ?_, fun _ => ?_⟩⟩⟩ <;> (show _ = _; kernel_rfl)
theorem akR_calls (r n i : Int) (k : Nat) (xs : List Int) (us : List Bool) (f : Int) (ys : List Bool) (res : D) (h0 : At (fun r => res = r) (akR_T r n i k xs us f ys) [true] True) (h1 : At (fun r => res = r) (akR_T r n i k xs us f ys) [false, true] True) (h2 : At (fun r => res = r) (akR_T r n i k xs us f ys) [false, false, true] True) (h3 : At (fun r => res = r) (akR_T r n i k xs us f ys) [false, false, false] True) : CallsD Try.prog 61 [D.agg [ri xs, rb us, i64 f]] res := tree_calls (hX2) (akR_L r n i k xs us f ys) ⟨fun e0 => h0 e0, fun e0 => ⟨fun e1 => h1 e0 e1, fun e1 => ⟨fun e2 => h2 e0 e1 e2, fun e2 => h3 e0 e1 e2⟩⟩⟩
noncomputable def akR2_T (r : Int) (k : Nat) (us0 : List Bool) (m : Int) (i : Int) (xs : List Int) (us : List Bool) (f : Int) (ys : List Bool) : Tr D := .d (cmpI .lss (↑(xs.length)) 1) (fun e0 => .p (.c 6) (.lf (i64 8))) (fun e0 => .p (.c 0) (.d (cmpI .gtr (↑(xs.length)) 16) (fun e1 => .p (.c 4) (.lf (i64 8))) (fun e1 => .p (.c 3) (.d (cmpI .neq ↑(us.length) ↑(xs.length)) (fun e2 => .lf (i64 8)) (fun e2 => .p (.l [[1, 2, 3, 4, 5]] [(32, 32), (832, 832)] (akT 0 (↑(xs.length)) f us.length xs us f us) (Ex.exit 0) (akT 0 (↑(xs.length)) (-1) k xs us f ys)) (.p (.l [[1, 2, 4, 53, 54, 55]] [(32, 32), (832, 832)] (akT2 0 k us (↑(us.length)) 0 xs us f ys) Ex.ret (akT2 r k us0 m i xs us f ys)) (.s (us.length ≤ 200) (.s (Runs Try.prog (CallsD Try.prog) (.code (.loop (loopAt Try.prog 61 0))) (akT 0 (↑(xs.length)) f us.length xs us f us).abs (Ex.exit 0) (akT 0 (↑(xs.length)) (-1) k xs us f ys).abs) (.k ((akT 0 (↑(xs.length)) f us.length xs us f us = akT 0 (↑(xs.length)) f us.length xs us f us)) rfl (.s (Runs Try.prog (CallsD Try.prog) (.code (.loop (loopAt Try.prog 61 1))) (akT2 0 k us (↑(us.length)) 0 xs us f ys).abs (Ex.ret) (akT2 r k us0 m i xs us f ys).abs) (.k ((akT2 0 k us (↑(us.length)) 0 xs us f ys = akT2 0 k us (↑(us.length)) 0 xs us f ys)) rfl (.lf (i64 r)))))))))))))
theorem akR2_L (r : Int) (k : Nat) (us0 : List Bool) (m i : Int) (xs : List Int) (us : List Bool) (f : Int) (ys : List Bool) : Leaves (fun l => fnX Try.prog (X2) 100000 l 61 [D.agg [ri xs, rb us, i64 f]]) (akR2_T r k us0 m i xs us f ys) [] [] := by refine ⟨fun _ => ?_, fun _ => ⟨fun _ => ?_, fun _ => ⟨fun _ => ?_, fun _ => ?_⟩⟩⟩ <;> (show _ = _; kernel_rfl)
theorem akR2_calls (r : Int) (k : Nat) (us0 : List Bool) (m i : Int) (xs : List Int) (us : List Bool) (f : Int) (ys : List Bool) (res : D) (h0 : At (fun r => res = r) (akR2_T r k us0 m i xs us f ys) [true] True) (h1 : At (fun r => res = r) (akR2_T r k us0 m i xs us f ys) [false, true] True) (h2 : At (fun r => res = r) (akR2_T r k us0 m i xs us f ys) [false, false, true] True) (h3 : At (fun r => res = r) (akR2_T r k us0 m i xs us f ys) [false, false, false] True) : CallsD Try.prog 61 [D.agg [ri xs, rb us, i64 f]] res := tree_calls (hX2) (akR2_L r k us0 m i xs us f ys) ⟨fun e0 => h0 e0, fun e0 => ⟨fun e1 => h1 e0 e1, fun e1 => ⟨fun e2 => h2 e0 e1 e2, fun e2 => h3 e0 e1 e2⟩⟩⟩
/-- How many places have not been seen. -/
def unseen : List Bool → Nat
 | [] => 0
 | b :: l => (bif b then 0 else 1) + unseen l
theorem unseen_set : ∀ (ys : List Bool) (i : Nat), i < ys.length → ys.getD i false = false → unseen (ys.set i true) + 1 = unseen ys
 | [], i, h, _ => by simp at h
 | b :: l, 0, _, hb => by
  simp at hb; subst hb
  simp [unseen]; omega
 | b :: l, i + 1, h, hb => by
  have := unseen_set l i (by simpa using h) (by simpa using hb)
  simp only [List.set_cons_succ, unseen]; omega
theorem unseen_le : ∀ ys : List Bool, unseen ys ≤ ys.length
 | [] => Nat.le_refl _
 | b :: l => by have := unseen_le l; cases b <;> simp [unseen] <;> omega
/-- What is seen on the way from a place: it leads out, or comes to a place that was seen: none. -/
def walkA (nx : List Int) : Nat → Int → List Bool → Option (List Bool)
 | 0, _, _ => none
 | d + 1, i, ys => if i = -1 then some ys else if i < 0 ∨ (nx.length : Int) ≤ i ∨ ys.getD i.toNat false = true then none else walkA nx d (nx.getD i.toNat 0) (ys.set i.toNat true)
theorem walkA_len {nx : List Int} : ∀ {d : Nat} {i : Int} {ys ys' : List Bool}, walkA nx d i ys = some ys' → ys'.length = ys.length
 | 0, _, _, _, h => by cases h
 | d + 1, i, ys, ys', h => by
  simp only [walkA] at h
  split at h
  ·simp only [Option.some.injEq] at h; subst h; rfl
  ·split at h
   ·cases h
   ·have := walkA_len h; simpa using this
theorem ak_run (xs : List Int) (us : List Bool) (f : Int) : ∀ (d : Nat) (i : Int) (ys : List Bool), ys.length = xs.length → unseen ys < d →
  match walkA xs d i ys with
  | some ys' => Runs Try.prog (CallsD Try.prog) (.rounds (loopAt Try.prog 61 0)) (akT 0 xs.length i xs.length xs us f ys).abs (.exit 0) (akT 0 xs.length (-1) xs.length xs us f ys').abs
  | none => ∃ (i' : Int) (ys' : List Bool), Runs Try.prog (CallsD Try.prog) (.rounds (loopAt Try.prog 61 0)) (akT 0 xs.length i xs.length xs us f ys).abs .ret (akT 8 xs.length i' xs.length xs us f ys').abs := by
 intro d
 induction d with
 | zero => intro i ys _ h; omega
 | succ d ih =>
  intro i ys hl hd
  simp only [walkA]
  by_cases c1 : i = -1
  ·subst c1
   simp only [if_true]
   refine akL_step 0 xs.length (-1) xs.length xs us f ys _ _ ?_ ?_ ?_ ?_ ?_ <;> dsimp only [At, Tr.q, RG, akL_T]
   ·intro g; rw [neq_t] at g; exact absurd rfl g
   ·intro g; rw [neq_t] at g; exact absurd rfl g
   ·intro g; rw [neq_t] at g; exact absurd rfl g
   ·intro g; rw [neq_t] at g; exact absurd rfl g
   ·intro _; exact ⟨trivial, rfl, rfl⟩
  ·rw [if_neg c1]
   by_cases c2 : i < 0 ∨ (xs.length : Int) ≤ i ∨ ys.getD i.toNat false = true
   ·rw [if_pos c2]
    refine ⟨i, ys, akL_step 0 xs.length i xs.length xs us f ys _ _ ?_ ?_ ?_ ?_ ?_⟩
    ·intro _ _; exact ⟨trivial, rfl, rfl⟩
    ·intro _ _ _; exact ⟨trivial, rfl, rfl⟩
    ·intro _ g1 g2 _
     rw [lss_f] at g1; rw [geq_f] at g2
     exact ⟨⟨by omega, by simpa using g1, by simpa using g2, trivial⟩, rfl, rfl⟩
    ·intro _ g1 g2 g3
     rw [lss_f] at g1; rw [geq_f] at g2
     rcases c2 with c | c | c
     ·omega
     ·omega
     ·rw [c] at g3; cases g3
    ·intro g; rw [neq_f] at g; exact absurd g c1
   ·rw [if_neg c2]
    have hi0 : 0 ≤ i := by omega
    have hi1 : i < (xs.length : Int) := by omega
    have hi2 : ys.getD i.toNat false = false := by
     cases e : ys.getD i.toNat false with
     | false => rfl
     | true => exact absurd (.inr (.inr e)) c2
    have hu := unseen_set ys i.toNat (by omega) hi2
    have r := ih (xs.getD i.toNat 0) (ys.set i.toNat true) (by simpa using hl) (by omega)
    have d0 : decide (0 ≤ i) = true := by simpa using hi0
    have d1 : decide (i < (xs.length : Int)) = true := by simpa using hi1
    have step : ∀ (σ : St) (e : Ex), Runs Try.prog (CallsD Try.prog) (.rounds (loopAt Try.prog 61 0)) (akT 0 xs.length (xs.getD i.toNat 0) xs.length xs us f (ys.set i.toNat true)).abs e σ → Runs Try.prog (CallsD Try.prog) (.rounds (loopAt Try.prog 61 0)) (akT 0 xs.length i xs.length xs us f ys).abs e σ := by
     intro σ e hr
     refine akL_step 0 xs.length i xs.length xs us f ys σ e ?_ ?_ ?_ ?_ ?_ <;> dsimp only [At, Tr.q, RG, akL_T]
     ·intro _ g; rw [lss_t] at g; omega
     ·intro _ _ g; rw [geq_t] at g; omega
     ·intro _ _ _ g; rw [hi2] at g; cases g
     ·intro _ _ _ _
      exact ⟨⟨d0, d1, by omega, rfl, d0, d1, by omega, d0, d1, trivial⟩, hr⟩
     ·intro g; rw [neq_f] at g; exact absurd g c1
    cases hw : walkA xs d (xs.getD i.toNat 0) (ys.set i.toNat true) with
    | some ys' => rw [hw] at r; exact step _ _ r
    | none =>
     rw [hw] at r
     obtain ⟨i', ys', r⟩ := r
     exact ⟨i', ys', step _ _ r⟩
/-- Is an arena right, by the code? -/
def akBad (nx : List Int) (us ys : List Bool) (i : Nat) : Bool := !ys.getD i false || (us.getD i false && nx.getD i 0 != -1)
def akV (nx : List Int) (us : List Bool) (f : Int) : Int :=
 if 1 ≤ nx.length ∧ nx.length ≤ 16 ∧ us.length = nx.length then match walkA nx (nx.length + 1) f us with
  | some ys => if findI (akBad nx us ys) nx.length 0 < 0 then 0 else 8
  | none => 8
 else 8
theorem ak_ok (xs : List Int) (us : List Bool) (f : Int) (h : us.length ≤ 200) : CallsD Try.prog 61 [.agg [ri xs, rb us, i64 f]] (i64 (akV xs us f)) := by
 unfold akV
 by_cases c : 1 ≤ xs.length ∧ xs.length ≤ 16 ∧ us.length = xs.length
 ·rw [if_pos c]
  obtain ⟨c1, c2, c3⟩ := c
  have r := ak_run xs us f (xs.length + 1) f us c3 (by have := unseen_le us; omega)
  cases hw : walkA xs (xs.length + 1) f us with
  | none =>
   rw [hw] at r
   obtain ⟨i', ys', r⟩ := r
   refine akR_calls 8 xs.length i' xs.length xs us f ys' _ ?_ ?_ ?_ ?_ <;> dsimp only [At, Tr.q, akR_T]
   ·intro g; rw [lss_t] at g; omega
   ·intro _ g; rw [gtr_t] at g; omega
   ·intro _ _ g; rw [neq_t] at g; omega
   ·intro _ _ _
    have r' := loop_of_rounds r
    refine ⟨⟨?_, h, trivial⟩, rfl⟩
    rw [c3]; exact r'
  | some ys =>
   rw [hw] at r
   have hl := walkA_len hw
   have r' := loop_of_rounds r
   simp only
   refine look_for (b := loopAt Try.prog 61 1) (fun i => akT2 0 xs.length us us.length (i : Int) xs us f ys) xs.length (akBad xs us ys) (fun v => CallsD Try.prog 61 [.agg [ri xs, rb us, i64 f]] (i64 (if v < 0 then 0 else 8))) ?_ ?_ ?_
   ·intro i hi hp σ e hr
    have n1 := natLt hi
    have n2 := natLt (n := us.length) (i := i) (by omega)
    simp only [akBad, Bool.or_eq_false_iff, Bool.not_eq_false'] at hp
    refine akL2_step 0 xs.length us us.length i xs us f ys σ e ?_ ?_ ?_ ?_ ?_ <;> dsimp only [At, Tr.q, RG, akL2_T]
    ·intro _ g; rw [Int.toNat_natCast, hp.1] at g; cases g
    ·intro _ _ g1 g2
     rw [Int.toNat_natCast] at g1 g2
     rw [neq_t] at g2
     have := hp.2
     rw [g1] at this; simp at this; exact absurd this (by simpa using g2)
    ·intro _ _ _ _
     unfold akL2_c0; rw [succL hi (by omega)]
     exact ⟨⟨n1.1, n1.2, by rw [Int.toNat_natCast]; omega, n1.1, n1.2, n2.1, n2.2, trivial⟩, hr⟩
    ·intro _ _ _
     unfold akL2_c0; rw [succL hi (by omega)]
     exact ⟨⟨by rw [Int.toNat_natCast]; omega, n1.1, n1.2, n2.1, n2.2, trivial⟩, hr⟩
    ·intro g; rw [lss_f] at g; omega
   ·intro hr
    refine akF_calls 0 xs.length us us.length us.length xs us f ys _ ?_ ?_ ?_ ?_ <;> dsimp only [At, Tr.q, akF_T]
    ·intro g; rw [lss_t] at g; omega
    ·intro _ g; rw [gtr_t] at g; omega
    ·intro _ _ g; rw [neq_t] at g; omega
    ·intro _ _ _
     refine ⟨⟨loop_of_rounds (hr _ _ ?_), ?_, h, trivial⟩, rfl⟩
     ·rw [← c3]
      refine akL2_step 0 us.length us us.length us.length xs us f ys _ _ ?_ ?_ ?_ ?_ ?_ <;> dsimp only [At, Tr.q, RG, akL2_T]
      ·intro g; rw [lss_t] at g; omega
      ·intro g; rw [lss_t] at g; omega
      ·intro g; rw [lss_t] at g; omega
      ·intro g; rw [lss_t] at g; omega
      ·intro _; exact ⟨trivial, rfl, rfl⟩
     ·rw [c3]; exact r'
   ·intro j hj hp hr
    have n1 := natLt hj
    have n2 := natLt (n := us.length) (i := j) (by omega)
    refine akR2_calls 8 xs.length us us.length j xs us f ys _ ?_ ?_ ?_ ?_ <;> dsimp only [At, Tr.q, akR2_T]
    ·intro g; rw [lss_t] at g; omega
    ·intro _ g; rw [gtr_t] at g; omega
    ·intro _ _ g; rw [neq_t] at g; omega
    ·intro _ _ _
     refine ⟨⟨loop_of_rounds (hr _ _ ?_), ?_, h, trivial⟩, by rw [if_neg (by omega)]⟩
     ·refine akL2_step 0 xs.length us us.length j xs us f ys _ _ ?_ ?_ ?_ ?_ ?_ <;> dsimp only [At, Tr.q, RG, akL2_T]
      ·intro _ _; exact ⟨⟨by rw [Int.toNat_natCast]; omega, n1.1, n1.2, n2.1, n2.2, trivial⟩, rfl, rfl⟩
      ·intro _ _ _ _; exact ⟨⟨n1.1, n1.2, by rw [Int.toNat_natCast]; omega, n1.1, n1.2, n2.1, n2.2, trivial⟩, rfl, rfl⟩
      ·intro _ g1 g2 g3
       rw [Int.toNat_natCast] at g1 g2 g3
       rw [neq_f] at g3
       simp only [akBad, g2, g3, Bool.or_eq_true] at hp
       rcases hp with hp | hp
       ·rw [hp] at g1; cases g1
       ·simp at hp
      ·intro _ g1 g2
       rw [Int.toNat_natCast] at g1 g2
       simp only [akBad, g2, Bool.false_and, Bool.or_false] at hp
       rw [hp] at g1; cases g1
      ·intro g; rw [lss_f] at g; omega
     ·rw [c3]; exact r'
 ·rw [if_neg c]
  refine akF_calls 0 0 [] 0 0 xs us f [] _ ?_ ?_ ?_ ?_ <;> dsimp only [At, Tr.q, akF_T]
  ·intro _; exact ⟨trivial, rfl⟩
  ·intro _ _; exact ⟨trivial, rfl⟩
  ·intro _ _ _; exact ⟨trivial, rfl⟩
  ·intro g1 g2 g3
   rw [lss_f] at g1; rw [gtr_f] at g2; rw [neq_f] at g3; omega
end TableS
end
