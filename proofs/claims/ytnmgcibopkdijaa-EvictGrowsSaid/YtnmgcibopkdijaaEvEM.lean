/- The functions of the folder evict: what they compute. No condition. -/
import Derived.Test.YtnmgcibopkdijaaEvEK
set_option linter.unusedSectionVars false
set_option linter.unusedVariables false
set_option linter.unusedSimpArgs false
section
namespace EvS
open Go Go.Dam Go.Proofs
set_option maxRecDepth 1000000
set_option linter.unusedVariables false
set_option linter.unusedSectionVars false
set_option linter.unusedSimpArgs false

theorem roL_r0 (c : Int) (us : List Int) (k : Nat) (i : Int) (xs : List Int) : roundX Try.prog (X1) 100000 (loopAt Try.prog 7 0) [.d true] [[0, 1, 4, 5, 6, 7]] [(896, 9001)] (roT c us k i xs) = some (Ex.normal, (roT (c) (us) ((usL c (us.getD i.toNat 0) xs).length) (opI BinOp.add IntKind.i64 i 1) (usL c (us.getD i.toNat 0) xs)), [k = xs.length, xs.length ≤ 200 ∧ 0 ≤ c ∧ c ≤ 200, decide (0 ≤ i) = true, decide (i < ↑(us.length)) = true, cmpI BinOp.lss i ↑(us.length) = true]) := by kernel_rfl
theorem roL_r1 (c : Int) (us : List Int) (k : Nat) (i : Int) (xs : List Int) : roundX Try.prog (X1) 100000 (loopAt Try.prog 7 0) [.d false] [[0, 1, 4, 5, 6, 7]] [(9001, 9001)] (roT c us k i xs) = some (Ex.exit 0, (roT (c) (us) k (i) xs), [cmpI BinOp.lss i ↑(us.length) = false]) := by kernel_rfl
theorem roL_step (c : Int) (us : List Int) (k : Nat) (i : Int) (xs : List Int) (σ : St) (e : Ex)
  (h0 : ((cmpI BinOp.lss i ↑(us.length)) = true) → ((k = xs.length) ∧ (xs.length ≤ 200 ∧ 0 ≤ c ∧ c ≤ 200) ∧ (decide (0 ≤ i) = true) ∧ (decide (i < ↑(us.length)) = true) ∧ True) ∧ Runs Try.prog (CallsD Try.prog) (.rounds (loopAt Try.prog 7 0)) (roT (c) (us) ((usL c (us.getD i.toNat 0) xs).length) (opI BinOp.add IntKind.i64 i 1) (usL c (us.getD i.toNat 0) xs)).abs e σ)
  (h1 : ((cmpI BinOp.lss i ↑(us.length)) = false) → (True) ∧ (e = Ex.exit 0 ∧ σ = (roT (c) (us) k (i) xs).abs)) : Runs Try.prog (CallsD Try.prog) (.rounds (loopAt Try.prog 7 0)) (roT c us k i xs).abs e σ := by
  cases e0 : (cmpI BinOp.lss i ↑(us.length)) with
  | true =>
    obtain ⟨⟨k0, k1, k2, k3, _⟩, kr⟩ := h0 e0
    exact rounds_on (hX1) (roL_r0 c us k i xs) ⟨k0, k1, k2, k3, e0, trivial⟩ kr
  | false =>
    obtain ⟨_, kr⟩ := h1 e0
    exact rounds_end (hX1) (roL_r1 c us k i xs) ⟨e0, trivial⟩ (by simp) kr

theorem roF_p0 (c : Int) (us : List Int) (k : Nat) (i : Int) (xs : List Int) : fnX Try.prog (X1) 100000 [.d true] 7 [i64 c, ru us] = some (D.tup [D.v (Value.slice none 0 0), i64 (chkV c us.length)], [cmpI BinOp.neq (chkV c us.length) 0 = true]) := by kernel_rfl
theorem roF_p1 (c : Int) (us : List Int) (k : Nat) (i : Int) (xs : List Int) : fnX Try.prog (X1) 100000 [.d false, PE.k [Cast.nil 6 9001 1 [Col0.ints IntKind.u32 []]], PE.l [[0, 1, 4, 5, 6, 7]] [(9001, 9001)] (roT c us 0 0 []) (Ex.exit 0) (roT c us k i xs)] 7 [i64 c, ru us] = some (D.tup [D.oc [Col0.ints IntKind.u32 xs], i64 0], [k = xs.length, (roT c us 0 0 [] = roT c us 0 0 []), Runs Try.prog (CallsD Try.prog) (.code (.loop (loopAt Try.prog 7 0))) (roT c us 0 0 []).abs (Ex.exit 0) (roT c us k i xs).abs, cmpI BinOp.neq (chkV c us.length) 0 = false]) := by kernel_rfl
theorem roF_calls (c : Int) (us : List Int) (k : Nat) (i : Int) (xs : List Int) (res : D)
  (h0 : ((cmpI BinOp.neq (chkV c us.length) 0) = true) → (True) ∧ res = D.tup [D.v (Value.slice none 0 0), i64 (chkV c us.length)])
  (h1 : ((cmpI BinOp.neq (chkV c us.length) 0) = false) → ((k = xs.length) ∧ (Runs Try.prog (CallsD Try.prog) (.code (.loop (loopAt Try.prog 7 0))) (roT c us 0 0 []).abs (Ex.exit 0) (roT c us k i xs).abs) ∧ True) ∧ res = D.tup [D.oc [Col0.ints IntKind.u32 xs], i64 0]) : CallsD Try.prog 7 [i64 c, ru us] res := by
  cases e0 : (cmpI BinOp.neq (chkV c us.length) 0) with
  | true =>
    obtain ⟨_, kr⟩ := h0 e0
    exact of_path (hX1) (roF_p0 c us k i xs) ⟨e0, trivial⟩ kr
  | false =>
    obtain ⟨⟨k0, k1, _⟩, kr⟩ := h1 e0
    exact of_path (hX1) (roF_p1 c us k i xs) ⟨k0, rfl, k1, e0, trivial⟩ kr
theorem usL_is (c : Nat) (us : List Int) (k : Int) : usL (c : Int) k (lruN c us) = lruN c (us ++ [k]) := by
  unfold usL; rw [Int.toNat_natCast, lruN_snoc]
theorem take_one (us : List Int) (i : Nat) (h : i < us.length) : us.take (i + 1) = us.take i ++ [us.getD i 0] := take_snoc us i h
theorem ro_ok (c : Int) (us : List Int) : CallsD Try.prog 7 [i64 c, ru us] (.tup [ou (orderL c us), i64 (chkV c us.length)]) := by
  unfold orderL
  by_cases e : chkV c us.length = 0
  · rw [if_pos e]
    obtain ⟨h1, h2, h3⟩ := chk_pos e
    obtain ⟨cn, rfl⟩ := Int.eq_ofNat_of_zero_le (by omega : 0 ≤ c)
    rw [Int.toNat_natCast, e]
    refine roF_calls cn us (lruN cn us).length us.length (lruN cn us) _ (fun g => by rw [neq_t] at g; exact absurd e g) fun _ => ⟨⟨rfl, loop_of_rounds ?_, trivial⟩, rfl⟩
    have hz := scan_all (P := Try.prog) (F := CallsD Try.prog) (b := loopAt Try.prog 7 0) (fun i => roT cn us (lruN cn (us.take i)).length (i : Int) (lruN cn (us.take i))) us.length (fun _ => True) (fun i hi _ σ e hr => ?_) (σ := (roT cn us (lruN cn us).length us.length (lruN cn us)).abs) (e := .exit 0) ?_ us.length 0 (by omega) (fun _ _ _ => trivial)
    · simpa [lruN, lru, dd] using hz
    · have hl := lruN_len cn (us.take i)
      have b := natLt hi
      refine roL_step cn us _ i _ σ e (fun _ => ?_) fun g => by rw [lss_f] at g; omega
      rw [Int.toNat_natCast, usL_is, ← take_one us i hi, succL hi (by omega)]
      exact ⟨⟨rfl, ⟨by omega, by omega, by omega⟩, b.1, b.2, trivial⟩, hr⟩
    · rw [List.take_length]
      refine roL_step cn us _ us.length _ _ _ (fun g => by rw [lss_t] at g; omega) fun _ => ⟨trivial, rfl, rfl⟩
  · rw [if_neg e]
    refine calls_reads (e := .tup [nilD, i64 (chkV c us.length)]) (ReadsNs.tup (.cons (.nil rfl) (.refl _))) ?_
    exact roF_calls c us 0 0 [] _ (fun _ => ⟨trivial, rfl⟩) fun g => by rw [neq_f] at g; exact absurd g e

theorem rvL_r0 (c : Int) (us : List Int) (k m : Nat) (i : Int) (xs es ks : List Int) : roundX Try.prog (X1) 100000 (loopAt Try.prog 9 0) [.d true, .d true] [[0, 1, 4, 5, 6, 7, 8]] [(1024, 9001), (9002, 9002)] (rvT c us k m i xs es ks) = some (Ex.normal, (rvT (c) (us) ((usL c (us.getD i.toNat 0) xs).length) (m + 1) (opI BinOp.add IntKind.i64 i 1) (usL c (us.getD i.toNat 0) xs) (es ++ [i]) (ks ++ [usK c (us.getD i.toNat 0) xs])), [(m + 1) * 16 ≤ 17592186044416, m = es.length, es.length = es.length, ks.length = es.length, usG c (us.getD i.toNat 0) xs = true, k = xs.length, xs.length ≤ 200 ∧ 0 ≤ c ∧ c ≤ 200, decide (0 ≤ i) = true, decide (i < ↑(us.length)) = true, cmpI BinOp.lss i ↑(us.length) = true]) := by kernel_rfl
theorem rvL_r1 (c : Int) (us : List Int) (k m : Nat) (i : Int) (xs es ks : List Int) : roundX Try.prog (X1) 100000 (loopAt Try.prog 9 0) [.d true, .d false] [[0, 1, 4, 5, 6, 7, 8]] [(1024, 9001), (9002, 9002)] (rvT c us k m i xs es ks) = some (Ex.normal, (rvT (c) (us) ((usL c (us.getD i.toNat 0) xs).length) (m) (opI BinOp.add IntKind.i64 i 1) (usL c (us.getD i.toNat 0) xs) (es) (ks)), [usG c (us.getD i.toNat 0) xs = false, k = xs.length, xs.length ≤ 200 ∧ 0 ≤ c ∧ c ≤ 200, decide (0 ≤ i) = true, decide (i < ↑(us.length)) = true, cmpI BinOp.lss i ↑(us.length) = true]) := by kernel_rfl
theorem rvL_r2 (c : Int) (us : List Int) (k m : Nat) (i : Int) (xs es ks : List Int) : roundX Try.prog (X1) 100000 (loopAt Try.prog 9 0) [.d false] [[0, 1, 4, 5, 6, 7, 8]] [(9001, 9001), (9002, 9002)] (rvT c us k m i xs es ks) = some (Ex.exit 0, (rvT c us k m i xs es ks), [cmpI BinOp.lss i ↑(us.length) = false]) := by kernel_rfl
theorem rvL_step (c : Int) (us : List Int) (k : Nat) (m : Nat) (i : Int) (xs : List Int) (es : List Int) (ks : List Int) (σ : St) (e : Ex)
  (h0 : ((cmpI BinOp.lss i ↑(us.length)) = true) → ((usG c (us.getD i.toNat 0) xs) = true) → (((m + 1) * 16 ≤ 17592186044416) ∧ (m = es.length) ∧ (es.length = es.length) ∧ (ks.length = es.length) ∧ (k = xs.length) ∧ (xs.length ≤ 200 ∧ 0 ≤ c ∧ c ≤ 200) ∧ (decide (0 ≤ i) = true) ∧ (decide (i < ↑(us.length)) = true) ∧ True) ∧ Runs Try.prog (CallsD Try.prog) (.rounds (loopAt Try.prog 9 0)) (rvT (c) (us) ((usL c (us.getD i.toNat 0) xs).length) (m + 1) (opI BinOp.add IntKind.i64 i 1) (usL c (us.getD i.toNat 0) xs) (es ++ [i]) (ks ++ [usK c (us.getD i.toNat 0) xs])).abs e σ)
  (h1 : ((cmpI BinOp.lss i ↑(us.length)) = true) → ((usG c (us.getD i.toNat 0) xs) = false) → ((k = xs.length) ∧ (xs.length ≤ 200 ∧ 0 ≤ c ∧ c ≤ 200) ∧ (decide (0 ≤ i) = true) ∧ (decide (i < ↑(us.length)) = true) ∧ True) ∧ Runs Try.prog (CallsD Try.prog) (.rounds (loopAt Try.prog 9 0)) (rvT (c) (us) ((usL c (us.getD i.toNat 0) xs).length) (m) (opI BinOp.add IntKind.i64 i 1) (usL c (us.getD i.toNat 0) xs) (es) (ks)).abs e σ)
  (h2 : ((cmpI BinOp.lss i ↑(us.length)) = false) → (True) ∧ (e = Ex.exit 0 ∧ σ = (rvT c us k m i xs es ks).abs)) : Runs Try.prog (CallsD Try.prog) (.rounds (loopAt Try.prog 9 0)) (rvT c us k m i xs es ks).abs e σ := by
  cases e0 : (cmpI BinOp.lss i ↑(us.length)) with
  | true =>
    cases e1 : (usG c (us.getD i.toNat 0) xs) with
    | true =>
      obtain ⟨⟨k0, k1, k2, k3, k4, k5, k6, k7, _⟩, kr⟩ := h0 e0 e1
      exact rounds_on (hX1) (rvL_r0 c us k m i xs es ks) ⟨k0, k1, k2, k3, e1, k4, k5, k6, k7, e0, trivial⟩ kr
    | false =>
      obtain ⟨⟨k0, k1, k2, k3, _⟩, kr⟩ := h1 e0 e1
      exact rounds_on (hX1) (rvL_r1 c us k m i xs es ks) ⟨e1, k0, k1, k2, k3, e0, trivial⟩ kr
  | false =>
    obtain ⟨_, kr⟩ := h2 e0
    exact rounds_end (hX1) (rvL_r2 c us k m i xs es ks) ⟨e0, trivial⟩ (by simp) kr

theorem rvF_p0 (c : Int) (us : List Int) (k m : Nat) (i : Int) (xs es ks : List Int) : fnX Try.prog (X1) 100000 [.d true] 9 [i64 c, ru us] = some (D.tup [D.v (Value.slice none 0 0), i64 (chkV c us.length)], [cmpI BinOp.neq (chkV c us.length) 0 = true]) := by kernel_rfl
theorem rvF_p1 (c : Int) (us : List Int) (k m : Nat) (i : Int) (xs es ks : List Int) : fnX Try.prog (X1) 100000 [.d false, PE.k [Cast.nil 6 9001 1 [Col0.ints IntKind.u32 []], Cast.nil 7 9002 2 [Col0.ints IntKind.i64 [], Col0.ints IntKind.u32 []]], PE.l [[0, 1, 4, 5, 6, 7, 8]] [(9001, 9001), (9002, 9002)] (rvT c us 0 0 0 [] [] []) (Ex.exit 0) (rvT c us k m i xs es ks)] 9 [i64 c, ru us] = some (D.tup [D.oc [Col0.ints IntKind.i64 es, Col0.ints IntKind.u32 ks], i64 0], [m = es.length, (rvT c us 0 0 0 [] [] [] = rvT c us 0 0 0 [] [] []), Runs Try.prog (CallsD Try.prog) (.code (.loop (loopAt Try.prog 9 0))) (rvT c us 0 0 0 [] [] []).abs (Ex.exit 0) (rvT c us k m i xs es ks).abs, cmpI BinOp.neq (chkV c us.length) 0 = false]) := by kernel_rfl
theorem rvF_calls (c : Int) (us : List Int) (k m : Nat) (i : Int) (xs es ks : List Int) (res : D)
  (h0 : ((cmpI BinOp.neq (chkV c us.length) 0) = true) → (True) ∧ res = D.tup [D.v (Value.slice none 0 0), i64 (chkV c us.length)])
  (h1 : ((cmpI BinOp.neq (chkV c us.length) 0) = false) → ((m = es.length) ∧ (Runs Try.prog (CallsD Try.prog) (.code (.loop (loopAt Try.prog 9 0))) (rvT c us 0 0 0 [] [] []).abs (Ex.exit 0) (rvT c us k m i xs es ks).abs) ∧ True) ∧ res = D.tup [D.oc [Col0.ints IntKind.i64 es, Col0.ints IntKind.u32 ks], i64 0]) : CallsD Try.prog 9 [i64 c, ru us] res := by
  cases e0 : (cmpI BinOp.neq (chkV c us.length) 0) with
  | true =>
    obtain ⟨_, kr⟩ := h0 e0
    exact of_path (hX1) (rvF_p0 c us k m i xs es ks) ⟨e0, trivial⟩ kr
  | false =>
    obtain ⟨⟨k0, k1, _⟩, kr⟩ := h1 e0
    exact of_path (hX1) (rvF_p1 c us k m i xs es ks) ⟨k0, rfl, k1, e0, trivial⟩ kr
theorem rv_ok (c : Int) (us : List Int) : CallsD Try.prog 9 [i64 c, ru us] (.tup [og (evUL c us) (evKL c us), i64 (chkV c us.length)]) := by
  unfold evUL evKL
  by_cases e : chkV c us.length = 0
  · rw [if_pos e, if_pos e]
    obtain ⟨h1, h2, h3⟩ := chk_pos e
    obtain ⟨cn, rfl⟩ := Int.eq_ofNat_of_zero_le (by omega : 0 ≤ c)
    rw [Int.toNat_natCast, e]
    have hel : ∀ i, i ≤ us.length → (evU cn (us.take i)).length ≤ 60 := fun i hi => by
      have := ev_count cn (us.take i)
      rw [List.length_take] at this; omega
    refine rvF_calls cn us (lruN cn us).length (evU cn us).length us.length (lruN cn us) (evU cn us) (evK cn us) _ (fun g => by rw [neq_t] at g; exact absurd e g) fun _ => ⟨⟨rfl, loop_of_rounds ?_, trivial⟩, rfl⟩
    have hz := scan_all (P := Try.prog) (F := CallsD Try.prog) (b := loopAt Try.prog 9 0) (fun i => rvT cn us (lruN cn (us.take i)).length (evU cn (us.take i)).length (i : Int) (lruN cn (us.take i)) (evU cn (us.take i)) (evK cn (us.take i))) us.length (fun _ => True) (fun i hi _ σ e hr => ?_) (σ := (rvT cn us (lruN cn us).length (evU cn us).length us.length (lruN cn us) (evU cn us) (evK cn us)).abs) (e := .exit 0) ?_ us.length 0 (by omega) (fun _ _ _ => trivial)
    · simpa [lruN, lru, dd, evU, evK] using hz
    · have hl := lruN_len cn (us.take i)
      have b := natLt hi
      have hlen : (us.take i).length = i := by rw [List.length_take]; omega
      have he := hel i (by omega)
      have hu := usG_is cn (us.take i) (us.getD i 0)
      have hgl := ev_len cn (us.take i)
      rw [take_one us i hi, evU_snoc, evK_snoc, hlen] at hr
      refine rvL_step cn us _ _ i _ _ _ σ e (fun _ g => ?_) (fun _ g => ?_) fun g => by rw [lss_f] at g; omega
      · rw [Int.toNat_natCast] at g
        unfold usG at g
        rw [Int.toNat_natCast, hu] at g
        have hk : usK cn (us.getD i 0) (lruN cn (us.take i)) = (lruN cn (us.take i)).getD (cn - 1) 0 := by
          unfold usK
          rw [Int.toNat_natCast, if_pos (by rw [← hu] at g; simpa using g), usK_is cn (by omega) _ _ g]
        rw [g, if_pos rfl, if_pos rfl, List.length_append, List.length_singleton] at hr
        rw [Int.toNat_natCast, usL_is, hk, succL hi (by omega)]
        exact ⟨⟨by omega, rfl, rfl, hgl.symm, rfl, ⟨by omega, by omega, by omega⟩, b.1, b.2, trivial⟩, hr⟩
      · rw [Int.toNat_natCast] at g
        unfold usG at g
        rw [Int.toNat_natCast, hu] at g
        rw [g] at hr
        simp only [Bool.false_eq_true, if_false, List.append_nil] at hr
        rw [Int.toNat_natCast, usL_is, succL hi (by omega)]
        exact ⟨⟨rfl, ⟨by omega, by omega, by omega⟩, b.1, b.2, trivial⟩, hr⟩
    · rw [List.take_length]
      refine rvL_step cn us _ _ us.length _ _ _ _ _ (fun g => by rw [lss_t] at g; omega) (fun g => by rw [lss_t] at g; omega) fun _ => ⟨trivial, rfl, rfl⟩
  · rw [if_neg e, if_neg e]
    refine calls_reads (e := .tup [nilD, i64 (chkV c us.length)]) (ReadsNs.tup (.cons (.nil rfl) (.refl _))) ?_
    exact rvF_calls c us 0 0 0 [] [] [] _ (fun _ => ⟨trivial, rfl⟩) fun g => by rw [neq_f] at g; exact absurd g e

theorem rhL_r0 (c : Int) (us : List Int) (k : Nat) (n i : Int) (xs : List Int) : roundX Try.prog (X1) 100000 (loopAt Try.prog 28 0) [.d true, .d true] [[0, 1, 4, 5, 6, 7]] [(928, 9001)] (rhT c us k n i xs) = some (Ex.normal, (rhT (c) (us) ((usL c (us.getD i.toNat 0) xs).length) (opI BinOp.add IntKind.i64 n 1) (opI BinOp.add IntKind.i64 i 1) (usL c (us.getD i.toNat 0) xs)), [k = xs.length, xs.length ≤ 200 ∧ 0 ≤ c ∧ c ≤ 200, decide (0 ≤ i) = true, decide (i < ↑(us.length)) = true, inB xs (us.getD i.toNat 0) = true, k = xs.length, xs.length ≤ 300, decide (0 ≤ i) = true, decide (i < ↑(us.length)) = true, cmpI BinOp.lss i ↑(us.length) = true]) := by kernel_rfl
theorem rhL_r1 (c : Int) (us : List Int) (k : Nat) (n i : Int) (xs : List Int) : roundX Try.prog (X1) 100000 (loopAt Try.prog 28 0) [.d true, .d false] [[0, 1, 4, 5, 6, 7]] [(928, 9001)] (rhT c us k n i xs) = some (Ex.normal, (rhT (c) (us) ((usL c (us.getD i.toNat 0) xs).length) (n) (opI BinOp.add IntKind.i64 i 1) (usL c (us.getD i.toNat 0) xs)), [k = xs.length, xs.length ≤ 200 ∧ 0 ≤ c ∧ c ≤ 200, decide (0 ≤ i) = true, decide (i < ↑(us.length)) = true, inB xs (us.getD i.toNat 0) = false, k = xs.length, xs.length ≤ 300, decide (0 ≤ i) = true, decide (i < ↑(us.length)) = true, cmpI BinOp.lss i ↑(us.length) = true]) := by kernel_rfl
theorem rhL_r2 (c : Int) (us : List Int) (k : Nat) (n i : Int) (xs : List Int) : roundX Try.prog (X1) 100000 (loopAt Try.prog 28 0) [.d false] [[0, 1, 4, 5, 6, 7]] [(9001, 9001)] (rhT c us k n i xs) = some (Ex.exit 0, (rhT (c) (us) k (n) (i) xs), [cmpI BinOp.lss i ↑(us.length) = false]) := by kernel_rfl
theorem rhL_step (c : Int) (us : List Int) (k : Nat) (n : Int) (i : Int) (xs : List Int) (σ : St) (e : Ex)
  (h0 : ((cmpI BinOp.lss i ↑(us.length)) = true) → ((inB xs (us.getD i.toNat 0)) = true) → ((k = xs.length) ∧ (xs.length ≤ 200 ∧ 0 ≤ c ∧ c ≤ 200) ∧ (decide (0 ≤ i) = true) ∧ (decide (i < ↑(us.length)) = true) ∧ (k = xs.length) ∧ (xs.length ≤ 300) ∧ (decide (0 ≤ i) = true) ∧ (decide (i < ↑(us.length)) = true) ∧ True) ∧ Runs Try.prog (CallsD Try.prog) (.rounds (loopAt Try.prog 28 0)) (rhT (c) (us) ((usL c (us.getD i.toNat 0) xs).length) (opI BinOp.add IntKind.i64 n 1) (opI BinOp.add IntKind.i64 i 1) (usL c (us.getD i.toNat 0) xs)).abs e σ)
  (h1 : ((cmpI BinOp.lss i ↑(us.length)) = true) → ((inB xs (us.getD i.toNat 0)) = false) → ((k = xs.length) ∧ (xs.length ≤ 200 ∧ 0 ≤ c ∧ c ≤ 200) ∧ (decide (0 ≤ i) = true) ∧ (decide (i < ↑(us.length)) = true) ∧ (k = xs.length) ∧ (xs.length ≤ 300) ∧ (decide (0 ≤ i) = true) ∧ (decide (i < ↑(us.length)) = true) ∧ True) ∧ Runs Try.prog (CallsD Try.prog) (.rounds (loopAt Try.prog 28 0)) (rhT (c) (us) ((usL c (us.getD i.toNat 0) xs).length) (n) (opI BinOp.add IntKind.i64 i 1) (usL c (us.getD i.toNat 0) xs)).abs e σ)
  (h2 : ((cmpI BinOp.lss i ↑(us.length)) = false) → (True) ∧ (e = Ex.exit 0 ∧ σ = (rhT (c) (us) k (n) (i) xs).abs)) : Runs Try.prog (CallsD Try.prog) (.rounds (loopAt Try.prog 28 0)) (rhT c us k n i xs).abs e σ := by
  cases e0 : (cmpI BinOp.lss i ↑(us.length)) with
  | true =>
    cases e1 : (inB xs (us.getD i.toNat 0)) with
    | true =>
      obtain ⟨⟨k0, k1, k2, k3, k4, k5, k6, k7, _⟩, kr⟩ := h0 e0 e1
      exact rounds_on (hX1) (rhL_r0 c us k n i xs) ⟨k0, k1, k2, k3, e1, k4, k5, k6, k7, e0, trivial⟩ kr
    | false =>
      obtain ⟨⟨k0, k1, k2, k3, k4, k5, k6, k7, _⟩, kr⟩ := h1 e0 e1
      exact rounds_on (hX1) (rhL_r1 c us k n i xs) ⟨k0, k1, k2, k3, e1, k4, k5, k6, k7, e0, trivial⟩ kr
  | false =>
    obtain ⟨_, kr⟩ := h2 e0
    exact rounds_end (hX1) (rhL_r2 c us k n i xs) ⟨e0, trivial⟩ (by simp) kr

theorem rhF_p0 (c : Int) (us : List Int) (k : Nat) (n i : Int) (xs : List Int) : fnX Try.prog (X1) 100000 [PE.k [Cast.nil 5 9001 1 [Col0.ints IntKind.u32 []]], PE.l [[0, 1, 4, 5, 6, 7]] [(9001, 9001)] (rhT c us 0 0 0 []) (Ex.exit 0) (rhT c us k n i xs)] 28 [i64 c, ru us] = some (i64 n, [(rhT c us 0 0 0 [] = rhT c us 0 0 0 []), Runs Try.prog (CallsD Try.prog) (.code (.loop (loopAt Try.prog 28 0))) (rhT c us 0 0 0 []).abs (Ex.exit 0) (rhT c us k n i xs).abs]) := by kernel_rfl
theorem rhF_calls (c : Int) (us : List Int) (k : Nat) (n i : Int) (xs : List Int) (res : D)
  (h0 : ((Runs Try.prog (CallsD Try.prog) (.code (.loop (loopAt Try.prog 28 0))) (rhT c us 0 0 0 []).abs (Ex.exit 0) (rhT c us k n i xs).abs) ∧ True) ∧ res = i64 n) : CallsD Try.prog 28 [i64 c, ru us] res := by
  obtain ⟨⟨k0, _⟩, kr⟩ := h0
  exact of_path (hX1) (rhF_p0 c us k n i xs) ⟨rfl, k0, trivial⟩ kr
theorem hits_le (c : Nat) (us : List Int) : hitsL c us ≤ us.length := by
  unfold hitsL; have := List.countP_le_length (p := fun r => decide (0 ≤ r ∧ r < (c : Int))) (l := reachL us); rw [reachL_len] at this; exact this
theorem rh_ok (c : Int) (us : List Int) (h : us.length ≤ 100 ∧ 0 ≤ c ∧ c ≤ 200) : CallsD Try.prog 28 [i64 c, ru us] (i64 (hitsL c.toNat us)) := by
  obtain ⟨h0, h1, h2⟩ := h
  obtain ⟨cn, rfl⟩ := Int.eq_ofNat_of_zero_le h1
  rw [Int.toNat_natCast]
  refine rhF_calls cn us (lruN cn us).length (hitsL cn us) us.length (lruN cn us) _ ⟨⟨loop_of_rounds ?_, trivial⟩, rfl⟩
  have hz := scan_all (P := Try.prog) (F := CallsD Try.prog) (b := loopAt Try.prog 28 0) (fun i => rhT cn us (lruN cn (us.take i)).length (hitsL cn (us.take i) : Nat) (i : Int) (lruN cn (us.take i))) us.length (fun _ => True) (fun i hi _ σ e hr => ?_) (σ := (rhT cn us (lruN cn us).length (hitsL cn us : Nat) us.length (lruN cn us)).abs) (e := .exit 0) ?_ us.length 0 (by omega) (fun _ _ _ => trivial)
  · simpa [lruN, lru, dd, hitsL, reachL] using hz
  · have hl := lruN_len cn (us.take i)
    have b := natLt hi
    have hlen : (us.take i).length = i := by rw [List.length_take]; omega
    have hlr : (lruN cn (us.take i)).length ≤ 100 := by
      have := lru_le (us.take i)
      unfold lruN; rw [List.length_take]; omega
    have hh := hits_le cn (us.take i)
    rw [take_one us i hi, hitsL_snoc] at hr
    refine rhL_step cn us _ _ i _ σ e (fun _ g => ?_) (fun _ g => ?_) fun g => by rw [lss_f] at g; omega
    · rw [Int.toNat_natCast] at g
      unfold inB at g
      rw [decide_eq_true_eq] at g
      rw [if_pos g] at hr
      have e1 : opI .add .i64 (hitsL cn (us.take i) : Int) 1 = ((hitsL cn (us.take i) + 1 : Nat) : Int) := by
        rw [opI_add, wrap_i64_of (by omega) (by omega)]; omega
      rw [Int.toNat_natCast, succL hi (by omega), e1]
      rw [← usL_is] at hr
      exact ⟨⟨rfl, ⟨by omega, by omega, by omega⟩, b.1, b.2, rfl, by omega, b.1, b.2, trivial⟩, hr⟩
    · rw [Int.toNat_natCast] at g
      unfold inB at g
      rw [decide_eq_false_iff_not] at g
      rw [if_neg g, Nat.add_zero] at hr
      rw [Int.toNat_natCast, succL hi (by omega)]
      rw [← usL_is] at hr
      exact ⟨⟨rfl, ⟨by omega, by omega, by omega⟩, b.1, b.2, rfl, by omega, b.1, b.2, trivial⟩, hr⟩
  · rw [List.take_length]
    refine rhL_step cn us _ _ us.length _ _ _ (fun g => by rw [lss_t] at g; omega) (fun g => by rw [lss_t] at g; omega) fun _ => ⟨trivial, rfl, rfl⟩
noncomputable def rrL_c0 (us : List Int) (i : Int) := !inB (List.take (i.toNat - 0) (List.drop 0 us)) (us.getD i.toNat 0)
theorem rrL_r0 (us : List Int) (k : Nat) (i : Int) (xs : List Int) (m : Nat) (j : Int) (os : List Int) : roundX Try.prog (X1) 100000 (loopAt Try.prog 11 0) [.d true, .d true] [[0, 2, 3, 4, 5]] [(9001, 9001)] (rrT us k i xs) = some (Ex.normal, (rrT (us) (k + 1) (opI BinOp.add IntKind.i64 i 1) (xs ++ [-1])), [(k + 1) * 8 ≤ 17592186044416, k = xs.length, xs.length = xs.length, (rrL_c0 us i) = true, (List.take (i.toNat - 0) (List.drop 0 us)).length ≤ 300, decide (0 ≤ i) = true, decide (i < ↑(us.length)) = true, true = true, decide (0 ≤ i) = true, decide (i ≤ ↑(us.length)) = true, cmpI BinOp.lss i ↑(us.length) = true]) := by kernel_rfl
theorem rrL_r1 (us : List Int) (k : Nat) (i : Int) (xs : List Int) (m : Nat) (j : Int) (os : List Int) : roundX Try.prog (X1) 100000 (loopAt Try.prog 11 0) [.d true, .d false, PE.k [Cast.nil 6 9002 1 [Col0.ints IntKind.u32 []]], PE.l [[0, 2, 3, 4, 5, 6, 7]] [(9001, 9001), (9002, 9002)] (rrT2 us k i xs 0 (opI BinOp.sub IntKind.i64 i 1) []) (Ex.exit 2) (rrT2 us k i xs m j os)] [[0, 2, 3, 4, 5]] [(9001, 9001)] (rrT us k i xs) = some (Ex.normal, (rrT (us) (k + 1) (opI BinOp.add IntKind.i64 i 1) (xs ++ [(m : Int)])), [(k + 1) * 8 ≤ 17592186044416, k = xs.length, xs.length = xs.length, (rrT2 us k i xs 0 (opI BinOp.sub IntKind.i64 i 1) [] = rrT2 us k i xs 0 (opI BinOp.sub IntKind.i64 i 1) []), Runs Try.prog (CallsD Try.prog) (.code (.loop (loopAt Try.prog 11 1))) (rrT2 us k i xs 0 (opI BinOp.sub IntKind.i64 i 1) []).abs (Ex.exit 2) (rrT2 us k i xs m j os).abs, (rrL_c0 us i) = false, (List.take (i.toNat - 0) (List.drop 0 us)).length ≤ 300, decide (0 ≤ i) = true, decide (i < ↑(us.length)) = true, true = true, decide (0 ≤ i) = true, decide (i ≤ ↑(us.length)) = true, cmpI BinOp.lss i ↑(us.length) = true]) := by kernel_rfl
theorem rrL_r2 (us : List Int) (k : Nat) (i : Int) (xs : List Int) (m : Nat) (j : Int) (os : List Int) : roundX Try.prog (X1) 100000 (loopAt Try.prog 11 0) [.d false] [[0, 2, 3, 4, 5]] [(9001, 9001)] (rrT us k i xs) = some (Ex.exit 0, (rrT (us) (k) (i) (xs)), [cmpI BinOp.lss i ↑(us.length) = false]) := by kernel_rfl
theorem rrL_step (us : List Int) (k : Nat) (i : Int) (xs : List Int) (m : Nat) (j : Int) (os : List Int) (σ : St) (e : Ex)
  (h0 : ((cmpI BinOp.lss i ↑(us.length)) = true) → ((rrL_c0 us i) = true) → (((k + 1) * 8 ≤ 17592186044416) ∧ (k = xs.length) ∧ (xs.length = xs.length) ∧ ((List.take (i.toNat - 0) (List.drop 0 us)).length ≤ 300) ∧ (decide (0 ≤ i) = true) ∧ (decide (i < ↑(us.length)) = true) ∧ (decide (0 ≤ i) = true) ∧ (decide (i ≤ ↑(us.length)) = true) ∧ True) ∧ Runs Try.prog (CallsD Try.prog) (.rounds (loopAt Try.prog 11 0)) (rrT (us) (k + 1) (opI BinOp.add IntKind.i64 i 1) (xs ++ [-1])).abs e σ)
  (h1 : ((cmpI BinOp.lss i ↑(us.length)) = true) → ((rrL_c0 us i) = false) → (((k + 1) * 8 ≤ 17592186044416) ∧ (k = xs.length) ∧ (xs.length = xs.length) ∧ (Runs Try.prog (CallsD Try.prog) (.code (.loop (loopAt Try.prog 11 1))) (rrT2 us k i xs 0 (opI BinOp.sub IntKind.i64 i 1) []).abs (Ex.exit 2) (rrT2 us k i xs m j os).abs) ∧ ((List.take (i.toNat - 0) (List.drop 0 us)).length ≤ 300) ∧ (decide (0 ≤ i) = true) ∧ (decide (i < ↑(us.length)) = true) ∧ (decide (0 ≤ i) = true) ∧ (decide (i ≤ ↑(us.length)) = true) ∧ True) ∧ Runs Try.prog (CallsD Try.prog) (.rounds (loopAt Try.prog 11 0)) (rrT (us) (k + 1) (opI BinOp.add IntKind.i64 i 1) (xs ++ [(m : Int)])).abs e σ)
  (h2 : ((cmpI BinOp.lss i ↑(us.length)) = false) → (True) ∧ (e = Ex.exit 0 ∧ σ = (rrT (us) (k) (i) (xs)).abs)) : Runs Try.prog (CallsD Try.prog) (.rounds (loopAt Try.prog 11 0)) (rrT us k i xs).abs e σ := by
  cases e0 : (cmpI BinOp.lss i ↑(us.length)) with
  | true =>
    cases e1 : (rrL_c0 us i) with
    | true =>
      obtain ⟨⟨k0, k1, k2, k3, k4, k5, k6, k7, _⟩, kr⟩ := h0 e0 e1
      exact rounds_on (hX1) (rrL_r0 us k i xs m j os) ⟨k0, k1, k2, e1, k3, k4, k5, rfl, k6, k7, e0, trivial⟩ kr
    | false =>
      obtain ⟨⟨k0, k1, k2, k3, k4, k5, k6, k7, k8, _⟩, kr⟩ := h1 e0 e1
      exact rounds_on (hX1) (rrL_r1 us k i xs m j os) ⟨k0, k1, k2, rfl, k3, e1, k4, k5, k6, rfl, k7, k8, e0, trivial⟩ kr
  | false =>
    obtain ⟨_, kr⟩ := h2 e0
    exact rounds_end (hX1) (rrL_r2 us k i xs m j os) ⟨e0, trivial⟩ (by simp) kr

theorem rrL2_r0 (us : List Int) (k : Nat) (i : Int) (xs : List Int) (m : Nat) (j : Int) (os : List Int) : roundX Try.prog (X1) 100000 (loopAt Try.prog 11 1) [.d true, .d true] [[0, 2, 3, 4, 5, 6, 7]] [(9001, 9001), (9002, 9002)] (rrT2 us k i xs m j os) = some (Ex.normal, (rrT2 (us) (k) (i) (xs) (m + 1) (opI BinOp.sub IntKind.i64 j 1) (os ++ [us.getD j.toNat 0])), [(m + 1) * 4 ≤ 17592186044416, m = os.length, os.length = os.length, decide (0 ≤ j) = true, decide (j < ↑(us.length)) = true, (!inB os (us.getD j.toNat 0)) = true, m = os.length, os.length ≤ 300, decide (0 ≤ j) = true, decide (j < ↑(us.length)) = true, cmpI BinOp.neq (us.getD j.toNat 0) (us.getD i.toNat 0) = true, decide (0 ≤ i) = true, decide (i < ↑(us.length)) = true, decide (0 ≤ j) = true, decide (j < ↑(us.length)) = true]) := by kernel_rfl
theorem rrL2_r1 (us : List Int) (k : Nat) (i : Int) (xs : List Int) (m : Nat) (j : Int) (os : List Int) : roundX Try.prog (X1) 100000 (loopAt Try.prog 11 1) [.d true, .d false] [[0, 2, 3, 4, 5, 6, 7]] [(9001, 9001), (9002, 9002)] (rrT2 us k i xs m j os) = some (Ex.normal, (rrT2 (us) (k) (i) (xs) (m) (opI BinOp.sub IntKind.i64 j 1) (os)), [(!inB os (us.getD j.toNat 0)) = false, m = os.length, os.length ≤ 300, decide (0 ≤ j) = true, decide (j < ↑(us.length)) = true, cmpI BinOp.neq (us.getD j.toNat 0) (us.getD i.toNat 0) = true, decide (0 ≤ i) = true, decide (i < ↑(us.length)) = true, decide (0 ≤ j) = true, decide (j < ↑(us.length)) = true]) := by kernel_rfl
theorem rrL2_r2 (us : List Int) (k : Nat) (i : Int) (xs : List Int) (m : Nat) (j : Int) (os : List Int) : roundX Try.prog (X1) 100000 (loopAt Try.prog 11 1) [.d false] [[0, 2, 3, 4, 5, 6, 7]] [(9001, 9001), (9002, 9002)] (rrT2 us k i xs m j os) = some (Ex.exit 2, (rrT2 (us) (k) (i) (xs) (m) (j) (os)), [cmpI BinOp.neq (us.getD j.toNat 0) (us.getD i.toNat 0) = false, decide (0 ≤ i) = true, decide (i < ↑(us.length)) = true, decide (0 ≤ j) = true, decide (j < ↑(us.length)) = true]) := by kernel_rfl
theorem rrL2_step (us : List Int) (k : Nat) (i : Int) (xs : List Int) (m : Nat) (j : Int) (os : List Int) (σ : St) (e : Ex)
  (h0 : ((cmpI BinOp.neq (us.getD j.toNat 0) (us.getD i.toNat 0)) = true) → ((!inB os (us.getD j.toNat 0)) = true) → (((m + 1) * 4 ≤ 17592186044416) ∧ (m = os.length) ∧ (os.length = os.length) ∧ (decide (0 ≤ j) = true) ∧ (decide (j < ↑(us.length)) = true) ∧ (m = os.length) ∧ (os.length ≤ 300) ∧ (decide (0 ≤ j) = true) ∧ (decide (j < ↑(us.length)) = true) ∧ (decide (0 ≤ i) = true) ∧ (decide (i < ↑(us.length)) = true) ∧ (decide (0 ≤ j) = true) ∧ (decide (j < ↑(us.length)) = true) ∧ True) ∧ Runs Try.prog (CallsD Try.prog) (.rounds (loopAt Try.prog 11 1)) (rrT2 (us) (k) (i) (xs) (m + 1) (opI BinOp.sub IntKind.i64 j 1) (os ++ [us.getD j.toNat 0])).abs e σ)
  (h1 : ((cmpI BinOp.neq (us.getD j.toNat 0) (us.getD i.toNat 0)) = true) → ((!inB os (us.getD j.toNat 0)) = false) → ((m = os.length) ∧ (os.length ≤ 300) ∧ (decide (0 ≤ j) = true) ∧ (decide (j < ↑(us.length)) = true) ∧ (decide (0 ≤ i) = true) ∧ (decide (i < ↑(us.length)) = true) ∧ (decide (0 ≤ j) = true) ∧ (decide (j < ↑(us.length)) = true) ∧ True) ∧ Runs Try.prog (CallsD Try.prog) (.rounds (loopAt Try.prog 11 1)) (rrT2 (us) (k) (i) (xs) (m) (opI BinOp.sub IntKind.i64 j 1) (os)).abs e σ)
  (h2 : ((cmpI BinOp.neq (us.getD j.toNat 0) (us.getD i.toNat 0)) = false) → ((decide (0 ≤ i) = true) ∧ (decide (i < ↑(us.length)) = true) ∧ (decide (0 ≤ j) = true) ∧ (decide (j < ↑(us.length)) = true) ∧ True) ∧ (e = Ex.exit 2 ∧ σ = (rrT2 (us) (k) (i) (xs) (m) (j) (os)).abs)) : Runs Try.prog (CallsD Try.prog) (.rounds (loopAt Try.prog 11 1)) (rrT2 us k i xs m j os).abs e σ := by
  cases e0 : (cmpI BinOp.neq (us.getD j.toNat 0) (us.getD i.toNat 0)) with
  | true =>
    cases e1 : (!inB os (us.getD j.toNat 0)) with
    | true =>
      obtain ⟨⟨k0, k1, k2, k3, k4, k5, k6, k7, k8, k9, k10, k11, k12, _⟩, kr⟩ := h0 e0 e1
      exact rounds_on (hX1) (rrL2_r0 us k i xs m j os) ⟨k0, k1, k2, k3, k4, e1, k5, k6, k7, k8, e0, k9, k10, k11, k12, trivial⟩ kr
    | false =>
      obtain ⟨⟨k0, k1, k2, k3, k4, k5, k6, k7, _⟩, kr⟩ := h1 e0 e1
      exact rounds_on (hX1) (rrL2_r1 us k i xs m j os) ⟨e1, k0, k1, k2, k3, e0, k4, k5, k6, k7, trivial⟩ kr
  | false =>
    obtain ⟨⟨k0, k1, k2, k3, _⟩, kr⟩ := h2 e0
    exact rounds_end (hX1) (rrL2_r2 us k i xs m j os) ⟨e0, k0, k1, k2, k3, trivial⟩ (by simp) kr

theorem rrF_p0 (us : List Int) (k : Nat) (i : Int) (xs : List Int) : fnX Try.prog (X1) 100000 [.d true] 11 [ru us] = some (D.tup [D.v (Value.slice none 0 0), i64 4], [cmpI BinOp.gtr (↑(us.length)) 60 = true]) := by kernel_rfl
theorem rrF_p1 (us : List Int) (k : Nat) (i : Int) (xs : List Int) : fnX Try.prog (X1) 100000 [.d false, PE.k [Cast.nil 4 9001 1 [Col0.ints IntKind.i64 []]], PE.l [[0, 2, 3, 4, 5]] [(9001, 9001)] (rrT us 0 0 []) (Ex.exit 0) (rrT us k i xs)] 11 [ru us] = some (D.tup [D.oc [Col0.ints IntKind.i64 xs], i64 0], [k = xs.length, (rrT us 0 0 [] = rrT us 0 0 []), Runs Try.prog (CallsD Try.prog) (.code (.loop (loopAt Try.prog 11 0))) (rrT us 0 0 []).abs (Ex.exit 0) (rrT us k i xs).abs, cmpI BinOp.gtr (↑(us.length)) 60 = false]) := by kernel_rfl
theorem rrF_calls (us : List Int) (k : Nat) (i : Int) (xs : List Int) (res : D)
  (h0 : ((cmpI BinOp.gtr (↑(us.length)) 60) = true) → (True) ∧ res = D.tup [D.v (Value.slice none 0 0), i64 4])
  (h1 : ((cmpI BinOp.gtr (↑(us.length)) 60) = false) → ((k = xs.length) ∧ (Runs Try.prog (CallsD Try.prog) (.code (.loop (loopAt Try.prog 11 0))) (rrT us 0 0 []).abs (Ex.exit 0) (rrT us k i xs).abs) ∧ True) ∧ res = D.tup [D.oc [Col0.ints IntKind.i64 xs], i64 0]) : CallsD Try.prog 11 [ru us] res := by
  cases e0 : (cmpI BinOp.gtr (↑(us.length)) 60) with
  | true =>
    obtain ⟨_, kr⟩ := h0 e0
    exact of_path (hX1) (rrF_p0 us k i xs) ⟨e0, trivial⟩ kr
  | false =>
    obtain ⟨⟨k0, k1, _⟩, kr⟩ := h1 e0
    exact of_path (hX1) (rrF_p1 us k i xs) ⟨k0, rfl, k1, e0, trivial⟩ kr
theorem getD_rev (us : List Int) (i t : Nat) (h : t < i) (hi : i ≤ us.length) : ((us.take i).reverse).getD t 0 = us.getD (i - 1 - t) 0 := by
  rw [List.getD_eq_getElem?_getD, List.getD_eq_getElem?_getD, List.getElem?_reverse (by rw [List.length_take]; omega), List.length_take, Nat.min_eq_left hi, List.getElem?_take, if_pos (by omega)]
theorem rr_inner (us : List Int) (k i : Nat) (xs : List Int) (hi : i < us.length) (hl : us.length ≤ 60) (hm : us.getD i 0 ∈ us.take i) :
    Runs Try.prog (CallsD Try.prog) (.code (.loop (loopAt Try.prog 11 1))) (rrT2 us k i xs 0 ((i : Int) - 1) []).abs (.exit 2)
      (rrT2 us k i xs ((lru (us.take i)).idxOf (us.getD i 0)) ((i : Int) - 1 - ((us.take i).reverse.idxOf (us.getD i 0) : Nat)) (dd ((us.take i).reverse.take ((us.take i).reverse.idxOf (us.getD i 0))))).abs := by
  have hr : us.getD i 0 ∈ (us.take i).reverse := by simpa using hm
  have hix := dd_idx hr
  obtain ⟨hsp, hno⟩ := split_idx hr
  have hlr : (us.take i).reverse.length = i := by rw [List.length_reverse, List.length_take]; omega
  have hT : (us.take i).reverse.idxOf (us.getD i 0) < i := by have := List.idxOf_lt_length_iff.2 hr; rw [hlr] at this; exact this
  have hget : (us.take i).reverse.getD ((us.take i).reverse.idxOf (us.getD i 0)) 0 = us.getD i 0 := by
    rw [List.getD_eq_getElem?_getD, List.getElem?_eq_getElem (by rw [hlr]; exact hT)]
    exact List.getElem_idxOf (by rw [hlr]; exact hT)
  show Runs _ _ _ _ _ (rrT2 us k i xs ((dd (us.take i).reverse).idxOf (us.getD i 0)) _ _).abs
  rw [hix]
  generalize hTT : (us.take i).reverse.idxOf (us.getD i 0) = T at *
  refine loop_of_rounds ?_
  have hz := scan_all (P := Try.prog) (F := CallsD Try.prog) (b := loopAt Try.prog 11 1) (fun t => rrT2 us k i xs (dd ((us.take i).reverse.take t)).length ((i : Int) - 1 - (t : Nat)) (dd ((us.take i).reverse.take t))) T (fun _ => True) (fun t ht _ σ e hr => ?_) (σ := (rrT2 us k i xs (dd ((us.take i).reverse.take T)).length ((i : Int) - 1 - (T : Nat)) (dd ((us.take i).reverse.take T))).abs) (e := .exit 2) ?_ T 0 (by omega) (fun _ _ _ => trivial)
  · simpa [dd] using hz
  · have hj : ((i : Int) - 1 - (t : Nat)) = ((i - 1 - t : Nat) : Int) := by omega
    have hj2 : ((i : Int) - 1 - ((t + 1 : Nat) : Int)) = opI .sub .i64 (((i - 1 - t : Nat) : Int)) 1 := by rw [opI_sub, wrap_i64_of (by omega) (by omega)]; omega
    have b := natLt (n := us.length) (i := i - 1 - t) (by omega)
    have b2 := natLt hi
    have hgt := getD_rev us i t (by omega) (by omega)
    have hts : (us.take i).reverse.take (t + 1) = (us.take i).reverse.take t ++ [us.getD (i - 1 - t) 0] := by rw [take_snoc _ t (by rw [hlr]; omega), hgt]
    have hlen : (dd ((us.take i).reverse.take t)).length ≤ 60 := by
      have h2 : ∀ r : List Int, (dd r).length ≤ r.length := fun r => by have := lru_le r.reverse; simpa [lru] using this
      have := h2 ((us.take i).reverse.take t)
      rw [List.length_take] at this; omega
    have hne : us.getD (i - 1 - t) 0 ≠ us.getD i 0 := by
      rw [← hgt]
      intro q
      apply hno
      have : ((us.take i).reverse.take T)[t]? = some (us.getD i 0) := by
        rw [List.getElem?_take, if_pos ht, ← q, List.getD_eq_getElem?_getD, List.getElem?_eq_getElem (by rw [hlr]; omega)]; rfl
      exact List.mem_of_getElem? this
    rw [hj2] at hr
    rw [hts, dd_snoc] at hr
    rw [hj]
    refine rrL2_step us k i xs _ _ _ σ e (fun g1 g2 => ?_) (fun g1 g2 => ?_) fun g => ?_
    · rw [Int.toNat_natCast] at g2
      have hmem : us.getD (i - 1 - t) 0 ∉ (us.take i).reverse.take t := by
        intro q; unfold inB at g2; simp only [Bool.not_eq_true', decide_eq_false_iff_not] at g2; exact g2 (mem_dd.2 q)
      rw [if_neg hmem, List.length_append, List.length_singleton] at hr
      rw [Int.toNat_natCast]
      exact ⟨⟨by omega, rfl, rfl, b.1, b.2, rfl, by omega, b.1, b.2, b2.1, b2.2, b.1, b.2, trivial⟩, hr⟩
    · rw [Int.toNat_natCast] at g2
      have hmem : us.getD (i - 1 - t) 0 ∈ (us.take i).reverse.take t := by
        rw [← mem_dd]; unfold inB at g2; simpa using g2
      rw [if_pos hmem] at hr
      exact ⟨⟨rfl, by omega, b.1, b.2, b2.1, b2.2, b.1, b.2, trivial⟩, hr⟩
    · rw [Int.toNat_natCast, Int.toNat_natCast, neq_f] at g
      exact absurd g hne
  · have hj : ((i : Int) - 1 - (T : Nat)) = ((i - 1 - T : Nat) : Int) := by omega
    have b := natLt (n := us.length) (i := i - 1 - T) (by omega)
    have b2 := natLt hi
    have hgt := getD_rev us i T (by omega) (by omega)
    rw [hj]
    refine rrL2_step us k i xs _ _ _ _ _ (fun g1 _ => ?_) (fun g1 _ => ?_) fun g => ⟨⟨b2.1, b2.2, b.1, b.2, trivial⟩, rfl, rfl⟩
    · rw [Int.toNat_natCast, Int.toNat_natCast, neq_t, ← hgt, hget] at g1; exact absurd rfl g1
    · rw [Int.toNat_natCast, Int.toNat_natCast, neq_t, ← hgt, hget] at g1; exact absurd rfl g1
theorem rr_ok (us : List Int) : CallsD Try.prog 11 [ru us] (.tup [oi (reachV us), i64 (lenV us)]) := by
  unfold reachV lenV
  by_cases c : us.length ≤ 60
  · rw [if_pos c, if_pos c]
    refine rrF_calls us us.length us.length (reachL us) _ (fun g => by rw [gtr_t] at g; omega) fun _ => ⟨⟨(reachL_len us).symm, loop_of_rounds ?_, trivial⟩, rfl⟩
    have hz := scan_all (P := Try.prog) (F := CallsD Try.prog) (b := loopAt Try.prog 11 0) (fun i => rrT us i (i : Int) (reachL (us.take i))) us.length (fun _ => True) (fun i hi _ σ e hr => ?_) (σ := (rrT us us.length us.length (reachL us)).abs) (e := .exit 0) ?_ us.length 0 (by omega) (fun _ _ _ => trivial)
    · simpa [reachL] using hz
    · have b := natLt hi
      have hlen : (us.take i).length = i := by rw [List.length_take]; omega
      have hrl : (reachL (us.take i)).length = i := by rw [reachL_len, hlen]
      rw [take_one us i hi, reachL_snoc] at hr
      refine rrL_step us i i (reachL (us.take i)) ((lru (us.take i)).idxOf (us.getD i 0)) ((i : Int) - 1 - ((us.take i).reverse.idxOf (us.getD i 0) : Nat)) (dd ((us.take i).reverse.take ((us.take i).reverse.idxOf (us.getD i 0)))) σ e (fun _ g => ?_) (fun _ g => ?_) fun g => by rw [lss_f] at g; omega
      · unfold rrL_c0 at g
        rw [Int.toNat_natCast, Nat.sub_zero, List.drop_zero] at g ⊢
        have hm : us.getD i 0 ∉ us.take i := by unfold inB at g; simpa using g
        have hrc : rc (us.take i) (us.getD i 0) = -1 := by unfold rc; rw [if_neg hm]
        rw [hrc] at hr
        rw [succL hi (by omega)]
        exact ⟨⟨by omega, hrl.symm, rfl, by omega, b.1, b.2, b.1, by simp; omega, trivial⟩, hr⟩
      · unfold rrL_c0 at g
        rw [Int.toNat_natCast, Nat.sub_zero, List.drop_zero] at g ⊢
        have hm : us.getD i 0 ∈ us.take i := by unfold inB at g; simpa using g
        have hrc : rc (us.take i) (us.getD i 0) = ((lru (us.take i)).idxOf (us.getD i 0) : Int) := by unfold rc; rw [if_pos hm]
        rw [hrc] at hr
        have e1 : opI .sub .i64 (i : Int) 1 = (i : Int) - 1 := by rw [opI_sub, wrap_i64_of (by omega) (by omega)]
        rw [succL hi (by omega), e1]
        exact ⟨⟨by omega, hrl.symm, rfl, rr_inner us i i _ hi c hm, by omega, b.1, b.2, b.1, by simp; omega, trivial⟩, hr⟩
    · rw [List.take_length]
      refine rrL_step us _ us.length _ 0 0 [] _ _ (fun g => by rw [lss_t] at g; omega) (fun g => by rw [lss_t] at g; omega) fun _ => ⟨trivial, rfl, rfl⟩
  · rw [if_neg c, if_neg c]
    refine calls_reads (e := .tup [nilD, i64 4]) (ReadsNs.tup (.cons (.nil rfl) (.refl _))) ?_
    exact rrF_calls us 0 0 [] _ (fun _ => ⟨trivial, rfl⟩) fun g => by rw [gtr_f] at g; omega
end EvS
end

section
namespace EvS
open Go Go.Dam Go.Proofs
set_option maxRecDepth 1000000
set_option linter.unusedVariables false
set_option linter.unusedSectionVars false
set_option linter.unusedSimpArgs false

theorem mxL_r0 (xs : List Int) (r m i : Int) : roundX Try.prog (X1) 100000 (loopAt Try.prog 29 0) [.d true] [[0, 2, 3, 4]] [] (mxT xs r m i) = some (Ex.normal, (mxT (xs) (r) (mostI BinOp.gtr m (xs.getD i.toNat 0)) (opI BinOp.add IntKind.i64 i 1)), [decide (0 ≤ i) = true, decide (i < ↑(xs.length)) = true, cmpI BinOp.lss i ↑(xs.length) = true]) := by kernel_rfl
theorem mxL_r1 (xs : List Int) (r m i : Int) : roundX Try.prog (X1) 100000 (loopAt Try.prog 29 0) [.d false] [[0, 2, 3, 4]] [] (mxT xs r m i) = some (Ex.exit 0, (mxT (xs) (r) (m) (i)), [cmpI BinOp.lss i ↑(xs.length) = false]) := by kernel_rfl
theorem mxL_step (xs : List Int) (r : Int) (m : Int) (i : Int) (σ : St) (e : Ex)
  (h0 : ((cmpI BinOp.lss i ↑(xs.length)) = true) → ((decide (0 ≤ i) = true) ∧ (decide (i < ↑(xs.length)) = true) ∧ True) ∧ Runs Try.prog (CallsD Try.prog) (.rounds (loopAt Try.prog 29 0)) (mxT (xs) (r) (mostI BinOp.gtr m (xs.getD i.toNat 0)) (opI BinOp.add IntKind.i64 i 1)).abs e σ)
  (h1 : ((cmpI BinOp.lss i ↑(xs.length)) = false) → (True) ∧ (e = Ex.exit 0 ∧ σ = (mxT (xs) (r) (m) (i)).abs)) : Runs Try.prog (CallsD Try.prog) (.rounds (loopAt Try.prog 29 0)) (mxT xs r m i).abs e σ := by
  cases e0 : (cmpI BinOp.lss i ↑(xs.length)) with
  | true =>
    obtain ⟨⟨k0, k1, _⟩, kr⟩ := h0 e0
    exact rounds_on (hX1) (mxL_r0 xs r m i) ⟨k0, k1, e0, trivial⟩ kr
  | false =>
    obtain ⟨_, kr⟩ := h1 e0
    exact rounds_end (hX1) (mxL_r1 xs r m i) ⟨e0, trivial⟩ (by simp) kr

theorem mxF_p0 (xs : List Int) (r m i : Int) : fnX Try.prog (X1) 100000 [.d false, PE.l [[0, 2, 3, 4]] [] (mxT xs 0 (xs.getD 0 0) 1) (Ex.exit 0) (mxT xs r m i)] 29 [ri xs] = some (i64 m, [(mxT xs 0 (xs.getD 0 0) 1 = mxT xs 0 (xs.getD 0 0) 1), Runs Try.prog (CallsD Try.prog) (.code (.loop (loopAt Try.prog 29 0))) (mxT xs 0 (xs.getD 0 0) 1).abs (Ex.exit 0) (mxT xs r m i).abs, true = true, decide (0 < (xs.length : Int)) = true, cmpI BinOp.lss (↑(xs.length)) 1 = false]) := by kernel_rfl
theorem mxF_calls (xs : List Int) (r m i : Int) (res : D)
  (e0 : (cmpI BinOp.lss (↑(xs.length)) 1) = false)
  (h0 : ((Runs Try.prog (CallsD Try.prog) (.code (.loop (loopAt Try.prog 29 0))) (mxT xs 0 (xs.getD 0 0) 1).abs (Ex.exit 0) (mxT xs r m i).abs) ∧ (decide (0 < (xs.length : Int)) = true) ∧ True) ∧ res = i64 m) : CallsD Try.prog 29 [ri xs] res := by
  obtain ⟨⟨k0, k1, _⟩, kr⟩ := h0
  exact of_path (hX1) (mxF_p0 xs r m i) ⟨rfl, k0, rfl, k1, e0, trivial⟩ kr
theorem mostI_max (p q : Int) : mostI .gtr p q = max p q := by
  show (bif decide (q > p) then q else p) = _
  by_cases h : q > p
  · simp [h]; omega
  · simp [h]; omega
def maxV (xs : List Int) : Int := xs.foldl max (xs.getD 0 0)
theorem mx_ok (xs : List Int) (h : 1 ≤ xs.length ∧ xs.length ≤ 200) : CallsD Try.prog 29 [ri xs] (i64 (maxV xs)) := by
  obtain ⟨h0, h1⟩ := h
  refine mxF_calls xs 0 (maxV xs) xs.length _ (by rw [lss_f]; omega) ⟨⟨loop_of_rounds ?_, by simp; omega, trivial⟩, rfl⟩
  have hz := scan_all (P := Try.prog) (F := CallsD Try.prog) (b := loopAt Try.prog 29 0) (fun i => mxT xs 0 ((xs.take i).foldl max (xs.getD 0 0)) (i : Int)) xs.length (fun _ => True) (fun i hi _ σ e hr => ?_) (σ := (mxT xs 0 (maxV xs) xs.length).abs) (e := .exit 0) ?_ (xs.length - 1) 1 (by omega) (fun _ _ _ => trivial)
  · cases xs with
    | nil => simp at h0
    | cons x t => simpa [Int.max_self] using hz
  · have b := natLt hi
    rw [take_snoc xs i hi, List.foldl_append] at hr
    refine mxL_step xs 0 _ i σ e (fun _ => ?_) fun g => by rw [lss_f] at g; omega
    rw [Int.toNat_natCast, succL hi (by omega), mostI_max]
    exact ⟨⟨b.1, b.2, trivial⟩, hr⟩
  · rw [List.take_length]
    exact mxL_step xs 0 _ xs.length _ _ (fun g => by rw [lss_t] at g; omega) fun _ => ⟨trivial, rfl, rfl⟩

theorem hiL_r0 (c n : Int) (k : Nat) (m i : Int) (xs : List Int) : roundX Try.prog (X1) 100000 (loopAt Try.prog 12 0) [.d true, .d true, .c 1, .d true] [[0, 4, 5, 7, 17, 18, 19]] [(544, 544)] (hiT c n k m i xs) = some (Ex.normal, (hiT (c) (opI BinOp.add IntKind.i64 n 1) (k) (m) (opI BinOp.add IntKind.i64 i 1) (xs)), [cmpI BinOp.lss (xs.getD i.toNat 0) c = true, cmpI BinOp.geq (xs.getD i.toNat 0) 0 = true, i.toNat < xs.length, decide (0 ≤ i) = true, decide (i < ↑k) = true, cmpI BinOp.lss i m = true]) := by kernel_rfl
theorem hiL_r1 (c n : Int) (k : Nat) (m i : Int) (xs : List Int) : roundX Try.prog (X1) 100000 (loopAt Try.prog 12 0) [.d true, .d true, .c 1, .d false] [[0, 4, 5, 7, 17, 18, 19]] [(544, 544)] (hiT c n k m i xs) = some (Ex.normal, (hiT (c) (n) (k) (m) (opI BinOp.add IntKind.i64 i 1) (xs)), [cmpI BinOp.lss (xs.getD i.toNat 0) c = false, cmpI BinOp.geq (xs.getD i.toNat 0) 0 = true, i.toNat < xs.length, decide (0 ≤ i) = true, decide (i < ↑k) = true, cmpI BinOp.lss i m = true]) := by kernel_rfl
theorem hiL_r2 (c n : Int) (k : Nat) (m i : Int) (xs : List Int) : roundX Try.prog (X1) 100000 (loopAt Try.prog 12 0) [.d true, .d false, .c 2] [[0, 4, 5, 7, 17, 18, 19]] [(544, 544)] (hiT c n k m i xs) = some (Ex.normal, (hiT (c) (n) (k) (m) (opI BinOp.add IntKind.i64 i 1) (xs)), [cmpI BinOp.geq (xs.getD i.toNat 0) 0 = false, i.toNat < xs.length, decide (0 ≤ i) = true, decide (i < ↑k) = true, cmpI BinOp.lss i m = true]) := by kernel_rfl
theorem hiL_r3 (c n : Int) (k : Nat) (m i : Int) (xs : List Int) : roundX Try.prog (X1) 100000 (loopAt Try.prog 12 0) [.d false] [[0, 4, 5, 7, 17, 18, 19]] [(544, 544)] (hiT c n k m i xs) = some (Ex.exit 0, (hiT (c) (n) (k) (m) (i) (xs)), [cmpI BinOp.lss i m = false]) := by kernel_rfl
theorem hiL_step (c : Int) (n : Int) (k : Nat) (m : Int) (i : Int) (xs : List Int) (σ : St) (e : Ex)
  (h0 : ((cmpI BinOp.lss i m) = true) → ((cmpI BinOp.geq (xs.getD i.toNat 0) 0) = true) → ((cmpI BinOp.lss (xs.getD i.toNat 0) c) = true) → ((i.toNat < xs.length) ∧ (decide (0 ≤ i) = true) ∧ (decide (i < ↑k) = true) ∧ True) ∧ Runs Try.prog (CallsD Try.prog) (.rounds (loopAt Try.prog 12 0)) (hiT (c) (opI BinOp.add IntKind.i64 n 1) (k) (m) (opI BinOp.add IntKind.i64 i 1) (xs)).abs e σ)
  (h1 : ((cmpI BinOp.lss i m) = true) → ((cmpI BinOp.geq (xs.getD i.toNat 0) 0) = true) → ((cmpI BinOp.lss (xs.getD i.toNat 0) c) = false) → ((i.toNat < xs.length) ∧ (decide (0 ≤ i) = true) ∧ (decide (i < ↑k) = true) ∧ True) ∧ Runs Try.prog (CallsD Try.prog) (.rounds (loopAt Try.prog 12 0)) (hiT (c) (n) (k) (m) (opI BinOp.add IntKind.i64 i 1) (xs)).abs e σ)
  (h2 : ((cmpI BinOp.lss i m) = true) → ((cmpI BinOp.geq (xs.getD i.toNat 0) 0) = false) → ((i.toNat < xs.length) ∧ (decide (0 ≤ i) = true) ∧ (decide (i < ↑k) = true) ∧ True) ∧ Runs Try.prog (CallsD Try.prog) (.rounds (loopAt Try.prog 12 0)) (hiT (c) (n) (k) (m) (opI BinOp.add IntKind.i64 i 1) (xs)).abs e σ)
  (h3 : ((cmpI BinOp.lss i m) = false) → (True) ∧ (e = Ex.exit 0 ∧ σ = (hiT (c) (n) (k) (m) (i) (xs)).abs)) : Runs Try.prog (CallsD Try.prog) (.rounds (loopAt Try.prog 12 0)) (hiT c n k m i xs).abs e σ := by
  cases e0 : (cmpI BinOp.lss i m) with
  | true =>
    cases e1 : (cmpI BinOp.geq (xs.getD i.toNat 0) 0) with
    | true =>
      cases e2 : (cmpI BinOp.lss (xs.getD i.toNat 0) c) with
      | true =>
        obtain ⟨⟨k0, k1, k2, _⟩, kr⟩ := h0 e0 e1 e2
        exact rounds_on (hX1) (hiL_r0 c n k m i xs) ⟨e2, e1, k0, k1, k2, e0, trivial⟩ kr
      | false =>
        obtain ⟨⟨k0, k1, k2, _⟩, kr⟩ := h1 e0 e1 e2
        exact rounds_on (hX1) (hiL_r1 c n k m i xs) ⟨e2, e1, k0, k1, k2, e0, trivial⟩ kr
    | false =>
      obtain ⟨⟨k0, k1, k2, _⟩, kr⟩ := h2 e0 e1
      exact rounds_on (hX1) (hiL_r2 c n k m i xs) ⟨e1, k0, k1, k2, e0, trivial⟩ kr
  | false =>
    obtain ⟨_, kr⟩ := h3 e0
    exact rounds_end (hX1) (hiL_r3 c n k m i xs) ⟨e0, trivial⟩ (by simp) kr
noncomputable def hiF_c0 (c : Int) (us : List Int) := hiT c 0 ((reachL us).length) (↑((reachL us).length)) 0 (reachL us)
noncomputable def hiF_c1 (c : Int) (us : List Int) (n i : Int) := hiT c n ((reachL us).length) (↑((reachL us).length)) i (reachL us)
theorem hiF_p0 (c : Int) (us : List Int) (n i : Int) : fnX Try.prog (X1) 100000 [.d true] 12 [i64 c, ru us] = some (D.tup [i64 0, i64 (chkV c us.length)], [cmpI BinOp.neq (chkV c us.length) 0 = true]) := by kernel_rfl
theorem hiF_p1 (c : Int) (us : List Int) (n i : Int) : fnX Try.prog (X1) 100000 [.d false, PE.l [[0, 4, 5, 7, 17, 18, 19]] [(544, 544)] (hiF_c0 c us) (Ex.exit 0) (hiF_c1 c us n i)] 12 [i64 c, ru us] = some (D.tup [i64 n, i64 0], [(hiT c 0 ((reachL us).length) (↑((reachL us).length)) 0 (reachL us) = hiT c 0 ((reachL us).length) (↑((reachL us).length)) 0 (reachL us)), Runs Try.prog (CallsD Try.prog) (.code (.loop (loopAt Try.prog 12 0))) (hiF_c0 c us).abs (Ex.exit 0) (hiF_c1 c us n i).abs, okX us, cmpI BinOp.neq (chkV c us.length) 0 = false]) := by kernel_rfl
theorem hiF_calls (c : Int) (us : List Int) (n i : Int) (res : D)
  (h0 : ((cmpI BinOp.neq (chkV c us.length) 0) = true) → (True) ∧ res = D.tup [i64 0, i64 (chkV c us.length)])
  (h1 : ((cmpI BinOp.neq (chkV c us.length) 0) = false) → ((Runs Try.prog (CallsD Try.prog) (.code (.loop (loopAt Try.prog 12 0))) (hiF_c0 c us).abs (Ex.exit 0) (hiF_c1 c us n i).abs) ∧ (okX us) ∧ True) ∧ res = D.tup [i64 n, i64 0]) : CallsD Try.prog 12 [i64 c, ru us] res := by
  cases e0 : (cmpI BinOp.neq (chkV c us.length) 0) with
  | true =>
    obtain ⟨_, kr⟩ := h0 e0
    exact of_path (hX1) (hiF_p0 c us n i) ⟨e0, trivial⟩ kr
  | false =>
    obtain ⟨⟨k0, k1, _⟩, kr⟩ := h1 e0
    exact of_path (hX1) (hiF_p1 c us n i) ⟨rfl, k0, k1, e0, trivial⟩ kr
def hitsV (c : Int) (us : List Int) : Int := if chkV c us.length = 0 then (hitsL c.toNat us : Int) else 0
theorem hi_ok (c : Int) (us : List Int) (h : okX us) : CallsD Try.prog 12 [i64 c, ru us] (.tup [i64 (hitsV c us), i64 (chkV c us.length)]) := by
  unfold hitsV
  by_cases e : chkV c us.length = 0
  · rw [if_pos e, e]
    obtain ⟨h1, h2, h3⟩ := chk_pos e
    obtain ⟨cn, rfl⟩ := Int.eq_ofNat_of_zero_le (by omega : 0 ≤ c)
    rw [Int.toNat_natCast]
    refine hiF_calls cn us (hitsL cn us) (reachL us).length _ (fun g => by rw [neq_t] at g; exact absurd e g) fun _ => ⟨⟨loop_of_rounds ?_, h, trivial⟩, rfl⟩
    have hrl := reachL_len us
    unfold hiF_c0 hiF_c1
    generalize hx : reachL us = xs at *
    have hc : hitsL cn us = (xs.take xs.length).countP fun r => decide (0 ≤ r ∧ r < (cn : Int)) := by rw [List.take_length, ← hx]; rfl
    rw [hc]
    have hz := scan_all (P := Try.prog) (F := CallsD Try.prog) (b := loopAt Try.prog 12 0) (fun i => hiT cn ((xs.take i).countP fun r => decide (0 ≤ r ∧ r < (cn : Int)) : Nat) xs.length xs.length (i : Int) xs) xs.length (fun _ => True) (fun i hi _ σ e hr => ?_) (σ := (hiT cn ((xs.take xs.length).countP fun r => decide (0 ≤ r ∧ r < (cn : Int)) : Nat) xs.length xs.length xs.length xs).abs) (e := .exit 0) ?_ xs.length 0 (by omega) (fun _ _ _ => trivial)
    · simpa using hz
    · have b := natLt hi
      have hcl : ((xs.take i).countP fun r => decide (0 ≤ r ∧ r < (cn : Int))) ≤ 200 := by
        have := List.countP_le_length (p := fun r => decide (0 ≤ r ∧ r < (cn : Int))) (l := xs.take i)
        rw [List.length_take] at this; omega
      rw [take_snoc xs i hi, List.countP_append, List.countP_singleton] at hr
      refine hiL_step cn _ _ _ i xs σ e (fun _ g1 g2 => ?_) (fun _ g1 g2 => ?_) (fun _ g => ?_) fun g => by rw [lss_f] at g; omega
      · rw [Int.toNat_natCast, geq_t] at g1
        rw [Int.toNat_natCast, lss_t] at g2
        rw [if_pos (by simp only [decide_eq_true_eq]; exact ⟨g1, g2⟩)] at hr
        have e1 : ∀ n : Nat, n ≤ 200 → opI .add .i64 (n : Int) 1 = ((n + 1 : Nat) : Int) := fun n hn => by rw [opI_add, wrap_i64_of (by omega) (by omega)]; omega
        rw [succL hi (by omega), e1 _ hcl]
        exact ⟨⟨by rw [Int.toNat_natCast]; exact hi, b.1, b.2, trivial⟩, hr⟩
      · rw [Int.toNat_natCast, lss_f] at g2
        rw [if_neg (by simp only [decide_eq_true_eq]; omega), Nat.add_zero] at hr
        rw [succL hi (by omega)]
        exact ⟨⟨by rw [Int.toNat_natCast]; exact hi, b.1, b.2, trivial⟩, hr⟩
      · rw [Int.toNat_natCast, geq_f] at g
        rw [if_neg (by simp only [decide_eq_true_eq]; omega), Nat.add_zero] at hr
        rw [succL hi (by omega)]
        exact ⟨⟨by rw [Int.toNat_natCast]; exact hi, b.1, b.2, trivial⟩, hr⟩
    · exact hiL_step cn _ _ _ xs.length xs _ _ (fun g => by rw [lss_t] at g; omega) (fun g => by rw [lss_t] at g; omega) (fun g => by rw [lss_t] at g; omega) fun _ => ⟨trivial, rfl, rfl⟩
  · rw [if_neg e]
    exact hiF_calls c us 0 0 _ (fun _ => ⟨trivial, rfl⟩) fun g => by rw [neq_f] at g; exact absurd g e
theorem findI_or {p q : Nat → Bool} (n : Nat) : decide (findI (fun i => p i || q i) n 0 < 0) = (decide (findI p n 0 < 0) && decide (findI q n 0 < 0)) := by
  rw [Bool.eq_iff_iff]
  simp only [decide_eq_true_eq, Bool.and_eq_true, findI_lt, Bool.or_eq_false_iff]
  exact ⟨fun h => ⟨fun j a b => (h j a b).1, fun j a b => (h j a b).2⟩, fun h j a b => ⟨h.1 j a b, h.2 j a b⟩⟩
theorem sg_ok (xs ks ys ls : List Int) (h : xs.length ≤ 200 ∧ ks.length = xs.length ∧ ls.length = ys.length) : CallsD Try.prog 17 [rg xs ks, rg ys ls] (bo (eqB xs ys && eqB ks ls)) := by
  obtain ⟨h0, h1, h2⟩ := h
  unfold eqB
  by_cases hl : xs.length = ys.length
  · rw [getD_same hl, getD_same (show ks.length = ls.length by omega), h1, ← findI_or]
    refine look_for (b := loopAt Try.prog 17 0) (fun i => sgT xs ks ys ls false (i : Int)) xs.length (fun i => xs.getD i 0 != ys.getD i 0 || ks.getD i 0 != ls.getD i 0) (fun v => CallsD Try.prog 17 [rg xs ks, rg ys ls] (bo (decide (v < 0)))) ?_ ?_ ?_
    · intro i hi hp σ e hr
      have hj : i < ys.length := by omega
      simp only [Bool.or_eq_false_iff, bne_eq_false_iff_eq] at hp
      refine sgL_step xs ks ys ls false i σ e ?_ ?_ ?_
      · intro _ g; unfold sgL_c0 at g; rw [Int.toNat_natCast] at g; rw [hp.1, hp.2] at g; simp at g
      · intro _ _; rw [succL hi h0]; exact ⟨⟨(natLt hj).1, (natLt hj).2, (natLt hi).1, (natLt hi).2, trivial⟩, hr⟩
      · intro g; rw [lss_f] at g; omega
    · intro hr
      refine sgF_calls xs ks ys ls false xs.length _ (fun g => ?_) fun _ => ⟨⟨loop_of_rounds (hr _ _ (sgL_step xs ks ys ls false xs.length _ _ ?_ ?_ ?_)), trivial⟩, rfl⟩
      · rw [neq_t] at g; omega
      · intro g; rw [lss_t] at g; omega
      · intro g; rw [lss_t] at g; omega
      · intro _; exact ⟨trivial, rfl, rfl⟩
    · intro j hj hp hr
      have hj' : j < ys.length := by omega
      refine sgR_calls xs ks ys ls false j _ (fun g => ?_) fun _ => ⟨⟨loop_of_rounds (hr _ _ (sgL_step xs ks ys ls false j _ _ ?_ ?_ ?_)), trivial⟩, by simp⟩
      · rw [neq_t] at g; omega
      · intro _ _; exact ⟨⟨(natLt hj').1, (natLt hj').2, (natLt hj).1, (natLt hj).2, trivial⟩, rfl, rfl⟩
      · intro _ g; unfold sgL_c0 at g; rw [Int.toNat_natCast] at g
        simp only [Bool.not_eq_false', Bool.and_eq_true, beq_iff_eq, Bool.and_true] at g
        rw [g.1, g.2] at hp; simp at hp
      · intro g; rw [lss_f] at g; omega
  · rw [decide_eq_false (fun e => hl (by rw [e])), Bool.false_and]
    refine sgF_calls xs ks ys ls false 0 _ (fun _ => ⟨trivial, rfl⟩) fun g => ?_
    rw [neq_f] at g; omega
def mxC : List D → Option (D × List Prop)
  | [.rc [.ints .i64 xs]] => some (i64 (maxV xs), [1 ≤ xs.length ∧ xs.length ≤ 200])
  | _ => none
theorem mxC_ok (args res l) (h : mxC args = some (res, l)) (hl : AllP l) : CallsD Try.prog 29 args res := by
  unfold mxC at h; split at h
  · simp only [Option.some.injEq, Prod.mk.injEq] at h
    obtain ⟨rfl, rfl⟩ := h; obtain ⟨h0, _⟩ := hl
    exact mx_ok _ h0
  · cases h
def hiC : List D → Option (D × List Prop)
  | [.v (.int .i64 c), .rc [.ints .u32 us]] => some ((.tup [i64 (hitsV c us), i64 (chkV c us.length)]), [okX us])
  | _ => none
theorem hiC_ok (args res l) (h : hiC args = some (res, l)) (hl : AllP l) : CallsD Try.prog 12 args res := by
  unfold hiC at h; split at h
  · simp only [Option.some.injEq, Prod.mk.injEq] at h
    obtain ⟨rfl, rfl⟩ := h; obtain ⟨h0, _⟩ := hl
    exact hi_ok _ _ h0
  · cases h
def sgC : List D → Option (D × List Prop)
  | [.rc [.ints .i64 xs, .ints .u32 ks], .rc [.ints .i64 ys, .ints .u32 ls]] => some (bo (eqB xs ys && eqB ks ls), [xs.length ≤ 200 ∧ ks.length = xs.length ∧ ls.length = ys.length])
  | _ => none
theorem sgC_ok (args res l) (h : sgC args = some (res, l)) (hl : AllP l) : CallsD Try.prog 17 args res := by
  unfold sgC at h; split at h
  · simp only [Option.some.injEq, Prod.mk.injEq] at h
    obtain ⟨rfl, rfl⟩ := h; obtain ⟨h0, _⟩ := hl
    exact sg_ok _ _ _ _ h0
  · cases h
def roC : List D → Option (D × List Prop)
  | [.v (.int .i64 c), .rc [.ints .u32 us]] => some ((.tup [ou (orderL c us), i64 (chkV c us.length)]), [])
  | _ => none
theorem roC_ok (args res l) (h : roC args = some (res, l)) (hl : AllP l) : CallsD Try.prog 7 args res := by
  unfold roC at h; split at h
  · simp only [Option.some.injEq, Prod.mk.injEq] at h
    obtain ⟨rfl, rfl⟩ := h
    exact ro_ok _ _ 
  · cases h
def rvC : List D → Option (D × List Prop)
  | [.v (.int .i64 c), .rc [.ints .u32 us]] => some ((.tup [og (evUL c us) (evKL c us), i64 (chkV c us.length)]), [])
  | _ => none
theorem rvC_ok (args res l) (h : rvC args = some (res, l)) (hl : AllP l) : CallsD Try.prog 9 args res := by
  unfold rvC at h; split at h
  · simp only [Option.some.injEq, Prod.mk.injEq] at h
    obtain ⟨rfl, rfl⟩ := h
    exact rv_ok _ _ 
  · cases h
def rrC : List D → Option (D × List Prop)
  | [.rc [.ints .u32 us]] => some ((.tup [oi (reachV us), i64 (lenV us)]), [])
  | _ => none
theorem rrC_ok (args res l) (h : rrC args = some (res, l)) (hl : AllP l) : CallsD Try.prog 11 args res := by
  unfold rrC at h; split at h
  · simp only [Option.some.injEq, Prod.mk.injEq] at h
    obtain ⟨rfl, rfl⟩ := h
    exact rr_ok _ 
  · cases h
def rhC : List D → Option (D × List Prop)
  | [.v (.int .i64 c), .rc [.ints .u32 us]] => some (i64 (hitsL c.toNat us), [us.length ≤ 100 ∧ 0 ≤ c ∧ c ≤ 200])
  | _ => none
theorem rhC_ok (args res l) (h : rhC args = some (res, l)) (hl : AllP l) : CallsD Try.prog 28 args res := by
  unfold rhC at h; split at h
  · simp only [Option.some.injEq, Prod.mk.injEq] at h
    obtain ⟨rfl, rfl⟩ := h; obtain ⟨h0, _⟩ := hl
    exact rh_ok _ _ h0
  · cases h
def X2 : Contracts := addCon 29 (.call mxC) (addCon 12 (.call hiC) (addCon 17 (.call sgC) (addCon 7 (.call roC) (addCon 9 (.call rvC) (addCon 11 (.call rrC) (addCon 28 (.call rhC) X1))))))
theorem hX2 : ConOK Try.prog X2 := addCall_ok mxC_ok (addCall_ok hiC_ok (addCall_ok sgC_ok (addCall_ok roC_ok (addCall_ok rvC_ok (addCall_ok rrC_ok (addCall_ok rhC_ok hX1))))))
noncomputable def rnT (us : List Int) (n i : Int) : Cs := ⟨TT.of [(0, ru us), (2, i64 0), (3, i64 0), (4, i64 n), (5, i64 i)], 34, [], [], none, 0⟩
noncomputable def rnT2 (us : List Int) (a n : Int) : Cs := ⟨TT.of [(0, ru us), (2, i64 0), (3, i64 0), (4, i64 a), (6, i64 n)], 34, [], [], none, 0⟩
end EvS
end
