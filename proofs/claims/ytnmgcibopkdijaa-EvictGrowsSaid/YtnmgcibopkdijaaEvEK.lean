/- The functions of the folder evict: what they compute. No condition. -/
import Derived.Test.YtnmgcibopkdijaaEvEI
set_option linter.unusedSectionVars false
set_option linter.unusedVariables false
set_option linter.unusedSimpArgs false
section
namespace EvS
open Go Go.Dam Go.Proofs
set_option maxRecDepth 1000000
set_option linter.unusedVariables false
set_option linter.unusedSectionVars false
set_option linter.unusedSimpArgs false
theorem getD_same {xs ys : List Int} (h : xs.length = ys.length) : decide (xs = ys) = decide (findI (fun i => xs.getD i 0 != ys.getD i 0) xs.length 0 < 0) := by
  rw [Bool.eq_iff_iff]
  simp only [decide_eq_true_eq, findI_lt]
  constructor
  · rintro rfl j _ _; simp
  · intro q
    apply List.ext_getElem h
    intro i h1 h2
    have := q i (by omega) (by omega)
    simpa [List.getD_eq_getElem?_getD, List.getElem?_eq_getElem h1, List.getElem?_eq_getElem h2] using this

theorem haL_r0 (xs : List Int) (n : Int) (o : Bool) (i : Int) : roundX Try.prog (X0) 100000 (loopAt Try.prog 27 0) [.d true, .d true] [[0, 1, 4, 5]] [] (haT xs n o i) = some (Ex.ret, (haT (xs) (n) (true) (i)), [cmpI BinOp.eql (xs.getD i.toNat 0) n = true, decide (0 ≤ i) = true, decide (i < ↑(xs.length)) = true, cmpI BinOp.lss i ↑(xs.length) = true]) := by kernel_rfl
theorem haL_r1 (xs : List Int) (n : Int) (o : Bool) (i : Int) : roundX Try.prog (X0) 100000 (loopAt Try.prog 27 0) [.d true, .d false] [[0, 1, 4, 5]] [] (haT xs n o i) = some (Ex.normal, (haT (xs) (n) (o) (opI BinOp.add IntKind.i64 i 1)), [cmpI BinOp.eql (xs.getD i.toNat 0) n = false, decide (0 ≤ i) = true, decide (i < ↑(xs.length)) = true, cmpI BinOp.lss i ↑(xs.length) = true]) := by kernel_rfl
theorem haL_r2 (xs : List Int) (n : Int) (o : Bool) (i : Int) : roundX Try.prog (X0) 100000 (loopAt Try.prog 27 0) [.d false] [[0, 1, 4, 5]] [] (haT xs n o i) = some (Ex.exit 0, (haT (xs) (n) (o) (i)), [cmpI BinOp.lss i ↑(xs.length) = false]) := by kernel_rfl
theorem haL_step (xs : List Int) (n : Int) (o : Bool) (i : Int) (σ : St) (e : Ex)
  (h0 : ((cmpI BinOp.lss i ↑(xs.length)) = true) → ((cmpI BinOp.eql (xs.getD i.toNat 0) n) = true) → ((decide (0 ≤ i) = true) ∧ (decide (i < ↑(xs.length)) = true) ∧ True) ∧ (e = Ex.ret ∧ σ = (haT (xs) (n) (true) (i)).abs))
  (h1 : ((cmpI BinOp.lss i ↑(xs.length)) = true) → ((cmpI BinOp.eql (xs.getD i.toNat 0) n) = false) → ((decide (0 ≤ i) = true) ∧ (decide (i < ↑(xs.length)) = true) ∧ True) ∧ Runs Try.prog (CallsD Try.prog) (.rounds (loopAt Try.prog 27 0)) (haT (xs) (n) (o) (opI BinOp.add IntKind.i64 i 1)).abs e σ)
  (h2 : ((cmpI BinOp.lss i ↑(xs.length)) = false) → (True) ∧ (e = Ex.exit 0 ∧ σ = (haT (xs) (n) (o) (i)).abs)) : Runs Try.prog (CallsD Try.prog) (.rounds (loopAt Try.prog 27 0)) (haT xs n o i).abs e σ := by
  cases e0 : (cmpI BinOp.lss i ↑(xs.length)) with
  | true =>
    cases e1 : (cmpI BinOp.eql (xs.getD i.toNat 0) n) with
    | true =>
      obtain ⟨⟨k0, k1, _⟩, kr⟩ := h0 e0 e1
      exact rounds_end (hX0) (haL_r0 xs n o i) ⟨e1, k0, k1, e0, trivial⟩ (by simp) kr
    | false =>
      obtain ⟨⟨k0, k1, _⟩, kr⟩ := h1 e0 e1
      exact rounds_on (hX0) (haL_r1 xs n o i) ⟨e1, k0, k1, e0, trivial⟩ kr
  | false =>
    obtain ⟨_, kr⟩ := h2 e0
    exact rounds_end (hX0) (haL_r2 xs n o i) ⟨e0, trivial⟩ (by simp) kr

theorem haF_p0 (xs : List Int) (n : Int) (o : Bool) (i : Int) : fnX Try.prog (X0) 100000 [PE.l [[0, 1, 4, 5]] [] (haT xs n false 0) (Ex.exit 0) (haT xs n o i)] 27 [ru xs, u32 n] = some (bo false, [(haT xs n false 0 = haT xs n false 0), Runs Try.prog (CallsD Try.prog) (.code (.loop (loopAt Try.prog 27 0))) (haT xs n false 0).abs (Ex.exit 0) (haT xs n o i).abs]) := by kernel_rfl
theorem haF_calls (xs : List Int) (n : Int) (o : Bool) (i : Int) (res : D)
  (h0 : ((Runs Try.prog (CallsD Try.prog) (.code (.loop (loopAt Try.prog 27 0))) (haT xs n false 0).abs (Ex.exit 0) (haT xs n o i).abs) ∧ True) ∧ res = bo false) : CallsD Try.prog 27 [ru xs, u32 n] res := by
  obtain ⟨⟨k0, _⟩, kr⟩ := h0
  exact of_path (hX0) (haF_p0 xs n o i) ⟨rfl, k0, trivial⟩ kr

theorem haR_p0 (xs : List Int) (n : Int) (o : Bool) (i : Int) : fnX Try.prog (X0) 100000 [PE.l [[0, 1, 4, 5]] [] (haT xs n false 0) Ex.ret (haT xs n o i)] 27 [ru xs, u32 n] = some (bo o, [(haT xs n false 0 = haT xs n false 0), Runs Try.prog (CallsD Try.prog) (.code (.loop (loopAt Try.prog 27 0))) (haT xs n false 0).abs (Ex.ret) (haT xs n o i).abs]) := by kernel_rfl
theorem haR_calls (xs : List Int) (n : Int) (o : Bool) (i : Int) (res : D)
  (h0 : ((Runs Try.prog (CallsD Try.prog) (.code (.loop (loopAt Try.prog 27 0))) (haT xs n false 0).abs (Ex.ret) (haT xs n o i).abs) ∧ True) ∧ res = bo o) : CallsD Try.prog 27 [ru xs, u32 n] res := by
  obtain ⟨⟨k0, _⟩, kr⟩ := h0
  exact of_path (hX0) (haR_p0 xs n o i) ⟨rfl, k0, trivial⟩ kr
theorem ha_ok (xs : List Int) (n : Int) (h : xs.length ≤ 300) : CallsD Try.prog 27 [ru xs, u32 n] (bo (inB xs n)) := by
  unfold inB; rw [mem_findI]
  refine look_for (b := loopAt Try.prog 27 0) (fun i => haT xs n false (i : Int)) xs.length (fun i => xs.getD i 0 == n) (fun v => CallsD Try.prog 27 [ru xs, u32 n] (bo (!decide (v < 0)))) ?_ ?_ ?_
  · intro i hi hp σ e hr
    refine haL_step xs n false i σ e ?_ ?_ ?_
    · intro _ g; rw [Int.toNat_natCast, eql_t] at g; rw [g] at hp; simp at hp
    · intro _ _; rw [succL' hi h]; exact ⟨⟨(natLt hi).1, (natLt hi).2, trivial⟩, hr⟩
    · intro g; rw [lss_f] at g; omega
  · intro hr
    refine haF_calls xs n false xs.length _ ⟨⟨loop_of_rounds (hr _ _ (haL_step xs n false xs.length _ _ ?_ ?_ ?_)), trivial⟩, rfl⟩
    · intro g; rw [lss_t] at g; omega
    · intro g; rw [lss_t] at g; omega
    · intro _; exact ⟨trivial, rfl, rfl⟩
  · intro j hj hp hr
    refine haR_calls xs n true j _ ⟨⟨loop_of_rounds (hr _ _ (haL_step xs n false j _ _ ?_ ?_ ?_)), trivial⟩, by simp⟩
    · intro _ _; exact ⟨⟨(natLt hj).1, (natLt hj).2, trivial⟩, rfl, rfl⟩
    · intro _ g; rw [Int.toNat_natCast, eql_f] at g; simp at hp; exact absurd hp g
    · intro g; rw [lss_f] at g; omega

theorem ck_p0 (c : Int) (us : List Int) : fnX Try.prog (X0) 100000 [.d true, .c 1] 20 [i64 c, ru us] = some (i64 2, [cmpI BinOp.lss c 1 = true]) := by kernel_rfl
theorem ck_p1 (c : Int) (us : List Int) : fnX Try.prog (X0) 100000 [.d false, .c 0, .d true] 20 [i64 c, ru us] = some (i64 2, [cmpI BinOp.gtr c 8 = true, cmpI BinOp.lss c 1 = false]) := by kernel_rfl
theorem ck_p2 (c : Int) (us : List Int) : fnX Try.prog (X0) 100000 [.d false, .c 0, .d false, .d true] 20 [i64 c, ru us] = some (i64 4, [cmpI BinOp.gtr (↑(us.length)) 60 = true, cmpI BinOp.gtr c 8 = false, cmpI BinOp.lss c 1 = false]) := by kernel_rfl
theorem ck_p3 (c : Int) (us : List Int) : fnX Try.prog (X0) 100000 [.d false, .c 0, .d false, .d false] 20 [i64 c, ru us] = some (i64 0, [cmpI BinOp.gtr (↑(us.length)) 60 = false, cmpI BinOp.gtr c 8 = false, cmpI BinOp.lss c 1 = false]) := by kernel_rfl
theorem ck_calls (c : Int) (us : List Int) (res : D)
  (h0 : ((cmpI BinOp.lss c 1) = true) → (True) ∧ res = i64 2)
  (h1 : ((cmpI BinOp.lss c 1) = false) → ((cmpI BinOp.gtr c 8) = true) → (True) ∧ res = i64 2)
  (h2 : ((cmpI BinOp.lss c 1) = false) → ((cmpI BinOp.gtr c 8) = false) → ((cmpI BinOp.gtr (↑(us.length)) 60) = true) → (True) ∧ res = i64 4)
  (h3 : ((cmpI BinOp.lss c 1) = false) → ((cmpI BinOp.gtr c 8) = false) → ((cmpI BinOp.gtr (↑(us.length)) 60) = false) → (True) ∧ res = i64 0) : CallsD Try.prog 20 [i64 c, ru us] res := by
  cases e0 : (cmpI BinOp.lss c 1) with
  | true =>
    obtain ⟨_, kr⟩ := h0 e0
    exact of_path (hX0) (ck_p0 c us) ⟨e0, trivial⟩ kr
  | false =>
    cases e1 : (cmpI BinOp.gtr c 8) with
    | true =>
      obtain ⟨_, kr⟩ := h1 e0 e1
      exact of_path (hX0) (ck_p1 c us) ⟨e1, e0, trivial⟩ kr
    | false =>
      cases e2 : (cmpI BinOp.gtr (↑(us.length)) 60) with
      | true =>
        obtain ⟨_, kr⟩ := h2 e0 e1 e2
        exact of_path (hX0) (ck_p2 c us) ⟨e2, e1, e0, trivial⟩ kr
      | false =>
        obtain ⟨_, kr⟩ := h3 e0 e1 e2
        exact of_path (hX0) (ck_p3 c us) ⟨e2, e1, e0, trivial⟩ kr

theorem ce_p0 (c : Int) (us : List Int) : fnX Try.prog (X0) 100000 [.d true, .c 1] 21 [i64 c, ru us] = some (i64 2, [cmpI BinOp.lss c 1 = true]) := by kernel_rfl
theorem ce_p1 (c : Int) (us : List Int) : fnX Try.prog (X0) 100000 [.d false, .c 0, .d true] 21 [i64 c, ru us] = some (i64 2, [cmpI BinOp.gtr c 8 = true, cmpI BinOp.lss c 1 = false]) := by kernel_rfl
theorem ce_p2 (c : Int) (us : List Int) : fnX Try.prog (X0) 100000 [.d false, .c 0, .d false, .d true] 21 [i64 c, ru us] = some (i64 4, [cmpI BinOp.gtr (↑(us.length)) 60 = true, cmpI BinOp.gtr c 8 = false, cmpI BinOp.lss c 1 = false]) := by kernel_rfl
theorem ce_p3 (c : Int) (us : List Int) : fnX Try.prog (X0) 100000 [.d false, .c 0, .d false, .d false] 21 [i64 c, ru us] = some (i64 0, [cmpI BinOp.gtr (↑(us.length)) 60 = false, cmpI BinOp.gtr c 8 = false, cmpI BinOp.lss c 1 = false]) := by kernel_rfl
theorem ce_calls (c : Int) (us : List Int) (res : D)
  (h0 : ((cmpI BinOp.lss c 1) = true) → (True) ∧ res = i64 2)
  (h1 : ((cmpI BinOp.lss c 1) = false) → ((cmpI BinOp.gtr c 8) = true) → (True) ∧ res = i64 2)
  (h2 : ((cmpI BinOp.lss c 1) = false) → ((cmpI BinOp.gtr c 8) = false) → ((cmpI BinOp.gtr (↑(us.length)) 60) = true) → (True) ∧ res = i64 4)
  (h3 : ((cmpI BinOp.lss c 1) = false) → ((cmpI BinOp.gtr c 8) = false) → ((cmpI BinOp.gtr (↑(us.length)) 60) = false) → (True) ∧ res = i64 0) : CallsD Try.prog 21 [i64 c, ru us] res := by
  cases e0 : (cmpI BinOp.lss c 1) with
  | true =>
    obtain ⟨_, kr⟩ := h0 e0
    exact of_path (hX0) (ce_p0 c us) ⟨e0, trivial⟩ kr
  | false =>
    cases e1 : (cmpI BinOp.gtr c 8) with
    | true =>
      obtain ⟨_, kr⟩ := h1 e0 e1
      exact of_path (hX0) (ce_p1 c us) ⟨e1, e0, trivial⟩ kr
    | false =>
      cases e2 : (cmpI BinOp.gtr (↑(us.length)) 60) with
      | true =>
        obtain ⟨_, kr⟩ := h2 e0 e1 e2
        exact of_path (hX0) (ce_p2 c us) ⟨e2, e1, e0, trivial⟩ kr
      | false =>
        obtain ⟨_, kr⟩ := h3 e0 e1 e2
        exact of_path (hX0) (ce_p3 c us) ⟨e2, e1, e0, trivial⟩ kr
theorem ck_ok (c : Int) (us : List Int) : CallsD Try.prog 20 [i64 c, ru us] (i64 (chkV c us.length)) := by
  refine ck_calls c us _ ?_ ?_ ?_ ?_
  · intro a; rw [lss_t] at a; exact ⟨trivial, by unfold chkV; rw [if_pos (.inl a)]⟩
  · intro a b; rw [gtr_t] at b; exact ⟨trivial, by unfold chkV; rw [if_pos (.inr b)]⟩
  · intro a b d; rw [lss_f] at a; rw [gtr_f] at b; rw [gtr_t] at d; exact ⟨trivial, by unfold chkV; rw [if_neg (by omega), if_pos (by omega)]⟩
  · intro a b d; rw [lss_f] at a; rw [gtr_f] at b; rw [gtr_f] at d; exact ⟨trivial, by unfold chkV; rw [if_neg (by omega), if_neg (by omega)]⟩
theorem ce_ok (c : Int) (us : List Int) : CallsD Try.prog 21 [i64 c, ru us] (i64 (chkV c us.length)) := by
  refine ce_calls c us _ ?_ ?_ ?_ ?_
  · intro a; rw [lss_t] at a; exact ⟨trivial, by unfold chkV; rw [if_pos (.inl a)]⟩
  · intro a b; rw [gtr_t] at b; exact ⟨trivial, by unfold chkV; rw [if_pos (.inr b)]⟩
  · intro a b d; rw [lss_f] at a; rw [gtr_f] at b; rw [gtr_t] at d; exact ⟨trivial, by unfold chkV; rw [if_neg (by omega), if_pos (by omega)]⟩
  · intro a b d; rw [lss_f] at a; rw [gtr_f] at b; rw [gtr_f] at d; exact ⟨trivial, by unfold chkV; rw [if_neg (by omega), if_neg (by omega)]⟩

theorem smL_r0 (xs ys : List Int) (o : Bool) (i : Int) : roundX Try.prog (X0) 100000 (loopAt Try.prog 16 0) [.d true, .d true] [[0, 1, 4, 5]] [] (smT xs ys o i) = some (Ex.ret, (smT (xs) (ys) (false) (i)), [cmpI BinOp.neq (xs.getD i.toNat 0) (ys.getD i.toNat 0) = true, decide (0 ≤ i) = true, decide (i < ↑(ys.length)) = true, decide (0 ≤ i) = true, decide (i < ↑(xs.length)) = true, cmpI BinOp.lss i ↑(xs.length) = true]) := by kernel_rfl
theorem smL_r1 (xs ys : List Int) (o : Bool) (i : Int) : roundX Try.prog (X0) 100000 (loopAt Try.prog 16 0) [.d true, .d false] [[0, 1, 4, 5]] [] (smT xs ys o i) = some (Ex.normal, (smT (xs) (ys) (o) (opI BinOp.add IntKind.i64 i 1)), [cmpI BinOp.neq (xs.getD i.toNat 0) (ys.getD i.toNat 0) = false, decide (0 ≤ i) = true, decide (i < ↑(ys.length)) = true, decide (0 ≤ i) = true, decide (i < ↑(xs.length)) = true, cmpI BinOp.lss i ↑(xs.length) = true]) := by kernel_rfl
theorem smL_r2 (xs ys : List Int) (o : Bool) (i : Int) : roundX Try.prog (X0) 100000 (loopAt Try.prog 16 0) [.d false] [[0, 1, 4, 5]] [] (smT xs ys o i) = some (Ex.exit 0, (smT (xs) (ys) (o) (i)), [cmpI BinOp.lss i ↑(xs.length) = false]) := by kernel_rfl
theorem smL_step (xs : List Int) (ys : List Int) (o : Bool) (i : Int) (σ : St) (e : Ex)
  (h0 : ((cmpI BinOp.lss i ↑(xs.length)) = true) → ((cmpI BinOp.neq (xs.getD i.toNat 0) (ys.getD i.toNat 0)) = true) → ((decide (0 ≤ i) = true) ∧ (decide (i < ↑(ys.length)) = true) ∧ (decide (0 ≤ i) = true) ∧ (decide (i < ↑(xs.length)) = true) ∧ True) ∧ (e = Ex.ret ∧ σ = (smT (xs) (ys) (false) (i)).abs))
  (h1 : ((cmpI BinOp.lss i ↑(xs.length)) = true) → ((cmpI BinOp.neq (xs.getD i.toNat 0) (ys.getD i.toNat 0)) = false) → ((decide (0 ≤ i) = true) ∧ (decide (i < ↑(ys.length)) = true) ∧ (decide (0 ≤ i) = true) ∧ (decide (i < ↑(xs.length)) = true) ∧ True) ∧ Runs Try.prog (CallsD Try.prog) (.rounds (loopAt Try.prog 16 0)) (smT (xs) (ys) (o) (opI BinOp.add IntKind.i64 i 1)).abs e σ)
  (h2 : ((cmpI BinOp.lss i ↑(xs.length)) = false) → (True) ∧ (e = Ex.exit 0 ∧ σ = (smT (xs) (ys) (o) (i)).abs)) : Runs Try.prog (CallsD Try.prog) (.rounds (loopAt Try.prog 16 0)) (smT xs ys o i).abs e σ := by
  cases e0 : (cmpI BinOp.lss i ↑(xs.length)) with
  | true =>
    cases e1 : (cmpI BinOp.neq (xs.getD i.toNat 0) (ys.getD i.toNat 0)) with
    | true =>
      obtain ⟨⟨k0, k1, k2, k3, _⟩, kr⟩ := h0 e0 e1
      exact rounds_end (hX0) (smL_r0 xs ys o i) ⟨e1, k0, k1, k2, k3, e0, trivial⟩ (by simp) kr
    | false =>
      obtain ⟨⟨k0, k1, k2, k3, _⟩, kr⟩ := h1 e0 e1
      exact rounds_on (hX0) (smL_r1 xs ys o i) ⟨e1, k0, k1, k2, k3, e0, trivial⟩ kr
  | false =>
    obtain ⟨_, kr⟩ := h2 e0
    exact rounds_end (hX0) (smL_r2 xs ys o i) ⟨e0, trivial⟩ (by simp) kr

theorem smF_p0 (xs ys : List Int) (o : Bool) (i : Int) : fnX Try.prog (X0) 100000 [.d true] 16 [ru xs, ru ys] = some (bo false, [cmpI BinOp.neq ↑(xs.length) ↑(ys.length) = true]) := by kernel_rfl
theorem smF_p1 (xs ys : List Int) (o : Bool) (i : Int) : fnX Try.prog (X0) 100000 [.d false, PE.l [[0, 1, 4, 5]] [] (smT xs ys false 0) (Ex.exit 0) (smT xs ys o i)] 16 [ru xs, ru ys] = some (bo true, [(smT xs ys false 0 = smT xs ys false 0), Runs Try.prog (CallsD Try.prog) (.code (.loop (loopAt Try.prog 16 0))) (smT xs ys false 0).abs (Ex.exit 0) (smT xs ys o i).abs, cmpI BinOp.neq ↑(xs.length) ↑(ys.length) = false]) := by kernel_rfl
theorem smF_calls (xs ys : List Int) (o : Bool) (i : Int) (res : D)
  (h0 : ((cmpI BinOp.neq ↑(xs.length) ↑(ys.length)) = true) → (True) ∧ res = bo false)
  (h1 : ((cmpI BinOp.neq ↑(xs.length) ↑(ys.length)) = false) → ((Runs Try.prog (CallsD Try.prog) (.code (.loop (loopAt Try.prog 16 0))) (smT xs ys false 0).abs (Ex.exit 0) (smT xs ys o i).abs) ∧ True) ∧ res = bo true) : CallsD Try.prog 16 [ru xs, ru ys] res := by
  cases e0 : (cmpI BinOp.neq ↑(xs.length) ↑(ys.length)) with
  | true =>
    obtain ⟨_, kr⟩ := h0 e0
    exact of_path (hX0) (smF_p0 xs ys o i) ⟨e0, trivial⟩ kr
  | false =>
    obtain ⟨⟨k0, _⟩, kr⟩ := h1 e0
    exact of_path (hX0) (smF_p1 xs ys o i) ⟨rfl, k0, e0, trivial⟩ kr

theorem smR_p0 (xs ys : List Int) (o : Bool) (i : Int) : fnX Try.prog (X0) 100000 [.d true] 16 [ru xs, ru ys] = some (bo false, [cmpI BinOp.neq ↑(xs.length) ↑(ys.length) = true]) := by kernel_rfl
theorem smR_p1 (xs ys : List Int) (o : Bool) (i : Int) : fnX Try.prog (X0) 100000 [.d false, PE.l [[0, 1, 4, 5]] [] (smT xs ys false 0) Ex.ret (smT xs ys o i)] 16 [ru xs, ru ys] = some (bo o, [(smT xs ys false 0 = smT xs ys false 0), Runs Try.prog (CallsD Try.prog) (.code (.loop (loopAt Try.prog 16 0))) (smT xs ys false 0).abs (Ex.ret) (smT xs ys o i).abs, cmpI BinOp.neq ↑(xs.length) ↑(ys.length) = false]) := by kernel_rfl
theorem smR_calls (xs ys : List Int) (o : Bool) (i : Int) (res : D)
  (h0 : ((cmpI BinOp.neq ↑(xs.length) ↑(ys.length)) = true) → (True) ∧ res = bo false)
  (h1 : ((cmpI BinOp.neq ↑(xs.length) ↑(ys.length)) = false) → ((Runs Try.prog (CallsD Try.prog) (.code (.loop (loopAt Try.prog 16 0))) (smT xs ys false 0).abs (Ex.ret) (smT xs ys o i).abs) ∧ True) ∧ res = bo o) : CallsD Try.prog 16 [ru xs, ru ys] res := by
  cases e0 : (cmpI BinOp.neq ↑(xs.length) ↑(ys.length)) with
  | true =>
    obtain ⟨_, kr⟩ := h0 e0
    exact of_path (hX0) (smR_p0 xs ys o i) ⟨e0, trivial⟩ kr
  | false =>
    obtain ⟨⟨k0, _⟩, kr⟩ := h1 e0
    exact of_path (hX0) (smR_p1 xs ys o i) ⟨rfl, k0, e0, trivial⟩ kr
theorem sm_ok (xs ys : List Int) (h : xs.length ≤ 200) : CallsD Try.prog 16 [ru xs, ru ys] (bo (eqB xs ys)) := by
  unfold eqB
  by_cases hl : xs.length = ys.length
  · rw [getD_same hl]
    refine look_for (b := loopAt Try.prog 16 0) (fun i => smT xs ys false (i : Int)) xs.length (fun i => xs.getD i 0 != ys.getD i 0) (fun v => CallsD Try.prog 16 [ru xs, ru ys] (bo (decide (v < 0)))) ?_ ?_ ?_
    · intro i hi hp σ e hr
      have hj : i < ys.length := by omega
      refine smL_step xs ys false i σ e ?_ ?_ ?_
      · intro _ g; rw [Int.toNat_natCast, neq_t] at g; simp at hp; exact absurd hp g
      · intro _ _; rw [succL hi h]; exact ⟨⟨(natLt hj).1, (natLt hj).2, (natLt hi).1, (natLt hi).2, trivial⟩, hr⟩
      · intro g; rw [lss_f] at g; omega
    · intro hr
      refine smF_calls xs ys false xs.length _ (fun g => ?_) fun _ => ⟨⟨loop_of_rounds (hr _ _ (smL_step xs ys false xs.length _ _ ?_ ?_ ?_)), trivial⟩, rfl⟩
      · rw [neq_t] at g; omega
      · intro g; rw [lss_t] at g; omega
      · intro g; rw [lss_t] at g; omega
      · intro _; exact ⟨trivial, rfl, rfl⟩
    · intro j hj hp hr
      have hj' : j < ys.length := by omega
      refine smR_calls xs ys false j _ (fun g => ?_) fun _ => ⟨⟨loop_of_rounds (hr _ _ (smL_step xs ys false j _ _ ?_ ?_ ?_)), trivial⟩, by simp⟩
      · rw [neq_t] at g; omega
      · intro _ _; exact ⟨⟨(natLt hj').1, (natLt hj').2, (natLt hj).1, (natLt hj).2, trivial⟩, rfl, rfl⟩
      · intro _ g; rw [Int.toNat_natCast, neq_f] at g; simp at hp; exact absurd g hp
      · intro g; rw [lss_f] at g; omega
  · rw [decide_eq_false (fun e => hl (by rw [e]))]
    refine smF_calls xs ys false 0 _ (fun _ => ⟨trivial, rfl⟩) fun g => ?_
    rw [neq_f] at g; omega

theorem siL_r0 (xs ys : List Int) (o : Bool) (i : Int) : roundX Try.prog (X0) 100000 (loopAt Try.prog 18 0) [.d true, .d true] [[0, 1, 4, 5]] [] (siT xs ys o i) = some (Ex.ret, (siT (xs) (ys) (false) (i)), [cmpI BinOp.neq (xs.getD i.toNat 0) (ys.getD i.toNat 0) = true, decide (0 ≤ i) = true, decide (i < ↑(ys.length)) = true, decide (0 ≤ i) = true, decide (i < ↑(xs.length)) = true, cmpI BinOp.lss i ↑(xs.length) = true]) := by kernel_rfl
theorem siL_r1 (xs ys : List Int) (o : Bool) (i : Int) : roundX Try.prog (X0) 100000 (loopAt Try.prog 18 0) [.d true, .d false] [[0, 1, 4, 5]] [] (siT xs ys o i) = some (Ex.normal, (siT (xs) (ys) (o) (opI BinOp.add IntKind.i64 i 1)), [cmpI BinOp.neq (xs.getD i.toNat 0) (ys.getD i.toNat 0) = false, decide (0 ≤ i) = true, decide (i < ↑(ys.length)) = true, decide (0 ≤ i) = true, decide (i < ↑(xs.length)) = true, cmpI BinOp.lss i ↑(xs.length) = true]) := by kernel_rfl
theorem siL_r2 (xs ys : List Int) (o : Bool) (i : Int) : roundX Try.prog (X0) 100000 (loopAt Try.prog 18 0) [.d false] [[0, 1, 4, 5]] [] (siT xs ys o i) = some (Ex.exit 0, (siT (xs) (ys) (o) (i)), [cmpI BinOp.lss i ↑(xs.length) = false]) := by kernel_rfl
theorem siL_step (xs : List Int) (ys : List Int) (o : Bool) (i : Int) (σ : St) (e : Ex)
  (h0 : ((cmpI BinOp.lss i ↑(xs.length)) = true) → ((cmpI BinOp.neq (xs.getD i.toNat 0) (ys.getD i.toNat 0)) = true) → ((decide (0 ≤ i) = true) ∧ (decide (i < ↑(ys.length)) = true) ∧ (decide (0 ≤ i) = true) ∧ (decide (i < ↑(xs.length)) = true) ∧ True) ∧ (e = Ex.ret ∧ σ = (siT (xs) (ys) (false) (i)).abs))
  (h1 : ((cmpI BinOp.lss i ↑(xs.length)) = true) → ((cmpI BinOp.neq (xs.getD i.toNat 0) (ys.getD i.toNat 0)) = false) → ((decide (0 ≤ i) = true) ∧ (decide (i < ↑(ys.length)) = true) ∧ (decide (0 ≤ i) = true) ∧ (decide (i < ↑(xs.length)) = true) ∧ True) ∧ Runs Try.prog (CallsD Try.prog) (.rounds (loopAt Try.prog 18 0)) (siT (xs) (ys) (o) (opI BinOp.add IntKind.i64 i 1)).abs e σ)
  (h2 : ((cmpI BinOp.lss i ↑(xs.length)) = false) → (True) ∧ (e = Ex.exit 0 ∧ σ = (siT (xs) (ys) (o) (i)).abs)) : Runs Try.prog (CallsD Try.prog) (.rounds (loopAt Try.prog 18 0)) (siT xs ys o i).abs e σ := by
  cases e0 : (cmpI BinOp.lss i ↑(xs.length)) with
  | true =>
    cases e1 : (cmpI BinOp.neq (xs.getD i.toNat 0) (ys.getD i.toNat 0)) with
    | true =>
      obtain ⟨⟨k0, k1, k2, k3, _⟩, kr⟩ := h0 e0 e1
      exact rounds_end (hX0) (siL_r0 xs ys o i) ⟨e1, k0, k1, k2, k3, e0, trivial⟩ (by simp) kr
    | false =>
      obtain ⟨⟨k0, k1, k2, k3, _⟩, kr⟩ := h1 e0 e1
      exact rounds_on (hX0) (siL_r1 xs ys o i) ⟨e1, k0, k1, k2, k3, e0, trivial⟩ kr
  | false =>
    obtain ⟨_, kr⟩ := h2 e0
    exact rounds_end (hX0) (siL_r2 xs ys o i) ⟨e0, trivial⟩ (by simp) kr

theorem siF_p0 (xs ys : List Int) (o : Bool) (i : Int) : fnX Try.prog (X0) 100000 [.d true] 18 [ri xs, ri ys] = some (bo false, [cmpI BinOp.neq ↑(xs.length) ↑(ys.length) = true]) := by kernel_rfl
theorem siF_p1 (xs ys : List Int) (o : Bool) (i : Int) : fnX Try.prog (X0) 100000 [.d false, PE.l [[0, 1, 4, 5]] [] (siT xs ys false 0) (Ex.exit 0) (siT xs ys o i)] 18 [ri xs, ri ys] = some (bo true, [(siT xs ys false 0 = siT xs ys false 0), Runs Try.prog (CallsD Try.prog) (.code (.loop (loopAt Try.prog 18 0))) (siT xs ys false 0).abs (Ex.exit 0) (siT xs ys o i).abs, cmpI BinOp.neq ↑(xs.length) ↑(ys.length) = false]) := by kernel_rfl
theorem siF_calls (xs ys : List Int) (o : Bool) (i : Int) (res : D)
  (h0 : ((cmpI BinOp.neq ↑(xs.length) ↑(ys.length)) = true) → (True) ∧ res = bo false)
  (h1 : ((cmpI BinOp.neq ↑(xs.length) ↑(ys.length)) = false) → ((Runs Try.prog (CallsD Try.prog) (.code (.loop (loopAt Try.prog 18 0))) (siT xs ys false 0).abs (Ex.exit 0) (siT xs ys o i).abs) ∧ True) ∧ res = bo true) : CallsD Try.prog 18 [ri xs, ri ys] res := by
  cases e0 : (cmpI BinOp.neq ↑(xs.length) ↑(ys.length)) with
  | true =>
    obtain ⟨_, kr⟩ := h0 e0
    exact of_path (hX0) (siF_p0 xs ys o i) ⟨e0, trivial⟩ kr
  | false =>
    obtain ⟨⟨k0, _⟩, kr⟩ := h1 e0
    exact of_path (hX0) (siF_p1 xs ys o i) ⟨rfl, k0, e0, trivial⟩ kr

theorem siR_p0 (xs ys : List Int) (o : Bool) (i : Int) : fnX Try.prog (X0) 100000 [.d true] 18 [ri xs, ri ys] = some (bo false, [cmpI BinOp.neq ↑(xs.length) ↑(ys.length) = true]) := by kernel_rfl
theorem siR_p1 (xs ys : List Int) (o : Bool) (i : Int) : fnX Try.prog (X0) 100000 [.d false, PE.l [[0, 1, 4, 5]] [] (siT xs ys false 0) Ex.ret (siT xs ys o i)] 18 [ri xs, ri ys] = some (bo o, [(siT xs ys false 0 = siT xs ys false 0), Runs Try.prog (CallsD Try.prog) (.code (.loop (loopAt Try.prog 18 0))) (siT xs ys false 0).abs (Ex.ret) (siT xs ys o i).abs, cmpI BinOp.neq ↑(xs.length) ↑(ys.length) = false]) := by kernel_rfl
theorem siR_calls (xs ys : List Int) (o : Bool) (i : Int) (res : D)
  (h0 : ((cmpI BinOp.neq ↑(xs.length) ↑(ys.length)) = true) → (True) ∧ res = bo false)
  (h1 : ((cmpI BinOp.neq ↑(xs.length) ↑(ys.length)) = false) → ((Runs Try.prog (CallsD Try.prog) (.code (.loop (loopAt Try.prog 18 0))) (siT xs ys false 0).abs (Ex.ret) (siT xs ys o i).abs) ∧ True) ∧ res = bo o) : CallsD Try.prog 18 [ri xs, ri ys] res := by
  cases e0 : (cmpI BinOp.neq ↑(xs.length) ↑(ys.length)) with
  | true =>
    obtain ⟨_, kr⟩ := h0 e0
    exact of_path (hX0) (siR_p0 xs ys o i) ⟨e0, trivial⟩ kr
  | false =>
    obtain ⟨⟨k0, _⟩, kr⟩ := h1 e0
    exact of_path (hX0) (siR_p1 xs ys o i) ⟨rfl, k0, e0, trivial⟩ kr
theorem si_ok (xs ys : List Int) (h : xs.length ≤ 200) : CallsD Try.prog 18 [ri xs, ri ys] (bo (eqB xs ys)) := by
  unfold eqB
  by_cases hl : xs.length = ys.length
  · rw [getD_same hl]
    refine look_for (b := loopAt Try.prog 18 0) (fun i => siT xs ys false (i : Int)) xs.length (fun i => xs.getD i 0 != ys.getD i 0) (fun v => CallsD Try.prog 18 [ri xs, ri ys] (bo (decide (v < 0)))) ?_ ?_ ?_
    · intro i hi hp σ e hr
      have hj : i < ys.length := by omega
      refine siL_step xs ys false i σ e ?_ ?_ ?_
      · intro _ g; rw [Int.toNat_natCast, neq_t] at g; simp at hp; exact absurd hp g
      · intro _ _; rw [succL hi h]; exact ⟨⟨(natLt hj).1, (natLt hj).2, (natLt hi).1, (natLt hi).2, trivial⟩, hr⟩
      · intro g; rw [lss_f] at g; omega
    · intro hr
      refine siF_calls xs ys false xs.length _ (fun g => ?_) fun _ => ⟨⟨loop_of_rounds (hr _ _ (siL_step xs ys false xs.length _ _ ?_ ?_ ?_)), trivial⟩, rfl⟩
      · rw [neq_t] at g; omega
      · intro g; rw [lss_t] at g; omega
      · intro g; rw [lss_t] at g; omega
      · intro _; exact ⟨trivial, rfl, rfl⟩
    · intro j hj hp hr
      have hj' : j < ys.length := by omega
      refine siR_calls xs ys false j _ (fun g => ?_) fun _ => ⟨⟨loop_of_rounds (hr _ _ (siL_step xs ys false j _ _ ?_ ?_ ?_)), trivial⟩, by simp⟩
      · rw [neq_t] at g; omega
      · intro _ _; exact ⟨⟨(natLt hj').1, (natLt hj').2, (natLt hj).1, (natLt hj).2, trivial⟩, rfl, rfl⟩
      · intro _ g; rw [Int.toNat_natCast, neq_f] at g; simp at hp; exact absurd g hp
      · intro g; rw [lss_f] at g; omega
  · rw [decide_eq_false (fun e => hl (by rw [e]))]
    refine siF_calls xs ys false 0 _ (fun _ => ⟨trivial, rfl⟩) fun g => ?_
    rw [neq_f] at g; omega
noncomputable def sgL_c0 (xs ks ys ls : List Int) (i : Int) := xs.getD i.toNat 0 == ys.getD i.toNat 0 && (ks.getD i.toNat 0 == ls.getD i.toNat 0 && true)
theorem sgL_r0 (xs ks ys ls : List Int) (o : Bool) (i : Int) : roundX Try.prog (X0) 100000 (loopAt Try.prog 17 0) [.d true, .d true] [[0, 1, 4, 5]] [] (sgT xs ks ys ls o i) = some (Ex.ret, (sgT (xs) (ks) (ys) (ls) (false) (i)), [(!(sgL_c0 xs ks ys ls i)) = true, decide (0 ≤ i) = true, decide (i < ↑(ys.length)) = true, decide (0 ≤ i) = true, decide (i < ↑(xs.length)) = true, cmpI BinOp.lss i ↑(xs.length) = true]) := by kernel_rfl
theorem sgL_r1 (xs ks ys ls : List Int) (o : Bool) (i : Int) : roundX Try.prog (X0) 100000 (loopAt Try.prog 17 0) [.d true, .d false] [[0, 1, 4, 5]] [] (sgT xs ks ys ls o i) = some (Ex.normal, (sgT (xs) (ks) (ys) (ls) (o) (opI BinOp.add IntKind.i64 i 1)), [(!(sgL_c0 xs ks ys ls i)) = false, decide (0 ≤ i) = true, decide (i < ↑(ys.length)) = true, decide (0 ≤ i) = true, decide (i < ↑(xs.length)) = true, cmpI BinOp.lss i ↑(xs.length) = true]) := by kernel_rfl
theorem sgL_r2 (xs ks ys ls : List Int) (o : Bool) (i : Int) : roundX Try.prog (X0) 100000 (loopAt Try.prog 17 0) [.d false] [[0, 1, 4, 5]] [] (sgT xs ks ys ls o i) = some (Ex.exit 0, (sgT (xs) (ks) (ys) (ls) (o) (i)), [cmpI BinOp.lss i ↑(xs.length) = false]) := by kernel_rfl
theorem sgL_step (xs : List Int) (ks : List Int) (ys : List Int) (ls : List Int) (o : Bool) (i : Int) (σ : St) (e : Ex)
  (h0 : ((cmpI BinOp.lss i ↑(xs.length)) = true) → ((!(sgL_c0 xs ks ys ls i)) = true) → ((decide (0 ≤ i) = true) ∧ (decide (i < ↑(ys.length)) = true) ∧ (decide (0 ≤ i) = true) ∧ (decide (i < ↑(xs.length)) = true) ∧ True) ∧ (e = Ex.ret ∧ σ = (sgT (xs) (ks) (ys) (ls) (false) (i)).abs))
  (h1 : ((cmpI BinOp.lss i ↑(xs.length)) = true) → ((!(sgL_c0 xs ks ys ls i)) = false) → ((decide (0 ≤ i) = true) ∧ (decide (i < ↑(ys.length)) = true) ∧ (decide (0 ≤ i) = true) ∧ (decide (i < ↑(xs.length)) = true) ∧ True) ∧ Runs Try.prog (CallsD Try.prog) (.rounds (loopAt Try.prog 17 0)) (sgT (xs) (ks) (ys) (ls) (o) (opI BinOp.add IntKind.i64 i 1)).abs e σ)
  (h2 : ((cmpI BinOp.lss i ↑(xs.length)) = false) → (True) ∧ (e = Ex.exit 0 ∧ σ = (sgT (xs) (ks) (ys) (ls) (o) (i)).abs)) : Runs Try.prog (CallsD Try.prog) (.rounds (loopAt Try.prog 17 0)) (sgT xs ks ys ls o i).abs e σ := by
  cases e0 : (cmpI BinOp.lss i ↑(xs.length)) with
  | true =>
    cases e1 : (!(sgL_c0 xs ks ys ls i)) with
    | true =>
      obtain ⟨⟨k0, k1, k2, k3, _⟩, kr⟩ := h0 e0 e1
      exact rounds_end (hX0) (sgL_r0 xs ks ys ls o i) ⟨e1, k0, k1, k2, k3, e0, trivial⟩ (by simp) kr
    | false =>
      obtain ⟨⟨k0, k1, k2, k3, _⟩, kr⟩ := h1 e0 e1
      exact rounds_on (hX0) (sgL_r1 xs ks ys ls o i) ⟨e1, k0, k1, k2, k3, e0, trivial⟩ kr
  | false =>
    obtain ⟨_, kr⟩ := h2 e0
    exact rounds_end (hX0) (sgL_r2 xs ks ys ls o i) ⟨e0, trivial⟩ (by simp) kr

theorem sgF_p0 (xs ks ys ls : List Int) (o : Bool) (i : Int) : fnX Try.prog (X0) 100000 [.d true] 17 [rg xs ks, rg ys ls] = some (bo false, [cmpI BinOp.neq ↑(xs.length) ↑(ys.length) = true]) := by kernel_rfl
theorem sgF_p1 (xs ks ys ls : List Int) (o : Bool) (i : Int) : fnX Try.prog (X0) 100000 [.d false, PE.l [[0, 1, 4, 5]] [] (sgT xs ks ys ls false 0) (Ex.exit 0) (sgT xs ks ys ls o i)] 17 [rg xs ks, rg ys ls] = some (bo true, [(sgT xs ks ys ls false 0 = sgT xs ks ys ls false 0), Runs Try.prog (CallsD Try.prog) (.code (.loop (loopAt Try.prog 17 0))) (sgT xs ks ys ls false 0).abs (Ex.exit 0) (sgT xs ks ys ls o i).abs, cmpI BinOp.neq ↑(xs.length) ↑(ys.length) = false]) := by kernel_rfl
theorem sgF_calls (xs ks ys ls : List Int) (o : Bool) (i : Int) (res : D)
  (h0 : ((cmpI BinOp.neq ↑(xs.length) ↑(ys.length)) = true) → (True) ∧ res = bo false)
  (h1 : ((cmpI BinOp.neq ↑(xs.length) ↑(ys.length)) = false) → ((Runs Try.prog (CallsD Try.prog) (.code (.loop (loopAt Try.prog 17 0))) (sgT xs ks ys ls false 0).abs (Ex.exit 0) (sgT xs ks ys ls o i).abs) ∧ True) ∧ res = bo true) : CallsD Try.prog 17 [rg xs ks, rg ys ls] res := by
  cases e0 : (cmpI BinOp.neq ↑(xs.length) ↑(ys.length)) with
  | true =>
    obtain ⟨_, kr⟩ := h0 e0
    exact of_path (hX0) (sgF_p0 xs ks ys ls o i) ⟨e0, trivial⟩ kr
  | false =>
    obtain ⟨⟨k0, _⟩, kr⟩ := h1 e0
    exact of_path (hX0) (sgF_p1 xs ks ys ls o i) ⟨rfl, k0, e0, trivial⟩ kr

theorem sgR_p0 (xs ks ys ls : List Int) (o : Bool) (i : Int) : fnX Try.prog (X0) 100000 [.d true] 17 [rg xs ks, rg ys ls] = some (bo false, [cmpI BinOp.neq ↑(xs.length) ↑(ys.length) = true]) := by kernel_rfl
theorem sgR_p1 (xs ks ys ls : List Int) (o : Bool) (i : Int) : fnX Try.prog (X0) 100000 [.d false, PE.l [[0, 1, 4, 5]] [] (sgT xs ks ys ls false 0) Ex.ret (sgT xs ks ys ls o i)] 17 [rg xs ks, rg ys ls] = some (bo o, [(sgT xs ks ys ls false 0 = sgT xs ks ys ls false 0), Runs Try.prog (CallsD Try.prog) (.code (.loop (loopAt Try.prog 17 0))) (sgT xs ks ys ls false 0).abs (Ex.ret) (sgT xs ks ys ls o i).abs, cmpI BinOp.neq ↑(xs.length) ↑(ys.length) = false]) := by kernel_rfl
theorem sgR_calls (xs ks ys ls : List Int) (o : Bool) (i : Int) (res : D)
  (h0 : ((cmpI BinOp.neq ↑(xs.length) ↑(ys.length)) = true) → (True) ∧ res = bo false)
  (h1 : ((cmpI BinOp.neq ↑(xs.length) ↑(ys.length)) = false) → ((Runs Try.prog (CallsD Try.prog) (.code (.loop (loopAt Try.prog 17 0))) (sgT xs ks ys ls false 0).abs (Ex.ret) (sgT xs ks ys ls o i).abs) ∧ True) ∧ res = bo o) : CallsD Try.prog 17 [rg xs ks, rg ys ls] res := by
  cases e0 : (cmpI BinOp.neq ↑(xs.length) ↑(ys.length)) with
  | true =>
    obtain ⟨_, kr⟩ := h0 e0
    exact of_path (hX0) (sgR_p0 xs ks ys ls o i) ⟨e0, trivial⟩ kr
  | false =>
    obtain ⟨⟨k0, _⟩, kr⟩ := h1 e0
    exact of_path (hX0) (sgR_p1 xs ks ys ls o i) ⟨rfl, k0, e0, trivial⟩ kr

theorem reF_p0 (us : List Int) : fnX Try.prog (X0) 100000 [.d true] 10 [ru us] = some (D.tup [D.v (Value.slice none 0 0), i64 4], [cmpI BinOp.gtr (↑(us.length)) 60 = true]) := by kernel_rfl
theorem reF_p1 (us : List Int) : fnX Try.prog (X0) 100000 [.d false] 10 [ru us] = some (D.tup [D.oc [Col0.ints IntKind.i64 (reachL us)], i64 0], [rowLen0 [Col0.ints IntKind.i64 (reachL us)] = rowLen0 [Col0.ints IntKind.i64 (reachL us)], okX us, cmpI BinOp.gtr (↑(us.length)) 60 = false]) := by kernel_rfl
theorem reF_calls (us : List Int) (res : D)
  (h0 : ((cmpI BinOp.gtr (↑(us.length)) 60) = true) → (True) ∧ res = D.tup [D.v (Value.slice none 0 0), i64 4])
  (h1 : ((cmpI BinOp.gtr (↑(us.length)) 60) = false) → ((okX us) ∧ True) ∧ res = D.tup [D.oc [Col0.ints IntKind.i64 (reachL us)], i64 0]) : CallsD Try.prog 10 [ru us] res := by
  cases e0 : (cmpI BinOp.gtr (↑(us.length)) 60) with
  | true =>
    obtain ⟨_, kr⟩ := h0 e0
    exact of_path (hX0) (reF_p0 us) ⟨e0, trivial⟩ kr
  | false =>
    obtain ⟨⟨k0, _⟩, kr⟩ := h1 e0
    exact of_path (hX0) (reF_p1 us) ⟨rfl, k0, e0, trivial⟩ kr
def reachV (us : List Int) : List Int := if us.length ≤ 60 then reachL us else []
def lenV (us : List Int) : Int := if us.length ≤ 60 then 0 else 4
theorem re_ok (us : List Int) (h : okX us) : CallsD Try.prog 10 [ru us] (.tup [oi (reachV us), i64 (lenV us)]) := by
  unfold reachV lenV
  by_cases c : us.length ≤ 60
  · rw [if_pos c, if_pos c]
    refine reF_calls us _ (fun g => ?_) fun _ => ⟨⟨h, trivial⟩, rfl⟩
    rw [gtr_t] at g; omega
  · rw [if_neg c, if_neg c]
    refine calls_reads (e := .tup [.v (.slice none 0 0), i64 4]) (ReadsNs.tup (.cons (.nil rfl) (.refl _))) ?_
    refine reF_calls us _ (fun _ => ⟨trivial, rfl⟩) fun g => ?_
    rw [gtr_f] at g; omega
def usL (c : Int) (k : Int) (l : List Int) : List Int := (ins k l).take c.toNat
def usG (c : Int) (k : Int) (l : List Int) : Bool := decide (c.toNat < (ins k l).length)
def usK (c : Int) (k : Int) (l : List Int) : Int := if c.toNat < (ins k l).length then (ins k l).getD c.toNat 0 else 0
theorem us_ok (c : Int) (k : Int) (l : List Int) (h : l.length ≤ 200 ∧ 0 ≤ c ∧ c ≤ 200) : CallsD Try.prog 23 [ru l, i64 c, u32 k] (.tup [ou (usL c k l), u32 (usK c k l), bo (usG c k l)]) := by
  obtain ⟨hn, hc0, hc1⟩ := h
  obtain ⟨cn, rfl⟩ := Int.eq_ofNat_of_zero_le hc0
  intro w A vs hv low glo
  simp only [RepL] at hv
  obtain ⟨u, xs, rfl, hu, u1, xs1, rfl, hu1, u2, xs2, rfl, hu2, rfl⟩ := hv
  simp only [RepS] at hu1 hu2; subst hu1 hu2
  obtain ⟨o, cp, rfl, hcp, hx⟩ := open_ri hu
  have key : Calls Try.prog 23 #[.slice o l.length cp, .int .i64 cn, .int .u32 k] w fun e w' => usedPost cn (ins k l) w e w' := by
    by_cases ez : l.length = 0
    · obtain rfl : l = [] := List.length_eq_zero_iff.1 ez
      exact used_none cn k o cp w
    · obtain ⟨b, off, rfl, hb, hc⟩ := hx ez
      have := used_any cn k b off l.length cp l w (Nat.le_refl _) hn (by omega) (low b hb) hc
      rw [List.take_length] at this
      exact this
  refine key.mono ?_
  rintro e w' ⟨v, n, kk, rfl, hown, hnl, hkk, hB⟩
  obtain ⟨bl, r1, r2⟩ := repO_own (A := A) (cols := [.ints .u32 (usL cn k l)]) (by simp) (by rw [hnl] at hown; simpa [rowLen0, Col0.len, usL] using hown) (rowCells0_one_ints _ _)
  refine ⟨_, A, bl, rfl, ?_, r2.fresh (Nat.le_refl _) low, fun k h => h, fun k h => Nat.lt_of_lt_of_le (low k h) hB.size, fun k h _ => h, hB⟩
  rw [hkk]
  simp only [RepO, RepOs, RepS]
  exact ⟨[v, .int .u32 _, .bool _], rfl, v, _, bl, [], rfl, by simp, r1, _, _, [], [], rfl, by simp, ⟨rfl, rfl⟩, _, _, [], [], rfl, by simp, ⟨rfl, rfl⟩, rfl, rfl⟩
def haC : List D → Option (D × List Prop)
  | [.rc [.ints .u32 xs], .v (.int .u32 n)] => some (bo (inB xs n), [xs.length ≤ 300])
  | _ => none
theorem haC_ok (args res l) (h : haC args = some (res, l)) (hl : AllP l) : CallsD Try.prog 27 args res := by
  unfold haC at h; split at h
  · simp only [Option.some.injEq, Prod.mk.injEq] at h
    obtain ⟨rfl, rfl⟩ := h; obtain ⟨h0, _⟩ := hl
    exact ha_ok _ _ h0
  · cases h
def ckC : List D → Option (D × List Prop)
  | [.v (.int .i64 c), .rc [.ints .u32 us]] => some (i64 (chkV c us.length), [])
  | _ => none
theorem ckC_ok (args res l) (h : ckC args = some (res, l)) (hl : AllP l) : CallsD Try.prog 20 args res := by
  unfold ckC at h; split at h
  · simp only [Option.some.injEq, Prod.mk.injEq] at h
    obtain ⟨rfl, rfl⟩ := h
    exact ck_ok _ _ 
  · cases h
theorem ceC_ok (args res l) (h : ckC args = some (res, l)) (hl : AllP l) : CallsD Try.prog 21 args res := by
  unfold ckC at h; split at h
  · simp only [Option.some.injEq, Prod.mk.injEq] at h
    obtain ⟨rfl, rfl⟩ := h
    exact ce_ok _ _ 
  · cases h
def smC : List D → Option (D × List Prop)
  | [.rc [.ints .u32 xs], .rc [.ints .u32 ys]] => some (bo (eqB xs ys), [xs.length ≤ 200])
  | _ => none
theorem smC_ok (args res l) (h : smC args = some (res, l)) (hl : AllP l) : CallsD Try.prog 16 args res := by
  unfold smC at h; split at h
  · simp only [Option.some.injEq, Prod.mk.injEq] at h
    obtain ⟨rfl, rfl⟩ := h; obtain ⟨h0, _⟩ := hl
    exact sm_ok _ _ h0
  · cases h
def siC : List D → Option (D × List Prop)
  | [.rc [.ints .i64 xs], .rc [.ints .i64 ys]] => some (bo (eqB xs ys), [xs.length ≤ 200])
  | _ => none
theorem siC_ok (args res l) (h : siC args = some (res, l)) (hl : AllP l) : CallsD Try.prog 18 args res := by
  unfold siC at h; split at h
  · simp only [Option.some.injEq, Prod.mk.injEq] at h
    obtain ⟨rfl, rfl⟩ := h; obtain ⟨h0, _⟩ := hl
    exact si_ok _ _ h0
  · cases h
def reC : List D → Option (D × List Prop)
  | [.rc [.ints .u32 us]] => some ((.tup [oi (reachV us), i64 (lenV us)]), [okX us])
  | _ => none
theorem reC_ok (args res l) (h : reC args = some (res, l)) (hl : AllP l) : CallsD Try.prog 10 args res := by
  unfold reC at h; split at h
  · simp only [Option.some.injEq, Prod.mk.injEq] at h
    obtain ⟨rfl, rfl⟩ := h; obtain ⟨h0, _⟩ := hl
    exact re_ok _ h0
  · cases h
def usC : List D → Option (D × List Prop)
  | [.rc [.ints .u32 l], .v (.int .i64 c), .v (.int .u32 k)] => some ((.tup [ou (usL c k l), u32 (usK c k l), bo (usG c k l)]), [l.length ≤ 200 ∧ 0 ≤ c ∧ c ≤ 200])
  | _ => none
theorem usC_ok (args res l) (h : usC args = some (res, l)) (hl : AllP l) : CallsD Try.prog 23 args res := by
  unfold usC at h; split at h
  · simp only [Option.some.injEq, Prod.mk.injEq] at h
    obtain ⟨rfl, rfl⟩ := h; obtain ⟨h0, _⟩ := hl
    exact us_ok _ _ _ h0
  · cases h
def X1 : Contracts := addCon 27 (.call haC) (addCon 20 (.call ckC) (addCon 21 (.call ckC) (addCon 16 (.call smC) (addCon 18 (.call siC) (addCon 10 (.call reC) (addCon 23 (.call usC) X0))))))
theorem hX1 : ConOK Try.prog X1 := addCall_ok haC_ok (addCall_ok ckC_ok (addCall_ok ceC_ok (addCall_ok smC_ok (addCall_ok siC_ok (addCall_ok reC_ok (addCall_ok usC_ok hX0))))))
end EvS
end

section
namespace EvS
open Go Go.Dam Go.Proofs
set_option maxRecDepth 1000000
set_option linter.unusedVariables false
set_option linter.unusedSectionVars false
set_option linter.unusedSimpArgs false
abbrev nilD : D := D.v (Value.slice none 0 0)
noncomputable def mxT (xs : List Int) (r m i : Int) : Cs := ⟨TT.of [(0, ri xs), (2, i64 r), (3, i64 m), (4, i64 i)], 25, [], [], none, 0⟩
noncomputable def hiT (c n : Int) (k : Nat) (m i : Int) (xs : List Int) : Cs := ⟨TT.of [(0, i64 c), (4, i64 0), (5, i64 0), (7, i64 n), (17, D.sl 544 0 k ⟨1, 0⟩), (18, i64 m), (19, i64 i)], 34, [], [(544, BX.row [Col0.ints .i64 xs] false)], none, 0⟩
noncomputable def roT (c : Int) (us : List Int) (k : Nat) (i : Int) (xs : List Int) : Cs := ⟨TT.of [(0, i64 c), (1, ru us), (4, nilD), (5, i64 0), (6, D.sl 9001 0 k ⟨1, 0⟩), (7, i64 i)], 33, [], [(9001, BX.row [Col0.ints .u32 xs] false)], none, 0⟩
noncomputable def rvT (c : Int) (us : List Int) (k m : Nat) (i : Int) (xs es ks : List Int) : Cs := ⟨TT.of [(0, i64 c), (1, ru us), (4, nilD), (5, i64 0), (6, D.sl 9001 0 k ⟨1, 0⟩), (7, D.sl 9002 0 m ⟨2, 0⟩), (8, i64 i)], 45, [], [(9001, BX.row [Col0.ints .u32 xs] false), (9002, BX.row [Col0.ints .i64 es, Col0.ints .u32 ks] false)], none, 0⟩
noncomputable def rhT (c : Int) (us : List Int) (k : Nat) (n i : Int) (xs : List Int) : Cs := ⟨TT.of [(0, i64 c), (1, ru us), (4, i64 0), (5, D.sl 9001 0 k ⟨1, 0⟩), (6, i64 n), (7, i64 i)], 34, [], [(9001, BX.row [Col0.ints .u32 xs] false)], none, 0⟩
noncomputable def rrT (us : List Int) (k : Nat) (i : Int) (xs : List Int) : Cs := ⟨TT.of [(0, ru us), (2, nilD), (3, i64 0), (4, D.sl 9001 0 k ⟨1, 0⟩), (5, i64 i)], 62, [], [(9001, BX.row [Col0.ints .i64 xs] false)], none, 0⟩
noncomputable def rrT2 (us : List Int) (k : Nat) (i : Int) (xs : List Int) (m : Nat) (j : Int) (os : List Int) : Cs := ⟨TT.of [(0, ru us), (2, nilD), (3, i64 0), (4, D.sl 9001 0 k ⟨1, 0⟩), (5, i64 i), (6, D.sl 9002 0 m ⟨1, 0⟩), (7, i64 j)], 62, [], [(9001, BX.row [Col0.ints .i64 xs] false), (9002, BX.row [Col0.ints .u32 os] false)], none, 0⟩
end EvS
end
