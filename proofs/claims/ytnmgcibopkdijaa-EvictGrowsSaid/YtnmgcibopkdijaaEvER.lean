/- The functions of the folder evict: what they compute. No condition. -/
import Derived.Test.YtnmgcibopkdijaaEvEM
set_option linter.unusedSectionVars false
set_option linter.unusedVariables false
set_option linter.unusedSimpArgs false
section
namespace EvS
open Go Go.Dam Go.Proofs
set_option maxRecDepth 1000000
set_option linter.unusedVariables false
set_option linter.unusedSectionVars false
set_option linter.unusedSimpArgs false

theorem ne_p0 (us : List Int) : fnX Try.prog (X2) 100000 [.d true] 14 [ru us] = some (D.tup [i64 0, i64 4], [cmpI BinOp.gtr (↑(us.length)) 60 = true]) := by kernel_rfl
theorem ne_p1 (us : List Int) : fnX Try.prog (X2) 100000 [.d false] 14 [ru us] = some (D.tup [i64 (opI BinOp.add IntKind.i64 (mostI BinOp.gtr 0 (maxV (reachL us ++ [0]))) 1), i64 0], [(reachL us).length + 1 = (reachL us ++ [0]).length, 1 ≤ (reachL us ++ [0]).length ∧ (reachL us ++ [0]).length ≤ 200, ((reachL us).length + 1) * 8 ≤ 17592186044416, (reachL us).length = (reachL us).length, (reachL us).length = (reachL us).length, okX us, cmpI BinOp.gtr (↑(us.length)) 60 = false]) := by kernel_rfl
theorem ne_calls (us : List Int) (res : D)
  (h0 : ((cmpI BinOp.gtr (↑(us.length)) 60) = true) → (True) ∧ res = D.tup [i64 0, i64 4])
  (h1 : ((cmpI BinOp.gtr (↑(us.length)) 60) = false) → (((reachL us).length + 1 = (reachL us ++ [0]).length) ∧ (1 ≤ (reachL us ++ [0]).length ∧ (reachL us ++ [0]).length ≤ 200) ∧ (((reachL us).length + 1) * 8 ≤ 17592186044416) ∧ ((reachL us).length = (reachL us).length) ∧ (okX us) ∧ True) ∧ res = D.tup [i64 (opI BinOp.add IntKind.i64 (mostI BinOp.gtr 0 (maxV (reachL us ++ [0]))) 1), i64 0]) : CallsD Try.prog 14 [ru us] res := by
  cases e0 : (cmpI BinOp.gtr (↑(us.length)) 60) with
  | true =>
    obtain ⟨_, kr⟩ := h0 e0
    exact of_path (hX2) (ne_p0 us) ⟨e0, trivial⟩ kr
  | false =>
    obtain ⟨⟨k0, k1, k2, k3, k4, _⟩, kr⟩ := h1 e0
    exact of_path (hX2) (ne_p1 us) ⟨k0, k1, k2, rfl, k3, k4, e0, trivial⟩ kr
def needV (us : List Int) : Int := if us.length ≤ 60 then mostR us + 1 else 0
theorem ne_ok (us : List Int) (h : okX us) : CallsD Try.prog 14 [ru us] (.tup [i64 (needV us), i64 (lenV us)]) := by
  unfold needV lenV
  have hrl := reachL_len us
  by_cases c : us.length ≤ 60
  · rw [if_pos c, if_pos c]
    refine ne_calls us _ (fun g => by rw [gtr_t] at g; omega) fun _ => ⟨⟨by simp, ⟨by simp, by simp; omega⟩, by omega, rfl, h, trivial⟩, ?_⟩
    have h1 := mostR_nonneg us
    have h2 := mostR_le us
    rw [mostI_max, show max 0 (maxV (reachL us ++ [0])) = mostR us from max_need _, opI_add, wrap_i64_of (by omega) (by omega)]
  · rw [if_neg c, if_neg c]
    exact ne_calls us _ (fun _ => ⟨trivial, rfl⟩) fun g => by rw [gtr_f] at g; omega

theorem rhi_p0 (c : Int) (us : List Int) : fnX Try.prog (X2) 100000 [.d true] 13 [i64 c, ru us] = some (D.tup [i64 0, i64 (chkV c us.length)], [cmpI BinOp.neq (chkV c us.length) 0 = true]) := by kernel_rfl
theorem rhi_p1 (c : Int) (us : List Int) : fnX Try.prog (X2) 100000 [.d false] 13 [i64 c, ru us] = some (D.tup [i64 ↑(hitsL c.toNat us), i64 0], [us.length ≤ 100 ∧ 0 ≤ c ∧ c ≤ 200, cmpI BinOp.neq (chkV c us.length) 0 = false]) := by kernel_rfl
theorem rhi_calls (c : Int) (us : List Int) (res : D)
  (h0 : ((cmpI BinOp.neq (chkV c us.length) 0) = true) → (True) ∧ res = D.tup [i64 0, i64 (chkV c us.length)])
  (h1 : ((cmpI BinOp.neq (chkV c us.length) 0) = false) → ((us.length ≤ 100 ∧ 0 ≤ c ∧ c ≤ 200) ∧ True) ∧ res = D.tup [i64 ↑(hitsL c.toNat us), i64 0]) : CallsD Try.prog 13 [i64 c, ru us] res := by
  cases e0 : (cmpI BinOp.neq (chkV c us.length) 0) with
  | true =>
    obtain ⟨_, kr⟩ := h0 e0
    exact of_path (hX2) (rhi_p0 c us) ⟨e0, trivial⟩ kr
  | false =>
    obtain ⟨⟨k0, _⟩, kr⟩ := h1 e0
    exact of_path (hX2) (rhi_p1 c us) ⟨k0, e0, trivial⟩ kr
theorem rhi_ok (c : Int) (us : List Int) : CallsD Try.prog 13 [i64 c, ru us] (.tup [i64 (hitsV c us), i64 (chkV c us.length)]) := by
  unfold hitsV
  by_cases e : chkV c us.length = 0
  · rw [if_pos e, e]
    obtain ⟨h1, h2, h3⟩ := chk_pos e
    exact rhi_calls c us _ (fun g => by rw [neq_t] at g; exact absurd e g) fun _ => ⟨⟨⟨by omega, by omega, by omega⟩, trivial⟩, rfl⟩
  · rw [if_neg e]
    exact rhi_calls c us _ (fun _ => ⟨trivial, rfl⟩) fun g => by rw [neq_f] at g; exact absurd g e
noncomputable def rnL_c0 (us : List Int) (i : Int) := inB (List.take (i.toNat - 0) (List.drop 0 us)) (us.getD i.toNat 0)
theorem rnL_r0 (us : List Int) (n i : Int) : roundX Try.prog (X2) 100000 (loopAt Try.prog 15 0) [.d true, .d true] [[0, 2, 3, 4, 5]] [] (rnT us n i) = some (Ex.normal, (rnT (us) (opI BinOp.add IntKind.i64 n 1) (opI BinOp.add IntKind.i64 i 1)), [inB (List.take (i.toNat - 0) (List.drop 0 us)) (us.getD i.toNat 0) = true, (List.take (i.toNat - 0) (List.drop 0 us)).length ≤ 300, decide (0 ≤ i) = true, decide (i < ↑(us.length)) = true, true = true, decide (0 ≤ i) = true, decide (i ≤ ↑(us.length)) = true, cmpI BinOp.lss i ↑(us.length) = true]) := by kernel_rfl
theorem rnL_r1 (us : List Int) (n i : Int) : roundX Try.prog (X2) 100000 (loopAt Try.prog 15 0) [.d true, .d false] [[0, 2, 3, 4, 5]] [] (rnT us n i) = some (Ex.normal, (rnT (us) (n) (opI BinOp.add IntKind.i64 i 1)), [inB (List.take (i.toNat - 0) (List.drop 0 us)) (us.getD i.toNat 0) = false, (List.take (i.toNat - 0) (List.drop 0 us)).length ≤ 300, decide (0 ≤ i) = true, decide (i < ↑(us.length)) = true, true = true, decide (0 ≤ i) = true, decide (i ≤ ↑(us.length)) = true, cmpI BinOp.lss i ↑(us.length) = true]) := by kernel_rfl
theorem rnL_r2 (us : List Int) (n i : Int) : roundX Try.prog (X2) 100000 (loopAt Try.prog 15 0) [.d false] [[0, 2, 3, 4, 5]] [] (rnT us n i) = some (Ex.exit 0, (rnT (us) (n) (i)), [cmpI BinOp.lss i ↑(us.length) = false]) := by kernel_rfl
theorem rnL_step (us : List Int) (n : Int) (i : Int) (σ : St) (e : Ex)
  (h0 : ((cmpI BinOp.lss i ↑(us.length)) = true) → ((rnL_c0 us i) = true) → (((List.take (i.toNat - 0) (List.drop 0 us)).length ≤ 300) ∧ (decide (0 ≤ i) = true) ∧ (decide (i < ↑(us.length)) = true) ∧ (decide (0 ≤ i) = true) ∧ (decide (i ≤ ↑(us.length)) = true) ∧ True) ∧ Runs Try.prog (CallsD Try.prog) (.rounds (loopAt Try.prog 15 0)) (rnT (us) (opI BinOp.add IntKind.i64 n 1) (opI BinOp.add IntKind.i64 i 1)).abs e σ)
  (h1 : ((cmpI BinOp.lss i ↑(us.length)) = true) → ((rnL_c0 us i) = false) → (((List.take (i.toNat - 0) (List.drop 0 us)).length ≤ 300) ∧ (decide (0 ≤ i) = true) ∧ (decide (i < ↑(us.length)) = true) ∧ (decide (0 ≤ i) = true) ∧ (decide (i ≤ ↑(us.length)) = true) ∧ True) ∧ Runs Try.prog (CallsD Try.prog) (.rounds (loopAt Try.prog 15 0)) (rnT (us) (n) (opI BinOp.add IntKind.i64 i 1)).abs e σ)
  (h2 : ((cmpI BinOp.lss i ↑(us.length)) = false) → (True) ∧ (e = Ex.exit 0 ∧ σ = (rnT (us) (n) (i)).abs)) : Runs Try.prog (CallsD Try.prog) (.rounds (loopAt Try.prog 15 0)) (rnT us n i).abs e σ := by
  cases e0 : (cmpI BinOp.lss i ↑(us.length)) with
  | true =>
    cases e1 : (rnL_c0 us i) with
    | true =>
      obtain ⟨⟨k0, k1, k2, k3, k4, _⟩, kr⟩ := h0 e0 e1
      exact rounds_on (hX2) (rnL_r0 us n i) ⟨e1, k0, k1, k2, rfl, k3, k4, e0, trivial⟩ kr
    | false =>
      obtain ⟨⟨k0, k1, k2, k3, k4, _⟩, kr⟩ := h1 e0 e1
      exact rounds_on (hX2) (rnL_r1 us n i) ⟨e1, k0, k1, k2, rfl, k3, k4, e0, trivial⟩ kr
  | false =>
    obtain ⟨_, kr⟩ := h2 e0
    exact rounds_end (hX2) (rnL_r2 us n i) ⟨e0, trivial⟩ (by simp) kr

theorem rnL2_r0 (us : List Int) (a n : Int) : roundX Try.prog (X2) 100000 (loopAt Try.prog 15 1) [.d true] [[0, 2, 3, 4, 6]] [] (rnT2 us a n) = some (Ex.normal, (rnT2 (us) (a) (opI BinOp.add IntKind.i64 n 1)), [cmpI BinOp.lss (↑(hitsL n.toNat us)) a = true, us.length ≤ 100 ∧ 0 ≤ n ∧ n ≤ 200]) := by kernel_rfl
theorem rnL2_r1 (us : List Int) (a n : Int) : roundX Try.prog (X2) 100000 (loopAt Try.prog 15 1) [.d false] [[0, 2, 3, 4, 6]] [] (rnT2 us a n) = some (Ex.exit 2, (rnT2 (us) (a) (n)), [cmpI BinOp.lss (↑(hitsL n.toNat us)) a = false, us.length ≤ 100 ∧ 0 ≤ n ∧ n ≤ 200]) := by kernel_rfl
theorem rnL2_step (us : List Int) (a : Int) (n : Int) (σ : St) (e : Ex)
  (h0 : ((cmpI BinOp.lss (↑(hitsL n.toNat us)) a) = true) → ((us.length ≤ 100 ∧ 0 ≤ n ∧ n ≤ 200) ∧ True) ∧ Runs Try.prog (CallsD Try.prog) (.rounds (loopAt Try.prog 15 1)) (rnT2 (us) (a) (opI BinOp.add IntKind.i64 n 1)).abs e σ)
  (h1 : ((cmpI BinOp.lss (↑(hitsL n.toNat us)) a) = false) → ((us.length ≤ 100 ∧ 0 ≤ n ∧ n ≤ 200) ∧ True) ∧ (e = Ex.exit 2 ∧ σ = (rnT2 (us) (a) (n)).abs)) : Runs Try.prog (CallsD Try.prog) (.rounds (loopAt Try.prog 15 1)) (rnT2 us a n).abs e σ := by
  cases e0 : (cmpI BinOp.lss (↑(hitsL n.toNat us)) a) with
  | true =>
    obtain ⟨⟨k0, _⟩, kr⟩ := h0 e0
    exact rounds_on (hX2) (rnL2_r0 us a n) ⟨e0, k0, trivial⟩ kr
  | false =>
    obtain ⟨⟨k0, _⟩, kr⟩ := h1 e0
    exact rounds_end (hX2) (rnL2_r1 us a n) ⟨e0, k0, trivial⟩ (by simp) kr

theorem rnF_p0 (us : List Int) (a n i : Int) : fnX Try.prog (X2) 100000 [.d true] 15 [ru us] = some (D.tup [i64 0, i64 4], [cmpI BinOp.gtr (↑(us.length)) 60 = true]) := by kernel_rfl
theorem rnF_p1 (us : List Int) (a n i : Int) : fnX Try.prog (X2) 100000 [.d false, PE.l [[0, 2, 3, 4, 5]] [] (rnT us 0 0) (Ex.exit 0) (rnT us a i), PE.l [[0, 2, 3, 4, 6]] [] (rnT2 us a 1) (Ex.exit 2) (rnT2 us a n)] 15 [ru us] = some (D.tup [i64 n, i64 0], [(rnT2 us a 1 = rnT2 us a 1), Runs Try.prog (CallsD Try.prog) (.code (.loop (loopAt Try.prog 15 1))) (rnT2 us a 1).abs (Ex.exit 2) (rnT2 us a n).abs, (rnT us 0 0 = rnT us 0 0), Runs Try.prog (CallsD Try.prog) (.code (.loop (loopAt Try.prog 15 0))) (rnT us 0 0).abs (Ex.exit 0) (rnT us a i).abs, cmpI BinOp.gtr (↑(us.length)) 60 = false]) := by kernel_rfl
theorem rnF_calls (us : List Int) (a n i : Int) (res : D)
  (h0 : ((cmpI BinOp.gtr (↑(us.length)) 60) = true) → (True) ∧ res = D.tup [i64 0, i64 4])
  (h1 : ((cmpI BinOp.gtr (↑(us.length)) 60) = false) → ((Runs Try.prog (CallsD Try.prog) (.code (.loop (loopAt Try.prog 15 1))) (rnT2 us a 1).abs (Ex.exit 2) (rnT2 us a n).abs) ∧ (Runs Try.prog (CallsD Try.prog) (.code (.loop (loopAt Try.prog 15 0))) (rnT us 0 0).abs (Ex.exit 0) (rnT us a i).abs) ∧ True) ∧ res = D.tup [i64 n, i64 0]) : CallsD Try.prog 15 [ru us] res := by
  cases e0 : (cmpI BinOp.gtr (↑(us.length)) 60) with
  | true =>
    obtain ⟨_, kr⟩ := h0 e0
    exact of_path (hX2) (rnF_p0 us a n i) ⟨e0, trivial⟩ kr
  | false =>
    obtain ⟨⟨k0, k1, _⟩, kr⟩ := h1 e0
    exact of_path (hX2) (rnF_p1 us a n i) ⟨rfl, k0, rfl, k1, e0, trivial⟩ kr
theorem again_le (us : List Int) : againL us ≤ us.length := by
  unfold againL; have := List.countP_le_length (p := fun r => decide (0 ≤ r)) (l := reachL us); rw [reachL_len] at this; exact this
theorem rn_ok (us : List Int) : CallsD Try.prog 15 [ru us] (.tup [i64 (needV us), i64 (lenV us)]) := by
  unfold needV lenV
  by_cases c : us.length ≤ 60
  · rw [if_pos c, if_pos c]
    have hm0 := mostR_nonneg us
    have hm1 := mostR_le us
    obtain ⟨m, hm⟩ := Int.eq_ofNat_of_zero_le hm0
    refine rnF_calls us (againL us) (mostR us + 1) us.length _ (fun g => by rw [gtr_t] at g; omega) fun _ => ⟨⟨loop_of_rounds ?_, loop_of_rounds ?_, trivial⟩, rfl⟩
    · rw [hm]
      have hz := scan_all (P := Try.prog) (F := CallsD Try.prog) (b := loopAt Try.prog 15 1) (fun i => rnT2 us (againL us) ((i + 1 : Nat) : Int)) m (fun _ => True) (fun i hi _ σ e hr => ?_) (σ := (rnT2 us (againL us) ((m + 1 : Nat) : Int)).abs) (e := .exit 2) ?_ m 0 (by omega) (fun _ _ _ => trivial)
      · exact hz
      · have hlt := (hits_lt (i + 1) (by omega) us).2 (by omega)
        refine rnL2_step us _ _ σ e (fun _ => ?_) fun g => by rw [lss_f, Int.toNat_natCast] at g; omega
        have e1 : opI .add .i64 ((i + 1 : Nat) : Int) 1 = ((i + 1 + 1 : Nat) : Int) := by rw [opI_add, wrap_i64_of (by omega) (by omega)]; omega
        rw [e1]
        exact ⟨⟨⟨by omega, by omega, by omega⟩, trivial⟩, hr⟩
      · have hlt : ¬ hitsL (m + 1) us < againL us := fun q => by have := (hits_lt (m + 1) (by omega) us).1 q; omega
        exact rnL2_step us _ _ _ _ (fun g => by rw [lss_t, Int.toNat_natCast] at g; omega) fun _ => ⟨⟨⟨by omega, by omega, by omega⟩, trivial⟩, rfl, rfl⟩
    · have hz := scan_all (P := Try.prog) (F := CallsD Try.prog) (b := loopAt Try.prog 15 0) (fun i => rnT us (againL (us.take i) : Nat) (i : Int)) us.length (fun _ => True) (fun i hi _ σ e hr => ?_) (σ := (rnT us (againL us : Nat) us.length).abs) (e := .exit 0) ?_ us.length 0 (by omega) (fun _ _ _ => trivial)
      · simpa [againL, reachL] using hz
      · have b := natLt hi
        have hlen : (us.take i).length = i := by rw [List.length_take]; omega
        have ha := again_le (us.take i)
        rw [take_one us i hi, againL_snoc] at hr
        have e1 : opI .add .i64 (againL (us.take i) : Int) 1 = ((againL (us.take i) + 1 : Nat) : Int) := by rw [opI_add, wrap_i64_of (by omega) (by omega)]; omega
        refine rnL_step us _ i σ e (fun _ g => ?_) (fun _ g => ?_) fun g => by rw [lss_f] at g; omega
        · try unfold rnL_c0 at g
          rw [Int.toNat_natCast, Nat.sub_zero, List.drop_zero] at g ⊢
          unfold inB at g
          rw [decide_eq_true_eq] at g
          rw [if_pos g] at hr
          rw [succL hi (by omega), e1]
          exact ⟨⟨by omega, b.1, b.2, b.1, by simp; omega, trivial⟩, hr⟩
        · try unfold rnL_c0 at g
          rw [Int.toNat_natCast, Nat.sub_zero, List.drop_zero] at g ⊢
          unfold inB at g
          rw [decide_eq_false_iff_not] at g
          rw [if_neg g, Nat.add_zero] at hr
          rw [succL hi (by omega)]
          exact ⟨⟨by omega, b.1, b.2, b.1, by simp; omega, trivial⟩, hr⟩
      · rw [List.take_length]
        exact rnL_step us _ us.length _ _ (fun g => by rw [lss_t] at g; omega) (fun g => by rw [lss_t] at g; omega) fun _ => ⟨trivial, rfl, rfl⟩
  · rw [if_neg c, if_neg c]
    exact rnF_calls us 0 0 0 _ (fun _ => ⟨trivial, rfl⟩) fun g => by rw [gtr_f] at g; omega

theorem ex_p0 (u : Nat) : fnX Try.prog (X2) 100000 [] 30 [] = some (D.ow 5 1 [u32 1, u32 2, u32 1, u32 3, u32 2], []) := by kernel_rfl
theorem ex_calls (u : Nat) (res : D)
  (h0 : (True) ∧ res = D.ow 5 1 [u32 1, u32 2, u32 1, u32 3, u32 2]) : CallsD Try.prog 30 [] res := by
  exact of_path (hX2) (ex_p0 u) trivial (h0).2
theorem calls_out {P : Program} {f : FuncId} {args : List D} {e e' : D} (h : ReadsO e e') (k : CallsD P f args e) : CallsD P f args e' := fun w A vs hv low glo => by
  refine (k w A vs hv low glo).mono ?_
  rintro r w' ⟨v, A', bl, rfl, hr, h1⟩
  exact ⟨v, A', bl, rfl, h w' A' v bl hr, h1⟩
theorem calls_in {P : Program} {f : FuncId} {args args' : List D} {e : D} (h : ReadsL args' args) (k : CallsD P f args e) : CallsD P f args' e := fun w A vs hv low glo => k w A vs (h.repL hv) low glo
theorem ex_ok : CallsD Try.prog 30 [] (ou [1, 2, 1, 3, 2]) := calls_out (ow_oc [.ints .u32 [1, 2, 1, 3, 2]]) (ex_calls 0 _ ⟨trivial, rfl⟩)
def exC : List D → Option (D × List Prop)
  | [] => some (ou [1, 2, 1, 3, 2], [])
  | _ => none
theorem exC_ok (args res l) (h : exC args = some (res, l)) (hl : AllP l) : CallsD Try.prog 30 args res := by
  unfold exC at h; split at h
  · simp only [Option.some.injEq, Prod.mk.injEq] at h
    obtain ⟨rfl, rfl⟩ := h
    exact ex_ok
  · cases h
theorem notLive : ¬ Live := fun h => by cases h
theorem rd2 (a b : Int) : Reads (.sh 2 [u32 a, u32 b]) (ru [a, b]) := sh_rc notLive [.ints .u32 [a, b]]
theorem rd4 (a b c d : Int) : Reads (.sh 2 [i64 a, u32 b, i64 c, u32 d]) (rg [a, c] [b, d]) := sh_rc notLive [.ints .i64 [a, c], .ints .u32 [b, d]]
theorem rd5 (a b c d e : Int) : Reads (.sh 5 [i64 a, i64 b, i64 c, i64 d, i64 e]) (ri [a, b, c, d, e]) := sh_rc notLive [.ints .i64 [a, b, c, d, e]]
def smC2 : List D → Option (D × List Prop)
  | [.rc [.ints .u32 xs], .sh 2 [.v (.int .u32 a), .v (.int .u32 b)]] => some (bo (eqB xs [a, b]), [xs.length ≤ 200])
  | _ => none
theorem smC2_ok (args res l) (h : smC2 args = some (res, l)) (hl : AllP l) : CallsD Try.prog 16 args res := by
  unfold smC2 at h; split at h
  · simp only [Option.some.injEq, Prod.mk.injEq] at h
    obtain ⟨rfl, rfl⟩ := h; obtain ⟨h0, _⟩ := hl
    exact calls_in (.cons (.refl _) (.cons (rd2 _ _) .nil)) (sm_ok _ _ h0)
  · cases h
def siC2 : List D → Option (D × List Prop)
  | [.rc [.ints .i64 xs], .sh 5 [.v (.int .i64 a), .v (.int .i64 b), .v (.int .i64 c), .v (.int .i64 d), .v (.int .i64 e)]] => some (bo (eqB xs [a, b, c, d, e]), [xs.length ≤ 200])
  | _ => none
theorem siC2_ok (args res l) (h : siC2 args = some (res, l)) (hl : AllP l) : CallsD Try.prog 18 args res := by
  unfold siC2 at h; split at h
  · simp only [Option.some.injEq, Prod.mk.injEq] at h
    obtain ⟨rfl, rfl⟩ := h; obtain ⟨h0, _⟩ := hl
    exact calls_in (.cons (.refl _) (.cons (rd5 _ _ _ _ _) .nil)) (si_ok _ _ h0)
  · cases h
def sgC2 : List D → Option (D × List Prop)
  | [.rc [.ints .i64 xs, .ints .u32 ks], .sh 2 [.v (.int .i64 a), .v (.int .u32 b), .v (.int .i64 c), .v (.int .u32 d)]] => some (bo (eqB xs [a, c] && eqB ks [b, d]), [xs.length ≤ 200 ∧ ks.length = xs.length])
  | _ => none
theorem sgC2_ok (args res l) (h : sgC2 args = some (res, l)) (hl : AllP l) : CallsD Try.prog 17 args res := by
  unfold sgC2 at h; split at h
  · simp only [Option.some.injEq, Prod.mk.injEq] at h
    obtain ⟨rfl, rfl⟩ := h; obtain ⟨h0, _⟩ := hl
    exact calls_in (.cons (.refl _) (.cons (rd4 _ _ _ _) .nil)) (sg_ok _ _ _ _ ⟨h0.1, h0.2, rfl⟩)
  · cases h
def neC : List D → Option (D × List Prop)
  | [.rc [.ints .u32 us]] => some ((.tup [i64 (needV us), i64 (lenV us)]), [okX us])
  | _ => none
theorem neC_ok (args res l) (h : neC args = some (res, l)) (hl : AllP l) : CallsD Try.prog 14 args res := by
  unfold neC at h; split at h
  · simp only [Option.some.injEq, Prod.mk.injEq] at h
    obtain ⟨rfl, rfl⟩ := h; obtain ⟨h0, _⟩ := hl
    exact ne_ok _ h0
  · cases h
def rhiC : List D → Option (D × List Prop)
  | [.v (.int .i64 c), .rc [.ints .u32 us]] => some ((.tup [i64 (hitsV c us), i64 (chkV c us.length)]), [])
  | _ => none
theorem rhiC_ok (args res l) (h : rhiC args = some (res, l)) (hl : AllP l) : CallsD Try.prog 13 args res := by
  unfold rhiC at h; split at h
  · simp only [Option.some.injEq, Prod.mk.injEq] at h
    obtain ⟨rfl, rfl⟩ := h
    exact rhi_ok _ _ 
  · cases h
def rnC : List D → Option (D × List Prop)
  | [.rc [.ints .u32 us]] => some ((.tup [i64 (needV us), i64 (lenV us)]), [])
  | _ => none
theorem rnC_ok (args res l) (h : rnC args = some (res, l)) (hl : AllP l) : CallsD Try.prog 15 args res := by
  unfold rnC at h; split at h
  · simp only [Option.some.injEq, Prod.mk.injEq] at h
    obtain ⟨rfl, rfl⟩ := h
    exact rn_ok _ 
  · cases h
def X3 : Contracts := addCon 14 (.call neC) (addCon 13 (.call rhiC) (addCon 15 (.call rnC) (addCon 30 (.call exC) X2)))
theorem hX3 : ConOK Try.prog X3 := addCall_ok neC_ok (addCall_ok rhiC_ok (addCall_ok rnC_ok (addCall_ok exC_ok hX2)))
def X3a : Contracts := addCon 16 (.call smC2) (addCon 18 (.call siC2) (addCon 17 (.call sgC2) X3))
theorem hX3a : ConOK Try.prog X3a := addCall_ok smC2_ok (addCall_ok siC2_ok (addCall_ok sgC2_ok hX3))
end EvS
end

section
namespace EvS
open Go Go.Dam Go.Proofs
set_option maxRecDepth 1000000
set_option linter.unusedVariables false
set_option linter.unusedSectionVars false
set_option linter.unusedSimpArgs false

theorem al_p0 (u : Nat) : fnX Try.prog (X3a) 100000 [.c 26] 19 [] = some (bo true, [(5 : Nat) = (5 : Nat), (5 : Nat) ≤ (200 : Nat), (2 : Nat) = (2 : Nat), (evUL (2 : Int) [(1 : Int), (2 : Int), (1 : Int), (3 : Int), (2 : Int)]).length ≤ (200 : Nat) ∧ (evKL (2 : Int) [(1 : Int), (2 : Int), (1 : Int), (3 : Int), (2 : Int)]).length = (evUL (2 : Int) [(1 : Int), (2 : Int), (1 : Int), (3 : Int), (2 : Int)]).length, (2 : Nat) = (2 : Nat), (2 : Nat) ≤ (200 : Nat), (5 : Nat) = (5 : Nat), okX [(1 : Int), (2 : Int), (1 : Int), (3 : Int), (2 : Int)], (5 : Nat) = (5 : Nat), okX [(1 : Int), (2 : Int), (1 : Int), (3 : Int), (2 : Int)], (5 : Nat) = (5 : Nat), okX [(1 : Int), (2 : Int), (1 : Int), (3 : Int), (2 : Int)], (5 : Nat) = (5 : Nat), okX [(1 : Int), (2 : Int), (1 : Int), (3 : Int), (2 : Int)], (5 : Nat) = (5 : Nat), okX [(1 : Int), (2 : Int), (1 : Int), (3 : Int), (2 : Int)], (5 : Nat) = (5 : Nat), okX [(1 : Int), (2 : Int), (1 : Int), (3 : Int), (2 : Int)]]) := by kernel_rfl
theorem al_calls (u : Nat) (res : D)
  (h0 : (((5 : Nat) ≤ (200 : Nat)) ∧ ((evUL (2 : Int) [(1 : Int), (2 : Int), (1 : Int), (3 : Int), (2 : Int)]).length ≤ (200 : Nat) ∧ (evKL (2 : Int) [(1 : Int), (2 : Int), (1 : Int), (3 : Int), (2 : Int)]).length = (evUL (2 : Int) [(1 : Int), (2 : Int), (1 : Int), (3 : Int), (2 : Int)]).length) ∧ ((2 : Nat) ≤ (200 : Nat)) ∧ (okX [(1 : Int), (2 : Int), (1 : Int), (3 : Int), (2 : Int)]) ∧ (okX [(1 : Int), (2 : Int), (1 : Int), (3 : Int), (2 : Int)]) ∧ (okX [(1 : Int), (2 : Int), (1 : Int), (3 : Int), (2 : Int)]) ∧ (okX [(1 : Int), (2 : Int), (1 : Int), (3 : Int), (2 : Int)]) ∧ (okX [(1 : Int), (2 : Int), (1 : Int), (3 : Int), (2 : Int)]) ∧ (okX [(1 : Int), (2 : Int), (1 : Int), (3 : Int), (2 : Int)]) ∧ True) ∧ res = bo true) : CallsD Try.prog 19 [] res := by
  obtain ⟨⟨k0, k1, k2, k3, k4, k5, k6, k7, k8, _⟩, kr⟩ := h0
  exact of_path (hX3a) (al_p0 u) ⟨rfl, k0, rfl, k1, rfl, k2, rfl, k3, rfl, k4, rfl, k5, rfl, k6, rfl, k7, rfl, k8, trivial⟩ kr
theorem okX5 : okX [1, 2, 1, 3, 2] := ⟨by decide, fun x hx => by simp at hx; rcases hx with rfl | rfl | rfl | rfl | rfl <;> rfl⟩
theorem evL_len (c : Int) (us : List Int) : (evKL c us).length = (evUL c us).length ∧ ((evUL c us).length ≤ us.length) := by
  unfold evKL evUL
  split
  · have := ev_count c.toNat us
    have h2 := ev_len c.toNat us
    omega
  · simp
theorem al_ok : CallsD Try.prog 19 [] (bo true) := by
  have h := evL_len 2 [1, 2, 1, 3, 2]
  have h5 : ([1, 2, 1, 3, 2] : List Int).length = 5 := rfl
  exact al_calls 0 _ ⟨⟨by decide, ⟨by omega, h.1⟩, by decide, okX5, okX5, okX5, okX5, okX5, okX5, trivial⟩, rfl⟩
def alC : List D → Option (D × List Prop)
  | [] => some (bo true, [])
  | _ => none
theorem alC_ok (args res l) (h : alC args = some (res, l)) (hl : AllP l) : CallsD Try.prog 19 args res := by
  unfold alC at h; split at h
  · simp only [Option.some.injEq, Prod.mk.injEq] at h
    obtain ⟨rfl, rfl⟩ := h
    exact al_ok
  · cases h
def X4 : Contracts := addCon 19 (.call alC) X3
theorem hX4 : ConOK Try.prog X4 := addCall_ok alC_ok hX3
theorem orderL_len (c : Int) (us : List Int) : (orderL c us).length ≤ us.length := by
  unfold orderL
  split
  · unfold lruN; have := lru_le us; rw [List.length_take]; omega
  · simp
theorem reachV_len (us : List Int) : (reachV us).length ≤ us.length := by
  unfold reachV
  split
  · rw [reachL_len]; exact Nat.le_refl _
  · simp
/-- A row that is handed back may be taken as one that stays. -/
theorem calls_seal {P : Program} {f : FuncId} {args : List D} {cols : List Col0} {x : Value} (k : CallsD P f args (.tup [.oc cols, .v x])) : CallsD P f args (.tup [.rc (cols.map Col0.up), .v x]) := fun w A vs hv low glo => by
  refine (k w A vs hv low glo).mono ?_
  rintro r w' ⟨v, A', bl, rfl, hr, hF, h2, h3, h4, h5⟩
  simp only [RepO, RepOs, RepS] at hr
  obtain ⟨us, rfl, u, xs, b1, b2, rfl, rfl, ⟨o, c, rfl, hr⟩, y, ys, b3, b4, rfl, rfl, ⟨rfl, rfl⟩, rfl, rfl⟩ := hr
  have hsh : RepS w' (fun q => A' q ∨ ∃ ad, some ad ∈ b1 ∧ q = ad.block) (.sh (rowLen0 cols) (rowCells0 cols)) (.slice o (rowLen0 cols) c) := by
    simp only [RepS]
    rcases hr with ⟨hz, rfl, hc, rfl⟩ | ⟨hl, ad, rfl, hs, rfl, _, hat⟩
    · refine ⟨o, 0, rfl, by omega, fun q => ?_, by rw [hc]; simp [RepAt]⟩
      rcases q with q | q
      · exact absurd hz q
      · exact absurd hc q
    · exact ⟨some ad, c, rfl, hl, fun _ => ⟨ad, rfl, hs, .inr ⟨ad, by simp, rfl⟩⟩, flatL_at _ _ (flat_rowCells cols) hat⟩
  have hrc := sh_rc notLive cols w' _ _ hsh
  refine ⟨_, fun q => A' q ∨ ∃ ad, some ad ∈ b1 ∧ q = ad.block, [], rfl, ?_, ⟨by simp, by simp⟩, fun q h => .inl (h2 q h), fun q h => ?_, fun q h hq => ?_, h5⟩
  · simp only [RepO, RepOs]
    exact ⟨[_, y], rfl, _, _, [], [], rfl, rfl, ⟨hrc, rfl⟩, _, _, [], [], rfl, rfl, ⟨by simp [RepS], rfl⟩, rfl, rfl⟩
  · rcases h with h | ⟨ad, h, rfl⟩
    · exact h3 q h
    · exact (hF.each ad (by simp [h])).2.1
  · rcases h with h | ⟨ad, h, rfl⟩
    · exact h4 q h hq
    · have := (hF.each ad (by simp [h])).1; omega
def orC2 : List D → Option (D × List Prop)
  | [.v (.int .i64 c), .rc [.ints .u32 us]] => some ((.tup [ru (orderL c us), i64 (chkV c us.length)]), [okX us])
  | _ => none
theorem orC2_ok (args res l) (h : orC2 args = some (res, l)) (hl : AllP l) : CallsD Try.prog 6 args res := by
  unfold orC2 at h; split at h
  · simp only [Option.some.injEq, Prod.mk.injEq] at h
    obtain ⟨rfl, rfl⟩ := h; obtain ⟨h0, _⟩ := hl
    exact calls_seal (or_ok _ _ h0)
  · cases h
def X5 : Contracts := addCon 6 (.call orC2) X4
theorem hX5 : ConOK Try.prog X5 := addCall_ok orC2_ok hX4
noncomputable def l4T (c : Int) (us : List Int) (h nd hit most dif k : Int) (n1 n2 n3 : Nat) (rs es ks os : List Int) : Cs := ⟨TT.of [(0, i64 c), (1, ru us), (4, bo false), (5, bo true), (6, D.sl 1024 0 n1 ⟨1, 0⟩), (8, i64 h), (10, i64 nd), (12, D.sl 1568 0 n2 ⟨2, 0⟩), (14, D.sl 1760 0 n3 ⟨1, 0⟩), (16, i64 hit), (17, i64 most), (18, i64 dif), (19, i64 k)], 162, [], [(1024, BX.row [Col0.ints .i64 rs] false), (1568, BX.row [Col0.ints .i64 es, Col0.ints .u32 ks] false), (1760, BX.row [Col0.ints .u32 os] false)], none, 0⟩
noncomputable def l5T (b : Int) (ys : List Int) (n m : Nat) (at_ k : Int) (e1 k1 e2 k2 : List Int) : Cs := ⟨TT.of [(1, i64 b), (6, bo false), (7, bo true), (10, ru ys), (16, D.sl 2240 0 n ⟨2, 0⟩), (18, D.sl 2432 0 m ⟨2, 0⟩), (20, i64 at_), (21, i64 k)], 178, [], [(2240, BX.row [Col0.ints .i64 e1, Col0.ints .u32 k1] false), (2432, BX.row [Col0.ints .i64 e2, Col0.ints .u32 k2] false)], none, 0⟩
end EvS
end

section
namespace EvS
open Go Go.Dam Go.Proofs
set_option maxRecDepth 1000000
set_option linter.unusedVariables false
set_option linter.unusedSectionVars false
set_option linter.unusedSimpArgs false

theorem l5I_r0 (b : Int) (ys : List Int) (n m : Nat) (at_ k : Int) (es ks fs gs : List Int) : roundX Try.prog (X5) 100000 (loopAt Try.prog 5 1) [.d true, .c 9, .d true] [[1, 6, 7, 10, 16, 18, 20, 21]] [(2240, 2240), (2432, 2432)] (l5T b ys n m at_ k es ks fs gs) = some (Ex.normal, (l5T (b) (ys) (n) (m) (opI BinOp.add IntKind.i64 at_ 1) (k) (es) (ks) (fs) (gs)), [cmpI BinOp.lss (es.getD at_.toNat 0) (fs.getD k.toNat 0) = true, k.toNat < fs.length, decide (0 ≤ k) = true, decide (k < ↑m) = true, at_.toNat < es.length, decide (0 ≤ at_) = true, decide (at_ < ↑n) = true, cmpI BinOp.lss at_ ↑n = true]) := by kernel_rfl
theorem l5I_r1 (b : Int) (ys : List Int) (n m : Nat) (at_ k : Int) (es ks fs gs : List Int) : roundX Try.prog (X5) 100000 (loopAt Try.prog 5 1) [.d true, .c 9, .d false] [[1, 6, 7, 10, 16, 18, 20, 21]] [(2240, 2240), (2432, 2432)] (l5T b ys n m at_ k es ks fs gs) = some (Ex.exit 2, (l5T (b) (ys) (n) (m) (at_) (k) (es) (ks) (fs) (gs)), [cmpI BinOp.lss (es.getD at_.toNat 0) (fs.getD k.toNat 0) = false, k.toNat < fs.length, decide (0 ≤ k) = true, decide (k < ↑m) = true, at_.toNat < es.length, decide (0 ≤ at_) = true, decide (at_ < ↑n) = true, cmpI BinOp.lss at_ ↑n = true]) := by kernel_rfl
theorem l5I_r2 (b : Int) (ys : List Int) (n m : Nat) (at_ k : Int) (es ks fs gs : List Int) : roundX Try.prog (X5) 100000 (loopAt Try.prog 5 1) [.d false, .c 10] [[1, 6, 7, 10, 16, 18, 20, 21]] [(2240, 2240), (2432, 2432)] (l5T b ys n m at_ k es ks fs gs) = some (Ex.exit 2, (l5T (b) (ys) (n) (m) (at_) (k) (es) (ks) (fs) (gs)), [cmpI BinOp.lss at_ ↑n = false]) := by kernel_rfl
theorem l5I_step (b : Int) (ys : List Int) (n : Nat) (m : Nat) (at_ : Int) (k : Int) (es : List Int) (ks : List Int) (fs : List Int) (gs : List Int) (σ : St) (e : Ex)
  (h0 : ((cmpI BinOp.lss at_ ↑n) = true) → ((cmpI BinOp.lss (es.getD at_.toNat 0) (fs.getD k.toNat 0)) = true) → ((k.toNat < fs.length) ∧ (decide (0 ≤ k) = true) ∧ (decide (k < ↑m) = true) ∧ (at_.toNat < es.length) ∧ (decide (0 ≤ at_) = true) ∧ (decide (at_ < ↑n) = true) ∧ True) ∧ Runs Try.prog (CallsD Try.prog) (.rounds (loopAt Try.prog 5 1)) (l5T (b) (ys) (n) (m) (opI BinOp.add IntKind.i64 at_ 1) (k) (es) (ks) (fs) (gs)).abs e σ)
  (h1 : ((cmpI BinOp.lss at_ ↑n) = true) → ((cmpI BinOp.lss (es.getD at_.toNat 0) (fs.getD k.toNat 0)) = false) → ((k.toNat < fs.length) ∧ (decide (0 ≤ k) = true) ∧ (decide (k < ↑m) = true) ∧ (at_.toNat < es.length) ∧ (decide (0 ≤ at_) = true) ∧ (decide (at_ < ↑n) = true) ∧ True) ∧ (e = Ex.exit 2 ∧ σ = (l5T (b) (ys) (n) (m) (at_) (k) (es) (ks) (fs) (gs)).abs))
  (h2 : ((cmpI BinOp.lss at_ ↑n) = false) → (True) ∧ (e = Ex.exit 2 ∧ σ = (l5T (b) (ys) (n) (m) (at_) (k) (es) (ks) (fs) (gs)).abs)) : Runs Try.prog (CallsD Try.prog) (.rounds (loopAt Try.prog 5 1)) (l5T b ys n m at_ k es ks fs gs).abs e σ := by
  cases e0 : (cmpI BinOp.lss at_ ↑n) with
  | true =>
    cases e1 : (cmpI BinOp.lss (es.getD at_.toNat 0) (fs.getD k.toNat 0)) with
    | true =>
      obtain ⟨⟨k0, k1, k2, k3, k4, k5, _⟩, kr⟩ := h0 e0 e1
      exact rounds_on (hX5) (l5I_r0 b ys n m at_ k es ks fs gs) ⟨e1, k0, k1, k2, k3, k4, k5, e0, trivial⟩ kr
    | false =>
      obtain ⟨⟨k0, k1, k2, k3, k4, k5, _⟩, kr⟩ := h1 e0 e1
      exact rounds_end (hX5) (l5I_r1 b ys n m at_ k es ks fs gs) ⟨e1, k0, k1, k2, k3, k4, k5, e0, trivial⟩ (by simp) kr
  | false =>
    obtain ⟨_, kr⟩ := h2 e0
    exact rounds_end (hX5) (l5I_r2 b ys n m at_ k es ks fs gs) ⟨e0, trivial⟩ (by simp) kr
noncomputable def l5L_c0 (b : Int) (ys : List Int) (n m : Nat) (at_ k : Int) (es ks fs gs : List Int) (at2 : Int) := Runs Try.prog (CallsD Try.prog) (.code (.loop (loopAt Try.prog 5 1))) (l5T b ys n m at_ k es ks fs gs).abs (Ex.exit 2) (l5T b ys n m at2 k es ks fs gs).abs
theorem l5L_r0 (b : Int) (ys : List Int) (n m : Nat) (at_ k : Int) (es ks fs gs : List Int) (at2 : Int) : roundX Try.prog (X5) 100000 (loopAt Try.prog 5 0) [.d true, PE.l [[1, 6, 7, 10, 16, 18, 20, 21]] [(2240, 2240), (2432, 2432)] (l5T b ys n m at_ k es ks fs gs) (Ex.exit 2) (l5T b ys n m at2 k es ks fs gs), .d true, .c 10] [[1, 6, 7, 10, 16, 18, 20, 21]] [(2240, 2240), (2432, 2432)] (l5T b ys n m at_ k es ks fs gs) = some (Ex.ret, (l5T (b) (ys) (n) (m) (at2) (k) (es) (ks) (fs) (gs)), [cmpI BinOp.eql at2 ↑n = true, (l5T b ys n m at_ k es ks fs gs = l5T b ys n m at_ k es ks fs gs), Runs Try.prog (CallsD Try.prog) (.code (.loop (loopAt Try.prog 5 1))) (l5T b ys n m at_ k es ks fs gs).abs (Ex.exit 2) (l5T b ys n m at2 k es ks fs gs).abs, cmpI BinOp.lss k ↑m = true]) := by kernel_rfl
theorem l5L_r1 (b : Int) (ys : List Int) (n m : Nat) (at_ k : Int) (es ks fs gs : List Int) (at2 : Int) : roundX Try.prog (X5) 100000 (loopAt Try.prog 5 0) [.d true, PE.l [[1, 6, 7, 10, 16, 18, 20, 21]] [(2240, 2240), (2432, 2432)] (l5T b ys n m at_ k es ks fs gs) (Ex.exit 2) (l5T b ys n m at2 k es ks fs gs), .d false, .c 9, .d true] [[1, 6, 7, 10, 16, 18, 20, 21]] [(2240, 2240), (2432, 2432)] (l5T b ys n m at_ k es ks fs gs) = some (Ex.ret, (l5T (b) (ys) (n) (m) (at2) (k) (es) (ks) (fs) (gs)), [cmpI BinOp.neq (es.getD at2.toNat 0) (fs.getD k.toNat 0) = true, k.toNat < fs.length, decide (0 ≤ k) = true, decide (k < ↑m) = true, at2.toNat < es.length, decide (0 ≤ at2) = true, decide (at2 < ↑n) = true, cmpI BinOp.eql at2 ↑n = false, (l5T b ys n m at_ k es ks fs gs = l5T b ys n m at_ k es ks fs gs), Runs Try.prog (CallsD Try.prog) (.code (.loop (loopAt Try.prog 5 1))) (l5T b ys n m at_ k es ks fs gs).abs (Ex.exit 2) (l5T b ys n m at2 k es ks fs gs).abs, cmpI BinOp.lss k ↑m = true]) := by kernel_rfl
theorem l5L_r2 (b : Int) (ys : List Int) (n m : Nat) (at_ k : Int) (es ks fs gs : List Int) (at2 : Int) : roundX Try.prog (X5) 100000 (loopAt Try.prog 5 0) [.d true, PE.l [[1, 6, 7, 10, 16, 18, 20, 21]] [(2240, 2240), (2432, 2432)] (l5T b ys n m at_ k es ks fs gs) (Ex.exit 2) (l5T b ys n m at2 k es ks fs gs), .d false, .c 9, .d false] [[1, 6, 7, 10, 16, 18, 20, 21]] [(2240, 2240), (2432, 2432)] (l5T b ys n m at_ k es ks fs gs) = some (Ex.normal, (l5T (b) (ys) (n) (m) (at2) (opI BinOp.add IntKind.i64 k 1) (es) (ks) (fs) (gs)), [cmpI BinOp.neq (es.getD at2.toNat 0) (fs.getD k.toNat 0) = false, k.toNat < fs.length, decide (0 ≤ k) = true, decide (k < ↑m) = true, at2.toNat < es.length, decide (0 ≤ at2) = true, decide (at2 < ↑n) = true, cmpI BinOp.eql at2 ↑n = false, (l5T b ys n m at_ k es ks fs gs = l5T b ys n m at_ k es ks fs gs), Runs Try.prog (CallsD Try.prog) (.code (.loop (loopAt Try.prog 5 1))) (l5T b ys n m at_ k es ks fs gs).abs (Ex.exit 2) (l5T b ys n m at2 k es ks fs gs).abs, cmpI BinOp.lss k ↑m = true]) := by kernel_rfl
theorem l5L_r3 (b : Int) (ys : List Int) (n m : Nat) (at_ k : Int) (es ks fs gs : List Int) (at2 : Int) : roundX Try.prog (X5) 100000 (loopAt Try.prog 5 0) [.d false] [[1, 6, 7, 10, 16, 18, 20, 21]] [(2240, 2240), (2432, 2432)] (l5T b ys n m at_ k es ks fs gs) = some (Ex.exit 0, (l5T (b) (ys) (n) (m) (at_) (k) (es) (ks) (fs) (gs)), [cmpI BinOp.lss k ↑m = false]) := by kernel_rfl
theorem l5L_step (b : Int) (ys : List Int) (n : Nat) (m : Nat) (at_ : Int) (k : Int) (es : List Int) (ks : List Int) (fs : List Int) (gs : List Int) (at2 : Int) (σ : St) (e : Ex)
  (h0 : ((cmpI BinOp.lss k ↑m) = true) → ((cmpI BinOp.eql at2 ↑n) = true) → ((l5L_c0 b ys n m at_ k es ks fs gs at2) ∧ True) ∧ (e = Ex.ret ∧ σ = (l5T (b) (ys) (n) (m) (at2) (k) (es) (ks) (fs) (gs)).abs))
  (h1 : ((cmpI BinOp.lss k ↑m) = true) → ((cmpI BinOp.eql at2 ↑n) = false) → ((cmpI BinOp.neq (es.getD at2.toNat 0) (fs.getD k.toNat 0)) = true) → ((k.toNat < fs.length) ∧ (decide (0 ≤ k) = true) ∧ (decide (k < ↑m) = true) ∧ (at2.toNat < es.length) ∧ (decide (0 ≤ at2) = true) ∧ (decide (at2 < ↑n) = true) ∧ (l5L_c0 b ys n m at_ k es ks fs gs at2) ∧ True) ∧ (e = Ex.ret ∧ σ = (l5T (b) (ys) (n) (m) (at2) (k) (es) (ks) (fs) (gs)).abs))
  (h2 : ((cmpI BinOp.lss k ↑m) = true) → ((cmpI BinOp.eql at2 ↑n) = false) → ((cmpI BinOp.neq (es.getD at2.toNat 0) (fs.getD k.toNat 0)) = false) → ((k.toNat < fs.length) ∧ (decide (0 ≤ k) = true) ∧ (decide (k < ↑m) = true) ∧ (at2.toNat < es.length) ∧ (decide (0 ≤ at2) = true) ∧ (decide (at2 < ↑n) = true) ∧ (l5L_c0 b ys n m at_ k es ks fs gs at2) ∧ True) ∧ Runs Try.prog (CallsD Try.prog) (.rounds (loopAt Try.prog 5 0)) (l5T (b) (ys) (n) (m) (at2) (opI BinOp.add IntKind.i64 k 1) (es) (ks) (fs) (gs)).abs e σ)
  (h3 : ((cmpI BinOp.lss k ↑m) = false) → (True) ∧ (e = Ex.exit 0 ∧ σ = (l5T (b) (ys) (n) (m) (at_) (k) (es) (ks) (fs) (gs)).abs)) : Runs Try.prog (CallsD Try.prog) (.rounds (loopAt Try.prog 5 0)) (l5T b ys n m at_ k es ks fs gs).abs e σ := by
  cases e0 : (cmpI BinOp.lss k ↑m) with
  | true =>
    cases e1 : (cmpI BinOp.eql at2 ↑n) with
    | true =>
      obtain ⟨⟨k0, _⟩, kr⟩ := h0 e0 e1
      exact rounds_end (hX5) (l5L_r0 b ys n m at_ k es ks fs gs at2) ⟨e1, rfl, k0, e0, trivial⟩ (by simp) kr
    | false =>
      cases e2 : (cmpI BinOp.neq (es.getD at2.toNat 0) (fs.getD k.toNat 0)) with
      | true =>
        obtain ⟨⟨k0, k1, k2, k3, k4, k5, k6, _⟩, kr⟩ := h1 e0 e1 e2
        exact rounds_end (hX5) (l5L_r1 b ys n m at_ k es ks fs gs at2) ⟨e2, k0, k1, k2, k3, k4, k5, e1, rfl, k6, e0, trivial⟩ (by simp) kr
      | false =>
        obtain ⟨⟨k0, k1, k2, k3, k4, k5, k6, _⟩, kr⟩ := h2 e0 e1 e2
        exact rounds_on (hX5) (l5L_r2 b ys n m at_ k es ks fs gs at2) ⟨e2, k0, k1, k2, k3, k4, k5, e1, rfl, k6, e0, trivial⟩ kr
  | false =>
    obtain ⟨_, kr⟩ := h3 e0
    exact rounds_end (hX5) (l5L_r3 b ys n m at_ k es ks fs gs at2) ⟨e0, trivial⟩ (by simp) kr
noncomputable def l5F_c0 (a b : Int) (us : List Int) := cmpI BinOp.lss ↑((evUL a us).length) ↑((evUL b us).length)
noncomputable def l5F_c1 (a b : Int) (us : List Int) := cmpI BinOp.gtr ↑((orderL a us).length) ↑((orderL b us).length)
noncomputable def l5F_c2 (a b : Int) (us : List Int) := List.take ((orderL a us).length - 0) (List.drop 0 (orderL b us))
noncomputable def l5F_c3 (a b : Int) (us : List Int) := l5T b (orderL b us) ((evUL a us).length) ((evUL b us).length) 0 0 (evUL a us) (evKL a us) (evUL b us) (evKL b us)
noncomputable def l5F_c4 (a b : Int) (us : List Int) (at_ k : Int) := l5T b (orderL b us) ((evUL a us).length) ((evUL b us).length) at_ k (evUL a us) (evKL a us) (evUL b us) (evKL b us)
theorem l5F_p0 (a b : Int) (us : List Int) (at_ k : Int) : fnX Try.prog (X5) 100000 [.d true, .c 8] 5 [i64 a, i64 b, ru us] = some (bo true, [cmpI BinOp.neq (chkV a us.length) 0 = true]) := by kernel_rfl
theorem l5F_p1 (a b : Int) (us : List Int) (at_ k : Int) : fnX Try.prog (X5) 100000 [.d false, .c 2, .d true, .c 4] 5 [i64 a, i64 b, ru us] = some (bo true, [cmpI BinOp.neq (chkV b us.length) 0 = true, cmpI BinOp.neq (chkV a us.length) 0 = false]) := by kernel_rfl
theorem l5F_p2 (a b : Int) (us : List Int) (at_ k : Int) : fnX Try.prog (X5) 100000 [.d false, .c 2, .d false, .c 1, .d true, .c 1] 5 [i64 a, i64 b, ru us] = some (bo true, [cmpI BinOp.gtr a b = true, cmpI BinOp.neq (chkV b us.length) 0 = false, cmpI BinOp.neq (chkV a us.length) 0 = false]) := by kernel_rfl
theorem l5F_p3 (a b : Int) (us : List Int) (at_ k : Int) : fnX Try.prog (X5) 100000 [.d false, .c 2, .d false, .c 1, .d false, .c 1, .d false, .c 0, .d false, .c 0, .d false, .c 0, .d false, .c 0, .d false, .c 0, .d false, .c 3, .d true, .c 14] 5 [i64 a, i64 b, ru us] = some (bo false, [cmpI BinOp.gtr ↑((orderL a us).length) ↑((orderL b us).length) = true, cmpI BinOp.neq (chkV b us.length) 0 = false, cmpI BinOp.neq (chkV a us.length) 0 = false, cmpI BinOp.neq (chkV b us.length) 0 = false, cmpI BinOp.neq (chkV a us.length) 0 = false, cmpI BinOp.neq (chkV b us.length) 0 = false, cmpI BinOp.neq (chkV a us.length) 0 = false, okX us, okX us, okX us, okX us, okX us, okX us, cmpI BinOp.gtr a b = false, cmpI BinOp.neq (chkV b us.length) 0 = false, cmpI BinOp.neq (chkV a us.length) 0 = false]) := by kernel_rfl
theorem l5F_p4 (a b : Int) (us : List Int) (at_ k : Int) : fnX Try.prog (X5) 100000 [.d false, .c 2, .d false, .c 1, .d false, .c 1, .d false, .c 0, .d false, .c 0, .d false, .c 0, .d false, .c 0, .d false, .c 0, .d false, .c 3, .d false, .c 5, .d true, .c 7] 5 [i64 a, i64 b, ru us] = some (bo false, [(!eqB (orderL a us) (l5F_c2 a b us)) = true, (orderL a us).length ≤ 200, true = true, decide ((0 : Int) ≤ ↑(orderL a us).length) = true, decide ((↑(orderL a us).length : Int) ≤ (↑(orderL b us).length : Int)) = true, cmpI BinOp.gtr ↑((orderL a us).length) ↑((orderL b us).length) = false, cmpI BinOp.neq (chkV b us.length) 0 = false, cmpI BinOp.neq (chkV a us.length) 0 = false, cmpI BinOp.neq (chkV b us.length) 0 = false, cmpI BinOp.neq (chkV a us.length) 0 = false, cmpI BinOp.neq (chkV b us.length) 0 = false, cmpI BinOp.neq (chkV a us.length) 0 = false, okX us, okX us, okX us, okX us, okX us, okX us, cmpI BinOp.gtr a b = false, cmpI BinOp.neq (chkV b us.length) 0 = false, cmpI BinOp.neq (chkV a us.length) 0 = false]) := by kernel_rfl
theorem l5F_p5 (a b : Int) (us : List Int) (at_ k : Int) : fnX Try.prog (X5) 100000 [.d false, .c 2, .d false, .c 1, .d false, .c 1, .d false, .c 0, .d false, .c 0, .d false, .c 0, .d false, .c 0, .d false, .c 0, .d false, .c 3, .d false, .c 5, .d false, .c 1, .d true, .c 4] 5 [i64 a, i64 b, ru us] = some (bo false, [cmpI BinOp.gtr (hitsV a us) (hitsV b us) = true, (!eqB (orderL a us) (l5F_c2 a b us)) = false, (orderL a us).length ≤ 200, true = true, decide ((0 : Int) ≤ ↑(orderL a us).length) = true, decide ((↑(orderL a us).length : Int) ≤ (↑(orderL b us).length : Int)) = true, cmpI BinOp.gtr ↑((orderL a us).length) ↑((orderL b us).length) = false, cmpI BinOp.neq (chkV b us.length) 0 = false, cmpI BinOp.neq (chkV a us.length) 0 = false, cmpI BinOp.neq (chkV b us.length) 0 = false, cmpI BinOp.neq (chkV a us.length) 0 = false, cmpI BinOp.neq (chkV b us.length) 0 = false, cmpI BinOp.neq (chkV a us.length) 0 = false, okX us, okX us, okX us, okX us, okX us, okX us, cmpI BinOp.gtr a b = false, cmpI BinOp.neq (chkV b us.length) 0 = false, cmpI BinOp.neq (chkV a us.length) 0 = false]) := by kernel_rfl
theorem l5F_p6 (a b : Int) (us : List Int) (at_ k : Int) : fnX Try.prog (X5) 100000 [.d false, .c 2, .d false, .c 1, .d false, .c 1, .d false, .c 0, .d false, .c 0, .d false, .c 0, .d false, .c 0, .d false, .c 0, .d false, .c 3, .d false, .c 5, .d false, .c 1, .d false, .c 3, .d true] 5 [i64 a, i64 b, ru us] = some (bo false, [cmpI BinOp.lss ↑((evUL a us).length) ↑((evUL b us).length) = true, cmpI BinOp.gtr (hitsV a us) (hitsV b us) = false, (!eqB (orderL a us) (l5F_c2 a b us)) = false, (orderL a us).length ≤ 200, true = true, decide ((0 : Int) ≤ ↑(orderL a us).length) = true, decide ((↑(orderL a us).length : Int) ≤ (↑(orderL b us).length : Int)) = true, cmpI BinOp.gtr ↑((orderL a us).length) ↑((orderL b us).length) = false, cmpI BinOp.neq (chkV b us.length) 0 = false, cmpI BinOp.neq (chkV a us.length) 0 = false, cmpI BinOp.neq (chkV b us.length) 0 = false, cmpI BinOp.neq (chkV a us.length) 0 = false, cmpI BinOp.neq (chkV b us.length) 0 = false, cmpI BinOp.neq (chkV a us.length) 0 = false, okX us, okX us, okX us, okX us, okX us, okX us, cmpI BinOp.gtr a b = false, cmpI BinOp.neq (chkV b us.length) 0 = false, cmpI BinOp.neq (chkV a us.length) 0 = false]) := by kernel_rfl
theorem l5F_p7 (a b : Int) (us : List Int) (at_ k : Int) : fnX Try.prog (X5) 100000 [.d false, .c 2, .d false, .c 1, .d false, .c 1, .d false, .c 0, .d false, .c 0, .d false, .c 0, .d false, .c 0, .d false, .c 0, .d false, .c 3, .d false, .c 5, .d false, .c 1, .d false, .c 3, .d false, PE.l [[1, 6, 7, 10, 16, 18, 20, 21]] [(2240, 2240), (2432, 2432)] (l5F_c3 a b us) (Ex.exit 0) (l5F_c4 a b us at_ k), .c 3] 5 [i64 a, i64 b, ru us] = some (D.v (Value.bool (cmpI BinOp.leq (↑((orderL b us).length)) b)), [(l5T b (orderL b us) ((evUL a us).length) ((evUL b us).length) 0 0 (evUL a us) (evKL a us) (evUL b us) (evKL b us) = l5T b (orderL b us) ((evUL a us).length) ((evUL b us).length) 0 0 (evUL a us) (evKL a us) (evUL b us) (evKL b us)), Runs Try.prog (CallsD Try.prog) (.code (.loop (loopAt Try.prog 5 0))) (l5F_c3 a b us).abs (Ex.exit 0) (l5F_c4 a b us at_ k).abs, cmpI BinOp.lss ↑((evUL a us).length) ↑((evUL b us).length) = false, cmpI BinOp.gtr (hitsV a us) (hitsV b us) = false, (!eqB (orderL a us) (l5F_c2 a b us)) = false, (orderL a us).length ≤ 200, true = true, decide ((0 : Int) ≤ ↑(orderL a us).length) = true, decide ((↑(orderL a us).length : Int) ≤ (↑(orderL b us).length : Int)) = true, cmpI BinOp.gtr ↑((orderL a us).length) ↑((orderL b us).length) = false, cmpI BinOp.neq (chkV b us.length) 0 = false, cmpI BinOp.neq (chkV a us.length) 0 = false, cmpI BinOp.neq (chkV b us.length) 0 = false, cmpI BinOp.neq (chkV a us.length) 0 = false, cmpI BinOp.neq (chkV b us.length) 0 = false, cmpI BinOp.neq (chkV a us.length) 0 = false, okX us, okX us, okX us, okX us, okX us, okX us, cmpI BinOp.gtr a b = false, cmpI BinOp.neq (chkV b us.length) 0 = false, cmpI BinOp.neq (chkV a us.length) 0 = false]) := by kernel_rfl
theorem l5F_calls (a b : Int) (us : List Int) (at_ k : Int) (res : D)
  (h0 : ((cmpI BinOp.neq (chkV a us.length) 0) = true) → (True) ∧ res = bo true)
  (h1 : ((cmpI BinOp.neq (chkV a us.length) 0) = false) → ((cmpI BinOp.neq (chkV b us.length) 0) = true) → (True) ∧ res = bo true)
  (h2 : ((cmpI BinOp.neq (chkV a us.length) 0) = false) → ((cmpI BinOp.neq (chkV b us.length) 0) = false) → ((cmpI BinOp.gtr a b) = true) → (True) ∧ res = bo true)
  (h3 : ((cmpI BinOp.neq (chkV a us.length) 0) = false) → ((cmpI BinOp.neq (chkV b us.length) 0) = false) → ((cmpI BinOp.gtr a b) = false) → ((l5F_c1 a b us) = true) → ((okX us) ∧ (okX us) ∧ (okX us) ∧ (okX us) ∧ (okX us) ∧ (okX us) ∧ True) ∧ res = bo false)
  (h4 : ((cmpI BinOp.neq (chkV a us.length) 0) = false) → ((cmpI BinOp.neq (chkV b us.length) 0) = false) → ((cmpI BinOp.gtr a b) = false) → ((l5F_c1 a b us) = false) → ((!eqB (orderL a us) (l5F_c2 a b us)) = true) → (((orderL a us).length ≤ 200) ∧ (decide ((0 : Int) ≤ ↑(orderL a us).length) = true) ∧ (decide ((↑(orderL a us).length : Int) ≤ (↑(orderL b us).length : Int)) = true) ∧ (okX us) ∧ (okX us) ∧ (okX us) ∧ (okX us) ∧ (okX us) ∧ (okX us) ∧ True) ∧ res = bo false)
  (h5 : ((cmpI BinOp.neq (chkV a us.length) 0) = false) → ((cmpI BinOp.neq (chkV b us.length) 0) = false) → ((cmpI BinOp.gtr a b) = false) → ((l5F_c1 a b us) = false) → ((!eqB (orderL a us) (l5F_c2 a b us)) = false) → ((cmpI BinOp.gtr (hitsV a us) (hitsV b us)) = true) → (((orderL a us).length ≤ 200) ∧ (decide ((0 : Int) ≤ ↑(orderL a us).length) = true) ∧ (decide ((↑(orderL a us).length : Int) ≤ (↑(orderL b us).length : Int)) = true) ∧ (okX us) ∧ (okX us) ∧ (okX us) ∧ (okX us) ∧ (okX us) ∧ (okX us) ∧ True) ∧ res = bo false)
  (h6 : ((cmpI BinOp.neq (chkV a us.length) 0) = false) → ((cmpI BinOp.neq (chkV b us.length) 0) = false) → ((cmpI BinOp.gtr a b) = false) → ((l5F_c1 a b us) = false) → ((!eqB (orderL a us) (l5F_c2 a b us)) = false) → ((cmpI BinOp.gtr (hitsV a us) (hitsV b us)) = false) → ((l5F_c0 a b us) = true) → (((orderL a us).length ≤ 200) ∧ (decide ((0 : Int) ≤ ↑(orderL a us).length) = true) ∧ (decide ((↑(orderL a us).length : Int) ≤ (↑(orderL b us).length : Int)) = true) ∧ (okX us) ∧ (okX us) ∧ (okX us) ∧ (okX us) ∧ (okX us) ∧ (okX us) ∧ True) ∧ res = bo false)
  (h7 : ((cmpI BinOp.neq (chkV a us.length) 0) = false) → ((cmpI BinOp.neq (chkV b us.length) 0) = false) → ((cmpI BinOp.gtr a b) = false) → ((l5F_c1 a b us) = false) → ((!eqB (orderL a us) (l5F_c2 a b us)) = false) → ((cmpI BinOp.gtr (hitsV a us) (hitsV b us)) = false) → ((l5F_c0 a b us) = false) → ((Runs Try.prog (CallsD Try.prog) (.code (.loop (loopAt Try.prog 5 0))) (l5F_c3 a b us).abs (Ex.exit 0) (l5F_c4 a b us at_ k).abs) ∧ ((orderL a us).length ≤ 200) ∧ (decide ((0 : Int) ≤ ↑(orderL a us).length) = true) ∧ (decide ((↑(orderL a us).length : Int) ≤ (↑(orderL b us).length : Int)) = true) ∧ (okX us) ∧ (okX us) ∧ (okX us) ∧ (okX us) ∧ (okX us) ∧ (okX us) ∧ True) ∧ res = D.v (Value.bool (cmpI BinOp.leq (↑((orderL b us).length)) b))) : CallsD Try.prog 5 [i64 a, i64 b, ru us] res := by
  cases e0 : (cmpI BinOp.neq (chkV a us.length) 0) with
  | true =>
    obtain ⟨_, kr⟩ := h0 e0
    exact of_path (hX5) (l5F_p0 a b us at_ k) ⟨e0, trivial⟩ kr
  | false =>
    cases e1 : (cmpI BinOp.neq (chkV b us.length) 0) with
    | true =>
      obtain ⟨_, kr⟩ := h1 e0 e1
      exact of_path (hX5) (l5F_p1 a b us at_ k) ⟨e1, e0, trivial⟩ kr
    | false =>
      cases e2 : (cmpI BinOp.gtr a b) with
      | true =>
        obtain ⟨_, kr⟩ := h2 e0 e1 e2
        exact of_path (hX5) (l5F_p2 a b us at_ k) ⟨e2, e1, e0, trivial⟩ kr
      | false =>
        cases e3 : (l5F_c1 a b us) with
        | true =>
          obtain ⟨⟨k0, k1, k2, k3, k4, k5, _⟩, kr⟩ := h3 e0 e1 e2 e3
          exact of_path (hX5) (l5F_p3 a b us at_ k) ⟨e3, e1, e0, e1, e0, e1, e0, k0, k1, k2, k3, k4, k5, e2, e1, e0, trivial⟩ kr
        | false =>
          cases e4 : (!eqB (orderL a us) (l5F_c2 a b us)) with
          | true =>
            obtain ⟨⟨k0, k1, k2, k3, k4, k5, k6, k7, k8, _⟩, kr⟩ := h4 e0 e1 e2 e3 e4
            exact of_path (hX5) (l5F_p4 a b us at_ k) ⟨e4, k0, rfl, k1, k2, e3, e1, e0, e1, e0, e1, e0, k3, k4, k5, k6, k7, k8, e2, e1, e0, trivial⟩ kr
          | false =>
            cases e5 : (cmpI BinOp.gtr (hitsV a us) (hitsV b us)) with
            | true =>
              obtain ⟨⟨k0, k1, k2, k3, k4, k5, k6, k7, k8, _⟩, kr⟩ := h5 e0 e1 e2 e3 e4 e5
              exact of_path (hX5) (l5F_p5 a b us at_ k) ⟨e5, e4, k0, rfl, k1, k2, e3, e1, e0, e1, e0, e1, e0, k3, k4, k5, k6, k7, k8, e2, e1, e0, trivial⟩ kr
            | false =>
              cases e6 : (l5F_c0 a b us) with
              | true =>
                obtain ⟨⟨k0, k1, k2, k3, k4, k5, k6, k7, k8, _⟩, kr⟩ := h6 e0 e1 e2 e3 e4 e5 e6
                exact of_path (hX5) (l5F_p6 a b us at_ k) ⟨e6, e5, e4, k0, rfl, k1, k2, e3, e1, e0, e1, e0, e1, e0, k3, k4, k5, k6, k7, k8, e2, e1, e0, trivial⟩ kr
              | false =>
                obtain ⟨⟨k0, k1, k2, k3, k4, k5, k6, k7, k8, k9, _⟩, kr⟩ := h7 e0 e1 e2 e3 e4 e5 e6
                exact of_path (hX5) (l5F_p7 a b us at_ k) ⟨rfl, k0, e6, e5, e4, k1, rfl, k2, k3, e3, e1, e0, e1, e0, e1, e0, k4, k5, k6, k7, k8, k9, e2, e1, e0, trivial⟩ kr
theorem getD_at {l : List Int} {i : Nat} (h : i < l.length) : l.getD i 0 = l[i] := by simp [List.getD_eq_getElem?_getD, h]
theorem getD_ge {l : List Int} (h : l.Pairwise (· < ·)) : ∀ i j : Nat, i < j → j < l.length → l.getD i 0 < l.getD j 0 := fun i j h1 h2 => by
  have := List.pairwise_iff_getElem.1 h i j (by omega) h2 h1
  rw [getD_at (by omega), getD_at h2]; exact this
theorem natLt5 {k n : Nat} (h : k < n) : decide ((0 : Int) ≤ (k : Int)) = true ∧ decide ((k : Int) < (n : Int)) = true := by
  constructor
  · exact decide_eq_true (by omega)
  · exact decide_eq_true (by omega)
theorem inner5 (b : Int) (ys es ks fs gs : List Int) (k p : Nat) (hk : k < fs.length) (hp : p < es.length) (he : es.length ≤ 60)
    (hlt : ∀ j, j < p → es.getD j 0 < fs.getD k 0) (heq : es.getD p 0 = fs.getD k 0) (a : Nat) (ha : a ≤ p) :
    Runs Try.prog (CallsD Try.prog) (.rounds (loopAt Try.prog 5 1)) (l5T b ys es.length fs.length a k es ks fs gs).abs (.exit 2) (l5T b ys es.length fs.length p k es ks fs gs).abs := by
  have bk := natLt5 hk
  refine scan_all (P := Try.prog) (F := CallsD Try.prog) (b := loopAt Try.prog 5 1) (fun i => l5T b ys es.length fs.length i k es ks fs gs) p (fun _ => True) (fun i hi _ σ e hr => ?_)
    (σ := (l5T b ys es.length fs.length p k es ks fs gs).abs) (e := .exit 2) ?_ (p - a) a (by omega) (fun _ _ _ => trivial)
  · have bi := natLt5 (Nat.lt_trans hi hp)
    have hl := hlt i hi
    refine l5I_step b ys _ _ i k es ks fs gs σ e ?_ ?_ ?_
    · intro _ _
      refine ⟨⟨by omega, bk.1, bk.2, by omega, bi.1, bi.2, trivial⟩, ?_⟩
      rw [succL (Nat.lt_trans hi hp) (by omega)]
      exact hr
    · intro _ q
      rw [Int.toNat_natCast, Int.toNat_natCast, lss_f] at q; omega
    · intro q; rw [lss_f] at q; omega
  · have bi := natLt5 hp
    refine l5I_step b ys _ _ p k es ks fs gs _ _ ?_ ?_ ?_
    · intro _ q
      rw [Int.toNat_natCast, Int.toNat_natCast, lss_t] at q; omega
    · intro _ _
      exact ⟨⟨by omega, bk.1, bk.2, by omega, bi.1, bi.2, trivial⟩, rfl, rfl⟩
    · intro q; rw [lss_f] at q; omega
theorem outer5 (b : Int) (ys es ks fs gs : List Int) (he : es.length ≤ 60) (hs : es.Pairwise (· < ·)) (hsub : fs.Sublist es) :
    ∃ p : Nat, Runs Try.prog (CallsD Try.prog) (.rounds (loopAt Try.prog 5 0)) (l5T b ys es.length fs.length 0 0 es ks fs gs).abs (.exit 0) (l5T b ys es.length fs.length p fs.length es ks fs gs).abs := by
  have hfs := hsub.length_le
  have hf : fs.Pairwise (· < ·) := hs.sublist hsub
  have hpos : ∀ k, k < fs.length → es.idxOf (fs.getD k 0) < es.length ∧ es.getD (es.idxOf (fs.getD k 0)) 0 = fs.getD k 0 := fun k hk => by
    have hm : fs.getD k 0 ∈ es := hsub.subset (by rw [getD_at hk]; exact List.getElem_mem hk)
    have hl := List.idxOf_lt_length_iff.2 hm
    refine ⟨hl, ?_⟩
    rw [getD_at hl]; exact List.getElem_idxOf hl
  have hord : ∀ k, k + 1 < fs.length → es.idxOf (fs.getD k 0) ≤ es.idxOf (fs.getD (k + 1) 0) := fun k hk => by
    have h1 := hpos k (by omega)
    have h2 := hpos (k + 1) hk
    have h3 := getD_ge hf k (k + 1) (by omega) hk
    by_cases c : es.idxOf (fs.getD k 0) ≤ es.idxOf (fs.getD (k + 1) 0)
    · exact c
    · have := getD_ge hs _ _ (by omega : es.idxOf (fs.getD (k + 1) 0) < es.idxOf (fs.getD k 0)) h1.1
      rw [h1.2, h2.2] at this; omega
  let A : Nat → Nat := fun k => if k = 0 then 0 else es.idxOf (fs.getD (k - 1) 0)
  have hA : ∀ k, k < fs.length → A k ≤ es.idxOf (fs.getD k 0) := fun k hk => by
    show (if k = 0 then 0 else es.idxOf (fs.getD (k - 1) 0)) ≤ _
    split
    · omega
    · have := hord (k - 1) (by omega)
      rwa [show k - 1 + 1 = k by omega] at this
  refine ⟨A fs.length, ?_⟩
  refine scan_all (P := Try.prog) (F := CallsD Try.prog) (b := loopAt Try.prog 5 0) (fun k => l5T b ys es.length fs.length (A k) k es ks fs gs) fs.length (fun _ => True) (fun k hk _ σ e hr => ?_)
    (σ := (l5T b ys es.length fs.length (A fs.length) fs.length es ks fs gs).abs) (e := .exit 0) ?_ fs.length 0 (by omega) (fun _ _ _ => trivial)
  · have hp := hpos k hk
    have bk := natLt5 hk
    have bp := natLt5 hp.1
    have hin := inner5 b ys es ks fs gs k _ hk hp.1 he (fun j hj => by rw [← hp.2]; exact getD_ge hs _ _ hj hp.1) hp.2 (A k) (hA k hk)
    refine l5L_step b ys _ _ (A k) k es ks fs gs (es.idxOf (fs.getD k 0) : Nat) σ e ?_ ?_ ?_ ?_
    · intro _ q; rw [eql_t] at q; omega
    · intro _ _ q; rw [Int.toNat_natCast, Int.toNat_natCast, neq_t] at q; exact absurd hp.2 q
    · intro _ _ _
      refine ⟨⟨by omega, bk.1, bk.2, by omega, bp.1, bp.2, loop_of_rounds hin, trivial⟩, ?_⟩
      rw [succL hk (by omega)]
      exact hr
    · intro q; rw [lss_f] at q; omega
  · have c0 : ¬ cmpI .lss ((fs.length : Nat) : Int) (fs.length : Int) = true := by rw [lss_t]; omega
    refine l5L_step b ys _ _ _ fs.length es ks fs gs 0 _ _ ?_ ?_ ?_ ?_
    · intro q; exact absurd q c0
    · intro q; exact absurd q c0
    · intro q; exact absurd q c0
    · intro _; exact ⟨trivial, rfl, rfl⟩
theorem l5_ok (a b : Int) (us : List Int) (h : okU us) : CallsD Try.prog 5 [i64 a, i64 b, ru us] (bo true) := by
  by_cases e1 : chkV a us.length = 0
  · by_cases e2 : chkV b us.length = 0
    · by_cases e3 : b < a
      · refine l5F_calls a b us 0 0 _ ?_ ?_ ?_ ?_ ?_ ?_ ?_ ?_
        · intro _; exact ⟨trivial, rfl⟩
        · intro _ _; exact ⟨trivial, rfl⟩
        · intro _ _ _; exact ⟨trivial, rfl⟩
        all_goals
          intro _ _ q
          rw [gtr_f] at q
          omega
      · obtain ⟨h1, h2, h3⟩ := chk_pos e1
        obtain ⟨h4, h5, _⟩ := chk_pos e2
        obtain ⟨an, rfl⟩ := Int.eq_ofNat_of_zero_le (by omega : 0 ≤ a)
        obtain ⟨bn, rfl⟩ := Int.eq_ofNat_of_zero_le (by omega : 0 ≤ b)
        have hab : an ≤ bn := by omega
        have hx : okX us := ⟨by omega, h⟩
        have oa : orderL an us = lruN an us := by unfold orderL; rw [if_pos e1]; rfl
        have ob : orderL bn us = lruN bn us := by unfold orderL; rw [if_pos e2]; rfl
        have ea : evUL an us = evU an us := by unfold evUL; rw [if_pos e1]; rfl
        have eb : evUL bn us = evU bn us := by unfold evUL; rw [if_pos e2]; rfl
        have ha : hitsV an us = (hitsL an us : Int) := by unfold hitsV; rw [if_pos e1]; rfl
        have hb : hitsV bn us = (hitsL bn us : Int) := by unfold hitsV; rw [if_pos e2]; rfl
        have hp := lruN_prefix hab us
        have hm := hits_mono hab us
        have la := lruN_len an us
        have lb := lruN_len bn us
        have ll : (lruN an us).length = min an (lruN bn us).length := by rw [hp, List.length_take]
        have lao := orderL_len an us
        have hev := evL_len an us
        obtain ⟨p, hl⟩ := outer5 bn (orderL bn us) (evUL an us) (evKL an us) (evUL bn us) (evKL bn us) (by omega) (by rw [ea]; exact evU_sorted _ _) (by rw [ea, eb]; exact evU_sub hab us)
        have hsl : (evUL bn us).length ≤ (evUL an us).length := by rw [ea, eb]; exact (evU_sub hab us).length_le
        have hpre : eqB (orderL an us) (List.take ((orderL an us).length - 0) (List.drop 0 (orderL bn us))) = true := by
          have : List.take ((orderL an us).length - 0) (List.drop 0 (orderL bn us)) = orderL an us := by
            rw [List.drop_zero, Nat.sub_zero, oa, ob, hp, List.length_take]
            rw [List.take_eq_take_iff]; omega
          rw [this]; simp [eqB]
        refine l5F_calls an bn us p (evUL bn us).length _ ?_ ?_ ?_ ?_ ?_ ?_ ?_ ?_
        · intro q; rw [neq_t] at q; exact absurd e1 q
        · intro _ q; rw [neq_t] at q; exact absurd e2 q
        · intro _ _ q; rw [gtr_t] at q; omega
        · intro _ _ _ q; unfold l5F_c1 at q; rw [gtr_t, oa, ob] at q; omega
        · intro _ _ _ _ q; unfold l5F_c2 at q; rw [hpre] at q; cases q
        · intro _ _ _ _ _ q; rw [gtr_t, ha, hb] at q; omega
        · intro _ _ _ _ _ _ q; unfold l5F_c0 at q; rw [lss_t] at q; omega
        · intro _ _ _ _ _ _ _
          refine ⟨⟨loop_of_rounds hl, by omega, decide_eq_true (by omega), decide_eq_true (by rw [oa, ob]; omega), hx, hx, hx, hx, hx, hx, trivial⟩, ?_⟩
          congr 2
          symm
          rw [leq_t, ob]
          omega
    · refine l5F_calls a b us 0 0 _ ?_ ?_ ?_ ?_ ?_ ?_ ?_ ?_
      · intro _; exact ⟨trivial, rfl⟩
      · intro _ _; exact ⟨trivial, rfl⟩
      · intro _ _ _; exact ⟨trivial, rfl⟩
      all_goals
        intro _ q
        rw [neq_f] at q
        exact absurd q e2
  · refine l5F_calls a b us 0 0 _ ?_ ?_ ?_ ?_ ?_ ?_ ?_ ?_
    · intro _; exact ⟨trivial, rfl⟩
    · intro _ _; exact ⟨trivial, rfl⟩
    · intro _ _ _; exact ⟨trivial, rfl⟩
    all_goals
      intro q
      rw [neq_f] at q
      exact absurd q e1
end EvS
end
