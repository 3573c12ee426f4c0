/- The functions of the folder evict: what they compute. No condition. -/
import Derived.Test.YtnmgcibopkdijaaEvEM
set_option linter.unusedSectionVars false
set_option linter.unusedVariables false
set_option linter.unusedSimpArgs false
section
namespace EvS
open Go Go.Dam Go.Proofs
set_option maxRecDepth 1000000
set_option linter.unusedVariables false
set_option linter.unusedSectionVars false
set_option linter.unusedSimpArgs false

theorem ne_p0 (us : List Int) : fnX Try.prog (X2) 100000 [.d true] 14 [ru us] = some (D.tup [i64 0, i64 4], [cmpI BinOp.gtr (↑(us.length)) 60 = true]) := by kernel_rfl
theorem ne_p1 (us : List Int) : fnX Try.prog (X2) 100000 [.d false] 14 [ru us] = some (D.tup [i64 (opI BinOp.add IntKind.i64 (mostI BinOp.gtr 0 (maxV (reachL us ++ [0]))) 1), i64 0], [(reachL us).length + 1 = (reachL us ++ [0]).length, 1 ≤ (reachL us ++ [0]).length ∧ (reachL us ++ [0]).length ≤ 200, ((reachL us).length + 1) * 8 ≤ 17592186044416, (reachL us).length = (reachL us).length, (reachL us).length = (reachL us).length, okX us, cmpI BinOp.gtr (↑(us.length)) 60 = false]) := by kernel_rfl
theorem ne_calls (us : List Int) (res : D)
  (h0 : ((cmpI BinOp.gtr (↑(us.length)) 60) = true) → (True) ∧ res = D.tup [i64 0, i64 4])
  (h1 : ((cmpI BinOp.gtr (↑(us.length)) 60) = false) → (((reachL us).length + 1 = (reachL us ++ [0]).length) ∧ (1 ≤ (reachL us ++ [0]).length ∧ (reachL us ++ [0]).length ≤ 200) ∧ (((reachL us).length + 1) * 8 ≤ 17592186044416) ∧ ((reachL us).length = (reachL us).length) ∧ (okX us) ∧ True) ∧ res = D.tup [i64 (opI BinOp.add IntKind.i64 (mostI BinOp.gtr 0 (maxV (reachL us ++ [0]))) 1), i64 0]) : CallsD Try.prog 14 [ru us] res := by
  cases e0 : (cmpI BinOp.gtr (↑(us.length)) 60) with
  | true =>
    obtain ⟨_, kr⟩ := h0 e0
    exact of_path (hX2) (ne_p0 us) ⟨e0, trivial⟩ kr
  | false =>
    obtain ⟨⟨k0, k1, k2, k3, k4, _⟩, kr⟩ := h1 e0
    exact of_path (hX2) (ne_p1 us) ⟨k0, k1, k2, rfl, k3, k4, e0, trivial⟩ kr
def needV (us : List Int) : Int := if us.length ≤ 60 then mostR us + 1 else 0
theorem ne_ok (us : List Int) (h : okX us) : CallsD Try.prog 14 [ru us] (.tup [i64 (needV us), i64 (lenV us)]) := by
  unfold needV lenV
  have hrl := reachL_len us
  by_cases c : us.length ≤ 60
  · rw [if_pos c, if_pos c]
    refine ne_calls us _ (fun g => by rw [gtr_t] at g; omega) fun _ => ⟨⟨by simp, ⟨by simp, by simp; omega⟩, by omega, rfl, h, trivial⟩, ?_⟩
    have h1 := mostR_nonneg us
    have h2 := mostR_le us
    rw [mostI_max, show max 0 (maxV (reachL us ++ [0])) = mostR us from max_need _, opI_add, wrap_i64_of (by omega) (by omega)]
  · rw [if_neg c, if_neg c]
    exact ne_calls us _ (fun _ => ⟨trivial, rfl⟩) fun g => by rw [gtr_f] at g; omega

theorem rhi_p0 (c : Int) (us : List Int) : fnX Try.prog (X2) 100000 [.d true] 13 [i64 c, ru us] = some (D.tup [i64 0, i64 (chkV c us.length)], [cmpI BinOp.neq (chkV c us.length) 0 = true]) := by kernel_rfl
theorem rhi_p1 (c : Int) (us : List Int) : fnX Try.prog (X2) 100000 [.d false] 13 [i64 c, ru us] = some (D.tup [i64 ↑(hitsL c.toNat us), i64 0], [us.length ≤ 100 ∧ 0 ≤ c ∧ c ≤ 200, cmpI BinOp.neq (chkV c us.length) 0 = false]) := by kernel_rfl
theorem rhi_calls (c : Int) (us : List Int) (res : D)
  (h0 : ((cmpI BinOp.neq (chkV c us.length) 0) = true) → (True) ∧ res = D.tup [i64 0, i64 (chkV c us.length)])
  (h1 : ((cmpI BinOp.neq (chkV c us.length) 0) = false) → ((us.length ≤ 100 ∧ 0 ≤ c ∧ c ≤ 200) ∧ True) ∧ res = D.tup [i64 ↑(hitsL c.toNat us), i64 0]) : CallsD Try.prog 13 [i64 c, ru us] res := by
  cases e0 : (cmpI BinOp.neq (chkV c us.length) 0) with
  | true =>
    obtain ⟨_, kr⟩ := h0 e0
    exact of_path (hX2) (rhi_p0 c us) ⟨e0, trivial⟩ kr
  | false =>
    obtain ⟨⟨k0, _⟩, kr⟩ := h1 e0
    exact of_path (hX2) (rhi_p1 c us) ⟨k0, e0, trivial⟩ kr
theorem rhi_ok (c : Int) (us : List Int) : CallsD Try.prog 13 [i64 c, ru us] (.tup [i64 (hitsV c us), i64 (chkV c us.length)]) := by
  unfold hitsV
  by_cases e : chkV c us.length = 0
  · rw [if_pos e, e]
    obtain ⟨h1, h2, h3⟩ := chk_pos e
    exact rhi_calls c us _ (fun g => by rw [neq_t] at g; exact absurd e g) fun _ => ⟨⟨⟨by omega, by omega, by omega⟩, trivial⟩, rfl⟩
  · rw [if_neg e]
    exact rhi_calls c us _ (fun _ => ⟨trivial, rfl⟩) fun g => by rw [neq_f] at g; exact absurd g e
noncomputable def rnL_c0 (us : List Int) (i : Int) := inB (List.take (i.toNat - 0) (List.drop 0 us)) (us.getD i.toNat 0)
theorem rnL_r0 (us : List Int) (n i : Int) : roundX Try.prog (X2) 100000 (loopAt Try.prog 15 0) [.d true, .d true] [[0, 2, 3, 4, 5]] [] (rnT us n i) = some (Ex.normal, (rnT (us) (opI BinOp.add IntKind.i64 n 1) (opI BinOp.add IntKind.i64 i 1)), [inB (List.take (i.toNat - 0) (List.drop 0 us)) (us.getD i.toNat 0) = true, (List.take (i.toNat - 0) (List.drop 0 us)).length ≤ 300, decide (0 ≤ i) = true, decide (i < ↑(us.length)) = true, true = true, decide (0 ≤ i) = true, decide (i ≤ ↑(us.length)) = true, cmpI BinOp.lss i ↑(us.length) = true]) := by kernel_rfl
theorem rnL_r1 (us : List Int) (n i : Int) : roundX Try.prog (X2) 100000 (loopAt Try.prog 15 0) [.d true, .d false] [[0, 2, 3, 4, 5]] [] (rnT us n i) = some (Ex.normal, (rnT (us) (n) (opI BinOp.add IntKind.i64 i 1)), [inB (List.take (i.toNat - 0) (List.drop 0 us)) (us.getD i.toNat 0) = false, (List.take (i.toNat - 0) (List.drop 0 us)).length ≤ 300, decide (0 ≤ i) = true, decide (i < ↑(us.length)) = true, true = true, decide (0 ≤ i) = true, decide (i ≤ ↑(us.length)) = true, cmpI BinOp.lss i ↑(us.length) = true]) := by kernel_rfl
theorem rnL_r2 (us : List Int) (n i : Int) : roundX Try.prog (X2) 100000 (loopAt Try.prog 15 0) [.d false] [[0, 2, 3, 4, 5]] [] (rnT us n i) = some (Ex.exit 0, (rnT (us) (n) (i)), [cmpI BinOp.lss i ↑(us.length) = false]) := by kernel_rfl
theorem rnL_step (us : List Int) (n : Int) (i : Int) (σ : St) (e : Ex)
  (h0 : ((cmpI BinOp.lss i ↑(us.length)) = true) → ((rnL_c0 us i) = true) → (((List.take (i.toNat - 0) (List.drop 0 us)).length ≤ 300) ∧ (decide (0 ≤ i) = true) ∧ (decide (i < ↑(us.length)) = true) ∧ (decide (0 ≤ i) = true) ∧ (decide (i ≤ ↑(us.length)) = true) ∧ True) ∧ Runs Try.prog (CallsD Try.prog) (.rounds (loopAt Try.prog 15 0)) (rnT (us) (opI BinOp.add IntKind.i64 n 1) (opI BinOp.add IntKind.i64 i 1)).abs e σ)
  (h1 : ((cmpI BinOp.lss i ↑(us.length)) = true) → ((rnL_c0 us i) = false) → (((List.take (i.toNat - 0) (List.drop 0 us)).length ≤ 300) ∧ (decide (0 ≤ i) = true) ∧ (decide (i < ↑(us.length)) = true) ∧ (decide (0 ≤ i) = true) ∧ (decide (i ≤ ↑(us.length)) = true) ∧ True) ∧ Runs Try.prog (CallsD Try.prog) (.rounds (loopAt Try.prog 15 0)) (rnT (us) (n) (opI BinOp.add IntKind.i64 i 1)).abs e σ)
  (h2 : ((cmpI BinOp.lss i ↑(us.length)) = false) → (True) ∧ (e = Ex.exit 0 ∧ σ = (rnT (us) (n) (i)).abs)) : Runs Try.prog (CallsD Try.prog) (.rounds (loopAt Try.prog 15 0)) (rnT us n i).abs e σ := by
  cases e0 : (cmpI BinOp.lss i ↑(us.length)) with
  | true =>
    cases e1 : (rnL_c0 us i) with
    | true =>
      obtain ⟨⟨k0, k1, k2, k3, k4, _⟩, kr⟩ := h0 e0 e1
      exact rounds_on (hX2) (rnL_r0 us n i) ⟨e1, k0, k1, k2, rfl, k3, k4, e0, trivial⟩ kr
    | false =>
      obtain ⟨⟨k0, k1, k2, k3, k4, _⟩, kr⟩ := h1 e0 e1
      exact rounds_on (hX2) (rnL_r1 us n i) ⟨e1, k0, k1, k2, rfl, k3, k4, e0, trivial⟩ kr
  | false =>
    obtain ⟨_, kr⟩ := h2 e0
    exact rounds_end (hX2) (rnL_r2 us n i) ⟨e0, trivial⟩ (by simp) kr

theorem rnL2_r0 (us : List Int) (a n : Int) : roundX Try.prog (X2) 100000 (loopAt Try.prog 15 1) [.d true] [[0, 2, 3, 4, 6]] [] (rnT2 us a n) = some (Ex.normal, (rnT2 (us) (a) (opI BinOp.add IntKind.i64 n 1)), [cmpI BinOp.lss (↑(hitsL n.toNat us)) a = true, us.length ≤ 100 ∧ 0 ≤ n ∧ n ≤ 200]) := by kernel_rfl
theorem rnL2_r1 (us : List Int) (a n : Int) : roundX Try.prog (X2) 100000 (loopAt Try.prog 15 1) [.d false] [[0, 2, 3, 4, 6]] [] (rnT2 us a n) = some (Ex.exit 2, (rnT2 (us) (a) (n)), [cmpI BinOp.lss (↑(hitsL n.toNat us)) a = false, us.length ≤ 100 ∧ 0 ≤ n ∧ n ≤ 200]) := by kernel_rfl
theorem rnL2_step (us : List Int) (a : Int) (n : Int) (σ : St) (e : Ex)
  (h0 : ((cmpI BinOp.lss (↑(hitsL n.toNat us)) a) = true) → ((us.length ≤ 100 ∧ 0 ≤ n ∧ n ≤ 200) ∧ True) ∧ Runs Try.prog (CallsD Try.prog) (.rounds (loopAt Try.prog 15 1)) (rnT2 (us) (a) (opI BinOp.add IntKind.i64 n 1)).abs e σ)
  (h1 : ((cmpI BinOp.lss (↑(hitsL n.toNat us)) a) = false) → ((us.length ≤ 100 ∧ 0 ≤ n ∧ n ≤ 200) ∧ True) ∧ (e = Ex.exit 2 ∧ σ = (rnT2 (us) (a) (n)).abs)) : Runs Try.prog (CallsD Try.prog) (.rounds (loopAt Try.prog 15 1)) (rnT2 us a n).abs e σ := by
  cases e0 : (cmpI BinOp.lss (↑(hitsL n.toNat us)) a) with
  | true =>
    obtain ⟨⟨k0, _⟩, kr⟩ := h0 e0
    exact rounds_on (hX2) (rnL2_r0 us a n) ⟨e0, k0, trivial⟩ kr
  | false =>
    obtain ⟨⟨k0, _⟩, kr⟩ := h1 e0
    exact rounds_end (hX2) (rnL2_r1 us a n) ⟨e0, k0, trivial⟩ (by simp) kr

theorem rnF_p0 (us : List Int) (a n i : Int) : fnX Try.prog (X2) 100000 [.d true] 15 [ru us] = some (D.tup [i64 0, i64 4], [cmpI BinOp.gtr (↑(us.length)) 60 = true]) := by kernel_rfl
theorem rnF_p1 (us : List Int) (a n i : Int) : fnX Try.prog (X2) 100000 [.d false, PE.l [[0, 2, 3, 4, 5]] [] (rnT us 0 0) (Ex.exit 0) (rnT us a i), PE.l [[0, 2, 3, 4, 6]] [] (rnT2 us a 1) (Ex.exit 2) (rnT2 us a n)] 15 [ru us] = some (D.tup [i64 n, i64 0], [(rnT2 us a 1 = rnT2 us a 1), Runs Try.prog (CallsD Try.prog) (.code (.loop (loopAt Try.prog 15 1))) (rnT2 us a 1).abs (Ex.exit 2) (rnT2 us a n).abs, (rnT us 0 0 = rnT us 0 0), Runs Try.prog (CallsD Try.prog) (.code (.loop (loopAt Try.prog 15 0))) (rnT us 0 0).abs (Ex.exit 0) (rnT us a i).abs, cmpI BinOp.gtr (↑(us.length)) 60 = false]) := by kernel_rfl
theorem rnF_calls (us : List Int) (a n i : Int) (res : D)
  (h0 : ((cmpI BinOp.gtr (↑(us.length)) 60) = true) → (True) ∧ res = D.tup [i64 0, i64 4])
  (h1 : ((cmpI BinOp.gtr (↑(us.length)) 60) = false) → ((Runs Try.prog (CallsD Try.prog) (.code (.loop (loopAt Try.prog 15 1))) (rnT2 us a 1).abs (Ex.exit 2) (rnT2 us a n).abs) ∧ (Runs Try.prog (CallsD Try.prog) (.code (.loop (loopAt Try.prog 15 0))) (rnT us 0 0).abs (Ex.exit 0) (rnT us a i).abs) ∧ True) ∧ res = D.tup [i64 n, i64 0]) : CallsD Try.prog 15 [ru us] res := by
  cases e0 : (cmpI BinOp.gtr (↑(us.length)) 60) with
  | true =>
    obtain ⟨_, kr⟩ := h0 e0
    exact of_path (hX2) (rnF_p0 us a n i) ⟨e0, trivial⟩ kr
  | false =>
    obtain ⟨⟨k0, k1, _⟩, kr⟩ := h1 e0
    exact of_path (hX2) (rnF_p1 us a n i) ⟨rfl, k0, rfl, k1, e0, trivial⟩ kr
theorem again_le (us : List Int) : againL us ≤ us.length := by
  unfold againL; have := List.countP_le_length (p := fun r => decide (0 ≤ r)) (l := reachL us); rw [reachL_len] at this; exact this
theorem rn_ok (us : List Int) : CallsD Try.prog 15 [ru us] (.tup [i64 (needV us), i64 (lenV us)]) := by
  unfold needV lenV
  by_cases c : us.length ≤ 60
  · rw [if_pos c, if_pos c]
    have hm0 := mostR_nonneg us
    have hm1 := mostR_le us
    obtain ⟨m, hm⟩ := Int.eq_ofNat_of_zero_le hm0
    refine rnF_calls us (againL us) (mostR us + 1) us.length _ (fun g => by rw [gtr_t] at g; omega) fun _ => ⟨⟨loop_of_rounds ?_, loop_of_rounds ?_, trivial⟩, rfl⟩
    · rw [hm]
      have hz := scan_all (P := Try.prog) (F := CallsD Try.prog) (b := loopAt Try.prog 15 1) (fun i => rnT2 us (againL us) ((i + 1 : Nat) : Int)) m (fun _ => True) (fun i hi _ σ e hr => ?_) (σ := (rnT2 us (againL us) ((m + 1 : Nat) : Int)).abs) (e := .exit 2) ?_ m 0 (by omega) (fun _ _ _ => trivial)
      · exact hz
      · have hlt := (hits_lt (i + 1) (by omega) us).2 (by omega)
        refine rnL2_step us _ _ σ e (fun _ => ?_) fun g => by rw [lss_f, Int.toNat_natCast] at g; omega
        have e1 : opI .add .i64 ((i + 1 : Nat) : Int) 1 = ((i + 1 + 1 : Nat) : Int) := by rw [opI_add, wrap_i64_of (by omega) (by omega)]; omega
        rw [e1]
        exact ⟨⟨⟨by omega, by omega, by omega⟩, trivial⟩, hr⟩
      · have hlt : ¬ hitsL (m + 1) us < againL us := fun q => by have := (hits_lt (m + 1) (by omega) us).1 q; omega
        exact rnL2_step us _ _ _ _ (fun g => by rw [lss_t, Int.toNat_natCast] at g; omega) fun _ => ⟨⟨⟨by omega, by omega, by omega⟩, trivial⟩, rfl, rfl⟩
    · have hz := scan_all (P := Try.prog) (F := CallsD Try.prog) (b := loopAt Try.prog 15 0) (fun i => rnT us (againL (us.take i) : Nat) (i : Int)) us.length (fun _ => True) (fun i hi _ σ e hr => ?_) (σ := (rnT us (againL us : Nat) us.length).abs) (e := .exit 0) ?_ us.length 0 (by omega) (fun _ _ _ => trivial)
      · simpa [againL, reachL] using hz
      · have b := natLt hi
        have hlen : (us.take i).length = i := by rw [List.length_take]; omega
        have ha := again_le (us.take i)
        rw [take_one us i hi, againL_snoc] at hr
        have e1 : opI .add .i64 (againL (us.take i) : Int) 1 = ((againL (us.take i) + 1 : Nat) : Int) := by rw [opI_add, wrap_i64_of (by omega) (by omega)]; omega
        refine rnL_step us _ i σ e (fun _ g => ?_) (fun _ g => ?_) fun g => by rw [lss_f] at g; omega
        · try unfold rnL_c0 at g
          rw [Int.toNat_natCast, Nat.sub_zero, List.drop_zero] at g ⊢
          unfold inB at g
          rw [decide_eq_true_eq] at g
          rw [if_pos g] at hr
          rw [succL hi (by omega), e1]
          exact ⟨⟨by omega, b.1, b.2, b.1, by simp; omega, trivial⟩, hr⟩
        · try unfold rnL_c0 at g
          rw [Int.toNat_natCast, Nat.sub_zero, List.drop_zero] at g ⊢
          unfold inB at g
          rw [decide_eq_false_iff_not] at g
          rw [if_neg g, Nat.add_zero] at hr
          rw [succL hi (by omega)]
          exact ⟨⟨by omega, b.1, b.2, b.1, by simp; omega, trivial⟩, hr⟩
      · rw [List.take_length]
        exact rnL_step us _ us.length _ _ (fun g => by rw [lss_t] at g; omega) (fun g => by rw [lss_t] at g; omega) fun _ => ⟨trivial, rfl, rfl⟩
  · rw [if_neg c, if_neg c]
    exact rnF_calls us 0 0 0 _ (fun _ => ⟨trivial, rfl⟩) fun g => by rw [gtr_f] at g; omega

theorem ex_p0 (u : Nat) : fnX Try.prog (X2) 100000 [] 30 [] = some (D.ow 5 1 [u32 1, u32 2, u32 1, u32 3, u32 2], []) := by kernel_rfl
theorem ex_calls (u : Nat) (res : D)
  (h0 : (True) ∧ res = D.ow 5 1 [u32 1, u32 2, u32 1, u32 3, u32 2]) : CallsD Try.prog 30 [] res := by
  exact of_path (hX2) (ex_p0 u) trivial (h0).2
theorem calls_out {P : Program} {f : FuncId} {args : List D} {e e' : D} (h : ReadsO e e') (k : CallsD P f args e) : CallsD P f args e' := fun w A vs hv low glo => by
  refine (k w A vs hv low glo).mono ?_
  rintro r w' ⟨v, A', bl, rfl, hr, h1⟩
  exact ⟨v, A', bl, rfl, h w' A' v bl hr, h1⟩
theorem calls_in {P : Program} {f : FuncId} {args args' : List D} {e : D} (h : ReadsL args' args) (k : CallsD P f args e) : CallsD P f args' e := fun w A vs hv low glo => k w A vs (h.repL hv) low glo
theorem ex_ok : CallsD Try.prog 30 [] (ou [1, 2, 1, 3, 2]) := calls_out (ow_oc [.ints .u32 [1, 2, 1, 3, 2]]) (ex_calls 0 _ ⟨trivial, rfl⟩)
def exC : List D → Option (D × List Prop)
  | [] => some (ou [1, 2, 1, 3, 2], [])
  | _ => none
theorem exC_ok (args res l) (h : exC args = some (res, l)) (hl : AllP l) : CallsD Try.prog 30 args res := by
  unfold exC at h; split at h
  · simp only [Option.some.injEq, Prod.mk.injEq] at h
    obtain ⟨rfl, rfl⟩ := h
    exact ex_ok
  · cases h
theorem notLive : ¬ Live := fun h => by cases h
theorem rd2 (a b : Int) : Reads (.sh 2 [u32 a, u32 b]) (ru [a, b]) := sh_rc notLive [.ints .u32 [a, b]]
theorem rd4 (a b c d : Int) : Reads (.sh 2 [i64 a, u32 b, i64 c, u32 d]) (rg [a, c] [b, d]) := sh_rc notLive [.ints .i64 [a, c], .ints .u32 [b, d]]
theorem rd5 (a b c d e : Int) : Reads (.sh 5 [i64 a, i64 b, i64 c, i64 d, i64 e]) (ri [a, b, c, d, e]) := sh_rc notLive [.ints .i64 [a, b, c, d, e]]
def smC2 : List D → Option (D × List Prop)
  | [.rc [.ints .u32 xs], .sh 2 [.v (.int .u32 a), .v (.int .u32 b)]] => some (bo (eqB xs [a, b]), [xs.length ≤ 200])
  | _ => none
theorem smC2_ok (args res l) (h : smC2 args = some (res, l)) (hl : AllP l) : CallsD Try.prog 16 args res := by
  unfold smC2 at h; split at h
  · simp only [Option.some.injEq, Prod.mk.injEq] at h
    obtain ⟨rfl, rfl⟩ := h; obtain ⟨h0, _⟩ := hl
    exact calls_in (.cons (.refl _) (.cons (rd2 _ _) .nil)) (sm_ok _ _ h0)
  · cases h
def siC2 : List D → Option (D × List Prop)
  | [.rc [.ints .i64 xs], .sh 5 [.v (.int .i64 a), .v (.int .i64 b), .v (.int .i64 c), .v (.int .i64 d), .v (.int .i64 e)]] => some (bo (eqB xs [a, b, c, d, e]), [xs.length ≤ 200])
  | _ => none
theorem siC2_ok (args res l) (h : siC2 args = some (res, l)) (hl : AllP l) : CallsD Try.prog 18 args res := by
  unfold siC2 at h; split at h
  · simp only [Option.some.injEq, Prod.mk.injEq] at h
    obtain ⟨rfl, rfl⟩ := h; obtain ⟨h0, _⟩ := hl
    exact calls_in (.cons (.refl _) (.cons (rd5 _ _ _ _ _) .nil)) (si_ok _ _ h0)
  · cases h
def sgC2 : List D → Option (D × List Prop)
  | [.rc [.ints .i64 xs, .ints .u32 ks], .sh 2 [.v (.int .i64 a), .v (.int .u32 b), .v (.int .i64 c), .v (.int .u32 d)]] => some (bo (eqB xs [a, c] && eqB ks [b, d]), [xs.length ≤ 200 ∧ ks.length = xs.length])
  | _ => none
theorem sgC2_ok (args res l) (h : sgC2 args = some (res, l)) (hl : AllP l) : CallsD Try.prog 17 args res := by
  unfold sgC2 at h; split at h
  · simp only [Option.some.injEq, Prod.mk.injEq] at h
    obtain ⟨rfl, rfl⟩ := h; obtain ⟨h0, _⟩ := hl
    exact calls_in (.cons (.refl _) (.cons (rd4 _ _ _ _) .nil)) (sg_ok _ _ _ _ ⟨h0.1, h0.2, rfl⟩)
  · cases h
def neC : List D → Option (D × List Prop)
  | [.rc [.ints .u32 us]] => some ((.tup [i64 (needV us), i64 (lenV us)]), [okX us])
  | _ => none
theorem neC_ok (args res l) (h : neC args = some (res, l)) (hl : AllP l) : CallsD Try.prog 14 args res := by
  unfold neC at h; split at h
  · simp only [Option.some.injEq, Prod.mk.injEq] at h
    obtain ⟨rfl, rfl⟩ := h; obtain ⟨h0, _⟩ := hl
    exact ne_ok _ h0
  · cases h
def rhiC : List D → Option (D × List Prop)
  | [.v (.int .i64 c), .rc [.ints .u32 us]] => some ((.tup [i64 (hitsV c us), i64 (chkV c us.length)]), [])
  | _ => none
theorem rhiC_ok (args res l) (h : rhiC args = some (res, l)) (hl : AllP l) : CallsD Try.prog 13 args res := by
  unfold rhiC at h; split at h
  · simp only [Option.some.injEq, Prod.mk.injEq] at h
    obtain ⟨rfl, rfl⟩ := h
    exact rhi_ok _ _ 
  · cases h
def rnC : List D → Option (D × List Prop)
  | [.rc [.ints .u32 us]] => some ((.tup [i64 (needV us), i64 (lenV us)]), [])
  | _ => none
theorem rnC_ok (args res l) (h : rnC args = some (res, l)) (hl : AllP l) : CallsD Try.prog 15 args res := by
  unfold rnC at h; split at h
  · simp only [Option.some.injEq, Prod.mk.injEq] at h
    obtain ⟨rfl, rfl⟩ := h
    exact rn_ok _ 
  · cases h
def X3 : Contracts := addCon 14 (.call neC) (addCon 13 (.call rhiC) (addCon 15 (.call rnC) (addCon 30 (.call exC) X2)))
theorem hX3 : ConOK Try.prog X3 := addCall_ok neC_ok (addCall_ok rhiC_ok (addCall_ok rnC_ok (addCall_ok exC_ok hX2)))
def X3a : Contracts := addCon 16 (.call smC2) (addCon 18 (.call siC2) (addCon 17 (.call sgC2) X3))
theorem hX3a : ConOK Try.prog X3a := addCall_ok smC2_ok (addCall_ok siC2_ok (addCall_ok sgC2_ok hX3))
end EvS
end

section
namespace EvS
open Go Go.Dam Go.Proofs
set_option maxRecDepth 1000000
set_option linter.unusedVariables false
set_option linter.unusedSectionVars false
set_option linter.unusedSimpArgs false

theorem al_p0 (u : Nat) : fnX Try.prog (X3a) 100000 [.c 26] 19 [] = some (bo true, [(5 : Nat) = (5 : Nat), (5 : Nat) ≤ (200 : Nat), (2 : Nat) = (2 : Nat), (evUL (2 : Int) [(1 : Int), (2 : Int), (1 : Int), (3 : Int), (2 : Int)]).length ≤ (200 : Nat) ∧ (evKL (2 : Int) [(1 : Int), (2 : Int), (1 : Int), (3 : Int), (2 : Int)]).length = (evUL (2 : Int) [(1 : Int), (2 : Int), (1 : Int), (3 : Int), (2 : Int)]).length, (2 : Nat) = (2 : Nat), (2 : Nat) ≤ (200 : Nat), (5 : Nat) = (5 : Nat), okX [(1 : Int), (2 : Int), (1 : Int), (3 : Int), (2 : Int)], (5 : Nat) = (5 : Nat), okX [(1 : Int), (2 : Int), (1 : Int), (3 : Int), (2 : Int)], (5 : Nat) = (5 : Nat), okX [(1 : Int), (2 : Int), (1 : Int), (3 : Int), (2 : Int)], (5 : Nat) = (5 : Nat), okX [(1 : Int), (2 : Int), (1 : Int), (3 : Int), (2 : Int)], (5 : Nat) = (5 : Nat), okX [(1 : Int), (2 : Int), (1 : Int), (3 : Int), (2 : Int)], (5 : Nat) = (5 : Nat), okX [(1 : Int), (2 : Int), (1 : Int), (3 : Int), (2 : Int)]]) := by kernel_rfl
theorem al_calls (u : Nat) (res : D)
  (h0 : (((5 : Nat) ≤ (200 : Nat)) ∧ ((evUL (2 : Int) [(1 : Int), (2 : Int), (1 : Int), (3 : Int), (2 : Int)]).length ≤ (200 : Nat) ∧ (evKL (2 : Int) [(1 : Int), (2 : Int), (1 : Int), (3 : Int), (2 : Int)]).length = (evUL (2 : Int) [(1 : Int), (2 : Int), (1 : Int), (3 : Int), (2 : Int)]).length) ∧ ((2 : Nat) ≤ (200 : Nat)) ∧ (okX [(1 : Int), (2 : Int), (1 : Int), (3 : Int), (2 : Int)]) ∧ (okX [(1 : Int), (2 : Int), (1 : Int), (3 : Int), (2 : Int)]) ∧ (okX [(1 : Int), (2 : Int), (1 : Int), (3 : Int), (2 : Int)]) ∧ (okX [(1 : Int), (2 : Int), (1 : Int), (3 : Int), (2 : Int)]) ∧ (okX [(1 : Int), (2 : Int), (1 : Int), (3 : Int), (2 : Int)]) ∧ (okX [(1 : Int), (2 : Int), (1 : Int), (3 : Int), (2 : Int)]) ∧ True) ∧ res = bo true) : CallsD Try.prog 19 [] res := by
  obtain ⟨⟨k0, k1, k2, k3, k4, k5, k6, k7, k8, _⟩, kr⟩ := h0
  exact of_path (hX3a) (al_p0 u) ⟨rfl, k0, rfl, k1, rfl, k2, rfl, k3, rfl, k4, rfl, k5, rfl, k6, rfl, k7, rfl, k8, trivial⟩ kr
theorem okX5 : okX [1, 2, 1, 3, 2] := ⟨by decide, fun x hx => by simp at hx; rcases hx with rfl | rfl | rfl | rfl | rfl <;> rfl⟩
theorem evL_len (c : Int) (us : List Int) : (evKL c us).length = (evUL c us).length ∧ ((evUL c us).length ≤ us.length) := by
  unfold evKL evUL
  split
  · have := ev_count c.toNat us
    have h2 := ev_len c.toNat us
    omega
  · simp
theorem al_ok : CallsD Try.prog 19 [] (bo true) := by
  have h := evL_len 2 [1, 2, 1, 3, 2]
  have h5 : ([1, 2, 1, 3, 2] : List Int).length = 5 := rfl
  exact al_calls 0 _ ⟨⟨by decide, ⟨by omega, h.1⟩, by decide, okX5, okX5, okX5, okX5, okX5, okX5, trivial⟩, rfl⟩
def alC : List D → Option (D × List Prop)
  | [] => some (bo true, [])
  | _ => none
theorem alC_ok (args res l) (h : alC args = some (res, l)) (hl : AllP l) : CallsD Try.prog 19 args res := by
  unfold alC at h; split at h
  · simp only [Option.some.injEq, Prod.mk.injEq] at h
    obtain ⟨rfl, rfl⟩ := h
    exact al_ok
  · cases h
def X4 : Contracts := addCon 19 (.call alC) X3
theorem hX4 : ConOK Try.prog X4 := addCall_ok alC_ok hX3
theorem orderL_len (c : Int) (us : List Int) : (orderL c us).length ≤ us.length := by
  unfold orderL
  split
  · unfold lruN; have := lru_le us; rw [List.length_take]; omega
  · simp
theorem reachV_len (us : List Int) : (reachV us).length ≤ us.length := by
  unfold reachV
  split
  · rw [reachL_len]; exact Nat.le_refl _
  · simp
/-- A row that is handed back may be taken as one that stays. -/
theorem calls_seal {P : Program} {f : FuncId} {args : List D} {cols : List Col0} {x : Value} (k : CallsD P f args (.tup [.oc cols, .v x])) : CallsD P f args (.tup [.rc (cols.map Col0.up), .v x]) := fun w A vs hv low glo => by
  refine (k w A vs hv low glo).mono ?_
  rintro r w' ⟨v, A', bl, rfl, hr, hF, h2, h3, h4, h5⟩
  simp only [RepO, RepOs, RepS] at hr
  obtain ⟨us, rfl, u, xs, b1, b2, rfl, rfl, ⟨o, c, rfl, hr⟩, y, ys, b3, b4, rfl, rfl, ⟨rfl, rfl⟩, rfl, rfl⟩ := hr
  have hsh : RepS w' (fun q => A' q ∨ ∃ ad, some ad ∈ b1 ∧ q = ad.block) (.sh (rowLen0 cols) (rowCells0 cols)) (.slice o (rowLen0 cols) c) := by
    simp only [RepS]
    rcases hr with ⟨hz, rfl, hc, rfl⟩ | ⟨hl, ad, rfl, hs, rfl, _, hat⟩
    · refine ⟨o, 0, rfl, by omega, fun q => ?_, by rw [hc]; simp [RepAt]⟩
      rcases q with q | q
      · exact absurd hz q
      · exact absurd hc q
    · exact ⟨some ad, c, rfl, hl, fun _ => ⟨ad, rfl, hs, .inr ⟨ad, by simp, rfl⟩⟩, flatL_at _ _ (flat_rowCells cols) hat⟩
  have hrc := sh_rc notLive cols w' _ _ hsh
  refine ⟨_, fun q => A' q ∨ ∃ ad, some ad ∈ b1 ∧ q = ad.block, [], rfl, ?_, ⟨by simp, by simp⟩, fun q h => .inl (h2 q h), fun q h => ?_, fun q h hq => ?_, h5⟩
  · simp only [RepO, RepOs]
    exact ⟨[_, y], rfl, _, _, [], [], rfl, rfl, ⟨hrc, rfl⟩, _, _, [], [], rfl, rfl, ⟨by simp [RepS], rfl⟩, rfl, rfl⟩
  · rcases h with h | ⟨ad, h, rfl⟩
    · exact h3 q h
    · exact (hF.each ad (by simp [h])).2.1
  · rcases h with h | ⟨ad, h, rfl⟩
    · exact h4 q h hq
    · have := (hF.each ad (by simp [h])).1; omega
def orC2 : List D → Option (D × List Prop)
  | [.v (.int .i64 c), .rc [.ints .u32 us]] => some ((.tup [ru (orderL c us), i64 (chkV c us.length)]), [okX us])
  | _ => none
theorem orC2_ok (args res l) (h : orC2 args = some (res, l)) (hl : AllP l) : CallsD Try.prog 6 args res := by
  unfold orC2 at h; split at h
  · simp only [Option.some.injEq, Prod.mk.injEq] at h
    obtain ⟨rfl, rfl⟩ := h; obtain ⟨h0, _⟩ := hl
    exact calls_seal (or_ok _ _ h0)
  · cases h
def X5 : Contracts := addCon 6 (.call orC2) X4
theorem hX5 : ConOK Try.prog X5 := addCall_ok orC2_ok hX4
noncomputable def l4T (c : Int) (us : List Int) (h nd hit most dif k : Int) (n1 n2 n3 : Nat) (rs es ks os : List Int) : Cs := ⟨TT.of [(0, i64 c), (1, ru us), (4, bo false), (5, bo true), (6, D.sl 1024 0 n1 ⟨1, 0⟩), (8, i64 h), (10, i64 nd), (12, D.sl 1568 0 n2 ⟨2, 0⟩), (14, D.sl 1760 0 n3 ⟨1, 0⟩), (16, i64 hit), (17, i64 most), (18, i64 dif), (19, i64 k)], 162, [], [(1024, BX.row [Col0.ints .i64 rs] false), (1568, BX.row [Col0.ints .i64 es, Col0.ints .u32 ks] false), (1760, BX.row [Col0.ints .u32 os] false)], none, 0⟩
noncomputable def l5T (b : Int) (ys : List Int) (n m : Nat) (at_ k : Int) (e1 k1 e2 k2 : List Int) : Cs := ⟨TT.of [(1, i64 b), (6, bo false), (7, bo true), (10, ru ys), (16, D.sl 2240 0 n ⟨2, 0⟩), (18, D.sl 2432 0 m ⟨2, 0⟩), (20, i64 at_), (21, i64 k)], 178, [], [(2240, BX.row [Col0.ints .i64 e1, Col0.ints .u32 k1] false), (2432, BX.row [Col0.ints .i64 e2, Col0.ints .u32 k2] false)], none, 0⟩
end EvS
end
