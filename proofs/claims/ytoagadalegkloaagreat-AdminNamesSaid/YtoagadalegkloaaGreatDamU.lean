/- The engine, part U: an abstract machine for the program's functions, proved right against the model. No condition. -/
import Derived.Test.YtoagadalegkloaaGreatDamUA
namespace Go.Dam
open Go Go.RowKit
set_option linter.unusedSectionVars false
variable [Glo]
set_option linter.unusedSimpArgs false
set_option linter.unusedVariables false
noncomputable section

theorem yieldC_runs {P : Program} {F : FuncId → List D → Option D} {E : Job → Cf → Option (Ex × Cf)} (ih : ∀ j c e c', E j c = some (e, c') → Runs P F j c.abs e c'.abs) {R : Array Oper} {o : Oper} {l : List Oper} {c c1 : Cf} {σ' : St} {fo : Operand} {args : Array Operand}
    (hw : wantedD R o c.abs = some true) (hp : callParts o.op = some (fo, args)) (hf : evalD c.abs fo = .yld) (hy : yieldC E o c args.toList = some c1) (hr : Runs P F (.ops R l) c1.abs .normal σ') : Runs P F (.ops R (o :: l)) c.abs .normal σ' := by
  unfold yieldC at hy
  split at hy
  next L f0 gh stk hL hstk =>
    unfold yieldOn at hy
    simp only [cond_eq_ite] at hy
    split at hy
    next hc =>
      simp only [Bool.and_eq_true] at hc
      obtain ⟨h1, h2, h3, h4, h5⟩ := hc
      split at hy
      next ca ha =>
        split at hy
        next L1 hL1 =>
          split at hy
          next hc1 =>
            simp only [Bool.and_eq_true] at hc1
            split at hy
            next e c2 hb =>
              split at hy
              next L2 fI stk' hL2 hstk2 =>
                split at hy
                next hc2 =>
                  simp only [Bool.and_eq_true] at hc2
                  simp only [Option.some.injEq] at hy; subst hy
                  have ra := ih _ _ _ _ ha
                  rw [abs_round, evalC_abs] at ra
                  have rb := ih _ _ _ _ hb
                  rw [abs_put] at hr
                  exact .yield (L := L) (L1 := L1) (L2 := L2) (fr0 := frOf f0) (gh := frOf gh) (frI := frOf fI) (stk := stk.map frOf) (stk' := stk'.map frOf) hw hp hf hL h1 (by simp [Cf.abs, hstk]) (by have := Nat.eq_of_beq_eq_true h2; simpa using this)
                    (by have := Nat.eq_of_beq_eq_true h3; simpa using this) h4 h5 ra hL1 hc1.1 (Nat.eq_of_beq_eq_true hc1.2) rb hL2 hc2.1 (Nat.eq_of_beq_eq_true hc2.2) (by simp [Cf.abs, hstk2]) hr
                · cases hy
              · cases hy
            · cases hy
          · cases hy
        · cases hy
      · cases hy
    · cases hy
  · cases hy

theorem rangedC_runs {P : Program} {F : FuncId → List D → Option D} {E : Job → Cf → Option (Ex × Cf)} (ih : ∀ j c e c', E j c = some (e, c') → Runs P F j c.abs e c'.abs) {c c' : Cf} {g : Operand} {ps : Array Tmp} {assign body : Code} {e : Ex}
    (h : rangedC P E c g ps assign body = some (e, c')) : Runs P F (.code (.rangeFunc g ps assign body)) c.abs e c'.abs := by
  unfold rangedC at h
  split at h
  · cases h
  next hl =>
    split at h
    next f caps hg =>
      split at h
      next fn b hb =>
        split at h
        next hres =>
          split at h
          next e1 c1 h1 =>
            simp only [cond_eq_ite] at h
            split at h
            next hdone =>
              split at h
              next L1 fr gh stk hL1 hstk =>
                split at h
                next hdep =>
                  split at h
                  next e' hlv =>
                    simp only [Option.some.injEq, Prod.mk.injEq] at h
                    obtain ⟨rfl, rfl⟩ := h
                    have r1 := ih _ _ _ _ h1
                    rw [abs_ranged] at r1
                    exact .ranged (L1 := L1) (fr := frOf fr) (gh := frOf gh) (stk := stk.map frOf) hl (by rw [← abs_forget, ← evalC_abs]; exact hg) hb r1 (by cases e1 <;> simp [Ex.done] at hdone <;> simp) hres hL1 hlv
                      (by have := Nat.eq_of_beq_eq_true hdep; simpa [Cf.abs] using this) (by simp [Cf.abs, hstk])
                  · cases h
                · cases h
              · cases h
            · cases h
          · cases h
        · cases h
      · cases h
    · cases h

theorem ev_runs {P : Program} {F : FuncId → List D → Option D} : ∀ (n : Nat) (j : Job) (c : Cf) (e : Ex) (c' : Cf), ev P F n j c = some (e, c') → Runs P F j c.abs e c'.abs := by
  intro n
  induction n with
  | zero => intro j c e c' h; simp [ev] at h
  | succ n ih =>
    intro j c e c' h
    cases j with
    | draws R p k l => simp [ev] at h
    | ops R l =>
      cases l with
      | nil => simp only [ev, Option.some.injEq, Prod.mk.injEq] at h; obtain ⟨rfl, rfl⟩ := h; exact .nil
      | cons o l =>
        have hn := ops_normal _ _ _ _ _ _ h
        subst hn
        simp only [ev] at h
        split at h
        · cases h
        next hw => exact .skipped (by rw [← wantedC_abs]; exact hw) (by have := ih _ _ _ _ h; rwa [abs_put] at this)
        next hw =>
          have hw' : wantedD R o c.abs = some true := by rw [← wantedC_abs]; exact hw
          split at h
          next hcp =>
            split at h
            · cases h
            next eff hop =>
              split at h
              · cases h
              next c1 hst =>
                refine .step hw' (.op (e := eff) (id := site (depOf c) o.dst) (by rw [← evalC_abs]; exact hop) ?_) (ih _ _ _ _ h)
                rw [← stepC_abs, hst]; rfl
          next fo args hcp =>
            split at h
            next f caps hfo =>
              have hfo' : evalD c.abs fo = .fn f caps := by rw [← evalC_abs]; exact hfo
              split at h
              next hbody =>
                split at h
                next vs hpl =>
                  split at h
                  next u hrun =>
                    have := ih _ _ _ _ h
                    rw [abs_put] at this
                    exact .step hw' (.ext hcp hfo' (by rw [← evalC_abs]; exact hpl) hrun) this
                  · cases h
                · cases h
              next fn body hbody =>
                simp only [cond_eq_ite] at h
                split at h
                next hdeep =>
                  split at h
                  · cases h
                  next e1 c1 hev =>
                    split at h
                    next ds f0 stk hdone hres hstk =>
                     split at h
                     next hfit =>
                      have h1 := ih _ _ _ _ hev
                      rw [abs_enter] at h1
                      have h2 := ih _ _ _ _ h
                      rw [abs_put] at h2
                      refine .inline (fr := frOf f0) (stk := stk.map frOf) hw' hcp hfo' hbody (by rw [← evalC_abs]; exact h1) ?_ hres (by simp [Cf.abs, hstk]) (by simpa [Cf.abs] using hfit) h2
                      cases e1 <;> simp [Ex.done] at hdone <;> simp
                     · cases h
                    · cases h
                next hdeep =>
                  split at h
                  · cases h
                  next c1 hcall =>
                    refine .step hw' (.call (id := site (depOf c) o.dst) hcp hfo' (by rw [hbody]; rfl) ?_) (ih _ _ _ _ h)
                    rw [← evalC_abs, ← callC_abs, hcall]; rfl
            next hfo =>
              split at h
              · cases h
              next c1 hy => exact yieldC_runs ih hw' hcp (by rw [← evalC_abs]; exact hfo) hy (ih _ _ _ _ h)
            · cases h
    | rounds b =>
      simp only [ev] at h
      split at h
      · cases h
      next c1 h1 => exact .round (ih _ _ _ _ h1) (show Runs P F (.rounds b) c1.abs e c'.abs from ih (.rounds b) { c1 with gen := c1.gen + 1 } e c' h)
      next e1 c1 hne h1 =>
        simp only [Option.some.injEq, Prod.mk.injEq] at h
        obtain ⟨rfl, rfl⟩ := h
        exact .last (ih _ _ _ _ h1) (fun he => hne he)
    | code x =>
      cases x with
      | region id R d =>
        cases d with
        | false =>
          simp only [ev] at h
          have hn := ops_normal _ _ _ _ _ _ h
          subst hn
          exact .region (ih _ _ _ _ h)
        | true =>
          simp only [ev, cond_eq_ite] at h
          split at h
          next hb =>
            simp only [Bool.and_eq_true] at hb
            split at h
            · cases h
            next c1 hd =>
              simp only [Option.some.injEq, Prod.mk.injEq] at h
              obtain ⟨rfl, rfl⟩ := h
              show Runs P F (.code (.region id R true)) c.abs .normal c1.abs
              refine wipeS_start rfl (.drawn hb.1 (plan_ok (regionDep c R) (tgtsOf P R (fun l c' => ev P F n (.ops R l) c') (wipeS (makersOf R (regionDep c R)) c)) hb.2) (unused_makers c) ?_)
              refine drawsGo_runs (fun l c0 e0 c0' he => ?_) (plan_ok _ _ hb.2) R.toList 0 _ _ (fun j => by simp) (fun m _ => unused_makers c m) hd
              have hn := ops_normal _ _ _ _ _ _ he
              subst hn
              exact ih _ _ _ _ he
          next => cases h
      | skip => simp only [ev, Option.some.injEq, Prod.mk.injEq] at h; obtain ⟨rfl, rfl⟩ := h; exact .skip
      | ret => simp only [ev, Option.some.injEq, Prod.mk.injEq] at h; obtain ⟨rfl, rfl⟩ := h; exact .ret
      | exit id => simp only [ev, Option.some.injEq, Prod.mk.injEq] at h; obtain ⟨rfl, rfl⟩ := h; exact .exit
      | seq x y =>
        simp only [ev] at h
        split at h
        · cases h
        next c1 h1 => exact .seq (ih _ _ _ _ h1) (ih _ _ _ _ h)
        next e1 c1 hne h1 =>
          simp only [Option.some.injEq, Prod.mk.injEq] at h
          obtain ⟨rfl, rfl⟩ := h
          exact .leave (ih _ _ _ _ h1) (fun he => hne he)
      | cond t x y =>
        simp only [ev] at h
        split at h
        next b hb =>
          refine .cond (b := b) (by rw [← evalC_abs]; exact hb) ?_
          cases b with
          | true => exact ih _ _ _ _ h
          | false => exact ih _ _ _ _ h
        · cases h
      | block id x =>
        simp only [ev] at h
        split at h
        · cases h
        next i c1 h1 =>
          simp only [cond_eq_ite] at h
          split at h
          next hi =>
            simp only [Option.some.injEq, Prod.mk.injEq] at h
            obtain ⟨rfl, rfl⟩ := h
            have hi' : i = id := Nat.eq_of_beq_eq_true hi
            subst hi'
            have := Runs.block (id := i) (ih _ _ _ _ h1)
            rwa [if_pos rfl] at this
          next hi =>
            simp only [Option.some.injEq, Prod.mk.injEq] at h
            obtain ⟨rfl, rfl⟩ := h
            have hne : ¬ (Ex.exit i = Ex.exit id) := fun he => by
              cases he; rw [beq_yes] at hi; exact hi rfl
            have := Runs.block (id := id) (ih _ _ _ _ h1)
            rwa [if_neg hne] at this
        next e1 c1 hne h1 =>
          simp only [Option.some.injEq, Prod.mk.injEq] at h
          obtain ⟨rfl, rfl⟩ := h
          have := Runs.block (id := id) (ih _ _ _ _ h1)
          rwa [if_neg (fun he => hne id he)] at this
      | loop x => simp only [ev] at h; exact .loop (ih _ _ _ _ h)
      | rangeFunc g ps assign body => simp only [ev] at h; exact rangedC_runs ih h
      | _ => simp [ev] at h

def Cf.start (args : List D) (nt : Nat) : Cf := { tm := TT.mk (initD args (args.length + (nt - args.length))) (args.length + (nt - args.length) + 1) 0 1, nt := args.length + (nt - args.length), stk := [], bk := [], loop := none }
theorem start_abs (args : List D) (nt : Nat) : (Cf.start args nt).abs = St.start args nt := by
  simp only [Cf.start, Cf.abs, St.start, St.enter, List.map_nil, lookB]
  congr 1
  exact frOf_mk args nt

/-- A function, run. -/
def evF (P : Program) (F : FuncId → List D → Option D) (fuel : Nat) (f : FuncId) (args : List D) : Option D :=
  match bodyOf P f with
  | none => none
  | some (fn, c) => match ev P F fuel (.code c) (Cf.start args fn.ntmps) with
    | none => none
    | some (e, c') => match e.done, resC P c' fn.results.toList with
      | true, some ds => finish c'.look (resOut ds)
      | _, _ => none

theorem evF_calls {P : Program} {F : FuncId → List D → Option D} (hF : ∀ f as res, F f as = some res → CallsD P f as res) {fuel : Nat} {f : FuncId} {args : List D} {res : D} (h : evF P F fuel f args = some res) : CallsD P f args res := by
  unfold evF at h
  split at h
  · cases h
  next fn c hb =>
    split at h
    · cases h
    next e c' hev =>
      split at h
      next ds hd hr =>
        have := ev_runs _ _ _ _ _ hev
        rw [start_abs] at this
        exact calls_of_runs hF hb this (by cases e <;> simp [Ex.done] at hd <;> simp) hr h
      · cases h

/-- Functions, run one within the other; 'X': those whose answer is told otherwise. -/
def FT (P : Program) (X : FuncId → Option (List D → Option D)) (fuel : Nat) : Nat → FuncId → List D → Option D
  | 0 => fun _ _ => none
  | n + 1 => fun f args => match X f with
    | some g => g args
    | none => evF P (FT P X fuel n) fuel f args

theorem FT_calls {P : Program} {X : FuncId → Option (List D → Option D)} (hX : ∀ f g, X f = some g → ∀ args res, g args = some res → CallsD P f args res) (fuel : Nat) : ∀ (n : Nat) (f : FuncId) (args : List D) (res : D), FT P X fuel n f args = some res → CallsD P f args res := by
  intro n
  induction n with
  | zero => intro f args res h; simp [FT] at h
  | succ n ih =>
    intro f args res h
    simp only [FT] at h
    split at h
    next g hg => exact hX f g hg args res h
    next => exact evF_calls ih h

end
end Go.Dam
