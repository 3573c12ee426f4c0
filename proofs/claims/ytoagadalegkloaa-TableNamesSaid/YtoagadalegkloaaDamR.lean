/- The engine, part R: an abstract machine for the program's functions, proved right against the model. No condition. -/
import Derived.Test.YtoagadalegkloaaDamQB
namespace Go.Dam
open Go Go.RowKit
set_option linter.unusedSimpArgs false
set_option linter.unusedVariables false

section
variable {P : Program} {F : FuncId → List D → Option D}

def Sound (P : Program) (F : FuncId → List D → Option D) : Job → St → Ex → St → Prop
  | .code c, σ, e, σ' => ∀ (w : World) (A : Nat → Prop) (β : Env) (base : Nat) (a : Act) (acts : List (Array Value)) (Q : Exit → Act → World → Prop), Rel w A β base σ a.tmps acts → Aft σ' base acts A a w (Q e.out) → c.wp P Q a w
  | .rounds c, σ, e, σ' => ∃ n, ∀ (w : World) (A : Nat → Prop) (β : Env) (base : Nat) (a : Act) (acts : List (Array Value)) (Q : Exit → Act → World → Prop), Rel w A β base σ a.tmps acts → Aft σ' base acts A a w (Q e.out) → Code.rounds P c Q n a w
  | .ops R l, σ, _, σ' => ∀ (w : World) (A : Nat → Prop) (β : Env) (base : Nat) (a : Act) (acts : List (Array Value)) (Q : Exit → Act → World → Prop), Rel w A β base σ a.tmps acts → Aft σ' base acts A a w (Q .normal) → wpList P R Q l a w
  | .draws R p k l, σ, _, σ' => QRun P F (SoundOp P R) R p k l σ σ'

theorem Exit.then_of_ne {e : Ex} (h : e ≠ .normal) (K : Act → World → Prop) (Q : Exit → Act → World → Prop) : Exit.then K Q e.out = Q e.out := by
  cases e <;> first | exact absurd rfl h | (funext a w; rfl)

theorem enter_rel {w : World} {A : Nat → Prop} {β : Env} {base : Nat} {σ : St} {tmps : Array Value} {acts : List (Array Value)} (h : Rel w A β base σ tmps acts) {args : List D} {vs : List Value} (hargs : RepLs w A β args vs) (nt : Nat) :
    Rel w A β base (σ.enter args nt) (vs.toArray ++ Array.replicate (nt - vs.toArray.size) undef) (tmps :: acts) where
  fr := by
    have hl := hargs.length
    refine ⟨by simp [St.enter, hl], fun t => ?_⟩
    simp only [St.enter]
    rcases Nat.lt_or_ge t args.length with ht | ht
    · have hlt : t < vs.length := by omega
      obtain ⟨u, h1, h2⟩ := hargs.get t _ (List.getElem?_eq_getElem ht)
      have e1 : (vs.toArray ++ Array.replicate (nt - vs.toArray.size) undef).getD t undef = u := by
        rw [Array.getD_eq_getD_getElem?, Array.getElem?_append_left (by simpa using hlt)]
        simp [h1]
      rw [e1, List.getD_eq_getElem?_getD, List.getElem?_append_left ht]
      simpa [ht] using h2
    · have e1 : (vs.toArray ++ Array.replicate (nt - vs.toArray.size) undef).getD t undef = undef := by
        rw [Array.getD_eq_getD_getElem?, Array.getElem?_append_right (by simp; omega)]
        cases hc : (Array.replicate (nt - vs.toArray.size) undef)[t - vs.toArray.size]? with
        | none => rfl
        | some y => rw [Array.getElem?_replicate] at hc; split at hc <;> simp at hc; simp [← hc]
      rw [e1, List.getD_eq_getElem?_getD, List.getElem?_append_right ht]
      cases hc : (List.replicate (nt - args.length) (D.v undef))[t - args.length]? with
      | none => simp [Rep, RepS]
      | some y => rw [List.getElem?_replicate] at hc; split at hc <;> simp at hc; simp [← hc, Rep, RepS]
  stk := .cons h.fr h.stk
  blk := h.blk
  inj := h.inj
  low := h.low
  top := h.top

theorem QStep.mono {R : Array Oper} {O O' : Oper → St → St → Prop} {p : Plan} {k : Nat} {o : Oper} {σ σ' : St} (h : QStep P F O R p k o σ σ') (hO : ∀ o σ σ', O o σ σ' → O' o σ σ') : QStep P F O' R p k o σ σ' := by
  cases h with
  | skip h => exact .skip h
  | op h1 h2 h3 h4 h5 h6 h7 => exact .op h1 h2 h3 h4 h5 h6 h7
  | sto h1 h2 h3 h4 h5 h6 h7 => exact .sto h1 h2 h3 h4 h5 h6 h7
  | cpy h1 h2 h3 h4 h5 h6 => exact .cpy h1 h2 h3 h4 h5 h6
  | oth h1 h2 h3 => exact .oth h1 (hO _ _ _ h2) h3

/-- THE ABSTRACT MACHINE IS RIGHT: whatever it does, the machine does. -/
theorem runs_sound (hF : ∀ f as res, F f as = some res → CallsD P f as res) {j : Job} {σ σ' : St} {e : Ex} (h : Runs P F j σ e σ') : Sound P F j σ e σ' := by
  induction h with
  | nil => intro w A β base a acts Q hr hq; exact hq a w A β rfl hr (.refl _ _ _)
  | @skipped R o l σ σ' hw _ ih =>
    intro w A β base a acts Q hr hq
    unfold wpList
    rw [if_neg (by rw [wanted_spec hr hw]; simp)]
    exact ih w A β base _ acts Q (hr.putA o.dst (by simp [Rep, RepS])) (hq.trans (put_defers _ _ _) (.refl _ _ _))
  | @step R o l σ σ1 σ' hw hs _ ih =>
    intro w A β base a acts Q hr hq
    unfold wpList
    rw [if_pos (wanted_spec hr hw)]
    exact .inl (opStep_sound hF hr hs fun a' w' A' β' hd hr' ht => ih w' A' β' base a' acts Q hr' (hq.trans hd ht))
  | @inline R o l σ σ1 σ' fo args f caps fn c e1 ds fr stk hw hp hf hb _ he hres hstk _ ihc ihl =>
    intro w A β base a acts Q hr hq
    unfold wpList
    rw [if_pos (wanted_spec hr hw)]
    left
    have hfo := eval_rep hr fo
    rw [hf] at hfo
    simp only [Rep] at hfo
    obtain ⟨vc, hfo, hcaps⟩ := hfo
    obtain ⟨hfn, hbody, hrun⟩ := body_spec hb
    have hargs : RepLs w A β (args.toList.map (evalD σ) ++ caps) (args.toList.map a.eval ++ vc) := (maps_rel (eval_rep hr) _).append hcaps
    unfold Oper.wp
    rw [callParts_run (w := w) (A := A) (β := β) hp hfo, hrun]
    refine calls_of_wp hfn hbody ?_
    refine ihc w A β base _ (a.tmps :: acts) _ (enter_rel hr hargs fn.ntmps) ?_
    intro a' w' A' β' hd hr' ht
    obtain ⟨v, hv, hrep⟩ := results_run hr' hres
    have hstk' := hr'.stk
    rw [hstk] at hstk'
    cases hstk' with
    | cons hfr hrest =>
      have hback : Rel w' A' β' base { fr := fr, stk := stk, bk := σ1.bk } a.tmps acts := ⟨hfr, hrest, hr'.blk, hr'.inj, hr'.low, hr'.top⟩
      have hnext : wpList P R Q l (a.put o.dst v) w' := ihl w' A' β' base _ acts Q (hback.putA o.dst hrep) (hq.trans (put_defers _ _ _) ht)
      rcases he with rfl | rfl
      · exact ⟨hd, v, hv, hnext⟩
      · exact ⟨hd, v, hv, hnext⟩
  | region _ ih => intro w A β base a acts Q hr hq; exact wp_region_list (ih w A β base a acts Q hr hq)
  | skip => intro w A β base a acts Q hr hq; exact wp_skip (hq a w A β rfl hr (.refl _ _ _))
  | ret => intro w A β base a acts Q hr hq; exact wp_ret (hq a w A β rfl hr (.refl _ _ _))
  | exit => intro w A β base a acts Q hr hq; exact wp_exit (hq a w A β rfl hr (.refl _ _ _))
  | seq _ _ ih1 ih2 =>
    intro w A β base a acts Q hr hq
    exact wp_seq (ih1 w A β base a acts _ hr fun a' w' A' β' hd hr' ht => ih2 w' A' β' base a' acts Q hr' (hq.trans hd ht))
  | leave _ hne ih =>
    intro w A β base a acts Q hr hq
    exact wp_seq (ih w A β base a acts _ hr (by rw [Exit.then_of_ne hne]; exact hq))
  | @cond c x y b σ σ' e hc _ ih =>
    intro w A β base a acts Q hr hq
    have h1 := eval_rep hr c
    rw [hc] at h1
    simp only [Rep, RepS] at h1
    exact wp_cond h1 (ih w A β base a acts Q hr hq)
  | @block id c σ σ' e _ ih =>
    intro w A β base a acts Q hr hq
    refine wp_block (ih w A β base a acts _ hr fun a' w' A' β' hd hr' ht => ?_)
    have := hq a' w' A' β' hd hr' ht
    cases e with
    | normal => exact this
    | ret => exact this
    | exit i =>
      by_cases hi : i = id
      · subst hi; simp only [if_true] at this; simp only [Ex.out, Exit.inBlock, if_true]; exact this
      · rw [if_neg (by simp [hi])] at this; simp only [Ex.out, Exit.inBlock, if_neg hi]; exact this
  | loop _ ih =>
    intro w A β base a acts Q hr hq
    obtain ⟨n, hn⟩ := ih
    exact wp_loop_rounds n (hn w A β base a acts Q hr hq)
  | round _ _ ih1 ih2 =>
    obtain ⟨n, hn⟩ := ih2
    refine ⟨n + 1, fun w A β base a acts Q hr hq => ?_⟩
    rw [rounds_succ]
    exact ih1 w A β base a acts _ hr fun a' w' A' β' hd hr' ht => hn w' A' β' base a' acts Q hr' (hq.trans hd ht)
  | last _ hne ih =>
    refine ⟨1, fun w A β base a acts Q hr hq => ?_⟩
    rw [rounds_succ]
    exact ih w A β base a acts _ hr (by rw [Exit.then_of_ne hne]; exact hq)
  | @weak j σ σ1 σ' e hp hw _ ih =>
    cases j with
    | code c => intro w A β base a acts Q hr hq; exact ih w A β base a acts Q (hr.weak hw) hq
    | ops R l => intro w A β base a acts Q hr hq; exact ih w A β base a acts Q (hr.weak hw) hq
    | rounds c => obtain ⟨n, hn⟩ := ih; exact ⟨n, fun w A β base a acts Q hr hq => hn w A β base a acts Q (hr.weak hw) hq⟩
    | draws R p k l => cases hp
  | @wipe j q σ σ' e hp _ ih =>
    cases j with
    | code c => intro w A β base a acts Q hr hq; exact ih w A β base a acts Q (hr.wipe q) hq
    | ops R l => intro w A β base a acts Q hr hq; exact ih w A β base a acts Q (hr.wipe q) hq
    | rounds c => obtain ⟨n, hn⟩ := ih; exact ⟨n, fun w A β base a acts Q hr hq => hn w A β base a acts Q (hr.wipe q) hq⟩
    | draws R p k l => cases hp
  | @after R l q σ σ' _ ih => intro w A β base a acts Q hr hq; exact ih w A β base a acts Q hr fun a' w' A' β' hd hr' ht => hq a' w' A' β' hd (hr'.wipe q) ht
  | dnil => exact .nil
  | dstep h _ ih => exact .cons (h.mono fun _ _ _ h => h.elim) ih
  | dother h1 _ h3 _ ih1 ih2 => exact .cons (.oth h1 ih1 h3) ih2
  | drawn hm ok hinv _ ih => intro w A β base a acts Q hr hq; exact drawn_sound hF (fun _ _ _ h => h) hm ok hinv ih hr hq
end
end Go.Dam
