/- The engine, part RB: an abstract machine for the program's functions, proved right against the model. No condition. -/
import Derived.Test.YtpbngkempchamaaDamR
import Derived.RangeFuncIn
set_option linter.unusedSectionVars false
set_option linter.unusedVariables false
set_option linter.unusedSimpArgs false
namespace Go.Dam
open Go Go.RowKit
set_option linter.unusedSectionVars false
variable [Glo]
set_option linter.unusedSimpArgs false
set_option linter.unusedVariables false

section
variable {P : Program} {F : FuncId → List D → D → Prop}

/-- The world in which the iterator begins. -/
def rangedW (w : World) (fn : FuncId) (tmps : Array Value) (ps : Array Tmp) (assign body : Code) : World :=
  (w.alloc (.deferred (some []))).alloc (.loop { state := .ready, pending := none, fn, tmps, params := ps, assign, body, defers := w.heap.size })

section
variable {w : World} {A : Nat → Prop} {β : Env} {base : Nat} {σ : St} {tmps : Array Value} {acts : List (Array Value)} {fn : FuncId} {ps : Array Tmp} {assign body : Code}

theorem rangedW_size : (rangedW w fn tmps ps assign body).heap.size = w.heap.size + 2 := by simp [rangedW]
theorem rangedW_old {k : Nat} (hk : k < w.heap.size) : (rangedW w fn tmps ps assign body).heap[k]? = w.heap[k]? :=
  (Below.heap_alloc _ _ _ (by simp; omega)).trans (Below.heap_alloc _ _ _ hk)
theorem rangedW_rec : (rangedW w fn tmps ps assign body).heap[w.heap.size + 1]? = some (.loop { state := .ready, pending := none, fn, tmps, params := ps, assign, body, defers := w.heap.size }) := by
  have := World.alloc_heap_new (w.alloc (.deferred (some []))) (.loop { state := .ready, pending := none, fn, tmps, params := ps, assign, body, defers := w.heap.size })
  simpa [rangedW] using this
theorem rangedW_dfr : (rangedW w fn tmps ps assign body).heap[w.heap.size]? = some (.deferred (some [])) :=
  (Below.heap_alloc _ _ _ (by simp)).trans (World.alloc_heap_new w _)

theorem rangedW_ext (hA : ∀ k, A k → k < w.heap.size) : Ext A w (rangedW w fn tmps ps assign body) := (Ext.alloc hA _).trans (Ext.alloc (fun k hk => by have := hA k hk; simp; omega) _) (fun _ h => h)
theorem rangedW_oth : Oth w (rangedW w fn tmps ps assign body) := (Oth.alloc w _).trans (Oth.alloc _ _)
theorem rangedW_turn (hA : ∀ k, A k → k < w.heap.size) (top : base ≤ w.heap.size) : Turn A A base w (rangedW w fn tmps ps assign body) :=
  ⟨rangedW_ext hA, fun _ h => h, ((Below.refl _ w).alloc top _).alloc (by simp; omega) _, fun _ h _ => h, .strict rangedW_oth (.refl _ _)⟩

/-- The iterator's frame. -/
theorem ranged_rel (h : Rel w A β base σ tmps acts) {caps : List D} {vc : List Value} (hc : RepLs w A β caps vc) (hcl : D.hasL yldId caps = false) (nt : Nat) :
    Rel (rangedW w fn tmps ps assign body) A (β.set yldId (some ⟨w.heap.size + 1, 0, none⟩)) base (σ.ranged ps assign body caps nt)
      ((Value.func (.yield (w.heap.size + 1)) #[] #[] :: vc).toArray ++ Array.replicate (nt - (Value.func (.yield (w.heap.size + 1)) #[] #[] :: vc).toArray.size) undef) (tmps :: #[.int .i64 ((w.heap.size + 1 : Nat) : Int)] :: acts) := by
  have hx : Ext A w (rangedW w fn tmps ps assign body) := rangedW_ext h.low
  have h1 := h.rebind yldId (some ⟨w.heap.size + 1, 0, none⟩) hx (by rw [rangedW_size]; have := h.top; omega) (by rw [rangedW_size]; omega) rangedW_oth (fun i b ad _ hb ha => rangedW_old (blk_lt h hb ha))
  have hc' : RepLs (rangedW w fn tmps ps assign body) A (β.set yldId (some ⟨w.heap.size + 1, 0, none⟩)) caps vc := RepLs.mono hx (fun _ h => h) _ _ (fun i hi => Env.set_other _ _ (fun e => by subst e; rw [hcl] at hi; cases hi)) hc
  have hargs : RepLs (rangedW w fn tmps ps assign body) A (β.set yldId (some ⟨w.heap.size + 1, 0, none⟩)) (.yld :: caps) (Value.func (.yield (w.heap.size + 1)) #[] #[] :: vc) := by
    simp only [RepLs]
    exact ⟨_, _, rfl, by simp only [Rep]; exact ⟨_, Env.set_same _ _ _, rfl⟩, hc'⟩
  have h2 := enter_rel h1 hargs nt
  have hst := h2.stk
  cases hst with
  | cons hf hrest =>
    refine ⟨h2.fr, ?_, h2.blk, h2.inj, h2.low, h2.top, h2.glo, ⟨w.heap.size + 1, w.heap.size, fn, tmps, [], acts, Env.set_same _ _ _, rfl, ?_, rangedW_rec, fun ha => ?_, by have := h.top; omega⟩⟩
    · exact .cons hf (.cons ⟨rfl, fun t => by simp [ghost, Rep, RepS]⟩ hrest)
    · show acts.length + 2 = σ.stk.length + 2
      rw [h.stk.length]
    · have := h.low _ ha; omega
end

/-- THE ABSTRACT MACHINE IS RIGHT: whatever it does, the machine does. -/
theorem runs_sound (hF : ∀ f as res, F f as res → CallsD P f as res) {j : Job} {σ σ' : St} {e : Ex} (h : Runs P F j σ e σ') : Sound P F j σ e σ' := by
  induction h with
  | nil => intro ro w A β base a acts Q hr hq; exact hq a w A β (.same rfl) hr (.refl _ _ _)
  | @skipped R o l σ σ' hw _ ih =>
    intro ro w A β base a acts Q hr hq
    unfold wpListIn
    rw [if_neg (by rw [wanted_spec hr hw]; simp)]
    exact ⟨fun _ _ => trivial, ih ro w A β base _ acts Q (hr.putA o.dst (by simp [Rep, RepS])) (hq.trans (.same (put_defers _ _ _)) (.refl _ _ _))⟩
  | @step R o l σ σ1 σ' hw hs _ ih =>
    intro ro w A β base a acts Q hr hq
    unfold wpListIn
    rw [if_pos (wanted_spec hr hw)]
    exact opStep_in hF hr hs fun a' w' A' β' hd hr' ht => ih ro w' A' β' base a' acts Q hr' (hq.trans hd ht)
  | @inline R o l σ σ1 σ' fo args f caps fn c e1 ds fr stk hw hp hf hb _ he hres hstk hfit _ ihc ihl =>
    intro ro w A β base a acts Q hr hq
    unfold wpListIn
    rw [if_pos (wanted_spec hr hw)]
    have hfo := eval_rep hr fo
    rw [hf] at hfo
    simp only [Rep] at hfo
    obtain ⟨vc, hfo, hcaps⟩ := hfo
    obtain ⟨hfn, hbody, hrun⟩ := body_spec hb
    have hargs : RepLs w A β (args.toList.map (evalD σ) ++ caps) (args.toList.map a.eval ++ vc) := (maps_rel (eval_rep hr) _).append hcaps
    refine wpIn_FW (fun c e => by rw [e] at hp; simp [callParts] at hp) ?_
    unfold Oper.wp
    rw [callParts_run (w := w) (A := A) (β := β) hp hfo, hrun]
    refine (callsIn_wide (n := 0)).1 (callsIn_of_wp_marks (F := FW none) hfn hbody trivial ?_)
    refine ihc none (.inl rfl) w A β base _ (a.tmps :: acts) _ (enter_rel hr hargs fn.ntmps) ?_
    intro a' w' A' β' hd hr' ht
    refine bodyEnd he hr.top hr.low hd rfl hr' ht (fun w'' hr'' ht'' => ?_)
    obtain ⟨v, hv, hrep⟩ := results_run hr'' hres
    have hstk' := hr''.stk
    rw [hstk] at hstk'
    cases hstk' with
    | cons hfr hrest =>
      have hback : Rel w'' A' β' base { fr := fr, stk := stk, bk := σ1.bk, loop := σ1.loop } a.tmps acts := ⟨hfr, hrest, hr''.blk, hr''.inj, hr''.low, hr''.top, hr''.glo, by
        show LoopRep w'' A' β' base σ1.loop acts
        have hlp := hr''.lp
        cases hl1 : σ1.loop with
        | none => trivial
        | some L =>
          rw [hl1] at hlp hfit
          obtain ⟨l, D, fn, ts, pre, post, h1, h2, h3, h4⟩ := hlp
          have hsl := hrest.length
          have hfit' : L.depth ≤ stk.length := by simpa [loopFits] using hfit
          cases pre with
          | nil =>
            simp only [List.nil_append, List.cons.injEq] at h2
            have := congrArg List.length h2.2
            simp only [List.length_cons] at this
            omega
          | cons x pre =>
            simp only [List.cons_append, List.cons.injEq] at h2
            exact ⟨l, D, fn, ts, pre, post, h1, h2.2, h3, h4⟩⟩
      exact ⟨v, hv, ihl ro w'' A' β' base _ acts Q (hback.putA o.dst hrep) (hq.trans (.same (put_defers _ _ _)) ht'')⟩
  | @yield R o l σ σ1 σ2 σ' fo args L L1 L2 e fr0 gh frI stk stk' hw hp hf hL hs hstk hdep hsz hna hnb _ hL1 hs1 hd1 _ hL2 hs2 hd2 hstk2 _ iha ihb ihl =>
    intro ro w A β base a acts Q hr hq
    unfold wpListIn
    rw [if_pos (wanted_spec hr hw)]
    exact round_sound hp hf hL hs hstk hdep hsz hna hnb iha hL1 hs1 hd1 ihb hL2 hs2 hd2 hstk2 hr fun a' w' A' β' hd hr' ht => ihl ro w' A' β' base a' acts Q hr' (hq.trans hd ht)
  | @ranged g ps assign body f caps fn c σ σ1 e1 e L1 fr gh stk hl hg hb _ he hres hL1 hlv hdep hstk ih =>
    intro ro hro w A β base a acts Q hr hq
    obtain rfl : ro = none := by
      rcases hro with h | h
      · exact h
      · simp [noRange] at h
    refine wpIn_rangeFunc fun fn0 _ => ?_
    have hgr := eval_rep (hr.forget yldId) g
    rw [hg] at hgr
    simp only [Rep] at hgr
    obtain ⟨vc, hgv, hcaps⟩ := hgr
    obtain ⟨hfn, hbody, hrun⟩ := body_spec hb
    have hcl : D.hasL yldId caps = false := by
      have := (unused_forget yldId σ).eval g
      rw [hg] at this
      simpa [D.has] using this
    refine ⟨w.heap.size + 1, [mark w.heap.size], rangedW w fn0 a.tmps ps assign body, { target := .fn (.func f) vc.toArray, args := #[.func (.yield (w.heap.size + 1)) #[] #[]] }, rangedW w fn0 a.tmps ps assign body, f,
      #[.func (.yield (w.heap.size + 1)) #[] #[]] ++ vc.toArray, rangedW w fn0 a.tmps ps assign body, run_enterLoop_outer _ _ _ _ _, ?_, fun _ _ => trivial, ?_, fun e => (by cases e), ?_⟩
    · simp only [resolve, hgv]
      simp [go_sem]
    · simp [invoke, go_sem, hrun]
    · have hrel0 := ranged_rel (fn := fn0) (ps := ps) (assign := assign) (body := body) hr hcaps hcl fn.ntmps
      have htw : Turn A A base w (rangedW w fn0 a.tmps ps assign body) := rangedW_turn hr.low hr.top
      have eargs : (#[Value.func (.yield (w.heap.size + 1)) #[] #[]] ++ vc.toArray) = (Value.func (.yield (w.heap.size + 1)) #[] #[] :: vc).toArray := by simp
      rw [eargs]
      refine callsIn_of_wp_marks (F := FW none) hfn hbody trivial ?_
      refine ih none (.inl rfl) _ A _ base { tmps := _, defers := [] } (a.tmps :: #[.int .i64 ((w.heap.size + 1 : Nat) : Int)] :: acts) _ hrel0 ?_
      intro a1 w1 A1 β1 hd1 hr1 ht1
      refine bodyEnd he hrel0.top hrel0.low hd1 rfl hr1 ht1 (fun w2 hr2 ht2 => ?_)
      obtain ⟨v, hv, _⟩ := results_run (fn := fn) (ds := []) hr2 (by rw [hres]; rfl)
      refine ⟨v, hv, ?_⟩
      have hlp := hr2.lp
      rw [hL1] at hlp
      obtain ⟨l, D, fn1, ts, pre, post, h1, h2, h3, h4, h5, h6⟩ := hlp
      have hal := hr.stk.length
      have hpos : l = w.heap.size + 1 ∧ pre = [] ∧ ts = a.tmps ∧ acts = post := by
        have hl := congrArg List.length h2
        simp only [List.length_cons, List.length_append] at hl
        cases pre with
        | nil =>
          simp only [List.nil_append, List.cons.injEq, Array.mk.injEq, Value.int.injEq, true_and, and_true] at h2
          obtain ⟨rfl, h, rfl⟩ := h2
          exact ⟨by omega, rfl, rfl, rfl⟩
        | cons _ _ => simp only [List.length_cons] at hl; omega
      obtain ⟨rfl, rfl, rfl, rfl⟩ := hpos
      have hnb : L1.state.state ≠ .busy := by
        intro e
        cases hs : L1.state with
        | ready => rw [hs] at e; cases e
        | busy => rw [hs] at hlv; cases hlv
        | done c => rw [hs] at e; cases e
      refine ⟨_, _, run_endLoop h4 hnb, ?_⟩
      -- back in the frame of the statement
      have hst := hr2.stk
      rw [hstk] at hst
      cases hst with
      | cons hf0 hrest0 =>
      cases hrest0 with
      | cons hf1 hrest =>
      have hb0 : Rel w2 A1 β1 base { fr := fr, stk := stk, bk := σ1.bk } a.tmps acts := ⟨hf0, hrest, hr2.blk, hr2.inj, hr2.low, hr2.top, hr2.glo, trivial⟩
      have hno : w.heap.size + 1 < w2.heap.size := (Array.getElem?_eq_some_iff.1 h4).1
      have hfin := hb0.putObj (o' := .loop { state := .exhausted, pending := L1.state.jump, fn := fn1, tmps := a.tmps, params := L1.ps, assign := L1.assign, body := L1.body, defers := D }) h4 rfl h5 trivial
      have hturn := (htw.trans ht2).putObj (o' := .loop { state := .exhausted, pending := L1.state.jump, fn := fn1, tmps := a.tmps, params := L1.ps, assign := L1.assign, body := L1.body, defers := D }) h4 rfl h6 (fun ha => by have := hr.low _ ha; omega) (fun x hx _ => by
        have := (Array.getElem?_eq_some_iff.1 hx).1; omega)
      have hmarks : Marks w (w2.putObj (w.heap.size + 1) (.loop { state := .exhausted, pending := L1.state.jump, fn := fn1, tmps := a.tmps, params := L1.ps, assign := L1.assign, body := L1.body, defers := D })) A1 a { a with defers := [mark w.heap.size] ++ a.defers } := by
        refine ⟨[w.heap.size], rfl, by simp, fun E hE => ?_⟩
        simp only [List.mem_singleton] at hE
        subst hE
        refine ⟨Nat.le_refl _, fun ha => ?_, ?_⟩
        · have := ht2.side.new _ _ rangedW_dfr rfl ha
          exact Nat.lt_irrefl _ (hr.low _ this)
        · rw [World.putObj_heap_other (by omega)]
          exact ht2.side.keep _ _ rangedW_dfr rfl
      have hQ := hq { a with defers := [mark w.heap.size] ++ a.defers } _ A1 β1 hmarks hfin hturn
      cases hs : L1.state with
      | ready => rw [hs] at hlv; cases hlv; rw [hs] at hQ; exact hQ
      | busy => rw [hs] at hlv; cases hlv
      | done c =>
        rw [hs] at hlv hQ
        cases c <;> simp only [LSt.leaves] at hlv <;> first | (cases hlv; done) | skip
        · cases hlv; exact wpIn_exit hQ
        · cases hlv; exact wpIn_ret hQ
  | region _ ih => intro ro _ w A β base a acts Q hr hq; exact wpIn_region_list (ih ro w A β base a acts Q hr hq)
  | skip => intro ro _ w A β base a acts Q hr hq; exact wpIn_skip (hq a w A β (.same rfl) hr (.refl _ _ _))
  | ret => intro ro _ w A β base a acts Q hr hq; exact wpIn_ret (hq a w A β (.same rfl) hr (.refl _ _ _))
  | exit => intro ro _ w A β base a acts Q hr hq; exact wpIn_exit (hq a w A β (.same rfl) hr (.refl _ _ _))
  | seq _ _ ih1 ih2 =>
    intro ro hro w A β base a acts Q hr hq
    have h1 := hro.imp_right (fun h => by simpa [noRange] using h)
    exact wpIn_seq (ih1 ro (h1.imp_right And.left) w A β base a acts _ hr fun a' w' A' β' hd hr' ht => ih2 ro (h1.imp_right And.right) w' A' β' base a' acts Q hr' (hq.trans hd ht))
  | leave _ hne ih =>
    intro ro hro w A β base a acts Q hr hq
    have h1 := hro.imp_right (fun h => by simpa [noRange] using h)
    exact wpIn_seq (ih ro (h1.imp_right And.left) w A β base a acts _ hr (by rw [Exit.then_of_ne hne]; exact hq))
  | @cond c x y b σ σ' e hc _ ih =>
    intro ro hro w A β base a acts Q hr hq
    have h0 := hro.imp_right (fun h => by simpa [noRange] using h)
    have h1 := eval_rep hr c
    rw [hc] at h1
    simp only [Rep, RepS] at h1
    exact wpIn_cond h1 (ih ro (h0.imp_right (fun h => by cases b; exact h.2; exact h.1)) w A β base a acts Q hr hq)
  | @block id c σ σ' e _ ih =>
    intro ro hro w A β base a acts Q hr hq
    refine wpIn_block (ih ro hro w A β base a acts _ hr fun a' w' A' β' hd hr' ht => ?_)
    have := hq a' w' A' β' hd hr' ht
    cases e with
    | normal => exact this
    | ret => exact this
    | exit i =>
      by_cases hi : i = id
      · subst hi; simp only [if_true] at this; simp only [Ex.out, Exit.inBlock, if_true]; exact this
      · rw [if_neg (by simp [hi])] at this; simp only [Ex.out, Exit.inBlock, if_neg hi]; exact this
  | loop _ ih =>
    intro ro hro w A β base a acts Q hr hq
    obtain ⟨n, hn⟩ := ih ro hro
    exact wpIn_loop_rounds n (hn w A β base a acts Q hr hq)
  | round _ _ ih1 ih2 =>
    intro ro hro
    obtain ⟨n, hn⟩ := ih2 ro hro
    refine ⟨n + 1, fun w A β base a acts Q hr hq => ?_⟩
    rw [roundsIn_succ]
    exact ih1 ro hro w A β base a acts _ hr fun a' w' A' β' hd hr' ht => hn w' A' β' base a' acts Q hr' (hq.trans hd ht)
  | last _ hne ih =>
    intro ro hro
    refine ⟨1, fun w A β base a acts Q hr hq => ?_⟩
    rw [roundsIn_succ]
    exact ih ro hro w A β base a acts _ hr (by rw [Exit.then_of_ne hne]; exact hq)
  | @weak j σ σ1 σ' e hp hw _ ih =>
    cases j with
    | code c => intro ro hro w A β base a acts Q hr hq; obtain ⟨β', hr'⟩ := hw w A β base a.tmps acts hr; exact ih ro hro w A β' base a acts Q hr' hq
    | ops R l => intro ro w A β base a acts Q hr hq; obtain ⟨β', hr'⟩ := hw w A β base a.tmps acts hr; exact ih ro w A β' base a acts Q hr' hq
    | rounds c => intro ro hro; obtain ⟨n, hn⟩ := ih ro hro; exact ⟨n, fun w A β base a acts Q hr hq => let ⟨β', hr'⟩ := hw w A β base a.tmps acts hr; hn w A β' base a acts Q hr' hq⟩
    | draws R p k l => cases hp
  | @late j σ σ1 σ' e hp _ hw ih =>
    have key : ∀ {base : Nat} {acts : List (Array Value)} {A : Nat → Prop} {a : Act} {w : World} {K : Act → World → Prop}, Aft σ' base acts A a w K → Aft σ1 base acts A a w K :=
      fun hq a' w' A' β' hd hr ht => let ⟨β'', hr'⟩ := hw w' A' β' _ _ _ hr; hq a' w' A' β'' hd hr' ht
    cases j with
    | code c => intro ro hro w A β base a acts Q hr hq; exact ih ro hro w A β base a acts Q hr (key hq)
    | ops R l => intro ro w A β base a acts Q hr hq; exact ih ro w A β base a acts Q hr (key hq)
    | rounds c => intro ro hro; obtain ⟨n, hn⟩ := ih ro hro; exact ⟨n, fun w A β base a acts Q hr hq => hn w A β base a acts Q hr (key hq)⟩
    | draws R p k l => cases hp
  | @wipe j q σ σ' e hp _ ih =>
    cases j with
    | code c => intro ro hro w A β base a acts Q hr hq; exact ih ro hro w A β base a acts Q (hr.wipe q) hq
    | ops R l => intro ro w A β base a acts Q hr hq; exact ih ro w A β base a acts Q (hr.wipe q) hq
    | rounds c => intro ro hro; obtain ⟨n, hn⟩ := ih ro hro; exact ⟨n, fun w A β base a acts Q hr hq => hn w A β base a acts Q (hr.wipe q) hq⟩
    | draws R p k l => cases hp
  | @after R l q σ σ' _ ih => intro ro w A β base a acts Q hr hq; exact ih ro w A β base a acts Q hr fun a' w' A' β' hd hr' ht => hq a' w' A' β' hd (hr'.wipe q) ht
  | dnil => exact .nil
  | dstep h _ ih => exact .cons (h.mono fun _ _ _ h => h.elim) ih
  | dother h1 _ h3 _ ih1 ih2 => exact .cons (.oth h1 ih1 h3) ih2
  | drawn hm ok hinv _ ih => intro ro _ w A β base a acts Q hr hq; exact drawn_sound hF (fun _ _ _ h => h) hm ok hinv ih hr hq
end
end Go.Dam
