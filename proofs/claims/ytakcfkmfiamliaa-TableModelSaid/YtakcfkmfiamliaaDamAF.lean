/- The engine: an abstract machine for the program's functions, proved right against the model. No condition. -/
import Derived.Test.YtakcfkmfiamliaaDamR
import Derived.RangeFuncIn
set_option linter.unusedSectionVars false
set_option linter.unusedVariables false
set_option linter.unusedSimpArgs false
section
namespace Go.Dam
open Go Go.RowKit
variable [Glo]
section
variable {P : Program} {F : FuncId → List D → D → Prop}
/-- The world in which the iterator begins. -/
def rangedW (w : World) (fn : FuncId) (tmps : Array Value) (ps : Array Tmp) (assign body : Code) : World :=
 (w.alloc (.deferred (some []))).alloc (.loop { state := .ready, pending := none, fn, tmps, params := ps, assign, body, defers := w.heap.size })
section
variable {w : World} {A : Nat → Prop} {β : Env} {base : Nat} {σ : St} {tmps : Array Value} {acts : List (Array Value)} {fn : FuncId} {ps : Array Tmp} {assign body : Code}
theorem rangedW_size : (rangedW w fn tmps ps assign body).heap.size = w.heap.size + 2 := by simp [rangedW]
theorem rangedW_old {k : Nat} (hk : k < w.heap.size) : (rangedW w fn tmps ps assign body).heap[k]? = w.heap[k]? :=
 (Below.heap_alloc _ _ _ (by simp; omega)).trans (Below.heap_alloc _ _ _ hk)
theorem rangedW_rec : (rangedW w fn tmps ps assign body).heap[w.heap.size + 1]? = some (.loop { state := .ready, pending := none, fn, tmps, params := ps, assign, body, defers := w.heap.size }) := by
 have := World.alloc_heap_new (w.alloc (.deferred (some []))) (.loop { state := .ready, pending := none, fn, tmps, params := ps, assign, body, defers := w.heap.size })
 simpa [rangedW] using this
theorem rangedW_dfr : (rangedW w fn tmps ps assign body).heap[w.heap.size]? = some (.deferred (some [])) :=
 (Below.heap_alloc _ _ _ (by simp)).trans (World.alloc_heap_new w _)
theorem rangedW_ext (hA : ∀ k, A k → k < w.heap.size) : Ext A w (rangedW w fn tmps ps assign body) := (Ext.alloc hA _).trans (Ext.alloc (fun k hk => by have := hA k hk; simp; omega) _) (fun _ h => h)
theorem rangedW_oth : Oth w (rangedW w fn tmps ps assign body) := (Oth.alloc w _).trans (Oth.alloc _ _)
theorem rangedW_turn (hA : ∀ k, A k → k < w.heap.size) (top : base ≤ w.heap.size) : Turn A A base w (rangedW w fn tmps ps assign body) :=
 ⟨rangedW_ext hA, fun _ h => h, ((Below.refl _ w).alloc top _).alloc (by simp; omega) _, fun _ h _ => h, .strict rangedW_oth (.refl _ _)⟩
/-- The iterator's frame. -/
theorem ranged_rel (h : Rel w A β base σ tmps acts) {caps : List D} {vc : List Value} (hc : RepLs w A β caps vc) (hcl : D.hasL yldId caps = false) (nt : Nat) :
  Rel (rangedW w fn tmps ps assign body) A (β.set yldId (some ⟨w.heap.size + 1, 0, none⟩)) base (σ.ranged ps assign body caps nt)
   ((Value.func (.yield (w.heap.size + 1)) #[] #[] :: vc).toArray ++ Array.replicate (nt - (Value.func (.yield (w.heap.size + 1)) #[] #[] :: vc).toArray.size) undef) (tmps :: #[.int .i64 ((w.heap.size + 1 : Nat) : Int)] :: acts) := by
 have hx : Ext A w (rangedW w fn tmps ps assign body) := rangedW_ext h.low
 have h1 := h.rebind yldId (some ⟨w.heap.size + 1, 0, none⟩) hx (by rw [rangedW_size]; have := h.top; omega) (by rw [rangedW_size]; omega) rangedW_oth (fun i b ad _ hb ha => rangedW_old (blk_lt h hb ha))
 have hc' : RepLs (rangedW w fn tmps ps assign body) A (β.set yldId (some ⟨w.heap.size + 1, 0, none⟩)) caps vc := RepLs.mono hx (fun _ h => h) _ _ (fun i hi => Env.set_other _ _ (fun e => by subst e; rw [hcl] at hi; cases hi)) hc
 have hargs : RepLs (rangedW w fn tmps ps assign body) A (β.set yldId (some ⟨w.heap.size + 1, 0, none⟩)) (.yld :: caps) (Value.func (.yield (w.heap.size + 1)) #[] #[] :: vc) := by
  simp only [RepLs]
  exact ⟨_, _, rfl, by simp only [Rep]; exact ⟨_, Env.set_same _ _ _, rfl⟩, hc'⟩
 have h2 := enter_rel h1 hargs nt
 have hst := h2.stk
 cases hst with
 | cons hf hrest =>
  refine ⟨h2.fr, ?_, h2.blk, h2.inj, h2.low, h2.top, h2.glo, ⟨w.heap.size + 1, w.heap.size, fn, tmps, [], acts, Env.set_same _ _ _, rfl, ?_, rangedW_rec, fun ha => ?_, by have := h.top; omega⟩⟩
  ·exact .cons hf (.cons ⟨rfl, fun t => by simp [ghost, Rep, RepS]⟩ hrest)
  ·show acts.length + 2 = σ.stk.length + 2
   rw [h.stk.length]
  ·have := h.low _ ha; omega
end
/-- THE ABSTRACT MACHINE IS RIGHT: whatever it does, the machine does. -/
theorem runs_sound (hF : ∀ f as res, F f as res → CallsD P f as res) {j : Job} {σ σ' : St} {e : Ex} (h : Runs P F j σ e σ') : Sound P F j σ e σ' := by
 induction h with
 | nil => intro ro w A β base a acts Q hr hq; exact hq a w A β (.same rfl) hr (.refl _ _ _)
 | @skipped R o l σ σ' hw _ ih =>
  intro ro w A β base a acts Q hr hq
  unfold wpListIn
  rw [if_neg (by rw [wanted_spec hr hw]; simp)]
  exact ⟨fun _ _ => trivial, ih ro w A β base _ acts Q (hr.putA o.dst (by simp [Rep, RepS])) (hq.trans (.same (put_defers _ _ _)) (.refl _ _ _))⟩
 | @step R o l σ σ1 σ' hw hs _ ih =>
  intro ro w A β base a acts Q hr hq
  unfold wpListIn
  rw [if_pos (wanted_spec hr hw)]
  exact opStep_in hF hr hs fun a' w' A' β' hd hr' ht => ih ro w' A' β' base a' acts Q hr' (hq.trans hd ht)
 | @inline R o l σ σ1 σ' fo args f caps fn c e1 ds fr stk hw hp hf hb _ he hres hstk hfit _ ihc ihl =>
  intro ro w A β base a acts Q hr hq
  unfold wpListIn
  rw [if_pos (wanted_spec hr hw)]
  have hfo := eval_rep hr fo
  rw [hf] at hfo
  simp only [Rep] at hfo
  obtain ⟨vc, hfo, hcaps⟩ := hfo
  obtain ⟨hfn, hbody, hrun⟩ := body_spec hb
  have hargs : RepLs w A β (args.toList.map (evalD σ) ++ caps) (args.toList.map a.eval ++ vc) := (maps_rel (eval_rep hr) _).append hcaps
  refine wpIn_FW (fun c e => by rw [e] at hp; simp [callParts] at hp) ?_
  unfold Oper.wp
  rw [callParts_run (w := w) (A := A) (β := β) hp hfo, hrun]
  refine (callsIn_wide (n := 0)).1 (callsIn_of_wp_marks (F := FW none) hfn hbody trivial ?_)
  refine ihc none (.inl rfl) w A β base _ (a.tmps :: acts) _ (enter_rel hr hargs fn.ntmps) ?_
  intro a' w' A' β' hd hr' ht
  refine bodyEnd he hr.top hr.low hd rfl hr' ht (fun w'' hr'' ht'' => ?_)
  obtain ⟨v, hv, hrep⟩ := results_run hr'' hres
  have hstk' := hr''.stk
  rw [hstk] at hstk'
  cases hstk' with
  | cons hfr hrest =>
   have hback : Rel w'' A' β' base { fr := fr, stk := stk, bk := σ1.bk, loop := σ1.loop } a.tmps acts := ⟨hfr, hrest, hr''.blk, hr''.inj, hr''.low, hr''.top, hr''.glo, by
    show LoopRep w'' A' β' base σ1.loop acts
    have hlp := hr''.lp
    cases hl1 : σ1.loop with
    | none => trivial
    | some L =>
     rw [hl1] at hlp hfit
     obtain ⟨l, D, fn, ts, pre, post, h1, h2, h3, h4⟩ := hlp
     have hsl := hrest.length
     have hfit' : L.depth ≤ stk.length := by simpa [loopFits] using hfit
     cases pre with
     | nil =>
      simp only [List.nil_append, List.cons.injEq] at h2
      have := congrArg List.length h2.2
      simp only [List.length_cons] at this
      omega
     | cons x pre =>
      simp only [List.cons_append, List.cons.injEq] at h2
      exact ⟨l, D, fn, ts, pre, post, h1, h2.2, h3, h4⟩⟩
   exact ⟨v, hv, ihl ro w'' A' β' base _ acts Q (hback.putA o.dst hrep) (hq.trans (.same (put_defers _ _ _)) ht'')⟩
 | @yield R o l σ σ1 σ2 σ' fo args L L1 L2 e fr0 gh frI stk stk' hw hp hf hL hs hstk hdep hsz hna hnb _ hL1 hs1 hd1 _ hL2 hs2 hd2 hstk2 _ iha ihb ihl =>
  intro ro w A β base a acts Q hr hq
  unfold wpListIn
  rw [if_pos (wanted_spec hr hw)]
  exact round_sound hp hf hL hs hstk hdep hsz hna hnb iha hL1 hs1 hd1 ihb hL2 hs2 hd2 hstk2 hr fun a' w' A' β' hd hr' ht => ihl ro w' A' β' base a' acts Q hr' (hq.trans hd ht)
 | @ranged g ps assign body f caps fn c σ σ1 e1 e L1 fr gh stk hl hg hb _ he hres hL1 hlv hdep hstk ih =>
  intro ro hro w A β base a acts Q hr hq
  obtain rfl : ro = none := by
   rcases hro with h | h
   ·exact h
   ·simp [noRange] at h
  refine wpIn_rangeFunc fun fn0 _ => ?_
  have hgr := eval_rep (hr.forget yldId) g
  rw [hg] at hgr
  simp only [Rep] at hgr
  obtain ⟨vc, hgv, hcaps⟩ := hgr
  obtain ⟨hfn, hbody, hrun⟩ := body_spec hb
  have hcl : D.hasL yldId caps = false := by
   have := (unused_forget yldId σ).eval g
   rw [hg] at this
   simpa [D.has] using this
  refine ⟨w.heap.size + 1, [mark w.heap.size], rangedW w fn0 a.tmps ps assign body, { target := .fn (.func f) vc.toArray, args := #[.func (.yield (w.heap.size + 1)) #[] #[]] }, rangedW w fn0 a.tmps ps assign body, f,
   #[.func (.yield (w.heap.size + 1)) #[] #[]] ++ vc.toArray, rangedW w fn0 a.tmps ps assign body, run_enterLoop_outer _ _ _ _ _, ?_, fun _ _ => trivial, ?_, fun e => (by cases e), ?_⟩
  ·simp only [resolve, hgv]
   simp [go_sem]
  ·simp [invoke, go_sem, hrun]
  ·have hrel0 := ranged_rel (fn := fn0) (ps := ps) (assign := assign) (body := body) hr hcaps hcl fn.ntmps
   have htw : Turn A A base w (rangedW w fn0 a.tmps ps assign body) := rangedW_turn hr.low hr.top
   have eargs : (#[Value.func (.yield (w.heap.size + 1)) #[] #[]] ++ vc.toArray) = (Value.func (.yield (w.heap.size + 1)) #[] #[] :: vc).toArray := by simp
   rw [eargs]
   refine callsIn_of_wp_marks (F := FW none) hfn hbody trivial ?_
   refine ih none (.inl rfl) _ A _ base { tmps := _, defers := [] } (a.tmps :: #[.int .i64 ((w.heap.size + 1 : Nat) : Int)] :: acts) _ hrel0 ?_
   intro a1 w1 A1 β1 hd1 hr1 ht1
   refine bodyEnd he hrel0.top hrel0.low hd1 rfl hr1 ht1 (fun w2 hr2 ht2 => ?_)
   obtain ⟨v, hv, _⟩ := results_run (fn := fn) (ds := []) hr2 (by rw [hres]; rfl)
   refine ⟨v, hv, ?_⟩
   have hlp := hr2.lp
   rw [hL1] at hlp
   obtain ⟨l, D, fn1, ts, pre, post, h1, h2, h3, h4, h5, h6⟩ := hlp
   have hal := hr.stk.length
   have hpos : l = w.heap.size + 1 ∧ pre = [] ∧ ts = a.tmps ∧ acts = post := by
    have hl := congrArg List.length h2
    simp only [List.length_cons, List.length_append] at hl
    cases pre with
    | nil =>
     simp only [List.nil_append, List.cons.injEq, Array.mk.injEq, Value.int.injEq, true_and, and_true] at h2
     obtain ⟨rfl, h, rfl⟩ := h2
     exact ⟨by omega, rfl, rfl, rfl⟩
    | cons _ _ => simp only [List.length_cons] at hl; omega
   obtain ⟨rfl, rfl, rfl, rfl⟩ := hpos
   have hnb : L1.state.state ≠ .busy := by
    intro e
    cases hs : L1.state with
    | ready => rw [hs] at e; cases e
    | busy => rw [hs] at hlv; cases hlv
    | done c => rw [hs] at e; cases e
   refine ⟨_, _, run_endLoop h4 hnb, ?_⟩
   -- back in the frame of the statement
   have hst := hr2.stk
   rw [hstk] at hst
   cases hst with
   | cons hf0 hrest0 =>
   cases hrest0 with
   | cons hf1 hrest =>
   have hb0 : Rel w2 A1 β1 base { fr := fr, stk := stk, bk := σ1.bk } a.tmps acts := ⟨hf0, hrest, hr2.blk, hr2.inj, hr2.low, hr2.top, hr2.glo, trivial⟩
   have hno : w.heap.size + 1 < w2.heap.size := (Array.getElem?_eq_some_iff.1 h4).1
   have hfin := hb0.putObj (o' := .loop { state := .exhausted, pending := L1.state.jump, fn := fn1, tmps := a.tmps, params := L1.ps, assign := L1.assign, body := L1.body, defers := D }) h4 rfl h5 trivial
   have hturn := (htw.trans ht2).putObj (o' := .loop { state := .exhausted, pending := L1.state.jump, fn := fn1, tmps := a.tmps, params := L1.ps, assign := L1.assign, body := L1.body, defers := D }) h4 rfl h6 (fun ha => by have := hr.low _ ha; omega) (fun x hx _ => by
    have := (Array.getElem?_eq_some_iff.1 hx).1; omega)
   have hmarks : Marks w (w2.putObj (w.heap.size + 1) (.loop { state := .exhausted, pending := L1.state.jump, fn := fn1, tmps := a.tmps, params := L1.ps, assign := L1.assign, body := L1.body, defers := D })) A1 a { a with defers := [mark w.heap.size] ++ a.defers } := by
    refine ⟨[w.heap.size], rfl, by simp, fun E hE => ?_⟩
    simp only [List.mem_singleton] at hE
    subst hE
    refine ⟨Nat.le_refl _, fun ha => ?_, ?_⟩
    ·have := ht2.side.new _ _ rangedW_dfr rfl ha
     exact Nat.lt_irrefl _ (hr.low _ this)
    ·rw [World.putObj_heap_other (by omega)]
     exact ht2.side.keep _ _ rangedW_dfr rfl
   have hQ := hq { a with defers := [mark w.heap.size] ++ a.defers } _ A1 β1 hmarks hfin hturn
   cases hs : L1.state with
   | ready => rw [hs] at hlv; cases hlv; rw [hs] at hQ; exact hQ
   | busy => rw [hs] at hlv; cases hlv
   | done c =>
    rw [hs] at hlv hQ
    cases c <;> simp only [LSt.leaves] at hlv <;> first | (cases hlv; done) | skip
    ·cases hlv; exact wpIn_exit hQ
    ·cases hlv; exact wpIn_ret hQ
 | region _ ih => intro ro _ w A β base a acts Q hr hq; exact wpIn_region_list (ih ro w A β base a acts Q hr hq)
 | skip => intro ro _ w A β base a acts Q hr hq; exact wpIn_skip (hq a w A β (.same rfl) hr (.refl _ _ _))
 | ret => intro ro _ w A β base a acts Q hr hq; exact wpIn_ret (hq a w A β (.same rfl) hr (.refl _ _ _))
 | exit => intro ro _ w A β base a acts Q hr hq; exact wpIn_exit (hq a w A β (.same rfl) hr (.refl _ _ _))
 | seq _ _ ih1 ih2 =>
  intro ro hro w A β base a acts Q hr hq
  have h1 := hro.imp_right (fun h => by simpa [noRange] using h)
  exact wpIn_seq (ih1 ro (h1.imp_right And.left) w A β base a acts _ hr fun a' w' A' β' hd hr' ht => ih2 ro (h1.imp_right And.right) w' A' β' base a' acts Q hr' (hq.trans hd ht))
 | leave _ hne ih =>
  intro ro hro w A β base a acts Q hr hq
  have h1 := hro.imp_right (fun h => by simpa [noRange] using h)
  exact wpIn_seq (ih ro (h1.imp_right And.left) w A β base a acts _ hr (by rw [Exit.then_of_ne hne]; exact hq))
 | @cond c x y b σ σ' e hc _ ih =>
  intro ro hro w A β base a acts Q hr hq
  have h0 := hro.imp_right (fun h => by simpa [noRange] using h)
  have h1 := eval_rep hr c
  rw [hc] at h1
  simp only [Rep, RepS] at h1
  exact wpIn_cond h1 (ih ro (h0.imp_right (fun h => by cases b; exact h.2; exact h.1)) w A β base a acts Q hr hq)
 | @block id c σ σ' e _ ih =>
  intro ro hro w A β base a acts Q hr hq
  refine wpIn_block (ih ro hro w A β base a acts _ hr fun a' w' A' β' hd hr' ht => ?_)
  have := hq a' w' A' β' hd hr' ht
  cases e with
  | normal => exact this
  | ret => exact this
  | exit i =>
   by_cases hi : i = id
   ·subst hi; simp only [if_true] at this; simp only [Ex.out, Exit.inBlock, if_true]; exact this
   ·rw [if_neg (by simp [hi])] at this; simp only [Ex.out, Exit.inBlock, if_neg hi]; exact this
 | loop _ ih =>
  intro ro hro w A β base a acts Q hr hq
  obtain ⟨n, hn⟩ := ih ro hro
  exact wpIn_loop_rounds n (hn w A β base a acts Q hr hq)
 | round _ _ ih1 ih2 =>
  intro ro hro
  obtain ⟨n, hn⟩ := ih2 ro hro
  refine ⟨n + 1, fun w A β base a acts Q hr hq => ?_⟩
  rw [roundsIn_succ]
  exact ih1 ro hro w A β base a acts _ hr fun a' w' A' β' hd hr' ht => hn w' A' β' base a' acts Q hr' (hq.trans hd ht)
 | last _ hne ih =>
  intro ro hro
  refine ⟨1, fun w A β base a acts Q hr hq => ?_⟩
  rw [roundsIn_succ]
  exact ih ro hro w A β base a acts _ hr (by rw [Exit.then_of_ne hne]; exact hq)
 | @weak j σ σ1 σ' e hp hw _ ih =>
  cases j with
  | code c => intro ro hro w A β base a acts Q hr hq; obtain ⟨β', hr'⟩ := hw w A β base a.tmps acts hr; exact ih ro hro w A β' base a acts Q hr' hq
  | ops R l => intro ro w A β base a acts Q hr hq; obtain ⟨β', hr'⟩ := hw w A β base a.tmps acts hr; exact ih ro w A β' base a acts Q hr' hq
  | rounds c => intro ro hro; obtain ⟨n, hn⟩ := ih ro hro; exact ⟨n, fun w A β base a acts Q hr hq => let ⟨β', hr'⟩ := hw w A β base a.tmps acts hr; hn w A β' base a acts Q hr' hq⟩
  | draws R p k l => cases hp
 | @late j σ σ1 σ' e hp _ hw ih =>
  have key : ∀ {base : Nat} {acts : List (Array Value)} {A : Nat → Prop} {a : Act} {w : World} {K : Act → World → Prop}, Aft σ' base acts A a w K → Aft σ1 base acts A a w K :=
   fun hq a' w' A' β' hd hr ht => let ⟨β'', hr'⟩ := hw w' A' β' _ _ _ hr; hq a' w' A' β'' hd hr' ht
  cases j with
  | code c => intro ro hro w A β base a acts Q hr hq; exact ih ro hro w A β base a acts Q hr (key hq)
  | ops R l => intro ro w A β base a acts Q hr hq; exact ih ro w A β base a acts Q hr (key hq)
  | rounds c => intro ro hro; obtain ⟨n, hn⟩ := ih ro hro; exact ⟨n, fun w A β base a acts Q hr hq => hn w A β base a acts Q hr (key hq)⟩
  | draws R p k l => cases hp
 | @wipe j q σ σ' e hp _ ih =>
  cases j with
  | code c => intro ro hro w A β base a acts Q hr hq; exact ih ro hro w A β base a acts Q (hr.wipe q) hq
  | ops R l => intro ro w A β base a acts Q hr hq; exact ih ro w A β base a acts Q (hr.wipe q) hq
  | rounds c => intro ro hro; obtain ⟨n, hn⟩ := ih ro hro; exact ⟨n, fun w A β base a acts Q hr hq => hn w A β base a acts Q (hr.wipe q) hq⟩
  | draws R p k l => cases hp
 | @after R l q σ σ' _ ih => intro ro w A β base a acts Q hr hq; exact ih ro w A β base a acts Q hr fun a' w' A' β' hd hr' ht => hq a' w' A' β' hd (hr'.wipe q) ht
 | dnil => exact .nil
 | dstep h _ ih => exact .cons (h.mono fun _ _ _ h => h.elim) ih
 | dother h1 _ h3 _ ih1 ih2 => exact .cons (.oth h1 ih1 h3) ih2
 | drawn hm ok hinv _ ih => intro ro _ w A β base a acts Q hr hq; exact drawn_sound hF (fun _ _ _ h => h) hm ok hinv ih hr hq
end
end Go.Dam
end

section
namespace Go.Dam
open Go Go.RowKit
variable [Glo]
/-- A result, its own slices handed over: the result, the blocks that it shares, the blocks that it hands over. -/
def fin (bk : Nat → Option Blk) : D → Option (D × List Nat × List Nat)
 | .undef => some (.undef, [], [])
 | .v x => some (.v x, [], [])
 | .sh n cs => some (.sh n cs, [], [])
 | .rc cs => some (.rc cs, [], [])
 | .emp => some (.emp, [], [])
 | .sl id off n sz => match bk id with
  | none => none
  | some b => if off + n * sz ≤ b.cells.length ∧ b.ro = false then
    match shareAll (share bk depth) ((b.cells.drop off).take (n * sz)) with
    | none => none
    | some (cs, ids) => some (.ow n sz cs, ids, [id])
   else none
 | .agg cs => match finL cs with
  | none => none
  | some (ds, i, j) => some (.agg ds, i, j)
 | .tup cs => match finL cs with
  | none => none
  | some (ds, i, j) => some (.tup ds, i, j)
 | _ => none
where
 finL : List D → Option (List D × List Nat × List Nat)
 | [] => some ([], [], [])
 | d :: ds => match fin bk d, finL ds with
  | some (e, i, j), some (es, is, js) => some (e :: es, i ++ is, j ++ js)
  | _, _ => none
/-- What reads so reads so, too. -/
def Reads (e e' : D) : Prop := ∀ (w : World) (A : Nat → Prop) (u : Value), RepS w A e u → RepS w A e' u
theorem Reads.refl (e : D) : Reads e e := fun _ _ _ h => h
inductive ReadsL : List D → List D → Prop
 | nil : ReadsL [] []
 | cons {d e : D} {ds es : List D} : Reads d e → ReadsL ds es → ReadsL (d :: ds) (e :: es)
theorem ReadsL.length {ds es : List D} (h : ReadsL ds es) : ds.length = es.length := by
 induction h with
 | nil => rfl
 | cons _ _ ih => simp [ih]
theorem ReadsL.nil_iff {ds es : List D} (h : ReadsL ds es) : ds = [] ↔ es = [] := by
 cases h <;> simp
theorem ReadsL.refl : ∀ ds : List D, ReadsL ds ds
 | [] => .nil
 | d :: ds => .cons (.refl d) (.refl ds)
theorem ReadsL.repL {ds es : List D} (h : ReadsL ds es) {w : World} {A : Nat → Prop} {vs : List Value} (hr : RepL w A ds vs) : RepL w A es vs := by
 induction h generalizing vs with
 | nil => exact hr
 | cons h1 _ ih =>
  simp only [RepL] at hr ⊢
  obtain ⟨x, xs, rfl, k1, k2⟩ := hr
  exact ⟨x, xs, rfl, h1 _ _ _ k1, ih k2⟩
theorem ReadsL.repAt {ds es : List D} (h : ReadsL ds es) {w : World} {A : Nat → Prop} {ad : Addr} (hr : RepAt w A ds ad) : RepAt w A es ad := by
 induction h generalizing ad with
 | nil => exact hr
 | cons h1 _ ih =>
  simp only [RepAt] at hr ⊢
  obtain ⟨⟨u, k1, k2⟩, k3⟩ := hr
  exact ⟨⟨u, k1, h1 _ _ _ k2⟩, ih k3⟩
theorem ReadsL.agg {ds es : List D} (h : ReadsL ds es) : Reads (.agg ds) (.agg es) := fun w A u hr => by
 simp only [RepS] at hr ⊢
 obtain ⟨vs, rfl, hr⟩ := hr
 exact ⟨vs, rfl, h.repL hr⟩
theorem ReadsL.sh {ds es : List D} (h : ReadsL ds es) (n : Nat) : Reads (.sh n ds) (.sh n es) := fun w A u hr => by
 simp only [RepS] at hr ⊢
 obtain ⟨o, c, rfl, h1, h2, h3⟩ := hr
 exact ⟨o, c, rfl, h1, fun hne => h2 (hne.imp id fun hne e => hne (h.nil_iff.1 e)), h.repAt h3⟩
section
variable {P : Program} {w : World} {A : Nat → Prop} {β : Env} {base : Nat} {σ : St} {tmps : Array Value} {acts : List (Array Value)}
/-- Where the blocks handed over lie. -/
inductive Placed (w : World) (σ : St) (β : Env) : List Nat → List (Option Addr) → Prop
 | nil : Placed w σ β [] []
 | gap {id : Nat} {ids : List Nat} {bl : List (Option Addr)} : Placed w σ β ids bl → Placed w σ β (id :: ids) (none :: bl)
 | lies {id : Nat} {ids : List Nat} {bl : List (Option Addr)} {ad : Addr} {off : Nat} {b : Blk} : σ.bk id = some b → b.ro = false → β id = some ad → Placed w σ β ids bl → Placed w σ β (id :: ids) (some (plusOff ad off) :: bl)
theorem Placed.append {ids js : List Nat} {bl bm : List (Option Addr)} (h : Placed w σ β ids bl) (k : Placed w σ β js bm) : Placed w σ β (ids ++ js) (bl ++ bm) := by
 induction h with
 | nil => exact k
 | gap _ ih => exact .gap ih
 | lies h1 h2 h3 _ ih => exact .lies h1 h2 h3 ih
theorem Placed.mem {ids : List Nat} {bl : List (Option Addr)} (h : Placed w σ β ids bl) : ∀ a, some a ∈ bl → ∃ id ∈ ids, ∃ b ad, σ.bk id = some b ∧ b.ro = false ∧ β id = some ad ∧ a.block = ad.block := by
 induction h with
 | nil => intro a h; cases h
 | gap _ ih =>
  intro a h
  simp at h
  obtain ⟨id, h1, h2⟩ := ih a h
  exact ⟨id, by simp [h1], h2⟩
 | @lies id ids bl ad off b h1 h2 h3 _ ih =>
  intro a h
  simp only [List.mem_cons, Option.some.injEq] at h
  rcases h with rfl | h
  ·exact ⟨id, by simp, b, ad, h1, h2, h3, rfl⟩
  ·obtain ⟨i, k1, k2⟩ := ih a h
   exact ⟨i, by simp [k1], k2⟩
theorem Placed.apart (hrel : Rel w A β base σ tmps acts) {ids : List Nat} {bl : List (Option Addr)} (h : Placed w σ β ids bl) (hn : ids.Nodup) : bl.Pairwise fun x y => ∀ a b, x = some a → y = some b → a.block ≠ b.block := by
 induction h with
 | nil => exact .nil
 | gap _ ih => rw [List.nodup_cons] at hn; exact .cons (fun _ _ a b h => by cases h) (ih hn.2)
 | @lies id ids bl ad off b h1 h2 h3 ht ih =>
  rw [List.nodup_cons] at hn
  refine .cons (fun y hy a b' ha hb' => ?_) (ih hn.2)
  cases ha
  subst hb'
  obtain ⟨i, k1, b2, ad2, k2, k3, k4, k5⟩ := ht.mem b' hy
  rw [k5]
  intro e
  have : id = i := hrel.inj id i ad ad2 (by simp [h1]) (by simp [k2]) h3 k4 e
  exact hn.1 (this ▸ k1)
mutual
theorem fin_spec (hrel : Rel w A β base σ tmps acts) {A' : Nat → Prop} (hA : ∀ k, A k → A' k) : ∀ (d e : D) (sh own : List Nat) (u : Value), fin σ.bk d = some (e, sh, own) → (∀ i ∈ sh, Sees σ β A' i) → Rep w A β d u →
  ∃ bl, RepO w A' e u bl ∧ Placed w σ β own bl
 | .undef, e, sh, own, u, h, _, hr => by simp [fin] at h; obtain ⟨rfl, rfl, rfl⟩ := h; exact ⟨[], by simp [RepO, RepS], .nil⟩
 | .v x, e, sh, own, u, h, _, hr => by simp [fin] at h; obtain ⟨rfl, rfl, rfl⟩ := h; simp only [Rep, RepS] at hr; exact ⟨[], by simp [RepO, RepS, hr], .nil⟩
 | .sh n cs, e, sh, own, u, h, _, hr => by
  simp [fin] at h; obtain ⟨rfl, rfl, rfl⟩ := h
  simp only [Rep] at hr
  exact ⟨[], by simp only [RepO]; exact ⟨RepS.mono (fun _ _ => rfl) hA _ _ hr, trivial⟩, .nil⟩
 | .emp, e, sh, own, u, h, _, hr => by
  simp [fin] at h; obtain ⟨rfl, rfl, rfl⟩ := h
  simp only [Rep] at hr
  exact ⟨[], by simp only [RepO]; exact ⟨RepS.mono (fun _ _ => rfl) hA _ _ hr, trivial⟩, .nil⟩
 | .rc cs, e, sh, own, u, h, _, hr => by
  simp [fin] at h; obtain ⟨rfl, rfl, rfl⟩ := h
  simp only [Rep] at hr
  exact ⟨[], by simp only [RepO]; exact ⟨RepS.mono (fun _ _ => rfl) hA _ _ hr, trivial⟩, .nil⟩
 | .sl id off n sz, e, sh, own, u, h, hk, hr => by
  simp only [fin] at h
  split at h
  ·cases h
  next b hb =>
   split at h
   next hl =>
    split at h
    ·cases h
    next cs ids h1 =>
     simp at h; obtain ⟨rfl, rfl, rfl⟩ := h
     simp only [Rep] at hr
     obtain ⟨o, c, rfl, hr⟩ := hr
     have hcl := shareAll_length _ _ _ h1
     rcases hr with ⟨hn0, rfl⟩ | ⟨hnr, ad, hβ, rfl, cc, T, fz, hob, hroom⟩
     ·obtain rfl : n = 0 := by omega
      have : cs = [] := List.length_eq_zero_iff.1 (by rw [hcl]; simp)
      subst this
      exact ⟨[none], by simp only [RepO]; exact ⟨o, 0, rfl, .inl (by simp)⟩, .gap .nil⟩
     ·rcases hrel.blk id b hb with ⟨h2, _⟩ | ⟨ad', h2, h3⟩
      ·rw [hβ] at h2; cases h2
      ·rw [hβ] at h2; cases h2
       obtain ⟨c2, T2, hob2⟩ := h3.obj
       rw [hob2] at hob; cases hob
       refine ⟨[some (plusOff ad off)], ?_, .lies hb hl.2 hβ .nil⟩
       simp only [RepO]
       refine ⟨_, c, rfl, .inr ⟨by omega, _, rfl, rfl, rfl, ⟨_, _, hob2, by simpa using hroom, by simp; omega⟩, ?_⟩⟩
       exact shareAll_at (ok := fun i => Sees σ β A' i) (fun d e ids u h1 h2 h3 => share_spec hrel hA depth d e ids u h1 h2 h3) _ _ _ _ h1 hk ((h3.cells.drop h3.spot off).take rfl _)
   ·cases h
 | .agg cs, e, sh, own, u, h, hk, hr => by
  simp only [fin] at h
  split at h
  ·cases h
  next ds i j h1 =>
   simp at h; obtain ⟨rfl, rfl, rfl⟩ := h
   simp only [Rep] at hr
   obtain ⟨vs, rfl, hr⟩ := hr
   obtain ⟨bl, k1, k2⟩ := finL_spec hrel hA cs ds i j vs h1 hk hr
   exact ⟨bl, by simp only [RepO]; exact ⟨vs, rfl, k1⟩, k2⟩
 | .tup cs, e, sh, own, u, h, hk, hr => by
  simp only [fin] at h
  split at h
  ·cases h
  next ds i j h1 =>
   simp at h; obtain ⟨rfl, rfl, rfl⟩ := h
   simp only [Rep] at hr
   obtain ⟨vs, rfl, hr⟩ := hr
   obtain ⟨bl, k1, k2⟩ := finL_spec hrel hA cs ds i j vs h1 hk hr
   exact ⟨bl, by simp only [RepO]; exact ⟨vs, rfl, k1⟩, k2⟩
 | .ow _ _ _, e, sh, own, u, h, _, _ => by simp [fin] at h
 | .ptr _ _, e, sh, own, u, h, _, _ => by simp [fin] at h
 | .pel _ _ _ _, e, sh, own, u, h, _, _ => by simp [fin] at h
 | .oc _, e, sh, own, u, h, _, _ => by simp [fin] at h
 | .shp _ _, e, sh, own, u, h, _, _ => by simp [fin] at h
 | .fn _ _, e, sh, own, u, h, _, _ => by simp [fin] at h
theorem finL_spec (hrel : Rel w A β base σ tmps acts) {A' : Nat → Prop} (hA : ∀ k, A k → A' k) : ∀ (ds es : List D) (sh own : List Nat) (vs : List Value), fin.finL σ.bk ds = some (es, sh, own) → (∀ i ∈ sh, Sees σ β A' i) → RepLs w A β ds vs →
  ∃ bl, RepOs w A' es vs bl ∧ Placed w σ β own bl
 | [], es, sh, own, vs, h, _, hr => by
  simp [fin.finL] at h; obtain ⟨rfl, rfl, rfl⟩ := h
  simp [RepLs] at hr
  exact ⟨[], by simp [RepOs, hr], .nil⟩
 | d :: ds, es, sh, own, vs, h, hk, hr => by
  simp only [fin.finL] at h
  split at h
  next e i j es' is js h1 h2 =>
   simp at h; obtain ⟨rfl, rfl, rfl⟩ := h
   simp only [RepLs] at hr
   obtain ⟨x, xs, rfl, r1, r2⟩ := hr
   obtain ⟨b1, k1, k2⟩ := fin_spec hrel hA d e i j x h1 (fun z hz => hk z (by simp [hz])) r1
   obtain ⟨b2, k3, k4⟩ := finL_spec hrel hA ds es' is js xs h2 (fun z hz => hk z (by simp [hz])) r2
   exact ⟨b1 ++ b2, by simp only [RepOs]; exact ⟨x, xs, b1, b2, rfl, rfl, k1, k3⟩, k2.append k4⟩
  ·cases h
end
theorem RepL.repOs {A' : Nat → Prop} : ∀ (cs : List D) (vs : List Value), (∀ d ∈ cs, ∀ u, RepS w A' d u → RepO w A' d u []) → RepL w A' cs vs → RepOs w A' cs vs []
 | [], vs, _, h => by simp only [RepL] at h; simp [RepOs, h]
 | d :: ds, vs, hd, h => by
  simp only [RepL] at h
  obtain ⟨x, xs, rfl, h1, h2⟩ := h
  simp only [RepOs]
  exact ⟨x, xs, [], [], rfl, rfl, hd d (by simp) x h1, RepL.repOs ds xs (fun e he => hd e (by simp [he])) h2⟩
mutual
theorem RepS.repO {A' : Nat → Prop} : ∀ (d : D) (u : Value), RepS w A' d u → RepO w A' d u []
 | .undef, _, h => by simp only [RepO]; exact ⟨h, trivial⟩
 | .v _, _, h => by simp only [RepO]; exact ⟨h, trivial⟩
 | .sh _ _, _, h => by simp only [RepO]; exact ⟨h, trivial⟩
 | .shp _ _, _, h => by simp only [RepO]; exact ⟨h, trivial⟩
 | .rc _, _, h => by simp only [RepO]; exact ⟨h, trivial⟩
 | .oc _, _, h => by simp [RepS] at h
 | .pel _ _ _ _, _, h => by simp [RepS] at h
 | .emp, _, h => by simp only [RepO]; exact ⟨h, trivial⟩
 | .fn _ _, _, h => by simp only [RepO]; exact ⟨h, trivial⟩
 | .ow _ _ _, _, h => by simp [RepS] at h
 | .sl _ _ _ _, _, h => by simp [RepS] at h
 | .ptr _ _, _, h => by simp [RepS] at h
 | .agg cs, u, h => by
  simp only [RepS] at h
  obtain ⟨vs, rfl, h⟩ := h
  simp only [RepO]; exact ⟨vs, rfl, RepL.repO cs vs h⟩
 | .tup cs, u, h => by
  simp only [RepS] at h
  obtain ⟨vs, rfl, h⟩ := h
  simp only [RepO]; exact ⟨vs, rfl, RepL.repO cs vs h⟩
theorem RepL.repO {A' : Nat → Prop} : ∀ (cs : List D) (vs : List Value), RepL w A' cs vs → RepOs w A' cs vs []
 | [], vs, h => by simp only [RepL] at h; simp [RepOs, h]
 | d :: ds, vs, h => by
  simp only [RepL] at h
  obtain ⟨x, xs, rfl, h1, h2⟩ := h
  simp only [RepOs]
  exact ⟨x, xs, [], [], rfl, rfl, RepS.repO d x h1, RepL.repO ds xs h2⟩
end
/-- How a result is told: own slices handed over; or all shared. -/
inductive Fins (bk : Nat → Option Blk) (d e : D) : Prop
 | own {sh own : List Nat} : fin bk d = some (e, sh, own) → own.Nodup → (own.all fun i => !sh.contains i) = true → Fins bk d e
 | shared {sh : List Nat} {e0 : D} : share bk depth d = some (e0, sh) → Reads e0 e → Fins bk d e
 | sharedT {sh : List Nat} {cs ds es : List D} : d = .tup cs → shareAll (share bk depth) cs = some (ds, sh) → ReadsL ds es → e = .tup es → Fins bk d e
/-- The end of a function. -/
theorem finish_spec (hrel : Rel w A β base σ tmps acts) {d e : D} {u : Value} (h : Fins σ.bk d e) (hr : Rep w A β d u) :
  ∃ A' bl, RepO w A' e u bl ∧ Fresh w A' base bl ∧ (∀ k, A k → A' k) ∧ (∀ k, A' k → k < w.heap.size) ∧ (∀ k, A' k → k < base → A k) := by
 have main : ∀ (sh : List Nat), ∃ A' : Nat → Prop, (∀ k, A k → A' k) ∧ (∀ i ∈ sh, Sees σ β A' i) ∧ (∀ k, A' k → k < w.heap.size) ∧ (∀ k, A' k → k < base → A k) ∧ ∀ i b ad, i ∉ sh → σ.bk i = some b → b.ro = false → β i = some ad → ¬ A' ad.block := by
  intro sh
  refine ⟨fun k => A k ∨ ∃ i ∈ sh, ∃ b ad, σ.bk i = some b ∧ β i = some ad ∧ ad.block = k, fun k h => .inl h, fun i hi b ad hb ha => .inr ⟨i, hi, b, ad, hb, ha, rfl⟩, ?_, ?_, ?_⟩
  ·rintro k (hk | ⟨i, _, b, ad, hb, ha, rfl⟩)
   ·exact hrel.low k hk
   ·exact blk_lt hrel hb ha
  ·rintro k (hk | ⟨i, _, b, ad, hb, ha, rfl⟩) hlt
   ·exact hk
   ·rcases hrel.blk i b hb with ⟨h1, _⟩ | ⟨ad', h1, h2⟩
    ·rw [ha] at h1; cases h1
    ·rw [ha] at h1; cases h1
     have := h2.base
     omega
  ·rintro i b ad hi hb hro ha (hk | ⟨j, hj, b', ad', hb', ha', he⟩)
   ·rcases hrel.blk i b hb with ⟨h1, _⟩ | ⟨ad2, h1, h2⟩
    ·rw [ha] at h1; cases h1
    ·rw [ha] at h1; cases h1
     exact h2.own hro hk
   ·exact hi (hrel.inj j i ad' ad (by simp [hb']) (by simp [hb]) ha' ha he ▸ hj)
 cases h with
 | shared h1 hrd =>
  rename_i sh e0
  obtain ⟨A', k1, k2, k3, k4, _⟩ := main sh
  exact ⟨A', [], RepS.repO _ _ (hrd _ _ _ (share_spec hrel k1 depth _ _ _ _ h1 k2 hr)), ⟨(fun ad h => by cases h), .nil⟩, k1, k3, k4⟩
 | sharedT hd h1 hrd he =>
  rename_i sh cs ds es
  subst hd he
  obtain ⟨A', k1, k2, k3, k4, _⟩ := main sh
  simp only [Rep] at hr
  obtain ⟨vs, rfl, hr⟩ := hr
  refine ⟨A', [], ?_, ⟨(fun ad h => by cases h), .nil⟩, k1, k3, k4⟩
  simp only [RepO]
  exact ⟨vs, rfl, RepL.repO _ _ (hrd.repL (shareAll_spec (ok := fun i => Sees σ β A' i) (fun d e ids u h1 h2 h3 => share_spec hrel k1 depth d e ids u h1 h2 h3) cs ds sh vs h1 k2 hr))⟩
 | own h1 hn ha =>
  rename_i sh own
  obtain ⟨A', k1, k2, k3, k4, k5⟩ := main sh
  obtain ⟨bl, r1, r2⟩ := fin_spec hrel k1 d e sh own u h1 k2 hr
  refine ⟨A', bl, r1, ⟨fun ad had => ?_, r2.apart hrel hn⟩, k1, k3, k4⟩
  obtain ⟨id, m1, b, a2, m2, m3, m4, m5⟩ := r2.mem ad had
  have hns : id ∉ sh := by
   have := List.all_eq_true.1 ha id m1
   simpa using this
  rcases hrel.blk id b m2 with ⟨q1, _⟩ | ⟨a3, q1, q2⟩
  ·rw [m4] at q1; cases q1
  ·rw [m4] at q1; cases q1
   rw [m5]
   exact ⟨q2.base, blk_lt hrel m2 m4, k5 id b a2 hns m2 m3 m4⟩
/-- The state in which a function begins. -/
def St.start (args : List D) (nt : Nat) : St := { (St.enter { fr := { nt := 0, tm := fun _ => .undef }, stk := [], bk := fun _ => none } args nt) with stk := [] }
theorem start_rel {args : List D} {vs : List Value} (hargs : RepL w A args vs) (low : ∀ k, A k → k < w.heap.size) (glo : GloOK w A) (nt : Nat) :
  Rel w A (fun _ => none) w.heap.size (St.start args nt) (vs.toArray ++ Array.replicate (nt - vs.toArray.size) undef) [] := by
 have h0 : Rel w A (fun _ => none) w.heap.size { fr := { nt := 0, tm := fun _ => .undef }, stk := [], bk := fun _ => none } #[] [] :=
  ⟨⟨rfl, fun t => by simp [Rep, RepS]⟩, .nil, (fun i b h => by cases h), (fun i j a b h => absurd rfl h), low, Nat.le_refl _, glo, trivial⟩
 have h1 := enter_rel h0 (RepL.repLs args vs hargs) nt
 exact ⟨h1.fr, .nil, h1.blk, h1.inj, h1.low, h1.top, h1.glo, trivial⟩
/-- A FUNCTION IS WHAT ITS BODY DOES. -/
theorem calls_of_runs {F : FuncId → List D → D → Prop} (hF : ∀ f as res, F f as res → CallsD P f as res) {f : FuncId} {fn : Func} {c : Code} (hb : bodyOf P f = some (fn, c)) {args : List D} {σ' : St} {e : Ex} {ds : List D} {res : D}
  (hr : Runs P F (.code c) (St.start args fn.ntmps) e σ') (he : e = .normal ∨ e = .ret) (hres : resD P σ' fn.results.toList = some ds) (hfin : Fins σ'.bk (resOut ds) res) : CallsD P f args res := by
 intro w A vs hargs low glo
 obtain ⟨hfn, hbody, _⟩ := body_spec hb
 have hs : Sound P F (.code c) (St.start args fn.ntmps) e σ' := runs_sound hF hr
 refine (callsIn_wide (n := 0)).1 (callsIn_of_wp_marks (F := FW none) hfn hbody trivial (hs none (.inl rfl) w A _ w.heap.size { tmps := _, defers := [] } [] _ (start_rel hargs low glo fn.ntmps) ?_))
 intro a' w1 A' β' hd hrel1 ht1
 refine bodyEnd he (Nat.le_refl _) low hd rfl hrel1 ht1 (fun w' hrel ht => ?_)
 obtain ⟨v, hv, hrep⟩ := results_run hrel hres
 obtain ⟨A2, bl, k1, k2, k3, k4, k5⟩ := finish_spec hrel hfin hrep
 exact ⟨v, hv, v, A2, bl, rfl, k1, k2, fun k hk => k3 k (ht.grows k hk), k4, fun k hk hlt => ht.old k (k5 k hk hlt) hlt, ht.below⟩
end
end Go.Dam
end

section
namespace Go.Dam
open Go Go.RowKit
variable [Glo]
/-! ### The plan of a region, found by looking -/
/-- The names of blocks that an operation makes. -/
def site (dep : Nat) (dst : Option Tmp) : Nat := (dep * 4096 + dst.getD 0) * 32
def maskAdd (acc : List Nat) : List Edge → Nat → Nat
 | [], s => s
 | e :: es, s => maskAdd acc es (bif Region.binds .any e then Nat.lor (Nat.lor s (2 ^ e.on)) (acc.getD e.on 0) else s)
def masksGo : List Oper → List Nat → List Nat
 | [], acc => acc
 | o :: l, acc => masksGo l (acc ++ [maskAdd acc o.after.toList 0])
def masks (R : Array Oper) : List Nat := masksGo R.toList []
def ancB (R : Array Oper) (i k : Nat) : Bool := Nat.testBit ((masks R).getD k 0) i
theorem maskAdd_spec {acc : List Nat} {i : Nat} : ∀ {es : List Edge} {s : Nat}, Nat.testBit (maskAdd acc es s) i = true → Nat.testBit s i = true ∨ ∃ e ∈ es, Region.binds .any e = true ∧ (i = e.on ∨ Nat.testBit (acc.getD e.on 0) i = true)
 | [], s, h => .inl h
 | e :: es, s, h => by
  simp only [maskAdd] at h
  rcases maskAdd_spec h with h | ⟨e', h1, h2, h3⟩
  ·cases hb : Region.binds .any e with
   | false => rw [hb] at h; exact .inl h
   | true =>
    rw [hb, cond_true] at h
    have h : Nat.testBit ((s ||| 2 ^ e.on) ||| acc.getD e.on 0) i = true := h
    rw [Nat.testBit_or, Nat.testBit_or, Bool.or_eq_true, Bool.or_eq_true] at h
    rcases h with (h | h) | h
    ·exact .inl h
    ·rw [Nat.testBit_two_pow] at h
     exact .inr ⟨e, by simp, hb, .inl (by simpa using (of_decide_eq_true h).symm)⟩
    ·exact .inr ⟨e, by simp, hb, .inr h⟩
  ·exact .inr ⟨e', by simp [h1], h2, h3⟩
theorem masksGo_spec {R : Array Oper} : ∀ (l : List Oper) (acc : List Nat), (∀ j, l[j]? = R[acc.length + j]?) → (∀ k i, Nat.testBit (acc.getD k 0) i = true → Anc R i k) → ∀ k i, Nat.testBit ((masksGo l acc).getD k 0) i = true → Anc R i k
 | [], acc, _, h => h
 | o :: l, acc, hl, h => by
  simp only [masksGo]
  refine masksGo_spec l _ (fun j => by have := hl (j + 1); simpa [Nat.add_assoc, Nat.add_comm 1 j] using this) fun k i hk => ?_
  have ho : R[acc.length]? = some o := by simpa using (hl 0).symm
  rcases Nat.lt_trichotomy k acc.length with hlt | rfl | hgt
  ·rw [List.getD_eq_getElem?_getD, List.getElem?_append_left hlt, ← List.getD_eq_getElem?_getD] at hk
   exact h k i hk
  ·rw [List.getD_eq_getElem?_getD, List.getElem?_append_right (Nat.le_refl _)] at hk
   simp only [Nat.sub_self, List.getElem?_cons_zero, Option.getD_some] at hk
   rcases maskAdd_spec hk with hk | ⟨e, h1, h2, h3⟩
   ·simp at hk
   ·rcases h3 with rfl | h3
    ·exact .edge ho (by simpa using h1) h2
    ·exact .trans ho (by simpa using h1) h2 (h _ _ h3)
  ·rw [List.getD_eq_getElem?_getD, List.getElem?_append_right (by omega)] at hk
   have : ([maskAdd acc o.after.toList 0] : List Nat)[k - acc.length]? = none := by
    rw [List.getElem?_eq_none]; simp; omega
   rw [this] at hk
   simp at hk
theorem ancB_spec {R : Array Oper} {i k : Nat} (h : ancB R i k = true) : Anc R i k :=
 masksGo_spec R.toList [] (fun j => by simp) (fun k i h => by simp at h) k i h
/-- Does it make blocks? -/
def maker : Op → Bool
 | .alloc _ | .box _ _ | .buildSlice _ _ _ | .makeSlice _ _ _ | .call ⟨.value _, _, _⟩ | .call ⟨.builtin .append, _, _⟩ => true
 | _ => false
def tB (R : Array Oper) (k : Nat) : Bool := (List.range R.size).all fun j => bif Nat.blt j k then ancB R j k else bif Nat.beq j k then true else ancB R k j
def makesAt (R : Array Oper) (k : Nat) : Bool := match R[k]? with
 | none => false
 | some o => maker o.op && !tB R k
def dstAt (R : Array Oper) (k : Nat) : Nat := match R[k]? with
 | none => 0
 | some o => o.dst.getD 0
def wB (R : Array Oper) (k l : Nat) : Bool := !(Nat.beq l k) && !(ancB R l k)
def kindAt (P : Program) (R : Array Oper) (k : Nat) : Nat := match R[k]? with | some o => kindOf P o.op | none => 0
def sL (P : Program) (R : Array Oper) (k : Nat) : List Nat := bif Nat.beq (kindAt P R k) 0 then [] else (List.range R.size).filter fun j => Nat.blt k j && (!(ancB R k j) && Nat.beq (kindAt P R j) 2)
def uB (P : Program) (R : Array Oper) (j : Nat) : Bool := (List.range R.size).any fun k => (sL P R k).contains j
/-- Does it append to a block that is there? -/
def growAt (R : Array Oper) (tgt : List Nat) (k : Nat) : Bool := !(Nat.beq (tgt.getD k 0) 0) && (match R[k]? with
 | some o => match o.op with
  | .call ⟨.builtin .append, _, _⟩ => true
  | _ => false
 | none => false)
def gL (P : Program) (R : Array Oper) (tgt : List Nat) (k : Nat) : List Nat := bif Nat.beq (kindAt P R k) 0 then [] else (List.range R.size).filter fun j => growAt R tgt j && (!(Nat.beq j k) && (!(ancB R k j) && !(ancB R j k)))
theorem gL_nil (P : Program) (R : Array Oper) (k : Nat) : gL P R [] k = [] := by
 unfold gL
 cases Nat.beq (kindAt P R k) 0
 ·rw [cond_false, List.filter_eq_nil_iff]
  intro j _; simp [growAt]
 ·rfl
def planOf (P : Program) (R : Array Oper) (dep : Nat) (tgt : List Nat) : Plan where
 zs := fun k => bif makesAt R k then List.range' ((dep * 4096 + dstAt R k) * 32) 32 else []
 W := wB R
 T := tB R
 S := fun k => sL P R k ++ gL P R tgt k
 U := uB P R
 tgt := fun k => tgt.getD k 0
 Gr := growAt R tgt
/-! What is looked at once for a region. -/
def lowAt (k : Nat) (o : Oper) : Bool := o.after.toList.all fun e => !(Region.binds .any e) || Nat.blt e.on k
def pairAt (P : Program) (R : Array Oper) (p : Plan) (j : Nat) (oj : Oper) : Nat → List Oper → Bool
 | _, [] => true
 | i, oi :: l => (ancB R i j || pairB P R p i j oi oj) && pairAt P R p j oj (i + 1) l
def pairsB (P : Program) (R : Array Oper) (p : Plan) : Nat → List Oper → Bool
 | _, [] => true
 | j, oj :: l => lowAt j oj && (pairAt P R p j oj 0 (R.toList.take j) && pairsB P R p (j + 1) l)
def disB (R : Array Oper) : Bool := (List.range R.size).all fun i => !(makesAt R i) || (List.range R.size).all fun j => Nat.beq i j || (!(makesAt R j) || !(Nat.beq (dstAt R i) (dstAt R j)))
/-- May the region be taken in the order of the text? -/
def calmB (P : Program) (R : Array Oper) : Bool := pairsB P R (planOf P R 0 []) 0 R.toList && disB R
section
variable {P : Program} {R : Array Oper}
theorem pairAt_spec {p : Plan} {j : Nat} {oj : Oper} : ∀ {l : List Oper} {i : Nat}, pairAt P R p j oj i l = true → ∀ k o, l[k]? = some o → ancB R (i + k) j = true ∨ pairB P R p (i + k) j o oj = true
 | [], _, _, k, o, h => by simp at h
 | oi :: l, i, h, k, o, hk => by
  simp only [pairAt, Bool.and_eq_true, Bool.or_eq_true] at h
  cases k with
  | zero => simp at hk; subst hk; exact h.1
  | succ k =>
   have := pairAt_spec h.2 k o (by simpa using hk)
   rwa [show i + 1 + k = i + (k + 1) by omega] at this
theorem pairsB_spec {p : Plan} : ∀ {l : List Oper} {j : Nat}, pairsB P R p j l = true → ∀ k o, l[k]? = some o → lowAt (j + k) o = true ∧ pairAt P R p (j + k) o 0 (R.toList.take (j + k)) = true
 | [], _, _, k, o, h => by simp at h
 | oj :: l, j, h, k, o, hk => by
  simp only [pairsB, Bool.and_eq_true] at h
  cases k with
  | zero => simp at hk; subst hk; exact ⟨h.1, h.2.1⟩
  | succ k =>
   have := pairsB_spec h.2.2 k o (by simpa using hk)
   rwa [show j + 1 + k = j + (k + 1) by omega] at this
theorem makes_lt {k : Nat} (h : makesAt R k = true) : k < R.size := by
 unfold makesAt at h
 split at h
 ·cases h
 next o ho => exact (Array.getElem?_eq_some_iff.1 ho).1
theorem plan_ok (dep : Nat) (tgt : List Nat) (h : calmB P R = true) : PlanOK P R (planOf P R dep tgt) := by
 simp only [calmB, Bool.and_eq_true] at h
 obtain ⟨hp, hd⟩ := h
 refine ⟨?_, ?_, ?_, ?_, ?_⟩
 ·intro k o hk e he hb
  have := (pairsB_spec hp k o (by simpa using hk)).1
  simp only [lowAt, Nat.zero_add, List.all_eq_true] at this
  have := this e (by simpa using he)
  simpa [hb, Nat.blt_eq] using this
 ·intro i j oi oj hij hi hj
  have := (pairsB_spec hp j oj (by simpa using hj)).2
  simp only [Nat.zero_add] at this
  have h2 := pairAt_spec this i oi (by rw [List.getElem?_take_of_lt hij]; simpa using hi)
  simp only [Nat.zero_add] at h2
  rcases h2 with h2 | h2
  ·exact .inl (ancB_spec h2)
  ·right
   have hc : (sL P R i ++ gL P R [] i).contains j = true → (sL P R i ++ gL P R tgt i).contains j = true := fun h => by
    rw [gL_nil, List.append_nil] at h
    simp only [List.contains_iff_mem, List.mem_append] at h ⊢
    exact .inl h
   simp only [planOf, pairB, Bool.and_eq_true, Bool.or_eq_true] at h2 ⊢
   obtain ⟨b1, b2, b3, b4, b5, b6⟩ := h2
   refine ⟨b1, b2, b3, b4, b5, ?_⟩
   rcases b6 with b | b | ⟨b, c, d⟩ | b
   ·exact .inl b
   ·exact .inr (.inl b)
   ·exact .inr (.inr (.inl ⟨b, hc c, d⟩))
   ·exact .inr (.inr (.inr b))
 ·intro i j hij id hi hj
  simp only [planOf] at hi hj
  cases mi : makesAt R i with
  | false => rw [mi, cond_false] at hi; cases hi
  | true =>
   cases mj : makesAt R j with
   | false => rw [mj, cond_false] at hj; cases hj
   | true =>
    rw [mi, cond_true, List.mem_range'_1] at hi; rw [mj, cond_true, List.mem_range'_1] at hj
    simp only [disB, List.all_eq_true, List.mem_range, Bool.or_eq_true, Bool.not_eq_true'] at hd
    have h1 := hd i (makes_lt mi)
    rw [mi] at h1
    rcases h1 with h1 | h1
    ·cases h1
    ·have h2 := h1 j (makes_lt mj)
     rw [mj] at h2
     rcases h2 with h2 | h2 | h2
     ·exact hij (Nat.eq_of_beq_eq_true h2)
     ·cases h2
     ·have : dstAt R i ≠ dstAt R j := fun e => by rw [e, Nat.beq_refl] at h2; cases h2
      omega
 ·intro k l hne hna
  simp only [planOf, wB, Bool.and_eq_true, Bool.not_eq_true']
  refine ⟨Bool.eq_false_iff.2 fun e => hne (Nat.eq_of_beq_eq_true e), Bool.eq_false_iff.2 fun e => hna (ancB_spec e)⟩
 ·intro i j oi hne hi hj ha hb hg
  by_cases h0 : kindOf P oi.op = 0
  ·exact .inl h0
  right
  have hk : Nat.beq (kindAt P R i) 0 = false := by
   rw [Bool.eq_false_iff]; intro e
   have := Nat.eq_of_beq_eq_true e
   simp only [kindAt, hi] at this; exact h0 this
  refine List.mem_append.2 (.inr ?_)
  unfold gL
  rw [hk, cond_false, List.mem_filter, List.mem_range]
  refine ⟨hj, ?_⟩
  simp only [Bool.and_eq_true, Bool.not_eq_true']
  exact ⟨hg, Bool.eq_false_iff.2 fun e => hne (Nat.eq_of_beq_eq_true e).symm, Bool.eq_false_iff.2 fun e => ha (ancB_spec e), Bool.eq_false_iff.2 fun e => hb (ancB_spec e)⟩
end
end Go.Dam
end

section
namespace Go.Dam
open Go Go.RowKit
variable [Glo]
noncomputable section
theorem flatMap_get (g : Nat → List D) (m : Nat) (hg : ∀ i, (g i).length = m) : ∀ (n i j : Nat), i < n → j < m → ((List.range n).flatMap g)[i * m + j]? = (g i)[j]?
 | 0, i, j, h, _ => by omega
 | n + 1, i, j, h, hj => by
  have hl : ∀ n, ((List.range n).flatMap g).length = n * m := fun n => by
   rw [List.length_flatMap]; simp only [hg]; simp [List.map_const']
  rw [List.range_succ, List.flatMap_append]
  simp only [List.flatMap_cons, List.flatMap_nil, List.append_nil]
  by_cases hi : i < n
  ·have : i * m + j < n * m := by
    have : (i + 1) * m ≤ n * m := Nat.mul_le_mul_right m hi
    rw [Nat.add_mul] at this; omega
   rw [List.getElem?_append_left (by rw [hl]; exact this)]
   exact flatMap_get g m hg n i j hi hj
  ·obtain rfl : i = n := by omega
   rw [List.getElem?_append_right (by rw [hl]; omega), hl]
   congr 1; omega
theorem rowCells0_get {cols : List Col0} {i j : Nat} {c : Col0} (hi : i < rowLen0 cols) (hc : cols[j]? = some c) : (rowCells0 cols)[i * cols.length + j]? = some (.v (c.val i)) := by
 have hj : j < cols.length := (List.getElem?_eq_some_iff.1 hc).1
 unfold rowCells0 rowCells
 rw [rowLen_up]
 rw [flatMap_get _ cols.length (fun i => by simp) _ _ _ hi hj]
 simp only [List.getElem?_map, hc, Option.map_some]
 cases c <;> rfl
theorem rowCells0_length (cols : List Col0) : (rowCells0 cols).length = rowLen0 cols * cols.length := by
 unfold rowCells0; rw [rowCells_length, rowLen_up, List.length_map]
/-! ### Columns out of cells -/
theorem rc0_get {cols : List Col0} (m : Nat) : (rowCells0 cols)[m]? = if m < rowLen0 cols * cols.length then (cols[m % cols.length]?).map (fun c => .v (c.val (m / cols.length))) else none := by
 split
 next h =>
  have hl : 0 < cols.length := by
   rcases Nat.eq_zero_or_pos cols.length with e | e
   ·rw [e] at h; simp at h
   ·exact e
  have hm : m % cols.length < cols.length := Nat.mod_lt _ hl
  have hd : m / cols.length < rowLen0 cols := by
   rw [Nat.div_lt_iff_lt_mul hl]; exact h
  have hc : cols[m % cols.length]? = some cols[m % cols.length] := List.getElem?_eq_getElem hm
  have := rowCells0_get hd hc
  rw [Nat.mul_comm, Nat.div_add_mod] at this
  rw [this, hc]; rfl
 next h => exact List.getElem?_eq_none (by rw [rowCells0_length]; omega)
/-- A column out of cells, of the kind that another one has. -/
def Col0.of : Col0 → List D → Option Col0
 | .ints k _, [] => some (.ints k [])
 | .ints k ys, .v (.int k' n) :: ds => match Col0.of (.ints k ys) ds with
  | some (.ints k2 xs) => if k' = k ∧ k2 = k then some (.ints k (n :: xs)) else none
  | _ => none
 | .bools _, [] => some (.bools [])
 | .bools ys, .v (.bool b) :: ds => match Col0.of (.bools ys) ds with
  | some (.bools xs) => some (.bools (b :: xs))
  | _ => none
 | _, _ => none
theorem Col0.of_spec : ∀ {ds : List D} {c c' : Col0}, c.of ds = some c' → c'.len = ds.length ∧ ∀ k, k < ds.length → ds[k]? = some (D.v (c'.val k))
 | [], c, c', h => by
  cases c <;> simp [Col0.of] at h <;> subst h <;> exact ⟨rfl, fun k hk => by simp at hk⟩
 | d :: ds, c, c', h => by
  cases c with
  | ints k ys =>
   unfold Col0.of at h
   split at h
   ·simp_all
   next k1 ys1 k' n ds1 e1 e2 =>
    simp at e1 e2
    obtain ⟨rfl, rfl⟩ := e1
    obtain ⟨rfl, rfl⟩ := e2
    split at h
    next k2 xs hx =>
     split at h
     next ek =>
      obtain ⟨ek, ek2⟩ := ek
      simp at h; subst h; subst ek; subst ek2
      obtain ⟨a1, a2⟩ := Col0.of_spec hx
      refine ⟨by simp [Col0.len] at a1 ⊢; exact a1, fun m hm => ?_⟩
      cases m with
      | zero => rfl
      | succ m =>
       have := a2 m (by simpa using hm)
       simpa [Col0.val, List.getD_eq_getElem?_getD] using this
     ·cases h
    ·cases h
   ·simp_all
   ·simp_all
   ·cases h
  | bools ys =>
   unfold Col0.of at h
   split at h
   ·simp_all
   ·simp_all
   ·simp_all
   next ys1 b ds1 e1 e2 =>
    simp at e1 e2
    subst e1
    obtain ⟨rfl, rfl⟩ := e2
    split at h
    next xs hx =>
     simp at h; subst h
     obtain ⟨a1, a2⟩ := Col0.of_spec hx
     refine ⟨by simp [Col0.len] at a1 ⊢; exact a1, fun m hm => ?_⟩
     cases m with
     | zero => rfl
     | succ m =>
      have := a2 m (by simpa using hm)
      simpa [Col0.val, List.getD_eq_getElem?_getD] using this
    ·cases h
   ·cases h
theorem Col0.of_cells {cs : List D} {c c1 : Col0} (ho : c.of cs = some c1) : rowCells0 [c1] = cs := by
 obtain ⟨a1, a2⟩ := Col0.of_spec ho
 apply List.ext_getElem?
 intro k
 rw [rc0_get]
 have e1 : rowLen0 [c1] = cs.length := a1
 rw [e1]
 simp only [List.length_cons, List.length_nil, Nat.zero_add, Nat.mul_one, Nat.mod_one, Nat.div_one]
 by_cases hk : k < cs.length
 ·rw [if_pos hk, a2 k hk]; rfl
 ·rw [if_neg hk]; exact (List.getElem?_eq_none (by omega)).symm
end
end Go.Dam
end
