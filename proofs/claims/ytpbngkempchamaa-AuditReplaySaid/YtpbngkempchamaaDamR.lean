/- The engine, part R: an abstract machine for the program's functions, proved right against the model. No condition. -/
import Derived.Test.YtpbngkempchamaaDamQB
set_option linter.unusedSectionVars false
set_option linter.unusedVariables false
set_option linter.unusedSimpArgs false
namespace Go.Dam
open Go Go.RowKit
set_option linter.unusedSectionVars false
variable [Glo]
set_option linter.unusedSimpArgs false
set_option linter.unusedVariables false

section
variable {P : Program} {F : FuncId → List D → D → Prop}

def Sound (P : Program) (F : FuncId → List D → D → Prop) : Job → St → Ex → St → Prop
  | .code c, σ, e, σ' => ∀ (ro : Option Nat), (ro = none ∨ noRange c = true) → ∀ (w : World) (A : Nat → Prop) (β : Env) (base : Nat) (a : Act) (acts : List (Array Value)) (Q : Exit → Act → World → Prop), Rel w A β base σ a.tmps acts → Aft σ' base acts A a w (Q e.out) → c.wpIn (FW ro) 0 P Q a w
  | .rounds c, σ, e, σ' => ∀ (ro : Option Nat), (ro = none ∨ noRange c = true) → ∃ n, ∀ (w : World) (A : Nat → Prop) (β : Env) (base : Nat) (a : Act) (acts : List (Array Value)) (Q : Exit → Act → World → Prop), Rel w A β base σ a.tmps acts → Aft σ' base acts A a w (Q e.out) → Code.roundsIn (FW ro) 0 P c Q n a w
  | .ops R l, σ, _, σ' => ∀ (ro : Option Nat) (w : World) (A : Nat → Prop) (β : Env) (base : Nat) (a : Act) (acts : List (Array Value)) (Q : Exit → Act → World → Prop), Rel w A β base σ a.tmps acts → Aft σ' base acts A a w (Q .normal) → wpListIn (FW ro) 0 P R Q l a w
  | .draws R p k l, σ, _, σ' => QRun P F (SoundOp P R) R p k l σ σ'

theorem Exit.then_of_ne {e : Ex} (h : e ≠ .normal) (K : Act → World → Prop) (Q : Exit → Act → World → Prop) : Exit.then K Q e.out = Q e.out := by
  cases e <;> first | exact absurd rfl h | (funext a w; rfl)

theorem enter_rel {w : World} {A : Nat → Prop} {β : Env} {base : Nat} {σ : St} {tmps : Array Value} {acts : List (Array Value)} (h : Rel w A β base σ tmps acts) {args : List D} {vs : List Value} (hargs : RepLs w A β args vs) (nt : Nat) :
    Rel w A β base (σ.enter args nt) (vs.toArray ++ Array.replicate (nt - vs.toArray.size) undef) (tmps :: acts) where
  fr := by
    have hl := hargs.length
    refine ⟨by simp [St.enter, hl], fun t => ?_⟩
    simp only [St.enter]
    rcases Nat.lt_or_ge t args.length with ht | ht
    · have hlt : t < vs.length := by omega
      obtain ⟨u, h1, h2⟩ := hargs.get t _ (List.getElem?_eq_getElem ht)
      have e1 : (vs.toArray ++ Array.replicate (nt - vs.toArray.size) undef).getD t undef = u := by
        rw [Array.getD_eq_getD_getElem?, Array.getElem?_append_left (by simpa using hlt)]
        simp [h1]
      rw [e1, List.getD_eq_getElem?_getD, List.getElem?_append_left ht]
      simpa [ht] using h2
    · have e1 : (vs.toArray ++ Array.replicate (nt - vs.toArray.size) undef).getD t undef = undef := by
        rw [Array.getD_eq_getD_getElem?, Array.getElem?_append_right (by simp; omega)]
        cases hc : (Array.replicate (nt - vs.toArray.size) undef)[t - vs.toArray.size]? with
        | none => rfl
        | some y => rw [Array.getElem?_replicate] at hc; split at hc <;> simp at hc; simp [← hc]
      rw [e1, List.getD_eq_getElem?_getD, List.getElem?_append_right ht]
      cases hc : (List.replicate (nt - args.length) (D.v undef))[t - args.length]? with
      | none => simp [Rep, RepS]
      | some y => rw [List.getElem?_replicate] at hc; split at hc <;> simp at hc; simp [← hc, Rep, RepS]
  stk := .cons h.fr h.stk
  blk := h.blk
  inj := h.inj
  low := h.low
  top := h.top
  glo := h.glo
  lp := by
    show LoopRep w A β base σ.loop (tmps :: acts)
    cases hl : σ.loop with
    | none => trivial
    | some L =>
      have := h.lp
      rw [hl] at this
      obtain ⟨l, D, fn, ts, pre, post, h1, h2, h3⟩ := this
      exact ⟨l, D, fn, ts, tmps :: pre, post, h1, by rw [h2]; rfl, h3⟩

theorem QStep.mono {R : Array Oper} {O O' : Oper → St → St → Prop} {p : Plan} {k : Nat} {o : Oper} {σ σ' : St} (h : QStep P F O R p k o σ σ') (hO : ∀ o σ σ', O o σ σ' → O' o σ σ') : QStep P F O' R p k o σ σ' := by
  cases h with
  | skip h => exact .skip h
  | op h1 h2 h3 h4 h5 h6 h7 => exact .op h1 h2 h3 h4 h5 h6 h7
  | sto h1 h2 h3 h4 h5 h6 h7 => exact .sto h1 h2 h3 h4 h5 h6 h7
  | cpy h1 h2 h3 h4 h5 h6 => exact .cpy h1 h2 h3 h4 h5 h6
  | oth h1 h2 h3 => exact .oth h1 (hO _ _ _ h2) h3

theorem StkRep.length {w : World} {A : Nat → Prop} {β : Env} : ∀ {fs : List Fr} {as : List (Array Value)}, StkRep w A β fs as → fs.length = as.length
  | _, _, .nil => rfl
  | _, _, .cons _ t => by simp [StkRep.length t]

/-- An object that is no cells is turned, and is not what the state speaks of. -/
theorem Rel.putObj {w : World} {A : Nat → Prop} {β : Env} {base : Nat} {σ : St} {tmps : Array Value} {acts : List (Array Value)} (h : Rel w A β base σ tmps acts) {k : Nat} {o o' : Obj} (hk : w.heap[k]? = some o) (ho : isC o = false) (ha : ¬ A k)
    (hlp : LoopRep (w.putObj k o') A β base σ.loop acts) : Rel (w.putObj k o') A β base σ tmps acts := by
  have hne : ∀ b c T fz, w.heap[b]? = some (.cells c T fz) → b ≠ k := fun b c T fz hb e => by subst e; rw [hk] at hb; cases hb; cases ho
  refine h.carry ⟨fun j hj => World.putObj_heap_other (show j ≠ k from fun e => ha (by rw [← e]; exact hj)), fun b m ⟨c, T, fz, h1, h2⟩ => ⟨c, T, fz, by rw [World.putObj_heap_other (hne b c T fz h1)]; exact h1, h2⟩⟩ (fun _ h => h) (fun j hj => by simpa using h.low j hj) (by simpa using h.top) (fun _ _ _ => rfl) (fun _ _ _ _ _ => rfl) (fun i b hb => ⟨rfl, fun _ _ => rfl, fun ad had => ⟨?_, fun h => h⟩⟩) hlp
  rcases h.blk i b hb with ⟨h1, _⟩ | ⟨ad', h1, h2⟩
  · rw [had] at h1; cases h1
  · rw [had] at h1; cases h1
    obtain ⟨c, T, hobj⟩ := h2.obj
    exact World.putObj_heap_other (hne _ _ _ _ hobj)

theorem Turn.putObj {A A' : Nat → Prop} {base : Nat} {w w' : World} (h : Turn A A' base w w') {k : Nat} {o o' : Obj} (hk : w'.heap[k]? = some o) (ho : isC o = false) (hb : base ≤ k) (ha : ¬ A k) (hd : ∀ x, w.heap[k]? = some x → isC x = false → fixedO x = false ∧ isC o' = false) : Turn A A' base w (w'.putObj k o') where
  ext := ⟨fun j hj => (World.putObj_heap_other (show j ≠ k from fun e => ha (by rw [← e]; exact hj))).trans (h.ext.same j hj), fun b m hr => by
    obtain ⟨c, T, fz, h1, h2⟩ := h.ext.room b m hr
    refine ⟨c, T, fz, ?_, h2⟩
    rw [World.putObj_heap_other (fun e => by subst e; rw [hk] at h1; cases h1; cases ho)]; exact h1⟩
  grows := h.grows
  below := ⟨h.below.os, h.below.tape, h.below.output, by simpa using h.below.size, fun j hj => (World.putObj_heap_other (by omega)).trans (h.below.block j hj)⟩
  old := h.old
  side := ⟨fun j x hj hx => by
      by_cases e : j = k
      · subst e; have := (hd x hj (fixedO_not hx)).1; rw [hx] at this; cases this
      · rw [World.putObj_heap_other e]; exact h.side.keep j x hj hx,
    fun j x hj hx => by
      by_cases e : j = k
      · subst e
        refine ⟨o', World.putObj_heap_same (Array.getElem?_eq_some_iff.1 hk).1, (hd x hj hx).2⟩
      · obtain ⟨y, h1, h2⟩ := h.side.non j x hj hx
        exact ⟨y, by rw [World.putObj_heap_other e]; exact h1, h2⟩, h.side.new⟩

theorem LoopRep.putObj_other {w : World} {A : Nat → Prop} {β : Env} {base : Nat} {L : Option LoopSt} {acts : List (Array Value)} (h : LoopRep w A β base L acts) {k : Nat} {o o' : Obj} (hk : w.heap[k]? = some o) (hl : ∀ r, o ≠ .loop r) : LoopRep (w.putObj k o') A β base L acts := by
  cases L with
  | none => trivial
  | some L =>
    obtain ⟨l, D, fn, ts, pre, post, h1, h2, h3, h4, h5⟩ := h
    refine ⟨l, D, fn, ts, pre, post, h1, h2, h3, ?_, h5⟩
    rw [World.putObj_heap_other (fun e => by subst e; rw [hk] at h4; cases h4; exact hl _ rfl)]; exact h4

/-- The end of a function: the marks are taken. -/
theorem unmark {P : Program} {fn : Func} {ts tmps : Array Value} {w : World} {A A' : Nat → Prop} {β : Env} {base : Nat} {σ : St} {acts : List (Array Value)} {R : Ending → World → Prop} {n : Nat} (hb : base ≤ w.heap.size) (hA : ∀ k, A k → k < w.heap.size) : ∀ (Ds : List Nat) (w' : World), Rel w' A' β base σ tmps acts → Turn A A' base w w' → Ds.Nodup →
    (∀ D ∈ Ds, w.heap.size ≤ D ∧ ¬ A' D ∧ w'.heap[D]? = some (.deferred (some []))) → (∀ w'', Rel w'' A' β base σ tmps acts → Turn A A' base w w'' → LeavesIn (FW none) n P fn ts R [] .returning w'') → LeavesInM (FW none) n P fn ts R (Ds.map mark) .returning w'
  | [], w', hr, ht, _, _, h => h w' hr ht
  | D :: Ds, w', hr, ht, hn, hD, h => by
    obtain ⟨h1, h2, h3⟩ := hD D (by simp)
    refine ⟨by simp, .inl ⟨D, w'.putObj D (.deferred none), rfl, run_takeDeferred h3, ?_⟩⟩
    refine unmark hb hA Ds _ (hr.putObj h3 rfl h2 (hr.lp.putObj_other h3 (fun r e => by cases e))) (ht.putObj h3 rfl (by omega) (fun ha => by have := hA _ ha; omega) (fun x hx _ => by
      have := (Array.getElem?_eq_some_iff.1 hx).1; omega)) (List.nodup_cons.1 hn).2 (fun E hE => ?_) h
    obtain ⟨k1, k2, k3⟩ := hD E (by simp [hE])
    refine ⟨k1, k2, ?_⟩
    rw [World.putObj_heap_other (show E ≠ D from fun e => (List.nodup_cons.1 hn).1 (by rw [← e]; exact hE))]; exact k3

/-- The record of the loop is turned. -/
theorem Rel.at {w : World} {A : Nat → Prop} {β : Env} {base : Nat} {σ : St} {tmps : Array Value} {acts : List (Array Value)} (h : Rel w A β base σ tmps acts) {L : LoopSt} (hL : σ.loop = some L) {l D : Nat} {fn : FuncId} {ts : Array Value} {pre post : List (Array Value)} (h1 : β yldId = some ⟨l, 0, none⟩) (h2 : acts = pre ++ ts :: #[.int .i64 (l : Int)] :: post) (h3 : post.length + 2 = L.depth)
    (h4 : w.heap[l]? = some (.loop { state := L.state.state, pending := L.state.jump, fn := fn, tmps := ts, params := L.ps, assign := L.assign, body := L.body, defers := D })) (h5 : ¬ A l) (h6 : base ≤ l) (s : LSt) :
    Rel (w.putObj l (.loop { state := s.state, pending := s.jump, fn := fn, tmps := ts, params := L.ps, assign := L.assign, body := L.body, defers := D })) A β base (σ.at L s) tmps acts := by
  have hlt := (Array.getElem?_eq_some_iff.1 h4).1
  have h0 : Rel w A β base { σ with loop := none } tmps acts := ⟨h.fr, h.stk, h.blk, h.inj, h.low, h.top, h.glo, trivial⟩
  have hp := h0.putObj (o' := .loop { state := s.state, pending := s.jump, fn := fn, tmps := ts, params := L.ps, assign := L.assign, body := L.body, defers := D }) h4 rfl h5 trivial
  exact ⟨hp.fr, hp.stk, hp.blk, hp.inj, hp.low, hp.top, hp.glo, ⟨l, D, fn, ts, pre, post, h1, h2, h3, World.putObj_heap_same hlt, h5, h6⟩⟩

theorem puts_rep {w : World} {A : Nat → Prop} {β : Env} : ∀ (ps : List Tmp) (ds : List D) (us : List Value) (f : Fr) (a : Array Value), FrRep w A β f a → RepLs w A β ds us → ds.length = ps.length → FrRep w A β (f.puts (ps.zip ds)) ((ps.zip us).foldl (fun t (p, v) => t.setIfInBounds p v) a)
  | [], ds, us, f, a, h, _, _ => by cases ds <;> cases us <;> exact h
  | p :: ps, [], us, f, a, h, _, hl => by simp at hl
  | p :: ps, d :: ds, us, f, a, h, hu, hl => by
    simp only [RepLs] at hu
    obtain ⟨u, vs, rfl, h1, h2⟩ := hu
    exact puts_rep ps ds vs (f.put p d) (a.setIfInBounds p u) (h.put p h1) h2 (by simpa using hl)

theorem callParts_yield {w : World} {o : Oper} {ρv : Operand → Value} {fo : Operand} {args : Array Operand} (h : callParts o.op = some (fo, args)) {l : Nat} (hf : ρv fo = .func (.yield l) #[] #[]) :
    (execOp ρv o).run P w = (Instr.yield l (args.map ρv)).run P w := by
  obtain ⟨dst, op, type, pos, after, guard⟩ := o
  cases op with
  | call c =>
    obtain ⟨callee, as, ts⟩ := c
    cases callee with
    | value g =>
      simp [callParts] at h
      obtain ⟨rfl, rfl⟩ := h
      simp [execOp, resolve, hf, Deferred.ofValue, Sem.run_bind, Sem.run_pure, Result.andThen_ok, invoke]
    | _ => simp [callParts] at h
  | _ => simp [callParts] at h

theorem bodyEnd {P : Program} {fn : Func} {w : World} {A A' : Nat → Prop} {β : Env} {base : Nat} {σ : St} {acts : List (Array Value)} {R : Ending → World → Prop} {n : Nat} {a0 a' : Act} {w' : World} {e : Ex} (he : e = .normal ∨ e = .ret) (hb : base ≤ w.heap.size) (hA : ∀ k, A k → k < w.heap.size)
    (hd : Marks w w' A' a0 a') (h0 : a0.defers = []) (hr : Rel w' A' β base σ a'.tmps acts) (ht : Turn A A' base w w') (h : ∀ w'', Rel w'' A' β base σ a'.tmps acts → Turn A A' base w w'' → ∃ v, (results fn a'.tmps).run P w'' = .ok v w'' ∧ R (.returned v) w'') : bodyPostM (FW none) n P fn R e.out a' w' := by
  obtain ⟨Ds, h1, h2, h3⟩ := hd
  rw [h0, List.append_nil] at h1
  have key : LeavesInM (FW none) n P fn a'.tmps R a'.defers .returning w' := by
    rw [h1]
    exact unmark hb hA Ds w' hr ht h2 h3 (fun w'' hr'' ht'' => h w'' hr'' ht'')
  rcases he with rfl | rfl <;> exact key

theorem round_sound {P : Program} {ro : Option Nat} {o : Oper} {w : World} {A : Nat → Prop} {β : Env} {base : Nat} {a : Act} {acts : List (Array Value)} {σ σ1 σ2 : St} {fo : Operand} {args : Array Operand} {L L1 L2 : LoopSt} {e : Ex} {fr0 gh frI : Fr} {stk stk' : List Fr}
    (hp : callParts o.op = some (fo, args)) (hf : evalD σ fo = .yld) (hL : σ.loop = some L) (hs : L.state.ready? = true) (hstk : σ.stk = fr0 :: gh :: stk) (hdep : stk.length + 2 = L.depth) (hsz : args.size = L.ps.size) (hna : noRange L.assign = true) (hnb : noRange L.body = true)
    (iha : Sound P F (.code L.assign) (σ.round fr0 (L.ps.toList.zip (args.toList.map (evalD σ)))) .normal σ1) (hL1 : σ1.loop = some L1) (hs1 : L1.state.ready? = true) (hd1 : L1.depth = L.depth)
    (ihb : Sound P F (.code L.body) (σ1.at L1 .busy) e σ2) (hL2 : σ2.loop = some L2) (hs2 : L2.state.busy? = true) (hd2 : L2.depth = L.depth) (hstk2 : σ2.stk = frI :: stk')
    (hr : Rel w A β base σ a.tmps acts) {K : Act → World → Prop} {Q : Exit → Act → World → Prop} (hK : Aft (St.put { fr := frI, stk := stk', bk := σ2.bk, loop := some { L2 with state := e.round } } o.dst (.v (.bool e.goes))) base acts A a w K) : o.wpIn (FW ro) 0 P a w K Q := by
  -- the record
  have hlp := hr.lp
  rw [hL] at hlp
  obtain ⟨l, D, fn, ts, pre, post, h1, h2, h3, h4, h5, h6⟩ := hlp
  have hlen := hr.stk.length
  rw [hstk, h2] at hlen
  simp only [List.length_cons, List.length_append] at hlen
  have hpre : pre = [] := List.length_eq_zero_iff.1 (by omega)
  subst hpre
  simp only [List.nil_append] at h2
  subst h2
  have hst : ∀ {s : LSt}, s.ready? = true → s = .ready := fun {s} h => by cases s <;> simp_all [LSt.ready?]
  have hsb : ∀ {s : LSt}, s.busy? = true → s = .busy := fun {s} h => by cases s <;> simp_all [LSt.busy?]
  have e0 := hst hs
  rw [e0] at h4
  -- yield
  have hfo := eval_rep hr fo
  rw [hf] at hfo
  simp only [Rep] at hfo
  obtain ⟨ad, had, hfo⟩ := hfo
  rw [h1] at had
  cases had
  have hnd : ∀ c, o.op ≠ .defer c := fun c e => by rw [e] at hp; simp [callParts] at hp
  refine ⟨fun _ _ => trivial, ?_⟩
  rw [Oper.semAt_eq _ _ _ hnd, callParts_yield hp hfo, run_yield h4 (by simpa using hsz)]
  refine ⟨fun e => (by cases e), ?_⟩
  -- the round's frame
  have hargs : RepLs w A β (args.toList.map (evalD σ)) (args.toList.map a.eval) := maps_rel (eval_rep hr) _
  have hstkr := hr.stk
  rw [hstk] at hstkr
  cases hstkr with
  | cons hfr0 hrest =>
  have hfrR : FrRep w A β (fr0.puts (L.ps.toList.zip (args.toList.map (evalD σ)))) ((L.ps.zip (args.map a.eval)).foldl (fun t (p, v) => t.setIfInBounds p v) ts) := by
    have := puts_rep L.ps.toList _ _ fr0 ts hfr0 hargs (by simpa using hsz)
    rw [← Array.foldl_toList]
    simpa [Array.toList_zip] using this
  have hrel0 : Rel w A β base (σ.round fr0 (L.ps.toList.zip (args.toList.map (evalD σ)))) ((L.ps.zip (args.map a.eval)).foldl (fun t (p, v) => t.setIfInBounds p v) ts) (a.tmps :: ts :: #[.int .i64 (l : Int)] :: post) :=
    ⟨hfrR, by show StkRep w A β (σ.fr :: σ.stk) _; rw [hstk]; exact .cons hr.fr (.cons hfr0 hrest), hr.blk, hr.inj, hr.low, hr.top, hr.glo, by
      show LoopRep w A β base σ.loop _
      rw [hL]
      exact ⟨l, D, fn, ts, [a.tmps], post, h1, rfl, h3, by rw [e0]; exact h4, h5, h6⟩⟩
  refine roundIn_of_wpIn (F := FW ro) trivial ?_
  show L.assign.wpIn (FW (some l)) 0 P _ _ w
  refine iha (some l) (.inr hna) w A β base { tmps := _, defers := [] } _ _ hrel0 ?_
  intro a1 w1 A1 β1 _ hr1 ht1
  have hlp1 := hr1.lp
  rw [hL1] at hlp1
  obtain ⟨l1, D1, fn1, ts1, pre1, post1, g1, g2, g3, g4, g5, g6⟩ := hlp1
  have hpos : ∀ {l1 : Nat} {ts1 : Array Value} {pre1 post1 : List (Array Value)}, a.tmps :: ts :: #[Value.int .i64 (l : Int)] :: post = pre1 ++ ts1 :: #[.int .i64 (l1 : Int)] :: post1 → post1.length = post.length → l = l1 ∧ [a.tmps] = pre1 ∧ ts = ts1 ∧ post = post1 := by
    intro l1 ts1 pre1 post1 he hlen
    have hl := congrArg List.length he
    simp only [List.length_cons, List.length_append] at hl
    match pre1, hl, he with
    | [x], _, he =>
      simp only [List.cons_append, List.nil_append, List.cons.injEq, Array.mk.injEq, Value.int.injEq, true_and, and_true] at he
      obtain ⟨rfl, rfl, h, rfl⟩ := he
      exact ⟨by omega, rfl, rfl, rfl⟩
    | [], hl, _ => simp at hl; omega
    | _ :: _ :: _, hl, _ => simp at hl; omega
  obtain ⟨rfl, rfl, rfl, rfl⟩ := hpos g2 (by omega)
  have e1 := hst hs1
  rw [e1] at g4
  refine ⟨_, run_beginRound g4 rfl, ?_⟩
  have hrel1 := hr1.at hL1 g1 g2 g3 (by rw [e1]; exact g4) g5 g6 .busy
  have ht1' := ht1.putObj (o' := .loop { state := LSt.busy.state, pending := LSt.busy.jump, fn := fn1, tmps := ts, params := L1.ps, assign := L1.assign, body := L1.body, defers := D1 }) g4 rfl g6 h5 (fun x hx _ => by rw [h4] at hx; cases hx; exact ⟨rfl, rfl⟩)
  show L.body.wpIn (FW (some l)) 0 P _ _ _
  refine ihb (some l) (.inr hnb) _ A1 β1 base a1 _ _ hrel1 ?_
  intro a2 w2 A2 β2 _ hr2 ht2
  have hlp2 := hr2.lp
  rw [hL2] at hlp2
  obtain ⟨l2, D2, fn2, ts2, pre2, post2, k1, k2, k3, k4, k5, k6⟩ := hlp2
  obtain ⟨rfl, rfl, rfl, rfl⟩ := hpos k2 (by omega)
  have e2 := hsb hs2
  rw [e2] at k4
  have hrel2 := hr2.at hL2 k1 k2 k3 (by rw [e2]; exact k4) k5 k6 e.round
  have ht2' := (ht1'.trans ht2).putObj (o' := .loop { state := e.round.state, pending := e.round.jump, fn := fn2, tmps := ts, params := L2.ps, assign := L2.assign, body := L2.body, defers := D2 }) k4 rfl k6 h5 (fun x hx _ => by rw [h4] at hx; cases hx; exact ⟨rfl, rfl⟩)
  have hback : ∀ v, v = Value.bool e.goes → K (a.put o.dst v) (w2.putObj l (.loop { state := e.round.state, pending := e.round.jump, fn := fn2, tmps := ts, params := L2.ps, assign := L2.assign, body := L2.body, defers := D2 })) := by
    rintro v rfl
    have hs2 := hrel2.stk
    simp only [St.at] at hs2
    rw [hstk2] at hs2
    cases hs2 with
    | cons hf2 hrest2 =>
      have hb : Rel _ A2 β2 base { fr := frI, stk := stk', bk := σ2.bk, loop := some { L2 with state := e.round } } a.tmps (ts :: #[.int .i64 (l : Int)] :: post) :=
        ⟨hf2, hrest2, hrel2.blk, hrel2.inj, hrel2.low, hrel2.top, hrel2.glo, ⟨l, D2, fn2, ts, [], post, k1, rfl, k3, World.putObj_heap_same (Array.getElem?_eq_some_iff.1 k4).1, k5, k6⟩⟩
      exact hK _ _ _ _ (.same (put_defers _ _ _)) (hb.putA o.dst (by simp [Rep, RepS])) ht2'
  cases e with
  | normal => exact ⟨_, _, run_endRound none k4, hback _ rfl⟩
  | ret => exact ⟨_, _, run_endRound (some .ret) k4, hback _ rfl⟩
  | exit id => exact ⟨_, _, run_endRound (some (.exit id)) k4, hback _ rfl⟩

end
end Go.Dam
