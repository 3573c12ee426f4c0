/- The engine: an abstract machine for the program's functions, proved right against the model. No condition. -/
import Derived.Test.YtnmgcibopkdijaaDamQB
import Derived.RangeFuncIn
set_option linter.unusedSectionVars false
set_option linter.unusedVariables false
set_option linter.unusedSimpArgs false
section
namespace Go.Dam
open Go Go.RowKit
set_option linter.unusedSectionVars false
variable [Glo]
set_option linter.unusedSimpArgs false
set_option linter.unusedVariables false

section
variable {P : Program} {F : FuncId → List D → D → Prop}

def Sound (P : Program) (F : FuncId → List D → D → Prop) : Job → St → Ex → St → Prop
  | .code c, σ, e, σ' => ∀ (ro : Option Nat), (ro = none ∨ noRange c = true) → ∀ (w : World) (A : Nat → Prop) (β : Env) (base : Nat) (a : Act) (acts : List (Array Value)) (Q : Exit → Act → World → Prop), Rel w A β base σ a.tmps acts → Aft σ' base acts A a w (Q e.out) → c.wpIn (FW ro) 0 P Q a w
  | .rounds c, σ, e, σ' => ∀ (ro : Option Nat), (ro = none ∨ noRange c = true) → ∃ n, ∀ (w : World) (A : Nat → Prop) (β : Env) (base : Nat) (a : Act) (acts : List (Array Value)) (Q : Exit → Act → World → Prop), Rel w A β base σ a.tmps acts → Aft σ' base acts A a w (Q e.out) → Code.roundsIn (FW ro) 0 P c Q n a w
  | .ops R l, σ, _, σ' => ∀ (ro : Option Nat) (w : World) (A : Nat → Prop) (β : Env) (base : Nat) (a : Act) (acts : List (Array Value)) (Q : Exit → Act → World → Prop), Rel w A β base σ a.tmps acts → Aft σ' base acts A a w (Q .normal) → wpListIn (FW ro) 0 P R Q l a w
  | .draws R p k l, σ, _, σ' => QRun P F (SoundOp P R) R p k l σ σ'

theorem Exit.then_of_ne {e : Ex} (h : e ≠ .normal) (K : Act → World → Prop) (Q : Exit → Act → World → Prop) : Exit.then K Q e.out = Q e.out := by
  cases e <;> first | exact absurd rfl h | (funext a w; rfl)

theorem enter_rel {w : World} {A : Nat → Prop} {β : Env} {base : Nat} {σ : St} {tmps : Array Value} {acts : List (Array Value)} (h : Rel w A β base σ tmps acts) {args : List D} {vs : List Value} (hargs : RepLs w A β args vs) (nt : Nat) :
    Rel w A β base (σ.enter args nt) (vs.toArray ++ Array.replicate (nt - vs.toArray.size) undef) (tmps :: acts) where
  fr := by
    have hl := hargs.length
    refine ⟨by simp [St.enter, hl], fun t => ?_⟩
    simp only [St.enter]
    rcases Nat.lt_or_ge t args.length with ht | ht
    · have hlt : t < vs.length := by omega
      obtain ⟨u, h1, h2⟩ := hargs.get t _ (List.getElem?_eq_getElem ht)
      have e1 : (vs.toArray ++ Array.replicate (nt - vs.toArray.size) undef).getD t undef = u := by
        rw [Array.getD_eq_getD_getElem?, Array.getElem?_append_left (by simpa using hlt)]
        simp [h1]
      rw [e1, List.getD_eq_getElem?_getD, List.getElem?_append_left ht]
      simpa [ht] using h2
    · have e1 : (vs.toArray ++ Array.replicate (nt - vs.toArray.size) undef).getD t undef = undef := by
        rw [Array.getD_eq_getD_getElem?, Array.getElem?_append_right (by simp; omega)]
        cases hc : (Array.replicate (nt - vs.toArray.size) undef)[t - vs.toArray.size]? with
        | none => rfl
        | some y => rw [Array.getElem?_replicate] at hc; split at hc <;> simp at hc; simp [← hc]
      rw [e1, List.getD_eq_getElem?_getD, List.getElem?_append_right ht]
      cases hc : (List.replicate (nt - args.length) (D.v undef))[t - args.length]? with
      | none => simp [Rep, RepS]
      | some y => rw [List.getElem?_replicate] at hc; split at hc <;> simp at hc; simp [← hc, Rep, RepS]
  stk := .cons h.fr h.stk
  blk := h.blk
  inj := h.inj
  low := h.low
  top := h.top
  glo := h.glo
  lp := by
    show LoopRep w A β base σ.loop (tmps :: acts)
    cases hl : σ.loop with
    | none => trivial
    | some L =>
      have := h.lp
      rw [hl] at this
      obtain ⟨l, D, fn, ts, pre, post, h1, h2, h3⟩ := this
      exact ⟨l, D, fn, ts, tmps :: pre, post, h1, by rw [h2]; rfl, h3⟩

theorem QStep.mono {R : Array Oper} {O O' : Oper → St → St → Prop} {p : Plan} {k : Nat} {o : Oper} {σ σ' : St} (h : QStep P F O R p k o σ σ') (hO : ∀ o σ σ', O o σ σ' → O' o σ σ') : QStep P F O' R p k o σ σ' := by
  cases h with
  | skip h => exact .skip h
  | op h1 h2 h3 h4 h5 h6 h7 h8 => exact .op h1 h2 h3 h4 h5 h6 h7 h8
  | sto h1 h2 h3 h4 h5 h6 h7 => exact .sto h1 h2 h3 h4 h5 h6 h7
  | cpy h1 h2 h3 h4 h5 h6 => exact .cpy h1 h2 h3 h4 h5 h6
  | oth h1 h2 h3 => exact .oth h1 (hO _ _ _ h2) h3

theorem StkRep.length {w : World} {A : Nat → Prop} {β : Env} : ∀ {fs : List Fr} {as : List (Array Value)}, StkRep w A β fs as → fs.length = as.length
  | _, _, .nil => rfl
  | _, _, .cons _ t => by simp [StkRep.length t]

/-- An object that is no cells is turned, and is not what the state speaks of. -/
theorem Rel.putObj {w : World} {A : Nat → Prop} {β : Env} {base : Nat} {σ : St} {tmps : Array Value} {acts : List (Array Value)} (h : Rel w A β base σ tmps acts) {k : Nat} {o o' : Obj} (hk : w.heap[k]? = some o) (ho : isC o = false) (ha : ¬ A k)
    (hlp : LoopRep (w.putObj k o') A β base σ.loop acts) : Rel (w.putObj k o') A β base σ tmps acts := by
  have hne : ∀ b c T fz, w.heap[b]? = some (.cells c T fz) → b ≠ k := fun b c T fz hb e => by subst e; rw [hk] at hb; cases hb; cases ho
  refine h.carry ⟨fun j hj => World.putObj_heap_other (show j ≠ k from fun e => ha (by rw [← e]; exact hj)), fun b m ⟨c, T, fz, h1, h2⟩ => ⟨c, T, fz, by rw [World.putObj_heap_other (hne b c T fz h1)]; exact h1, h2⟩⟩ (fun _ h => h) (fun j hj => by simpa using h.low j hj) (by simpa using h.top) (fun _ _ _ => rfl) (fun _ _ _ _ _ => rfl) (fun i b hb => ⟨rfl, fun _ _ => rfl, fun ad had => ⟨?_, fun h => h⟩⟩) hlp
  rcases h.blk i b hb with ⟨h1, _⟩ | ⟨ad', h1, h2⟩
  · rw [had] at h1; cases h1
  · rw [had] at h1; cases h1
    obtain ⟨c, T, hobj⟩ := h2.obj
    exact World.putObj_heap_other (hne _ _ _ _ hobj)

theorem Turn.putObj {A A' : Nat → Prop} {base : Nat} {w w' : World} (h : Turn A A' base w w') {k : Nat} {o o' : Obj} (hk : w'.heap[k]? = some o) (ho : isC o = false) (hb : base ≤ k) (ha : ¬ A k) (hd : ∀ x, w.heap[k]? = some x → isC x = false → fixedO x = false ∧ isC o' = false) : Turn A A' base w (w'.putObj k o') where
  ext := ⟨fun j hj => (World.putObj_heap_other (show j ≠ k from fun e => ha (by rw [← e]; exact hj))).trans (h.ext.same j hj), fun b m hr => by
    obtain ⟨c, T, fz, h1, h2⟩ := h.ext.room b m hr
    refine ⟨c, T, fz, ?_, h2⟩
    rw [World.putObj_heap_other (fun e => by subst e; rw [hk] at h1; cases h1; cases ho)]; exact h1⟩
  grows := h.grows
  below := ⟨h.below.os, h.below.tape, h.below.output, by simpa using h.below.size, fun j hj => (World.putObj_heap_other (by omega)).trans (h.below.block j hj)⟩
  old := h.old
  side := ⟨fun j x hj hx => by
      by_cases e : j = k
      · subst e; have := (hd x hj (fixedO_not hx)).1; rw [hx] at this; cases this
      · rw [World.putObj_heap_other e]; exact h.side.keep j x hj hx,
    fun j x hj hx => by
      by_cases e : j = k
      · subst e
        refine ⟨o', World.putObj_heap_same (Array.getElem?_eq_some_iff.1 hk).1, (hd x hj hx).2⟩
      · obtain ⟨y, h1, h2⟩ := h.side.non j x hj hx
        exact ⟨y, by rw [World.putObj_heap_other e]; exact h1, h2⟩, h.side.new⟩

theorem LoopRep.putObj_other {w : World} {A : Nat → Prop} {β : Env} {base : Nat} {L : Option LoopSt} {acts : List (Array Value)} (h : LoopRep w A β base L acts) {k : Nat} {o o' : Obj} (hk : w.heap[k]? = some o) (hl : ∀ r, o ≠ .loop r) : LoopRep (w.putObj k o') A β base L acts := by
  cases L with
  | none => trivial
  | some L =>
    obtain ⟨l, D, fn, ts, pre, post, h1, h2, h3, h4, h5⟩ := h
    refine ⟨l, D, fn, ts, pre, post, h1, h2, h3, ?_, h5⟩
    rw [World.putObj_heap_other (fun e => by subst e; rw [hk] at h4; cases h4; exact hl _ rfl)]; exact h4

/-- The end of a function: the marks are taken. -/
theorem unmark {P : Program} {fn : Func} {ts tmps : Array Value} {w : World} {A A' : Nat → Prop} {β : Env} {base : Nat} {σ : St} {acts : List (Array Value)} {R : Ending → World → Prop} {n : Nat} (hb : base ≤ w.heap.size) (hA : ∀ k, A k → k < w.heap.size) : ∀ (Ds : List Nat) (w' : World), Rel w' A' β base σ tmps acts → Turn A A' base w w' → Ds.Nodup →
    (∀ D ∈ Ds, w.heap.size ≤ D ∧ ¬ A' D ∧ w'.heap[D]? = some (.deferred (some []))) → (∀ w'', Rel w'' A' β base σ tmps acts → Turn A A' base w w'' → LeavesIn (FW none) n P fn ts R [] .returning w'') → LeavesInM (FW none) n P fn ts R (Ds.map mark) .returning w'
  | [], w', hr, ht, _, _, h => h w' hr ht
  | D :: Ds, w', hr, ht, hn, hD, h => by
    obtain ⟨h1, h2, h3⟩ := hD D (by simp)
    refine ⟨by simp, .inl ⟨D, w'.putObj D (.deferred none), rfl, run_takeDeferred h3, ?_⟩⟩
    refine unmark hb hA Ds _ (hr.putObj h3 rfl h2 (hr.lp.putObj_other h3 (fun r e => by cases e))) (ht.putObj h3 rfl (by omega) (fun ha => by have := hA _ ha; omega) (fun x hx _ => by
      have := (Array.getElem?_eq_some_iff.1 hx).1; omega)) (List.nodup_cons.1 hn).2 (fun E hE => ?_) h
    obtain ⟨k1, k2, k3⟩ := hD E (by simp [hE])
    refine ⟨k1, k2, ?_⟩
    rw [World.putObj_heap_other (show E ≠ D from fun e => (List.nodup_cons.1 hn).1 (by rw [← e]; exact hE))]; exact k3

/-- The record of the loop is turned. -/
theorem Rel.at {w : World} {A : Nat → Prop} {β : Env} {base : Nat} {σ : St} {tmps : Array Value} {acts : List (Array Value)} (h : Rel w A β base σ tmps acts) {L : LoopSt} (hL : σ.loop = some L) {l D : Nat} {fn : FuncId} {ts : Array Value} {pre post : List (Array Value)} (h1 : β yldId = some ⟨l, 0, none⟩) (h2 : acts = pre ++ ts :: #[.int .i64 (l : Int)] :: post) (h3 : post.length + 2 = L.depth)
    (h4 : w.heap[l]? = some (.loop { state := L.state.state, pending := L.state.jump, fn := fn, tmps := ts, params := L.ps, assign := L.assign, body := L.body, defers := D })) (h5 : ¬ A l) (h6 : base ≤ l) (s : LSt) :
    Rel (w.putObj l (.loop { state := s.state, pending := s.jump, fn := fn, tmps := ts, params := L.ps, assign := L.assign, body := L.body, defers := D })) A β base (σ.at L s) tmps acts := by
  have hlt := (Array.getElem?_eq_some_iff.1 h4).1
  have h0 : Rel w A β base { σ with loop := none } tmps acts := ⟨h.fr, h.stk, h.blk, h.inj, h.low, h.top, h.glo, trivial⟩
  have hp := h0.putObj (o' := .loop { state := s.state, pending := s.jump, fn := fn, tmps := ts, params := L.ps, assign := L.assign, body := L.body, defers := D }) h4 rfl h5 trivial
  exact ⟨hp.fr, hp.stk, hp.blk, hp.inj, hp.low, hp.top, hp.glo, ⟨l, D, fn, ts, pre, post, h1, h2, h3, World.putObj_heap_same hlt, h5, h6⟩⟩

theorem puts_rep {w : World} {A : Nat → Prop} {β : Env} : ∀ (ps : List Tmp) (ds : List D) (us : List Value) (f : Fr) (a : Array Value), FrRep w A β f a → RepLs w A β ds us → ds.length = ps.length → FrRep w A β (f.puts (ps.zip ds)) ((ps.zip us).foldl (fun t (p, v) => t.setIfInBounds p v) a)
  | [], ds, us, f, a, h, _, _ => by cases ds <;> cases us <;> exact h
  | p :: ps, [], us, f, a, h, _, hl => by simp at hl
  | p :: ps, d :: ds, us, f, a, h, hu, hl => by
    simp only [RepLs] at hu
    obtain ⟨u, vs, rfl, h1, h2⟩ := hu
    exact puts_rep ps ds vs (f.put p d) (a.setIfInBounds p u) (h.put p h1) h2 (by simpa using hl)

theorem callParts_yield {w : World} {o : Oper} {ρv : Operand → Value} {fo : Operand} {args : Array Operand} (h : callParts o.op = some (fo, args)) {l : Nat} (hf : ρv fo = .func (.yield l) #[] #[]) :
    (execOp ρv o).run P w = (Instr.yield l (args.map ρv)).run P w := by
  obtain ⟨dst, op, type, pos, after, guard⟩ := o
  cases op with
  | call c =>
    obtain ⟨callee, as, ts⟩ := c
    cases callee with
    | value g =>
      simp [callParts] at h
      obtain ⟨rfl, rfl⟩ := h
      simp [execOp, resolve, hf, Deferred.ofValue, Sem.run_bind, Sem.run_pure, Result.andThen_ok, invoke]
    | _ => simp [callParts] at h
  | _ => simp [callParts] at h

theorem bodyEnd {P : Program} {fn : Func} {w : World} {A A' : Nat → Prop} {β : Env} {base : Nat} {σ : St} {acts : List (Array Value)} {R : Ending → World → Prop} {n : Nat} {a0 a' : Act} {w' : World} {e : Ex} (he : e = .normal ∨ e = .ret) (hb : base ≤ w.heap.size) (hA : ∀ k, A k → k < w.heap.size)
    (hd : Marks w w' A' a0 a') (h0 : a0.defers = []) (hr : Rel w' A' β base σ a'.tmps acts) (ht : Turn A A' base w w') (h : ∀ w'', Rel w'' A' β base σ a'.tmps acts → Turn A A' base w w'' → ∃ v, (results fn a'.tmps).run P w'' = .ok v w'' ∧ R (.returned v) w'') : bodyPostM (FW none) n P fn R e.out a' w' := by
  obtain ⟨Ds, h1, h2, h3⟩ := hd
  rw [h0, List.append_nil] at h1
  have key : LeavesInM (FW none) n P fn a'.tmps R a'.defers .returning w' := by
    rw [h1]
    exact unmark hb hA Ds w' hr ht h2 h3 (fun w'' hr'' ht'' => h w'' hr'' ht'')
  rcases he with rfl | rfl <;> exact key

theorem round_sound {P : Program} {ro : Option Nat} {o : Oper} {w : World} {A : Nat → Prop} {β : Env} {base : Nat} {a : Act} {acts : List (Array Value)} {σ σ1 σ2 : St} {fo : Operand} {args : Array Operand} {L L1 L2 : LoopSt} {e : Ex} {fr0 gh frI : Fr} {stk stk' : List Fr}
    (hp : callParts o.op = some (fo, args)) (hf : evalD σ fo = .yld) (hL : σ.loop = some L) (hs : L.state.ready? = true) (hstk : σ.stk = fr0 :: gh :: stk) (hdep : stk.length + 2 = L.depth) (hsz : args.size = L.ps.size) (hna : noRange L.assign = true) (hnb : noRange L.body = true)
    (iha : Sound P F (.code L.assign) (σ.round fr0 (L.ps.toList.zip (args.toList.map (evalD σ)))) .normal σ1) (hL1 : σ1.loop = some L1) (hs1 : L1.state.ready? = true) (hd1 : L1.depth = L.depth)
    (ihb : Sound P F (.code L.body) (σ1.at L1 .busy) e σ2) (hL2 : σ2.loop = some L2) (hs2 : L2.state.busy? = true) (hd2 : L2.depth = L.depth) (hstk2 : σ2.stk = frI :: stk')
    (hr : Rel w A β base σ a.tmps acts) {K : Act → World → Prop} {Q : Exit → Act → World → Prop} (hK : Aft (St.put { fr := frI, stk := stk', bk := σ2.bk, loop := some { L2 with state := e.round } } o.dst (.v (.bool e.goes))) base acts A a w K) : o.wpIn (FW ro) 0 P a w K Q := by
  -- the record
  have hlp := hr.lp
  rw [hL] at hlp
  obtain ⟨l, D, fn, ts, pre, post, h1, h2, h3, h4, h5, h6⟩ := hlp
  have hlen := hr.stk.length
  rw [hstk, h2] at hlen
  simp only [List.length_cons, List.length_append] at hlen
  have hpre : pre = [] := List.length_eq_zero_iff.1 (by omega)
  subst hpre
  simp only [List.nil_append] at h2
  subst h2
  have hst : ∀ {s : LSt}, s.ready? = true → s = .ready := fun {s} h => by cases s <;> simp_all [LSt.ready?]
  have hsb : ∀ {s : LSt}, s.busy? = true → s = .busy := fun {s} h => by cases s <;> simp_all [LSt.busy?]
  have e0 := hst hs
  rw [e0] at h4
  -- yield
  have hfo := eval_rep hr fo
  rw [hf] at hfo
  simp only [Rep] at hfo
  obtain ⟨ad, had, hfo⟩ := hfo
  rw [h1] at had
  cases had
  have hnd : ∀ c, o.op ≠ .defer c := fun c e => by rw [e] at hp; simp [callParts] at hp
  refine ⟨fun _ _ => trivial, ?_⟩
  rw [Oper.semAt_eq _ _ _ hnd, callParts_yield hp hfo, run_yield h4 (by simpa using hsz)]
  refine ⟨fun e => (by cases e), ?_⟩
  -- the round's frame
  have hargs : RepLs w A β (args.toList.map (evalD σ)) (args.toList.map a.eval) := maps_rel (eval_rep hr) _
  have hstkr := hr.stk
  rw [hstk] at hstkr
  cases hstkr with
  | cons hfr0 hrest =>
  have hfrR : FrRep w A β (fr0.puts (L.ps.toList.zip (args.toList.map (evalD σ)))) ((L.ps.zip (args.map a.eval)).foldl (fun t (p, v) => t.setIfInBounds p v) ts) := by
    have := puts_rep L.ps.toList _ _ fr0 ts hfr0 hargs (by simpa using hsz)
    rw [← Array.foldl_toList]
    simpa [Array.toList_zip] using this
  have hrel0 : Rel w A β base (σ.round fr0 (L.ps.toList.zip (args.toList.map (evalD σ)))) ((L.ps.zip (args.map a.eval)).foldl (fun t (p, v) => t.setIfInBounds p v) ts) (a.tmps :: ts :: #[.int .i64 (l : Int)] :: post) :=
    ⟨hfrR, by show StkRep w A β (σ.fr :: σ.stk) _; rw [hstk]; exact .cons hr.fr (.cons hfr0 hrest), hr.blk, hr.inj, hr.low, hr.top, hr.glo, by
      show LoopRep w A β base σ.loop _
      rw [hL]
      exact ⟨l, D, fn, ts, [a.tmps], post, h1, rfl, h3, by rw [e0]; exact h4, h5, h6⟩⟩
  refine roundIn_of_wpIn (F := FW ro) trivial ?_
  show L.assign.wpIn (FW (some l)) 0 P _ _ w
  refine iha (some l) (.inr hna) w A β base { tmps := _, defers := [] } _ _ hrel0 ?_
  intro a1 w1 A1 β1 _ hr1 ht1
  have hlp1 := hr1.lp
  rw [hL1] at hlp1
  obtain ⟨l1, D1, fn1, ts1, pre1, post1, g1, g2, g3, g4, g5, g6⟩ := hlp1
  have hpos : ∀ {l1 : Nat} {ts1 : Array Value} {pre1 post1 : List (Array Value)}, a.tmps :: ts :: #[Value.int .i64 (l : Int)] :: post = pre1 ++ ts1 :: #[.int .i64 (l1 : Int)] :: post1 → post1.length = post.length → l = l1 ∧ [a.tmps] = pre1 ∧ ts = ts1 ∧ post = post1 := by
    intro l1 ts1 pre1 post1 he hlen
    have hl := congrArg List.length he
    simp only [List.length_cons, List.length_append] at hl
    match pre1, hl, he with
    | [x], _, he =>
      simp only [List.cons_append, List.nil_append, List.cons.injEq, Array.mk.injEq, Value.int.injEq, true_and, and_true] at he
      obtain ⟨rfl, rfl, h, rfl⟩ := he
      exact ⟨by omega, rfl, rfl, rfl⟩
    | [], hl, _ => simp at hl; omega
    | _ :: _ :: _, hl, _ => simp at hl; omega
  obtain ⟨rfl, rfl, rfl, rfl⟩ := hpos g2 (by omega)
  have e1 := hst hs1
  rw [e1] at g4
  refine ⟨_, run_beginRound g4 rfl, ?_⟩
  have hrel1 := hr1.at hL1 g1 g2 g3 (by rw [e1]; exact g4) g5 g6 .busy
  have ht1' := ht1.putObj (o' := .loop { state := LSt.busy.state, pending := LSt.busy.jump, fn := fn1, tmps := ts, params := L1.ps, assign := L1.assign, body := L1.body, defers := D1 }) g4 rfl g6 h5 (fun x hx _ => by rw [h4] at hx; cases hx; exact ⟨rfl, rfl⟩)
  show L.body.wpIn (FW (some l)) 0 P _ _ _
  refine ihb (some l) (.inr hnb) _ A1 β1 base a1 _ _ hrel1 ?_
  intro a2 w2 A2 β2 _ hr2 ht2
  have hlp2 := hr2.lp
  rw [hL2] at hlp2
  obtain ⟨l2, D2, fn2, ts2, pre2, post2, k1, k2, k3, k4, k5, k6⟩ := hlp2
  obtain ⟨rfl, rfl, rfl, rfl⟩ := hpos k2 (by omega)
  have e2 := hsb hs2
  rw [e2] at k4
  have hrel2 := hr2.at hL2 k1 k2 k3 (by rw [e2]; exact k4) k5 k6 e.round
  have ht2' := (ht1'.trans ht2).putObj (o' := .loop { state := e.round.state, pending := e.round.jump, fn := fn2, tmps := ts, params := L2.ps, assign := L2.assign, body := L2.body, defers := D2 }) k4 rfl k6 h5 (fun x hx _ => by rw [h4] at hx; cases hx; exact ⟨rfl, rfl⟩)
  have hback : ∀ v, v = Value.bool e.goes → K (a.put o.dst v) (w2.putObj l (.loop { state := e.round.state, pending := e.round.jump, fn := fn2, tmps := ts, params := L2.ps, assign := L2.assign, body := L2.body, defers := D2 })) := by
    rintro v rfl
    have hs2 := hrel2.stk
    simp only [St.at] at hs2
    rw [hstk2] at hs2
    cases hs2 with
    | cons hf2 hrest2 =>
      have hb : Rel _ A2 β2 base { fr := frI, stk := stk', bk := σ2.bk, loop := some { L2 with state := e.round } } a.tmps (ts :: #[.int .i64 (l : Int)] :: post) :=
        ⟨hf2, hrest2, hrel2.blk, hrel2.inj, hrel2.low, hrel2.top, hrel2.glo, ⟨l, D2, fn2, ts, [], post, k1, rfl, k3, World.putObj_heap_same (Array.getElem?_eq_some_iff.1 k4).1, k5, k6⟩⟩
      exact hK _ _ _ _ (.same (put_defers _ _ _)) (hb.putA o.dst (by simp [Rep, RepS])) ht2'
  cases e with
  | normal => exact ⟨_, _, run_endRound none k4, hback _ rfl⟩
  | ret => exact ⟨_, _, run_endRound (some .ret) k4, hback _ rfl⟩
  | exit id => exact ⟨_, _, run_endRound (some (.exit id)) k4, hback _ rfl⟩

end
end Go.Dam
end

section
namespace Go.Dam
open Go Go.RowKit
set_option linter.unusedSectionVars false
variable [Glo]
set_option linter.unusedSimpArgs false
set_option linter.unusedVariables false

section
variable {P : Program} {F : FuncId → List D → D → Prop}

/-- The world in which the iterator begins. -/
def rangedW (w : World) (fn : FuncId) (tmps : Array Value) (ps : Array Tmp) (assign body : Code) : World :=
  (w.alloc (.deferred (some []))).alloc (.loop { state := .ready, pending := none, fn, tmps, params := ps, assign, body, defers := w.heap.size })

section
variable {w : World} {A : Nat → Prop} {β : Env} {base : Nat} {σ : St} {tmps : Array Value} {acts : List (Array Value)} {fn : FuncId} {ps : Array Tmp} {assign body : Code}

theorem rangedW_size : (rangedW w fn tmps ps assign body).heap.size = w.heap.size + 2 := by simp [rangedW]
theorem rangedW_old {k : Nat} (hk : k < w.heap.size) : (rangedW w fn tmps ps assign body).heap[k]? = w.heap[k]? :=
  (Below.heap_alloc _ _ _ (by simp; omega)).trans (Below.heap_alloc _ _ _ hk)
theorem rangedW_rec : (rangedW w fn tmps ps assign body).heap[w.heap.size + 1]? = some (.loop { state := .ready, pending := none, fn, tmps, params := ps, assign, body, defers := w.heap.size }) := by
  have := World.alloc_heap_new (w.alloc (.deferred (some []))) (.loop { state := .ready, pending := none, fn, tmps, params := ps, assign, body, defers := w.heap.size })
  simpa [rangedW] using this
theorem rangedW_dfr : (rangedW w fn tmps ps assign body).heap[w.heap.size]? = some (.deferred (some [])) :=
  (Below.heap_alloc _ _ _ (by simp)).trans (World.alloc_heap_new w _)

theorem rangedW_ext (hA : ∀ k, A k → k < w.heap.size) : Ext A w (rangedW w fn tmps ps assign body) := (Ext.alloc hA _).trans (Ext.alloc (fun k hk => by have := hA k hk; simp; omega) _) (fun _ h => h)
theorem rangedW_oth : Oth w (rangedW w fn tmps ps assign body) := (Oth.alloc w _).trans (Oth.alloc _ _)
theorem rangedW_turn (hA : ∀ k, A k → k < w.heap.size) (top : base ≤ w.heap.size) : Turn A A base w (rangedW w fn tmps ps assign body) :=
  ⟨rangedW_ext hA, fun _ h => h, ((Below.refl _ w).alloc top _).alloc (by simp; omega) _, fun _ h _ => h, .strict rangedW_oth (.refl _ _)⟩

/-- The iterator's frame. -/
theorem ranged_rel (h : Rel w A β base σ tmps acts) {caps : List D} {vc : List Value} (hc : RepLs w A β caps vc) (hcl : D.hasL yldId caps = false) (nt : Nat) :
    Rel (rangedW w fn tmps ps assign body) A (β.set yldId (some ⟨w.heap.size + 1, 0, none⟩)) base (σ.ranged ps assign body caps nt)
      ((Value.func (.yield (w.heap.size + 1)) #[] #[] :: vc).toArray ++ Array.replicate (nt - (Value.func (.yield (w.heap.size + 1)) #[] #[] :: vc).toArray.size) undef) (tmps :: #[.int .i64 ((w.heap.size + 1 : Nat) : Int)] :: acts) := by
  have hx : Ext A w (rangedW w fn tmps ps assign body) := rangedW_ext h.low
  have h1 := h.rebind yldId (some ⟨w.heap.size + 1, 0, none⟩) hx (by rw [rangedW_size]; have := h.top; omega) (by rw [rangedW_size]; omega) rangedW_oth (fun i b ad _ hb ha => rangedW_old (blk_lt h hb ha))
  have hc' : RepLs (rangedW w fn tmps ps assign body) A (β.set yldId (some ⟨w.heap.size + 1, 0, none⟩)) caps vc := RepLs.mono hx (fun _ h => h) _ _ (fun i hi => Env.set_other _ _ (fun e => by subst e; rw [hcl] at hi; cases hi)) hc
  have hargs : RepLs (rangedW w fn tmps ps assign body) A (β.set yldId (some ⟨w.heap.size + 1, 0, none⟩)) (.yld :: caps) (Value.func (.yield (w.heap.size + 1)) #[] #[] :: vc) := by
    simp only [RepLs]
    exact ⟨_, _, rfl, by simp only [Rep]; exact ⟨_, Env.set_same _ _ _, rfl⟩, hc'⟩
  have h2 := enter_rel h1 hargs nt
  have hst := h2.stk
  cases hst with
  | cons hf hrest =>
    refine ⟨h2.fr, ?_, h2.blk, h2.inj, h2.low, h2.top, h2.glo, ⟨w.heap.size + 1, w.heap.size, fn, tmps, [], acts, Env.set_same _ _ _, rfl, ?_, rangedW_rec, fun ha => ?_, by have := h.top; omega⟩⟩
    · exact .cons hf (.cons ⟨rfl, fun t => by simp [ghost, Rep, RepS]⟩ hrest)
    · show acts.length + 2 = σ.stk.length + 2
      rw [h.stk.length]
    · have := h.low _ ha; omega
end

/-- THE ABSTRACT MACHINE IS RIGHT: whatever it does, the machine does. -/
theorem runs_sound (hF : ∀ f as res, F f as res → CallsD P f as res) {j : Job} {σ σ' : St} {e : Ex} (h : Runs P F j σ e σ') : Sound P F j σ e σ' := by
  induction h with
  | nil => intro ro w A β base a acts Q hr hq; exact hq a w A β (.same rfl) hr (.refl _ _ _)
  | @skipped R o l σ σ' hw _ ih =>
    intro ro w A β base a acts Q hr hq
    unfold wpListIn
    rw [if_neg (by rw [wanted_spec hr hw]; simp)]
    exact ⟨fun _ _ => trivial, ih ro w A β base _ acts Q (hr.putA o.dst (by simp [Rep, RepS])) (hq.trans (.same (put_defers _ _ _)) (.refl _ _ _))⟩
  | @step R o l σ σ1 σ' hw hs _ ih =>
    intro ro w A β base a acts Q hr hq
    unfold wpListIn
    rw [if_pos (wanted_spec hr hw)]
    exact opStep_in hF hr hs fun a' w' A' β' hd hr' ht => ih ro w' A' β' base a' acts Q hr' (hq.trans hd ht)
  | @inline R o l σ σ1 σ' fo args f caps fn c e1 ds fr stk hw hp hf hb _ he hres hstk hfit _ ihc ihl =>
    intro ro w A β base a acts Q hr hq
    unfold wpListIn
    rw [if_pos (wanted_spec hr hw)]
    have hfo := eval_rep hr fo
    rw [hf] at hfo
    simp only [Rep] at hfo
    obtain ⟨vc, hfo, hcaps⟩ := hfo
    obtain ⟨hfn, hbody, hrun⟩ := body_spec hb
    have hargs : RepLs w A β (args.toList.map (evalD σ) ++ caps) (args.toList.map a.eval ++ vc) := (maps_rel (eval_rep hr) _).append hcaps
    refine wpIn_FW (fun c e => by rw [e] at hp; simp [callParts] at hp) ?_
    unfold Oper.wp
    rw [callParts_run (w := w) (A := A) (β := β) hp hfo, hrun]
    refine (callsIn_wide (n := 0)).1 (callsIn_of_wp_marks (F := FW none) hfn hbody trivial ?_)
    refine ihc none (.inl rfl) w A β base _ (a.tmps :: acts) _ (enter_rel hr hargs fn.ntmps) ?_
    intro a' w' A' β' hd hr' ht
    refine bodyEnd he hr.top hr.low hd rfl hr' ht (fun w'' hr'' ht'' => ?_)
    obtain ⟨v, hv, hrep⟩ := results_run hr'' hres
    have hstk' := hr''.stk
    rw [hstk] at hstk'
    cases hstk' with
    | cons hfr hrest =>
      have hback : Rel w'' A' β' base { fr := fr, stk := stk, bk := σ1.bk, loop := σ1.loop } a.tmps acts := ⟨hfr, hrest, hr''.blk, hr''.inj, hr''.low, hr''.top, hr''.glo, by
        show LoopRep w'' A' β' base σ1.loop acts
        have hlp := hr''.lp
        cases hl1 : σ1.loop with
        | none => trivial
        | some L =>
          rw [hl1] at hlp hfit
          obtain ⟨l, D, fn, ts, pre, post, h1, h2, h3, h4⟩ := hlp
          have hsl := hrest.length
          have hfit' : L.depth ≤ stk.length := by simpa [loopFits] using hfit
          cases pre with
          | nil =>
            simp only [List.nil_append, List.cons.injEq] at h2
            have := congrArg List.length h2.2
            simp only [List.length_cons] at this
            omega
          | cons x pre =>
            simp only [List.cons_append, List.cons.injEq] at h2
            exact ⟨l, D, fn, ts, pre, post, h1, h2.2, h3, h4⟩⟩
      exact ⟨v, hv, ihl ro w'' A' β' base _ acts Q (hback.putA o.dst hrep) (hq.trans (.same (put_defers _ _ _)) ht'')⟩
  | @yield R o l σ σ1 σ2 σ' fo args L L1 L2 e fr0 gh frI stk stk' hw hp hf hL hs hstk hdep hsz hna hnb _ hL1 hs1 hd1 _ hL2 hs2 hd2 hstk2 _ iha ihb ihl =>
    intro ro w A β base a acts Q hr hq
    unfold wpListIn
    rw [if_pos (wanted_spec hr hw)]
    exact round_sound hp hf hL hs hstk hdep hsz hna hnb iha hL1 hs1 hd1 ihb hL2 hs2 hd2 hstk2 hr fun a' w' A' β' hd hr' ht => ihl ro w' A' β' base a' acts Q hr' (hq.trans hd ht)
  | @ranged g ps assign body f caps fn c σ σ1 e1 e L1 fr gh stk hl hg hb _ he hres hL1 hlv hdep hstk ih =>
    intro ro hro w A β base a acts Q hr hq
    obtain rfl : ro = none := by
      rcases hro with h | h
      · exact h
      · simp [noRange] at h
    refine wpIn_rangeFunc fun fn0 _ => ?_
    have hgr := eval_rep (hr.forget yldId) g
    rw [hg] at hgr
    simp only [Rep] at hgr
    obtain ⟨vc, hgv, hcaps⟩ := hgr
    obtain ⟨hfn, hbody, hrun⟩ := body_spec hb
    have hcl : D.hasL yldId caps = false := by
      have := (unused_forget yldId σ).eval g
      rw [hg] at this
      simpa [D.has] using this
    refine ⟨w.heap.size + 1, [mark w.heap.size], rangedW w fn0 a.tmps ps assign body, { target := .fn (.func f) vc.toArray, args := #[.func (.yield (w.heap.size + 1)) #[] #[]] }, rangedW w fn0 a.tmps ps assign body, f,
      #[.func (.yield (w.heap.size + 1)) #[] #[]] ++ vc.toArray, rangedW w fn0 a.tmps ps assign body, run_enterLoop_outer _ _ _ _ _, ?_, fun _ _ => trivial, ?_, fun e => (by cases e), ?_⟩
    · simp only [resolve, hgv]
      simp [go_sem]
    · simp [invoke, go_sem, hrun]
    · have hrel0 := ranged_rel (fn := fn0) (ps := ps) (assign := assign) (body := body) hr hcaps hcl fn.ntmps
      have htw : Turn A A base w (rangedW w fn0 a.tmps ps assign body) := rangedW_turn hr.low hr.top
      have eargs : (#[Value.func (.yield (w.heap.size + 1)) #[] #[]] ++ vc.toArray) = (Value.func (.yield (w.heap.size + 1)) #[] #[] :: vc).toArray := by simp
      rw [eargs]
      refine callsIn_of_wp_marks (F := FW none) hfn hbody trivial ?_
      refine ih none (.inl rfl) _ A _ base { tmps := _, defers := [] } (a.tmps :: #[.int .i64 ((w.heap.size + 1 : Nat) : Int)] :: acts) _ hrel0 ?_
      intro a1 w1 A1 β1 hd1 hr1 ht1
      refine bodyEnd he hrel0.top hrel0.low hd1 rfl hr1 ht1 (fun w2 hr2 ht2 => ?_)
      obtain ⟨v, hv, _⟩ := results_run (fn := fn) (ds := []) hr2 (by rw [hres]; rfl)
      refine ⟨v, hv, ?_⟩
      have hlp := hr2.lp
      rw [hL1] at hlp
      obtain ⟨l, D, fn1, ts, pre, post, h1, h2, h3, h4, h5, h6⟩ := hlp
      have hal := hr.stk.length
      have hpos : l = w.heap.size + 1 ∧ pre = [] ∧ ts = a.tmps ∧ acts = post := by
        have hl := congrArg List.length h2
        simp only [List.length_cons, List.length_append] at hl
        cases pre with
        | nil =>
          simp only [List.nil_append, List.cons.injEq, Array.mk.injEq, Value.int.injEq, true_and, and_true] at h2
          obtain ⟨rfl, h, rfl⟩ := h2
          exact ⟨by omega, rfl, rfl, rfl⟩
        | cons _ _ => simp only [List.length_cons] at hl; omega
      obtain ⟨rfl, rfl, rfl, rfl⟩ := hpos
      have hnb : L1.state.state ≠ .busy := by
        intro e
        cases hs : L1.state with
        | ready => rw [hs] at e; cases e
        | busy => rw [hs] at hlv; cases hlv
        | done c => rw [hs] at e; cases e
      refine ⟨_, _, run_endLoop h4 hnb, ?_⟩
      -- back in the frame of the statement
      have hst := hr2.stk
      rw [hstk] at hst
      cases hst with
      | cons hf0 hrest0 =>
      cases hrest0 with
      | cons hf1 hrest =>
      have hb0 : Rel w2 A1 β1 base { fr := fr, stk := stk, bk := σ1.bk } a.tmps acts := ⟨hf0, hrest, hr2.blk, hr2.inj, hr2.low, hr2.top, hr2.glo, trivial⟩
      have hno : w.heap.size + 1 < w2.heap.size := (Array.getElem?_eq_some_iff.1 h4).1
      have hfin := hb0.putObj (o' := .loop { state := .exhausted, pending := L1.state.jump, fn := fn1, tmps := a.tmps, params := L1.ps, assign := L1.assign, body := L1.body, defers := D }) h4 rfl h5 trivial
      have hturn := (htw.trans ht2).putObj (o' := .loop { state := .exhausted, pending := L1.state.jump, fn := fn1, tmps := a.tmps, params := L1.ps, assign := L1.assign, body := L1.body, defers := D }) h4 rfl h6 (fun ha => by have := hr.low _ ha; omega) (fun x hx _ => by
        have := (Array.getElem?_eq_some_iff.1 hx).1; omega)
      have hmarks : Marks w (w2.putObj (w.heap.size + 1) (.loop { state := .exhausted, pending := L1.state.jump, fn := fn1, tmps := a.tmps, params := L1.ps, assign := L1.assign, body := L1.body, defers := D })) A1 a { a with defers := [mark w.heap.size] ++ a.defers } := by
        refine ⟨[w.heap.size], rfl, by simp, fun E hE => ?_⟩
        simp only [List.mem_singleton] at hE
        subst hE
        refine ⟨Nat.le_refl _, fun ha => ?_, ?_⟩
        · have := ht2.side.new _ _ rangedW_dfr rfl ha
          exact Nat.lt_irrefl _ (hr.low _ this)
        · rw [World.putObj_heap_other (by omega)]
          exact ht2.side.keep _ _ rangedW_dfr rfl
      have hQ := hq { a with defers := [mark w.heap.size] ++ a.defers } _ A1 β1 hmarks hfin hturn
      cases hs : L1.state with
      | ready => rw [hs] at hlv; cases hlv; rw [hs] at hQ; exact hQ
      | busy => rw [hs] at hlv; cases hlv
      | done c =>
        rw [hs] at hlv hQ
        cases c <;> simp only [LSt.leaves] at hlv <;> first | (cases hlv; done) | skip
        · cases hlv; exact wpIn_exit hQ
        · cases hlv; exact wpIn_ret hQ
  | region _ ih => intro ro _ w A β base a acts Q hr hq; exact wpIn_region_list (ih ro w A β base a acts Q hr hq)
  | skip => intro ro _ w A β base a acts Q hr hq; exact wpIn_skip (hq a w A β (.same rfl) hr (.refl _ _ _))
  | ret => intro ro _ w A β base a acts Q hr hq; exact wpIn_ret (hq a w A β (.same rfl) hr (.refl _ _ _))
  | exit => intro ro _ w A β base a acts Q hr hq; exact wpIn_exit (hq a w A β (.same rfl) hr (.refl _ _ _))
  | seq _ _ ih1 ih2 =>
    intro ro hro w A β base a acts Q hr hq
    have h1 := hro.imp_right (fun h => by simpa [noRange] using h)
    exact wpIn_seq (ih1 ro (h1.imp_right And.left) w A β base a acts _ hr fun a' w' A' β' hd hr' ht => ih2 ro (h1.imp_right And.right) w' A' β' base a' acts Q hr' (hq.trans hd ht))
  | leave _ hne ih =>
    intro ro hro w A β base a acts Q hr hq
    have h1 := hro.imp_right (fun h => by simpa [noRange] using h)
    exact wpIn_seq (ih ro (h1.imp_right And.left) w A β base a acts _ hr (by rw [Exit.then_of_ne hne]; exact hq))
  | @cond c x y b σ σ' e hc _ ih =>
    intro ro hro w A β base a acts Q hr hq
    have h0 := hro.imp_right (fun h => by simpa [noRange] using h)
    have h1 := eval_rep hr c
    rw [hc] at h1
    simp only [Rep, RepS] at h1
    exact wpIn_cond h1 (ih ro (h0.imp_right (fun h => by cases b; exact h.2; exact h.1)) w A β base a acts Q hr hq)
  | @block id c σ σ' e _ ih =>
    intro ro hro w A β base a acts Q hr hq
    refine wpIn_block (ih ro hro w A β base a acts _ hr fun a' w' A' β' hd hr' ht => ?_)
    have := hq a' w' A' β' hd hr' ht
    cases e with
    | normal => exact this
    | ret => exact this
    | exit i =>
      by_cases hi : i = id
      · subst hi; simp only [if_true] at this; simp only [Ex.out, Exit.inBlock, if_true]; exact this
      · rw [if_neg (by simp [hi])] at this; simp only [Ex.out, Exit.inBlock, if_neg hi]; exact this
  | loop _ ih =>
    intro ro hro w A β base a acts Q hr hq
    obtain ⟨n, hn⟩ := ih ro hro
    exact wpIn_loop_rounds n (hn w A β base a acts Q hr hq)
  | round _ _ ih1 ih2 =>
    intro ro hro
    obtain ⟨n, hn⟩ := ih2 ro hro
    refine ⟨n + 1, fun w A β base a acts Q hr hq => ?_⟩
    rw [roundsIn_succ]
    exact ih1 ro hro w A β base a acts _ hr fun a' w' A' β' hd hr' ht => hn w' A' β' base a' acts Q hr' (hq.trans hd ht)
  | last _ hne ih =>
    intro ro hro
    refine ⟨1, fun w A β base a acts Q hr hq => ?_⟩
    rw [roundsIn_succ]
    exact ih ro hro w A β base a acts _ hr (by rw [Exit.then_of_ne hne]; exact hq)
  | @weak j σ σ1 σ' e hp hw _ ih =>
    cases j with
    | code c => intro ro hro w A β base a acts Q hr hq; obtain ⟨β', hr'⟩ := hw w A β base a.tmps acts hr; exact ih ro hro w A β' base a acts Q hr' hq
    | ops R l => intro ro w A β base a acts Q hr hq; obtain ⟨β', hr'⟩ := hw w A β base a.tmps acts hr; exact ih ro w A β' base a acts Q hr' hq
    | rounds c => intro ro hro; obtain ⟨n, hn⟩ := ih ro hro; exact ⟨n, fun w A β base a acts Q hr hq => let ⟨β', hr'⟩ := hw w A β base a.tmps acts hr; hn w A β' base a acts Q hr' hq⟩
    | draws R p k l => cases hp
  | @late j σ σ1 σ' e hp _ hw ih =>
    have key : ∀ {base : Nat} {acts : List (Array Value)} {A : Nat → Prop} {a : Act} {w : World} {K : Act → World → Prop}, Aft σ' base acts A a w K → Aft σ1 base acts A a w K :=
      fun hq a' w' A' β' hd hr ht => let ⟨β'', hr'⟩ := hw w' A' β' _ _ _ hr; hq a' w' A' β'' hd hr' ht
    cases j with
    | code c => intro ro hro w A β base a acts Q hr hq; exact ih ro hro w A β base a acts Q hr (key hq)
    | ops R l => intro ro w A β base a acts Q hr hq; exact ih ro w A β base a acts Q hr (key hq)
    | rounds c => intro ro hro; obtain ⟨n, hn⟩ := ih ro hro; exact ⟨n, fun w A β base a acts Q hr hq => hn w A β base a acts Q hr (key hq)⟩
    | draws R p k l => cases hp
  | @wipe j q σ σ' e hp _ ih =>
    cases j with
    | code c => intro ro hro w A β base a acts Q hr hq; exact ih ro hro w A β base a acts Q (hr.wipe q) hq
    | ops R l => intro ro w A β base a acts Q hr hq; exact ih ro w A β base a acts Q (hr.wipe q) hq
    | rounds c => intro ro hro; obtain ⟨n, hn⟩ := ih ro hro; exact ⟨n, fun w A β base a acts Q hr hq => hn w A β base a acts Q (hr.wipe q) hq⟩
    | draws R p k l => cases hp
  | @after R l q σ σ' _ ih => intro ro w A β base a acts Q hr hq; exact ih ro w A β base a acts Q hr fun a' w' A' β' hd hr' ht => hq a' w' A' β' hd (hr'.wipe q) ht
  | dnil => exact .nil
  | dstep h _ ih => exact .cons (h.mono fun _ _ _ h => h.elim) ih
  | dother h1 _ h3 _ ih1 ih2 => exact .cons (.oth h1 ih1 h3) ih2
  | drawn hm ok hinv _ ih => intro ro _ w A β base a acts Q hr hq; exact drawn_sound hF (fun _ _ _ h => h) hm ok hinv ih hr hq
end
end Go.Dam
end

section
namespace Go.Dam
open Go Go.RowKit
set_option linter.unusedSectionVars false
variable [Glo]
set_option linter.unusedSimpArgs false
set_option linter.unusedVariables false

/-- A result, its own slices handed over: the result, the blocks that it shares, the blocks that it hands over. -/
def fin (bk : Nat → Option Blk) : D → Option (D × List Nat × List Nat)
  | .undef => some (.undef, [], [])
  | .v x => some (.v x, [], [])
  | .sh n cs => some (.sh n cs, [], [])
  | .rc cs => some (.rc cs, [], [])
  | .emp => some (.emp, [], [])
  | .sl id off n sz => match bk id with
    | none => none
    | some b => if off + n * sz ≤ b.cells.length ∧ b.ro = false then
        match shareAll (share bk depth) ((b.cells.drop off).take (n * sz)) with
        | none => none
        | some (cs, ids) => some (.ow n sz cs, ids, [id])
      else none
  | .agg cs => match finL cs with
    | none => none
    | some (ds, i, j) => some (.agg ds, i, j)
  | .tup cs => match finL cs with
    | none => none
    | some (ds, i, j) => some (.tup ds, i, j)
  | _ => none
where
  finL : List D → Option (List D × List Nat × List Nat)
  | [] => some ([], [], [])
  | d :: ds => match fin bk d, finL ds with
    | some (e, i, j), some (es, is, js) => some (e :: es, i ++ is, j ++ js)
    | _, _ => none

/-- A result, told as shared content. -/
def finS (bk : Nat → Option Blk) : D → Option (D × List Nat)
  | .tup cs => match shareAll (share bk depth) cs with
    | none => none
    | some (ds, ids) => some (.tup ds, ids)
  | d => share bk depth d

def finish (bk : Nat → Option Blk) (d : D) : Option D :=
  match fin bk d with
  | some (e, sh, own) => if own.Nodup ∧ (own.all fun i => !sh.contains i) = true then some e else (finS bk d).map (·.1)
  | none => (finS bk d).map (·.1)

/-- What reads so reads so, too. -/
def Reads (e e' : D) : Prop := ∀ (w : World) (A : Nat → Prop) (u : Value), RepS w A e u → RepS w A e' u
theorem Reads.refl (e : D) : Reads e e := fun _ _ _ h => h

inductive ReadsL : List D → List D → Prop
  | nil : ReadsL [] []
  | cons {d e : D} {ds es : List D} : Reads d e → ReadsL ds es → ReadsL (d :: ds) (e :: es)

theorem ReadsL.length {ds es : List D} (h : ReadsL ds es) : ds.length = es.length := by
  induction h with
  | nil => rfl
  | cons _ _ ih => simp [ih]
theorem ReadsL.nil_iff {ds es : List D} (h : ReadsL ds es) : ds = [] ↔ es = [] := by
  cases h <;> simp
theorem ReadsL.refl : ∀ ds : List D, ReadsL ds ds
  | [] => .nil
  | d :: ds => .cons (.refl d) (.refl ds)
theorem ReadsL.repL {ds es : List D} (h : ReadsL ds es) {w : World} {A : Nat → Prop} {vs : List Value} (hr : RepL w A ds vs) : RepL w A es vs := by
  induction h generalizing vs with
  | nil => exact hr
  | cons h1 _ ih =>
    simp only [RepL] at hr ⊢
    obtain ⟨x, xs, rfl, k1, k2⟩ := hr
    exact ⟨x, xs, rfl, h1 _ _ _ k1, ih k2⟩
theorem ReadsL.repAt {ds es : List D} (h : ReadsL ds es) {w : World} {A : Nat → Prop} {ad : Addr} (hr : RepAt w A ds ad) : RepAt w A es ad := by
  induction h generalizing ad with
  | nil => exact hr
  | cons h1 _ ih =>
    simp only [RepAt] at hr ⊢
    obtain ⟨⟨u, k1, k2⟩, k3⟩ := hr
    exact ⟨⟨u, k1, h1 _ _ _ k2⟩, ih k3⟩
theorem ReadsL.agg {ds es : List D} (h : ReadsL ds es) : Reads (.agg ds) (.agg es) := fun w A u hr => by
  simp only [RepS] at hr ⊢
  obtain ⟨vs, rfl, hr⟩ := hr
  exact ⟨vs, rfl, h.repL hr⟩
theorem ReadsL.sh {ds es : List D} (h : ReadsL ds es) (n : Nat) : Reads (.sh n ds) (.sh n es) := fun w A u hr => by
  simp only [RepS] at hr ⊢
  obtain ⟨o, c, rfl, h1, h2, h3⟩ := hr
  exact ⟨o, c, rfl, h1, fun hne => h2 (hne.imp id fun hne e => hne (h.nil_iff.1 e)), h.repAt h3⟩

section
variable {P : Program} {w : World} {A : Nat → Prop} {β : Env} {base : Nat} {σ : St} {tmps : Array Value} {acts : List (Array Value)}

/-- Where the blocks handed over lie. -/
inductive Placed (w : World) (σ : St) (β : Env) : List Nat → List (Option Addr) → Prop
  | nil : Placed w σ β [] []
  | gap {id : Nat} {ids : List Nat} {bl : List (Option Addr)} : Placed w σ β ids bl → Placed w σ β (id :: ids) (none :: bl)
  | lies {id : Nat} {ids : List Nat} {bl : List (Option Addr)} {ad : Addr} {off : Nat} {b : Blk} : σ.bk id = some b → b.ro = false → β id = some ad → Placed w σ β ids bl → Placed w σ β (id :: ids) (some (plusOff ad off) :: bl)

theorem Placed.append {ids js : List Nat} {bl bm : List (Option Addr)} (h : Placed w σ β ids bl) (k : Placed w σ β js bm) : Placed w σ β (ids ++ js) (bl ++ bm) := by
  induction h with
  | nil => exact k
  | gap _ ih => exact .gap ih
  | lies h1 h2 h3 _ ih => exact .lies h1 h2 h3 ih

theorem Placed.mem {ids : List Nat} {bl : List (Option Addr)} (h : Placed w σ β ids bl) : ∀ a, some a ∈ bl → ∃ id ∈ ids, ∃ b ad, σ.bk id = some b ∧ b.ro = false ∧ β id = some ad ∧ a.block = ad.block := by
  induction h with
  | nil => intro a h; cases h
  | gap _ ih =>
    intro a h
    simp at h
    obtain ⟨id, h1, h2⟩ := ih a h
    exact ⟨id, by simp [h1], h2⟩
  | @lies id ids bl ad off b h1 h2 h3 _ ih =>
    intro a h
    simp only [List.mem_cons, Option.some.injEq] at h
    rcases h with rfl | h
    · exact ⟨id, by simp, b, ad, h1, h2, h3, rfl⟩
    · obtain ⟨i, k1, k2⟩ := ih a h
      exact ⟨i, by simp [k1], k2⟩

theorem Placed.apart (hrel : Rel w A β base σ tmps acts) {ids : List Nat} {bl : List (Option Addr)} (h : Placed w σ β ids bl) (hn : ids.Nodup) : bl.Pairwise fun x y => ∀ a b, x = some a → y = some b → a.block ≠ b.block := by
  induction h with
  | nil => exact .nil
  | gap _ ih => rw [List.nodup_cons] at hn; exact .cons (fun _ _ a b h => by cases h) (ih hn.2)
  | @lies id ids bl ad off b h1 h2 h3 ht ih =>
    rw [List.nodup_cons] at hn
    refine .cons (fun y hy a b' ha hb' => ?_) (ih hn.2)
    cases ha
    subst hb'
    obtain ⟨i, k1, b2, ad2, k2, k3, k4, k5⟩ := ht.mem b' hy
    rw [k5]
    intro e
    have : id = i := hrel.inj id i ad ad2 (by simp [h1]) (by simp [k2]) h3 k4 e
    exact hn.1 (this ▸ k1)

mutual
theorem fin_spec (hrel : Rel w A β base σ tmps acts) {A' : Nat → Prop} (hA : ∀ k, A k → A' k) : ∀ (d e : D) (sh own : List Nat) (u : Value), fin σ.bk d = some (e, sh, own) → (∀ i ∈ sh, Sees σ β A' i) → Rep w A β d u →
    ∃ bl, RepO w A' e u bl ∧ Placed w σ β own bl
  | .undef, e, sh, own, u, h, _, hr => by simp [fin] at h; obtain ⟨rfl, rfl, rfl⟩ := h; exact ⟨[], by simp [RepO, RepS], .nil⟩
  | .v x, e, sh, own, u, h, _, hr => by simp [fin] at h; obtain ⟨rfl, rfl, rfl⟩ := h; simp only [Rep, RepS] at hr; exact ⟨[], by simp [RepO, RepS, hr], .nil⟩
  | .sh n cs, e, sh, own, u, h, _, hr => by
    simp [fin] at h; obtain ⟨rfl, rfl, rfl⟩ := h
    simp only [Rep] at hr
    exact ⟨[], by simp only [RepO]; exact ⟨RepS.mono (fun _ _ => rfl) hA _ _ hr, trivial⟩, .nil⟩
  | .emp, e, sh, own, u, h, _, hr => by
    simp [fin] at h; obtain ⟨rfl, rfl, rfl⟩ := h
    simp only [Rep] at hr
    exact ⟨[], by simp only [RepO]; exact ⟨RepS.mono (fun _ _ => rfl) hA _ _ hr, trivial⟩, .nil⟩
  | .rc cs, e, sh, own, u, h, _, hr => by
    simp [fin] at h; obtain ⟨rfl, rfl, rfl⟩ := h
    simp only [Rep] at hr
    exact ⟨[], by simp only [RepO]; exact ⟨RepS.mono (fun _ _ => rfl) hA _ _ hr, trivial⟩, .nil⟩
  | .sl id off n sz, e, sh, own, u, h, hk, hr => by
    simp only [fin] at h
    split at h
    · cases h
    next b hb =>
      split at h
      next hl =>
        split at h
        · cases h
        next cs ids h1 =>
          simp at h; obtain ⟨rfl, rfl, rfl⟩ := h
          simp only [Rep] at hr
          obtain ⟨o, c, rfl, hr⟩ := hr
          have hcl := shareAll_length _ _ _ h1
          rcases hr with ⟨hn0, rfl⟩ | ⟨hnr, ad, hβ, rfl, cc, T, fz, hob, hroom⟩
          · obtain rfl : n = 0 := by omega
            have : cs = [] := List.length_eq_zero_iff.1 (by rw [hcl]; simp)
            subst this
            exact ⟨[none], by simp only [RepO]; exact ⟨o, 0, rfl, .inl (by simp)⟩, .gap .nil⟩
          · rcases hrel.blk id b hb with ⟨h2, _⟩ | ⟨ad', h2, h3⟩
            · rw [hβ] at h2; cases h2
            · rw [hβ] at h2; cases h2
              obtain ⟨c2, T2, hob2⟩ := h3.obj
              rw [hob2] at hob; cases hob
              refine ⟨[some (plusOff ad off)], ?_, .lies hb hl.2 hβ .nil⟩
              simp only [RepO]
              refine ⟨_, c, rfl, .inr ⟨by omega, _, rfl, rfl, rfl, ⟨_, _, hob2, by simpa using hroom, by simp; omega⟩, ?_⟩⟩
              exact shareAll_at (ok := fun i => Sees σ β A' i) (fun d e ids u h1 h2 h3 => share_spec hrel hA depth d e ids u h1 h2 h3) _ _ _ _ h1 hk ((h3.cells.drop h3.spot off).take rfl _)
      · cases h
  | .agg cs, e, sh, own, u, h, hk, hr => by
    simp only [fin] at h
    split at h
    · cases h
    next ds i j h1 =>
      simp at h; obtain ⟨rfl, rfl, rfl⟩ := h
      simp only [Rep] at hr
      obtain ⟨vs, rfl, hr⟩ := hr
      obtain ⟨bl, k1, k2⟩ := finL_spec hrel hA cs ds i j vs h1 hk hr
      exact ⟨bl, by simp only [RepO]; exact ⟨vs, rfl, k1⟩, k2⟩
  | .tup cs, e, sh, own, u, h, hk, hr => by
    simp only [fin] at h
    split at h
    · cases h
    next ds i j h1 =>
      simp at h; obtain ⟨rfl, rfl, rfl⟩ := h
      simp only [Rep] at hr
      obtain ⟨vs, rfl, hr⟩ := hr
      obtain ⟨bl, k1, k2⟩ := finL_spec hrel hA cs ds i j vs h1 hk hr
      exact ⟨bl, by simp only [RepO]; exact ⟨vs, rfl, k1⟩, k2⟩
  | .ow _ _ _, e, sh, own, u, h, _, _ => by simp [fin] at h
  | .ptr _ _, e, sh, own, u, h, _, _ => by simp [fin] at h
  | .pel _ _ _ _, e, sh, own, u, h, _, _ => by simp [fin] at h
  | .oc _, e, sh, own, u, h, _, _ => by simp [fin] at h
  | .shp _ _, e, sh, own, u, h, _, _ => by simp [fin] at h
  | .fn _ _, e, sh, own, u, h, _, _ => by simp [fin] at h
theorem finL_spec (hrel : Rel w A β base σ tmps acts) {A' : Nat → Prop} (hA : ∀ k, A k → A' k) : ∀ (ds es : List D) (sh own : List Nat) (vs : List Value), fin.finL σ.bk ds = some (es, sh, own) → (∀ i ∈ sh, Sees σ β A' i) → RepLs w A β ds vs →
    ∃ bl, RepOs w A' es vs bl ∧ Placed w σ β own bl
  | [], es, sh, own, vs, h, _, hr => by
    simp [fin.finL] at h; obtain ⟨rfl, rfl, rfl⟩ := h
    simp [RepLs] at hr
    exact ⟨[], by simp [RepOs, hr], .nil⟩
  | d :: ds, es, sh, own, vs, h, hk, hr => by
    simp only [fin.finL] at h
    split at h
    next e i j es' is js h1 h2 =>
      simp at h; obtain ⟨rfl, rfl, rfl⟩ := h
      simp only [RepLs] at hr
      obtain ⟨x, xs, rfl, r1, r2⟩ := hr
      obtain ⟨b1, k1, k2⟩ := fin_spec hrel hA d e i j x h1 (fun z hz => hk z (by simp [hz])) r1
      obtain ⟨b2, k3, k4⟩ := finL_spec hrel hA ds es' is js xs h2 (fun z hz => hk z (by simp [hz])) r2
      exact ⟨b1 ++ b2, by simp only [RepOs]; exact ⟨x, xs, b1, b2, rfl, rfl, k1, k3⟩, k2.append k4⟩
    · cases h
end

theorem RepL.repOs {A' : Nat → Prop} : ∀ (cs : List D) (vs : List Value), (∀ d ∈ cs, ∀ u, RepS w A' d u → RepO w A' d u []) → RepL w A' cs vs → RepOs w A' cs vs []
  | [], vs, _, h => by simp only [RepL] at h; simp [RepOs, h]
  | d :: ds, vs, hd, h => by
    simp only [RepL] at h
    obtain ⟨x, xs, rfl, h1, h2⟩ := h
    simp only [RepOs]
    exact ⟨x, xs, [], [], rfl, rfl, hd d (by simp) x h1, RepL.repOs ds xs (fun e he => hd e (by simp [he])) h2⟩

mutual
theorem RepS.repO {A' : Nat → Prop} : ∀ (d : D) (u : Value), RepS w A' d u → RepO w A' d u []
  | .undef, _, h => by simp only [RepO]; exact ⟨h, trivial⟩
  | .v _, _, h => by simp only [RepO]; exact ⟨h, trivial⟩
  | .sh _ _, _, h => by simp only [RepO]; exact ⟨h, trivial⟩
  | .shp _ _, _, h => by simp only [RepO]; exact ⟨h, trivial⟩
  | .rc _, _, h => by simp only [RepO]; exact ⟨h, trivial⟩
  | .oc _, _, h => by simp [RepS] at h
  | .pel _ _ _ _, _, h => by simp [RepS] at h
  | .emp, _, h => by simp only [RepO]; exact ⟨h, trivial⟩
  | .fn _ _, _, h => by simp only [RepO]; exact ⟨h, trivial⟩
  | .ow _ _ _, _, h => by simp [RepS] at h
  | .sl _ _ _ _, _, h => by simp [RepS] at h
  | .ptr _ _, _, h => by simp [RepS] at h
  | .agg cs, u, h => by
    simp only [RepS] at h
    obtain ⟨vs, rfl, h⟩ := h
    simp only [RepO]; exact ⟨vs, rfl, RepL.repO cs vs h⟩
  | .tup cs, u, h => by
    simp only [RepS] at h
    obtain ⟨vs, rfl, h⟩ := h
    simp only [RepO]; exact ⟨vs, rfl, RepL.repO cs vs h⟩
theorem RepL.repO {A' : Nat → Prop} : ∀ (cs : List D) (vs : List Value), RepL w A' cs vs → RepOs w A' cs vs []
  | [], vs, h => by simp only [RepL] at h; simp [RepOs, h]
  | d :: ds, vs, h => by
    simp only [RepL] at h
    obtain ⟨x, xs, rfl, h1, h2⟩ := h
    simp only [RepOs]
    exact ⟨x, xs, [], [], rfl, rfl, RepS.repO d x h1, RepL.repO ds xs h2⟩
end

theorem finS_spec (hrel : Rel w A β base σ tmps acts) {A' : Nat → Prop} (hA : ∀ k, A k → A' k) {d e : D} {sh : List Nat} {u : Value} (h : finS σ.bk d = some (e, sh)) (hk : ∀ i ∈ sh, Sees σ β A' i) (hr : Rep w A β d u) : RepO w A' e u [] := by
  unfold finS at h
  split at h
  next cs =>
    split at h
    · cases h
    next ds ids h1 =>
      simp at h; obtain ⟨rfl, rfl⟩ := h
      simp only [Rep] at hr
      obtain ⟨vs, rfl, hr⟩ := hr
      simp only [RepO]
      exact ⟨vs, rfl, RepL.repO _ _ (shareAll_spec (ok := fun i => Sees σ β A' i) (fun d e ids u h1 h2 h3 => share_spec hrel hA depth d e ids u h1 h2 h3) cs ds ids vs h1 hk hr)⟩
  · exact RepS.repO _ _ (share_spec hrel hA depth _ _ _ _ h hk hr)

/-- How a result is told: own slices handed over; or all shared. -/
inductive Fins (bk : Nat → Option Blk) (d e : D) : Prop
  | own {sh own : List Nat} : fin bk d = some (e, sh, own) → own.Nodup → (own.all fun i => !sh.contains i) = true → Fins bk d e
  | shared {sh : List Nat} {e0 : D} : share bk depth d = some (e0, sh) → Reads e0 e → Fins bk d e
  | sharedT {sh : List Nat} {cs ds es : List D} : d = .tup cs → shareAll (share bk depth) cs = some (ds, sh) → ReadsL ds es → e = .tup es → Fins bk d e

/-- The end of a function. -/
theorem finish_spec (hrel : Rel w A β base σ tmps acts) {d e : D} {u : Value} (h : Fins σ.bk d e) (hr : Rep w A β d u) :
    ∃ A' bl, RepO w A' e u bl ∧ Fresh w A' base bl ∧ (∀ k, A k → A' k) ∧ (∀ k, A' k → k < w.heap.size) ∧ (∀ k, A' k → k < base → A k) := by
  have main : ∀ (sh : List Nat), ∃ A' : Nat → Prop, (∀ k, A k → A' k) ∧ (∀ i ∈ sh, Sees σ β A' i) ∧ (∀ k, A' k → k < w.heap.size) ∧ (∀ k, A' k → k < base → A k) ∧ ∀ i b ad, i ∉ sh → σ.bk i = some b → b.ro = false → β i = some ad → ¬ A' ad.block := by
    intro sh
    refine ⟨fun k => A k ∨ ∃ i ∈ sh, ∃ b ad, σ.bk i = some b ∧ β i = some ad ∧ ad.block = k, fun k h => .inl h, fun i hi b ad hb ha => .inr ⟨i, hi, b, ad, hb, ha, rfl⟩, ?_, ?_, ?_⟩
    · rintro k (hk | ⟨i, _, b, ad, hb, ha, rfl⟩)
      · exact hrel.low k hk
      · exact blk_lt hrel hb ha
    · rintro k (hk | ⟨i, _, b, ad, hb, ha, rfl⟩) hlt
      · exact hk
      · rcases hrel.blk i b hb with ⟨h1, _⟩ | ⟨ad', h1, h2⟩
        · rw [ha] at h1; cases h1
        · rw [ha] at h1; cases h1
          have := h2.base
          omega
    · rintro i b ad hi hb hro ha (hk | ⟨j, hj, b', ad', hb', ha', he⟩)
      · rcases hrel.blk i b hb with ⟨h1, _⟩ | ⟨ad2, h1, h2⟩
        · rw [ha] at h1; cases h1
        · rw [ha] at h1; cases h1
          exact h2.own hro hk
      · exact hi (hrel.inj j i ad' ad (by simp [hb']) (by simp [hb]) ha' ha he ▸ hj)
  cases h with
  | shared h1 hrd =>
    rename_i sh e0
    obtain ⟨A', k1, k2, k3, k4, _⟩ := main sh
    exact ⟨A', [], RepS.repO _ _ (hrd _ _ _ (share_spec hrel k1 depth _ _ _ _ h1 k2 hr)), ⟨(fun ad h => by cases h), .nil⟩, k1, k3, k4⟩
  | sharedT hd h1 hrd he =>
    rename_i sh cs ds es
    subst hd he
    obtain ⟨A', k1, k2, k3, k4, _⟩ := main sh
    simp only [Rep] at hr
    obtain ⟨vs, rfl, hr⟩ := hr
    refine ⟨A', [], ?_, ⟨(fun ad h => by cases h), .nil⟩, k1, k3, k4⟩
    simp only [RepO]
    exact ⟨vs, rfl, RepL.repO _ _ (hrd.repL (shareAll_spec (ok := fun i => Sees σ β A' i) (fun d e ids u h1 h2 h3 => share_spec hrel k1 depth d e ids u h1 h2 h3) cs ds sh vs h1 k2 hr))⟩
  | own h1 hn ha =>
    rename_i sh own
    obtain ⟨A', k1, k2, k3, k4, k5⟩ := main sh
    obtain ⟨bl, r1, r2⟩ := fin_spec hrel k1 d e sh own u h1 k2 hr
    refine ⟨A', bl, r1, ⟨fun ad had => ?_, r2.apart hrel hn⟩, k1, k3, k4⟩
    obtain ⟨id, m1, b, a2, m2, m3, m4, m5⟩ := r2.mem ad had
    have hns : id ∉ sh := by
      have := List.all_eq_true.1 ha id m1
      simpa using this
    rcases hrel.blk id b m2 with ⟨q1, _⟩ | ⟨a3, q1, q2⟩
    · rw [m4] at q1; cases q1
    · rw [m4] at q1; cases q1
      rw [m5]
      exact ⟨q2.base, blk_lt hrel m2 m4, k5 id b a2 hns m2 m3 m4⟩

/-- The state in which a function begins. -/
def St.start (args : List D) (nt : Nat) : St := { (St.enter { fr := { nt := 0, tm := fun _ => .undef }, stk := [], bk := fun _ => none } args nt) with stk := [] }

theorem start_rel {args : List D} {vs : List Value} (hargs : RepL w A args vs) (low : ∀ k, A k → k < w.heap.size) (glo : GloOK w A) (nt : Nat) :
    Rel w A (fun _ => none) w.heap.size (St.start args nt) (vs.toArray ++ Array.replicate (nt - vs.toArray.size) undef) [] := by
  have h0 : Rel w A (fun _ => none) w.heap.size { fr := { nt := 0, tm := fun _ => .undef }, stk := [], bk := fun _ => none } #[] [] :=
    ⟨⟨rfl, fun t => by simp [Rep, RepS]⟩, .nil, (fun i b h => by cases h), (fun i j a b h => absurd rfl h), low, Nat.le_refl _, glo, trivial⟩
  have h1 := enter_rel h0 (RepL.repLs args vs hargs) nt
  exact ⟨h1.fr, .nil, h1.blk, h1.inj, h1.low, h1.top, h1.glo, trivial⟩

/-- A FUNCTION IS WHAT ITS BODY DOES. -/
theorem calls_of_runs {F : FuncId → List D → D → Prop} (hF : ∀ f as res, F f as res → CallsD P f as res) {f : FuncId} {fn : Func} {c : Code} (hb : bodyOf P f = some (fn, c)) {args : List D} {σ' : St} {e : Ex} {ds : List D} {res : D}
    (hr : Runs P F (.code c) (St.start args fn.ntmps) e σ') (he : e = .normal ∨ e = .ret) (hres : resD P σ' fn.results.toList = some ds) (hfin : Fins σ'.bk (resOut ds) res) : CallsD P f args res := by
  intro w A vs hargs low glo
  obtain ⟨hfn, hbody, _⟩ := body_spec hb
  have hs : Sound P F (.code c) (St.start args fn.ntmps) e σ' := runs_sound hF hr
  refine (callsIn_wide (n := 0)).1 (callsIn_of_wp_marks (F := FW none) hfn hbody trivial (hs none (.inl rfl) w A _ w.heap.size { tmps := _, defers := [] } [] _ (start_rel hargs low glo fn.ntmps) ?_))
  intro a' w1 A' β' hd hrel1 ht1
  refine bodyEnd he (Nat.le_refl _) low hd rfl hrel1 ht1 (fun w' hrel ht => ?_)
  obtain ⟨v, hv, hrep⟩ := results_run hrel hres
  obtain ⟨A2, bl, k1, k2, k3, k4, k5⟩ := finish_spec hrel hfin hrep
  exact ⟨v, hv, v, A2, bl, rfl, k1, k2, fun k hk => k3 k (ht.grows k hk), k4, fun k hk hlt => ht.old k (k5 k hk hlt) hlt, ht.below⟩

end
end Go.Dam
end
