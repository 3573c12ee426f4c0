/- The engine, part Q: an abstract machine for the program's functions, proved right against the model. No condition. -/
import Derived.Test.YtpbngkempchamaaDamO
set_option linter.unusedSectionVars false
set_option linter.unusedVariables false
set_option linter.unusedSimpArgs false
namespace Go.Dam
open Go Go.RowKit
set_option linter.unusedSectionVars false
variable [Glo]
set_option linter.unusedSimpArgs false
set_option linter.unusedVariables false

/-- The body of a function that has one. -/
def bodyOf (P : Program) (f : FuncId) : Option (Func × Code) :=
  match P.funcs[f]? with
  | none => none
  | some fn => if fn.name == "runtime.NumGoroutine" then none else match fn.body with
    | none => none
    | some c => some (fn, c)

def truthV (want : Bool) : Value → Option Bool
  | .bool b => some (b == want)
  | _ => some false
def truthD (want : Bool) : D → Option Bool
  | .v x => truthV want x
  | _ => none

/-- Is an operation wanted? -/
def wantedD (R : Array Oper) (o : Oper) (σ : St) : Option Bool :=
  match o.guard with
  | none => some true
  | some (j, want) => match (R[j]?).bind (·.dst) with
    | none => some false
    | some t => truthD want (σ.fr.tm t)

def St.enter (σ : St) (args : List D) (nt : Nat) : St :=
  { fr := { nt := args.length + (nt - args.length), tm := fun t => (args ++ List.replicate (nt - args.length) (D.v undef)).getD t .undef }, stk := σ.fr :: σ.stk, bk := σ.bk, loop := σ.loop }

def resD (P : Program) (σ : St) : List ResultVar → Option (List D)
  | [] => some []
  | .tmp t :: rs => (resD P σ rs).map (σ.fr.tm t :: ·)
  | .cell t ty :: rs => match (σ.fr.tm t).behind σ.bk with
    | none => none
    | some (cs, off) => match takeD P ty cs off, resD P σ rs with
      | some d, some ds => some (d :: ds)
      | _, _ => none

def resOut : List D → D
  | [d] => d
  | ds => .tup ds

/-- A call of a function value: its parts. -/
def callParts : Op → Option (Operand × Array Operand)
  | .call ⟨.value fo, args, _⟩ => some (fo, args)
  | _ => none

inductive Ex where
  | normal
  | exit (id : Nat)
  | ret
  deriving DecidableEq

def Ex.out : Ex → Exit
  | .normal => .normal
  | .exit id => .exit id
  | .ret => .ret

/-- An operation that enters no body of ours. -/
inductive OpStep (P : Program) (F : FuncId → List D → D → Prop) (o : Oper) (σ : St) : St → Prop
  | op {e : Eff} {id : Nat} {σ' : St} : opD P σ.bk (evalD σ) o.type o.op = some e → stepE σ o.dst id e = some σ' → OpStep P F o σ σ'
  | ext {fo : Operand} {args : Array Operand} {f : FuncId} {vs : List Value} {u : Value} : callParts o.op = some (fo, args) → evalD σ fo = .fn f [] → D.plains (args.toList.map (evalD σ)) = some vs →
      pureRun P (callFunc f vs.toArray) = some (.value u) → OpStep P F o σ (σ.put o.dst (D.ofV u))
  | call {fo : Operand} {args : Array Operand} {f : FuncId} {caps : List D} {id : Nat} {σ' : St} : callParts o.op = some (fo, args) → evalD σ fo = .fn f caps → (bodyOf P f).isSome = true →
      CallD F σ o.dst id f (args.toList.map (evalD σ) ++ caps) σ' → OpStep P F o σ σ'

/-- To know less. -/
structure WeakerS (σ σ' : St) : Prop where
  nt : σ'.fr.nt = σ.fr.nt
  tm : ∀ t, σ'.fr.tm t = σ.fr.tm t ∨ σ'.fr.tm t = .undef
  stk : σ'.stk = σ.stk
  bk : ∀ i, σ'.bk i = σ.bk i ∨ σ'.bk i = none
  lp : σ'.loop = σ.loop

section
variable {P : Program} {F : FuncId → List D → D → Prop}

theorem Rel.weakS {w : World} {A : Nat → Prop} {β : Env} {base : Nat} {σ σ' : St} {tmps : Array Value} {acts : List (Array Value)} (h : Rel w A β base σ tmps acts) (hw : WeakerS σ σ') : Rel w A β base σ' tmps acts where
  fr := ⟨hw.nt.trans h.fr.nt, fun t => by
    rcases hw.tm t with e | e
    · rw [e]; exact h.fr.tm t
    · rw [e]; simp [Rep, RepS]⟩
  stk := by rw [hw.stk]; exact h.stk
  blk := fun i b hb => by
    rcases hw.bk i with e | e <;> rw [e] at hb
    · exact h.blk i b hb
    · cases hb
  inj := fun i j a b hi hj => h.inj i j a b (fun e => hi (by rcases hw.bk i with h | h <;> rw [h]; exact e)) (fun e => hj (by rcases hw.bk j with h | h <;> rw [h]; exact e))
  low := h.low
  top := h.top
  glo := h.glo
  lp := by rw [hw.lp]; exact h.lp

/-- To know less, in other words. -/
def Weaker (σ σ' : St) : Prop := ∀ (w : World) (A : Nat → Prop) (β : Env) (base : Nat) (tmps : Array Value) (acts : List (Array Value)), Rel w A β base σ tmps acts → ∃ β' : Env, Rel w A β' base σ' tmps acts
theorem WeakerS.weaker {σ σ' : St} (h : WeakerS σ σ') : Weaker σ σ' := fun _ _ β _ _ _ hr => ⟨β, hr.weakS h⟩
theorem Weaker.refl (σ : St) : Weaker σ σ := fun _ _ β _ _ _ hr => ⟨β, hr⟩
theorem Weaker.trans {σ σ' σ'' : St} (h : Weaker σ σ') (k : Weaker σ' σ'') : Weaker σ σ'' := fun w A β base t a hr => let ⟨β', h'⟩ := h w A β base t a hr; k w A β' base t a h'

theorem eval_rep {w : World} {A : Nat → Prop} {β : Env} {base : Nat} {σ : St} {a : Act} {acts : List (Array Value)} (h : Rel w A β base σ a.tmps acts) (x : Operand) : Rep w A β (evalD σ x) (a.eval x) := by
  cases x with
  | tmp t => exact h.fr.tm t
  | const v => exact Rep.ofV v
  | global g =>
    show Rep w A β (gloD (Glo.g g)) _
    cases hg : Glo.g g with
    | nil => simp [gloD, Rep, RepS]
    | cons d ds =>
      have hne : Glo.g g ≠ [] := by rw [hg]; simp
      obtain ⟨h1, h2⟩ := h.glo g hne
      rw [hg] at h2
      exact ⟨⟨g, 0, none⟩, rfl, rfl, fun _ => h1, h2⟩
  | func f => simp only [evalD, Rep, Act.eval]; exact ⟨[], rfl, by simp [RepLs]⟩

theorem wanted_spec {w : World} {A : Nat → Prop} {β : Env} {base : Nat} {σ : St} {a : Act} {acts : List (Array Value)} (h : Rel w A β base σ a.tmps acts) {R : Array Oper} {o : Oper} {b : Bool} (hw : wantedD R o σ = some b) :
    Region.wanted o (yielded R a.tmps) = b := by
  unfold wantedD at hw
  unfold Region.wanted
  split at hw
  next hg => simp at hw; subst hw; simp [hg]
  next j want hg =>
    simp only [hg]
    split at hw
    next hd => simp at hw; subst hw; simp [yielded, hd]
    next t hd =>
      have ht := h.fr.tm t
      have hget : ∀ x : Value, (a.tmps.getD t Go.undef = x) → x ≠ Go.undef → a.tmps[t]? = some x := by
        intro x hx hne
        rw [Array.getD_eq_getD_getElem?] at hx
        cases hc : a.tmps[t]? with
        | none => rw [hc] at hx; exact absurd hx.symm hne
        | some y => rw [hc] at hx; simp at hx; rw [hx]
      unfold truthD at hw
      split at hw
      next x hx =>
        rw [hx] at ht
        simp only [Rep, RepS] at ht
        unfold truthV at hw
        split at hw
        next b' =>
          simp at hw; subst hw
          have := hget _ ht (by simp [Go.undef])
          simp [yielded, hd, this]
        next hnb =>
          simp at hw; subst hw
          have hy : yielded R a.tmps j = none := by
            simp only [yielded, hd, Option.bind_some]
            cases hc : a.tmps[t]? with
            | none => rfl
            | some y =>
              rw [Array.getD_eq_getD_getElem?, hc] at ht
              simp at ht
              subst ht
              cases y <;> first | rfl | exact absurd rfl (hnb _)
          rw [hy]; cases want <;> rfl
      · cases hw

theorem body_spec {f : FuncId} {fn : Func} {c : Code} (h : bodyOf P f = some (fn, c)) : P.funcs[f]? = some fn ∧ fn.body = some c ∧ ∀ (args : Array Value) (w : World), (callFunc f args).run P w = .ok (.enter f args) w := by
  unfold bodyOf at h
  split at h
  · cases h
  next fn' hf =>
    split at h
    · cases h
    next hn =>
      split at h
      · cases h
      next c' hb =>
        simp at h; obtain ⟨rfl, rfl⟩ := h
        refine ⟨hf, hb, fun args w => ?_⟩
        have hn' : (fn'.name == "runtime.NumGoroutine") = false := by simpa using hn
        have hn2 : ¬ fn'.name = "runtime.NumGoroutine" := by simpa using hn'
        simp [callFunc, hf, hn2, hb]

theorem callParts_run {w : World} {A : Nat → Prop} {β : Env} {o : Oper} {ρv : Operand → Value} {fo : Operand} {args : Array Operand} (h : callParts o.op = some (fo, args)) {f : FuncId} {vcaps : List Value} (hf : ρv fo = .func (.func f) #[] vcaps.toArray) :
    (execOp ρv o).run P w = (callFunc f ((args.toList.map ρv) ++ vcaps).toArray).run P w := by
  obtain ⟨dst, op, type, pos, after, guard⟩ := o
  cases op with
  | call c =>
    obtain ⟨callee, as, ts⟩ := c
    cases callee with
    | value g =>
      simp [callParts] at h
      obtain ⟨rfl, rfl⟩ := h
      simp only [execOp, resolve, hf, Deferred.ofValue, Sem.run_bind, Sem.run_pure, Result.andThen_ok, invoke]
      congr 2
      apply Array.ext'
      simp
    | _ => simp [callParts] at h
  | _ => simp [callParts] at h

/-- One operation, for the walk. -/
theorem opStep_sound (hF : ∀ f as res, F f as res → CallsD P f as res) {w : World} {A : Nat → Prop} {β : Env} {base : Nat} {σ σ' : St} {a : Act} {acts : List (Array Value)} (hrel : Rel w A β base σ a.tmps acts) {o : Oper} (h : OpStep P F o σ σ')
    {K : Act → World → Prop} {Q : Exit → Act → World → Prop} (hK : ∀ a' w' A' β', a'.defers = a.defers → Rel w' A' β' base σ' a'.tmps acts → Turn A A' base w w' → K a' w') : o.wp P a w K Q := by
  have hput : ∀ u, (a.put o.dst u).defers = a.defers := fun u => by cases o.dst <;> rfl
  cases h with
  | op h1 h2 =>
    obtain ⟨r, hr, hg⟩ := opD_sound hrel (eval_rep hrel) o h1
    obtain ⟨u, w', β', hrun, hrel', hturn⟩ := step_sound hrel hr hg h2
    unfold Oper.wp
    rcases hrun with h | ⟨h, rfl⟩ <;> rw [h]
    · exact hK _ w' A β' (hput u) hrel' hturn
    · exact hK _ w' A β' (hput _) hrel' hturn
  | @ext fo args f vs u h1 h2 h3 h4 =>
    have hfo := eval_rep hrel fo
    rw [h2] at hfo
    simp only [Rep, RepLs] at hfo
    obtain ⟨vc, hfo, rfl⟩ := hfo
    have hp := plains_spec (eval_rep hrel) _ _ h3
    unfold Oper.wp
    rw [callParts_run (w := w) (A := A) (β := β) h1 hfo, hp, List.append_nil, pureRun_run P w _ _ h4]
    exact hK _ w A β (hput u) (hrel.putA o.dst (Rep.ofV u)) (.refl _ _ _)
  | @call fo args f caps id _ h1 h2 h3 h4 =>
    have hfo := eval_rep hrel fo
    rw [h2] at hfo
    simp only [Rep] at hfo
    obtain ⟨vc, hfo, hcaps⟩ := hfo
    obtain ⟨⟨fn, c⟩, hb⟩ := Option.isSome_iff_exists.1 h3
    unfold Oper.wp
    rw [callParts_run (w := w) (A := A) (β := β) h1 hfo, (body_spec hb).2.2]
    have hargs : RepLs w A β (args.toList.map (evalD σ) ++ caps) (args.toList.map a.eval ++ vc) := (maps_rel (eval_rep hrel) _).append hcaps
    refine (call_sound hF hrel hargs h4).mono ?_
    rintro e w' ⟨v, A', β', rfl, hrel', hturn⟩
    exact hK _ w' A' β' (hput v) hrel' hturn

/-- One result variable is read. -/
def resOne (tmps : Array Value) : ResultVar → Sem Value
  | .tmp t => pure (tmps.getD t undef)
  | .cell a t => do loadVar t (← asAddr (tmps.getD a undef))

theorem asAddr_some (a : Addr) : asAddr (.pointer (some a)) = pure a := rfl

theorem results_eq (fn : Func) (tmps : Array Value) : results fn tmps = (do let vs ← fn.results.mapM (resOne tmps); pure (if h : vs.size = 1 then vs[0] else .tuple vs)) := rfl

theorem res_run {w : World} {A : Nat → Prop} {β : Env} {base : Nat} {σ : St} {tmps : Array Value} {acts : List (Array Value)} (hrel : Rel w A β base σ tmps acts) : ∀ (rs : List ResultVar) (ds : List D), resD P σ rs = some ds →
    ∃ vs : List Value, (rs.mapM (resOne tmps)).run P w = .ok vs w ∧ RepLs w A β ds vs
  | [], ds, h => by simp [resD] at h; subst h; exact ⟨[], rfl, by simp [RepLs]⟩
  | .tmp t :: rs, ds, h => by
    simp only [resD, Option.map_eq_some_iff] at h
    obtain ⟨es, h1, rfl⟩ := h
    obtain ⟨vs, k1, k2⟩ := res_run hrel rs es h1
    refine ⟨tmps.getD t undef :: vs, ?_, by simp only [RepLs]; exact ⟨_, _, rfl, hrel.fr.tm t, k2⟩⟩
    rw [List.mapM_cons]
    simp only [resOne, Sem.run_bind, Sem.run_pure, Result.andThen_ok, k1]
  | .cell t ty :: rs, ds, h => by
    simp only [resD] at h
    split at h
    · cases h
    next cs off hb =>
      split at h
      next d es hd h1 =>
        simp at h; subst h
        obtain ⟨vs, k1, k2⟩ := res_run hrel rs es h1
        have hne : cs ≠ [] := by
          rintro rfl
          unfold takeD at hd
          split at hd
          · cases hd
          · split at hd
            · split at hd
              next hlt => simp at hlt; omega
              · cases hd
            · simp at hd
        obtain ⟨ad, e1, e2, e3⟩ := behind_spec hrel (hrel.fr.tm t) hb hne
        obtain ⟨u, k3, k4⟩ := load_run (P := P) e2 e3 hd
        refine ⟨u :: vs, ?_, by simp only [RepLs]; exact ⟨_, _, rfl, k4, k2⟩⟩
        rw [List.mapM_cons]
        simp only [Sem.run_bind, Sem.run_pure, k1, show resOne tmps (.cell t ty) = (do loadVar ty (← asAddr (tmps.getD t undef))) from rfl, e1, asAddr_some, Result.andThen_ok, k3]
      · cases h

theorem results_run {w : World} {A : Nat → Prop} {β : Env} {base : Nat} {σ : St} {tmps : Array Value} {acts : List (Array Value)} (hrel : Rel w A β base σ tmps acts) {fn : Func} {ds : List D} (h : resD P σ fn.results.toList = some ds) :
    ∃ v, (results fn tmps).run P w = .ok v w ∧ Rep w A β (resOut ds) v := by
  obtain ⟨vs, k1, k2⟩ := res_run hrel _ ds h
  have hrun : (results fn tmps).run P w = .ok (if h : vs.toArray.size = 1 then vs.toArray[0] else .tuple vs.toArray) w := by
    rw [results_eq]
    simp only [Sem.run_bind, Array.mapM_eq_mapM_toList, Sem.run_map, k1, Result.andThen_ok, Sem.run_pure]
  refine ⟨_, hrun, ?_⟩
  have hlen := k2.length
  match ds, vs, k2, hlen with
  | [d], [v], k2, _ => simp only [RepLs] at k2; obtain ⟨x, xs, he, h1, h2⟩ := k2; simp at he; simp [resOut]; rw [he.1]; exact h1
  | [], [], k2, _ => simp [resOut, Rep, RepLs]
  | d1 :: d2 :: ds, v1 :: v2 :: vs, k2, _ => simp only [resOut, Rep]; exact ⟨_, by simp, k2⟩
  | [d], [], _, h => simp at h
  | [d], v1 :: v2 :: vs, _, h => simp at h
  | [], v :: vs, _, h => simp at h
  | d1 :: d2 :: ds, [], _, h => simp at h
  | d1 :: d2 :: ds, [v], _, h => simp at h

end
end Go.Dam
