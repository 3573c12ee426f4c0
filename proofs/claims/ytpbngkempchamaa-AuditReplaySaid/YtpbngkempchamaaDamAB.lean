/- The engine, part AB: an abstract machine for the program's functions, proved right against the model. No condition. -/
import Derived.Test.YtpbngkempchamaaDamAA
set_option linter.unusedSectionVars false
set_option linter.unusedVariables false
set_option linter.unusedSimpArgs false
namespace Go.Dam
open Go Go.RowKit
set_option linter.unusedSectionVars false
variable [Glo]
set_option linter.unusedSimpArgs false
set_option linter.unusedVariables false

/-! ### Any order is as good as the order of the text -/

theorem forget_id {d : D} {id : Nat} (h : d.has id = false) : d.forget id = d := by unfold D.forget; rw [h]; rfl

theorem forget_map {cs : List D} {id : Nat} (h : D.hasL id cs = false) : cs.map (D.forget id) = cs := by
  have : cs.map (D.forget id) = cs.map _root_.id := List.map_congr_left fun d hd => forget_id (hasL_mem h d hd)
  rw [this]; simp

theorem Unused.same {id : Nat} {σ : St} (h : Unused id σ) : σ.forget id = σ := by
  have hf : ∀ f : Fr, (∀ t, (f.tm t).has id = false) → f.forget id = f := fun f hf => by
    cases f with
    | mk nt tm => simp only [Fr.forget, Fr.mk.injEq, true_and]; funext t; exact forget_id (hf t)
  refine St.ext' (hf _ h.fr) ?_ ?_ (by
    show (if id = yldId then none else σ.loop) = σ.loop
    split
    · next e => exact (h.lp e).symm
    · rfl)
  · have : σ.stk.map (Fr.forget id) = σ.stk.map _root_.id := List.map_congr_left fun f hf' => hf f (h.stk f hf')
    simp only [St.forget]; rw [this]; simp
  · funext i
    simp only [St.forget]
    by_cases e : i = id
    · subst e; rw [if_pos rfl, h.no]
    · rw [if_neg e]
      cases hb : σ.bk i with
      | none => rfl
      | some b => simp only [Option.map_some, Option.some.injEq]; cases b with | mk cs ro => simp only [Blk.forget, Blk.mk.injEq, and_true]; exact forget_map (h.bk i _ hb)

def news (id : Nat) : List (List D) → List (Nat × List D)
  | [] => []
  | c :: cs => (id, c) :: news (id + 1) cs

theorem news_eq : ∀ (bs : List (List D)) (id n : Nat), (bs.zipIdx n).map (fun (cs, k) => (id + k, cs)) = news (id + n) bs
  | [], _, _ => rfl
  | c :: cs, id, n => by
    simp only [List.zipIdx_cons, List.map_cons, news]
    rw [news_eq cs id (n + 1)]; rfl

theorem news_ge : ∀ {bs : List (List D)} {id i : Nat} {cs : List D}, (i, cs) ∈ news id bs → id ≤ i ∧ cs ∈ bs
  | c :: bs, id, i, cs, h => by
    simp only [news, List.mem_cons, Prod.mk.injEq] at h
    rcases h with ⟨rfl, rfl⟩ | h
    · exact ⟨Nat.le_refl _, by simp⟩
    · obtain ⟨h1, h2⟩ := news_ge h; exact ⟨by omega, by simp [h2]⟩

theorem Unused.setB {id j : Nat} {σ : St} {b : Blk} (h : Unused id σ) (hne : id ≠ j) (hb : D.hasL id b.cells = false) : Unused id (σ.setB j b) where
  fr := h.fr
  stk := h.stk
  no := by simp only [St.setB]; rw [if_neg hne]; exact h.no
  lp := h.lp
  bk := fun i b' hb' => by
    simp only [St.setB] at hb'
    split at hb'
    · simp at hb'; subst hb'; exact hb
    · exact h.bk i b' hb'

theorem putBlocks_news : ∀ (bs : List (List D)) (id : Nat) (σ : St), (∀ i cs, (i, cs) ∈ news id bs → Unused i σ ∧ ∀ j cs', (j, cs') ∈ news id bs → D.hasL i cs' = false) →
    putBlocks σ id bs = { σ with bk := fun i => match newB i (news id bs) with | some b => some b | none => σ.bk i }
  | [], _, σ, _ => rfl
  | c :: cs, id, σ, h => by
    obtain ⟨h1, h2⟩ := h id c (by simp [news])
    have hstep := putBlocks_news cs (id + 1) (σ.setB id ⟨c, false⟩) (fun i cs' hi => by
      obtain ⟨h3, h4⟩ := h i cs' (by simp [news, hi])
      have := (news_ge hi).1
      exact ⟨h3.setB (by omega) (h4 id c (by simp [news])), fun j cs'' hj => h4 j cs'' (by simp [news, hj])⟩)
    simp only [putBlocks]
    rw [h1.same, hstep]
    refine St.ext' rfl rfl ?_ rfl
    funext i
    simp only [St.setB, news, newB]
    by_cases e : i = id
    · subst e
      rw [newB_none (i := i) (l := news (i + 1) cs) (fun cs' hm => by have := (news_ge hm).1; omega)]
      simp
    · rw [if_neg e, if_neg (Ne.symm e)]

/-- The fence: none; in a round or not. -/
def FW (ro : Option Nat) : Fence := { Fence.wide with round := ro }
theorem FW_fn (ro : Option Nat) (f : FuncId) : (FW ro).fn f := trivial
theorem FW_none : FW none = Fence.wide := rfl
theorem callsIn_FW {ro : Option Nat} {n : Nat} {P : Program} {f : FuncId} {args : Array Value} {w : World} {R : Ending → World → Prop} (h : Calls P f args w R) : CallsIn (FW ro) n P f args w R :=
  (callsIn_wide.2 h : CallsIn Fence.wide n P f args w R)
theorem rowsIn_FW {ro : Option Nat} {n : Nat} {P : Program} {row : String} {args : Array Value} {w : World} {R : Value → World → Prop} (h : Rows P row args w R) : RowsIn (FW ro) n P row args w R :=
  fun c cs _ => let ⟨v, w', r, s⟩ := h c cs; ⟨v, w', r, stepsIn_wide.2 s⟩

/-- An operation that defers nothing does in a round what it does elsewhere. -/
theorem wpIn_FW {ro : Option Nat} {n : Nat} {P : Program} {o : Oper} {a : Act} {w : World} {K : Act → World → Prop} {Q : Exit → Act → World → Prop} (hd : ∀ c, o.op ≠ .defer c) (h : o.wp P a w K Q) : o.wpIn (FW ro) n P a w K Q := by
  refine ⟨fun _ _ => trivial, ?_⟩
  rw [Oper.semAt_eq _ _ _ hd]
  unfold Oper.wp at h
  generalize (execOp a.eval o).run P w = r at *
  cases r with
  | ok x w' =>
    cases x <;> simp only [Oper.upon, Oper.uponIn] at h ⊢ <;> first
      | exact h
      | exact ⟨fun e => (by cases e), callsIn_FW h⟩
      | exact ⟨fun e => (by cases e), rowsIn_FW h⟩
      | exact h.elim
  | halt x w' => cases x <;> simp only [Oper.upon, Oper.uponIn] at h ⊢ <;> exact h

/-- The marks that loops over functions leave. -/
def mark (D : Nat) : Deferred := { target := .collected D, args := #[] }
def Marks (w w' : World) (A' : Nat → Prop) (a a' : Act) : Prop :=
  ∃ Ds : List Nat, a'.defers = Ds.map mark ++ a.defers ∧ Ds.Nodup ∧ ∀ D ∈ Ds, w.heap.size ≤ D ∧ ¬ A' D ∧ w'.heap[D]? = some (.deferred (some []))
theorem Marks.same {w w' : World} {A' : Nat → Prop} {a a' : Act} (h : a'.defers = a.defers) : Marks w w' A' a a' := ⟨[], by simp [h], by simp, by simp⟩
theorem Marks.trans {w w' w'' : World} {A' A'' : Nat → Prop} {base : Nat} {a a' a'' : Act} (h : Marks w w' A' a a') (k : Marks w' w'' A'' a' a'') (ht : Turn A' A'' base w' w'') (hs : w.heap.size ≤ w'.heap.size) : Marks w w'' A'' a a'' := by
  obtain ⟨D1, h1, h2, h3⟩ := h
  obtain ⟨D2, k1, k2, k3⟩ := k
  refine ⟨D2 ++ D1, by rw [k1, h1]; simp, ?_, ?_⟩
  · refine List.nodup_append.2 ⟨k2, h2, ?_⟩
    intro x hx y hy e
    subst e
    have := (k3 x hx).1
    have := (Array.getElem?_eq_some_iff.1 (h3 x hy).2.2).1
    omega
  · intro D hD
    rcases List.mem_append.1 hD with hD | hD
    · obtain ⟨p, q, r⟩ := k3 D hD; exact ⟨by omega, q, r⟩
    · obtain ⟨p, q, r⟩ := h3 D hD
      exact ⟨p, fun ha => q (ht.side.new D _ r rfl ha), ht.side.keep D _ r rfl⟩

/-- What stands behind a piece of code. -/
def Aft (σ' : St) (base : Nat) (acts : List (Array Value)) (A : Nat → Prop) (a : Act) (w : World) (K : Act → World → Prop) : Prop :=
  ∀ a' w' A' β', Marks w w' A' a a' → Rel w' A' β' base σ' a'.tmps acts → Turn A A' base w w' → K a' w'

theorem Aft.trans {σ' : St} {base : Nat} {acts : List (Array Value)} {A A' : Nat → Prop} {a a' : Act} {w w' : World} {K : Act → World → Prop} (h : Aft σ' base acts A a w K) (hd : Marks w w' A' a a') (ht : Turn A A' base w w') : Aft σ' base acts A' a' w' K :=
  fun a'' w'' A'' β'' hd' hr ht' => h a'' w'' A'' β'' (hd.trans hd' ht' ht.below.size) hr (ht.trans ht')

theorem put_defers (a : Act) (dst : Option Tmp) (u : Value) : (a.put dst u).defers = a.defers := by cases dst <;> rfl

section
variable {P : Program} {F : FuncId → List D → D → Prop} {R : Array Oper} {O : Oper → St → St → Prop} {p : Plan}

theorem qop_step {o : Oper} {σ : St} {r : QR} (h : QOp P F o (evalD σ) σ.bk r) (hn : ∀ i cs, (i, cs) ∈ r.new → Unused i σ ∧ ∀ j cs', (j, cs') ∈ r.new → D.hasL i cs' = false) : OpStep P F o σ (σ.q o.dst r) := by
  have hplain : ∀ d, σ.q o.dst ⟨d, [], [], []⟩ = σ.put o.dst d := fun d => by
    simp only [St.q]
    congr 1
  cases h with
  | val _ h => rw [hplain]; exact .op (id := 0) h rfl
  | @box cs id _ h =>
    obtain ⟨h1, h2⟩ := hn id cs (by simp)
    refine .op (id := id) h ?_
    simp only [stepE, h1.same, forget_map (h2 id cs (by simp))]
    congr 1
    simp only [St.q, St.setB]
    congr 2
    funext i
    simp only [qbk, newB]
    by_cases e : i = id
    · subst e; simp
    · rw [if_neg e, if_neg (Ne.symm e)]; simp
  | @row cs n sz id _ h =>
    obtain ⟨h1, h2⟩ := hn id cs (by simp)
    refine .op (id := id) h ?_
    simp only [stepE, h1.same, forget_map (h2 id cs (by simp))]
    congr 1
    simp only [St.q, St.setB]
    congr 2
    funext i
    simp only [qbk, newB]
    by_cases e : i = id
    · subst e; simp
    · rw [if_neg e, if_neg (Ne.symm e)]; simp
  | row0 _ h => rw [hplain]; exact .op (id := 0) h rfl
  | @app0 s sz m id ds _ h hs =>
    obtain ⟨h1, h2⟩ := hn id ds (by simp)
    refine .op (id := id) h ?_
    have e : stepE σ o.dst id (.app s sz m ds) = some (((σ.forget id).setB id ⟨ds.map (D.forget id), false⟩).put o.dst (.sl id 0 m ⟨sz, 0⟩)) := by
      rcases hs with rfl | ⟨u, rfl⟩ <;> rfl
    rw [e]
    simp only [h1.same, forget_map (h2 id ds (by simp))]
    congr 1
    simp only [St.q, St.setB]
    congr 2
    funext i
    simp only [qbk, newB]
    by_cases e : i = id
    · subst e; simp
    · rw [if_neg e, if_neg (Ne.symm e)]; simp
  | ext h1 h2 h3 h4 => rw [hplain]; exact .ext h1 h2 h3 h4
  | @call fo args f caps as passed res id h1 h2 h3 h4 h5 =>
    refine .call (id := id) h1 h2 h3 ⟨as, passed, res, h4, h5, ?_⟩
    have hne := news_eq (thaw id res).2 id 0
    simp only [Nat.add_zero] at hne
    simp only [hne] at hn ⊢
    have hro : ∀ i cs, (i, cs) ∈ news id (thaw id res).2 → Unused i (if flat res then σ else σ.markRo passed) := fun i cs hi => by
      have hu := (hn i cs hi).1
      split
      · exact hu
      · refine ⟨hu.fr, hu.stk, ?_, ?_, hu.lp⟩
        · simp only [St.markRo]; split <;> simp [hu.no]
        · intro j b hb
          simp only [St.markRo] at hb
          split at hb
          · simp only [Option.map_eq_some_iff] at hb
            obtain ⟨b0, hb0, rfl⟩ := hb
            exact hu.bk j b0 hb0
          · exact hu.bk j b hb
    rw [putBlocks_news _ _ _ (fun i cs hi => ⟨hro i cs hi, (hn i cs hi).2⟩)]
    simp only [St.q]
    congr 1
    refine St.ext' ?_ ?_ ?_ (by cases flat res <;> rfl)
    · cases flat res <;> rfl
    · cases flat res <;> rfl
    · funext i
      simp only [qbk]
      cases newB i (news id (thaw id res).2) with
      | some b => rfl
      | none =>
        cases flat res with
        | true => simp
        | false => simp [St.markRo]

/-- All orders. -/
def AnyD (P : Program) (F : FuncId → List D → D → Prop) (O : Oper → St → St → Prop) (R : Array Oper) (p : Plan) (σ' : St) : Nat → Array Bool → St → Prop
  | 0, listed, σ => Region.ready .any R listed = [] ∧ σ = σ'
  | n + 1, listed, σ => (Region.ready .any R listed = [] → σ = σ') ∧ ∀ i ∈ Region.ready .any R listed, ∃ o, R[i]? = some o ∧ ∃ σ1, QStep P F O R p i o σ σ1 ∧ AnyD P F O R p σ' n (listed.setIfInBounds i true) σ1

end
end Go.Dam
