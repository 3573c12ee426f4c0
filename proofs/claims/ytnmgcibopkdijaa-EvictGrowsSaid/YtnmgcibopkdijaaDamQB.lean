/- The engine: an abstract machine for the program's functions, proved right against the model. No condition. -/
import Derived.Test.YtnmgcibopkdijaaDamAA
set_option linter.unusedSectionVars false
set_option linter.unusedVariables false
set_option linter.unusedSimpArgs false
section
namespace Go.Dam
open Go Go.RowKit
set_option linter.unusedSectionVars false
variable [Glo]
set_option linter.unusedSimpArgs false
set_option linter.unusedVariables false

/-! ### Any order is as good as the order of the text -/

theorem forget_id {d : D} {id : Nat} (h : d.has id = false) : d.forget id = d := by unfold D.forget; rw [h]; rfl

theorem forget_map {cs : List D} {id : Nat} (h : D.hasL id cs = false) : cs.map (D.forget id) = cs := by
  have : cs.map (D.forget id) = cs.map _root_.id := List.map_congr_left fun d hd => forget_id (hasL_mem h d hd)
  rw [this]; simp

theorem Unused.same {id : Nat} {σ : St} (h : Unused id σ) : σ.forget id = σ := by
  have hf : ∀ f : Fr, (∀ t, (f.tm t).has id = false) → f.forget id = f := fun f hf => by
    cases f with
    | mk nt tm => simp only [Fr.forget, Fr.mk.injEq, true_and]; funext t; exact forget_id (hf t)
  refine St.ext' (hf _ h.fr) ?_ ?_ (by
    show (if id = yldId then none else σ.loop) = σ.loop
    split
    · next e => exact (h.lp e).symm
    · rfl)
  · have : σ.stk.map (Fr.forget id) = σ.stk.map _root_.id := List.map_congr_left fun f hf' => hf f (h.stk f hf')
    simp only [St.forget]; rw [this]; simp
  · funext i
    simp only [St.forget]
    by_cases e : i = id
    · subst e; rw [if_pos rfl, h.no]
    · rw [if_neg e]
      cases hb : σ.bk i with
      | none => rfl
      | some b => simp only [Option.map_some, Option.some.injEq]; cases b with | mk cs ro => simp only [Blk.forget, Blk.mk.injEq, and_true]; exact forget_map (h.bk i _ hb)

def news (id : Nat) : List (List D) → List (Nat × List D)
  | [] => []
  | c :: cs => (id, c) :: news (id + 1) cs

theorem news_eq : ∀ (bs : List (List D)) (id n : Nat), (bs.zipIdx n).map (fun (cs, k) => (id + k, cs)) = news (id + n) bs
  | [], _, _ => rfl
  | c :: cs, id, n => by
    simp only [List.zipIdx_cons, List.map_cons, news]
    rw [news_eq cs id (n + 1)]; rfl

theorem news_ge : ∀ {bs : List (List D)} {id i : Nat} {cs : List D}, (i, cs) ∈ news id bs → id ≤ i ∧ cs ∈ bs
  | c :: bs, id, i, cs, h => by
    simp only [news, List.mem_cons, Prod.mk.injEq] at h
    rcases h with ⟨rfl, rfl⟩ | h
    · exact ⟨Nat.le_refl _, by simp⟩
    · obtain ⟨h1, h2⟩ := news_ge h; exact ⟨by omega, by simp [h2]⟩

theorem Unused.setB {id j : Nat} {σ : St} {b : Blk} (h : Unused id σ) (hne : id ≠ j) (hb : D.hasL id b.cells = false) : Unused id (σ.setB j b) where
  fr := h.fr
  stk := h.stk
  no := by simp only [St.setB]; rw [if_neg hne]; exact h.no
  lp := h.lp
  bk := fun i b' hb' => by
    simp only [St.setB] at hb'
    split at hb'
    · simp at hb'; subst hb'; exact hb
    · exact h.bk i b' hb'

theorem putBlocks_news : ∀ (bs : List (List D)) (id : Nat) (σ : St), (∀ i cs, (i, cs) ∈ news id bs → Unused i σ ∧ ∀ j cs', (j, cs') ∈ news id bs → D.hasL i cs' = false) →
    putBlocks σ id bs = { σ with bk := fun i => match newB i (news id bs) with | some b => some b | none => σ.bk i }
  | [], _, σ, _ => rfl
  | c :: cs, id, σ, h => by
    obtain ⟨h1, h2⟩ := h id c (by simp [news])
    have hstep := putBlocks_news cs (id + 1) (σ.setB id ⟨c, false⟩) (fun i cs' hi => by
      obtain ⟨h3, h4⟩ := h i cs' (by simp [news, hi])
      have := (news_ge hi).1
      exact ⟨h3.setB (by omega) (h4 id c (by simp [news])), fun j cs'' hj => h4 j cs'' (by simp [news, hj])⟩)
    simp only [putBlocks]
    rw [h1.same, hstep]
    refine St.ext' rfl rfl ?_ rfl
    funext i
    simp only [St.setB, news, newB]
    by_cases e : i = id
    · subst e
      rw [newB_none (i := i) (l := news (i + 1) cs) (fun cs' hm => by have := (news_ge hm).1; omega)]
      simp
    · rw [if_neg e, if_neg (Ne.symm e)]

/-- The fence: none; in a round or not. -/
def FW (ro : Option Nat) : Fence := { Fence.wide with round := ro }
theorem FW_fn (ro : Option Nat) (f : FuncId) : (FW ro).fn f := trivial
theorem FW_none : FW none = Fence.wide := rfl
theorem callsIn_FW {ro : Option Nat} {n : Nat} {P : Program} {f : FuncId} {args : Array Value} {w : World} {R : Ending → World → Prop} (h : Calls P f args w R) : CallsIn (FW ro) n P f args w R :=
  (callsIn_wide.2 h : CallsIn Fence.wide n P f args w R)
theorem rowsIn_FW {ro : Option Nat} {n : Nat} {P : Program} {row : String} {args : Array Value} {w : World} {R : Value → World → Prop} (h : Rows P row args w R) : RowsIn (FW ro) n P row args w R :=
  fun c cs _ => let ⟨v, w', r, s⟩ := h c cs; ⟨v, w', r, stepsIn_wide.2 s⟩

/-- An operation that defers nothing does in a round what it does elsewhere. -/
theorem wpIn_FW {ro : Option Nat} {n : Nat} {P : Program} {o : Oper} {a : Act} {w : World} {K : Act → World → Prop} {Q : Exit → Act → World → Prop} (hd : ∀ c, o.op ≠ .defer c) (h : o.wp P a w K Q) : o.wpIn (FW ro) n P a w K Q := by
  refine ⟨fun _ _ => trivial, ?_⟩
  rw [Oper.semAt_eq _ _ _ hd]
  unfold Oper.wp at h
  generalize (execOp a.eval o).run P w = r at *
  cases r with
  | ok x w' =>
    cases x <;> simp only [Oper.upon, Oper.uponIn] at h ⊢ <;> first
      | exact h
      | exact ⟨fun e => (by cases e), callsIn_FW h⟩
      | exact ⟨fun e => (by cases e), rowsIn_FW h⟩
      | exact h.elim
  | halt x w' => cases x <;> simp only [Oper.upon, Oper.uponIn] at h ⊢ <;> exact h

/-- The marks that loops over functions leave. -/
def mark (D : Nat) : Deferred := { target := .collected D, args := #[] }
def Marks (w w' : World) (A' : Nat → Prop) (a a' : Act) : Prop :=
  ∃ Ds : List Nat, a'.defers = Ds.map mark ++ a.defers ∧ Ds.Nodup ∧ ∀ D ∈ Ds, w.heap.size ≤ D ∧ ¬ A' D ∧ w'.heap[D]? = some (.deferred (some []))
theorem Marks.same {w w' : World} {A' : Nat → Prop} {a a' : Act} (h : a'.defers = a.defers) : Marks w w' A' a a' := ⟨[], by simp [h], by simp, by simp⟩
theorem Marks.trans {w w' w'' : World} {A' A'' : Nat → Prop} {base : Nat} {a a' a'' : Act} (h : Marks w w' A' a a') (k : Marks w' w'' A'' a' a'') (ht : Turn A' A'' base w' w'') (hs : w.heap.size ≤ w'.heap.size) : Marks w w'' A'' a a'' := by
  obtain ⟨D1, h1, h2, h3⟩ := h
  obtain ⟨D2, k1, k2, k3⟩ := k
  refine ⟨D2 ++ D1, by rw [k1, h1]; simp, ?_, ?_⟩
  · refine List.nodup_append.2 ⟨k2, h2, ?_⟩
    intro x hx y hy e
    subst e
    have := (k3 x hx).1
    have := (Array.getElem?_eq_some_iff.1 (h3 x hy).2.2).1
    omega
  · intro D hD
    rcases List.mem_append.1 hD with hD | hD
    · obtain ⟨p, q, r⟩ := k3 D hD; exact ⟨by omega, q, r⟩
    · obtain ⟨p, q, r⟩ := h3 D hD
      exact ⟨p, fun ha => q (ht.side.new D _ r rfl ha), ht.side.keep D _ r rfl⟩

/-- What stands behind a piece of code. -/
def Aft (σ' : St) (base : Nat) (acts : List (Array Value)) (A : Nat → Prop) (a : Act) (w : World) (K : Act → World → Prop) : Prop :=
  ∀ a' w' A' β', Marks w w' A' a a' → Rel w' A' β' base σ' a'.tmps acts → Turn A A' base w w' → K a' w'

theorem Aft.trans {σ' : St} {base : Nat} {acts : List (Array Value)} {A A' : Nat → Prop} {a a' : Act} {w w' : World} {K : Act → World → Prop} (h : Aft σ' base acts A a w K) (hd : Marks w w' A' a a') (ht : Turn A A' base w w') : Aft σ' base acts A' a' w' K :=
  fun a'' w'' A'' β'' hd' hr ht' => h a'' w'' A'' β'' (hd.trans hd' ht' ht.below.size) hr (ht.trans ht')

theorem put_defers (a : Act) (dst : Option Tmp) (u : Value) : (a.put dst u).defers = a.defers := by cases dst <;> rfl

section
variable {P : Program} {F : FuncId → List D → D → Prop} {R : Array Oper} {O : Oper → St → St → Prop} {p : Plan}

theorem qop_step {o : Oper} {σ : St} {r : QR} (h : QOp P F o (evalD σ) σ.bk r) (hn : ∀ i cs, (i, cs) ∈ r.new → Unused i σ ∧ ∀ j cs', (j, cs') ∈ r.new → D.hasL i cs' = false) : OpStep P F o σ (σ.q o.dst r) := by
  have hplain : ∀ d, σ.q o.dst ⟨d, [], [], [], none⟩ = σ.put o.dst d := fun d => by
    simp only [St.q]
    congr 1
  cases h with
  | val _ h => rw [hplain]; exact .op (id := 0) h rfl
  | @box cs id _ h =>
    obtain ⟨h1, h2⟩ := hn id cs (by simp)
    refine .op (id := id) h ?_
    simp only [stepE, h1.same, forget_map (h2 id cs (by simp))]
    congr 1
    simp only [St.q, St.setB]
    congr 2
    funext i
    simp only [qbk, newB]
    by_cases e : i = id
    · subst e; simp
    · rw [if_neg e, if_neg (Ne.symm e)]; simp
  | @row cs n sz id _ h =>
    obtain ⟨h1, h2⟩ := hn id cs (by simp)
    refine .op (id := id) h ?_
    simp only [stepE, h1.same, forget_map (h2 id cs (by simp))]
    congr 1
    simp only [St.q, St.setB]
    congr 2
    funext i
    simp only [qbk, newB]
    by_cases e : i = id
    · subst e; simp
    · rw [if_neg e, if_neg (Ne.symm e)]; simp
  | row0 _ h => rw [hplain]; exact .op (id := 0) h rfl
  | @app0 s sz m id ds _ h hs =>
    obtain ⟨h1, h2⟩ := hn id ds (by simp)
    refine .op (id := id) h ?_
    have e : stepE σ o.dst id (.app s sz m ds) = some (((σ.forget id).setB id ⟨ds.map (D.forget id), false⟩).put o.dst (.sl id 0 m ⟨sz, 0⟩)) := by
      rcases hs with rfl | ⟨u, rfl⟩ <;> rfl
    rw [e]
    simp only [h1.same, forget_map (h2 id ds (by simp))]
    congr 1
    simp only [St.q, St.setB]
    congr 2
    funext i
    simp only [qbk, newB]
    by_cases e : i = id
    · subst e; simp
    · rw [if_neg e, if_neg (Ne.symm e)]; simp
  | ext h1 h2 h3 h4 => rw [hplain]; exact .ext h1 h2 h3 h4
  | @grow i n m s id sz ds cells hk hy h hb hl =>
    obtain ⟨h1, h2⟩ := hn id (cells.take (n * s) ++ ds) (by simp)
    have hh := OpStep.grow (F := F) (o := o) h hb hl h1 (h2 id _ (by simp))
    have e : σ.grown o.dst i id n m s (cells.take (n * s) ++ ds) = σ.q o.dst ⟨.sl id 0 (n + m) ⟨s, 0⟩, [(id, cells.take (n * s) ++ ds)], [], [], some i⟩ := by
      simp only [St.grown, St.q, St.setB, St.dropB]
      congr 2
      funext j
      simp only [qbk, newB]
      by_cases e : j = id
      · subst e; simp
      · rw [if_neg e, if_neg (Ne.symm e)]
        by_cases e2 : j = i
        · subst e2; simp
        · have : ¬ i = j := fun h => e2 h.symm
          simp [e2, this]
    rw [← e]; exact hh
  | @call fo args f caps as passed res id h1 h2 h3 h4 h5 =>
    refine .call (id := id) h1 h2 h3 ⟨as, passed, res, h4, h5, ?_⟩
    have hne := news_eq (thaw id res).2 id 0
    simp only [Nat.add_zero] at hne
    simp only [hne] at hn ⊢
    have hro : ∀ i cs, (i, cs) ∈ news id (thaw id res).2 → Unused i (if flat res then σ else σ.markRo passed) := fun i cs hi => by
      have hu := (hn i cs hi).1
      split
      · exact hu
      · refine ⟨hu.fr, hu.stk, ?_, ?_, hu.lp⟩
        · simp only [St.markRo]; split <;> simp [hu.no]
        · intro j b hb
          simp only [St.markRo] at hb
          split at hb
          · simp only [Option.map_eq_some_iff] at hb
            obtain ⟨b0, hb0, rfl⟩ := hb
            exact hu.bk j b0 hb0
          · exact hu.bk j b hb
    rw [putBlocks_news _ _ _ (fun i cs hi => ⟨hro i cs hi, (hn i cs hi).2⟩)]
    simp only [St.q]
    congr 1
    refine St.ext' ?_ ?_ ?_ (by cases flat res <;> rfl)
    · cases flat res <;> rfl
    · cases flat res <;> rfl
    · funext i
      simp only [qbk]
      cases newB i (news id (thaw id res).2) with
      | some b => rfl
      | none =>
        cases flat res with
        | true => simp
        | false => simp [St.markRo]

/-- All orders. -/
def AnyD (P : Program) (F : FuncId → List D → D → Prop) (O : Oper → St → St → Prop) (R : Array Oper) (p : Plan) (σ' : St) : Nat → Array Bool → St → Prop
  | 0, listed, σ => Region.ready .any R listed = [] ∧ σ = σ'
  | n + 1, listed, σ => (Region.ready .any R listed = [] → σ = σ') ∧ ∀ i ∈ Region.ready .any R listed, ∃ o, R[i]? = some o ∧ ∃ σ1, QStep P F O R p i o σ σ1 ∧ AnyD P F O R p σ' n (listed.setIfInBounds i true) σ1

end
end Go.Dam
end

section
namespace Go.Dam
open Go Go.RowKit
set_option linter.unusedSectionVars false
variable [Glo]
set_option linter.unusedSimpArgs false
set_option linter.unusedVariables false

section
variable {P : Program} {F : FuncId → List D → D → Prop} {R : Array Oper} {O : Oper → St → St → Prop} {p : Plan}

/-- Must come before. -/
inductive Anc (R : Array Oper) : Nat → Nat → Prop
  | edge {k : Nat} {o : Oper} {e : Edge} : R[k]? = some o → e ∈ o.after → Region.binds .any e = true → Anc R e.on k
  | trans {i k : Nat} {o : Oper} {e : Edge} : R[k]? = some o → e ∈ o.after → Region.binds .any e = true → Anc R i e.on → Anc R i k

structure PlanOK (P : Program) (R : Array Oper) (p : Plan) : Prop where
  low : ∀ k o, R[k]? = some o → ∀ e ∈ o.after, Region.binds .any e = true → e.on < k
  pairs : ∀ i j oi oj, i < j → R[i]? = some oi → R[j]? = some oj → Anc R i j ∨ pairB P R p i j oi oj = true
  dis : ∀ i j, i ≠ j → ∀ id, id ∈ p.zs i → id ∉ p.zs j
  later : ∀ k l, l ≠ k → ¬ Anc R l k → p.W k l = true
  grow : ∀ i j oi, i ≠ j → R[i]? = some oi → j < R.size → ¬ Anc R i j → ¬ Anc R j i → p.Gr j = true → kindOf P oi.op = 0 ∨ j ∈ p.S i
theorem PlanOK.lt {p : Plan} (ok : PlanOK P R p) {i k : Nat} (h : Anc R i k) : i < k := by
  induction h with
  | edge h1 h2 h3 => exact ok.low _ _ h1 _ h2 h3
  | trans h1 h2 h3 _ ih => exact Nat.lt_trans ih (ok.low _ _ h1 _ h2 h3)

/-- What is listed has what must come before it listed. -/
def Cl (R : Array Oper) (listed : Array Bool) : Prop := ∀ k o, R[k]? = some o → listed.getD k false = true → ∀ e ∈ o.after, Region.binds .any e = true → listed.getD e.on false = true

theorem anc_listed {listed : Array Bool} (hc : Cl R listed) {i k : Nat} (h : Anc R i k) : listed.getD k false = true → listed.getD i false = true := by
  induction h with
  | edge h1 h2 h3 => intro hk; exact hc _ _ h1 hk _ h2 h3
  | trans h1 h2 h3 _ ih => intro hk; exact ih (hc _ _ h1 hk _ h2 h3)

theorem anc_ready {listed : Array Bool} (hc : Cl R listed) {i j : Nat} (h : Anc R i j) (hj : j ∈ Region.ready .any R listed) : listed.getD i false = true := by
  obtain ⟨_, o, ho, hall⟩ := mem_ready.1 hj
  cases h with
  | edge h1 h2 h3 => rw [ho] at h1; cases h1; exact hall _ h2 h3
  | trans h1 h2 h3 h4 => rw [ho] at h1; cases h1; exact anc_listed hc h4 (hall _ h2 h3)

theorem getD_two {l : Array Bool} {i : Nat} (h : l.getD i true = false) : l.getD i false = false := by
  rcases Nat.lt_or_ge i l.size with h' | h'
  · simpa [h'] using h
  · simp [Array.getElem?_eq_none h']

theorem getD_lt {l : Array Bool} {i : Nat} (h : l.getD i true = false) : i < l.size := by
  rcases Nat.lt_or_ge i l.size with h' | h'
  · exact h'
  · simp [Array.getElem?_eq_none h'] at h

theorem getD_set_self {l : Array Bool} {i : Nat} (h : i < l.size) (d : Bool) : (l.setIfInBounds i true).getD i d = true := by
  simp [h]

theorem cl_set {listed : Array Bool} (hc : Cl R listed) {i : Nat} (hi : i ∈ Region.ready .any R listed) : Cl R (listed.setIfInBounds i true) := by
  intro k o hk hl e he hb
  by_cases hik : i = k
  · subst hik
    obtain ⟨_, o', ho, hall⟩ := mem_ready.1 hi
    rw [ho] at hk; cases hk
    exact getD_set_true (hall e he hb)
  · rw [getD_set_ne false hik] at hl
    exact getD_set_true (hc k o hk hl e he hb)

theorem unlisted_set {listed : Array Bool} {i k : Nat} (h : (listed.setIfInBounds i true).getD k true = false) : k ≠ i ∧ listed.getD k true = false := by
  by_cases e : i = k
  · subst e
    have hlt := getD_lt h
    simp only [Array.size_setIfInBounds] at hlt
    rw [getD_set_self hlt] at h; cases h
  · rw [getD_set_ne true e] at h; exact ⟨Ne.symm e, h⟩

theorem qstep_inv (ok : PlanOK P R p) {listed : Array Bool} {i : Nat} {oi : Oper} {σ σ1 : St} (hc : Cl R listed) (hi : i ∈ Region.ready .any R listed) (h : QStep P F O R p i oi σ σ1) (hinv : Inv p listed σ) : Inv p (listed.setIfInBounds i true) σ1 := by
  intro k hk id hid
  obtain ⟨hne, hun⟩ := unlisted_set hk
  have hu := hinv k hun id hid
  have hW : p.W i k = true := ok.later i k hne (fun ha => by have := anc_ready hc ha hi; rw [getD_two hun] at this; cases this)
  cases h with
  | skip _ => exact unused_q hu rfl (fun cs h => by cases h) (fun i cs h => by cases h)
  | op _ _ hm _ hd hcs _ _ =>
    refine unused_q hu (hd k hW id hid) (fun cs hn => ok.dis k i hne id hid (hm id cs hn).1) (fun j cs hn => hasL_false fun d hd' => hcs j cs hn d hd' k hW id hid)
  | sto _ _ _ hb _ hd _ => exact unused_sto hu hb (hasL_false fun d hd' => hd d hd' k hW id hid)
  | cpy _ _ _ hb _ hd => exact unused_put_ofV (unused_sto hu hb (hasL_false fun d hd' => hd d hd' k hW id hid))
  | oth _ _ h => exact h k hW id hid

theorem anyD_first (ok : PlanOK P R p) {σ' : St} {i : Nat} {oi : Oper} (hi : R[i]? = some oi) : ∀ (n : Nat) (listed : Array Bool) (σ σ1 : St), i ∈ Region.ready .any R listed → (∀ j, listed.getD j true = false → i ≤ j) → Cl R listed → Inv p listed σ →
    QStep P F O R p i oi σ σ1 → AnyD P F O R p σ' n (listed.setIfInBounds i true) σ1 → AnyD P F O R p σ' (n + 1) listed σ := by
  intro n
  induction n with
  | zero =>
    intro listed σ σ1 hr hmin hc hinv hs H
    refine ⟨fun h => (by rw [h] at hr; cases hr), fun j hj => ?_⟩
    by_cases hji : j = i
    · subst hji; exact ⟨oi, hi, σ1, hs, H⟩
    · have := ready_mono hj hji
      rw [H.1] at this
      cases this
  | succ n ih =>
    intro listed σ σ1 hr hmin hc hinv hs H
    refine ⟨fun h => (by rw [h] at hr; cases hr), fun j hj => ?_⟩
    by_cases hji : j = i
    · subst hji; exact ⟨oi, hi, σ1, hs, H⟩
    · obtain ⟨oj, hoj, σ2, hs2, H2⟩ := H.2 j (ready_mono hj hji)
      have hju := (mem_ready.1 hj).1
      have hlt : i < j := by have := hmin j hju; omega
      have hna : ¬ Anc R i j := fun h => by
        have := anc_ready hc h hj
        rw [getD_two (mem_ready.1 hr).1] at this; cases this
      have hnb : ¬ Anc R j i := fun h => by have := ok.lt h; omega
      have hpair : pairB P R p i j oi oj = true := by
        rcases ok.pairs i j oi oj hlt hi hoj with h | h
        · exact absurd h hna
        · exact h
      have hjl : j < R.size := (Array.getElem?_eq_some_iff.1 hoj).1
      have hil : i < R.size := (Array.getElem?_eq_some_iff.1 hi).1
      obtain ⟨σ3, h3, h4⟩ := comm hi hoj hpair (ok.dis i j (Ne.symm hji)) (hinv j hju) (ok.grow i j oi (Ne.symm hji) hi hjl hna hnb) (ok.grow j i oj hji hoj hil hnb hna) hs hs2
      refine ⟨oj, hoj, σ3, h3, ?_⟩
      refine ih (listed.setIfInBounds j true) σ3 σ2 (ready_mono hr (Ne.symm hji)) (fun k hk => hmin k (unlisted_set hk).2) (cl_set hc hj) (qstep_inv ok hc hj h3 hinv) h4 ?_
      rw [Array.setIfInBounds_comm _ _ hji]
      exact H2

/-- The operations in the order of the text. -/
inductive QRun (P : Program) (F : FuncId → List D → D → Prop) (O : Oper → St → St → Prop) (R : Array Oper) (p : Plan) : Nat → List Oper → St → St → Prop
  | nil {k : Nat} {σ : St} : QRun P F O R p k [] σ σ
  | cons {k : Nat} {o : Oper} {l : List Oper} {σ σ1 σ' : St} : QStep P F O R p k o σ σ1 → QRun P F O R p (k + 1) l σ1 σ' → QRun P F O R p k (o :: l) σ σ'

theorem anyD_lex (ok : PlanOK P R p) {σ' : St} : ∀ (l : List Oper) (k : Nat) (listed : Array Bool) (σ : St), (∀ j, l[j]? = R[k + j]?) → listed.size = R.size → (∀ j, j < R.size → listed.getD j false = decide (j < k)) →
    QRun P F O R p k l σ σ' → Cl R listed → Inv p listed σ → AnyD P F O R p σ' l.length listed σ
  | [], k, listed, σ, hl, hsz, hlist, h, hc, hinv => by
    cases h
    refine ⟨?_, rfl⟩
    rw [List.eq_nil_iff_forall_not_mem]
    intro j hj
    obtain ⟨hu, o, ho, _⟩ := mem_ready.1 hj
    have hjl := getD_lt hu
    have h1 := hlist j (by omega)
    rw [getD_two hu] at h1
    have h2 : k ≤ j := by simpa using h1.symm
    have h3 := hl (j - k)
    rw [Nat.add_sub_cancel' h2, ho] at h3
    simp at h3
  | o :: l, k, listed, σ, hl, hsz, hlist, h, hc, hinv => by
    cases h with
    | @cons _ _ _ _ σ1 _ hs hrun =>
      have hk : R[k]? = some o := by simpa using (hl 0).symm
      have hlt : k < R.size := by
        rcases Nat.lt_or_ge k R.size with h | h
        · exact h
        · rw [Array.getElem?_eq_none h] at hk; cases hk
      have hun : listed.getD k true = false := by
        have := hlist k hlt
        simp [hsz, hlt] at this ⊢
        exact this
      have hr : k ∈ Region.ready .any R listed := by
        refine mem_ready.2 ⟨hun, o, hk, fun e he hb => ?_⟩
        have hlow := ok.low k o hk e he hb
        rw [hlist e.on (by omega)]
        simp [hlow]
      refine anyD_first ok hk l.length listed σ σ1 hr (fun j hj => ?_) hc hinv hs ?_
      · have h1 := hlist j (by have := getD_lt hj; omega)
        rw [getD_two hj] at h1
        simpa using h1.symm
      · refine anyD_lex ok l (k + 1) _ σ1 (fun j => by have := hl (j + 1); simpa [Nat.add_assoc, Nat.add_comm 1 j] using this) (by simpa using hsz) (fun j hj => ?_) hrun (cl_set hc hr) (qstep_inv ok hc hr hs hinv)
        by_cases e : k = j
        · subst e; rw [getD_set_self (by omega)]; simp
        · rw [getD_set_ne false e, hlist j hj]
          have : j < k ↔ j < k + 1 := by omega
          simp [this]

/-! ### Down to the walk -/

theorem wpIn_only {ro : Option Nat} {n : Nat} {o : Oper} {a : Act} {w : World} {K : Act → World → Prop} {Q Q' : Exit → Act → World → Prop} (h1 : ∀ c a w, ¬ Q' (.panic c) a w) (h2 : ¬ LetsOut Q') (h : o.wpIn (FW ro) n P a w K Q') : o.wpIn (FW ro) n P a w K Q := by
  unfold Oper.wpIn at *
  refine ⟨h.1, ?_⟩
  have h := h.2
  generalize (o.semAt (FW ro).round a.eval).run P w = r at *
  cases r with
  | ok x w' =>
    cases x <;> simp only [Oper.uponIn] at h ⊢ <;> first
      | exact h
      | exact ⟨h.1, CallsIn.mono h.2 (fun e w'' he => by
          cases e with
          | returned v => exact he
          | panicked c => exact absurd he (h1 _ _ _)
          | outgrown => exact absurd he h2)⟩
      | exact ⟨h.1, RoundIn.mono h.2 (fun e w'' he => by
          cases e with
          | returned v => exact he
          | panicked c => exact absurd he (h1 _ _ _)
          | outgrown => exact absurd he h2)⟩
  | halt x w' => cases x <;> simp only [Oper.uponIn] at h ⊢ <;> first | exact absurd h (h1 _ _ _) | exact h

/-- One operation is right, whatever stands behind. -/
def SoundOp (P : Program) (R : Array Oper) (o : Oper) (σ σ' : St) : Prop :=
  ∀ (ro : Option Nat) (w : World) (A : Nat → Prop) (β : Env) (base : Nat) (a : Act) (acts : List (Array Value)) (Q : Exit → Act → World → Prop), Rel w A β base σ a.tmps acts → Aft σ' base acts A a w (Q .normal) → wpListIn (FW ro) 0 P R Q [o] a w

theorem opStep_nodefer {o : Oper} {σ σ' : St} (h : OpStep P F o σ σ') : ∀ c, o.op ≠ .defer c := by
  intro c e
  cases h with
  | op h _ => rw [e] at h; simp [opD] at h
  | grow h _ _ _ _ => rw [e] at h; simp [opD] at h
  | ext h => rw [e] at h; simp [callParts] at h
  | call h => rw [e] at h; simp [callParts] at h

theorem opStep_in (hF : ∀ f as res, F f as res → CallsD P f as res) {ro : Option Nat} {w : World} {A : Nat → Prop} {β : Env} {base : Nat} {σ σ' : St} {a : Act} {acts : List (Array Value)} (hrel : Rel w A β base σ a.tmps acts) {o : Oper} (h : OpStep P F o σ σ')
    {K : Act → World → Prop} {Q : Exit → Act → World → Prop} (hK : ∀ a' w' A' β', Marks w w' A' a a' → Rel w' A' β' base σ' a'.tmps acts → Turn A A' base w w' → K a' w') : o.wpIn (FW ro) 0 P a w K Q :=
  wpIn_FW (opStep_nodefer h) (opStep_sound hF hrel h fun a' w' A' β' hd hr' ht => hK a' w' A' β' (.same hd) hr' ht)

theorem qstep_sound (hF : ∀ f as res, F f as res → CallsD P f as res) (hO : ∀ o σ σ', O o σ σ' → SoundOp P R o σ σ') {ro : Option Nat} {i : Nat} {o : Oper} {σ σ1 : St} (hi : R[i]? = some o) (h : QStep P F O R p i o σ σ1) {w : World} {A : Nat → Prop} {β : Env} {base : Nat} {a : Act} {acts : List (Array Value)}
    (hr : Rel w A β base σ a.tmps acts) {K : Act → World → Prop} {Q : Exit → Act → World → Prop} (hK : Aft σ1 base acts A a w K) : wpOpIn (FW ro) 0 P R Q i K a w := by
  unfold wpOpIn
  simp only [hi]
  cases h with
  | skip hw =>
    rw [if_neg (by rw [wanted_spec hr hw]; simp)]
    have e : σ.q o.dst ⟨.v undef, [], [], [], none⟩ = σ.put o.dst (.v undef) := by
      simp only [St.q]; congr 1
    rw [e] at hK
    exact ⟨fun _ _ => trivial, hK _ w A β (.same (put_defers _ _ _)) (hr.putA o.dst (by simp [Rep, RepS])) (.refl _ _ _)⟩
  | op hw hop hm _ _ _ _ _ =>
    rw [if_pos (wanted_spec hr hw)]
    exact opStep_in hF hr (qop_step hop fun i cs h => (hm i cs h).2) fun a' w' A' β' hd hr' ht => hK a' w' A' β' hd hr' ht
  | @sto id off ds cells hw _ hop hb hl _ _ =>
    rw [if_pos (wanted_spec hr hw)]
    refine opStep_in hF hr (.op (id := 0) hop ?_) fun a' w' A' β' hd hr' ht => hK a' w' A' β' hd hr' ht
    simp only [stepE, hb]
    rw [if_pos hl]
  | @cpy id off k' ds cells hw _ hop hb hl _ =>
    rw [if_pos (wanted_spec hr hw)]
    refine opStep_in hF hr (.op (id := 0) hop ?_) fun a' w' A' β' hd hr' ht => hK a' w' A' β' hd hr' ht
    simp only [stepE, hb]
    rw [if_pos hl]
  | oth _ ho _ =>
    have h1 := hO _ _ _ ho ro w A β base a acts (fun e a w => e = .normal ∧ K a w) hr (fun a' w' A' β' hd hr' ht => ⟨rfl, hK a' w' A' β' hd hr' ht⟩)
    simp only [wpListIn] at h1
    split at h1
    next hwt =>
      rw [if_pos hwt]
      exact Oper.wpIn_mono (fun a w h => h.2) (wpIn_only (fun c a w h => by cases h.1) (fun ⟨a, w, h⟩ => by cases h.1) h1)
    next hwt =>
      rw [if_neg hwt]
      exact ⟨fun _ _ => trivial, h1.2.2⟩

theorem anyD_sound (hF : ∀ f as res, F f as res → CallsD P f as res) (hO : ∀ o σ σ', O o σ σ' → SoundOp P R o σ σ') {ro : Option Nat} {σ' : St} {base : Nat} {acts : List (Array Value)} {Q : Exit → Act → World → Prop} : ∀ (n : Nat) (listed : Array Bool) (σ : St) (w : World) (A : Nat → Prop) (β : Env) (a : Act),
    AnyD P F O R p σ' n listed σ → Rel w A β base σ a.tmps acts → Aft σ' base acts A a w (Q .normal) → wpAnyIn (FW ro) 0 P .any R Q n listed a w
  | 0, listed, σ, w, A, β, a, h, hr, hK => by
    obtain ⟨h1, rfl⟩ := h
    exact ⟨h1, hK a w A β (.same rfl) hr (.refl _ _ _)⟩
  | n + 1, listed, σ, w, A, β, a, h, hr, hK => by
    refine ⟨fun h0 => ?_, fun i hi => ?_⟩
    · have := h.1 h0; subst this
      exact hK a w A β (.same rfl) hr (.refl _ _ _)
    · obtain ⟨o, ho, σ1, hs, hrest⟩ := h.2 i hi
      exact qstep_sound hF hO ho hs hr fun a' w' A' β' hd hr' ht => anyD_sound hF hO n _ σ1 w' A' β' a' hrest hr' (hK.trans hd ht)

theorem Ext.drawn (A : Nat → Prop) (w : World) (n : Nat) : Ext A w { w with drawn := n } := ⟨fun _ _ => rfl, fun _ _ h => h⟩

theorem Rel.drawn {w : World} {A : Nat → Prop} {β : Env} {base : Nat} {σ : St} {tmps : Array Value} {acts : List (Array Value)} (h : Rel w A β base σ tmps acts) (n : Nat) : Rel { w with drawn := n } A β base σ tmps acts :=
  h.carry (.drawn A w n) (fun _ h => h) h.low h.top (fun _ _ _ => rfl) (fun _ _ _ _ _ => rfl) (fun _ _ _ => ⟨rfl, fun _ _ => rfl, fun _ _ => ⟨rfl, fun h => h⟩⟩) (h.lp.mono (.of_heap rfl) (.refl _ _) (fun _ => rfl))

/-- A REGION THAT DRAWS ITS ORDER. -/
theorem drawn_sound (hF : ∀ f as res, F f as res → CallsD P f as res) (hO : ∀ o σ σ', O o σ σ' → SoundOp P R o σ σ') (hm : P.follows .mixedOrders = true) (ok : PlanOK P R p) {σ σ' : St} (hinv : ∀ k, ∀ id ∈ p.zs k, Unused id σ) (hrun : QRun P F O R p 0 R.toList σ σ')
    {ro : Option Nat} {id : Nat} {w : World} {A : Nat → Prop} {β : Env} {base : Nat} {a : Act} {acts : List (Array Value)} {Q : Exit → Act → World → Prop} (hr : Rel w A β base σ a.tmps acts) (hK : Aft σ' base acts A a w (Q .normal)) : (Code.region id R true).wpIn (FW ro) 0 P Q a w := by
  refine wpIn_region_any hm ?_
  have hl : ∀ j, (Array.replicate R.size false).getD j false = false := fun j => by
    rcases Nat.lt_or_ge j R.size with h | h
    · simp [h]
    · simp [h]
  have := anyD_lex ok R.toList 0 (Array.replicate R.size false) σ (by simp) (by simp) (fun j _ => by rw [hl]; simp) hrun (fun k o _ h => by rw [hl] at h; cases h) (fun k _ => hinv k)
  simp only [Array.length_toList] at this
  refine anyD_sound hF hO R.size _ σ _ A β a this (hr.drawn _) (hK.trans (.same rfl) ⟨.drawn A w _, fun _ h => h, ⟨rfl, rfl, rfl, Nat.le_refl _, fun _ _ => rfl⟩, fun _ h _ => h, .strict (.of_heap rfl) (.refl _ _)⟩)

end
end Go.Dam
end

section
namespace Go.Dam
open Go Go.RowKit
set_option linter.unusedSectionVars false
variable [Glo]
set_option linter.unusedSimpArgs false
set_option linter.unusedVariables false

/-! ### To forget many blocks at once -/

mutual
/-- Does it speak of none of these blocks? -/
def D.clear (q : Nat → Bool) : D → Bool
  | .sl i _ _ _ => !(q i)
  | .ptr i _ => !(q i)
  | .pel i _ _ _ => !(q i)
  | .yld => !(q yldId)
  | .agg cs => D.clearL q cs
  | .tup cs => D.clearL q cs
  | .fn _ cs => D.clearL q cs
  | _ => true
def D.clearL (q : Nat → Bool) : List D → Bool
  | [] => true
  | d :: ds => D.clear q d && D.clearL q ds
end

mutual
theorem clear_has {q : Nat → Bool} {id : Nat} (hq : q id = true) : ∀ (d : D), D.clear q d = true → d.has id = false
  | .sl i _ _ _, h => by
    simp only [D.clear, D.has] at h ⊢
    by_cases e : i = id
    · subst e; rw [hq] at h; cases h
    · simpa using e
  | .pel i _ _ _, h => by
    simp only [D.clear, D.has] at h ⊢
    by_cases e : i = id
    · subst e; rw [hq] at h; cases h
    · simpa using e
  | .ptr i _, h => by
    simp only [D.clear, D.has] at h ⊢
    by_cases e : i = id
    · subst e; rw [hq] at h; cases h
    · simpa using e
  | .agg cs, h => by simp only [D.clear, D.has] at h ⊢; exact clearL_has hq cs h
  | .tup cs, h => by simp only [D.clear, D.has] at h ⊢; exact clearL_has hq cs h
  | .fn _ cs, h => by simp only [D.clear, D.has] at h ⊢; exact clearL_has hq cs h
  | .undef, _ => rfl
  | .v _, _ => rfl
  | .yld, h => by
    simp only [D.clear, D.has] at h ⊢
    by_cases e : yldId = id
    · subst e; rw [hq] at h; cases h
    · simpa using e
  | .sh _ _, _ => rfl
  | .ow _ _ _, _ => rfl
  | .shp _ _, _ => rfl
  | .rc _, _ => rfl
  | .oc _, _ => rfl
  | .emp, _ => rfl
theorem clearL_has {q : Nat → Bool} {id : Nat} (hq : q id = true) : ∀ (ds : List D), D.clearL q ds = true → D.hasL id ds = false
  | [], _ => rfl
  | d :: ds, h => by
    simp only [D.clearL, Bool.and_eq_true] at h
    simp only [D.hasL, clear_has hq d h.1, clearL_has hq ds h.2, Bool.or_self]
end

def D.wipe (q : Nat → Bool) (d : D) : D := bif D.clear q d then d else .undef
def Fr.wipe (q : Nat → Bool) (f : Fr) : Fr := { f with tm := fun t => (f.tm t).wipe q }
def Blk.wipe (q : Nat → Bool) (b : Blk) : Blk := { b with cells := b.cells.map (D.wipe q) }
def St.wipe (q : Nat → Bool) (σ : St) : St :=
  { fr := σ.fr.wipe q, stk := σ.stk.map (Fr.wipe q), bk := fun i => if q i then none else (σ.bk i).map (Blk.wipe q), loop := if q yldId then none else σ.loop }

theorem wipe_has {q : Nat → Bool} {id : Nat} (hq : q id = true) (d : D) : (d.wipe q).has id = false := by
  unfold D.wipe
  cases h : D.clear q d with
  | true => exact clear_has hq d h
  | false => rfl

theorem unused_wipe {q : Nat → Bool} {id : Nat} (hq : q id = true) (σ : St) : Unused id (σ.wipe q) where
  fr := fun t => wipe_has hq _
  stk := fun f hf t => by
    simp only [St.wipe, List.mem_map] at hf
    obtain ⟨g, _, rfl⟩ := hf
    exact wipe_has hq _
  no := by simp [St.wipe, hq]
  lp := fun e => by simp only [St.wipe]; rw [if_pos (by rw [← e]; exact hq)]
  bk := fun i b hb => by
    simp only [St.wipe] at hb
    split at hb
    · cases hb
    · simp only [Option.map_eq_some_iff] at hb
      obtain ⟨b0, _, rfl⟩ := hb
      refine hasL_false fun d hd => ?_
      simp only [Blk.wipe, List.mem_map] at hd
      obtain ⟨d0, _, rfl⟩ := hd
      exact wipe_has hq _

theorem Rep.wipe {w : World} {A : Nat → Prop} {β : Env} {d : D} {u : Value} (q : Nat → Bool) (h : Rep w A β d u) : Rep w A β (d.wipe q) u := by
  unfold D.wipe; cases D.clear q d
  · simp [Rep, RepS]
  · exact h
theorem CellsAt.wipe {w : World} {A : Nat → Prop} {β : Env} (q : Nat → Bool) : ∀ {cs : List D} {ad : Addr}, CellsAt w A β cs ad → CellsAt w A β (cs.map (D.wipe q)) ad
  | [], _, _ => trivial
  | _ :: _, _, ⟨⟨u, h1, h2⟩, h3⟩ => ⟨⟨u, h1, h2.wipe q⟩, CellsAt.wipe q h3⟩
theorem FrRep.wipe {w : World} {A : Nat → Prop} {β : Env} {f : Fr} {a : Array Value} (q : Nat → Bool) (h : FrRep w A β f a) : FrRep w A β (f.wipe q) a := ⟨h.nt, fun t => (h.tm t).wipe q⟩
theorem StkRep.wipe {w : World} {A : Nat → Prop} {β : Env} (q : Nat → Bool) : ∀ {fs : List Fr} {as : List (Array Value)}, StkRep w A β fs as → StkRep w A β (fs.map (Fr.wipe q)) as
  | _, _, .nil => .nil
  | _, _, .cons h t => .cons (h.wipe q) (t.wipe q)
theorem BlkRep.wipe {w : World} {A : Nat → Prop} {β : Env} {base : Nat} {b : Blk} {ad : Addr} (q : Nat → Bool) (h : BlkRep w A β base b ad) : BlkRep w A β base (b.wipe q) ad := by
  refine ⟨h.spot, h.base, ?_, h.cells.wipe q, h.own, h.shared, ?_⟩
  · simpa [Blk.wipe] using h.obj
  · simpa [Blk.wipe] using h.inside

theorem Rel.wipe {w : World} {A : Nat → Prop} {β : Env} {base : Nat} {σ : St} {tmps : Array Value} {acts : List (Array Value)} (h : Rel w A β base σ tmps acts) (q : Nat → Bool) : Rel w A β base (σ.wipe q) tmps acts where
  fr := h.fr.wipe q
  stk := h.stk.wipe q
  blk := fun i b hb => by
    simp only [St.wipe] at hb
    split at hb
    · simp at hb
    · simp only [Option.map_eq_some_iff] at hb
      obtain ⟨b0, hb0, rfl⟩ := hb
      rcases h.blk i b0 hb0 with ⟨h1, h2⟩ | ⟨ad, h1, h2⟩
      · exact .inl ⟨h1, by simp [Blk.wipe, h2]⟩
      · exact .inr ⟨ad, h1, h2.wipe q⟩
  inj := fun i j a b hi hj => h.inj i j a b (fun e => hi (by simp only [St.wipe]; split <;> simp [e])) (fun e => hj (by simp only [St.wipe]; split <;> simp [e]))
  low := h.low
  top := h.top
  glo := h.glo
  lp := by
    show LoopRep w A β base (if q yldId then none else σ.loop) acts
    split
    · trivial
    · exact h.lp

end Go.Dam
end

section
namespace Go.Dam
open Go Go.RowKit
set_option linter.unusedSectionVars false
variable [Glo]
set_option linter.unusedSimpArgs false
set_option linter.unusedVariables false

/-- Code without a loop over a function. -/
def noRange : Code → Bool
  | .seq a b => noRange a && noRange b
  | .cond _ a b => noRange a && noRange b
  | .block _ a => noRange a
  | .loop a => noRange a
  | .rangeFunc .. => false
  | _ => true

/-- How a loop over a function is left. -/
def LSt.leaves : LSt → Option Ex
  | .ready => some .normal
  | .done .ret => some .ret
  | .done (.exit id) => some (.exit id)
  | _ => none

def LSt.ready? : LSt → Bool
  | .ready => true
  | _ => false
def LSt.busy? : LSt → Bool
  | .busy => true
  | _ => false

/-- How a round is left. -/
def Ex.round : Ex → LSt
  | .normal => .ready
  | .ret => .done .ret
  | .exit id => .done (.exit id)

def Ex.goes : Ex → Bool
  | .normal => true
  | _ => false

def loopFits : Option LoopSt → Nat → Bool
  | none, _ => true
  | some L, n => Nat.ble L.depth n

def ghost : Fr := { nt := 1, tm := fun _ => .undef }

/-- The iterator begins. -/
def St.ranged (σ : St) (ps : Array Tmp) (assign body : Code) (caps : List D) (nt : Nat) : St :=
  { fr := { nt := (.yld :: caps).length + (nt - (.yld :: caps).length), tm := fun t => ((.yld :: caps) ++ List.replicate (nt - (.yld :: caps).length) (D.v undef)).getD t .undef },
    stk := (σ.forget yldId).fr :: ghost :: (σ.forget yldId).stk, bk := (σ.forget yldId).bk,
    loop := some { ps := ps, assign := assign, body := body, depth := σ.stk.length + 2, state := .ready } }

def Fr.puts (f : Fr) : List (Tmp × D) → Fr
  | [] => f
  | (t, d) :: l => (f.put t d).puts l

/-- A round begins. -/
def St.round (σ : St) (f : Fr) (ps : List (Tmp × D)) : St := { fr := f.puts ps, stk := σ.fr :: σ.stk, bk := σ.bk, loop := σ.loop }

def St.at (σ : St) (L : LoopSt) (s : LSt) : St := { σ with loop := some { L with state := s } }

inductive Job where
  | code (c : Code)
  | rounds (c : Code)
  | ops (R : Array Oper) (l : List Oper)
  | draws (R : Array Oper) (p : Plan) (k : Nat) (l : List Oper)

def Job.plain : Job → Bool
  | .draws _ _ _ _ => false
  | _ => true

/-- WHAT THE ABSTRACT MACHINE DOES. -/
inductive Runs (P : Program) (F : FuncId → List D → D → Prop) : Job → St → Ex → St → Prop
  | nil {R : Array Oper} {σ : St} : Runs P F (.ops R []) σ .normal σ
  | skipped {R : Array Oper} {o : Oper} {l : List Oper} {σ σ' : St} : wantedD R o σ = some false → Runs P F (.ops R l) (σ.put o.dst (.v undef)) .normal σ' → Runs P F (.ops R (o :: l)) σ .normal σ'
  | step {R : Array Oper} {o : Oper} {l : List Oper} {σ σ1 σ' : St} : wantedD R o σ = some true → OpStep P F o σ σ1 → Runs P F (.ops R l) σ1 .normal σ' → Runs P F (.ops R (o :: l)) σ .normal σ'
  | inline {R : Array Oper} {o : Oper} {l : List Oper} {σ σ1 σ' : St} {fo : Operand} {args : Array Operand} {f : FuncId} {caps : List D} {fn : Func} {c : Code} {e : Ex} {ds : List D} {fr : Fr} {stk : List Fr} :
      wantedD R o σ = some true → callParts o.op = some (fo, args) → evalD σ fo = .fn f caps → bodyOf P f = some (fn, c) →
      Runs P F (.code c) (σ.enter (args.toList.map (evalD σ) ++ caps) fn.ntmps) e σ1 → e = .normal ∨ e = .ret → resD P σ1 fn.results.toList = some ds → σ1.stk = fr :: stk → loopFits σ1.loop stk.length = true →
      Runs P F (.ops R l) (St.put { fr := fr, stk := stk, bk := σ1.bk, loop := σ1.loop } o.dst (resOut ds)) .normal σ' → Runs P F (.ops R (o :: l)) σ .normal σ'
  | yield {R : Array Oper} {o : Oper} {l : List Oper} {σ σ1 σ2 σ' : St} {fo : Operand} {args : Array Operand} {L L1 L2 : LoopSt} {e : Ex} {fr0 gh frI : Fr} {stk stk' : List Fr} :
      wantedD R o σ = some true → callParts o.op = some (fo, args) → evalD σ fo = .yld → σ.loop = some L → L.state.ready? = true → σ.stk = fr0 :: gh :: stk → stk.length + 2 = L.depth → args.size = L.ps.size → noRange L.assign = true → noRange L.body = true →
      Runs P F (.code L.assign) (σ.round fr0 (L.ps.toList.zip (args.toList.map (evalD σ)))) .normal σ1 → σ1.loop = some L1 → L1.state.ready? = true → L1.depth = L.depth →
      Runs P F (.code L.body) (σ1.at L1 .busy) e σ2 → σ2.loop = some L2 → L2.state.busy? = true → L2.depth = L.depth → σ2.stk = frI :: stk' →
      Runs P F (.ops R l) (St.put { fr := frI, stk := stk', bk := σ2.bk, loop := some { L2 with state := e.round } } o.dst (.v (.bool e.goes))) .normal σ' → Runs P F (.ops R (o :: l)) σ .normal σ'
  | ranged {g : Operand} {ps : Array Tmp} {assign body : Code} {f : FuncId} {caps : List D} {fn : Func} {c : Code} {σ σ1 : St} {e1 e : Ex} {L1 : LoopSt} {fr gh : Fr} {stk : List Fr} :
      σ.loop = none → evalD (σ.forget yldId) g = .fn f caps → bodyOf P f = some (fn, c) → Runs P F (.code c) (σ.ranged ps assign body caps fn.ntmps) e1 σ1 → e1 = .normal ∨ e1 = .ret → fn.results.toList = [] →
      σ1.loop = some L1 → L1.state.leaves = some e → L1.depth = σ.stk.length + 2 → σ1.stk = fr :: gh :: stk → Runs P F (.code (.rangeFunc g ps assign body)) σ e { fr := fr, stk := stk, bk := σ1.bk }
  | region {id : Nat} {R : Array Oper} {σ σ' : St} : Runs P F (.ops R R.toList) σ .normal σ' → Runs P F (.code (.region id R false)) σ .normal σ'
  | skip {σ : St} : Runs P F (.code .skip) σ .normal σ
  | ret {σ : St} : Runs P F (.code .ret) σ .ret σ
  | exit {id : Nat} {σ : St} : Runs P F (.code (.exit id)) σ (.exit id) σ
  | seq {x y : Code} {σ σ1 σ' : St} {e : Ex} : Runs P F (.code x) σ .normal σ1 → Runs P F (.code y) σ1 e σ' → Runs P F (.code (.seq x y)) σ e σ'
  | leave {x y : Code} {σ σ' : St} {e : Ex} : Runs P F (.code x) σ e σ' → e ≠ .normal → Runs P F (.code (.seq x y)) σ e σ'
  | cond {c : Operand} {x y : Code} {b : Bool} {σ σ' : St} {e : Ex} : evalD σ c = .v (.bool b) → Runs P F (.code (if b then x else y)) σ e σ' → Runs P F (.code (.cond c x y)) σ e σ'
  | block {id : Nat} {c : Code} {σ σ' : St} {e : Ex} : Runs P F (.code c) σ e σ' → Runs P F (.code (.block id c)) σ (if e = .exit id then .normal else e) σ'
  | loop {c : Code} {σ σ' : St} {e : Ex} : Runs P F (.rounds c) σ e σ' → Runs P F (.code (.loop c)) σ e σ'
  | round {c : Code} {σ σ1 σ' : St} {e : Ex} : Runs P F (.code c) σ .normal σ1 → Runs P F (.rounds c) σ1 e σ' → Runs P F (.rounds c) σ e σ'
  | last {c : Code} {σ σ' : St} {e : Ex} : Runs P F (.code c) σ e σ' → e ≠ .normal → Runs P F (.rounds c) σ e σ'
  | weak {j : Job} {σ σ1 σ' : St} {e : Ex} : j.plain = true → Weaker σ σ1 → Runs P F j σ1 e σ' → Runs P F j σ e σ'
  | late {j : Job} {σ σ1 σ' : St} {e : Ex} : j.plain = true → Runs P F j σ e σ1 → Weaker σ1 σ' → Runs P F j σ e σ'
  | wipe {j : Job} {q : Nat → Bool} {σ σ' : St} {e : Ex} : j.plain = true → Runs P F j (σ.wipe q) e σ' → Runs P F j σ e σ'
  | after {R : Array Oper} {l : List Oper} {q : Nat → Bool} {σ σ' : St} : Runs P F (.ops R l) σ .normal σ' → Runs P F (.ops R l) σ .normal (σ'.wipe q)
  | dnil {R : Array Oper} {p : Plan} {k : Nat} {σ : St} : Runs P F (.draws R p k []) σ .normal σ
  | dstep {R : Array Oper} {p : Plan} {k : Nat} {o : Oper} {l : List Oper} {σ σ1 σ' : St} : QStep P F (fun _ _ _ => False) R p k o σ σ1 → Runs P F (.draws R p (k + 1) l) σ1 .normal σ' → Runs P F (.draws R p k (o :: l)) σ .normal σ'
  | dother {R : Array Oper} {p : Plan} {k : Nat} {o : Oper} {l : List Oper} {σ σ1 σ' : St} : p.T k = true → Runs P F (.ops R [o]) σ .normal σ1 → (∀ l, p.W k l = true → ∀ id ∈ p.zs l, Unused id σ1) → Runs P F (.draws R p (k + 1) l) σ1 .normal σ' → Runs P F (.draws R p k (o :: l)) σ .normal σ'
  | drawn {id : Nat} {R : Array Oper} {p : Plan} {σ σ' : St} : P.follows .mixedOrders = true → PlanOK P R p → (∀ k, ∀ id ∈ p.zs k, Unused id σ) → Runs P F (.draws R p 0 R.toList) σ .normal σ' → Runs P F (.code (.region id R true)) σ .normal σ'

end Go.Dam
end
