/- The engine, part Y: an abstract machine for the program's functions, proved right against the model. No condition. -/
import Derived.Test.YtpbngkempchamaaDamW
set_option linter.unusedSectionVars false
set_option linter.unusedVariables false
set_option linter.unusedSimpArgs false
namespace Go.Dam
open Go Go.RowKit
set_option linter.unusedSectionVars false
variable [Glo]
set_option linter.unusedSimpArgs false
set_option linter.unusedVariables false

section
variable {P : Program} {F : FuncId → List D → D → Prop} {R : Array Oper}

/-- The state looks the same to an operation. -/
def Same (R : Array Oper) (o : Oper) (σ σ' : St) : Prop := ∀ t ∈ o.looksAt R, σ'.fr.tm t = σ.fr.tm t

theorem Same.symm {o : Oper} {σ σ' : St} (h : Same R o σ σ') : Same R o σ' σ := fun t ht => (h t ht).symm

theorem Same.eval {o : Oper} {σ σ' : St} (h : Same R o σ σ') : ∀ x ∈ o.op.operands, evalD σ' x = evalD σ x := by
  intro x hx
  cases x with
  | tmp t => exact h t (by simp [Oper.looksAt]; left; exact ⟨_, hx, rfl⟩)
  | _ => rfl

theorem Same.wanted {o : Oper} {σ σ' : St} (h : Same R o σ σ') : wantedD R o σ' = wantedD R o σ := by
  unfold wantedD
  cases hg : o.guard with
  | none => rfl
  | some g =>
    obtain ⟨j, want⟩ := g
    simp only []
    cases hd : (R[j]?).bind (·.dst) with
    | none => rfl
    | some t =>
      simp only []
      rw [h t (by simp [Oper.looksAt, hg, hd])]

theorem q_same {o oi : Oper} {σ : St} {r : QR} (h : ∀ d, oi.dst = some d → d ∉ o.looksAt R) : Same R o σ (σ.q oi.dst r) := by
  intro t ht
  cases hd : oi.dst with
  | none => rfl
  | some d =>
    have hne : t ≠ d := fun e => h d hd (e ▸ ht)
    simp [St.q, St.put, Fr.put, hne]

theorem sto_same {o oi : Oper} {σ : St} {id : Nat} {b : Blk} (h : ∀ d, oi.dst = some d → d ∉ o.looksAt R) : Same R o σ ((σ.setB id b).put oi.dst (.v undef)) := by
  intro t ht
  cases hd : oi.dst with
  | none => rfl
  | some d =>
    have hne : t ≠ d := fun e => h d hd (e ▸ ht)
    simp [St.put, Fr.put, hne, St.setB]

theorem newB_mem {i : Nat} {b : Blk} : ∀ {l : List (Nat × List D)}, newB i l = some b → ∃ cs, (i, cs) ∈ l ∧ b = ⟨cs, false⟩
  | (j, cs) :: l, h => by
    simp only [newB] at h
    split at h
    next e => subst e; simp at h; exact ⟨cs, by simp, h.symm⟩
    next => obtain ⟨cs', h1, h2⟩ := newB_mem h; exact ⟨cs', by simp [h1], h2⟩
theorem newB_none {i : Nat} : ∀ {l : List (Nat × List D)}, (∀ cs, (i, cs) ∉ l) → newB i l = none
  | [], _ => rfl
  | (j, cs) :: l, h => by
    simp only [newB]
    rw [if_neg (fun e => h cs (by simp [e])), newB_none (fun c hc => h c (by simp [hc]))]

theorem hasL_of_get {i : Nat} : ∀ {cs : List D}, D.hasL i cs = true → ∃ d ∈ cs, d.has i = true
  | d :: ds, h => by
    simp only [D.hasL, Bool.or_eq_true] at h
    rcases h with h | h
    · exact ⟨d, by simp, h⟩
    · obtain ⟨e, h1, h2⟩ := hasL_of_get h; exact ⟨e, by simp [h1], h2⟩
theorem hasL_false {i : Nat} {cs : List D} (h : ∀ d ∈ cs, d.has i = false) : D.hasL i cs = false := by
  rw [Bool.eq_false_iff]; intro e
  obtain ⟨d, h1, h2⟩ := hasL_of_get e
  rw [h d h1] at h2; cases h2
theorem hasL_mem {i : Nat} : ∀ {cs : List D}, D.hasL i cs = false → ∀ d ∈ cs, d.has i = false
  | d :: ds, h, e, he => by
    simp [D.hasL] at h
    rcases List.mem_cons.1 he with rfl | he
    · exact h.1
    · exact hasL_mem h.2 e he

theorem agree_q {bk : Nat → Option Blk} {r : QR} : Agree (fun i => ∃ cs, (i, cs) ∈ r.new) bk (qbk bk r) := by
  intro i hi
  simp only [qbk]
  rw [newB_none (fun cs hc => hi ⟨cs, hc⟩)]
  simp only []
  split
  · cases bk i <;> rfl
  · rfl

/-- What a step gives, where memory is the same to it. -/
theorem qop_move {o : Oper} {ρ ρ' : Operand → D} {bk bk' : Nat → Option Blk} {r : QR} (h : QOp P F o ρ bk r) (hρ : ∀ x ∈ o.op.operands, ρ' x = ρ x)
    (hop : kindOf P o.op ≤ 1 → opD P bk' ρ o.type o.op = opD P bk ρ o.type o.op) (hsh : ∀ fo args (f : FuncId) (caps as : List D) passed, callParts o.op = some (fo, args) → ρ fo = .fn f caps → shareAll (share bk depth) (args.toList.map ρ ++ caps) = some (as, passed) → r.told = passed →
      shareAll (share bk' depth) (args.toList.map ρ ++ caps) = some (as, passed)) : QOp P F o ρ' bk' r := by
  have hcong : kindOf P o.op ≤ 1 → opD P bk' ρ' o.type o.op = opD P bk ρ o.type o.op := fun hk => (opD_congr hρ).trans (hop hk)
  have hparts : ∀ fo args, callParts o.op = some (fo, args) → ρ' fo = ρ fo ∧ args.toList.map ρ' = args.toList.map ρ := by
    intro fo args hc
    cases hopc : o.op with
    | call c =>
      rw [hopc] at hc
      obtain ⟨callee, as, ts⟩ := c
      cases callee with
      | value g =>
        simp [callParts] at hc
        obtain ⟨rfl, rfl⟩ := hc
        refine ⟨hρ _ (by rw [hopc]; simp [Op.operands, Call.operands]), List.map_congr_left fun x hx => hρ x (by rw [hopc]; simp [Op.operands, Call.operands]; right; simpa using hx)⟩
      | _ => simp [callParts] at hc
    | _ => rw [hopc] at hc; simp [callParts] at hc
  cases h with
  | val hk h1 => exact .val hk ((hcong hk).trans h1)
  | box hk h1 => exact .box hk ((hcong hk).trans h1)
  | row hk h1 => exact .row hk ((hcong hk).trans h1)
  | row0 hk h1 => exact .row0 hk ((hcong hk).trans h1)
  | app0 hk h1 hs => exact .app0 hk ((hcong hk).trans h1) hs
  | ext h1 h2 h3 h4 =>
    obtain ⟨e1, e2⟩ := hparts _ _ h1
    exact .ext h1 (e1.trans h2) (by rw [e2]; exact h3) h4
  | @call fo args f caps as passed res id h1 h2 h3 h4 h5 =>
    obtain ⟨e1, e2⟩ := hparts _ _ h1
    refine .call h1 (e1.trans h2) h3 ?_ h5
    rw [e2]
    exact hsh fo args f caps as passed h1 h2 h4 rfl

theorem ofV_has (v : Value) (id : Nat) : (D.ofV v).has id = false := by
  cases v with
  | agg cs =>
    simp only [D.ofV, D.has]
    refine hasL_false fun d hd => ?_
    simp only [List.mem_map] at hd
    obtain ⟨x, _, rfl⟩ := hd
    rfl
  | tuple cs =>
    simp only [D.ofV, D.has]
    refine hasL_false fun d hd => ?_
    simp only [List.mem_map] at hd
    obtain ⟨x, _, rfl⟩ := hd
    rfl
  | _ => rfl

theorem Unused.eval {id : Nat} {σ : St} (h : Unused id σ) (x : Operand) : (evalD σ x).has id = false := by
  cases x with
  | tmp t => exact h.fr t
  | const v => exact ofV_has v id
  | global g =>
    show (gloD (Glo.g g)).has id = false
    cases Glo.g g <;> rfl
  | func f => simp [evalD, D.has, D.hasL]

/-- The blocks that are told are spoken of. -/
theorem share_ids {bk : Nat → Option Blk} {i : Nat} (hb : ∀ j b, bk j = some b → D.hasL i b.cells = false) : ∀ (k : Nat) (d e : D) (ids : List Nat), share bk k d = some (e, ids) → d.has i = false → i ∉ ids := by
  intro k
  induction k with
  | zero =>
    intro d e ids h _
    cases d with
    | v x => simp only [share, Option.some.injEq, Prod.mk.injEq] at h; obtain ⟨_, rfl⟩ := h; simp
    | emp => simp only [share, Option.some.injEq, Prod.mk.injEq] at h; obtain ⟨_, rfl⟩ := h; simp
    | rc cs => simp only [share, Option.some.injEq, Prod.mk.injEq] at h; obtain ⟨_, rfl⟩ := h; simp
    | sh n cs => simp only [share, Option.some.injEq, Prod.mk.injEq] at h; obtain ⟨_, rfl⟩ := h; simp
    | fn f cs => cases cs with
      | nil => simp only [share, Option.some.injEq, Prod.mk.injEq] at h; obtain ⟨_, rfl⟩ := h; simp
      | cons _ _ => simp [share] at h
    | _ => simp [share] at h
  | succ k ih =>
    have hall : ∀ (ds es : List D) (ids : List Nat), shareAll (share bk k) ds = some (es, ids) → D.hasL i ds = false → i ∉ ids := by
      intro ds
      induction ds with
      | nil => intro es ids h _; simp [share.shareAll] at h; obtain ⟨_, rfl⟩ := h; simp
      | cons d ds ihd =>
        intro es ids h hn
        simp only [share.shareAll] at h
        split at h
        next e j es' is' h1 h2 =>
          simp at h; obtain ⟨rfl, rfl⟩ := h
          simp [D.hasL] at hn
          simp [ih d e j h1 hn.1, ihd es' is' h2 hn.2]
        · cases h
    intro d e ids h hd
    cases d with
    | v x => simp only [share, Option.some.injEq, Prod.mk.injEq] at h; obtain ⟨_, rfl⟩ := h; simp
    | emp => simp only [share, Option.some.injEq, Prod.mk.injEq] at h; obtain ⟨_, rfl⟩ := h; simp
    | rc cs => simp only [share, Option.some.injEq, Prod.mk.injEq] at h; obtain ⟨_, rfl⟩ := h; simp
    | sh n cs => simp only [share, Option.some.injEq, Prod.mk.injEq] at h; obtain ⟨_, rfl⟩ := h; simp
    | fn f cs => cases cs with
      | nil => simp only [share, Option.some.injEq, Prod.mk.injEq] at h; obtain ⟨_, rfl⟩ := h; simp
      | cons _ _ => simp [share] at h
    | agg cs =>
      simp only [share] at h
      split at h
      · cases h
      next ds is h1 =>
        simp at h; obtain ⟨rfl, rfl⟩ := h
        exact hall cs ds is h1 (by simpa [D.has] using hd)
    | sl id off n sz =>
      simp only [share] at h
      split at h
      · cases h
      next b hbk =>
        split at h
        next hl =>
          split at h
          · cases h
          next cs is h1 =>
            simp at h; obtain ⟨rfl, rfl⟩ := h
            have h2 := hall _ _ _ h1 (hasL_sub (hb id b hbk) _ _)
            simp [D.has] at hd
            simp [h2, Ne.symm hd]
        · cases h
    | _ => simp [share] at h

theorem shareAll_ids {bk : Nat → Option Blk} {i : Nat} (hb : ∀ j b, bk j = some b → D.hasL i b.cells = false) {k : Nat} : ∀ (ds es : List D) (ids : List Nat), shareAll (share bk k) ds = some (es, ids) → D.hasL i ds = false → i ∉ ids
  | [], es, ids, h, _ => by simp [share.shareAll] at h; obtain ⟨_, rfl⟩ := h; simp
  | d :: ds, es, ids, h, hn => by
    simp only [share.shareAll] at h
    split at h
    next e j es' is' h1 h2 =>
      simp at h; obtain ⟨rfl, rfl⟩ := h
      simp [D.hasL] at hn
      simp [share_ids hb k d e j h1 hn.1, shareAll_ids hb ds es' is' h2 hn.2]
    · cases h

/-- What a step makes read-only is spoken of in the state. -/
theorem qop_ro {o : Oper} {σ : St} {r : QR} (h : QOp P F o (evalD σ) σ.bk r) {id : Nat} (hu : ∀ j b, σ.bk j = some b → D.hasL id b.cells = false) (he : ∀ x ∈ o.op.operands, (evalD σ x).has id = false) : id ∉ r.ro := by
  cases h with
  | call h1 h2 h3 h4 h5 =>
    simp only []
    split
    · simp
    · refine shareAll_ids hu _ _ _ h4 (hasL_false fun d hd => ?_)
      cases hopc : o.op with
      | call c =>
        rw [hopc] at h1
        obtain ⟨callee, as, ts⟩ := c
        cases callee with
        | value g =>
          simp [callParts] at h1
          obtain ⟨rfl, rfl⟩ := h1
          rcases List.mem_append.1 hd with hd | hd
          · simp only [List.mem_map] at hd
            obtain ⟨x, hx, rfl⟩ := hd
            exact he x (by rw [hopc]; simp [Op.operands, Call.operands]; right; simpa using hx)
          · have := he g (by rw [hopc]; simp [Op.operands, Call.operands])
            rw [h2] at this
            exact hasL_mem (by simpa [D.has] using this) d hd
        | _ => simp [callParts] at h1
      | _ => rw [hopc] at h1; simp [callParts] at h1
  | _ => simp

theorem Fr.put_comm (f : Fr) {s t : Nat} (h : s ≠ t) (d e : D) : (f.put s d).put t e = (f.put t e).put s d := by
  simp only [Fr.put]
  congr 1
  funext i
  by_cases h1 : i = t
  · subst h1; rw [if_pos rfl, if_neg (Ne.symm h), if_pos rfl]; rfl
  · by_cases h2 : i = s
    · subst h2; rw [if_neg h, if_pos rfl, if_pos rfl]; rfl
    · rw [if_neg h1, if_neg h2, if_neg h2, if_neg h1]

theorem St.put_comm (σ : St) {s t : Option Tmp} (h : ∀ d, s = some d → t ≠ some d) (d e : D) : (σ.put s d).put t e = (σ.put t e).put s d := by
  cases s with
  | none => rfl
  | some s =>
    cases t with
    | none => rfl
    | some t =>
      have hne : s ≠ t := fun e => h s rfl (by rw [e])
      simp only [St.put, Fr.put_comm _ hne]

theorem unused_q {id : Nat} {σ : St} {dst : Option Tmp} {r : QR} (h : Unused id σ) (hd : r.d.has id = false) (hn : ∀ cs, (id, cs) ∉ r.new) (hc : ∀ i cs, (i, cs) ∈ r.new → D.hasL id cs = false) : Unused id (σ.q dst r) where
  fr := fun t => by
    cases dst with
    | none => exact h.fr t
    | some s =>
      simp only [St.q, St.put, Fr.put]
      split
      · split
        · exact hd
        · rfl
      · exact h.fr t
  stk := fun f hf => by
    have : (σ.q dst r).stk = σ.stk := by cases dst <;> rfl
    rw [this] at hf
    exact h.stk f hf
  lp := fun e => by
    have : (σ.q dst r).loop = σ.loop := by cases dst <;> rfl
    rw [this]; exact h.lp e
  no := by
    have : (σ.q dst r).bk = qbk σ.bk r := by cases dst <;> rfl
    rw [this]
    simp only [qbk, newB_none hn, h.no]
    split <;> rfl
  bk := fun i b hb => by
    have : (σ.q dst r).bk = qbk σ.bk r := by cases dst <;> rfl
    rw [this] at hb
    simp only [qbk] at hb
    split at hb
    next b' hb' =>
      simp at hb; subst hb
      obtain ⟨cs, h1, rfl⟩ := newB_mem hb'
      exact hc i cs h1
    next =>
      split at hb
      · simp only [Option.map_eq_some_iff] at hb
        obtain ⟨b0, h1, rfl⟩ := hb
        exact h.bk i b0 h1
      · exact h.bk i b hb

end
end Go.Dam
