/- The engine, part AA: an abstract machine for the program's functions, proved right against the model. No condition. -/
import Derived.Test.YtpbngkempchamaaDamZ
set_option linter.unusedSectionVars false
set_option linter.unusedVariables false
set_option linter.unusedSimpArgs false
namespace Go.Dam
open Go Go.RowKit
set_option linter.unusedSectionVars false
variable [Glo]
set_option linter.unusedSimpArgs false
set_option linter.unusedVariables false

section
variable {P : Program} {F : FuncId → List D → D → Prop} {R : Array Oper} {O : Oper → St → St → Prop} {p : Plan}

/-- Which pairs may stand in either order. -/
def pairB (P : Program) (R : Array Oper) (p : Plan) (i j : Nat) (oi oj : Oper) : Bool :=
  oi.apart R oj && (!p.T i && (!p.T j && (p.W i j && (p.W j i &&
  ((decide (kindOf P oi.op ≤ 1) && decide (kindOf P oj.op ≤ 1)) || ((kindOf P oi.op == 0 && kindOf P oj.op == 2) || ((kindOf P oi.op == 1 && kindOf P oj.op == 2 && ((p.S i).contains j && p.U j)) || ((kindOf P oi.op == 2 && kindOf P oj.op == 0) || ((kindOf P oi.op == 0 && kindOf P oj.op == 4) || (kindOf P oi.op == 4 && kindOf P oj.op == 0))))))))))

/-- What has not run yet finds its blocks unused. -/
def Inv (p : Plan) (listed : Array Bool) (σ : St) : Prop := ∀ k, listed.getD k true = false → ∀ id ∈ p.zs k, Unused id σ

theorem eval_put_ne {σ : St} {dst : Option Tmp} {d : D} {x : Operand} (h : ∀ t, dst = some t → x ≠ .tmp t) (bk : Nat → Option Blk) : evalD (St.put { σ with bk := bk } dst d) x = evalD σ x := by
  cases dst with
  | none => cases x <;> rfl
  | some t =>
    cases x with
    | tmp s =>
      have hne : s ≠ t := fun e => h t rfl (by rw [e])
      simp [evalD, St.put, Fr.put, hne]
    | _ => rfl

theorem Sep.move {ρ ρ' : Operand → D} {o : Oper} {t : Nat} {r : QR} (h : Sep ρ o t r) (h1 : ∀ y ∈ o.op.operands, ρ' y = ρ y) : Sep ρ' o t r :=
  ⟨fun y hy => by rw [h1 y hy]; exact h.1 y hy, h.2⟩

theorem eval_q_ne {σ : St} {dst : Option Tmp} {r : QR} {x : Operand} (h : ∀ t, dst = some t → x ≠ .tmp t) : evalD (σ.q dst r) x = evalD σ x := eval_put_ne h _
theorem eval_sto_ne {σ : St} {dst : Option Tmp} {id : Nat} {b : Blk} {x : Operand} (h : ∀ t, dst = some t → x ≠ .tmp t) : evalD ((σ.setB id b).put dst (.v undef)) x = evalD σ x := by
  have : (σ.setB id b).put dst (.v undef) = St.put { σ with bk := (σ.setB id b).bk } dst (.v undef) := rfl
  rw [this]; exact eval_put_ne h _

/-- A copy's step. -/
structure CQ (P : Program) (R : Array Oper) (p : Plan) (k : Nat) (o : Oper) (σ : St) (id off : Nat) (k' : Value) (ds cells : List D) : Prop where
  w : wantedD R o σ = some true
  kd : kindOf P o.op = 4
  op : opD P σ.bk (evalD σ) o.type o.op = some (.cpy id off ds k')
  b : σ.bk id = some ⟨cells, false⟩
  l : off + ds.length ≤ cells.length
  m : ∀ d ∈ ds, NoMen p k d

theorem callParts_kind {op : Op} {fo : Operand} {args : Array Operand} (h : callParts op = some (fo, args)) : kindOf P op ≤ 1 := by
  cases op with
  | call c =>
    obtain ⟨callee, as, ts⟩ := c
    cases callee with
    | value g => simp [kindOf]
    | _ => simp [callParts] at h
  | _ => simp [callParts] at h

theorem qstep_qq {k : Nat} {o : Oper} {σ σ' : St} (h : QStep P F O R p k o σ σ') (hk : p.T k = false) :
    (∃ r, QQ P F R p k o σ r ∧ σ' = σ.q o.dst r ∧ (wantedD R o σ = some true → kindOf P o.op ≤ 1) ∧ (wantedD R o σ = some true → kindOf P o.op = 0 ∨ ∀ j ∈ p.S k, Sep (evalD σ) o (p.tgt j) r)) ∨
    (∃ id off ds cells, wantedD R o σ = some true ∧ kindOf P o.op = 2 ∧ opD P σ.bk (evalD σ) o.type o.op = some (.sto id off ds) ∧ σ.bk id = some ⟨cells, false⟩ ∧ off + ds.length ≤ cells.length ∧ (∀ d ∈ ds, NoMen p k d) ∧ (p.U k = true → id = p.tgt k) ∧ σ' = (σ.setB id ⟨splice cells off ds, false⟩).put o.dst (.v undef)) ∨
    (∃ id off k' ds cells, CQ P R p k o σ id off k' ds cells ∧ σ' = (σ.setB id ⟨splice cells off ds, false⟩).put o.dst (D.ofV k')) := by
  cases h with
  | skip h => exact .inl ⟨_, qq_of_skip h, rfl, (fun e => by rw [h] at e; cases e), fun e => by rw [h] at e; cases e⟩
  | op h1 h2 h3 h4 h5 h6 h7 =>
    refine .inl ⟨_, ⟨.inr ⟨h1, h2⟩, h3, h4, h5, h6⟩, rfl, fun _ => ?_, fun _ => h7⟩
    cases h2 with
    | val h _ => exact h
    | box h _ => exact h
    | row h _ => exact h
    | row0 h _ => exact h
    | app0 h _ _ => exact h
    | ext h _ _ _ => exact callParts_kind h
    | call h _ _ _ _ => exact callParts_kind h
  | sto h1 h2 h3 h4 h5 h6 h7 => exact .inr (.inl ⟨_, _, _, _, h1, h2, h3, h4, h5, h6, h7, rfl⟩)
  | cpy h1 h2 h3 h4 h5 h6 => exact .inr (.inr ⟨_, _, _, _, _, ⟨h1, h2, h3, h4, h5, h6⟩, rfl⟩)
  | oth h _ _ => rw [hk] at h; cases h

theorem cpy_same {o oi : Oper} {σ : St} {id : Nat} {b : Blk} {d0 : D} (h : ∀ d, oi.dst = some d → d ∉ o.looksAt R) : Same R o σ ((σ.setB id b).put oi.dst d0) := by
  intro t ht
  cases hd : oi.dst with
  | none => rfl
  | some d =>
    have hne : t ≠ d := fun e => h d hd (e ▸ ht)
    simp [St.put, Fr.put, hne, St.setB]

theorem CQ.step {k : Nat} {o : Oper} {σ : St} {id off : Nat} {k' : Value} {ds cells : List D} (h : CQ P R p k o σ id off k' ds cells) : QStep P F O R p k o σ ((σ.setB id ⟨splice cells off ds, false⟩).put o.dst (D.ofV k')) :=
  .cpy h.w h.kd h.op h.b h.l h.m

theorem q0 {σ : St} {dst : Option Tmp} {r : QR} (h : r.new = [] ∧ r.ro = []) : σ.q dst r = σ.put dst r.d := by
  simp only [St.q, qbk0 h]

/-- A step that touches no memory, and a copy. -/
theorem comm_0c {i j : Nat} {oi oj : Oper} (hap : oi.apart R oj = true) {σ : St} {ri : QR} {id off : Nat} {k' : Value} {ds cells : List D} (hi : QQ P F R p i oi σ ri) (hk : wantedD R oi σ = some true → kindOf P oi.op = 0) (hj : CQ P R p j oj (σ.q oi.dst ri) id off k' ds cells) :
    CQ P R p j oj σ id off k' ds cells ∧ QQ P F R p i oi ((σ.setB id ⟨splice cells off ds, false⟩).put oj.dst (D.ofV k')) ri ∧
      ((σ.q oi.dst ri).setB id ⟨splice cells off ds, false⟩).put oj.dst (D.ofV k') = ((σ.setB id ⟨splice cells off ds, false⟩).put oj.dst (D.ofV k')).q oi.dst ri := by
  obtain ⟨a1, a2, a3⟩ := Oper.apart_spec hap
  have h0 := qq0 hi hk
  have sj : Same R oj σ (σ.q oi.dst ri) := q_same a1
  have si : Same R oi σ ((σ.setB id ⟨splice cells off ds, false⟩).put oj.dst (D.ofV k')) := cpy_same a3
  have ebk : (σ.q oi.dst ri).bk = σ.bk := by rw [bk_q, qbk0 h0]
  refine ⟨⟨sj.wanted.symm.trans hj.w, hj.kd, ?_, by rw [← ebk]; exact hj.b, hj.l, hj.m⟩, ?_, ?_⟩
  · have := hj.op
    rw [ebk] at this
    rw [← this]
    exact opD_congr fun x hx => (sj.eval x hx).symm
  · refine hi.move si (fun l cs hc => by rw [h0.1] at hc; cases hc) (fun hw1 hk1 => opD_pure (hk hw1)) (fun hw1 fo args f caps as passed h1 h2 h3 h4 => absurd h1 (kind0_call (hk hw1)))
  · rw [q0 h0, q0 h0]
    have e : ∀ (τ : St) (d : D), (τ.put oi.dst d).setB id ⟨splice cells off ds, false⟩ = (τ.setB id ⟨splice cells off ds, false⟩).put oi.dst d := fun τ d => by cases oi.dst <;> rfl
    rw [e, St.put_comm _ (s := oi.dst) (t := oj.dst) a2]

/-- A copy, and a step that touches no memory. -/
theorem comm_c0 {i j : Nat} {oi oj : Oper} (hap : oi.apart R oj = true) {σ : St} {rj : QR} {id off : Nat} {k' : Value} {ds cells : List D} (hi : CQ P R p i oi σ id off k' ds cells) (hj : QQ P F R p j oj ((σ.setB id ⟨splice cells off ds, false⟩).put oi.dst (D.ofV k')) rj)
    (hk : wantedD R oj ((σ.setB id ⟨splice cells off ds, false⟩).put oi.dst (D.ofV k')) = some true → kindOf P oj.op = 0) :
    QQ P F R p j oj σ rj ∧ CQ P R p i oi (σ.q oj.dst rj) id off k' ds cells ∧
      ((σ.setB id ⟨splice cells off ds, false⟩).put oi.dst (D.ofV k')).q oj.dst rj = ((σ.q oj.dst rj).setB id ⟨splice cells off ds, false⟩).put oi.dst (D.ofV k') := by
  obtain ⟨a1, a2, a3⟩ := Oper.apart_spec hap
  have h0 := qq0 hj hk
  have sj : Same R oj σ ((σ.setB id ⟨splice cells off ds, false⟩).put oi.dst (D.ofV k')) := cpy_same a1
  have si : Same R oi σ (σ.q oj.dst rj) := q_same a3
  have ebk : (σ.q oj.dst rj).bk = σ.bk := by rw [bk_q, qbk0 h0]
  refine ⟨?_, ⟨si.wanted.trans hi.w, hi.kd, ?_, by rw [ebk]; exact hi.b, hi.l, hi.m⟩, ?_⟩
  · refine hj.move sj.symm (fun l cs hc => by rw [h0.1] at hc; cases hc) (fun hw1 hk1 => opD_pure (hk hw1)) (fun hw1 fo args f caps as passed h1 h2 h3 h4 => absurd h1 (kind0_call (hk hw1)))
  · rw [ebk, ← hi.op]
    exact opD_congr fun x hx => si.eval x hx
  · rw [q0 h0, q0 h0]
    have e : ∀ (τ : St) (d : D), (τ.put oj.dst d).setB id ⟨splice cells off ds, false⟩ = (τ.setB id ⟨splice cells off ds, false⟩).put oj.dst d := fun τ d => by cases oj.dst <;> rfl
    rw [e, St.put_comm _ (s := oi.dst) (t := oj.dst) a2]

/-- Two steps that may stand in either order. -/
theorem comm {i j : Nat} {oi oj : Oper} (hi : R[i]? = some oi) (hj : R[j]? = some oj) (hp : pairB P R p i j oi oj = true) (hdis : ∀ id, id ∈ p.zs i → id ∉ p.zs j) {σ σ1 σ2 : St} (hun : ∀ id ∈ p.zs j, Unused id σ)
    (h1 : QStep P F O R p i oi σ σ1) (h2 : QStep P F O R p j oj σ1 σ2) : ∃ σ3, QStep P F O R p j oj σ σ3 ∧ QStep P F O R p i oi σ3 σ2 := by
  simp only [pairB, Bool.and_eq_true, Bool.not_eq_true'] at hp
  obtain ⟨hap, hTi, hTj, hWij, hWji, hk⟩ := hp
  obtain ⟨a1, a2, a3⟩ := Oper.apart_spec hap
  rcases qstep_qq h1 hTi with ⟨ri, q1, rfl, ki, s1⟩ | ⟨id, off, ds, cells, w1, k1, o1, b1, l1, m1, t1, rfl⟩ | ⟨id, off, k', ds, cells, cq, rfl⟩
  · rcases qstep_qq h2 hTj with ⟨rj, q2, rfl, kj, s2⟩ | ⟨id, off, ds, cells, w2, k2, o2, b2, l2, m2, t2, rfl⟩ | ⟨id, off, k', ds, cells, cq2, rfl⟩
    · obtain ⟨c1, c2, c3⟩ := comm_qq hWji hap hdis q1 q2 (fun id cs h => hun id (q2.mine id cs h).1)
      refine ⟨σ.q oj.dst rj, ?_, ?_⟩
      · rcases c1.what with ⟨e1, rfl⟩ | ⟨e1, e2⟩
        · exact .skip e1
        · refine c1.step ?_
          have sj : Same R oj σ (σ.q oi.dst ri) := q_same a1
          rcases s2 (sj.wanted.trans e1) with h | h
          · exact .inl h
          · exact .inr fun l hl => (h l hl).move (fun y hy => (sj.eval y hy).symm)
      · rw [c3]
        rcases c2.what with ⟨e1, rfl⟩ | ⟨e1, e2⟩
        · exact .skip e1
        · refine c2.step ?_
          have si : Same R oi σ (σ.q oj.dst rj) := q_same a3
          rcases s1 (si.wanted.symm.trans e1) with h | h
          · exact .inl h
          · exact .inr fun l hl => (h l hl).move (fun y hy => si.eval y hy)
    · obtain ⟨c1, c2, c3⟩ := comm_qs hap q1 w2 k2 o2 b2 l2 m2 (ht := t2) (fun hw => by
        have hk1 := ki hw
        rcases s1 hw with h | h
        · exact .inl h
        · simp only [k2, Bool.or_eq_true, Bool.and_eq_true, decide_eq_true_eq, beq_iff_eq] at hk
          rcases hk with ⟨_, hk⟩ | ⟨hk, _⟩ | hk | ⟨_, hk⟩ | ⟨_, hk⟩ | ⟨_, hk⟩
          · exact absurd hk (by decide)
          · exact .inl hk
          · have hk' := hk.2
            rw [t2 hk'.2]
            exact .inr (h j (by simpa using hk'.1))
          · exact absurd hk (by decide)
          · exact absurd hk (by decide)
          · exact absurd hk (by decide))
      refine ⟨_, c1, ?_⟩
      rw [c3]
      rcases c2.what with ⟨e1, rfl⟩ | ⟨e1, e2⟩
      · exact .skip e1
      · refine c2.step ?_
        have si : Same R oi σ ((σ.setB id ⟨splice cells off ds, false⟩).put oj.dst (.v undef)) := sto_same a3
        rcases s1 (si.wanted.symm.trans e1) with h | h
        · exact .inl h
        · exact .inr fun l hl => (h l hl).move (fun y hy => si.eval y hy)
    · have hki : kindOf P oi.op = 0 := by
        have := cq2.kd
        simp only [this, Bool.or_eq_true, Bool.and_eq_true, decide_eq_true_eq, beq_iff_eq] at hk
        rcases hk with ⟨_, hk⟩ | ⟨_, hk⟩ | ⟨⟨_, hk⟩, _⟩ | ⟨_, hk⟩ | ⟨hk, _⟩ | ⟨_, hk⟩
        · exact absurd hk (by decide)
        · exact absurd hk (by decide)
        · exact absurd hk (by decide)
        · exact absurd hk (by decide)
        · exact hk
        · exact absurd hk (by decide)
      obtain ⟨c1, c2, c3⟩ := comm_0c hap q1 (fun _ => hki) cq2
      refine ⟨_, c1.step, ?_⟩
      rw [c3]
      rcases c2.what with ⟨e1, rfl⟩ | ⟨e1, e2⟩
      · exact .skip e1
      · exact c2.step (.inl hki)
  · have hkj : kindOf P oj.op = 0 := by
      simp only [k1, Bool.or_eq_true, Bool.and_eq_true, decide_eq_true_eq, beq_iff_eq] at hk
      rcases hk with ⟨hk, _⟩ | ⟨hk, _⟩ | ⟨⟨hk, _⟩, _⟩ | ⟨_, hk⟩ | ⟨hk, _⟩ | ⟨hk, _⟩
      · exact absurd hk (by decide)
      · exact absurd hk (by decide)
      · exact absurd hk (by decide)
      · exact hk
      · exact absurd hk (by decide)
      · exact absurd hk (by decide)
    rcases qstep_qq h2 hTj with ⟨rj, q2, rfl, kj, s2⟩ | ⟨id, off, ds, cells, w2, k2, o2, b2, l2, m2, t2, rfl⟩ | ⟨id, off, k', ds, cells, cq2, rfl⟩
    · obtain ⟨c1, c2, c3⟩ := comm_sq (O := O) hap w1 k1 o1 b1 l1 m1 t1 q2 (fun _ => hkj) (fun id cs h => hun id (q2.mine id cs h).1)
      refine ⟨σ.q oj.dst rj, ?_, ?_⟩
      · rcases c1.what with ⟨e1, rfl⟩ | ⟨e1, e2⟩
        · exact .skip e1
        · exact c1.step (.inl hkj)
      · rw [c3]; exact c2
    · rw [hkj] at k2; cases k2
    · have := cq2.kd; rw [hkj] at this; cases this
  · have hkj : kindOf P oj.op = 0 := by
      have := cq.kd
      simp only [this, Bool.or_eq_true, Bool.and_eq_true, decide_eq_true_eq, beq_iff_eq] at hk
      rcases hk with ⟨hk, _⟩ | ⟨hk, _⟩ | ⟨⟨hk, _⟩, _⟩ | ⟨hk, _⟩ | ⟨hk, _⟩ | ⟨_, hk⟩
      · exact absurd hk (by decide)
      · exact absurd hk (by decide)
      · exact absurd hk (by decide)
      · exact absurd hk (by decide)
      · exact absurd hk (by decide)
      · exact hk
    rcases qstep_qq h2 hTj with ⟨rj, q2, rfl, kj, s2⟩ | ⟨id, off, ds, cells, w2, k2, o2, b2, l2, m2, t2, rfl⟩ | ⟨id2, off2, k2', ds2, cells2, cq2, rfl⟩
    · obtain ⟨c1, c2, c3⟩ := comm_c0 hap cq q2 (fun _ => hkj)
      refine ⟨σ.q oj.dst rj, ?_, ?_⟩
      · rcases c1.what with ⟨e1, rfl⟩ | ⟨e1, e2⟩
        · exact .skip e1
        · exact c1.step (.inl hkj)
      · rw [c3]; exact c2.step
    · rw [hkj] at k2; cases k2
    · have := cq2.kd; rw [hkj] at this; cases this

end
end Go.Dam
