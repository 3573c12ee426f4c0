/- The engine, part Z: an abstract machine for the program's functions, proved right against the model. No condition. -/
import Derived.Test.YtpbngkempchamaaDamY
set_option linter.unusedSectionVars false
set_option linter.unusedVariables false
set_option linter.unusedSimpArgs false
namespace Go.Dam
open Go Go.RowKit
set_option linter.unusedSectionVars false
variable [Glo]
set_option linter.unusedSimpArgs false
set_option linter.unusedVariables false

section
variable {P : Program} {F : FuncId → List D → D → Prop} {R : Array Oper} {O : Oper → St → St → Prop} {p : Plan}

/-- A step that turns nothing that is there, its result told. -/
structure QQ (P : Program) (F : FuncId → List D → D → Prop) (R : Array Oper) (p : Plan) (k : Nat) (o : Oper) (σ : St) (r : QR) : Prop where
  what : (wantedD R o σ = some false ∧ r = ⟨.v undef, [], [], []⟩) ∨ (wantedD R o σ = some true ∧ QOp P F o (evalD σ) σ.bk r)
  mine : ∀ i cs, (i, cs) ∈ r.new → i ∈ p.zs k ∧ Unused i σ ∧ ∀ j cs', (j, cs') ∈ r.new → D.hasL i cs' = false
  nodup : (r.new.map (·.1)).Nodup
  men : NoMen p k r.d
  menc : ∀ i cs, (i, cs) ∈ r.new → ∀ d ∈ cs, NoMen p k d

theorem QQ.step {k : Nat} {o : Oper} {σ : St} {r : QR} (h : QQ P F R p k o σ r) (hs : kindOf P o.op = 0 ∨ ∀ j ∈ p.S k, Sep (evalD σ) o (p.tgt j) r) : QStep P F O R p k o σ (σ.q o.dst r) := by
  rcases h.what with ⟨h1, rfl⟩ | ⟨h1, h2⟩
  · exact .skip h1
  · exact .op h1 h2 h.mine h.nodup h.men h.menc hs

theorem qq_of_skip {k : Nat} {o : Oper} {σ : St} (h : wantedD R o σ = some false) : QQ P F R p k o σ ⟨.v undef, [], [], []⟩ :=
  ⟨.inl ⟨h, rfl⟩, (fun i cs h => by cases h), .nil, (fun l _ id _ => rfl), (fun i cs h => by cases h)⟩

/-- The step is the same at another state that looks the same. -/
theorem QQ.move {k : Nat} {o : Oper} {σ σ' : St} {r : QR} (h : QQ P F R p k o σ r) (hs : Same R o σ σ') (hu : ∀ i cs, (i, cs) ∈ r.new → Unused i σ')
    (hop : wantedD R o σ = some true → kindOf P o.op ≤ 1 → opD P σ'.bk (evalD σ) o.type o.op = opD P σ.bk (evalD σ) o.type o.op)
    (hsh : wantedD R o σ = some true → ∀ fo args (f : FuncId) (caps as : List D) passed, callParts o.op = some (fo, args) → evalD σ fo = .fn f caps → shareAll (share σ.bk depth) (args.toList.map (evalD σ) ++ caps) = some (as, passed) → r.told = passed →
      shareAll (share σ'.bk depth) (args.toList.map (evalD σ) ++ caps) = some (as, passed)) : QQ P F R p k o σ' r where
  what := by
    rcases h.what with ⟨h1, h2⟩ | ⟨h1, h2⟩
    · exact .inl ⟨hs.wanted.trans h1, h2⟩
    · exact .inr ⟨hs.wanted.trans h1, qop_move h2 hs.eval (hop h1) (hsh h1)⟩
  mine := fun i cs hm => ⟨(h.mine i cs hm).1, hu i cs hm, (h.mine i cs hm).2.2⟩
  nodup := h.nodup
  men := h.men
  menc := h.menc

theorem callParts_args {op : Op} {fo : Operand} {args : Array Operand} (h : callParts op = some (fo, args)) : fo ∈ op.operands ∧ ∀ x ∈ args.toList, x ∈ op.operands := by
  cases op with
  | call c =>
    obtain ⟨callee, as, ts⟩ := c
    cases callee with
    | value g =>
      simp [callParts] at h
      obtain ⟨rfl, rfl⟩ := h
      exact ⟨by simp [Op.operands, Call.operands], fun x hx => by simp [Op.operands, Call.operands]; right; simpa using hx⟩
    | _ => simp [callParts] at h
  | _ => simp [callParts] at h

theorem args_has {σ : St} {op : Op} {fo : Operand} {args : Array Operand} {f : FuncId} {caps : List D} (h : callParts op = some (fo, args)) (hf : evalD σ fo = .fn f caps) {id : Nat} (he : ∀ x ∈ op.operands, (evalD σ x).has id = false) :
    D.hasL id (args.toList.map (evalD σ) ++ caps) = false := by
  obtain ⟨h1, h2⟩ := callParts_args h
  refine hasL_false fun d hd => ?_
  rcases List.mem_append.1 hd with hd | hd
  · simp only [List.mem_map] at hd
    obtain ⟨x, hx, rfl⟩ := hd
    exact he x (h2 x hx)
  · have := he fo h1
    rw [hf] at this
    exact hasL_mem (by simpa [D.has] using this) d hd

theorem bk_q (σ : St) (dst : Option Tmp) (r : QR) : (σ.q dst r).bk = qbk σ.bk r := by cases dst <;> rfl

theorem St.ext' {σ σ' : St} (h1 : σ.fr = σ'.fr) (h2 : σ.stk = σ'.stk) (h3 : σ.bk = σ'.bk) (h4 : σ.loop = σ'.loop) : σ = σ' := by
  cases σ; cases σ'; simp at h1 h2 h3 h4; simp [h1, h2, h3, h4]
theorem put_loop (σ : St) (dst : Option Tmp) (d : D) : (σ.put dst d).loop = σ.loop := by cases dst <;> rfl

theorem put_fr (σ : St) (dst : Option Tmp) (d : D) : (σ.put dst d).stk = σ.stk ∧ (σ.put dst d).bk = σ.bk := by cases dst <;> exact ⟨rfl, rfl⟩

theorem put_only (σ τ : St) (dst : Option Tmp) (d : D) (h : σ.fr = τ.fr) : (σ.put dst d).fr = (τ.put dst d).fr := by
  cases dst with
  | none => exact h
  | some t => simp [St.put, h]

/-- Two steps that turn nothing that is there, in either order. -/
theorem comm_qq {i j : Nat} (hij : p.W j i = true) {oi oj : Oper} (hap : oi.apart R oj = true) (hdis : ∀ id, id ∈ p.zs i → id ∉ p.zs j) {σ : St} {ri rj : QR} (hi : QQ P F R p i oi σ ri) (hj : QQ P F R p j oj (σ.q oi.dst ri) rj) (hu : ∀ id cs, (id, cs) ∈ rj.new → Unused id σ) :
    QQ P F R p j oj σ rj ∧ QQ P F R p i oi (σ.q oj.dst rj) ri ∧ (σ.q oi.dst ri).q oj.dst rj = (σ.q oj.dst rj).q oi.dst ri := by
  obtain ⟨a1, a2, a3⟩ := Oper.apart_spec hap
  have sj : Same R oj σ (σ.q oi.dst ri) := q_same a1
  have si : Same R oi σ (σ.q oj.dst rj) := q_same a3
  have ui : ∀ id cs, (id, cs) ∈ ri.new → Unused id σ := fun id cs h => (hi.mine id cs h).2.1
  -- j, ahead of i
  have hj' : QQ P F R p j oj σ rj := by
    refine hj.move sj.symm hu (fun _ hk => ?_) (fun _ fo args f caps as passed h1 h2 h3 h4 => ?_)
    · have hag := agree_q (bk := σ.bk) (r := ri)
      rw [bk_q]
      exact (opD_agree hag hk (fun x hx id ⟨cs, hid⟩ => by rw [sj.eval x hx]; exact (ui id cs hid).eval x)).symm
    · have hag := agree_q (bk := σ.bk) (r := ri)
      rw [bk_q] at h3
      rw [← h3]
      refine (shareAll_agree hag (fun l b hb id ⟨cs, hid⟩ => (ui id cs hid).bk l b hb) depth _ (fun id ⟨cs, hid⟩ => ?_)).symm
      have e2 : evalD (σ.q oi.dst ri) fo = .fn f caps := h2
      refine args_has h1 e2 (fun x hx => ?_)
      rw [sj.eval x hx]
      exact (ui id cs hid).eval x
  have hi' : QQ P F R p i oi (σ.q oj.dst rj) ri := by
    refine hi.move si (fun id cs h => ?_) (fun _ hk => ?_) (fun _ fo args f caps as passed h1 h2 h3 h4 => ?_)
    · have hz := (hi.mine id cs h).1
      refine unused_q (ui id cs h) (hj.men i hij id hz) (fun cs' h' => ?_) (fun l cs' h' => hasL_false fun d hd => hj.menc l cs' h' d hd i hij id hz)
      exact hdis id hz (hj.mine id cs' h').1
    · rw [bk_q]
      exact opD_agree agree_q hk (fun x hx id ⟨cs, hid⟩ => (hu id cs hid).eval x)
    · rw [bk_q, ← h3]
      exact shareAll_agree agree_q (fun l b hb id ⟨cs, hid⟩ => (hu id cs hid).bk l b hb) depth _ (fun id ⟨cs, hid⟩ => args_has h1 h2 (fun x hx => (hu id cs hid).eval x))
  refine ⟨hj', hi', ?_⟩
  -- the same state
  have roi : ∀ id cs, (id, cs) ∈ rj.new → id ∉ ri.ro := by
    intro id cs h
    rcases hi.what with ⟨_, rfl⟩ | ⟨_, h2⟩
    · simp
    · exact qop_ro h2 (fun l b hb => (hu id cs h).bk l b hb) (fun x hx => (hu id cs h).eval x)
  have roj : ∀ id cs, (id, cs) ∈ ri.new → id ∉ rj.ro := by
    intro id cs h
    rcases hj'.what with ⟨_, rfl⟩ | ⟨_, h2⟩
    · simp
    · exact qop_ro h2 (fun l b hb => (ui id cs h).bk l b hb) (fun x hx => (ui id cs h).eval x)
  have hbk : qbk (qbk σ.bk ri) rj = qbk (qbk σ.bk rj) ri := by
    funext id
    simp only [qbk]
    cases h1 : newB id ri.new with
    | some b =>
      obtain ⟨cs, m1, _⟩ := newB_mem h1
      cases h2 : newB id rj.new with
      | some b' =>
        obtain ⟨cs', m2, _⟩ := newB_mem h2
        exact absurd (hj.mine id cs' m2).1 (hdis id (hi.mine id cs m1).1)
      | none => simp [roj id cs m1]
    | none =>
      cases h2 : newB id rj.new with
      | some b' =>
        obtain ⟨cs', m2, _⟩ := newB_mem h2
        simp [roi id cs' m2]
      | none =>
        simp only []
        by_cases x1 : id ∈ ri.ro <;> by_cases x2 : id ∈ rj.ro <;> simp [x1, x2]
  refine St.ext' ?_ ?_ ?_ (by cases oi.dst <;> cases oj.dst <;> rfl)
  · have e1 := congrArg St.fr (St.put_comm ({ σ with bk := qbk (qbk σ.bk ri) rj } : St) (s := oi.dst) (t := oj.dst) a2 ri.d rj.d)
    have e2 : ((σ.q oi.dst ri).q oj.dst rj).fr = ((St.put ({ σ with bk := qbk (qbk σ.bk ri) rj } : St) oi.dst ri.d).put oj.dst rj.d).fr := by
      cases oi.dst <;> cases oj.dst <;> rfl
    have e3 : ((σ.q oj.dst rj).q oi.dst ri).fr = ((St.put ({ σ with bk := qbk (qbk σ.bk ri) rj } : St) oj.dst rj.d).put oi.dst ri.d).fr := by
      cases oi.dst <;> cases oj.dst <;> rfl
    rw [e2, e3, e1]
  · cases oi.dst <;> cases oj.dst <;> rfl
  · rw [bk_q, bk_q, bk_q, bk_q]; exact hbk

theorem cells_has {x : D} {cs : List D} {id : Nat} (h : x.cells = some cs) (hx : x.has id = false) : D.hasL id cs = false := by
  cases x with
  | agg ds => simp [D.cells] at h; subst h; simpa [D.has] using hx
  | v y =>
    simp [D.cells] at h; subst h
    refine hasL_false fun d hd => ?_
    simp only [List.mem_map] at hd
    obtain ⟨z, _, rfl⟩ := hd
    rfl
  | sh n ds => simp [D.cells] at h; subst h; simp [D.hasL]; exact hx
  | sl a b c d => simp [D.cells] at h; subst h; simp [D.hasL]; exact hx
  | ptr a b => simp [D.cells] at h; subst h; simp [D.hasL]; exact hx
  | pel a b c d => simp [D.cells] at h; subst h; simp [D.hasL]; exact hx
  | shp ds off => simp [D.cells] at h; subst h; simp [D.hasL]; exact hx
  | emp => simp [D.cells] at h; subst h; rfl
  | rc cs => simp [D.cells] at h; subst h; rfl
  | fn f ds => simp [D.cells] at h; subst h; simp [D.hasL]; exact hx
  | _ => simp [D.cells] at h

theorem kind2 {op : Op} (h : kindOf P op = 2) : ∃ t ad x, op = .store t ad x := by
  unfold kindOf at h
  split at h <;> first | (cases h; done) | exact ⟨_, _, _, rfl⟩ | (exfalso; omega)

theorem kind0_call {op : Op} (h : kindOf P op = 0) {fo : Operand} {args : Array Operand} : callParts op ≠ some (fo, args) := by
  intro hc
  cases op with
  | call c =>
    obtain ⟨callee, as, ts⟩ := c
    cases callee with
    | value g => simp [kindOf] at h
    | _ => simp [callParts] at hc
  | _ => simp [callParts] at hc

theorem store_parts {bk : Nat → Option Blk} {ρ : Operand → D} {ty t : TypeId} {ad x : Operand} {id off : Nat} {ds : List D} (h : opD P bk ρ ty (.store t ad x) = some (.sto id off ds)) : (ρ ad).has id = true ∧ (ρ x).cells = some ds := by
  simp only [opD, storeD] at h
  split at h
  next i o d inf h1 h2 h3 =>
    split at h
    · simp at h; obtain ⟨rfl, rfl, rfl⟩ := h; exact ⟨by rw [h1]; simp [D.has], h2⟩
    · cases h
  next i o n j d inf h1 h2 h3 =>
    split at h
    · simp at h; obtain ⟨rfl, rfl, rfl⟩ := h; exact ⟨by rw [h1]; simp [D.has], h2⟩
    · cases h
  · cases h

theorem splice_has {id : Nat} {cs ds : List D} {off : Nat} (h1 : D.hasL id cs = false) (h2 : D.hasL id ds = false) : D.hasL id (splice cs off ds) = false := by
  refine hasL_false fun d hd => ?_
  simp only [splice, List.mem_append] at hd
  rcases hd with (hd | hd) | hd
  · exact hasL_mem h1 d (List.mem_of_mem_take hd)
  · exact hasL_mem h2 d hd
  · exact hasL_mem h1 d (List.mem_of_mem_drop hd)

theorem unused_sto {id j off : Nat} {σ : St} {cells ds : List D} {dst : Option Tmp} (h : Unused id σ) (hb : σ.bk j = some ⟨cells, false⟩) (hd : D.hasL id ds = false) : Unused id ((σ.setB j ⟨splice cells off ds, false⟩).put dst (.v undef)) where
  fr := fun t => by
    cases dst with
    | none => exact h.fr t
    | some s =>
      simp only [St.put, Fr.put, St.setB]
      split
      · have key : ∀ (p : Prop) (i : Decidable p), D.has id (@ite D p i (.v undef) .undef) = false := by
          intro p i; by_cases hs : p
          · rw [if_pos hs]; rfl
          · rw [if_neg hs]; rfl
        exact key _ _
      · exact h.fr t
  stk := fun f hf => by
    rw [(put_fr _ dst _).1] at hf
    exact h.stk f hf
  lp := fun e => by rw [put_loop]; exact h.lp e
  no := by
    rw [(put_fr _ dst _).2]
    simp only [St.setB]
    split
    next e => subst e; rw [h.no] at hb; cases hb
    next => exact h.no
  bk := fun i b hbi => by
    rw [(put_fr _ dst _).2] at hbi
    simp only [St.setB] at hbi
    split at hbi
    next e => simp at hbi; subst hbi; exact splice_has (h.bk j _ hb) hd
    next => exact h.bk i b hbi

/-- A step, and a store behind it: in either order. -/
theorem comm_qs {i j : Nat} {oi oj : Oper} (hap : oi.apart R oj = true) {σ : St} {ri : QR} (hi : QQ P F R p i oi σ ri) {id off : Nat} {ds cells : List D} (hw : wantedD R oj (σ.q oi.dst ri) = some true) (hk : kindOf P oj.op = 2)
    (hop : opD P (σ.q oi.dst ri).bk (evalD (σ.q oi.dst ri)) oj.type oj.op = some (.sto id off ds)) (hb : (σ.q oi.dst ri).bk id = some ⟨cells, false⟩) (hl : off + ds.length ≤ cells.length) (hm : ∀ d ∈ ds, NoMen p j d)
    (hsep : wantedD R oi σ = some true → kindOf P oi.op = 0 ∨ Sep (evalD σ) oi id ri) (ht : p.U j = true → id = p.tgt j) :
    QStep P F O R p j oj σ ((σ.setB id ⟨splice cells off ds, false⟩).put oj.dst (.v undef)) ∧ QQ P F R p i oi ((σ.setB id ⟨splice cells off ds, false⟩).put oj.dst (.v undef)) ri ∧
      ((σ.q oi.dst ri).setB id ⟨splice cells off ds, false⟩).put oj.dst (.v undef) = ((σ.setB id ⟨splice cells off ds, false⟩).put oj.dst (.v undef)).q oi.dst ri := by
  obtain ⟨a1, a2, a3⟩ := Oper.apart_spec hap
  have sj : Same R oj σ (σ.q oi.dst ri) := q_same a1
  obtain ⟨t, ad, x, hopj⟩ := kind2 hk
  rw [hopj] at hop
  obtain ⟨p1, p2⟩ := store_parts hop
  have ead := sj.eval ad (by rw [hopj]; simp [Op.operands])
  have ex := sj.eval x (by rw [hopj]; simp [Op.operands])
  rw [ead] at p1
  rw [ex] at p2
  have hnew : ∀ cs, (id, cs) ∉ ri.new := by
    intro cs hc
    have := ((hi.mine id cs hc).2.1).eval ad
    rw [p1] at this
    cases this
  have hbσ : σ.bk id = some ⟨cells, false⟩ ∧ id ∉ ri.ro := by
    rw [bk_q] at hb
    simp only [qbk, newB_none hnew] at hb
    split at hb
    · cases h : σ.bk id with
      | none => rw [h] at hb; cases hb
      | some b => rw [h] at hb; simp at hb
    next hr => exact ⟨hb, hr⟩
  have hopσ : opD P σ.bk (evalD σ) oj.type oj.op = some (.sto id off ds) := by
    rw [hopj]
    have : opD P σ.bk (evalD σ) oj.type (.store t ad x) = opD P (σ.q oi.dst ri).bk (evalD (σ.q oi.dst ri)) oj.type (.store t ad x) := by
      simp only [opD, ead, ex]
    rw [this]; exact hop
  have si : Same R oi σ ((σ.setB id ⟨splice cells off ds, false⟩).put oj.dst (.v undef)) := sto_same a3
  have hag : Agree (· = id) σ.bk ((σ.setB id ⟨splice cells off ds, false⟩).put oj.dst (.v undef)).bk := by
    intro l hl'
    rw [(put_fr _ oj.dst _).2]
    simp only [St.setB, if_neg hl']
  refine ⟨.sto (by rw [← sj.wanted]; exact hw) hk hopσ hbσ.1 hl hm ht, ?_, ?_⟩
  · refine hi.move si (fun l cs hc => ?_) (fun hw1 hk1 => ?_) (fun hw1 fo args f caps as passed h1 h2 h3 h4 => ?_)
    · have hul := (hi.mine l cs hc).2.1
      exact unused_sto hul hbσ.1 (cells_has p2 (hul.eval x))
    · rcases hsep hw1 with h0 | hs
      · exact opD_pure h0
      · exact opD_agree hag hk1 (fun y hy n hn => by subst hn; exact hs.1 y hy)
    · rcases hsep hw1 with h0 | hs
      · exact absurd h1 (kind0_call h0)
      · have hnot : id ∉ passed := by rw [← h4]; exact hs.2
        exact shareAll_told hag depth _ as passed h3 hnot
  · refine St.ext' ?_ ?_ ?_ (by cases oi.dst <;> cases oj.dst <;> rfl)
    · have e1 := congrArg St.fr (St.put_comm σ (s := oi.dst) (t := oj.dst) a2 ri.d (.v undef))
      have e2 : (((σ.q oi.dst ri).setB id ⟨splice cells off ds, false⟩).put oj.dst (.v undef)).fr = ((σ.put oi.dst ri.d).put oj.dst (.v undef)).fr := by
        cases oi.dst <;> cases oj.dst <;> rfl
      have e3 : (((σ.setB id ⟨splice cells off ds, false⟩).put oj.dst (.v undef)).q oi.dst ri).fr = ((σ.put oj.dst (.v undef)).put oi.dst ri.d).fr := by
        cases oi.dst <;> cases oj.dst <;> rfl
      rw [e2, e3, e1]
    · cases oi.dst <;> cases oj.dst <;> rfl
    · rw [(put_fr _ oj.dst _).2, bk_q, (put_fr _ oj.dst _).2]
      funext l
      simp only [St.setB, bk_q, qbk]
      by_cases e : l = id
      · subst e
        simp [newB_none hnew, hbσ.2]
      · simp [e]

/-- A store, and behind it what reads no memory: in either order. -/
theorem comm_sq {i j : Nat} {oi oj : Oper} (hap : oi.apart R oj = true) {σ : St} {rj : QR} {id off : Nat} {ds cells : List D} (hw : wantedD R oi σ = some true) (hk : kindOf P oi.op = 2)
    (hop : opD P σ.bk (evalD σ) oi.type oi.op = some (.sto id off ds)) (hb : σ.bk id = some ⟨cells, false⟩) (hl : off + ds.length ≤ cells.length) (hm : ∀ d ∈ ds, NoMen p i d) (ht : p.U i = true → id = p.tgt i)
    (hj : QQ P F R p j oj ((σ.setB id ⟨splice cells off ds, false⟩).put oi.dst (.v undef)) rj) (hk0 : wantedD R oj ((σ.setB id ⟨splice cells off ds, false⟩).put oi.dst (.v undef)) = some true → kindOf P oj.op = 0) (hu : ∀ id cs, (id, cs) ∈ rj.new → Unused id σ) :
    QQ P F R p j oj σ rj ∧ (QStep P F O R p i oi (σ.q oj.dst rj) (((σ.q oj.dst rj).setB id ⟨splice cells off ds, false⟩).put oi.dst (.v undef))) ∧
      ((σ.setB id ⟨splice cells off ds, false⟩).put oi.dst (.v undef)).q oj.dst rj = ((σ.q oj.dst rj).setB id ⟨splice cells off ds, false⟩).put oi.dst (.v undef) := by
  obtain ⟨a1, a2, a3⟩ := Oper.apart_spec hap
  have sj : Same R oj σ ((σ.setB id ⟨splice cells off ds, false⟩).put oi.dst (.v undef)) := sto_same a1
  have si : Same R oi σ (σ.q oj.dst rj) := q_same a3
  obtain ⟨t, ad, x, hopi⟩ := kind2 hk
  have hj' : QQ P F R p j oj σ rj := by
    refine hj.move sj.symm hu (fun hw1 _ => opD_pure (hk0 hw1)) (fun hw1 fo args f caps as passed h1 h2 h3 h4 => absurd h1 (kind0_call (hk0 hw1)))
  have hnew : ∀ cs, (id, cs) ∉ rj.new := fun cs hc => by have := (hu id cs hc).no; rw [hb] at this; cases this
  have hro : id ∉ rj.ro := by
    rcases hj.what with ⟨_, rfl⟩ | ⟨hw1, h2⟩
    · simp
    · cases h2 with
      | call h1 _ _ _ _ => exact absurd h1 (kind0_call (hk0 hw1))
      | _ => simp
  refine ⟨hj', ?_, ?_⟩
  · refine .sto (si.wanted.trans hw) hk ?_ ?_ hl hm ht
    · rw [hopi] at hop ⊢
      have : opD P (σ.q oj.dst rj).bk (evalD (σ.q oj.dst rj)) oi.type (.store t ad x) = opD P σ.bk (evalD σ) oi.type (.store t ad x) := by
        simp only [opD, si.eval ad (by rw [hopi]; simp [Op.operands]), si.eval x (by rw [hopi]; simp [Op.operands])]
      rw [this]; exact hop
    · rw [bk_q]; simp only [qbk, newB_none hnew, if_neg hro]; exact hb
  · refine St.ext' ?_ ?_ ?_ (by cases oi.dst <;> cases oj.dst <;> rfl)
    · have e1 := congrArg St.fr (St.put_comm σ (s := oi.dst) (t := oj.dst) a2 (.v undef) rj.d)
      have e2 : (((σ.setB id ⟨splice cells off ds, false⟩).put oi.dst (.v undef)).q oj.dst rj).fr = ((σ.put oi.dst (.v undef)).put oj.dst rj.d).fr := by
        cases oi.dst <;> cases oj.dst <;> rfl
      have e3 : (((σ.q oj.dst rj).setB id ⟨splice cells off ds, false⟩).put oi.dst (.v undef)).fr = ((σ.put oj.dst rj.d).put oi.dst (.v undef)).fr := by
        cases oi.dst <;> cases oj.dst <;> rfl
      rw [e2, e3, e1]
    · cases oi.dst <;> cases oj.dst <;> rfl
    · rw [bk_q, (put_fr _ oi.dst _).2, (put_fr _ oi.dst _).2]
      funext l
      simp only [St.setB, bk_q, qbk]
      by_cases e : l = id
      · subst e
        simp [newB_none hnew, hro]
      · simp [e]

theorem unused_put_v {id : Nat} {σ : St} {dst : Option Tmp} {v : Value} (h : Unused id (σ.put dst (.v undef))) : Unused id (σ.put dst (.v v)) where
  fr := fun t => by
    have h1 := h.fr t
    cases dst with
    | none => exact h1
    | some s =>
      simp only [St.put, Fr.put] at h1 ⊢
      split
      · split <;> rfl
      · next hne => rw [if_neg hne] at h1; exact h1
  stk := fun f hf => by
    rw [(put_fr _ dst _).1] at hf
    exact h.stk f (by rw [(put_fr _ dst _).1]; exact hf)
  no := by have := h.no; rw [(put_fr _ dst _).2] at this ⊢; exact this
  lp := fun e => by have := h.lp e; rw [put_loop] at this ⊢; exact this
  bk := fun i b hb => by
    rw [(put_fr _ dst _).2] at hb
    exact h.bk i b (by rw [(put_fr _ dst _).2]; exact hb)

theorem unused_put_ofV {id : Nat} {σ : St} {dst : Option Tmp} {v : Value} (h : Unused id (σ.put dst (.v undef))) : Unused id (σ.put dst (D.ofV v)) where
  fr := fun t => by
    have h1 := h.fr t
    cases dst with
    | none => exact h1
    | some s =>
      simp only [St.put, Fr.put] at h1 ⊢
      split
      · split
        · exact ofV_has v id
        · rfl
      · next hne => rw [if_neg hne] at h1; exact h1
  stk := fun f hf => by
    rw [(put_fr _ dst _).1] at hf
    exact h.stk f (by rw [(put_fr _ dst _).1]; exact hf)
  no := by have := h.no; rw [(put_fr _ dst _).2] at this ⊢; exact this
  lp := fun e => by have := h.lp e; rw [put_loop] at this ⊢; exact this
  bk := fun i b hb => by
    rw [(put_fr _ dst _).2] at hb
    exact h.bk i b (by rw [(put_fr _ dst _).2]; exact hb)

theorem kind0_val {bk : Nat → Option Blk} {ρ : Operand → D} {ty : TypeId} {op : Op} {e : Eff} (hk : kindOf P op = 0) (h : opD P bk ρ ty op = some e) : ∃ d, e = .val d := by
  have hp : ∀ (s : Sem Value), pureD P s = some e → ∃ d, e = .val d := fun s h => by
    simp only [pureD, Option.map_eq_some_iff] at h; obtain ⟨u, _, rfl⟩ := h; exact ⟨_, rfl⟩
  cases op with
  | move x => simp only [opD, Option.some.injEq] at h; exact ⟨_, h.symm⟩
  | assign x => simp only [opD, Option.some.injEq] at h; exact ⟨_, h.symm⟩
  | pick c a b => simp only [opD, opPick] at h; (repeat' split at h) <;> first | exact hp _ h | (simp only [Option.some.injEq] at h; exact ⟨_, h.symm⟩) | (simp only [Option.map_eq_some_iff] at h; obtain ⟨u, _, rfl⟩ := h; exact ⟨_, rfl⟩) | cases h
  | build t ps =>
    simp only [opD, buildD] at h
    split at h
    · split at h
      · simp only [Option.map_eq_some_iff] at h; obtain ⟨u, _, rfl⟩ := h; exact ⟨_, rfl⟩
      · cases h
    · split at h
      · cases h
      · simp only [Option.map_eq_some_iff] at h; obtain ⟨u, _, rfl⟩ := h; exact ⟨_, rfl⟩
    · cases h
  | nilCheck x => simp only [opD, opNil] at h; split at h <;> first | (simp only [Option.some.injEq] at h; exact ⟨_, h.symm⟩) | cases h
  | binOp o t x y yt => simp only [opD, binD, binFall, nilCmpD] at h; (repeat' split at h) <;> first | exact hp _ h | (simp only [Option.some.injEq] at h; exact ⟨_, h.symm⟩) | (simp only [Option.map_eq_some_iff] at h; obtain ⟨u, _, rfl⟩ := h; exact ⟨_, rfl⟩) | cases h
  | unOp o t x => simp only [opD, opUn] at h; (repeat' split at h) <;> first | exact hp _ h | (simp only [Option.some.injEq] at h; exact ⟨_, h.symm⟩) | (simp only [Option.map_eq_some_iff] at h; obtain ⟨u, _, rfl⟩ := h; exact ⟨_, rfl⟩) | cases h
  | convert s d x => simp only [opD, opConv] at h; (repeat' split at h) <;> first | exact hp _ h | (simp only [Option.some.injEq] at h; exact ⟨_, h.symm⟩) | (simp only [Option.map_eq_some_iff] at h; obtain ⟨u, _, rfl⟩ := h; exact ⟨_, rfl⟩) | cases h
  | makeFunc f a b =>
    cases f <;> simp only [opD] at h <;> first | (split at h <;> first | (simp only [Option.some.injEq] at h; exact ⟨_, h.symm⟩) | cases h) | cases h
  | fieldAddr t x f => simp only [opD, fieldAddrD] at h; (repeat' split at h) <;> first | (simp only [Option.some.injEq] at h; exact ⟨_, h.symm⟩) | cases h
  | field t x f => simp only [opD, fieldD] at h; (repeat' split at h) <;> first | (simp only [Option.map_eq_some_iff] at h; obtain ⟨u, _, rfl⟩ := h; exact ⟨_, rfl⟩) | cases h
  | indexAddr t x i => simp only [opD, indexAddrD] at h; split at h <;> simp only [rcAddrD, indexAddrP] at h <;> (repeat' split at h) <;> first | (simp only [Option.some.injEq] at h; exact ⟨_, h.symm⟩) | cases h
  | index t x i => simp only [opD, indexD] at h; (repeat' split at h) <;> first | (simp only [Option.map_eq_some_iff] at h; obtain ⟨u, _, rfl⟩ := h; exact ⟨_, rfl⟩) | (simp only [Option.some.injEq] at h; exact ⟨_, h.symm⟩) | cases h
  | extract x i => simp only [opD, extractD] at h; split at h <;> first | (simp only [Option.map_eq_some_iff] at h; obtain ⟨u, _, rfl⟩ := h; exact ⟨_, rfl⟩) | cases h
  | slice t x lo hi mx =>
    cases mx with
    | none => simp [kindOf] at hk
    | some m => simp only [opD, slice3D, sliceChk] at h; (repeat' split at h) <;> first | (simp only [Option.some.injEq] at h; exact ⟨_, h.symm⟩) | cases h
  | call c =>
    obtain ⟨callee, args, ts⟩ := c
    cases callee with
    | value g => simp [kindOf] at hk
    | invoke r m => simp [opD] at h
    | builtin b =>
      cases b <;> first | (simp [kindOf] at hk; done) | skip
      · rcases args with _ | ⟨x, _ | ⟨y, l⟩⟩ <;> rcases ts with _ | ⟨t, _ | ⟨u, m⟩⟩ <;> simp only [opD] at h <;> first | (cases h; done) | skip
        all_goals (simp only [lenD] at h; (repeat' split at h) <;> first | (simp only [Option.some.injEq] at h; exact ⟨_, h.symm⟩) | cases h)
      · simp only [opD, opMost] at h; (repeat' split at h) <;> first | exact hp _ h | (simp only [Option.some.injEq] at h; exact ⟨_, h.symm⟩) | (simp only [Option.map_eq_some_iff] at h; obtain ⟨u, _, rfl⟩ := h; exact ⟨_, rfl⟩) | cases h
      · simp only [opD, opMost] at h; (repeat' split at h) <;> first | exact hp _ h | (simp only [Option.some.injEq] at h; exact ⟨_, h.symm⟩) | (simp only [Option.map_eq_some_iff] at h; obtain ⟨u, _, rfl⟩ := h; exact ⟨_, rfl⟩) | cases h
  | _ => first | (simp [kindOf] at hk; done) | (simp [opD] at h; done)

theorem qop0 {o : Oper} {ρ : Operand → D} {bk : Nat → Option Blk} {r : QR} (hk : kindOf P o.op = 0) (h : QOp P F o ρ bk r) : r.new = [] ∧ r.ro = [] := by
  cases h with
  | val _ _ => exact ⟨rfl, rfl⟩
  | box _ h => obtain ⟨d, e⟩ := kind0_val hk h; cases e
  | row _ h => obtain ⟨d, e⟩ := kind0_val hk h; cases e
  | row0 _ _ => exact ⟨rfl, rfl⟩
  | app0 _ h _ => obtain ⟨d, e⟩ := kind0_val hk h; cases e
  | ext h _ _ _ => exact absurd h (kind0_call hk)
  | call h _ _ _ _ => exact absurd h (kind0_call hk)

theorem qq0 {k : Nat} {o : Oper} {σ : St} {r : QR} (h : QQ P F R p k o σ r) (hk : wantedD R o σ = some true → kindOf P o.op = 0) : r.new = [] ∧ r.ro = [] := by
  rcases h.what with ⟨_, rfl⟩ | ⟨h1, h2⟩
  · exact ⟨rfl, rfl⟩
  · exact qop0 (hk h1) h2

theorem qbk0 {bk : Nat → Option Blk} {r : QR} (h : r.new = [] ∧ r.ro = []) : qbk bk r = bk := by
  funext i; simp [qbk, h.1, h.2, newB]

/-- A copy has the operands that it has. -/
theorem copy_congr {bk : Nat → Option Blk} {ρ ρ' : Operand → D} {ty : TypeId} {op : Op} (hk : kindOf P op = 4) (h : ∀ x ∈ op.operands, ρ' x = ρ x) : opD P bk ρ' ty op = opD P bk ρ ty op := opD_congr h

end
end Go.Dam
