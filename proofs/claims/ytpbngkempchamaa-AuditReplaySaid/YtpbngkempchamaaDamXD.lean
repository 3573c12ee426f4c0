/- The engine, part XD: an abstract machine for the program's functions, proved right against the model. No condition. -/
import Derived.Test.YtpbngkempchamaaDamXC
set_option linter.unusedSectionVars false
set_option linter.unusedVariables false
set_option linter.unusedSimpArgs false
namespace Go.Dam
open Go Go.RowKit
set_option linter.unusedSectionVars false
variable [Glo]
set_option linter.unusedSimpArgs false
set_option linter.unusedVariables false
noncomputable section

/-! A region that draws. -/
def inSites : List Nat → Nat → Bool
  | [], _ => false
  | lo :: l, id => (Nat.ble lo id && Nat.blt id (lo + 32)) || inSites l id

def siteAt (R : Array Oper) (dep k : Nat) : Nat := (dep * 4096 + dstAt R k) * 32
def othersAt (R : Array Oper) (dep k : Nat) : List Nat := ((List.range R.size).filter fun l => wB R k l && makesAt R l).map (siteAt R dep)
def makersOf (R : Array Oper) (dep : Nat) : List Nat := ((List.range R.size).filter (makesAt R)).map (siteAt R dep)

def wipeB (q : Nat → Bool) : List (Nat × BX) → List (Nat × BX)
  | [] => []
  | (j, b) :: l => bif q j then wipeB q l else (j, b.wipe q) :: wipeB q l

def Cf.wipe (q : Nat → Bool) (c : Cf) : Cf := { tm := c.tm.map (D.wipe q), nt := c.nt, stk := c.stk.map fun f => (f.1.map (D.wipe q), f.2), bk := wipeB q c.bk, loop := if q yldId then none else c.loop, gen := c.gen, todo := c.todo, cds := c.cds }

theorem lookX_wipe (q : Nat → Bool) (j : Nat) : ∀ l, lookX j (wipeB q l) = if q j then none else (lookX j l).map (BX.wipe q)
  | [] => by simp [wipeB, lookX]
  | (k, b) :: l => by
    simp only [wipeB]
    cases hk : q k with
    | true =>
      rw [cond_true, lookX_wipe q j l]
      by_cases h : k = j
      · subst h; simp [hk]
      · simp [lookX, beq_no h]
    | false =>
      rw [cond_false]
      simp only [lookX, lookX_wipe q j l]
      by_cases h : k = j
      · subst h; simp [beq_yes, hk]
      · simp [beq_no h]
theorem lookB_wipe (q : Nat → Bool) (j : Nat) (l : List (Nat × BX)) : lookB j (wipeB q l) = if q j then none else (lookB j l).map (Blk.wipe q) := by
  unfold lookB; rw [lookX_wipe]; split
  · rfl
  · simp only [Option.map_map]; congr 1; funext b; exact BX.blk_wipe q b

theorem frOf_wipe (q : Nat → Bool) (f : TT × Nat) : frOf (f.1.map (D.wipe q), f.2) = (frOf f).wipe q := by
  simp only [frOf, Fr.wipe]
  congr 1
  funext t
  exact TT.get_map rfl _ _

theorem abs_wipe (c : Cf) (q : Nat → Bool) : (c.wipe q).abs = c.abs.wipe q := by
  simp only [Cf.wipe, Cf.abs, Cs.abs, St.wipe, List.map_map]
  congr 1
  · exact frOf_wipe q (c.tm, c.nt)
  · congr 1
    funext f
    exact frOf_wipe q f
  · funext j
    exact lookB_wipe q j c.bk

def wipeS (los : List Nat) (c : Cf) : Cf := match los with
  | [] => c
  | lo :: l => c.wipe (inSites (lo :: l))

def clearS (los : List Nat) (d : D) : Bool := match los with
  | [] => true
  | lo :: l => D.clear (inSites (lo :: l)) d

def clearSL (los : List Nat) : List D → Bool
  | [] => true
  | d :: ds => clearS los d && clearSL los ds

def clearSLL (los : List Nat) : List (List D) → Bool
  | [] => true
  | d :: ds => clearSL los d && clearSLL los ds

def sepC (c : Cf) (tgt : List Nat) (S : List Nat) (o : Oper) (told : List Nat) : Bool := S.all fun j =>
  o.op.operands.toList.all (fun y => D.clear (Nat.beq (tgt.getD j 0)) (evalC c.toCs y)) && !(told.contains (tgt.getD j 0))

def blockOf : D → Nat
  | .ptr id _ => id
  | .pel id _ _ _ => id
  | _ => 0

def tgtAt (P : Program) (R : Array Oper) (c : Cf) (k : Nat) : Nat := bif uB P R k then match R[k]? with
    | some o => match o.op with
      | .store _ ad _ => blockOf (evalC c.toCs ad)
      | _ => 0
    | none => 0
  else 0

/-- Where the stores will go: found by a first run in the order of the text. -/
def tgtsOf (P : Program) (R : Array Oper) (E : List Oper → Cf → Option (Ex × Cf)) (c : Cf) : List Nat :=
  bif (List.range R.size).any (uB P R) then match E R.toList c with
    | some (_, c1) => (List.range R.size).map (tgtAt P R c1)
    | none => []
  else []

def putNewC (c : Cf) (id : Nat) : List BX → Cf
  | [] => c
  | b :: bs => putNewC (c.setB id b) (id + 1) bs

def clearBX (los : List Nat) : BX → Bool
  | .cells cs _ => clearSL los cs
  | .row _ _ => true
def clearBXs (los : List Nat) : List BX → Bool
  | [] => true
  | b :: bs => clearBX los b && clearBXs los bs

def freshB : D → Bool
  | .emp => true
  | .v _ => true
  | _ => false

/-- A decision: whence on the truth value is known. -/
def decideX (c : Cf) (t : Nat) (b : Bool) : Option (Bool × Cf) :=
  match c.todo with
  | .c 0 :: p => some (b, { c with todo := p })
  | .c (n + 1) :: p => some (b, { c with todo := .c n :: p })
  | .d v :: p => some (v, { c with tm := c.tm.set (.v (.bool v)) (path t), todo := p, cds := (b = v) :: c.cds })
  | _ => none

theorem decideX_spec {c c' : Cf} {t : Nat} {b v : Bool} (hb : c.get t = .v (.bool b)) (h : decideX c t b = some (v, c')) (hl : AllP c'.cds) : b = v ∧ AllP c.cds ∧ c'.abs = c.abs := by
  unfold decideX at h
  split at h
  · simp only [Option.some.injEq, Prod.mk.injEq] at h; obtain ⟨rfl, rfl⟩ := h; exact ⟨rfl, hl, rfl⟩
  · simp only [Option.some.injEq, Prod.mk.injEq] at h; obtain ⟨rfl, rfl⟩ := h; exact ⟨rfl, hl, rfl⟩
  · simp only [Option.some.injEq, Prod.mk.injEq] at h; obtain ⟨rfl, rfl⟩ := h
    obtain ⟨h1, h2⟩ := hl
    refine ⟨h1, h2, ?_⟩
    simp only [Cf.abs, Cs.abs]
    congr 1
    simp only [frOf]
    congr 1
    funext i
    rw [TT.get_set]
    split
    next e => rw [e, ← h1]; exact hb.symm
    next => rfl
  · cases h

/-- Is an operation wanted? -/
def wantedX (R : Array Oper) (o : Oper) (c : Cf) : Option (Bool × Cf) :=
  match o.guard with
  | none => some (true, c)
  | some (j, want) => match (R[j]?).bind (·.dst) with
    | none => some (false, c)
    | some t => match c.get t with
      | .v (.bool b) => match decideX c t b with
        | none => none
        | some (v, c') => some (v == want, c')
      | .v _ => some (false, c)
      | _ => none

theorem wantedX_spec {R : Array Oper} {o : Oper} {c c' : Cf} {v : Bool} (h : wantedX R o c = some (v, c')) (hl : AllP c'.cds) : AllP c.cds ∧ c'.abs = c.abs ∧ wantedD R o c.abs = some v := by
  unfold wantedX at h
  unfold wantedD
  split at h
  next hg => simp only [Option.some.injEq, Prod.mk.injEq] at h; obtain ⟨rfl, rfl⟩ := h; rw [hg]; exact ⟨hl, rfl, rfl⟩
  next j want hg =>
    rw [hg]
    simp only []
    split at h
    next hd => simp only [Option.some.injEq, Prod.mk.injEq] at h; obtain ⟨rfl, rfl⟩ := h; rw [hd]; exact ⟨hl, rfl, rfl⟩
    next t hd =>
      rw [hd]
      simp only []
      have ht : c.abs.fr.tm t = c.get t := rfl
      rw [ht]
      split at h
      next b hb =>
        split at h
        · cases h
        next v' c1 h1 =>
          simp only [Option.some.injEq, Prod.mk.injEq] at h; obtain ⟨rfl, rfl⟩ := h
          obtain ⟨rfl, k1, k2⟩ := decideX_spec hb h1 hl
          exact ⟨k1, k2, by rw [hb]; rfl⟩
      next x hx hb =>
        simp only [Option.some.injEq, Prod.mk.injEq] at h; obtain ⟨rfl, rfl⟩ := h
        refine ⟨hl, rfl, ?_⟩
        rw [hb]
        show truthV want x = some false
        unfold truthV
        split
        · exact absurd rfl (hx _)
        · rfl
      · cases h

/-- A step that is one of no order. -/
def quietOne (P : Program) (X : Contracts) (R : Array Oper) (dep : Nat) (tgt : List Nat) (k : Nat) (o : Oper) (c : Cf) : Option Cf :=
  match callParts o.op with
  | none => match opX P c.look (evalC c.toCs) o.type o.op with
    | some (.val d, l) => bif Nat.ble (kindOf P o.op) 1 && (clearS (othersAt R dep k) d && (Nat.beq (kindOf P o.op) 0 || sepC c tgt (sL P R k) o [])) then some ((c.put o.dst d).owe l) else none
    | some (.box cs, l) => bif Nat.ble (kindOf P o.op) 1 && (makesAt R k && (clearSL (siteAt R dep k :: othersAt R dep k) cs && (clearS (othersAt R dep k) (.ptr (siteAt R dep k) 0) && sepC c tgt (sL P R k) o []))) then some (((c.setB (siteAt R dep k) (.cells cs false)).put o.dst (.ptr (siteAt R dep k) 0)).owe l) else none
    | some (.row cs n sz, l) => bif Nat.ble (kindOf P o.op) 1 && (makesAt R k && (clearSL (siteAt R dep k :: othersAt R dep k) cs && (clearS (othersAt R dep k) (.sl (siteAt R dep k) 0 n ⟨sz, 0⟩) && sepC c tgt (sL P R k) o []))) then some (((c.setB (siteAt R dep k) (.cells cs false)).put o.dst (.sl (siteAt R dep k) 0 n ⟨sz, 0⟩)).owe l) else none
    | some (.app s sz m ds, l) => bif freshB s && (Nat.ble (kindOf P o.op) 1 && (makesAt R k && (clearSL (siteAt R dep k :: othersAt R dep k) ds && (clearS (othersAt R dep k) (.sl (siteAt R dep k) 0 m ⟨sz, 0⟩) && sepC c tgt (sL P R k) o [])))) then some (((c.setB (siteAt R dep k) (.cells ds false)).put o.dst (.sl (siteAt R dep k) 0 m ⟨sz, 0⟩)).owe l) else none
    | some (.row0, l) => bif Nat.ble (kindOf P o.op) 1 && sepC c tgt (sL P R k) o [] then some ((c.put o.dst .emp).owe l) else none
    | some (.sto i off ds, l) => bif Nat.beq (kindOf P o.op) 2 && (clearSL (othersAt R dep k) ds && (!(uB P R k) || Nat.beq i (tgt.getD k 0))) then (match stepC c o.dst 0 (.sto i off ds) with | some c' => some (c'.owe l) | none => none) else none
    | some (.cpy i off ds n, l) => bif Nat.beq (kindOf P o.op) 4 && clearSL (othersAt R dep k) ds then (match stepC c o.dst 0 (.cpy i off ds n) with | some c' => some (c'.owe l) | none => none) else none
    | _ => none
  | some (fo, args) => match evalC c.toCs fo with
    | .fn f caps => match bodyOf P f with
      | none => match caps, D.plains (args.toList.map (evalC c.toCs)) with
        | [], some vs => match extX P X f vs with
          | some (u, l) => bif clearS (othersAt R dep k) (D.ofV u) && sepC c tgt (sL P R k) o [] then some ((c.put o.dst (D.ofV u)).owe l) else none
          | none => none
        | _, _ => none
      | some _ => match callOf X f with
        | none => none
        | some g => match shareAllX (shareX c.bk depth) (args.toList.map (evalC c.toCs) ++ caps) with
          | none => none
          | some (as, passed, l) => match g as with
            | none => none
            | some (res, l') => bif makesAt R k && (clearS (othersAt R dep k) (thawX (siteAt R dep k) res).1 && (clearBXs (siteAt R dep k :: othersAt R dep k) (thawX (siteAt R dep k) res).2 && (Nat.ble (thawX (siteAt R dep k) res).2.length 32 && sepC c tgt (sL P R k) o passed))) then
                some (((putNewC (bif flat res then c else c.markRo passed) (siteAt R dep k) (thawX (siteAt R dep k) res).2).put o.dst (thawX (siteAt R dep k) res).1).owe (l ++ l')) else none
    | _ => none

def drawOne (P : Program) (X : Contracts) (E : List Oper → Cf → Option (Ex × Cf)) (R : Array Oper) (dep : Nat) (tgt : List Nat) (k : Nat) (o : Oper) (c : Cf) : Option Cf :=
  bif tB R k then match E [o] c with
    | some (.normal, c1) => some (wipeS (othersAt R dep k) c1)
    | _ => none
  else match wantedX R o c with
    | none => none
    | some (false, c1) => some (c1.put o.dst (.v undef))
    | some (true, c1) => quietOne P X R dep tgt k o c1

def drawsGo (P : Program) (X : Contracts) (E : List Oper → Cf → Option (Ex × Cf)) (R : Array Oper) (dep : Nat) (tgt : List Nat) : Nat → List Oper → Cf → Option Cf
  | _, [], c => some c
  | k, o :: l, c => match drawOne P X E R dep tgt k o c with
    | none => none
    | some c' => drawsGo P X E R dep tgt (k + 1) l c'

/-! Loops over functions. -/
def putsC (f : TT × Nat) : List (Tmp × D) → TT × Nat
  | [] => f
  | (t, d) :: l => putsC (f.1.set (bif Nat.blt t f.2 then d else .undef) (path t), f.2) l

theorem frOf_puts : ∀ (ps : List (Tmp × D)) (f : TT × Nat), frOf (putsC f ps) = (frOf f).puts ps
  | [], f => rfl
  | (t, d) :: ps, f => by
    show frOf (putsC _ ps) = ((frOf f).put t d).puts ps
    rw [frOf_puts ps, frOf_set]

theorem get_lf : ∀ p, TT.get p .lf = .undef
  | [] => rfl
  | b :: p => get_lf p

def Cf.round (c : Cf) (f : TT × Nat) (ps : List (Tmp × D)) : Cf := { tm := (putsC f ps).1, nt := (putsC f ps).2, stk := (c.tm, c.nt) :: c.stk, bk := c.bk, loop := c.loop, gen := c.gen, todo := c.todo, cds := c.cds }
theorem abs_round (c : Cf) (f : TT × Nat) (ps : List (Tmp × D)) : (c.round f ps).abs = c.abs.round (frOf f) ps := by
  simp only [Cf.round, Cf.abs, Cs.abs, St.round, List.map_cons]
  congr 1
  exact frOf_puts ps f

def Cf.at (c : Cf) (L : LoopSt) (s : LSt) : Cf := { c with loop := some { L with state := s } }

def Cf.ranged (c : Cf) (ps : Array Tmp) (assign body : Code) (caps : List D) (nt : Nat) : Cf :=
  { tm := TT.mk (initD (.yld :: caps) ((.yld :: caps).length + (nt - (.yld :: caps).length))) ((.yld :: caps).length + (nt - (.yld :: caps).length) + 1) 0 1, nt := (.yld :: caps).length + (nt - (.yld :: caps).length),
    stk := ((c.forget yldId).tm, (c.forget yldId).nt) :: (.lf, 1) :: (c.forget yldId).stk, bk := (c.forget yldId).bk, loop := some { ps := ps, assign := assign, body := body, depth := c.stk.length + 2, state := .ready }, gen := c.gen, todo := c.todo, cds := c.cds }
theorem abs_ranged (c : Cf) (ps : Array Tmp) (assign body : Code) (caps : List D) (nt : Nat) : (c.ranged ps assign body caps nt).abs = c.abs.ranged ps assign body caps nt := by
  have h := abs_forget c yldId
  have h1 := congrArg St.fr h
  have h2 := congrArg St.stk h
  have h3 := congrArg St.bk h
  simp only [Cf.ranged, St.ranged, ← h1, ← h2, ← h3]
  simp only [Cf.abs, Cs.abs, List.map_cons]
  congr 1
  · exact frOf_mk _ _
  · congr 2
    simp only [frOf, ghost, get_lf]
  · simp


end
end Go.Dam
