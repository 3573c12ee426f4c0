/- The engine: an abstract machine for the program's functions, proved right against the model. No condition. -/
import Derived.Test.YtakcfkmfiamliaaDamXW
set_option linter.unusedSectionVars false
set_option linter.unusedVariables false
set_option linter.unusedSimpArgs false
section
namespace Go.Dam
open Go Go.RowKit
set_option linter.unusedSectionVars false
variable [Glo]
set_option linter.unusedSimpArgs false
set_option linter.unusedVariables false
noncomputable section
/-! An append to a row, in any order with others: the row has a new name. -/
def delB (i : Nat) : List (Nat × BX) → List (Nat × BX)
  | [] => []
  | (j, c) :: l => bif Nat.beq j i then delB i l else (j, c) :: delB i l
theorem lookX_del (i j : Nat) : ∀ l, lookX j (delB i l) = if j = i then none else lookX j l
  | [] => by simp [delB, lookX]
  | (k, c) :: l => by
    simp only [delB]
    by_cases hk : k = i
    · subst hk
      rw [beq_yes, cond_true, lookX_del k j l]
      by_cases e : j = k
      · simp [e]
      · simp [e, lookX, beq_no (Ne.symm e)]
    · rw [beq_no hk, cond_false]
      simp only [lookX, lookX_del i j l]
      by_cases h : k = j
      · subst h; simp [hk]
      · simp [beq_no h]
def Cf.delB (c : Cf) (i : Nat) : Cf := { c with bk := Go.Dam.delB i c.bk }
theorem abs_delB (c : Cf) (i : Nat) : (c.delB i).abs = c.abs.dropB i := by
  simp only [Cf.delB, Cf.abs, Cs.abs, St.dropB]
  congr 1
  funext j
  simp only [lookB, lookX_del]
  split <;> rfl
def growCore (c : Cf) (bytes size : Nat) (s x : D) : Option (Nat × Nat × List Col0 × List Prop) :=
  match s with
  | .sl i off n sz => match lookX i c.bk with
    | some (.row cols false) => match x.elems c.look size with
      | some (1, ds) => match likeCols cols ds with
        | some c0 => match joinCols cols c0 with
          | some es => bif Nat.beq off 0 && (Nat.beq sz.s size && Nat.beq cols.length size) then some (i, n, es, ((n + 1) * bytes ≤ 2 ^ 44) :: (n = rowLen0 cols) :: lensOf (rowLen0 cols) cols) else none
          | none => none
        | none => none
      | _ => none
    | _ => none
  | _ => none
def rowGrow (P : Program) (c : Cf) (ts : List TypeId) (s x : D) : Option (Nat × Nat × Nat × List Col0 × List Prop) :=
  match ts with
  | [t, t2] => match P.underlying t, P.underlying t2 with
    | some (.slice e), some (.slice _) => match P.info? e with
      | some j => match j.zero with
        | some z => bif Nat.ble 1 j.bytes && (Nat.beq z.cells.size j.size && Nat.blt 0 j.size) then (match growCore c j.bytes j.size s x with | some (i, n, es, l) => some (i, n, j.size, es, l) | none => none) else none
        | none => none
      | none => none
    | _, _ => none
  | _ => none
theorem growCore_spec {c : Cf} {bytes size i n : Nat} {s x : D} {es : List Col0} {l : List Prop} (hp : 0 < size) (h : growCore c bytes size s x = some (i, n, es, l)) (hl : AllP l) :
    ∃ sz ds cells, s = .sl i 0 n sz ∧ appCore c.abs.bk bytes size s x = some (.app (.sl i 0 n sz) size 1 ds) ∧ c.abs.bk i = some ⟨cells, false⟩ ∧ n * size ≤ cells.length ∧ rowCells0 es = cells.take (n * size) ++ ds := by
  unfold growCore at h
  split at h
  next i off n sz =>
    split at h
    next cols hlk =>
      split at h
      next ds hel =>
        split at h
        next c0 hlike =>
          split at h
          next es hj =>
            simp only [cond_eq_ite] at h
            split at h
            next hc =>
              simp only [Option.some.injEq, Prod.mk.injEq] at h
              obtain ⟨rfl, rfl, rfl, rfl⟩ := h
              simp only [Bool.and_eq_true] at hc
              obtain rfl := Nat.eq_of_beq_eq_true hc.1
              have e2 := Nat.eq_of_beq_eq_true hc.2.1
              have hcl := Nat.eq_of_beq_eq_true hc.2.2
              obtain ⟨a1, a2⟩ := hl
              have hb : baseX c.bk size c0 i n = some (cols, (n = rowLen0 cols) :: lensOf (rowLen0 cols) cols) := by
                unfold baseX; rw [hlk]; simp only [cond_eq_ite]; rw [if_pos hc.2.2]
              obtain ⟨cells, k1, k2, k3, k4, k5⟩ := baseX_spec hb a2
              obtain ⟨b1, b2, b3⟩ := likeCols_spec hlike
              have hel : x.elems c.abs.bk size = some (1, ds) := hel
              have hne : cols ≠ [] := by rintro rfl; simp at hcl; omega
              have hds := likeCols_cells hne hlike
              have hone : ds.all D.one = true := by rw [← hds]; exact rowCells0_one
              have hcells := joinCols_cells hne hj k5 b2
              refine ⟨sz, ds, cells, rfl, ?_, k1, k2, by rw [hcells, hds, k3]⟩
              simp only [appCore, hel, hone, if_true, if_pos (show sz.s = size ∧ (n + 1) * bytes ≤ 2 ^ 44 from ⟨e2, a1⟩), appOf]
            · cases h
          · cases h
        · cases h
      · cases h
    · cases h
  · cases h
theorem rowGrow_spec {P : Program} {c : Cf} {ts : Array TypeId} {i n size : Nat} {s x : D} {es : List Col0} {l : List Prop} (h : rowGrow P c ts.toList s x = some (i, n, size, es, l)) (hl : AllP l) :
    ∃ sz ds cells, s = .sl i 0 n sz ∧ appendD P c.abs.bk ts s x = some (.app (.sl i 0 n sz) size 1 ds) ∧ c.abs.bk i = some ⟨cells, false⟩ ∧ n * size ≤ cells.length ∧ rowCells0 es = cells.take (n * size) ++ ds := by
  obtain ⟨ts⟩ := ts
  unfold rowGrow at h
  split at h
  next t t2 hts =>
    simp only at hts
    subst hts
    split at h
    next e e2 hu hu2 =>
      split at h
      next j hj =>
        split at h
        next z hz =>
          simp only [cond_eq_ite] at h
          split at h
          next hc =>
            simp only [Bool.and_eq_true] at hc
            have c1 := Nat.le_of_ble_eq_true hc.1
            have c2 := Nat.eq_of_beq_eq_true hc.2.1
            have c3 : 0 < j.size := by simpa [Nat.blt_eq] using hc.2.2
            split at h
            next i n es l hg =>
              simp only [Option.some.injEq, Prod.mk.injEq] at h
              obtain ⟨rfl, rfl, rfl, rfl, rfl⟩ := h
              obtain ⟨sz, ds, cells, k0, k1, k2, k3, k4⟩ := growCore_spec c3 hg hl
              refine ⟨sz, ds, cells, k0, ?_, k2, k3, k4⟩
              unfold appCore at k1
              simp only [appendD, hu, hu2, hj, hz]
              rw [if_pos ⟨c1, c2⟩]
              exact k1
            · cases h
          · cases h
        · cases h
      · cases h
    · cases h
  · cases h
end
end Go.Dam
end

section
namespace Go.Dam
open Go Go.RowKit
set_option linter.unusedSectionVars false
variable [Glo]
set_option linter.unusedSimpArgs false
set_option linter.unusedVariables false
noncomputable section
/-! A region that draws. -/
def inSites : List Nat → Nat → Bool
  | [], _ => false
  | lo :: l, id => (Nat.ble lo id && Nat.blt id (lo + 32)) || inSites l id
def siteAt (R : Array Oper) (dep k : Nat) : Nat := (dep * 4096 + dstAt R k) * 32
def othersAt (R : Array Oper) (dep k : Nat) : List Nat := ((List.range R.size).filter fun l => wB R k l && makesAt R l).map (siteAt R dep)
def makersOf (R : Array Oper) (dep : Nat) : List Nat := ((List.range R.size).filter (makesAt R)).map (siteAt R dep)
def wipeB (q : Nat → Bool) : List (Nat × BX) → List (Nat × BX)
  | [] => []
  | (j, b) :: l => bif q j then wipeB q l else (j, b.wipe q) :: wipeB q l
def Cf.wipe (q : Nat → Bool) (c : Cf) : Cf := { tm := c.tm.map (D.wipe q), nt := c.nt, stk := c.stk.map fun f => (f.1.map (D.wipe q), f.2), bk := wipeB q c.bk, loop := if q yldId then none else c.loop, gen := c.gen, todo := c.todo, cds := c.cds }
theorem lookX_wipe (q : Nat → Bool) (j : Nat) : ∀ l, lookX j (wipeB q l) = if q j then none else (lookX j l).map (BX.wipe q)
  | [] => by simp [wipeB, lookX]
  | (k, b) :: l => by
    simp only [wipeB]
    cases hk : q k with
    | true =>
      rw [cond_true, lookX_wipe q j l]
      by_cases h : k = j
      · subst h; simp [hk]
      · simp [lookX, beq_no h]
    | false =>
      rw [cond_false]
      simp only [lookX, lookX_wipe q j l]
      by_cases h : k = j
      · subst h; simp [beq_yes, hk]
      · simp [beq_no h]
theorem lookB_wipe (q : Nat → Bool) (j : Nat) (l : List (Nat × BX)) : lookB j (wipeB q l) = if q j then none else (lookB j l).map (Blk.wipe q) := by
  unfold lookB; rw [lookX_wipe]; split
  · rfl
  · simp only [Option.map_map]; congr 1; funext b; exact BX.blk_wipe q b
theorem frOf_wipe (q : Nat → Bool) (f : TT × Nat) : frOf (f.1.map (D.wipe q), f.2) = (frOf f).wipe q := by
  simp only [frOf, Fr.wipe]
  congr 1
  funext t
  exact TT.get_map rfl _ _
theorem abs_wipe (c : Cf) (q : Nat → Bool) : (c.wipe q).abs = c.abs.wipe q := by
  simp only [Cf.wipe, Cf.abs, Cs.abs, St.wipe, List.map_map]
  congr 1
  · exact frOf_wipe q (c.tm, c.nt)
  · congr 1
    funext f
    exact frOf_wipe q f
  · funext j
    exact lookB_wipe q j c.bk
def wipeS (los : List Nat) (c : Cf) : Cf := match los with
  | [] => c
  | lo :: l => c.wipe (inSites (lo :: l))
def clearS (los : List Nat) (d : D) : Bool := match los with
  | [] => true
  | lo :: l => D.clear (inSites (lo :: l)) d
def clearSL (los : List Nat) : List D → Bool
  | [] => true
  | d :: ds => clearS los d && clearSL los ds
def sepC (c : Cf) (tgt : List Nat) (S : List Nat) (o : Oper) (told : List Nat) : Bool := S.all fun j =>
  o.op.operands.toList.all (fun y => D.clear (Nat.beq (tgt.getD j 0)) (evalC c.toCs y)) && !(told.contains (tgt.getD j 0))
def blockOf : D → Nat
  | .ptr id _ => id
  | .pel id _ _ _ => id
  | _ => 0
def tgtAt (P : Program) (R : Array Oper) (c : Cf) (k : Nat) : Nat := bif uB P R k then match R[k]? with
    | some o => match o.op with
      | .store _ ad _ => blockOf (evalC c.toCs ad)
      | _ => 0
    | none => 0
  else 0
abbrev sG (P : Program) (R : Array Oper) (tgt : List Nat) (k : Nat) : List Nat := sL P R k ++ gL P R tgt k
/-- The row that an append will grow. -/
def appAt (R : Array Oper) (k : Nat) : Bool := makesAt R k && (match R[k]? with
  | some o => match o.op with
    | .call ⟨.builtin .append, _, _⟩ => true
    | _ => false
  | none => false)
def appTgt (R : Array Oper) (E : List Oper → Cf → Option (Ex × Cf)) (c : Cf) (k : Nat) : Nat := bif appAt R k then match R[k]? with
    | some o => match o.op.operands.toList with
      | s :: _ => match E (R.toList.take k) c with
        | some (_, c1) => match evalC c1.toCs s with
          | .sl i _ _ _ => i
          | _ => 0
        | none => 0
      | [] => 0
    | none => 0
  else 0
/-- Where the stores will go: found by a first run in the order of the text. -/
def tgtsOf (P : Program) (R : Array Oper) (E : List Oper → Cf → Option (Ex × Cf)) (c : Cf) : List Nat :=
  bif (List.range R.size).any (uB P R) then match E R.toList c with
    | some (_, c1) => (List.range R.size).map fun k => bif appAt R k then appTgt R E c k else tgtAt P R c1 k
    | none => []
  else bif (List.range R.size).any (appAt R) then (List.range R.size).map (appTgt R E c) else []
def putNewC (c : Cf) (id : Nat) : List BX → Cf
  | [] => c
  | b :: bs => putNewC (c.setB id b) (id + 1) bs
def clearBX (los : List Nat) : BX → Bool
  | .cells cs _ => clearSL los cs
  | .row _ _ => true
def clearBXs (los : List Nat) : List BX → Bool
  | [] => true
  | b :: bs => clearBX los b && clearBXs los bs
def freshB : D → Bool
  | .emp => true
  | .v _ => true
  | _ => false
/-- A decision: whence on the truth value is known. -/
def decideX (c : Cf) (t : Nat) (b : Bool) : Option (Bool × Cf) :=
  match c.todo with
  | .c 0 :: p => some (b, { c with todo := p })
  | .c (n + 1) :: p => some (b, { c with todo := .c n :: p })
  | .d v :: p => some (v, { c with tm := c.tm.set (.v (.bool v)) (path t), todo := p, cds := (b = v) :: c.cds })
  | _ => none
theorem decideX_spec {c c' : Cf} {t : Nat} {b v : Bool} (hb : c.get t = .v (.bool b)) (h : decideX c t b = some (v, c')) (hl : AllP c'.cds) : b = v ∧ AllP c.cds ∧ c'.abs = c.abs := by
  unfold decideX at h
  split at h
  · simp only [Option.some.injEq, Prod.mk.injEq] at h; obtain ⟨rfl, rfl⟩ := h; exact ⟨rfl, hl, rfl⟩
  · simp only [Option.some.injEq, Prod.mk.injEq] at h; obtain ⟨rfl, rfl⟩ := h; exact ⟨rfl, hl, rfl⟩
  · simp only [Option.some.injEq, Prod.mk.injEq] at h; obtain ⟨rfl, rfl⟩ := h
    obtain ⟨h1, h2⟩ := hl
    refine ⟨h1, h2, ?_⟩
    simp only [Cf.abs, Cs.abs]
    congr 1
    simp only [frOf]
    congr 1
    funext i
    rw [TT.get_set]
    split
    next e => rw [e, ← h1]; exact hb.symm
    next => rfl
  · cases h
/-- Is an operation wanted? -/
def wantedX (R : Array Oper) (o : Oper) (c : Cf) : Option (Bool × Cf) :=
  match o.guard with
  | none => some (true, c)
  | some (j, want) => match (R[j]?).bind (·.dst) with
    | none => some (false, c)
    | some t => match c.get t with
      | .v (.bool b) => match decideX c t b with
        | none => none
        | some (v, c') => some (v == want, c')
      | .v _ => some (false, c)
      | _ => none
theorem wantedX_spec {R : Array Oper} {o : Oper} {c c' : Cf} {v : Bool} (h : wantedX R o c = some (v, c')) (hl : AllP c'.cds) : AllP c.cds ∧ c'.abs = c.abs ∧ wantedD R o c.abs = some v := by
  unfold wantedX at h
  unfold wantedD
  split at h
  next hg => simp only [Option.some.injEq, Prod.mk.injEq] at h; obtain ⟨rfl, rfl⟩ := h; rw [hg]; exact ⟨hl, rfl, rfl⟩
  next j want hg =>
    rw [hg]
    simp only []
    split at h
    next hd => simp only [Option.some.injEq, Prod.mk.injEq] at h; obtain ⟨rfl, rfl⟩ := h; rw [hd]; exact ⟨hl, rfl, rfl⟩
    next t hd =>
      rw [hd]
      simp only []
      have ht : c.abs.fr.tm t = c.get t := rfl
      rw [ht]
      split at h
      next b hb =>
        split at h
        · cases h
        next v' c1 h1 =>
          simp only [Option.some.injEq, Prod.mk.injEq] at h; obtain ⟨rfl, rfl⟩ := h
          obtain ⟨rfl, k1, k2⟩ := decideX_spec hb h1 hl
          exact ⟨k1, k2, by rw [hb]; rfl⟩
      next x hx hb =>
        simp only [Option.some.injEq, Prod.mk.injEq] at h; obtain ⟨rfl, rfl⟩ := h
        refine ⟨hl, rfl, ?_⟩
        rw [hb]
        show truthV want x = some false
        unfold truthV
        split
        · exact absurd rfl (hx _)
        · rfl
      · cases h
/-- An append to a row, of no order. -/
def quietGrow (P : Program) (R : Array Oper) (dep : Nat) (tgt : List Nat) (k : Nat) (o : Oper) (c : Cf) : Option Cf :=
  match o.op with
  | .call ⟨.builtin .append, ⟨[s, x]⟩, ts⟩ => bif growAt R tgt k then match rowGrow P c ts.toList (evalC c.toCs s) (evalC c.toCs x) with
    | some (i, n, size, es, l) => bif makesAt R k && (Nat.beq i (tgt.getD k 0) && (clearS (othersAt R dep k) (.sl (siteAt R dep k) 0 (n + 1) ⟨size, 0⟩) && sepC c tgt (sG P R tgt k) o [])) then
        some ((((c.delB i).setB (siteAt R dep k) (.row es false)).put o.dst (.sl (siteAt R dep k) 0 (n + 1) ⟨size, 0⟩)).owe l) else none
    | none => none
    else none
  | _ => none
/-- A step that is one of no order. -/
def quietOld (P : Program) (X : Contracts) (R : Array Oper) (dep : Nat) (tgt : List Nat) (k : Nat) (o : Oper) (c : Cf) : Option Cf :=
  match callParts o.op with
  | none => match opY P c.bk (evalC c.toCs) o.type o.op with
    | some (.val d, l) => bif Nat.ble (kindOf P o.op) 1 && (clearS (othersAt R dep k) d && (Nat.beq (kindOf P o.op) 0 || sepC c tgt (sG P R tgt k) o [])) then some ((c.put o.dst d).owe l) else none
    | some (.box cs, l) => bif Nat.ble (kindOf P o.op) 1 && (makesAt R k && (clearSL (siteAt R dep k :: othersAt R dep k) cs && (clearS (othersAt R dep k) (.ptr (siteAt R dep k) 0) && sepC c tgt (sG P R tgt k) o []))) then some (((c.setB (siteAt R dep k) (.cells cs false)).put o.dst (.ptr (siteAt R dep k) 0)).owe l) else none
    | some (.row cs n sz, l) => bif Nat.ble (kindOf P o.op) 1 && (makesAt R k && (clearSL (siteAt R dep k :: othersAt R dep k) cs && (clearS (othersAt R dep k) (.sl (siteAt R dep k) 0 n ⟨sz, 0⟩) && sepC c tgt (sG P R tgt k) o []))) then some (((c.setB (siteAt R dep k) (.cells cs false)).put o.dst (.sl (siteAt R dep k) 0 n ⟨sz, 0⟩)).owe l) else none
    | some (.app s sz m ds, l) => bif freshB s && (Nat.ble (kindOf P o.op) 1 && (makesAt R k && (clearSL (siteAt R dep k :: othersAt R dep k) ds && (clearS (othersAt R dep k) (.sl (siteAt R dep k) 0 m ⟨sz, 0⟩) && sepC c tgt (sG P R tgt k) o [])))) then some (((c.setB (siteAt R dep k) (.cells ds false)).put o.dst (.sl (siteAt R dep k) 0 m ⟨sz, 0⟩)).owe l) else none
    | some (.row0, l) => bif Nat.ble (kindOf P o.op) 1 && sepC c tgt (sG P R tgt k) o [] then some ((c.put o.dst .emp).owe l) else none
    | some (.sto i off ds, l) => bif Nat.beq (kindOf P o.op) 2 && (clearSL (othersAt R dep k) ds && (!(uB P R k) || Nat.beq i (tgt.getD k 0))) then (match stepC c o.dst 0 (.sto i off ds) with | some c' => some (c'.owe l) | none => none) else none
    | some (.cpy i off ds n, l) => bif Nat.beq (kindOf P o.op) 4 && clearSL (othersAt R dep k) ds then (match stepC c o.dst 0 (.cpy i off ds n) with | some c' => some (c'.owe l) | none => none) else none
    | _ => none
  | some (fo, args) => match evalC c.toCs fo with
    | .fn f caps => match bodyOf P f with
      | none => match caps, D.plains (args.toList.map (evalC c.toCs)) with
        | [], some vs => match extX P X f vs with
          | some (u, l) => bif clearS (othersAt R dep k) (D.ofV u) && sepC c tgt (sG P R tgt k) o [] then some ((c.put o.dst (D.ofV u)).owe l) else none
          | none => none
        | _, _ => none
      | some _ => match callOf X f with
        | none => none
        | some g => match shareAllX (shareX c.bk depth) (args.toList.map (evalC c.toCs) ++ caps) with
          | none => none
          | some (as, passed, l) => match g as with
            | none => none
            | some (res, l') => bif makesAt R k && (clearS (othersAt R dep k) (thawX (siteAt R dep k) res).1 && (clearBXs (siteAt R dep k :: othersAt R dep k) (thawX (siteAt R dep k) res).2 && (Nat.ble (thawX (siteAt R dep k) res).2.length 32 && sepC c tgt (sG P R tgt k) o passed))) then
                some (((putNewC (bif flat res then c else c.markRo passed) (siteAt R dep k) (thawX (siteAt R dep k) res).2).put o.dst (thawX (siteAt R dep k) res).1).owe (l ++ l')) else none
    | _ => none
/-- A store into an element of a row, of no order. -/
def quietStore (P : Program) (R : Array Oper) (dep : Nat) (tgt : List Nat) (k : Nat) (o : Oper) (c : Cf) : Option Cf :=
  match o.op with
  | .store t a x => match evalC c.toCs a, (evalC c.toCs x).cells with
    | .pel id _ _ _, some ds => bif Nat.beq (kindOf P o.op) 2 && (clearSL (othersAt R dep k) ds && (!(uB P R k) || Nat.beq id (tgt.getD k 0))) then (match rowStore P c o.dst t (evalC c.toCs a) (evalC c.toCs x) with | some (c', l) => some (c'.owe l) | none => none) else none
    | _, _ => none
  | _ => none
def quietOne (P : Program) (X : Contracts) (R : Array Oper) (dep : Nat) (tgt : List Nat) (k : Nat) (o : Oper) (c : Cf) : Option Cf :=
  match quietGrow P R dep tgt k o c with
  | some c' => some c'
  | none => match quietStore P R dep tgt k o c with
    | some c' => some c'
    | none => quietOld P X R dep tgt k o c
def drawOne (P : Program) (X : Contracts) (E : List Oper → Cf → Option (Ex × Cf)) (R : Array Oper) (dep : Nat) (tgt : List Nat) (k : Nat) (o : Oper) (c : Cf) : Option Cf :=
  bif tB R k then match E [o] c with
    | some (.normal, c1) => some (wipeS (othersAt R dep k) c1)
    | _ => none
  else match wantedX R o c with
    | none => none
    | some (false, c1) => some (c1.put o.dst (.v undef))
    | some (true, c1) => quietOne P X R dep tgt k o c1
def drawsGo (P : Program) (X : Contracts) (E : List Oper → Cf → Option (Ex × Cf)) (R : Array Oper) (dep : Nat) (tgt : List Nat) : Nat → List Oper → Cf → Option Cf
  | _, [], c => some c
  | k, o :: l, c => match drawOne P X E R dep tgt k o c with
    | none => none
    | some c' => drawsGo P X E R dep tgt (k + 1) l c'
/-! Loops over functions. -/
def putsC (f : TT × Nat) : List (Tmp × D) → TT × Nat
  | [] => f
  | (t, d) :: l => putsC (f.1.set (bif Nat.blt t f.2 then d else .undef) (path t), f.2) l
theorem frOf_puts : ∀ (ps : List (Tmp × D)) (f : TT × Nat), frOf (putsC f ps) = (frOf f).puts ps
  | [], f => rfl
  | (t, d) :: ps, f => by
    show frOf (putsC _ ps) = ((frOf f).put t d).puts ps
    rw [frOf_puts ps, frOf_set]
theorem get_lf : ∀ p, TT.get p .lf = .undef
  | [] => rfl
  | b :: p => get_lf p
def Cf.round (c : Cf) (f : TT × Nat) (ps : List (Tmp × D)) : Cf := { tm := (putsC f ps).1, nt := (putsC f ps).2, stk := (c.tm, c.nt) :: c.stk, bk := c.bk, loop := c.loop, gen := c.gen, todo := c.todo, cds := c.cds }
theorem abs_round (c : Cf) (f : TT × Nat) (ps : List (Tmp × D)) : (c.round f ps).abs = c.abs.round (frOf f) ps := by
  simp only [Cf.round, Cf.abs, Cs.abs, St.round, List.map_cons]
  congr 1
  exact frOf_puts ps f
def Cf.at (c : Cf) (L : LoopSt) (s : LSt) : Cf := { c with loop := some { L with state := s } }
def Cf.ranged (c : Cf) (ps : Array Tmp) (assign body : Code) (caps : List D) (nt : Nat) : Cf :=
  { tm := TT.mk (initD (.yld :: caps) ((.yld :: caps).length + (nt - (.yld :: caps).length))) ((.yld :: caps).length + (nt - (.yld :: caps).length) + 1) 0 1, nt := (.yld :: caps).length + (nt - (.yld :: caps).length),
    stk := ((c.forget yldId).tm, (c.forget yldId).nt) :: (.lf, 1) :: (c.forget yldId).stk, bk := (c.forget yldId).bk, loop := some { ps := ps, assign := assign, body := body, depth := c.stk.length + 2, state := .ready }, gen := c.gen, todo := c.todo, cds := c.cds }
theorem abs_ranged (c : Cf) (ps : Array Tmp) (assign body : Code) (caps : List D) (nt : Nat) : (c.ranged ps assign body caps nt).abs = c.abs.ranged ps assign body caps nt := by
  have h := abs_forget c yldId
  have h1 := congrArg St.fr h
  have h2 := congrArg St.stk h
  have h3 := congrArg St.bk h
  simp only [Cf.ranged, St.ranged, ← h1, ← h2, ← h3]
  simp only [Cf.abs, Cs.abs, List.map_cons]
  congr 1
  · exact frOf_mk _ _
  · congr 2
    simp only [frOf, ghost, get_lf]
  · simp
end
end Go.Dam
end

section
namespace Go.Dam
open Go Go.RowKit
set_option linter.unusedSectionVars false
variable [Glo]
set_option linter.unusedSimpArgs false
set_option linter.unusedVariables false
noncomputable section
theorem inSites_of {lo id : Nat} : ∀ {los : List Nat}, lo ∈ los → lo ≤ id → id < lo + 32 → inSites los id = true
  | l :: los, h, h1, h2 => by
    simp only [inSites, Bool.or_eq_true, Bool.and_eq_true]
    rcases List.mem_cons.1 h with rfl | h
    · exact .inl ⟨by simpa using h1, by simpa [Nat.blt_eq] using h2⟩
    · exact .inr (inSites_of h h1 h2)
theorem clearS_has {los : List Nat} {lo id : Nat} {d : D} (h : clearS los d = true) (h0 : lo ∈ los) (h1 : lo ≤ id) (h2 : id < lo + 32) : d.has id = false := by
  cases los with
  | nil => cases h0
  | cons l los => exact clear_has (inSites_of h0 h1 h2) d h
theorem clearSL_mem {los : List Nat} : ∀ {ds : List D}, clearSL los ds = true → ∀ d ∈ ds, clearS los d = true
  | d :: ds, h, e, he => by
    simp only [clearSL, Bool.and_eq_true] at h
    rcases List.mem_cons.1 he with rfl | he
    · exact h.1
    · exact clearSL_mem h.2 e he
theorem clearS_tail {l : Nat} {los : List Nat} {d : D} (h : clearS (l :: los) d = true) : clearS los d = true := by
  cases los with
  | nil => rfl
  | cons m los =>
    simp only [clearS] at h ⊢
    -- fewer blocks to look for
    have mono : ∀ (q q' : Nat → Bool), (∀ i, q' i = true → q i = true) → ∀ d, D.clear q d = true → D.clear q' d = true := by
      intro q q' hq
      have key : ∀ i, (!(q i)) = true → (!(q' i)) = true := fun i h => by
        cases e : q' i with
        | false => rfl
        | true => rw [hq i e] at h; cases h
      intro d
      refine D.rec (motive_1 := fun d => D.clear q d = true → D.clear q' d = true) (motive_2 := fun ds => D.clearL q ds = true → D.clearL q' ds = true) ?_ ?_ ?_ ?_ ?_ ?_ ?_ ?_ ?_ ?_ ?_ ?_ ?_ ?_ ?_ ?_ ?_ d
      all_goals first
        | (intros; rfl)
        | (intros; simp only [D.clear] at *; apply key; assumption)
        | (intro cs ih h; simp only [D.clear] at h ⊢; exact ih h)
        | (intro f cs ih h; simp only [D.clear] at h ⊢; exact ih h)
        | (intro d ds h1 h2 h; simp only [D.clearL, Bool.and_eq_true] at h ⊢; exact ⟨h1 h.1, h2 h.2⟩)
    refine mono _ _ (fun i hi => ?_) d h
    simp only [inSites, Bool.or_eq_true] at hi ⊢
    exact .inr hi
section
variable {P : Program} {F : FuncId → List D → D → Prop} {R : Array Oper} {dep : Nat} {tgt : List Nat}
theorem others_mem {k l : Nat} {id : Nat} (hW : (planOf P R dep tgt).W k l = true) (hid : id ∈ (planOf P R dep tgt).zs l) : siteAt R dep l ∈ othersAt R dep k ∧ siteAt R dep l ≤ id ∧ id < siteAt R dep l + 32 := by
  simp only [planOf] at hid hW
  cases hm : makesAt R l with
  | false => rw [hm, cond_false] at hid; cases hid
  | true =>
    rw [hm, cond_true, List.mem_range'_1] at hid
    refine ⟨?_, hid.1, hid.2⟩
    simp only [othersAt, List.mem_map, List.mem_filter, List.mem_range, Bool.and_eq_true]
    exact ⟨l, ⟨makes_lt hm, hW, hm⟩, rfl⟩
theorem nomen_of {k : Nat} {d : D} (h : clearS (othersAt R dep k) d = true) : NoMen (planOf P R dep tgt) k d := by
  intro l hW id hid
  obtain ⟨h1, h2, h3⟩ := others_mem hW hid
  exact clearS_has h h1 h2 h3
theorem unused_others {k : Nat} (c : Cf) : ∀ l, (planOf P R dep tgt).W k l = true → ∀ id ∈ (planOf P R dep tgt).zs l, Unused id (wipeS (othersAt R dep k) c).abs := by
  intro l hW id hid
  obtain ⟨h1, h2, h3⟩ := others_mem hW hid
  cases ho : othersAt R dep k with
  | nil => rw [ho] at h1; cases h1
  | cons lo los =>
    simp only [wipeS]
    rw [abs_wipe]
    rw [ho] at h1
    exact unused_wipe (inSites_of h1 h2 h3) _
theorem unused_makers (c : Cf) : ∀ l, ∀ id ∈ (planOf P R dep tgt).zs l, Unused id (wipeS (makersOf R dep) c).abs := by
  intro l id hid
  simp only [planOf] at hid
  cases hm : makesAt R l with
  | false => rw [hm, cond_false] at hid; cases hid
  | true =>
    rw [hm, cond_true, List.mem_range'_1] at hid
    have h1 : siteAt R dep l ∈ makersOf R dep := by
      simp only [makersOf, List.mem_map, List.mem_filter, List.mem_range]
      exact ⟨l, ⟨makes_lt hm, hm⟩, rfl⟩
    cases ho : makersOf R dep with
    | nil => rw [ho] at h1; cases h1
    | cons lo los =>
      simp only [wipeS]
      rw [abs_wipe]
      rw [ho] at h1
      exact unused_wipe (inSites_of h1 hid.1 hid.2) _
theorem wipeS_runs {R' : Array Oper} {l : List Oper} {σ : St} {los : List Nat} {c : Cf} (h : Runs P F (.ops R' l) σ .normal c.abs) : Runs P F (.ops R' l) σ .normal (wipeS los c).abs := by
  cases los with
  | nil => exact h
  | cons lo los => simp only [wipeS]; rw [abs_wipe]; exact .after h
theorem wipeS_start {j : Job} {e : Ex} {σ' : St} {los : List Nat} {c : Cf} (hp : j.plain = true) (h : Runs P F j (wipeS los c).abs e σ') : Runs P F j c.abs e σ' := by
  cases los with
  | nil => exact h
  | cons lo los => simp only [wipeS] at h; rw [abs_wipe] at h; exact .wipe hp h
theorem sep_of {c : Cf} {S : List Nat} {o : Oper} {r : QR} (h : sepC c tgt S o r.told = true) : ∀ j ∈ S, Sep (evalD c.abs) o (tgt.getD j 0) r := by
  intro j hj
  simp only [sepC, List.all_eq_true] at h
  have h1 := h j hj
  simp only [evalC_abs, Bool.and_eq_true, Bool.not_eq_true', List.all_eq_true] at h1
  refine ⟨fun y hy => clear_has (Nat.beq_refl _) _ (h1.1 y (by simpa using hy)), fun hm => ?_⟩
  have := h1.2
  rw [List.contains_iff_mem.2 hm] at this
  cases this
theorem putNew_abs : ∀ (bs : List BX) (cs : List (List D)) (c : Cf) (id : Nat), bs.map BX.blk = cs.map (fun cs => ⟨cs, false⟩) → (putNewC c id bs).abs = { c.abs with bk := fun i => match newB i (news id cs) with | some b => some b | none => c.abs.bk i }
  | [], [], c, id, _ => rfl
  | [], _ :: _, _, _, h => by simp at h
  | _ :: _, [], _, _, h => by simp at h
  | b :: bs, x :: cs, c, id, h => by
    simp only [List.map_cons, List.cons.injEq] at h
    simp only [putNewC]
    rw [putNew_abs bs cs _ _ h.2]
    rw [abs_setB, h.1]
    refine St.ext' rfl rfl ?_ rfl
    funext i
    simp only [St.setB, news, newB]
    by_cases e : i = id
    · subst e
      rw [newB_none (i := i) (l := news (i + 1) cs) (fun cs' hm => by have := (news_ge hm).1; omega)]
      simp
    · rw [if_neg e, if_neg (Ne.symm e)]
@[simp] theorem cds_new : ∀ (bs : List BX) (c : Cf) (id : Nat), (putNewC c id bs).cds = c.cds
  | [], _, _ => rfl
  | b :: bs, c, id => by simp [putNewC, cds_new bs]
theorem news_lt : ∀ {bs : List (List D)} {id i : Nat} {cs : List D}, (i, cs) ∈ news id bs → i < id + bs.length
  | c :: bs, id, i, cs, h => by
    simp only [news, List.mem_cons, Prod.mk.injEq] at h
    rcases h with ⟨rfl, rfl⟩ | h
    · simp
    · have := news_lt h; simp; omega
theorem news_nodup : ∀ (bs : List (List D)) (id : Nat), ((news id bs).map (·.1)).Nodup
  | [], _ => .nil
  | c :: bs, id => by
    simp only [news, List.map_cons, List.nodup_cons]
    refine ⟨fun h => ?_, news_nodup bs (id + 1)⟩
    simp only [List.mem_map] at h
    obtain ⟨⟨i, cs⟩, h1, h2⟩ := h
    simp only at h2
    subst h2
    have := (news_ge h1).1
    omega
theorem q_plain (c : Cf) (dst : Option Tmp) (d : D) : c.abs.q dst ⟨d, [], [], [], none⟩ = (c.put dst d).abs := by
  rw [abs_put]; simp only [St.q]; congr 1
theorem q_one (c : Cf) (dst : Option Tmp) (d : D) (id : Nat) (cs : List D) : c.abs.q dst ⟨d, [(id, cs)], [], [], none⟩ = ((c.setB id (.cells cs false)).put dst d).abs := by
  rw [abs_put, abs_setB]; simp only [St.q, St.setB, BX.blk]; congr 1
  congr 1
  funext i
  simp only [qbk, newB]
  by_cases e : i = id
  · subst e; simp
  · rw [if_neg e, if_neg (Ne.symm e)]; simp
theorem clearBXs_mem {los : List Nat} : ∀ {bs : List BX} {cs : List (List D)}, bs.map BX.blk = cs.map (fun cs => ⟨cs, false⟩) → clearBXs los bs = true → ∀ x ∈ cs, ∀ d ∈ x, clearS los d = true
  | [], [], _, _, x, hx => by cases hx
  | [], _ :: _, h, _, _, _ => by simp at h
  | _ :: _, [], h, _, _, _ => by simp at h
  | b :: bs, y :: cs, h, hc, x, hx => by
    simp only [List.map_cons, List.cons.injEq] at h
    simp only [clearBXs, Bool.and_eq_true] at hc
    rcases List.mem_cons.1 hx with rfl | hx
    · intro d hd
      cases b with
      | cells cs ro =>
        have := congrArg Blk.cells h.1
        simp only [BX.blk] at this; subst this
        exact clearSL_mem hc.1 d hd
      | row cols ro =>
        have := congrArg Blk.cells h.1
        simp only [BX.blk] at this; subst this
        obtain ⟨v, rfl⟩ := rowCells0_v hd
        cases los <;> rfl
    · exact clearBXs_mem h.2 hc.2 x hx
theorem quietOld_spec {O : Oper → St → St → Prop} {X : Contracts} (hX : ConOK P X) {k : Nat} {o : Oper} {c c' : Cf} (hk : R[k]? = some o)
    (h : quietOld P X R dep tgt k o c = some c') (hl : AllP c'.cds) : AllP c.cds ∧ (wantedD R o c.abs = some true → (∀ id ∈ (planOf P R dep tgt).zs k, Unused id c.abs) → QStep P (CallsD P) O R (planOf P R dep tgt) k o c.abs c'.abs) := by
  have own : ∀ id, makesAt R k = true → siteAt R dep k ≤ id → id < siteAt R dep k + 32 → id ∈ (planOf P R dep tgt).zs k := fun id hm h1 h2 => by
    simp only [planOf]; rw [hm, cond_true, List.mem_range'_1]; exact ⟨h1, h2⟩
  have blk : wantedD R o c.abs = some true → (∀ id ∈ (planOf P R dep tgt).zs k, Unused id c.abs) → ∀ d cs, makesAt R k = true → clearSL (siteAt R dep k :: othersAt R dep k) cs = true → clearS (othersAt R dep k) d = true → sepC c tgt (sG P R tgt k) o [] = true → QOp P (CallsD P) o (evalD c.abs) c.abs.bk ⟨d, [(siteAt R dep k, cs)], [], [], none⟩ →
      QStep P (CallsD P) O R (planOf P R dep tgt) k o c.abs ((c.setB (siteAt R dep k) (.cells cs false)).put o.dst d).abs := by
    intro hw hu d cs hm hcl hd hsep hop
    rw [← q_one]
    have hmem : siteAt R dep k ∈ (planOf P R dep tgt).zs k := own _ hm (Nat.le_refl _) (by omega)
    refine .op hw hop ?_ (by simp) (nomen_of hd) ?_ (.inr (sep_of hsep)) (fun g h => by cases h)
    · intro i cs' hi
      simp only [List.mem_singleton, Prod.mk.injEq] at hi
      obtain ⟨rfl, rfl⟩ := hi
      refine ⟨hmem, hu _ hmem, fun j cs'' hj => ?_⟩
      simp only [List.mem_singleton, Prod.mk.injEq] at hj
      obtain ⟨rfl, rfl⟩ := hj
      exact hasL_false fun d hd' => clearS_has (clearSL_mem hcl d hd') (by simp) (Nat.le_refl _) (by omega)
    · intro i cs' hi d' hd'
      simp only [List.mem_singleton, Prod.mk.injEq] at hi
      obtain ⟨rfl, rfl⟩ := hi
      exact nomen_of (clearS_tail (clearSL_mem hcl d' hd'))
  have opd : ∀ {e : Eff} {l : List Prop}, opY P c.bk (evalC c.toCs) o.type o.op = some (e, l) → AllP l → opD P c.abs.bk (evalD c.abs) o.type o.op = some e := fun h hl => by
    have := opY_spec h hl
    rwa [evalC_abs] at this
  unfold quietOld at h
  split at h
  next hcp =>
    split at h
    next d l hop =>
      simp only [cond_eq_ite] at h
      split at h
      next hb =>
        simp only [Option.some.injEq] at h; subst h
        simp only [cds_owe, cds_put, AllP_append] at hl
        simp only [Bool.and_eq_true, Bool.or_eq_true] at hb
        refine ⟨hl.2, fun hw hu => ?_⟩
        rw [abs_owe, ← q_plain]
        refine .op hw (.val (Nat.le_of_ble_eq_true hb.1) (opd hop hl.1)) (fun i cs h => by cases h) .nil (nomen_of hb.2.1) (fun i cs h => by cases h) ?_ (fun g h => by cases h)
        rcases hb.2.2 with h | h
        · exact .inl (Nat.eq_of_beq_eq_true h)
        · exact .inr (sep_of h)
      next => cases h
    next cs l hop =>
      simp only [cond_eq_ite] at h
      split at h
      next hb =>
        simp only [Option.some.injEq] at h; subst h
        simp only [cds_owe, cds_put, cds_setB, AllP_append] at hl
        simp only [Bool.and_eq_true] at hb
        exact ⟨hl.2, fun hw hu => blk hw hu _ cs hb.2.1 hb.2.2.1 hb.2.2.2.1 hb.2.2.2.2 (.box (Nat.le_of_ble_eq_true hb.1) (opd hop hl.1))⟩
      next => cases h
    next cs n sz l hop =>
      simp only [cond_eq_ite] at h
      split at h
      next hb =>
        simp only [Option.some.injEq] at h; subst h
        simp only [cds_owe, cds_put, cds_setB, AllP_append] at hl
        simp only [Bool.and_eq_true] at hb
        exact ⟨hl.2, fun hw hu => blk hw hu _ cs hb.2.1 hb.2.2.1 hb.2.2.2.1 hb.2.2.2.2 (.row (Nat.le_of_ble_eq_true hb.1) (opd hop hl.1))⟩
      next => cases h
    next s sz m ds l hop =>
      simp only [cond_eq_ite] at h
      split at h
      next hb =>
        simp only [Option.some.injEq] at h; subst h
        simp only [cds_owe, cds_put, cds_setB, AllP_append] at hl
        simp only [Bool.and_eq_true] at hb
        have hs : s = .emp ∨ ∃ u, s = .v u := by
          have := hb.1
          unfold freshB at this
          split at this
          · exact .inl rfl
          · exact .inr ⟨_, rfl⟩
          · cases this
        exact ⟨hl.2, fun hw hu => blk hw hu _ ds hb.2.2.1 hb.2.2.2.1 hb.2.2.2.2.1 hb.2.2.2.2.2 (.app0 (Nat.le_of_ble_eq_true hb.2.1) (opd hop hl.1) hs)⟩
      next => cases h
    next l hop =>
      simp only [cond_eq_ite] at h
      split at h
      next hb =>
        simp only [Option.some.injEq] at h; subst h
        simp only [cds_owe, cds_put, AllP_append] at hl
        simp only [Bool.and_eq_true] at hb
        refine ⟨hl.2, fun hw hu => ?_⟩
        rw [abs_owe, ← q_plain]
        exact .op hw (.row0 (Nat.le_of_ble_eq_true hb.1) (opd hop hl.1)) (fun i cs h => by cases h) .nil (fun _ _ _ _ => rfl) (fun i cs h => by cases h) (.inr (sep_of hb.2)) (fun g h => by cases h)
      next => cases h
    next i off ds l hop =>
      simp only [cond_eq_ite] at h
      split at h
      next hb =>
        simp only [Bool.and_eq_true] at hb
        split at h
        next c1 hst =>
          simp only [Option.some.injEq] at h; subst h
          simp only [stepC] at hst
          split at hst
          next cells hbk =>
            split at hst
            next hlen =>
              simp only [Option.some.injEq] at hst; subst hst
              simp only [cds_owe, cds_put, cds_setB, AllP_append] at hl
              refine ⟨hl.2, fun hw hu => ?_⟩
              rw [abs_owe, abs_put, abs_setB]
              exact .sto hw (Nat.eq_of_beq_eq_true hb.1) (opd hop hl.1) (lookB_cells hbk) hlen (fun d hd => nomen_of (clearSL_mem hb.2.1 d hd)) (fun hU => by
                have hU : uB P R k = true := hU
                have h2 := hb.2.2
                rw [hU] at h2
                have h2 : Nat.beq i (tgt.getD k 0) = true := h2
                exact Nat.eq_of_beq_eq_true h2)
            next => cases hst
          next => cases hst
        · cases h
      next => cases h
    next i off ds n l hop =>
      simp only [cond_eq_ite] at h
      split at h
      next hb =>
        simp only [Bool.and_eq_true] at hb
        split at h
        next c1 hst =>
          simp only [Option.some.injEq] at h; subst h
          simp only [stepC] at hst
          split at hst
          next cells hbk =>
            split at hst
            next hlen =>
              simp only [Option.some.injEq] at hst; subst hst
              simp only [cds_owe, cds_put, cds_setB, AllP_append] at hl
              refine ⟨hl.2, fun hw hu => ?_⟩
              rw [abs_owe, abs_put, abs_setB]
              exact .cpy hw (Nat.eq_of_beq_eq_true hb.1) (opd hop hl.1) (lookB_cells hbk) hlen (fun d hd => nomen_of (clearSL_mem hb.2 d hd))
            next => cases hst
          next cols hbk =>
            split at hst
            next hlen =>
              simp only [Option.some.injEq] at hst; subst hst
              simp only [cds_owe, cds_put, cds_setB, AllP_append] at hl
              refine ⟨hl.2, fun hw hu => ?_⟩
              rw [abs_owe, abs_put, abs_setB, BX.re_blk]
              exact .cpy hw (Nat.eq_of_beq_eq_true hb.1) (opd hop hl.1) (lookB_rowA hbk) hlen (fun d hd => nomen_of (clearSL_mem hb.2 d hd))
            next => cases hst
          next => cases hst
        · cases h
      next => cases h
    next => cases h
  next fo args hcp =>
    split at h
    next f caps hfo =>
      have hfo' : evalD c.abs fo = .fn f caps := by rw [← evalC_abs]; exact hfo
      split at h
      next hbody =>
        split at h
        next vs hpl =>
          split at h
          next u l hrun =>
            simp only [cond_eq_ite] at h
            split at h
            next hb =>
              simp only [Option.some.injEq] at h; subst h
              simp only [cds_owe, cds_put, AllP_append] at hl
              simp only [Bool.and_eq_true] at hb
              refine ⟨hl.2, fun hw hu => ?_⟩
              rw [abs_owe, ← q_plain]
              exact .op hw (.ext hcp hfo' (by rw [← evalC_abs]; exact hpl) (extX_spec hX hrun hl.1)) (fun i cs h => by cases h) .nil (nomen_of hb.1) (fun i cs h => by cases h) (.inr (sep_of hb.2)) (fun g h => by cases h)
            next => cases h
          next => cases h
        next => cases h
      next fnb hbody =>
        split at h
        · cases h
        next g hg =>
        split at h
        · cases h
        next as passed l hsh =>
          split at h
          · cases h
          next res l' hres =>
            simp only [cond_eq_ite] at h
            split at h
            next hb =>
              simp only [Option.some.injEq] at h; subst h
              simp only [Bool.and_eq_true] at hb
              obtain ⟨hm, hd, hcl, hlen, hsep⟩ := hb
              have hcd : AllP (l ++ l' ++ c.cds) := by
                have := hl
                simp only [cds_owe, cds_put, cds_new] at this
                cases hf : flat res <;> simpa [hf] using this
              rw [AllP_append, AllP_append] at hcd
              obtain ⟨⟨hl1, hl2⟩, hl3⟩ := hcd
              have hlen' := Nat.le_of_ble_eq_true hlen
              obtain ⟨as', ks1, ks2⟩ := shareAllX_spec (fun d e ids l h hl => shareX_spec depth d e ids l h hl) _ as passed l hsh hl1
              have ht := thawX_spec res (siteAt R dep k)
              have hlt : (thawX (siteAt R dep k) res).2.length = (thaw (siteAt R dep k) res).2.length := by have := congrArg List.length ht.2; simpa using this
              have hcall : CallsD P f as' res := fun w A vs hv low glo => hX.call f g (callOf_spec hg) as res l' hres hl2 w A vs (ks2.repL hv) low glo
              have hq : QOp P (CallsD P) o (evalD c.abs) c.abs.bk ⟨(thaw (siteAt R dep k) res).1, (thaw (siteAt R dep k) res).2.zipIdx.map fun (cs, j) => (siteAt R dep k + j, cs), if flat res then [] else passed, passed, none⟩ :=
                .call hcp hfo' (by rw [hbody]; rfl) (by rw [← evalC_abs]; exact ks1) hcall
              have hne := news_eq (thaw (siteAt R dep k) res).2 (siteAt R dep k) 0
              simp only [Nat.add_zero] at hne
              rw [hne] at hq
              have e : (((putNewC (if flat res = true then c else c.markRo passed) (siteAt R dep k) (thawX (siteAt R dep k) res).2).put o.dst (thawX (siteAt R dep k) res).1).owe (l ++ l')).abs =
                  c.abs.q o.dst ⟨(thaw (siteAt R dep k) res).1, news (siteAt R dep k) (thaw (siteAt R dep k) res).2, if flat res then [] else passed, passed, none⟩ := by
                rw [abs_owe, abs_put, putNew_abs _ _ _ _ ht.2, ht.1]
                simp only [St.q]
                congr 1
                refine St.ext' ?_ ?_ ?_ (by cases flat res <;> rfl)
                · cases flat res <;> rfl
                · cases flat res <;> rfl
                · funext i
                  simp only [qbk]
                  cases newB i (news (siteAt R dep k) (thaw (siteAt R dep k) res).2) with
                  | some b => rfl
                  | none =>
                    cases flat res with
                    | true => simp
                    | false => simp [abs_ro, St.markRo]
              refine ⟨hl3, fun hw hu => ?_⟩
              rw [e]
              have hin : ∀ i cs, (i, cs) ∈ news (siteAt R dep k) (thaw (siteAt R dep k) res).2 → siteAt R dep k ≤ i ∧ i < siteAt R dep k + 32 := fun i cs hi => ⟨(news_ge hi).1, by have := news_lt hi; omega⟩
              have hclm := clearBXs_mem ht.2 hcl
              refine .op hw hq ?_ (news_nodup _ _) (nomen_of (by rw [← ht.1]; exact hd)) ?_ (.inr (sep_of hsep)) (fun g h => by cases h)
              · intro i cs hi
                obtain ⟨h1, h2⟩ := hin i cs hi
                have hz := own i hm h1 h2
                refine ⟨hz, hu i hz, fun j cs' hj => ?_⟩
                exact hasL_false fun d hd' => clearS_has (hclm cs' (news_ge hj).2 d hd') (by simp) h1 h2
              · intro i cs hi d' hd'
                exact nomen_of (clearS_tail (hclm cs (news_ge hi).2 d' hd'))
            next => cases h
    next => cases h
theorem q_grow (c : Cf) (dst : Option Tmp) (d : D) (i id : Nat) (es : List Col0) : c.abs.q dst ⟨d, [(id, rowCells0 es)], [], [], some i⟩ = (((c.delB i).setB id (.row es false)).put dst d).abs := by
  rw [abs_put, abs_setB, abs_delB]; simp only [St.q, St.setB, St.dropB, BX.blk]; congr 1
  congr 1
  funext j
  simp only [qbk, newB]
  by_cases e : j = id
  · subst e; simp
  · rw [if_neg e, if_neg (Ne.symm e)]
    by_cases e2 : j = i
    · subst e2; simp
    · have : ¬ i = j := fun h => e2 h.symm
      simp [e2, this]
theorem quietGrow_spec {O : Oper → St → St → Prop} {k : Nat} {o : Oper} {c c' : Cf}
    (h : quietGrow P R dep tgt k o c = some c') (hl : AllP c'.cds) : AllP c.cds ∧ (wantedD R o c.abs = some true → (∀ id ∈ (planOf P R dep tgt).zs k, Unused id c.abs) → QStep P (CallsD P) O R (planOf P R dep tgt) k o c.abs c'.abs) := by
  unfold quietGrow at h
  split at h
  next s x ts hop =>
    simp only [cond_eq_ite] at h
    split at h
    next hgr =>
      split at h
      next i n size es l hg =>
        split at h
        next hb =>
          simp only [Option.some.injEq] at h; subst h
          simp only [Bool.and_eq_true] at hb
          obtain ⟨hm, hi, hd, hsep⟩ := hb
          have hcd : AllP (l ++ c.cds) := by simpa [cds_owe, cds_put, cds_setB, Cf.delB] using hl
          rw [AllP_append] at hcd
          rw [evalC_abs] at hg
          obtain ⟨sz, ds, cells, k0, k1, k2, k3, k4⟩ := rowGrow_spec hg hcd.1
          refine ⟨hcd.2, fun hw hu => ?_⟩
          rw [abs_owe, ← q_grow]
          have hz : siteAt R dep k ∈ (planOf P R dep tgt).zs k := by
            simp only [planOf]; rw [hm, cond_true, List.mem_range'_1]; exact ⟨Nat.le_refl _, by show _ < siteAt R dep k + 32; omega⟩
          have hq : QOp P (CallsD P) o (evalD c.abs) c.abs.bk ⟨.sl (siteAt R dep k) 0 (n + 1) ⟨size, 0⟩, [(siteAt R dep k, rowCells0 es)], [], [], some i⟩ := by
            rw [k4]
            refine .grow ?_ ⟨s, ?_, k0⟩ (sz := sz) (ds := ds) (cells := cells) ?_ k2 k3
            · rw [hop]; rfl
            · rw [hop]; simp [Op.operands, Call.operands]
            · rw [hop]; exact k1
          have hv : ∀ d ∈ rowCells0 es, ∀ id, d.has id = false := fun d hd id => by obtain ⟨v, rfl⟩ := rowCells0_v hd; rfl
          refine .op hw hq ?_ (by simp) (nomen_of hd) ?_ (.inr (sep_of hsep)) ?_
          · intro j cs' hj
            simp only [List.mem_singleton, Prod.mk.injEq] at hj
            obtain ⟨rfl, rfl⟩ := hj
            refine ⟨hz, hu _ hz, fun j cs'' hj => ?_⟩
            simp only [List.mem_singleton, Prod.mk.injEq] at hj
            obtain ⟨rfl, rfl⟩ := hj
            exact hasL_false fun d hd' => hv d hd' _
          · intro j cs' hj d' hd'
            simp only [List.mem_singleton, Prod.mk.injEq] at hj
            obtain ⟨rfl, rfl⟩ := hj
            exact fun _ _ _ _ => hv d' hd' _
          · intro g hg'
            simp only [Option.some.injEq] at hg'
            subst hg'
            exact ⟨hgr, Nat.eq_of_beq_eq_true hi⟩
        · cases h
      · cases h
    · cases h
  · cases h
theorem quietStore_spec {O : Oper → St → St → Prop} {k : Nat} {o : Oper} {c c' : Cf}
    (h : quietStore P R dep tgt k o c = some c') (hl : AllP c'.cds) : AllP c.cds ∧ (wantedD R o c.abs = some true → (∀ id ∈ (planOf P R dep tgt).zs k, Unused id c.abs) → QStep P (CallsD P) O R (planOf P R dep tgt) k o c.abs c'.abs) := by
  unfold quietStore at h
  split at h
  next t a x hop =>
    split at h
    next id i w j ds ha hx =>
      simp only [cond_eq_ite] at h
      split at h
      next hb =>
        simp only [Bool.and_eq_true] at hb
        split at h
        next c1 l hst =>
          simp only [Option.some.injEq] at h; subst h
          simp only [cds_owe, AllP_append] at hl
          obtain ⟨id', i', w', j', ds', off, cells, e1, e2, e3, e4, e5, e6, e7⟩ := rowStore_sto hst hl.1
          rw [ha] at e1
          simp only [D.pel.injEq] at e1
          obtain ⟨rfl, _⟩ := e1
          rw [hx] at e2
          simp only [Option.some.injEq] at e2; subst e2
          refine ⟨by rw [← e7]; exact hl.2, fun hw hu => ?_⟩
          rw [abs_owe, e6]
          refine .sto hw (Nat.eq_of_beq_eq_true hb.1) ?_ e4 e5 (fun d hd => nomen_of (clearSL_mem hb.2.1 d hd)) (fun hU => by
            have hU : uB P R k = true := hU
            have h2 := hb.2.2
            rw [hU] at h2
            have h2 : Nat.beq id (tgt.getD k 0) = true := h2
            exact Nat.eq_of_beq_eq_true h2)
          rw [hop]
          simp only [opD]
          exact e3
        · cases h
      · cases h
    · cases h
  · cases h
theorem quietOne_spec {O : Oper → St → St → Prop} {X : Contracts} (hX : ConOK P X) {k : Nat} {o : Oper} {c c' : Cf} (hk : R[k]? = some o)
    (h : quietOne P X R dep tgt k o c = some c') (hl : AllP c'.cds) : AllP c.cds ∧ (wantedD R o c.abs = some true → (∀ id ∈ (planOf P R dep tgt).zs k, Unused id c.abs) → QStep P (CallsD P) O R (planOf P R dep tgt) k o c.abs c'.abs) := by
  unfold quietOne at h
  split at h
  next c2 hg =>
    simp only [Option.some.injEq] at h; subst h
    exact quietGrow_spec hg hl
  · split at h
    next c2 hg =>
      simp only [Option.some.injEq] at h; subst h
      exact quietStore_spec hg hl
    · exact quietOld_spec hX hk h hl
theorem qstep_un {O : Oper → St → St → Prop} {p : Plan} (ok : PlanOK P R p) {k m : Nat} {o : Oper} {σ σ1 : St} (h : QStep P F O R p k o σ σ1) (hlt : k < m) (hu : ∀ id ∈ p.zs m, Unused id σ) (hW : p.W k m = true) : ∀ id ∈ p.zs m, Unused id σ1 := by
  intro id hid
  have hu := hu id hid
  cases h with
  | skip _ => exact unused_q hu rfl (fun cs h => by cases h) (fun i cs h => by cases h)
  | op _ _ hm _ hd hcs _ =>
    refine unused_q hu (hd m hW id hid) (fun cs hn => ok.dis m k (by omega) id hid (hm id cs hn).1) (fun j cs hn => hasL_false fun d hd' => hcs j cs hn d hd' m hW id hid)
  | sto _ _ _ hb _ hd _ => exact unused_sto hu hb (hasL_false fun d hd' => hd d hd' m hW id hid)
  | cpy _ _ _ hb _ hd => exact unused_put_ofV (unused_sto hu hb (hasL_false fun d hd' => hd d hd' m hW id hid))
  | oth _ _ h => exact h m hW id hid
theorem anc_lt {p : Plan} (ok : PlanOK P R p) {i k : Nat} (h : Anc R i k) : i < k := by
  induction h with
  | edge h1 h2 h3 => exact ok.low _ _ h1 _ h2 h3
  | trans h1 h2 h3 _ ih => exact Nat.lt_trans ih (ok.low _ _ h1 _ h2 h3)
theorem cds_wipeS (los : List Nat) (c : Cf) : (wipeS los c).cds = c.cds := by cases los <;> rfl
theorem drawOne_spec {X : Contracts} (hX : ConOK P X) {E : List Oper → Cf → Option (Ex × Cf)}
    (hE : ∀ l c c', E l c = some (.normal, c') → AllP c'.cds → AllP c.cds ∧ Runs P (CallsD P) (.ops R l) c.abs .normal c'.abs) {k : Nat} {o : Oper} {c c1 : Cf} (hk : R[k]? = some o)
    (h : drawOne P X E R dep tgt k o c = some c1) (hl : AllP c1.cds) : AllP c.cds ∧ ((∀ id ∈ (planOf P R dep tgt).zs k, Unused id c.abs) →
      ((tB R k = true ∧ Runs P (CallsD P) (.ops R [o]) c.abs .normal c1.abs ∧ ∀ l, (planOf P R dep tgt).W k l = true → ∀ id ∈ (planOf P R dep tgt).zs l, Unused id c1.abs) ∨ QStep P (CallsD P) (fun _ _ _ => False) R (planOf P R dep tgt) k o c.abs c1.abs)) := by
  unfold drawOne at h
  cases ht : tB R k with
  | true =>
    rw [ht, cond_true] at h
    split at h
    next c2 he =>
      simp only [Option.some.injEq] at h; subst h
      rw [cds_wipeS] at hl
      obtain ⟨k1, k2⟩ := hE _ _ _ he hl
      exact ⟨k1, fun _ => .inl ⟨rfl, wipeS_runs k2, unused_others (P := P) (R := R) (dep := dep) (tgt := tgt) (k := k) c2⟩⟩
    · cases h
  | false =>
    rw [ht, cond_false] at h
    split at h
    · cases h
    next c2 hw =>
      simp only [Option.some.injEq] at h; subst h
      rw [cds_put] at hl
      obtain ⟨k1, k2, k3⟩ := wantedX_spec hw hl
      refine ⟨k1, fun _ => .inr ?_⟩
      rw [← q_plain, k2]
      exact .skip k3
    next c2 hw =>
      obtain ⟨q1, q2⟩ := quietOne_spec (O := fun _ _ _ => False) hX hk h hl
      obtain ⟨k1, k2, k3⟩ := wantedX_spec hw q1
      rw [k2] at q2
      exact ⟨k1, fun hu => .inr (q2 k3 hu)⟩
theorem drawsGo_runs {X : Contracts} (hX : ConOK P X) {E : List Oper → Cf → Option (Ex × Cf)}
    (hE : ∀ l c c', E l c = some (.normal, c') → AllP c'.cds → AllP c.cds ∧ Runs P (CallsD P) (.ops R l) c.abs .normal c'.abs) (ok : PlanOK P R (planOf P R dep tgt)) : ∀ (l : List Oper) (k : Nat) (c c' : Cf), (∀ j, l[j]? = R[k + j]?) →
    drawsGo P X E R dep tgt k l c = some c' → AllP c'.cds → AllP c.cds ∧ ((∀ m, k ≤ m → ∀ id ∈ (planOf P R dep tgt).zs m, Unused id c.abs) → Runs P (CallsD P) (.draws R (planOf P R dep tgt) k l) c.abs .normal c'.abs)
  | [], k, c, c', _, h, hl => by simp only [drawsGo, Option.some.injEq] at h; subst h; exact ⟨hl, fun _ => .dnil⟩
  | o :: l, k, c, c', hlk, h, hl => by
    have hk : R[k]? = some o := by simpa using (hlk 0).symm
    have hl' : ∀ j, l[j]? = R[k + 1 + j]? := fun j => by have := hlk (j + 1); simpa [Nat.add_assoc, Nat.add_comm 1 j] using this
    have hW : ∀ m, k < m → (planOf P R dep tgt).W k m = true := fun m hm => ok.later k m (by omega) (fun ha => by have := anc_lt ok ha; omega)
    simp only [drawsGo] at h
    split at h
    · cases h
    next c1 h1 =>
      obtain ⟨j1, j2⟩ := drawsGo_runs hX hE ok l (k + 1) c1 c' hl' h hl
      obtain ⟨k1, k2⟩ := drawOne_spec hX hE hk h1 j1
      refine ⟨k1, fun hu => ?_⟩
      rcases k2 (hu k (Nat.le_refl _)) with ⟨ht, hr, hun⟩ | hq
      · exact .dother ht hr hun (j2 fun m hm => hun m (hW m hm))
      · exact .dstep hq (j2 fun m hm => qstep_un ok hq hm (hu m (by omega)) (hW m hm))
end
end
end Go.Dam
end
