/- The engine: an abstract machine for the program's functions, proved right against the model. No condition. -/
import Derived.Test.YtakcfkmfiamliaaDamXW
set_option linter.unusedSectionVars false
set_option linter.unusedVariables false
set_option linter.unusedSimpArgs false
section
namespace Go.Dam
open Go Go.RowKit
variable [Glo]
noncomputable section
/-! An append to a row, in any order with others: the row has a new name. -/
def delB (i : Nat) : List (Nat × BX) → List (Nat × BX)
 | [] => []
 | (j, c) :: l => bif Nat.beq j i then delB i l else (j, c) :: delB i l
theorem lookX_del (i j : Nat) : ∀ l, lookX j (delB i l) = if j = i then none else lookX j l
 | [] => by simp [delB, lookX]
 | (k, c) :: l => by
  simp only [delB]
  by_cases hk : k = i
  ·subst hk
   rw [beq_yes, cond_true, lookX_del k j l]
   by_cases e : j = k
   ·simp [e]
   ·simp [e, lookX, beq_no (Ne.symm e)]
  ·rw [beq_no hk, cond_false]
   simp only [lookX, lookX_del i j l]
   by_cases h : k = j
   ·subst h; simp [hk]
   ·simp [beq_no h]
def Cf.delB (c : Cf) (i : Nat) : Cf := { c with bk := Go.Dam.delB i c.bk }
theorem abs_delB (c : Cf) (i : Nat) : (c.delB i).abs = c.abs.dropB i := by
 simp only [Cf.delB, Cf.abs, Cs.abs, St.dropB]
 congr 1
 funext j
 simp only [lookB, lookX_del]
 split <;> rfl
def growCore (c : Cf) (bytes size : Nat) (s x : D) : Option (Nat × Nat × List Col0 × List Prop) :=
 match s with
 | .sl i off n sz => match lookX i c.bk with
  | some (.row cols false) => match x.elems c.look size with
   | some (1, ds) => match likeCols cols ds with
    | some c0 => match joinCols cols c0 with
     | some es => bif Nat.beq off 0 && (Nat.beq sz.s size && Nat.beq cols.length size) then some (i, n, es, ((n + 1) * bytes ≤ 2 ^ 44) :: (n = rowLen0 cols) :: lensOf (rowLen0 cols) cols) else none
     | none => none
    | none => none
   | _ => none
  | _ => none
 | _ => none
def rowGrow (P : Program) (c : Cf) (ts : List TypeId) (s x : D) : Option (Nat × Nat × Nat × List Col0 × List Prop) :=
 match ts with
 | [t, t2] => match P.underlying t, P.underlying t2 with
  | some (.slice e), some (.slice _) => match P.info? e with
   | some j => match j.zero with
    | some z => bif Nat.ble 1 j.bytes && (Nat.beq z.cells.size j.size && Nat.blt 0 j.size) then (match growCore c j.bytes j.size s x with | some (i, n, es, l) => some (i, n, j.size, es, l) | none => none) else none
    | none => none
   | none => none
  | _, _ => none
 | _ => none
theorem growCore_spec {c : Cf} {bytes size i n : Nat} {s x : D} {es : List Col0} {l : List Prop} (hp : 0 < size) (h : growCore c bytes size s x = some (i, n, es, l)) (hl : AllP l) :
  ∃ sz ds cells, s = .sl i 0 n sz ∧ appCore c.abs.bk bytes size s x = some (.app (.sl i 0 n sz) size 1 ds) ∧ c.abs.bk i = some ⟨cells, false⟩ ∧ n * size ≤ cells.length ∧ rowCells0 es = cells.take (n * size) ++ ds := by
 unfold growCore at h
 split at h
 next i off n sz =>
  split at h
  next cols hlk =>
   split at h
   next ds hel =>
    split at h
    next c0 hlike =>
     split at h
     next es hj =>
      simp only [cond_eq_ite] at h
      split at h
      next hc =>
       simp only [Option.some.injEq, Prod.mk.injEq] at h
       obtain ⟨rfl, rfl, rfl, rfl⟩ := h
       simp only [Bool.and_eq_true] at hc
       obtain rfl := Nat.eq_of_beq_eq_true hc.1
       have e2 := Nat.eq_of_beq_eq_true hc.2.1
       have hcl := Nat.eq_of_beq_eq_true hc.2.2
       obtain ⟨a1, a2⟩ := hl
       have hb : baseX c.bk size c0 i n = some (cols, (n = rowLen0 cols) :: lensOf (rowLen0 cols) cols) := by
        unfold baseX; rw [hlk]; simp only [cond_eq_ite]; rw [if_pos hc.2.2]
       obtain ⟨cells, k1, k2, k3, k4, k5⟩ := baseX_spec hb a2
       obtain ⟨b1, b2, b3⟩ := likeCols_spec hlike
       have hel : x.elems c.abs.bk size = some (1, ds) := hel
       have hne : cols ≠ [] := by rintro rfl; simp at hcl; omega
       have hds := likeCols_cells hne hlike
       have hone : ds.all D.one = true := by rw [← hds]; exact rowCells0_one
       have hcells := joinCols_cells hne hj k5 b2
       refine ⟨sz, ds, cells, rfl, ?_, k1, k2, by rw [hcells, hds, k3]⟩
       simp only [appCore, hel, hone, if_true, if_pos (show sz.s = size ∧ (n + 1) * bytes ≤ 2 ^ 44 from ⟨e2, a1⟩), appOf]
      ·cases h
     ·cases h
    ·cases h
   ·cases h
  ·cases h
 ·cases h
theorem rowGrow_spec {P : Program} {c : Cf} {ts : Array TypeId} {i n size : Nat} {s x : D} {es : List Col0} {l : List Prop} (h : rowGrow P c ts.toList s x = some (i, n, size, es, l)) (hl : AllP l) :
  ∃ sz ds cells, s = .sl i 0 n sz ∧ appendD P c.abs.bk ts s x = some (.app (.sl i 0 n sz) size 1 ds) ∧ c.abs.bk i = some ⟨cells, false⟩ ∧ n * size ≤ cells.length ∧ rowCells0 es = cells.take (n * size) ++ ds := by
 obtain ⟨ts⟩ := ts
 unfold rowGrow at h
 split at h
 next t t2 hts =>
  simp only at hts
  subst hts
  split at h
  next e e2 hu hu2 =>
   split at h
   next j hj =>
    split at h
    next z hz =>
     simp only [cond_eq_ite] at h
     split at h
     next hc =>
      simp only [Bool.and_eq_true] at hc
      have c1 := Nat.le_of_ble_eq_true hc.1
      have c2 := Nat.eq_of_beq_eq_true hc.2.1
      have c3 : 0 < j.size := by simpa [Nat.blt_eq] using hc.2.2
      split at h
      next i n es l hg =>
       simp only [Option.some.injEq, Prod.mk.injEq] at h
       obtain ⟨rfl, rfl, rfl, rfl, rfl⟩ := h
       obtain ⟨sz, ds, cells, k0, k1, k2, k3, k4⟩ := growCore_spec c3 hg hl
       refine ⟨sz, ds, cells, k0, ?_, k2, k3, k4⟩
       unfold appCore at k1
       simp only [appendD, hu, hu2, hj, hz]
       rw [if_pos ⟨c1, c2⟩]
       exact k1
      ·cases h
     ·cases h
    ·cases h
   ·cases h
  ·cases h
 ·cases h
end
/-- An append to nothing: a row of its own. -/
def rowFresh (P : Program) (c : Cf) (ts : List TypeId) (s x : D) : Option (Nat × Nat × List Col0 × List Prop) :=
 match ts with
 | [t, t2] => match P.underlying t, P.underlying t2 with
  | some (.slice e), some (.slice _) => match P.info? e with
   | some j => match j.zero with
    | some z => bif Nat.ble 1 j.bytes && (Nat.beq z.cells.size j.size && Nat.blt 0 j.size) then (match s with
     | .emp => match srcX c.bk j.size x with
      | some (m, c0, l) => some (m, j.size, c0, (m * j.bytes ≤ 2 ^ 44) :: l)
      | none => none
     | _ => none) else none
    | none => none
   | none => none
  | _, _ => none
 | _ => none
theorem rowFresh_spec {P : Program} {c : Cf} {ts : Array TypeId} {m size : Nat} {s x : D} {c0 : List Col0} {l : List Prop} (h : rowFresh P c ts.toList s x = some (m, size, c0, l)) (hl : AllP l) :
  s = .emp ∧ appendD P c.abs.bk ts s x = some (appOf .emp size m (rowCells0 c0)) ∧ (m = 0 → rowCells0 c0 = []) := by
 obtain ⟨ts⟩ := ts
 unfold rowFresh at h
 split at h
 next t t2 hts =>
  simp only at hts
  subst hts
  split at h
  next e e2 hu hu2 =>
   split at h
   next j hj =>
    split at h
    next z hz =>
     simp only [cond_eq_ite] at h
     split at h
     next hc =>
      simp only [Bool.and_eq_true] at hc
      have c1 := Nat.le_of_ble_eq_true hc.1
      have c2 := Nat.eq_of_beq_eq_true hc.2.1
      have c3 : 0 < j.size := by simpa [Nat.blt_eq] using hc.2.2
      split at h
      ·split at h
       next m c0 l hs =>
        simp only [Option.some.injEq, Prod.mk.injEq] at h
        obtain ⟨rfl, rfl, rfl, rfl⟩ := h
        obtain ⟨h1, h2⟩ := hl
        obtain ⟨k1, k2, k3, k4⟩ := srcX_spec hs h2
        have k1 : x.elems c.abs.bk j.size = some (m, rowCells0 c0) := k1
        refine ⟨rfl, ?_, fun hm => ?_⟩
        ·simp only [appendD, hu, hu2, hj, hz]
         rw [if_pos ⟨c1, c2⟩]
         show appCore c.abs.bk j.bytes j.size .emp x = _
         simp only [appCore, k1, rowCells0_one, if_true, if_pos h1]
        ·subst hm
         have hne0 : c0 ≠ [] := by rintro rfl; simp at k2; omega
         apply List.length_eq_zero_iff.1
         rw [rowCells0_length, rowLen0_of hne0 k3]; simp
       ·cases h
      ·cases h
     ·cases h
    ·cases h
   ·cases h
  ·cases h
 ·cases h
/-- An append of a row to a slice that has columns. -/
def joinCore (c : Cf) (bytes size : Nat) (s x : D) : Option (Nat × Nat × Nat × List Col0 × List Prop) :=
 match s with
 | .sl i off n sz => match srcX c.bk size x with
  | some (m, c0, l) => match baseX c.bk size c0 i n with
   | some (cols, l2) => match joinCols cols c0 with
    | some es => bif Nat.beq off 0 && Nat.beq sz.s size then some (i, n, m, es, ((n + m) * bytes ≤ 2 ^ 44) :: (l2 ++ l)) else none
    | none => none
   | none => none
  | none => none
 | _ => none
theorem joinCore_spec {c : Cf} {bytes size i n m : Nat} {s x : D} {es : List Col0} {l : List Prop} (hp : 0 < size) (h : joinCore c bytes size s x = some (i, n, m, es, l)) (hl : AllP l) :
  ∃ sz ds cells, s = .sl i 0 n sz ∧ appCore c.abs.bk bytes size s x = some (appOf (.sl i 0 n sz) size m ds) ∧ (m = 0 → ds = [] ∧ sz.s = size) ∧ c.abs.bk i = some ⟨cells, false⟩ ∧ n * size ≤ cells.length ∧ rowCells0 es = cells.take (n * size) ++ ds := by
 unfold joinCore at h
 split at h
 next i off n sz =>
  split at h
  next m c0 l1 hs =>
   split at h
   next cols l2 hb =>
    split at h
    next es hj =>
     simp only [cond_eq_ite] at h
     split at h
     next hc =>
      simp only [Option.some.injEq, Prod.mk.injEq] at h
      obtain ⟨rfl, rfl, rfl, rfl, rfl⟩ := h
      simp only [Bool.and_eq_true] at hc
      obtain rfl := Nat.eq_of_beq_eq_true hc.1
      have e2 := Nat.eq_of_beq_eq_true hc.2
      obtain ⟨a1, a2⟩ := hl
      rw [AllP_append] at a2
      obtain ⟨k1, k2, k3, k4⟩ := srcX_spec hs a2.2
      have k1 : x.elems c.abs.bk size = some (m, rowCells0 c0) := k1
      obtain ⟨cells, b1, b2, b3, b4, b5⟩ := baseX_spec hb a2.1
      have hne : cols ≠ [] := by rintro rfl; simp at b4; omega
      have hne0 : c0 ≠ [] := by rintro rfl; simp at k2; omega
      have hcells := joinCols_cells hne hj b5 k3
      refine ⟨sz, rowCells0 c0, cells, rfl, ?_, fun hm => ⟨?_, e2⟩, b1, b2, by rw [hcells, b3]⟩
      ·simp only [appCore, k1, rowCells0_one, if_true, if_pos (show sz.s = size ∧ (n + m) * bytes ≤ 2 ^ 44 from ⟨e2, a1⟩)]
      ·subst hm
       apply List.length_eq_zero_iff.1
       rw [rowCells0_length, rowLen0_of hne0 k3]; simp
     ·cases h
    ·cases h
   ·cases h
  ·cases h
 ·cases h
def rowJoin (P : Program) (c : Cf) (ts : List TypeId) (s x : D) : Option (Nat × Nat × Nat × Nat × List Col0 × List Prop) :=
 match ts with
 | [t, t2] => match P.underlying t, P.underlying t2 with
  | some (.slice e), some (.slice _) => match P.info? e with
   | some j => match j.zero with
    | some z => bif Nat.ble 1 j.bytes && (Nat.beq z.cells.size j.size && Nat.blt 0 j.size) then (match joinCore c j.bytes j.size s x with | some (i, n, m, es, l) => some (i, n, m, j.size, es, l) | none => none) else none
    | none => none
   | none => none
  | _, _ => none
 | _ => none
theorem rowJoin_spec {P : Program} {c : Cf} {ts : Array TypeId} {i n m size : Nat} {s x : D} {es : List Col0} {l : List Prop} (h : rowJoin P c ts.toList s x = some (i, n, m, size, es, l)) (hl : AllP l) :
  ∃ sz ds cells, s = .sl i 0 n sz ∧ appendD P c.abs.bk ts s x = some (appOf (.sl i 0 n sz) size m ds) ∧ (m = 0 → ds = [] ∧ sz.s = size) ∧ c.abs.bk i = some ⟨cells, false⟩ ∧ n * size ≤ cells.length ∧ rowCells0 es = cells.take (n * size) ++ ds := by
 obtain ⟨ts⟩ := ts
 unfold rowJoin at h
 split at h
 next t t2 hts =>
  simp only at hts
  subst hts
  split at h
  next e e2 hu hu2 =>
   split at h
   next j hj =>
    split at h
    next z hz =>
     simp only [cond_eq_ite] at h
     split at h
     next hc =>
      simp only [Bool.and_eq_true] at hc
      have c1 := Nat.le_of_ble_eq_true hc.1
      have c2 := Nat.eq_of_beq_eq_true hc.2.1
      have c3 : 0 < j.size := by simpa [Nat.blt_eq] using hc.2.2
      split at h
      next i n m es l hg =>
       simp only [Option.some.injEq, Prod.mk.injEq] at h
       obtain ⟨rfl, rfl, rfl, rfl, rfl, rfl⟩ := h
       obtain ⟨sz, ds, cells, k0, k1, k2⟩ := joinCore_spec c3 hg hl
       refine ⟨sz, ds, cells, k0, ?_, k2⟩
       unfold appCore at k1
       simp only [appendD, hu, hu2, hj, hz]
       rw [if_pos ⟨c1, c2⟩]
       exact k1
      ·cases h
     ·cases h
    ·cases h
   ·cases h
  ·cases h
 ·cases h
end Go.Dam
end

section
namespace Go.Dam
open Go Go.RowKit
variable [Glo]
noncomputable section
/-! A region that draws. -/
def inSites : List Nat → Nat → Bool
 | [], _ => false
 | lo :: l, id => (Nat.ble lo id && Nat.blt id (lo + 32)) || inSites l id
def siteAt (R : Array Oper) (dep k : Nat) : Nat := (dep * 4096 + dstAt R k) * 32
def othersAt (R : Array Oper) (dep k : Nat) : List Nat := ((List.range R.size).filter fun l => wB R k l && makesAt R l).map (siteAt R dep)
def makersOf (R : Array Oper) (dep : Nat) : List Nat := ((List.range R.size).filter (makesAt R)).map (siteAt R dep)
def wipeB (q : Nat → Bool) : List (Nat × BX) → List (Nat × BX)
 | [] => []
 | (j, b) :: l => bif q j then wipeB q l else (j, b.wipe q) :: wipeB q l
def Cf.wipe (q : Nat → Bool) (c : Cf) : Cf := { tm := c.tm.map (D.wipe q), nt := c.nt, stk := c.stk.map fun f => (f.1.map (D.wipe q), f.2), bk := wipeB q c.bk, loop := if q yldId then none else c.loop, gen := c.gen, todo := c.todo, cds := c.cds }
theorem lookX_wipe (q : Nat → Bool) (j : Nat) : ∀ l, lookX j (wipeB q l) = if q j then none else (lookX j l).map (BX.wipe q)
 | [] => by simp [wipeB, lookX]
 | (k, b) :: l => by
  simp only [wipeB]
  cases hk : q k with
  | true =>
   rw [cond_true, lookX_wipe q j l]
   by_cases h : k = j
   ·subst h; simp [hk]
   ·simp [lookX, beq_no h]
  | false =>
   rw [cond_false]
   simp only [lookX, lookX_wipe q j l]
   by_cases h : k = j
   ·subst h; simp [beq_yes, hk]
   ·simp [beq_no h]
theorem lookB_wipe (q : Nat → Bool) (j : Nat) (l : List (Nat × BX)) : lookB j (wipeB q l) = if q j then none else (lookB j l).map (Blk.wipe q) := by
 unfold lookB; rw [lookX_wipe]; split
 ·rfl
 ·simp only [Option.map_map]; congr 1; funext b; exact BX.blk_wipe q b
theorem frOf_wipe (q : Nat → Bool) (f : TT × Nat) : frOf (f.1.map (D.wipe q), f.2) = (frOf f).wipe q := by
 simp only [frOf, Fr.wipe]
 congr 1
 funext t
 exact TT.get_map rfl _ _
theorem abs_wipe (c : Cf) (q : Nat → Bool) : (c.wipe q).abs = c.abs.wipe q := by
 simp only [Cf.wipe, Cf.abs, Cs.abs, St.wipe, List.map_map]
 congr 1
 ·exact frOf_wipe q (c.tm, c.nt)
 ·congr 1
  funext f
  exact frOf_wipe q f
 ·funext j
  exact lookB_wipe q j c.bk
def wipeS (los : List Nat) (c : Cf) : Cf := match los with
 | [] => c
 | lo :: l => c.wipe (inSites (lo :: l))
def clearS (los : List Nat) (d : D) : Bool := match los with
 | [] => true
 | lo :: l => D.clear (inSites (lo :: l)) d
def clearSL (los : List Nat) : List D → Bool
 | [] => true
 | d :: ds => clearS los d && clearSL los ds
def sepC (c : Cf) (tgt : List Nat) (S : List Nat) (o : Oper) (told : List Nat) : Bool := S.all fun j =>
 o.op.operands.toList.all (fun y => D.clear (Nat.beq (tgt.getD j 0)) (evalC c.toCs y)) && !(told.contains (tgt.getD j 0))
def blockOf : D → Nat
 | .ptr id _ => id
 | .pel id _ _ _ => id
 | _ => 0
def tgtAt (P : Program) (R : Array Oper) (c : Cf) (k : Nat) : Nat := bif uB P R k then match R[k]? with
  | some o => match o.op with
   | .store _ ad _ => blockOf (evalC c.toCs ad)
   | _ => 0
  | none => 0
 else 0
abbrev sG (P : Program) (R : Array Oper) (tgt : List Nat) (k : Nat) : List Nat := sL P R k ++ gL P R tgt k
/-- The row that an append will grow. -/
def appAt (R : Array Oper) (k : Nat) : Bool := makesAt R k && (match R[k]? with
 | some o => match o.op with
  | .call ⟨.builtin .append, _, _⟩ => true
  | _ => false
 | none => false)
def appTgt (R : Array Oper) (E : List Oper → Cf → Option (Ex × Cf)) (c : Cf) (k : Nat) : Nat := bif appAt R k then match R[k]? with
  | some o => match o.op.operands.toList with
   | s :: _ => match E (R.toList.take k) c with
    | some (_, c1) => match evalC c1.toCs s with
     | .sl i _ _ _ => i
     | _ => 0
    | none => 0
   | [] => 0
  | none => 0
 else 0
/-- Where the stores will go: found by a first run in the order of the text. -/
def tgtsOf (P : Program) (R : Array Oper) (E : List Oper → Cf → Option (Ex × Cf)) (c : Cf) : List Nat :=
 bif (List.range R.size).any (uB P R) then match E R.toList c with
  | some (_, c1) => (List.range R.size).map fun k => bif appAt R k then appTgt R E c k else tgtAt P R c1 k
  | none => []
 else bif (List.range R.size).any (appAt R) then (List.range R.size).map (appTgt R E c) else []
def putNewC (c : Cf) (id : Nat) : List BX → Cf
 | [] => c
 | b :: bs => putNewC (c.setB id b) (id + 1) bs
def clearBX (los : List Nat) : BX → Bool
 | .cells cs _ => clearSL los cs
 | .row _ _ => true
def clearBXs (los : List Nat) : List BX → Bool
 | [] => true
 | b :: bs => clearBX los b && clearBXs los bs
def freshB : D → Bool
 | .emp => true
 | .v _ => true
 | _ => false
/-- A decision: whence on the truth value is known. -/
def decideX (c : Cf) (t : Nat) (b : Bool) : Option (Bool × Cf) :=
 match c.todo with
 | .c 0 :: p => some (b, { c with todo := p })
 | .c (n + 1) :: p => some (b, { c with todo := .c n :: p })
 | .d v :: p => some (v, { c with tm := c.tm.set (.v (.bool v)) (path t), todo := p, cds := (b = v) :: c.cds })
 | _ => none
theorem decideX_spec {c c' : Cf} {t : Nat} {b v : Bool} (hb : c.get t = .v (.bool b)) (h : decideX c t b = some (v, c')) (hl : AllP c'.cds) : b = v ∧ AllP c.cds ∧ c'.abs = c.abs := by
 unfold decideX at h
 split at h
 ·simp only [Option.some.injEq, Prod.mk.injEq] at h; obtain ⟨rfl, rfl⟩ := h; exact ⟨rfl, hl, rfl⟩
 ·simp only [Option.some.injEq, Prod.mk.injEq] at h; obtain ⟨rfl, rfl⟩ := h; exact ⟨rfl, hl, rfl⟩
 ·simp only [Option.some.injEq, Prod.mk.injEq] at h; obtain ⟨rfl, rfl⟩ := h
  obtain ⟨h1, h2⟩ := hl
  refine ⟨h1, h2, ?_⟩
  simp only [Cf.abs, Cs.abs]
  congr 1
  simp only [frOf]
  congr 1
  funext i
  rw [TT.get_set]
  split
  next e => rw [e, ← h1]; exact hb.symm
  next => rfl
 ·cases h
/-- Is an operation wanted? -/
def wantedX (R : Array Oper) (o : Oper) (c : Cf) : Option (Bool × Cf) :=
 match o.guard with
 | none => some (true, c)
 | some (j, want) => match (R[j]?).bind (·.dst) with
  | none => some (false, c)
  | some t => match c.get t with
   | .v (.bool b) => match decideX c t b with
    | none => none
    | some (v, c') => some (v == want, c')
   | .v _ => some (false, c)
   | _ => none
theorem wantedX_spec {R : Array Oper} {o : Oper} {c c' : Cf} {v : Bool} (h : wantedX R o c = some (v, c')) (hl : AllP c'.cds) : AllP c.cds ∧ c'.abs = c.abs ∧ wantedD R o c.abs = some v := by
 unfold wantedX at h
 unfold wantedD
 split at h
 next hg => simp only [Option.some.injEq, Prod.mk.injEq] at h; obtain ⟨rfl, rfl⟩ := h; rw [hg]; exact ⟨hl, rfl, rfl⟩
 next j want hg =>
  rw [hg]
  simp only []
  split at h
  next hd => simp only [Option.some.injEq, Prod.mk.injEq] at h; obtain ⟨rfl, rfl⟩ := h; rw [hd]; exact ⟨hl, rfl, rfl⟩
  next t hd =>
   rw [hd]
   simp only []
   have ht : c.abs.fr.tm t = c.get t := rfl
   rw [ht]
   split at h
   next b hb =>
    split at h
    ·cases h
    next v' c1 h1 =>
     simp only [Option.some.injEq, Prod.mk.injEq] at h; obtain ⟨rfl, rfl⟩ := h
     obtain ⟨rfl, k1, k2⟩ := decideX_spec hb h1 hl
     exact ⟨k1, k2, by rw [hb]; rfl⟩
   next x hx hb =>
    simp only [Option.some.injEq, Prod.mk.injEq] at h; obtain ⟨rfl, rfl⟩ := h
    refine ⟨hl, rfl, ?_⟩
    rw [hb]
    show truthV want x = some false
    unfold truthV
    split
    ·exact absurd rfl (hx _)
    ·rfl
   ·cases h
/-- An append to a row, of no order. -/
def quietGrow (P : Program) (R : Array Oper) (dep : Nat) (tgt : List Nat) (k : Nat) (o : Oper) (c : Cf) : Option Cf :=
 match o.op with
 | .call ⟨.builtin .append, ⟨[s, x]⟩, ts⟩ => bif growAt R tgt k then match rowGrow P c ts.toList (evalC c.toCs s) (evalC c.toCs x) with
  | some (i, n, size, es, l) => bif makesAt R k && (Nat.beq i (tgt.getD k 0) && (clearS (othersAt R dep k) (.sl (siteAt R dep k) 0 (n + 1) ⟨size, 0⟩) && sepC c tgt (sG P R tgt k) o [])) then
    some ((((c.delB i).setB (siteAt R dep k) (.row es false)).put o.dst (.sl (siteAt R dep k) 0 (n + 1) ⟨size, 0⟩)).owe l) else none
  | none => none
  else none
 | _ => none
/-- A step that is one of no order. -/
def quietOld (P : Program) (X : Contracts) (R : Array Oper) (dep : Nat) (tgt : List Nat) (k : Nat) (o : Oper) (c : Cf) : Option Cf :=
 match callParts o.op with
 | none => match opY P c.bk (evalC c.toCs) o.type o.op with
  | some (.val d, l) => bif Nat.ble (kindOf P o.op) 1 && (clearS (othersAt R dep k) d && (Nat.beq (kindOf P o.op) 0 || sepC c tgt (sG P R tgt k) o [])) then some ((c.put o.dst d).owe l) else none
  | some (.box cs, l) => bif Nat.ble (kindOf P o.op) 1 && (makesAt R k && (clearSL (siteAt R dep k :: othersAt R dep k) cs && (clearS (othersAt R dep k) (.ptr (siteAt R dep k) 0) && sepC c tgt (sG P R tgt k) o []))) then some (((c.setB (siteAt R dep k) (.cells cs false)).put o.dst (.ptr (siteAt R dep k) 0)).owe l) else none
  | some (.row cs n sz, l) => bif Nat.ble (kindOf P o.op) 1 && (makesAt R k && (clearSL (siteAt R dep k :: othersAt R dep k) cs && (clearS (othersAt R dep k) (.sl (siteAt R dep k) 0 n ⟨sz, 0⟩) && sepC c tgt (sG P R tgt k) o []))) then some (((c.setB (siteAt R dep k) (.cells cs false)).put o.dst (.sl (siteAt R dep k) 0 n ⟨sz, 0⟩)).owe l) else none
  | some (.app s sz m ds, l) => bif freshB s && (Nat.ble (kindOf P o.op) 1 && (makesAt R k && (clearSL (siteAt R dep k :: othersAt R dep k) ds && (clearS (othersAt R dep k) (.sl (siteAt R dep k) 0 m ⟨sz, 0⟩) && sepC c tgt (sG P R tgt k) o [])))) then some (((c.setB (siteAt R dep k) (.cells ds false)).put o.dst (.sl (siteAt R dep k) 0 m ⟨sz, 0⟩)).owe l) else none
  | some (.row0, l) => bif Nat.ble (kindOf P o.op) 1 && sepC c tgt (sG P R tgt k) o [] then some ((c.put o.dst .emp).owe l) else none
  | some (.sto i off ds, l) => bif Nat.beq (kindOf P o.op) 2 && (clearSL (othersAt R dep k) ds && (!(uB P R k) || Nat.beq i (tgt.getD k 0))) then (match stepC c o.dst 0 (.sto i off ds) with | some c' => some (c'.owe l) | none => none) else none
  | some (.cpy i off ds n, l) => bif Nat.beq (kindOf P o.op) 4 && clearSL (othersAt R dep k) ds then (match stepC c o.dst 0 (.cpy i off ds n) with | some c' => some (c'.owe l) | none => none) else none
  | _ => none
 | some (fo, args) => match evalC c.toCs fo with
  | .fn f caps => match bodyOf P f with
   | none => match caps, D.plains (args.toList.map (evalC c.toCs)) with
    | [], some vs => match extX P X f vs with
     | some (u, l) => bif clearS (othersAt R dep k) (D.ofV u) && sepC c tgt (sG P R tgt k) o [] then some ((c.put o.dst (D.ofV u)).owe l) else none
     | none => none
    | _, _ => none
   | some _ => match callOf X f with
    | none => none
    | some g => match shareAllX (shareX c.bk depth) (args.toList.map (evalC c.toCs) ++ caps) with
     | none => none
     | some (as, passed, l) => match g as with
      | none => none
      | some (res, l') => bif makesAt R k && (clearS (othersAt R dep k) (thawX (siteAt R dep k) res).1 && (clearBXs (siteAt R dep k :: othersAt R dep k) (thawX (siteAt R dep k) res).2 && (Nat.ble (thawX (siteAt R dep k) res).2.length 32 && sepC c tgt (sG P R tgt k) o passed))) then
        some (((putNewC (bif flat res then c else c.markRo passed) (siteAt R dep k) (thawX (siteAt R dep k) res).2).put o.dst (thawX (siteAt R dep k) res).1).owe (l ++ l')) else none
  | _ => none
/-- A store into an element of a row, of no order. -/
def quietStore (P : Program) (R : Array Oper) (dep : Nat) (tgt : List Nat) (k : Nat) (o : Oper) (c : Cf) : Option Cf :=
 match o.op with
 | .store t a x => match evalC c.toCs a, (evalC c.toCs x).cells with
  | .pel id _ _ _, some ds => bif Nat.beq (kindOf P o.op) 2 && (clearSL (othersAt R dep k) ds && (!(uB P R k) || Nat.beq id (tgt.getD k 0))) then (match rowStore P c o.dst t (evalC c.toCs a) (evalC c.toCs x) with | some (c', l) => some (c'.owe l) | none => none) else none
  | _, _ => none
 | _ => none
/-- An append to nothing, of no order. -/
def quietApp (P : Program) (R : Array Oper) (dep : Nat) (tgt : List Nat) (k : Nat) (o : Oper) (c : Cf) : Option Cf :=
 match o.op with
 | .call ⟨.builtin .append, ⟨[s, x]⟩, ts⟩ => match rowFresh P c ts.toList (evalC c.toCs s) (evalC c.toCs x) with
  | some (m, size, c0, l) => bif makesAt R k && (clearS (othersAt R dep k) (.sl (siteAt R dep k) 0 m ⟨size, 0⟩) && sepC c tgt (sG P R tgt k) o []) then
    some (((c.setB (siteAt R dep k) (.row c0 false)).put o.dst (.sl (siteAt R dep k) 0 m ⟨size, 0⟩)).owe l) else none
  | none => none
 | _ => none
/-- An append of a row to a slice, of no order. -/
def quietJoin (P : Program) (R : Array Oper) (dep : Nat) (tgt : List Nat) (k : Nat) (o : Oper) (c : Cf) : Option Cf :=
 match o.op with
 | .call ⟨.builtin .append, ⟨[s, x]⟩, ts⟩ => bif growAt R tgt k then match rowJoin P c ts.toList (evalC c.toCs s) (evalC c.toCs x) with
  | some (i, n, m, size, es, l) => bif makesAt R k && (Nat.beq i (tgt.getD k 0) && (clearS (othersAt R dep k) (.sl (siteAt R dep k) 0 (n + m) ⟨size, 0⟩) && sepC c tgt (sG P R tgt k) o [])) then
    some ((((c.delB i).setB (siteAt R dep k) (.row es false)).put o.dst (.sl (siteAt R dep k) 0 (n + m) ⟨size, 0⟩)).owe l) else none
  | none => none
  else none
 | _ => none
def quietOne (P : Program) (X : Contracts) (R : Array Oper) (dep : Nat) (tgt : List Nat) (k : Nat) (o : Oper) (c : Cf) : Option Cf :=
 match quietGrow P R dep tgt k o c with
 | some c' => some c'
 | none => match quietStore P R dep tgt k o c with
  | some c' => some c'
  | none => match quietApp P R dep tgt k o c with
   | some c' => some c'
   | none => match quietJoin P R dep tgt k o c with
    | some c' => some c'
    | none => quietOld P X R dep tgt k o c
def drawOne (P : Program) (X : Contracts) (E : List Oper → Cf → Option (Ex × Cf)) (R : Array Oper) (dep : Nat) (tgt : List Nat) (k : Nat) (o : Oper) (c : Cf) : Option Cf :=
 bif tB R k then match E [o] c with
  | some (.normal, c1) => some (wipeS (othersAt R dep k) c1)
  | _ => none
 else match wantedX R o c with
  | none => none
  | some (false, c1) => some (c1.put o.dst (.v undef))
  | some (true, c1) => quietOne P X R dep tgt k o c1
def drawsGo (P : Program) (X : Contracts) (E : List Oper → Cf → Option (Ex × Cf)) (R : Array Oper) (dep : Nat) (tgt : List Nat) : Nat → List Oper → Cf → Option Cf
 | _, [], c => some c
 | k, o :: l, c => match drawOne P X E R dep tgt k o c with
  | none => none
  | some c' => drawsGo P X E R dep tgt (k + 1) l c'
/-! Loops over functions. -/
def putsC (f : TT × Nat) : List (Tmp × D) → TT × Nat
 | [] => f
 | (t, d) :: l => putsC (f.1.set (bif Nat.blt t f.2 then d else .undef) (path t), f.2) l
theorem frOf_puts : ∀ (ps : List (Tmp × D)) (f : TT × Nat), frOf (putsC f ps) = (frOf f).puts ps
 | [], f => rfl
 | (t, d) :: ps, f => by
  show frOf (putsC _ ps) = ((frOf f).put t d).puts ps
  rw [frOf_puts ps, frOf_set]
theorem get_lf : ∀ p, TT.get p .lf = .undef
 | [] => rfl
 | b :: p => get_lf p
def Cf.round (c : Cf) (f : TT × Nat) (ps : List (Tmp × D)) : Cf := { tm := (putsC f ps).1, nt := (putsC f ps).2, stk := (c.tm, c.nt) :: c.stk, bk := c.bk, loop := c.loop, gen := c.gen, todo := c.todo, cds := c.cds }
theorem abs_round (c : Cf) (f : TT × Nat) (ps : List (Tmp × D)) : (c.round f ps).abs = c.abs.round (frOf f) ps := by
 simp only [Cf.round, Cf.abs, Cs.abs, St.round, List.map_cons]
 congr 1
 exact frOf_puts ps f
def Cf.at (c : Cf) (L : LoopSt) (s : LSt) : Cf := { c with loop := some { L with state := s } }
def Cf.ranged (c : Cf) (ps : Array Tmp) (assign body : Code) (caps : List D) (nt : Nat) : Cf :=
  { tm := TT.mk (initD (.yld :: caps) ((.yld :: caps).length + (nt - (.yld :: caps).length))) ((.yld :: caps).length + (nt - (.yld :: caps).length) + 1) 0 1, nt := (.yld :: caps).length + (nt - (.yld :: caps).length),
    stk := ((c.forget yldId).tm, (c.forget yldId).nt) :: (.lf, 1) :: (c.forget yldId).stk, bk := (c.forget yldId).bk, loop := some { ps := ps, assign := assign, body := body, depth := c.stk.length + 2, state := .ready }, gen := c.gen, todo := c.todo, cds := c.cds }
theorem abs_ranged (c : Cf) (ps : Array Tmp) (assign body : Code) (caps : List D) (nt : Nat) : (c.ranged ps assign body caps nt).abs = c.abs.ranged ps assign body caps nt := by
 have h := abs_forget c yldId
 have h1 := congrArg St.fr h
 have h2 := congrArg St.stk h
 have h3 := congrArg St.bk h
 simp only [Cf.ranged, St.ranged, ← h1, ← h2, ← h3]
 simp only [Cf.abs, Cs.abs, List.map_cons]
 congr 1
 ·exact frOf_mk _ _
 ·congr 2
  simp only [frOf, ghost, get_lf]
 ·simp
end
end Go.Dam
end
