/- The engine: an abstract machine for the program's functions, proved right against the model. No condition. -/
import Derived.Test.YtnmgcibopkdijaaDamXB
set_option linter.unusedSectionVars false
set_option linter.unusedVariables false
set_option linter.unusedSimpArgs false
section
namespace Go.Dam
open Go Go.RowKit
set_option linter.unusedSectionVars false
variable [Glo]
set_option linter.unusedSimpArgs false
set_option linter.unusedVariables false

theorem flatMap_get (g : Nat → List D) (m : Nat) (hg : ∀ i, (g i).length = m) : ∀ (n i j : Nat), i < n → j < m → ((List.range n).flatMap g)[i * m + j]? = (g i)[j]?
  | 0, i, j, h, _ => by omega
  | n + 1, i, j, h, hj => by
    have hl : ∀ n, ((List.range n).flatMap g).length = n * m := fun n => by
      rw [List.length_flatMap]; simp only [hg]; simp [List.map_const']
    rw [List.range_succ, List.flatMap_append]
    simp only [List.flatMap_cons, List.flatMap_nil, List.append_nil]
    by_cases hi : i < n
    · have : i * m + j < n * m := by
        have : (i + 1) * m ≤ n * m := Nat.mul_le_mul_right m hi
        rw [Nat.add_mul] at this; omega
      rw [List.getElem?_append_left (by rw [hl]; exact this)]
      exact flatMap_get g m hg n i j hi hj
    · obtain rfl : i = n := by omega
      rw [List.getElem?_append_right (by rw [hl]; omega), hl]
      congr 1; omega

theorem rowCells0_get {cols : List Col0} {i j : Nat} {c : Col0} (hi : i < rowLen0 cols) (hc : cols[j]? = some c) : (rowCells0 cols)[i * cols.length + j]? = some (.v (c.val i)) := by
  have hj : j < cols.length := (List.getElem?_eq_some_iff.1 hc).1
  unfold rowCells0 rowCells
  rw [rowLen_up]
  rw [flatMap_get _ cols.length (fun i => by simp) _ _ _ hi hj]
  simp only [List.getElem?_map, hc, Option.map_some]
  cases c <;> rfl

theorem rowCells0_length (cols : List Col0) : (rowCells0 cols).length = rowLen0 cols * cols.length := by
  unfold rowCells0; rw [rowCells_length, rowLen_up, List.length_map]

theorem sh_rc (hg : ¬ Live) (cols : List Col0) : Reads (.sh (rowLen0 cols) (rowCells0 cols)) (.rc (cols.map Col0.up)) := fun w A u hr => by
  simp only [RepS] at hr ⊢
  obtain ⟨o, c, rfl, h1, h2, h3⟩ := hr
  refine ⟨o, c, by rw [rowLen_up], fun h => absurd h hg, by rw [rowLen_up]; exact h1, by rw [rowLen_up]; exact fun h => h2 (.inl h), fun i j c' hi hc => ?_⟩
  rw [rowLen_up] at hi
  rw [List.getElem?_map, Option.map_eq_some_iff] at hc
  obtain ⟨c0, hc0, rfl⟩ := hc
  obtain ⟨ad, rfl, h4, _⟩ := h2 (.inl (by omega))
  simp only [Option.getD_some] at h3 ⊢
  obtain ⟨x, k1, k2⟩ := (RepAt.cellsAt (β := fun _ => none) (fun d u h => RepS.rep d u h) h3).get h4 _ _ (rowCells0_get hi hc0)
  simp only [Rep, RepS] at k2
  rw [List.length_map]
  exact ⟨x, k1, by subst k2; cases c0 <;> rfl⟩

noncomputable section

/-- The abstract value with own blocks told as shared content; the blocks that it speaks of; what has to hold. -/
def shareX (bk : List (Nat × BX)) : Nat → D → Option (D × List Nat × List Prop)
  | _, .v x => some (.v x, [], [])
  | _, .emp => some (.emp, [], [])
  | _, .sh n cs => some (.sh n cs, [], [])
  | _, .rc cs => some (.rc cs, [], [])
  | k + 1, .sl id off n sz => match lookX id bk with
    | none => none
    | some (.cells cells _) => if off + n * sz ≤ cells.length then
        match shareAllX (shareX bk k) ((cells.drop off).take (n * sz)) with
        | none => none
        | some (cs, ids, l) => some (.sh n cs, id :: ids, l)
      else none
    | some (.row cols _) => bif Nat.beq off 0 && (Nat.beq sz.s cols.length && !(Glo.walked liveId)) then some (.rc (cols.map Col0.up), [id], [n = rowLen0 cols]) else none
  | k + 1, .agg cs => match shareAllX (shareX bk k) cs with
    | none => none
    | some (ds, ids, l) => some (.agg ds, ids, l)
  | _, .fn f [] => some (.fn f [], [], [])
  | _, _ => none
where
  shareAllX (g : D → Option (D × List Nat × List Prop)) : List D → Option (List D × List Nat × List Prop)
  | [] => some ([], [], [])
  | d :: ds => match g d, shareAllX g ds with
    | some (e, i, l), some (es, is, ls) => some (e :: es, i ++ is, l ++ ls)
    | _, _ => none

abbrev shareAllX := shareX.shareAllX

theorem shareAllX_spec {g : D → Option (D × List Nat × List Prop)} {g' : D → Option (D × List Nat)} (hg : ∀ d e ids l, g d = some (e, ids, l) → AllP l → ∃ e', g' d = some (e', ids) ∧ Reads e' e) :
    ∀ (ds es : List D) (ids : List Nat) (l : List Prop), shareAllX g ds = some (es, ids, l) → AllP l → ∃ es', shareAll g' ds = some (es', ids) ∧ ReadsL es' es
  | [], es, ids, l, h, _ => by
    simp [shareX.shareAllX] at h; obtain ⟨rfl, rfl, rfl⟩ := h
    exact ⟨[], rfl, .nil⟩
  | d :: ds, es, ids, l, h, hl => by
    simp only [shareX.shareAllX] at h
    split at h
    next e i l1 es' is l2 h1 h2 =>
      simp at h; obtain ⟨rfl, rfl, rfl⟩ := h
      rw [AllP_append] at hl
      obtain ⟨e', k1, k2⟩ := hg d e i l1 h1 hl.1
      obtain ⟨es2, k3, k4⟩ := shareAllX_spec hg ds es' is l2 h2 hl.2
      exact ⟨e' :: es2, by simp only [share.shareAll, k1]; rw [show share.shareAll g' ds = some (es2, is) from k3], .cons k2 k4⟩
    · cases h

theorem share_v (bk : Nat → Option Blk) (k : Nat) (x : Value) : share bk k (.v x) = some (.v x, []) := by cases k <;> rfl

theorem shareAll_v (bk : Nat → Option Blk) (k : Nat) : ∀ ds : List D, (∀ d ∈ ds, ∃ x, d = .v x) → shareAll (share bk k) ds = some (ds, [])
  | [], _ => rfl
  | d :: ds, h => by
    obtain ⟨x, rfl⟩ := h d (by simp)
    have ih := shareAll_v bk k ds (fun d hd => h d (by simp [hd]))
    simp only [share.shareAll, share_v]
    rw [show share.shareAll (share bk k) ds = some (ds, []) from ih]
    rfl

theorem shareX_spec {bk : List (Nat × BX)} : ∀ (k : Nat) (d e : D) (ids : List Nat) (l : List Prop), shareX bk k d = some (e, ids, l) → AllP l → ∃ e', share (fun i => lookB i bk) k d = some (e', ids) ∧ Reads e' e := by
  intro k
  induction k with
  | zero =>
    intro d e ids l h hl
    cases d with
    | v x => simp only [shareX, Option.some.injEq, Prod.mk.injEq] at h; obtain ⟨rfl, rfl, rfl⟩ := h; exact ⟨_, by simp only [share], .refl _⟩
    | emp => simp only [shareX, Option.some.injEq, Prod.mk.injEq] at h; obtain ⟨rfl, rfl, rfl⟩ := h; exact ⟨_, by simp only [share], .refl _⟩
    | sh n cs => simp only [shareX, Option.some.injEq, Prod.mk.injEq] at h; obtain ⟨rfl, rfl, rfl⟩ := h; exact ⟨_, by simp only [share], .refl _⟩
    | rc cs => simp only [shareX, Option.some.injEq, Prod.mk.injEq] at h; obtain ⟨rfl, rfl, rfl⟩ := h; exact ⟨_, by simp only [share], .refl _⟩
    | fn f cs =>
      cases cs with
      | nil => simp only [shareX, Option.some.injEq, Prod.mk.injEq] at h; obtain ⟨rfl, rfl, rfl⟩ := h; exact ⟨_, by simp only [share], .refl _⟩
      | cons _ _ => simp [shareX] at h
    | _ => simp [shareX] at h
  | succ k ih =>
    intro d e ids l h hl
    cases d with
    | v x => simp only [shareX, Option.some.injEq, Prod.mk.injEq] at h; obtain ⟨rfl, rfl, rfl⟩ := h; exact ⟨_, by simp only [share], .refl _⟩
    | emp => simp only [shareX, Option.some.injEq, Prod.mk.injEq] at h; obtain ⟨rfl, rfl, rfl⟩ := h; exact ⟨_, by simp only [share], .refl _⟩
    | sh n cs => simp only [shareX, Option.some.injEq, Prod.mk.injEq] at h; obtain ⟨rfl, rfl, rfl⟩ := h; exact ⟨_, by simp only [share], .refl _⟩
    | rc cs => simp only [shareX, Option.some.injEq, Prod.mk.injEq] at h; obtain ⟨rfl, rfl, rfl⟩ := h; exact ⟨_, by simp only [share], .refl _⟩
    | fn f cs =>
      cases cs with
      | nil => simp only [shareX, Option.some.injEq, Prod.mk.injEq] at h; obtain ⟨rfl, rfl, rfl⟩ := h; exact ⟨_, by simp only [share], .refl _⟩
      | cons _ _ => simp [shareX] at h
    | agg cs =>
      simp only [shareX] at h
      split at h
      · cases h
      next ds is l' h1 =>
        simp at h; obtain ⟨rfl, rfl, rfl⟩ := h
        obtain ⟨es', k1, k2⟩ := shareAllX_spec (fun d e ids l h hl => ih d e ids l h hl) cs ds is l' h1 hl
        exact ⟨.agg es', by simp only [share]; rw [show share.shareAll (share _ k) cs = some (es', is) from k1], k2.agg⟩
    | sl id off n sz =>
      simp only [shareX] at h
      split at h
      · cases h
      next cells ro hb =>
        split at h
        next hle =>
          split at h
          · cases h
          next cs is l' h1 =>
            simp at h; obtain ⟨rfl, rfl, rfl⟩ := h
            obtain ⟨es', k1, k2⟩ := shareAllX_spec (fun d e ids l h hl => ih d e ids l h hl) _ cs is l' h1 hl
            exact ⟨.sh n es', by simp only [share, lookB_cells hb]; rw [if_pos hle, show share.shareAll (share _ k) _ = some (es', is) from k1], k2.sh n⟩
        · cases h
      next cols ro hb =>
        simp only [cond_eq_ite] at h
        split at h
        next hc =>
          simp only [Bool.and_eq_true, Bool.not_eq_true'] at hc
          simp only [Option.some.injEq, Prod.mk.injEq] at h; obtain ⟨rfl, rfl, rfl⟩ := h
          obtain rfl := Nat.eq_of_beq_eq_true hc.1
          have hsz := Nat.eq_of_beq_eq_true hc.2.1
          have hg : ¬ Live := fun q => by have := hc.2.2; rw [q] at this; cases this
          simp only [AllP, and_true] at hl
          subst hl
          have hlb : lookB id bk = some ⟨rowCells0 cols, ro⟩ := by unfold lookB; rw [hb]; rfl
          have hlen := rowCells0_length cols
          refine ⟨.sh (rowLen0 cols) (rowCells0 cols), ?_, sh_rc hg cols⟩
          simp only [share, hlb]
          rw [if_pos (by rw [hlen, hsz]; omega), List.drop_zero, List.take_of_length_le (by rw [hlen, hsz]; exact Nat.le_refl _), show share.shareAll (share _ k) _ = some (rowCells0 cols, []) from shareAll_v _ k _ fun d hd => rowCells0_v hd]
        · cases h
    | _ => simp [shareX] at h

mutual
/-- Fresh slices become blocks, with names from 'id' on. -/
def thawX (id : Nat) : D → D × List BX
  | .ow n sz cs => (.sl id 0 n ⟨sz, 0⟩, [.cells cs false])
  | .oc cs => (.sl id 0 (rowLen0 cs) ⟨cs.length, 0⟩, [.row cs false])
  | .agg cs => (.agg (thawXL id cs).1, (thawXL id cs).2)
  | .tup cs => (.tup (thawXL id cs).1, (thawXL id cs).2)
  | d => (d, [])
def thawXL (id : Nat) : List D → List D × List BX
  | [] => ([], [])
  | d :: ds => ((thawX id d).1 :: (thawXL (id + (thawX id d).2.length) ds).1, (thawX id d).2 ++ (thawXL (id + (thawX id d).2.length) ds).2)
end

mutual
theorem thawX_spec : ∀ (d : D) (id : Nat), (thawX id d).1 = (thaw id d).1 ∧ (thawX id d).2.map BX.blk = (thaw id d).2.map fun cs => ⟨cs, false⟩
  | .ow n sz cs, id => by simp [thawX, thaw, BX.blk]
  | .oc cs, id => by simp [thawX, thaw, BX.blk]
  | .agg cs, id => by have := thawXL_spec cs id; simp only [thawX, thaw, this.1, true_and]; exact this.2
  | .tup cs, id => by have := thawXL_spec cs id; simp only [thawX, thaw, this.1, true_and]; exact this.2
  | .undef, id => by simp [thawX, thaw]
  | .v _, id => by simp [thawX, thaw]
  | .emp, id => by simp [thawX, thaw]
  | .sh _ _, id => by simp [thawX, thaw]
  | .sl _ _ _ _, id => by simp [thawX, thaw]
  | .ptr _ _, id => by simp [thawX, thaw]
  | .pel _ _ _ _, id => by simp [thawX, thaw]
  | .shp _ _, id => by simp [thawX, thaw]
  | .fn _ _, id => by simp [thawX, thaw]
  | .yld, id => by simp [thawX, thaw]
  | .rc _, id => by simp [thawX, thaw]
theorem thawXL_spec : ∀ (ds : List D) (id : Nat), (thawXL id ds).1 = (thawL id ds).1 ∧ (thawXL id ds).2.map BX.blk = (thawL id ds).2.map fun cs => ⟨cs, false⟩
  | [], id => by simp [thawXL, thawL]
  | d :: ds, id => by
    have h1 := thawX_spec d id
    have hlen : (thawX id d).2.length = (thaw id d).2.length := by have := congrArg List.length h1.2; simpa using this
    have h2 := thawXL_spec ds (id + (thawX id d).2.length)
    rw [hlen] at h2
    simp only [thawXL, thawL, hlen, h1.1, h2.1, List.map_append, h1.2, h2.2, and_self]
end

def putBlocksX (c : Cf) (id : Nat) : List BX → Cf
  | [] => c
  | b :: bs => putBlocksX ((c.forget id).setB id b) (id + 1) bs

theorem putBlocksX_abs : ∀ (bs : List BX) (cs : List (List D)) (c : Cf) (id : Nat), bs.map BX.blk = cs.map (fun cs => ⟨cs, false⟩) → (putBlocksX c id bs).abs = putBlocks c.abs id cs
  | [], [], _, _, _ => rfl
  | b :: bs, x :: cs, c, id, h => by
    simp only [List.map_cons, List.cons.injEq] at h
    simp only [putBlocksX, putBlocks, putBlocksX_abs bs cs _ _ h.2, abs_setB, abs_forget, h.1]
  | [], _ :: _, _, _, h => by simp at h
  | _ :: _, [], _, _, h => by simp at h

/-- Contracts: what a function answers, and what has to hold for that. -/
inductive Con where
  | call (g : List D → Option (D × List Prop))
  | ext (g : List Value → Option (Value × List Prop))
abbrev Contracts := FuncId → Option Con

structure ConOK (P : Program) (X : Contracts) : Prop where
  call : ∀ f g, X f = some (.call g) → ∀ args res l, g args = some (res, l) → AllP l → CallsD P f args res
  ext : ∀ f g, X f = some (.ext g) → ∀ vs u l, g vs = some (u, l) → AllP l → pureRun P (callFunc f vs.toArray) = some (.value u)

/-- What a function without a body answers. -/
def extX (P : Program) (X : Contracts) (f : FuncId) (vs : List Value) : Option (Value × List Prop) :=
  match X f with
  | some (.ext g) => g vs
  | _ => match pureRun P (callFunc f vs.toArray) with
    | some (.value u) => some (u, [])
    | _ => none

theorem extX_spec {P : Program} {X : Contracts} (hX : ConOK P X) {f : FuncId} {vs : List Value} {u : Value} {l : List Prop} (h : extX P X f vs = some (u, l)) (hl : AllP l) : pureRun P (callFunc f vs.toArray) = some (.value u) := by
  unfold extX at h
  split at h
  next g hg => exact hX.ext f g hg vs u l h hl
  · split at h
    next u' hu => simp only [Option.some.injEq, Prod.mk.injEq] at h; obtain ⟨rfl, rfl⟩ := h; exact hu
    · cases h

def callOf (X : Contracts) (f : FuncId) : Option (List D → Option (D × List Prop)) :=
  match X f with
  | some (.call g) => some g
  | _ => none
theorem callOf_spec {X : Contracts} {f : FuncId} {g : List D → Option (D × List Prop)} (h : callOf X f = some g) : X f = some (.call g) := by
  unfold callOf at h
  split at h
  next g' hg => simp only [Option.some.injEq] at h; subst h; exact hg
  · cases h

def callX (X : List D → Option (D × List Prop)) (c : Cf) (dst : Option Tmp) (id : Nat) (args : List D) : Option Cf :=
  match shareAllX (shareX c.bk depth) args with
  | none => none
  | some (as, passed, l) => match X as with
    | none => none
    | some (res, l') => some (((putBlocksX (bif flat res then c else c.markRo passed) id (thawX id res).2).put dst (thawX id res).1).owe (l ++ l'))

@[simp] theorem cds_put (c : Cf) (dst : Option Tmp) (d : D) : (c.put dst d).cds = c.cds := by cases dst <;> rfl
@[simp] theorem cds_setB (c : Cf) (i : Nat) (b : BX) : (c.setB i b).cds = c.cds := rfl
@[simp] theorem cds_forget (c : Cf) (i : Nat) : (c.forget i).cds = c.cds := rfl
@[simp] theorem cds_ro (c : Cf) (ids : List Nat) : (c.markRo ids).cds = c.cds := rfl
@[simp] theorem cds_owe (c : Cf) (l : List Prop) : (c.owe l).cds = l ++ c.cds := rfl
@[simp] theorem cds_blocks : ∀ (bs : List BX) (c : Cf) (id : Nat), (putBlocksX c id bs).cds = c.cds
  | [], _, _ => rfl
  | b :: bs, c, id => by simp [putBlocksX, cds_blocks bs]

theorem callX_spec {P : Program} {X : List D → Option (D × List Prop)} {f : FuncId} (hX : ∀ args res l, X args = some (res, l) → AllP l → CallsD P f args res) {c c' : Cf} {dst : Option Tmp} {id : Nat} {args : List D}
    (h : callX X c dst id args = some c') (hl : AllP c'.cds) : AllP c.cds ∧ CallD (CallsD P) c.abs dst id f args c'.abs := by
  unfold callX at h
  split at h
  · cases h
  next as passed l h1 =>
    split at h
    · cases h
    next res l' h2 =>
      simp only [Option.some.injEq] at h; subst h
      have hc : AllP (l ++ l' ++ c.cds) := by
        have := hl
        simp only [cds_owe, cds_put, cds_blocks] at this
        cases hf : flat res <;> simpa [hf] using this
      rw [AllP_append, AllP_append] at hc
      obtain ⟨⟨hl1, hl2⟩, hl3⟩ := hc
      obtain ⟨as', k1, k2⟩ := shareAllX_spec (fun d e ids l h hl => shareX_spec depth d e ids l h hl) args as passed l h1 hl1
      refine ⟨hl3, as', passed, res, k1, fun w A vs hv low glo => hX as res l' h2 hl2 w A vs (k2.repL hv) low glo, ?_⟩
      have ht := thawX_spec res id
      rw [abs_owe, abs_put, putBlocksX_abs _ _ _ _ ht.2, ht.1]
      cases flat res <;> simp [abs_ro]
end
end Go.Dam
end

section
namespace Go.Dam
open Go Go.RowKit
set_option linter.unusedSectionVars false
variable [Glo]
set_option linter.unusedSimpArgs false
set_option linter.unusedVariables false
noncomputable section

/-! ### Own rows of unknown length -/

theorem rc0_get {cols : List Col0} (m : Nat) : (rowCells0 cols)[m]? = if m < rowLen0 cols * cols.length then (cols[m % cols.length]?).map (fun c => .v (c.val (m / cols.length))) else none := by
  split
  next h =>
    have hl : 0 < cols.length := by
      rcases Nat.eq_zero_or_pos cols.length with e | e
      · rw [e] at h; simp at h
      · exact e
    have hm : m % cols.length < cols.length := Nat.mod_lt _ hl
    have hd : m / cols.length < rowLen0 cols := by
      rw [Nat.div_lt_iff_lt_mul hl]; exact h
    have hc : cols[m % cols.length]? = some cols[m % cols.length] := List.getElem?_eq_getElem hm
    have := rowCells0_get hd hc
    rw [Nat.mul_comm, Nat.div_add_mod] at this
    rw [this, hc]; rfl
  next h => exact List.getElem?_eq_none (by rw [rowCells0_length]; omega)

theorem divmod {i w j : Nat} (hj : j < w) : (i * w + j) / w = i ∧ (i * w + j) % w = j := by
  have hw : 0 < w := by omega
  constructor
  · rw [Nat.mul_comm, Nat.mul_add_div hw, Nat.div_eq_of_lt hj, Nat.add_zero]
  · rw [Nat.mul_comm, Nat.mul_add_mod, Nat.mod_eq_of_lt hj]

theorem rc0_slice {cols : List Col0} {i j sz : Nat} (hi : i < rowLen0 cols) (hj : j + sz ≤ cols.length) :
    ((rowCells0 cols).drop (i * cols.length + j)).take sz = ((cols.drop j).take sz).map (fun c => D.v (c.val i)) := by
  apply List.ext_getElem?
  intro k
  rw [List.getElem?_take, List.getElem?_map, List.getElem?_take]
  by_cases hk : k < sz
  · rw [if_pos hk, if_pos hk, List.getElem?_drop, List.getElem?_drop]
    have hjk : j + k < cols.length := by omega
    have hc : cols[j + k]? = some cols[j + k] := List.getElem?_eq_getElem hjk
    rw [Nat.add_assoc, rowCells0_get hi hc, hc]; rfl
  · rw [if_neg hk, if_neg hk]; rfl

/-- Is it so? (of lengths that are terms) -/
def Col0.setAt (i : Nat) (d : D) : Col0 → Option Col0
  | .ints k xs => match d with
    | .v (.int k' n) => if k' = k then some (.ints k (xs.set i n)) else none
    | _ => none
  | .bools xs => match d with
    | .v (.bool b) => some (.bools (xs.set i b))
    | _ => none
/-- Cells put into an element's columns. -/
def setCols (i : Nat) : List Col0 → Nat → List D → Option (List Col0)
  | cs, _, [] => some cs
  | c :: cs, 0, d :: ds => match c.setAt i d, setCols i cs 0 ds with
    | some c', some cs' => some (c' :: cs')
    | _, _ => none
  | c :: cs, j + 1, d :: ds => match setCols i cs j (d :: ds) with
    | some cs' => some (c :: cs')
    | none => none
  | [], _, _ :: _ => none
/-- The lengths of the columns that are written. -/
def lensOf (n : Nat) : List Col0 → List Prop
  | [] => []
  | c :: cs => (c.len = n) :: lensOf n cs
theorem lensOf_all {n : Nat} : ∀ {cs : List Col0}, AllP (lensOf n cs) → ∀ c ∈ cs, c.len = n
  | [], _, _, h => by cases h
  | c :: cs, h, c', hc => by
    obtain ⟨h1, h2⟩ := h
    rcases List.mem_cons.1 hc with rfl | hc
    · exact h1
    · exact lensOf_all h2 c' hc
theorem setAt_val {i : Nat} {d : D} {c c' : Col0} (h : c.setAt i d = some c') (hi : i < c.len) : c'.len = c.len ∧ (∀ k, D.v (c'.val k) = if k = i then d else D.v (c.val k)) := by
  cases c with
  | ints k xs =>
    simp only [Col0.setAt] at h
    split at h
    · split at h
      next e =>
        simp at h; subst h; subst e
        refine ⟨by simp [Col0.len], fun m => ?_⟩
        simp only [Col0.val, List.getD_eq_getElem?_getD, List.getElem?_set]
        by_cases em : m = i
        · subst em; simp only [Col0.len] at hi; simp [hi]
        · rw [if_neg em, if_neg (Ne.symm em)]
      · cases h
    · cases h
  | bools xs =>
    simp only [Col0.setAt] at h
    split at h
    · simp at h; subst h
      refine ⟨by simp [Col0.len], fun m => ?_⟩
      simp only [Col0.val, List.getD_eq_getElem?_getD, List.getElem?_set]
      by_cases em : m = i
      · subst em; simp only [Col0.len] at hi; simp [hi]
      · rw [if_neg em, if_neg (Ne.symm em)]
    · cases h
theorem setCols_spec {i n : Nat} : ∀ {cs : List Col0} {j : Nat} {ds : List D} {cs' : List Col0}, setCols i cs j ds = some cs' → (∀ c ∈ cs, c.len = n) → i < n →
    cs'.length = cs.length ∧ (∀ c ∈ cs', c.len = n) ∧ j + ds.length ≤ cs.length + (if ds = [] then j else 0) ∧
      ∀ (b k : Nat) (c' : Col0), cs'[b]? = some c' → ∃ c, cs[b]? = some c ∧ D.v (c'.val k) = if k = i ∧ j ≤ b ∧ b < j + ds.length then ds.getD (b - j) .undef else D.v (c.val k)
  | cs, j, [], cs', h, hl, hi => by
    simp [setCols] at h; subst h
    refine ⟨rfl, hl, by simp, fun b k c' hb => ⟨c', hb, ?_⟩⟩
    rw [if_neg (by simp)]
  | [], _, _ :: _, _, h, _, _ => by simp [setCols] at h
  | c :: cs, 0, d :: ds, cs', h, hl, hi => by
    simp only [setCols] at h
    split at h
    next c1 cs1 h1 h2 =>
      simp at h; subst h
      obtain ⟨a1, a2⟩ := setAt_val h1 (by rw [hl c (by simp)]; exact hi)
      obtain ⟨b1, b2, b3, b4⟩ := setCols_spec h2 (fun c hc => hl c (by simp [hc])) hi
      refine ⟨by simp [b1], fun c' hc => ?_, ?_, fun b k c' hb => ?_⟩
      · rcases List.mem_cons.1 hc with rfl | hc
        · rw [a1]; exact hl c (by simp)
        · exact b2 c' hc
      · rw [if_neg (by simp)]
        simp only [List.length_cons]
        split at b3 <;> omega
      · cases b with
        | zero =>
          simp at hb; subst hb
          refine ⟨c, rfl, ?_⟩
          rw [a2 k]
          by_cases ek : k = i
          · rw [if_pos ek, if_pos ⟨ek, by omega, by simp⟩]; simp
          · rw [if_neg ek, if_neg (fun e => ek e.1)]
        | succ b =>
          simp at hb
          obtain ⟨c2, k1, k2⟩ := b4 b k c' hb
          refine ⟨c2, by simpa using k1, ?_⟩
          rw [k2]
          by_cases ek : k = i ∧ b < ds.length
          · rw [if_pos ⟨ek.1, by omega, by omega⟩, if_pos ⟨ek.1, by omega, by simp; omega⟩]
            simp
          · rw [if_neg (fun e => ek ⟨e.1, by omega⟩), if_neg (fun e => ek ⟨e.1, by simp at e; omega⟩)]
    · cases h
  | c :: cs, j + 1, d :: ds, cs', h, hl, hi => by
    simp only [setCols] at h
    split at h
    next cs1 h2 =>
      simp at h; subst h
      obtain ⟨b1, b2, b3, b4⟩ := setCols_spec h2 (fun c hc => hl c (by simp [hc])) hi
      refine ⟨by simp [b1], fun c' hc => ?_, ?_, fun b k c' hb => ?_⟩
      · rcases List.mem_cons.1 hc with rfl | hc
        · exact hl c' (by simp)
        · exact b2 c' hc
      · rw [if_neg (by simp)] at b3 ⊢
        simp only [List.length_cons] at b3 ⊢
        omega
      · cases b with
        | zero =>
          simp at hb; subst hb
          refine ⟨c, rfl, ?_⟩
          rw [if_neg (by omega)]
        | succ b =>
          simp at hb
          obtain ⟨c2, k1, k2⟩ := b4 b k c' hb
          refine ⟨c2, by simpa using k1, ?_⟩
          rw [k2]
          by_cases ek : k = i ∧ j ≤ b ∧ b < j + (d :: ds).length
          · rw [if_pos ek, if_pos ⟨ek.1, by omega, by omega⟩]
            congr 1; omega
          · rw [if_neg ek, if_neg (fun e => ek ⟨e.1, by omega, by omega⟩)]
    · cases h
theorem rowLen0_of {n : Nat} : ∀ {cs : List Col0}, cs ≠ [] → (∀ c ∈ cs, c.len = n) → rowLen0 cs = n
  | [], h, _ => absurd rfl h
  | c :: cs, _, h => h c (by simp)
theorem setCols_cells {i n j : Nat} {cs cs' : List Col0} {ds : List D} (hne : cs ≠ []) (h : setCols i cs j ds = some cs') (hl : ∀ c ∈ cs, c.len = n) (hi : i < n) (hd : j + ds.length ≤ cs.length) :
    rowCells0 cs' = splice (rowCells0 cs) (i * cs.length + j) ds := by
  obtain ⟨h1, h2, _, h4⟩ := setCols_spec h hl hi
  have hne' : cs' ≠ [] := fun e => hne (List.length_eq_zero_iff.1 (by rw [← h1, e]; rfl))
  have e1 := rowLen0_of hne hl
  have e2 := rowLen0_of hne' h2
  have hw : 0 < cs.length := List.length_pos_iff.2 hne
  have hlen : i * cs.length + j + ds.length ≤ (rowCells0 cs).length := by
    rw [rowCells0_length, e1]
    have : (i + 1) * cs.length ≤ n * cs.length := Nat.mul_le_mul_right _ hi
    rw [Nat.add_mul, Nat.one_mul] at this
    omega
  apply List.ext_getElem?
  intro m
  rw [splice_get hlen, rc0_get, rc0_get, e1, e2, h1]
  by_cases hm : m < n * cs.length
  · rw [if_pos hm, if_pos hm]
    have hb : m % cs.length < cs.length := Nat.mod_lt _ hw
    have hc : cs'[m % cs.length]? = some (cs'[m % cs.length]'(by rw [h1]; exact hb)) := List.getElem?_eq_getElem _
    obtain ⟨c, k1, k2⟩ := h4 (m % cs.length) (m / cs.length) _ hc
    rw [hc, k1]
    simp only [Option.map_some, k2]
    have hdm := Nat.div_add_mod m cs.length
    by_cases ek : m / cs.length = i ∧ j ≤ m % cs.length ∧ m % cs.length < j + ds.length
    · obtain ⟨x1, x2, x3⟩ := ek
      rw [x1, Nat.mul_comm] at hdm
      rw [if_pos ⟨x1, x2, x3⟩, if_pos (by omega)]
      rw [show m - (i * cs.length + j) = m % cs.length - j by omega]
      rw [List.getD_eq_getElem?_getD, List.getElem?_eq_getElem (by omega)]
      rfl
    · rw [if_neg ek, if_neg ?_]
      rintro ⟨y1, y2⟩
      apply ek
      have hq : m / cs.length = i := by
        apply Nat.div_eq_of_lt_le
        · omega
        · rw [Nat.add_mul, Nat.one_mul]; omega
      rw [hq, Nat.mul_comm] at hdm
      exact ⟨hq, by omega, by omega⟩
  · rw [if_neg hm, if_neg hm, if_neg ?_]
    rintro ⟨y1, y2⟩
    rw [rowCells0_length, e1] at hlen
    omega
end
end Go.Dam
end

section
namespace Go.Dam
open Go Go.RowKit
set_option linter.unusedSectionVars false
variable [Glo]
set_option linter.unusedSimpArgs false
set_option linter.unusedVariables false
noncomputable section

theorem infoD_some {P : Program} {t : TypeId} {sz : Nat} {d : TypeDesc} (h : infoD P t = some (sz, d)) : ∃ i, P.info? t = some i ∧ i.size = sz ∧ P.underlying t = some d := by
  unfold infoD at h
  split at h
  next i d' h1 h2 => simp at h; obtain ⟨rfl, rfl⟩ := h; exact ⟨i, h1, rfl, h2⟩
  · cases h

/-- Cells of an element, read. -/
def rowTake (P : Program) (t : TypeId) (cols : List Col0) (i w j : Nat) : Option (D × List Prop) :=
  match infoD P t with
  | none => none
  | some (sz, d) => bif Nat.beq w cols.length then
      bif aggD d then (bif Nat.blt 0 sz && Nat.ble (j + sz) cols.length then some (.agg (((cols.drop j).take sz).map (fun c => D.v (c.val i))), [i < rowLen0 cols]) else none)
      else match cols[j]? with
        | some c => some (.v (c.val i), [i < rowLen0 cols])
        | none => none
    else none
theorem rowTake_spec {P : Program} {t : TypeId} {cols : List Col0} {i w j : Nat} {d : D} {l : List Prop} (h : rowTake P t cols i w j = some (d, l)) (hl : AllP l) : takeD P t (rowCells0 cols) (i * w + j) = some d := by
  unfold rowTake at h
  unfold takeD
  split at h
  · cases h
  next sz td hi =>
    simp only [cond_eq_ite] at h
    rw [hi]
    simp only []
    split at h
    next hw =>
      obtain rfl := Nat.eq_of_beq_eq_true hw
      split at h
      next ha =>
        split at h
        next hb =>
          simp only [Option.some.injEq, Prod.mk.injEq] at h; obtain ⟨rfl, rfl⟩ := h
          simp only [Bool.and_eq_true] at hb
          have b1 : 0 < sz := by have := hb.1; simpa [Nat.blt_eq] using this
          have b2 : j + sz ≤ cols.length := Nat.le_of_ble_eq_true hb.2
          have hlt : i < rowLen0 cols := hl.1
          rw [if_pos ha]
          rw [if_pos ⟨b1, by
            rw [rowCells0_length]
            have : (i + 1) * cols.length ≤ rowLen0 cols * cols.length := Nat.mul_le_mul_right _ hlt
            rw [Nat.add_mul, Nat.one_mul] at this
            omega⟩, rc0_slice hlt b2]
        · cases h
      next ha =>
        rw [if_neg ha]
        split at h
        next c hc =>
          simp only [Option.some.injEq, Prod.mk.injEq] at h; obtain ⟨rfl, rfl⟩ := h
          exact rowCells0_get hl.1 hc
        · cases h
    · cases h

theorem rowCells0_one {cols : List Col0} : (rowCells0 cols).all D.one = true := by
  rw [List.all_eq_true]
  intro d hd
  simp only [rowCells0, rowCells, List.mem_flatMap, List.mem_map, List.map_map, Function.comp] at hd
  obtain ⟨i, _, c, _, rfl⟩ := hd
  cases c <;> rfl

/-! Columns, joined. -/
def Col0.join : Col0 → Col0 → Option Col0
  | .ints k xs, .ints k' ys => if k' = k then some (.ints k (xs ++ ys)) else none
  | .bools xs, .bools ys => some (.bools (xs ++ ys))
  | _, _ => none
def joinCols : List Col0 → List Col0 → Option (List Col0)
  | [], [] => some []
  | c :: cs, d :: ds => match c.join d, joinCols cs ds with
    | some e, some es => some (e :: es)
    | _, _ => none
  | _, _ => none
theorem getD_app {α : Type} (xs ys : List α) (k : Nat) (z : α) : (xs ++ ys).getD k z = if k < xs.length then xs.getD k z else ys.getD (k - xs.length) z := by
  rw [List.getD_eq_getElem?_getD]
  split
  next h => rw [List.getElem?_append_left h, List.getD_eq_getElem?_getD]
  next h => rw [List.getElem?_append_right (by omega), List.getD_eq_getElem?_getD]
theorem join_val {c d e : Col0} (h : c.join d = some e) : e.len = c.len + d.len ∧ ∀ k, e.val k = if k < c.len then c.val k else d.val (k - c.len) := by
  cases c <;> cases d <;> simp only [Col0.join] at h
  · split at h
    next ek =>
      simp at h; subst h; subst ek
      refine ⟨by simp [Col0.len], fun k => ?_⟩
      simp only [Col0.val, Col0.len, getD_app]
      split <;> (rename_i hh; simp only [hh, if_true, if_false])
    · cases h
  · cases h
  · cases h
  · simp at h; subst h
    refine ⟨by simp [Col0.len], fun k => ?_⟩
    simp only [Col0.val, Col0.len, getD_app]
    split <;> (rename_i hh; simp only [hh, if_true, if_false])
theorem joinCols_spec : ∀ {cs ds es : List Col0} {n m : Nat}, joinCols cs ds = some es → (∀ c ∈ cs, c.len = n) → (∀ d ∈ ds, d.len = m) →
    es.length = cs.length ∧ ds.length = cs.length ∧ (∀ e ∈ es, e.len = n + m) ∧ ∀ (b : Nat) (e : Col0), es[b]? = some e → ∃ c d, cs[b]? = some c ∧ ds[b]? = some d ∧ ∀ k, k < n + m → e.val k = if k < n then c.val k else d.val (k - n)
  | [], [], es, n, m, h, _, _ => by simp [joinCols] at h; subst h; exact ⟨rfl, rfl, by simp, by simp⟩
  | [], _ :: _, es, n, m, h, _, _ => by simp [joinCols] at h
  | _ :: _, [], es, n, m, h, _, _ => by simp [joinCols] at h
  | c :: cs, d :: ds, es, n, m, h, h1, h2 => by
    simp only [joinCols] at h
    split at h
    next e es' he hes =>
      simp at h; subst h
      obtain ⟨a1, a2⟩ := join_val he
      obtain ⟨b1, b2, b3, b4⟩ := joinCols_spec hes (fun c hc => h1 c (by simp [hc])) (fun d hd => h2 d (by simp [hd]))
      have c1 := h1 c (by simp)
      have d1 := h2 d (by simp)
      refine ⟨by simp [b1], by simp [b2], fun e' he' => ?_, fun b e' hb => ?_⟩
      · rcases List.mem_cons.1 he' with rfl | he'
        · omega
        · exact b3 e' he'
      · cases b with
        | zero =>
          simp at hb; subst hb
          exact ⟨c, d, rfl, rfl, fun k hk => by rw [a2 k, c1]⟩
        | succ b =>
          simp at hb
          obtain ⟨c', d', k1, k2, k3⟩ := b4 b e' hb
          exact ⟨c', d', by simpa using k1, by simpa using k2, k3⟩
    · cases h
theorem joinCols_cells {cs ds es : List Col0} {n m : Nat} (hne : cs ≠ []) (h : joinCols cs ds = some es) (h1 : ∀ c ∈ cs, c.len = n) (h2 : ∀ d ∈ ds, d.len = m) : rowCells0 es = rowCells0 cs ++ rowCells0 ds := by
  obtain ⟨a1, a2, a3, a4⟩ := joinCols_spec h h1 h2
  have hw : 0 < cs.length := List.length_pos_iff.2 hne
  have hne' : es ≠ [] := fun e => hne (List.length_eq_zero_iff.1 (by rw [← a1, e]; rfl))
  have hne2 : ds ≠ [] := fun e => hne (List.length_eq_zero_iff.1 (by rw [← a2, e]; rfl))
  have e1 := rowLen0_of hne h1
  have e2 := rowLen0_of hne2 h2
  have e3 := rowLen0_of hne' a3
  apply List.ext_getElem?
  intro x
  rw [rc0_get, a1, e3]
  by_cases hx : x < (n + m) * cs.length
  · rw [if_pos hx]
    have hb : x % cs.length < es.length := by rw [a1]; exact Nat.mod_lt _ hw
    have he : es[x % cs.length]? = some es[x % cs.length] := List.getElem?_eq_getElem hb
    obtain ⟨c, d, k1, k2, k3⟩ := a4 _ _ he
    have hq : x / cs.length < n + m := by rw [Nat.div_lt_iff_lt_mul hw]; exact hx
    rw [he, Option.map_some, k3 _ hq]
    by_cases hc : x < n * cs.length
    · have hqn : x / cs.length < n := by rw [Nat.div_lt_iff_lt_mul hw]; exact hc
      rw [List.getElem?_append_left (by rw [rowCells0_length, e1]; exact hc), rc0_get, e1, if_pos hc, k1, if_pos hqn]; rfl
    · have hqn : ¬ x / cs.length < n := fun q => hc (by rw [Nat.div_lt_iff_lt_mul hw] at q; exact q)
      rw [List.getElem?_append_right (by rw [rowCells0_length, e1]; omega), rowCells0_length, e1, rc0_get, e2, a2]
      have ex : x = n * cs.length + (x - n * cs.length) := by omega
      have em : (x - n * cs.length) % cs.length = x % cs.length := by
        rw [← Nat.mul_add_mod cs.length n (x - n * cs.length)]
        congr 1
        rw [Nat.mul_comm]; omega
      have ed : (x - n * cs.length) / cs.length = x / cs.length - n := by
        have := Nat.mul_add_div hw n (x - n * cs.length)
        rw [show cs.length * n + (x - n * cs.length) = x by rw [Nat.mul_comm]; omega] at this
        omega
      have hx2 : x - n * cs.length < m * cs.length := by
        rw [Nat.add_mul] at hx
        omega
      rw [if_pos hx2, em, ed, k2, if_neg hqn]; rfl
  · rw [if_neg hx]
    symm
    apply List.getElem?_eq_none
    rw [List.length_append, rowCells0_length, rowCells0_length, e1, e2, a2, ← Nat.add_mul]
    omega

/-- One element's cells as columns, of the kinds that some have. -/
def Col0.like (d : D) : Col0 → Option Col0
  | .ints k _ => match d with
    | .v (.int k' n) => if k' = k then some (.ints k [n]) else none
    | _ => none
  | .bools _ => match d with
    | .v (.bool b) => some (.bools [b])
    | _ => none
def likeCols : List Col0 → List D → Option (List Col0)
  | [], [] => some []
  | c :: cs, d :: ds => match c.like d, likeCols cs ds with
    | some e, some es => some (e :: es)
    | _, _ => none
  | _, _ => none
theorem like_val {d : D} {c e : Col0} (h : c.like d = some e) : e.len = 1 ∧ D.v (e.val 0) = d := by
  cases c <;> simp only [Col0.like] at h <;> split at h
  · split at h
    · simp at h; subst h; subst_vars; exact ⟨rfl, rfl⟩
    · cases h
  · cases h
  · simp at h; subst h; exact ⟨rfl, rfl⟩
  · cases h
theorem likeCols_spec : ∀ {cs es : List Col0} {ds : List D}, likeCols cs ds = some es → es.length = cs.length ∧ (∀ e ∈ es, e.len = 1) ∧ es.map (fun e => D.v (e.val 0)) = ds
  | [], es, [], h => by simp [likeCols] at h; subst h; exact ⟨rfl, by simp, rfl⟩
  | [], es, _ :: _, h => by simp [likeCols] at h
  | _ :: _, es, [], h => by simp [likeCols] at h
  | c :: cs, es, d :: ds, h => by
    simp only [likeCols] at h
    split at h
    next e es' he hes =>
      simp at h; subst h
      obtain ⟨a1, a2⟩ := like_val he
      obtain ⟨b1, b2, b3⟩ := likeCols_spec hes
      refine ⟨by simp [b1], fun e' he' => ?_, by simp [a2, b3]⟩
      rcases List.mem_cons.1 he' with rfl | he'
      · exact a1
      · exact b2 e' he'
    · cases h
theorem likeCols_cells {cs es : List Col0} {ds : List D} (hne : cs ≠ []) (h : likeCols cs ds = some es) : rowCells0 es = ds := by
  obtain ⟨a1, a2, a3⟩ := likeCols_spec h
  have hne' : es ≠ [] := fun e => hne (List.length_eq_zero_iff.1 (by rw [← a1, e]; rfl))
  have e1 := rowLen0_of hne' a2
  unfold rowCells0 rowCells
  rw [rowLen_up, e1]
  simp only [List.range_one, List.flatMap_cons, List.flatMap_nil, List.append_nil, List.map_map]
  rw [← a3]
  apply List.map_congr_left
  intro c _
  cases c <;> rfl
end
end Go.Dam
end

section
namespace Go.Dam
open Go Go.RowKit
set_option linter.unusedSectionVars false
variable [Glo]
set_option linter.unusedSimpArgs false
set_option linter.unusedVariables false
noncomputable section

/-! A slot told in other words; a block that is held on to. -/
section
variable {w : World} {A : Nat → Prop} {β : Env} {base : Nat} {σ : St} {tmps : Array Value} {acts : List (Array Value)}

def St.retm (σ : St) (t : Nat) (d : D) : St := { σ with fr := { nt := σ.fr.nt, tm := fun k => if k = t then (if t < σ.fr.nt then d else .undef) else σ.fr.tm k } }
theorem Rel.retm (h : Rel w A β base σ tmps acts) (t : Nat) (d : D) (hd : t < σ.fr.nt → Rep w A β d (tmps.getD t Go.undef)) : Rel w A β base (σ.retm t d) tmps acts :=
  ⟨⟨h.fr.nt, fun k => by
      show Rep w A β (if k = t then (if t < σ.fr.nt then d else .undef) else σ.fr.tm k) _
      by_cases e : k = t
      · subst e
        rw [if_pos rfl]
        by_cases hl : k < σ.fr.nt
        · rw [if_pos hl]; exact hd hl
        · rw [if_neg hl]; simp [Rep, RepS]
      · rw [if_neg e]; exact h.fr.tm k⟩, h.stk, h.blk, h.inj, h.low, h.top, h.glo, h.lp⟩
/-- A block, held on to while all that speaks of it is forgotten. -/
theorem Rel.again (h : Rel w A β base σ tmps acts) (i : Nat) {b : Blk} (hb : σ.bk i = some b) (k : Nat) : Rel w A β base ((σ.forget i).setB i ⟨b.cells.take k, b.ro⟩) tmps acts := by
  have h1 := h.forget i
  refine ⟨h1.fr, h1.stk, fun k b' hk => ?_, fun x y a c hx hy ha hc hac => ?_, h1.low, h1.top, h1.glo, h1.lp⟩
  · simp only [St.setB] at hk
    split at hk
    next e =>
      simp at hk; subst hk; subst e
      rcases h.blk _ b hb with ⟨k1, k2⟩ | ⟨ad, k1, k2⟩
      · exact .inl ⟨k1, by simp [k2]⟩
      · exact .inr ⟨ad, k1, ⟨k2.spot, k2.base, k2.obj, k2.cells.take k2.spot _, k2.own, k2.shared, k2.inside⟩⟩
    next e => exact h1.blk _ b' hk
  · refine h.inj x y a c ?_ ?_ ha hc hac
    · by_cases e : x = i
      · subst e; simp [hb]
      · simp only [St.setB, if_neg e, St.forget] at hx; intro q; simp [q] at hx
    · by_cases e : y = i
      · subst e; simp [hb]
      · simp only [St.setB, if_neg e, St.forget] at hy; intro q; simp [q] at hy
/-- A new block of nothing. -/
theorem Rel.empty' (h : Rel w A β base σ tmps acts) (i : Nat) : ∃ β' : Env, β' i = none ∧ Rel w A β' base ((σ.forget i).setB i ⟨[], false⟩) tmps acts ∧ ∀ k, k ≠ i → β' k = β k := by
  have h1 := h.forget i
  have key : ∀ (d : D) (id : Nat), (d.forget i).has id = true → (fun k => if k = i then none else β k : Env) id = β id := fun d id hd => by
    have := (D.has_forget_of hd).2
    simp [this]
  refine ⟨fun k => if k = i then none else β k, by simp, ?_, fun k hk => by simp [hk]⟩
  have h2 : Rel w A (fun k => if k = i then none else β k) base (σ.forget i) tmps acts := by
    refine h1.carry (.refl _ _) (fun _ h => h) h1.low h1.top ?_ ?_ ?_ ?_
    · intro t id hid
      exact key (σ.fr.tm t) id hid
    · intro f hf t id hid
      simp only [St.forget, List.mem_map] at hf
      obtain ⟨f0, _, rfl⟩ := hf
      exact key (f0.tm t) id hid
    · intro k b hk
      simp only [St.forget] at hk
      split at hk
      · cases hk
      next e =>
        rw [Option.map_eq_some_iff] at hk
        obtain ⟨b0, _, rfl⟩ := hk
        refine ⟨by simp [e], fun id hid => ?_, fun ad _ => ⟨rfl, fun h => h⟩⟩
        have := (D.hasL_forget_of (cs := b0.cells) hid).2
        simp [this]
    · show LoopRep w A _ base (if i = yldId then none else σ.loop) acts
      by_cases e : i = yldId
      · rw [if_pos e]; trivial
      · rw [if_neg e]
        exact h.lp.mono (.refl w) (.refl A w) (fun _ => by simp [Ne.symm e])
  refine ⟨h2.fr, h2.stk, fun k b' hk => ?_, fun x y a c hx hy ha hc hac => ?_, h2.low, h2.top, h2.glo, h2.lp⟩
  · simp only [St.setB] at hk
    split at hk
    next e => simp at hk; subst hk; exact .inl ⟨by simp [e], rfl⟩
    next e => exact h2.blk k b' hk
  · by_cases ex : x = i
    · simp [ex] at ha
    by_cases ey : y = i
    · simp [ey] at hc
    exact h2.inj x y a c (by simpa only [St.setB, if_neg ex] using hx) (by simpa only [St.setB, if_neg ey] using hy) ha hc hac
theorem Rel.empty (h : Rel w A β base σ tmps acts) (i : Nat) : ∃ β' : Env, β' i = none ∧ Rel w A β' base ((σ.forget i).setB i ⟨[], false⟩) tmps acts := by
  obtain ⟨β', h1, h2, _⟩ := h.empty' i
  exact ⟨β', h1, h2⟩
end

theorem put_retm_again (σ : St) (t i : Nat) (s d : D) (b : Blk) : ((((σ.put (some t) s).forget i).setB i b).retm t d) = (((σ.forget i).setB i b).put (some t) d) := by
  simp only [St.put, St.forget, St.setB, St.retm]
  congr 1
  simp only [Fr.forget, Fr.put]
  congr 1
  funext k
  by_cases e : k = t
  · rw [if_pos e, if_pos e]
    rfl
  · rw [if_neg e, if_neg e, if_neg e]

/-- Nothing appended: the slice itself. -/
theorem weaker_same {σ : St} {t i : Nat} {b : Blk} {n off k : Nat} {sz : Sz} {s : Nat} (hb : σ.bk i = some b) (hs : sz.s = s) : Weaker (σ.put (some t) (.sl i off n sz)) (((σ.forget i).setB i ⟨b.cells.take k, b.ro⟩).put (some t) (.sl i off n ⟨s, 0⟩)) := by
  intro w A β base tmps acts h
  refine ⟨β, ?_⟩
  rw [← put_retm_again σ t i (.sl i off n sz) _ ⟨b.cells.take k, b.ro⟩]
  have h1 := h.again i (b := b) hb k
  refine h1.retm t _ fun hl => ?_
  have hl : t < σ.fr.nt := hl
  have hu := h.fr.tm t
  have e : ((σ.put (some t) (.sl i off n sz)).fr.tm t) = .sl i off n sz := by
    show (if t = t then (if t < σ.fr.nt then D.sl i off n sz else .undef) else σ.fr.tm t) = _
    rw [if_pos rfl, if_pos hl]
  rw [e] at hu
  simp only [Rep] at hu ⊢
  obtain ⟨o, c, hu, hc⟩ := hu
  refine ⟨o, c, hu, ?_⟩
  subst hs
  rcases hc with ⟨h2, h3⟩ | ⟨h2, ad, h3, h4, h5⟩
  · exact .inl ⟨by omega, h3⟩
  · exact .inr ⟨by show max n 0 ≤ c; omega, ad, h3, h4, h5⟩
theorem retm_put (σ : St) (t i : Nat) (d : D) (b : Blk) : (((σ.forget i).setB i b).retm t d) = (((σ.forget i).setB i b).put (some t) d) := rfl
theorem weaker_nil {σ : St} {t i : Nat} {s : Nat} (hx : σ.fr.tm t = .emp ∨ σ.fr.tm t = .v (.slice none 0 0)) : Weaker σ (((σ.forget i).setB i ⟨[], false⟩).put (some t) (.sl i 0 0 ⟨s, 0⟩)) := by
  intro w A β base tmps acts h
  obtain ⟨β', hb', h1⟩ := h.empty i
  refine ⟨β', ?_⟩
  rw [← retm_put σ t i _ ⟨[], false⟩]
  refine h1.retm t _ fun hl => ?_
  have hu := h.fr.tm t
  simp only [Rep]
  rcases hx with e | e
  · rw [e] at hu
    simp only [Rep, RepS] at hu
    obtain ⟨ad, hu⟩ := hu
    exact ⟨some ad, 0, hu, .inl ⟨by simp, rfl⟩⟩
  · rw [e] at hu
    simp only [Rep, RepS] at hu
    exact ⟨none, 0, hu, .inl ⟨by simp, rfl⟩⟩
/-- A cell of a block, told in other words. -/
theorem Rel.recell {w : World} {A : Nat → Prop} {β : Env} {base : Nat} {σ : St} {tmps : Array Value} {acts : List (Array Value)} (h : Rel w A β base σ tmps acts) {b off : Nat} {d : D} {cs : List D} {ro : Bool} (hb : σ.bk b = some ⟨cs, ro⟩)
    (hd : ∀ ad u, β b = some ad → w.cell? (plusOff ad off) = some u → Rep w A β d u) : Rel w A β base (σ.setB b ⟨cs.set off d, ro⟩) tmps acts := by
  refine ⟨h.fr, h.stk, fun k b' hk => ?_, fun x y a c hx hy ha hc hac => ?_, h.low, h.top, h.glo, h.lp⟩
  · simp only [St.setB] at hk
    split at hk
    next e =>
      simp at hk; subst hk; subst e
      rcases h.blk _ _ hb with ⟨k1, k2⟩ | ⟨ad, k1, k2⟩
      · simp only at k2
        exact .inl ⟨k1, by simp [k2]⟩
      · refine .inr ⟨ad, k1, ⟨k2.spot, k2.base, k2.obj, ?_, k2.own, k2.shared, k2.inside⟩⟩
        have hcs := k2.cells
        simp only at hcs ⊢
        refine CellsAt.of_get k2.spot fun j d' hj => ?_
        rw [List.getElem?_set] at hj
        split at hj
        next ej =>
          split at hj
          next hl =>
            simp at hj; subst hj; subst ej
            obtain ⟨u, q1, _⟩ := hcs.get k2.spot off _ (List.getElem?_eq_getElem hl)
            exact ⟨u, q1, hd ad u k1 q1⟩
          · cases hj
        · exact hcs.get k2.spot j d' hj
    next e => exact h.blk _ b' hk
  · refine h.inj x y a c ?_ ?_ ha hc hac
    · by_cases e : x = b
      · subst e; simp [hb]
      · simpa only [St.setB, if_neg e] using hx
    · by_cases e : y = b
      · subst e; simp [hb]
      · simpa only [St.setB, if_neg e] using hy
/-- What is empty in a cell of a block, as a slice of a block of nothing. -/
theorem weaker_cnil {σ : St} {b off i : Nat} {s : Nat} {cs : List D} {ro : Bool} (hbi : b ≠ i) (hb : σ.bk b = some ⟨cs, ro⟩) (hx : cs[off]? = some .emp ∨ cs[off]? = some (.v (.slice none 0 0))) :
    Weaker σ (((σ.forget i).setB i ⟨[], false⟩).setB b ⟨(cs.map (D.forget i)).set off (.sl i 0 0 ⟨s, 0⟩), ro⟩) := by
  intro w A β base tmps acts h
  obtain ⟨β', hb', h1, hsame⟩ := h.empty' i
  refine ⟨β', ?_⟩
  have hb2 : ((σ.forget i).setB i ⟨[], false⟩).bk b = some ⟨cs.map (D.forget i), ro⟩ := by
    simp only [St.setB, if_neg hbi, St.forget, hb, Option.map_some]; rfl
  refine h1.recell hb2 fun ad u had hu => ?_
  rw [hsame b hbi] at had
  rcases h.blk _ _ hb with ⟨k1, _⟩ | ⟨ad', k1, k2⟩
  · rw [k1] at had; cases had
  rw [k1] at had; cases had
  have hcs := k2.cells
  simp only at hcs
  simp only [Rep]
  rcases hx with e | e
  · obtain ⟨u', q1, q2⟩ := hcs.get k2.spot off _ e
    rw [q1] at hu; cases hu
    simp only [Rep, RepS] at q2
    obtain ⟨ad2, hu⟩ := q2
    exact ⟨some ad2, 0, hu, .inl ⟨by simp, rfl⟩⟩
  · obtain ⟨u', q1, q2⟩ := hcs.get k2.spot off _ e
    rw [q1] at hu; cases hu
    simp only [Rep, RepS] at q2
    exact ⟨none, 0, q2, .inl ⟨by simp, rfl⟩⟩
/-- What is empty, as a slice of a block of nothing. -/
theorem weaker_none {σ : St} {t i : Nat} {x : D} {s : Nat} (hx : x = .emp ∨ x = .v (.slice none 0 0)) : Weaker (σ.put (some t) x) (((σ.forget i).setB i ⟨[], false⟩).put (some t) (.sl i 0 0 ⟨s, 0⟩)) := by
  intro w A β base tmps acts h
  obtain ⟨β', hb', h1⟩ := h.empty i
  refine ⟨β', ?_⟩
  rw [← put_retm_again σ t i x _ ⟨[], false⟩]
  refine h1.retm t _ fun hl => ?_
  have hl : t < σ.fr.nt := hl
  have hu := h.fr.tm t
  have e : ((σ.put (some t) x).fr.tm t) = x := by
    show (if t = t then (if t < σ.fr.nt then x else .undef) else σ.fr.tm t) = _
    rw [if_pos rfl, if_pos hl]
  rw [e] at hu
  simp only [Rep]
  rcases hx with rfl | rfl
  · simp only [Rep, RepS] at hu
    obtain ⟨ad, hu⟩ := hu
    exact ⟨some ad, 0, hu, .inl ⟨by simp, rfl⟩⟩
  · simp only [Rep, RepS] at hu
    exact ⟨none, 0, hu, .inl ⟨by simp, rfl⟩⟩

/-! Where elements come from. -/
def downs : List Col → Option (List Col0)
  | [] => some []
  | .ints k xs :: l => match downs l with
    | some r => some (.ints k xs :: r)
    | none => none
  | .bools xs :: l => match downs l with
    | some r => some (.bools xs :: r)
    | none => none
  | .rows _ _ :: _ => none
theorem downs_spec : ∀ {cs : List Col} {c0 : List Col0}, downs cs = some c0 → cs = c0.map Col0.up
  | [], c0, h => by simp [downs] at h; subst h; rfl
  | .ints k xs :: l, c0, h => by
    simp only [downs] at h
    split at h
    next r hr => simp at h; subst h; simp [downs_spec hr, Col0.up]
    · cases h
  | .bools xs :: l, c0, h => by
    simp only [downs] at h
    split at h
    next r hr => simp at h; subst h; simp [downs_spec hr, Col0.up]
    · cases h
  | .rows _ _ :: _, c0, h => by simp [downs] at h

def srcX (bk : List (Nat × BX)) (size : Nat) : D → Option (Nat × List Col0 × List Prop)
  | .rc cs => match downs cs with
    | some c0 => bif Nat.beq c0.length size then some (rowLen0 c0, c0, lensOf (rowLen0 c0) c0) else none
    | none => none
  | .sl id off n sz => match lookX id bk with
    | some (.row c0 _) => bif Nat.beq off 0 && (Nat.beq sz.s size && Nat.beq c0.length size) then some (rowLen0 c0, c0, (n = rowLen0 c0) :: lensOf (rowLen0 c0) c0) else none
    | _ => none
  | _ => none
theorem srcX_spec {bk : List (Nat × BX)} {size m : Nat} {x : D} {c0 : List Col0} {l : List Prop} (h : srcX bk size x = some (m, c0, l)) (hl : AllP l) :
    x.elems (fun i => lookB i bk) size = some (m, rowCells0 c0) ∧ c0.length = size ∧ (∀ c ∈ c0, c.len = m) ∧ m = rowLen0 c0 := by
  cases x with
  | rc cs =>
    simp only [srcX] at h
    split at h
    next c1 hd =>
      simp only [cond_eq_ite] at h
      split at h
      next hb =>
        simp only [Option.some.injEq, Prod.mk.injEq] at h; obtain ⟨rfl, rfl, rfl⟩ := h
        have hsz := Nat.eq_of_beq_eq_true hb
        have := downs_spec hd; subst this
        refine ⟨?_, hsz, lensOf_all hl, rfl⟩
        simp only [D.elems]
        rw [if_pos (by simpa using hsz), rowLen_up]
      · cases h
    · cases h
  | sl id off n sz =>
    simp only [srcX] at h
    split at h
    next c1 ro hb =>
      simp only [cond_eq_ite] at h
      split at h
      next hc =>
        simp only [Option.some.injEq, Prod.mk.injEq] at h; obtain ⟨rfl, rfl, rfl⟩ := h
        simp only [Bool.and_eq_true] at hc
        obtain rfl := Nat.eq_of_beq_eq_true hc.1
        have e1 := Nat.eq_of_beq_eq_true hc.2.1
        have e2 := Nat.eq_of_beq_eq_true hc.2.2
        obtain ⟨hn, hl2⟩ := hl
        subst hn
        refine ⟨?_, e2, lensOf_all hl2, rfl⟩
        have hlk : lookB id bk = some ⟨rowCells0 c1, ro⟩ := by unfold lookB; rw [hb]; rfl
        simp only [D.elems, hlk]
        have hlen := rowCells0_length c1
        rw [if_pos ⟨e1, by rw [hlen, e2]; omega⟩, List.drop_zero, List.take_of_length_le (by rw [hlen, e2]; exact Nat.le_refl _)]
      · cases h
    · cases h
  | _ => simp [srcX] at h
end
end Go.Dam
end

section
namespace Go.Dam
open Go Go.RowKit
set_option linter.unusedSectionVars false
variable [Glo]
set_option linter.unusedSimpArgs false
set_option linter.unusedVariables false
noncomputable section

/-! ### The operations on own rows -/
def rowIdxX (P : Program) (bk : List (Nat × BX)) (t : TypeId) (x ix : D) : Option OX :=
  match x, ix with
  | .sl id off n sz, .v (.int _ i) => match lookX id bk, P.underlying t with
    | some (.row _ _), some (.slice elem) => match P.info? elem with
      | some j => some (.val (.pel id i.toNat j.size off), [decide (0 ≤ i) = true, decide (i < (n : Int)) = true])
      | none => none
    | _, _ => none
  | _, _ => none
def rowLoadX (P : Program) (bk : List (Nat × BX)) (t : TypeId) (a : D) : Option OX :=
  match a with
  | .pel id i w j => match lookX id bk with
    | some (.row cols _) => match rowTake P t cols i w j with
      | some (d, l) => some (.val d, l)
      | none => none
    | _ => none
  | _ => none
def opY (P : Program) (bk : List (Nat × BX)) (ρ : Operand → D) (ty : TypeId) (op : Op) : Option OX :=
  match op with
  | .indexAddr t x ix => match rowIdxX P bk t (ρ x) (ρ ix) with
    | some r => some r
    | none => opX P (fun i => lookB i bk) ρ ty (.indexAddr t x ix)
  | .load t a => match rowLoadX P bk t (ρ a) with
    | some r => some r
    | none => opX P (fun i => lookB i bk) ρ ty (.load t a)
  | op => opX P (fun i => lookB i bk) ρ ty op
theorem opY_spec {P : Program} {bk : List (Nat × BX)} {ρ : Operand → D} {ty : TypeId} {op : Op} {e : Eff} {l : List Prop} (h : opY P bk ρ ty op = some (e, l)) (hl : AllP l) : opD P (fun i => lookB i bk) ρ ty op = some e := by
  unfold opY at h
  split at h
  next t x ix =>
    split at h
    next r hr =>
      simp only [Option.some.injEq] at h; subst h
      unfold rowIdxX at hr
      split at hr
      next id off n sz k i hx hi =>
        split at hr
        next elem hlk hu =>
          split at hr
          next j hj =>
            simp only [Option.some.injEq, Prod.mk.injEq] at hr; obtain ⟨rfl, rfl⟩ := hr
            obtain ⟨h1, h2, _⟩ := hl
            have h1 := of_decide_eq_true h1
            have h2 := of_decide_eq_true h2
            simp only [opD, indexAddrD, hx, hi, indexAddrP, indexOf, hu, hj]
            rw [if_pos ⟨h1, h2⟩]
          · cases hr
        · cases hr
      · cases hr
    · exact opX_spec h hl
  next t a =>
    split at h
    next r hr =>
      simp only [Option.some.injEq] at h; subst h
      unfold rowLoadX at hr
      split at hr
      next id i w j ha =>
        split at hr
        next cols ro hlk =>
          split at hr
          next d l0 ht =>
            simp only [Option.some.injEq, Prod.mk.injEq] at hr; obtain ⟨rfl, rfl⟩ := hr
            have hlb : lookB id bk = some ⟨rowCells0 cols, ro⟩ := by unfold lookB; rw [hlk]; rfl
            simp only [opD, loadD, ha, D.behind, hlb, Option.map_some]
            rw [rowTake_spec ht hl]; rfl
          · cases hr
        · cases hr
      · cases hr
    · exact opX_spec h hl
  · exact opX_spec h hl

/-- A store into an element. -/
def rowStore (P : Program) (c : Cf) (dst : Option Tmp) (t : TypeId) (a x : D) : Option (Cf × List Prop) :=
  match a with
  | .pel id i w j => match lookX id c.bk with
    | some (.row cols false) => match x.cells, P.info? t with
      | some ds, some inf => bif Nat.beq ds.length inf.size && (ds.all D.one && (Nat.beq w cols.length && (Nat.blt 0 ds.length && Nat.ble (j + ds.length) cols.length))) then
          match setCols i cols j ds with
          | some cols' => some ((c.setB id (.row cols' false)).put dst (.v undef), (i < rowLen0 cols) :: lensOf (rowLen0 cols) cols)
          | none => none
        else none
      | _, _ => none
    | _ => none
  | _ => none
theorem lookB_row {i : Nat} {l : List (Nat × BX)} {cols : List Col0} {ro : Bool} (h : lookX i l = some (.row cols ro)) : lookB i l = some ⟨rowCells0 cols, ro⟩ := by
  unfold lookB; rw [h]; rfl
@[simp] theorem cds_put' (c : Cf) (dst : Option Tmp) (d : D) : (c.put dst d).cds = c.cds := by cases dst <;> rfl
theorem rowStore_spec {P : Program} {c c' : Cf} {dst : Option Tmp} {t : TypeId} {a x : D} {l : List Prop} {id0 : Nat} (h : rowStore P c dst t a x = some (c', l)) (hl : AllP l) :
    ∃ e σ1, storeD P t a x = some e ∧ stepE c.abs dst id0 e = some σ1 ∧ Weaker σ1 c'.abs ∧ c'.cds = c.cds := by
  unfold rowStore at h
  split at h
  next id i w j =>
    split at h
    next cols hlk =>
      split at h
      next ds inf hds hinf =>
        simp only [cond_eq_ite] at h
        split at h
        next hc =>
          simp only [Bool.and_eq_true] at hc
          obtain ⟨h1, h2, h3, h4, h5⟩ := hc
          have e1 := Nat.eq_of_beq_eq_true h1
          obtain rfl := Nat.eq_of_beq_eq_true h3
          have h4 : 0 < ds.length := by simpa [Nat.blt_eq] using h4
          have h5 := Nat.le_of_ble_eq_true h5
          split at h
          next cols' hs =>
            simp only [Option.some.injEq, Prod.mk.injEq] at h; obtain ⟨rfl, rfl⟩ := h
            obtain ⟨hi, hl2⟩ := hl
            have hne : cols ≠ [] := by rintro rfl; simp only [List.length_nil] at h5; omega
            have hcells := setCols_cells hne hs (lensOf_all hl2) hi h5
            refine ⟨.sto id (i * cols.length + j) ds, _, ?_, ?_, Weaker.refl _, by simp [Cf.setB]⟩
            · simp only [storeD, hds, hinf]
              rw [if_pos ⟨e1, h2⟩]
            · simp only [stepE, show c.abs.bk id = some ⟨rowCells0 cols, false⟩ from lookB_row hlk]
              rw [if_pos ?_, abs_put, abs_setB]
              · simp only [BX.blk, hcells]
              · rw [rowCells0_length]
                have : (i + 1) * cols.length ≤ rowLen0 cols * cols.length := Nat.mul_le_mul_right _ hi
                rw [Nat.add_mul, Nat.one_mul] at this
                omega
          · cases h
        · cases h
      · cases h
    · cases h
  · cases h

/-- A row of zeros. -/
def zeroCol (n : Nat) : D → Option Col0
  | .v (.int k x) => some (.ints k (List.replicate n x))
  | .v (.bool b) => some (.bools (List.replicate n b))
  | _ => none
def zeroCols (n : Nat) : List D → Option (List Col0)
  | [] => some []
  | d :: ds => match zeroCol n d, zeroCols n ds with
    | some c, some cs => some (c :: cs)
    | _, _ => none
theorem zeroCol_val {n : Nat} {d : D} {c : Col0} (h : zeroCol n d = some c) : c.len = n ∧ ∀ k, k < n → D.v (c.val k) = d := by
  unfold zeroCol at h
  split at h
  · simp at h; subst h
    exact ⟨by simp [Col0.len], fun k hk => by simp [Col0.val, List.getD_eq_getElem?_getD, hk]⟩
  · simp at h; subst h
    exact ⟨by simp [Col0.len], fun k hk => by simp [Col0.val, List.getD_eq_getElem?_getD, hk]⟩
  · cases h
theorem zeroCols_spec {n : Nat} : ∀ {ds : List D} {cs : List Col0}, zeroCols n ds = some cs → cs.length = ds.length ∧ (∀ c ∈ cs, c.len = n) ∧ ∀ k, k < n → cs.map (fun c => D.v (c.val k)) = ds
  | [], cs, h => by simp [zeroCols] at h; subst h; simp
  | d :: ds, cs, h => by
    simp only [zeroCols] at h
    split at h
    next c cs' hc hcs =>
      simp at h; subst h
      obtain ⟨a1, a2⟩ := zeroCol_val hc
      obtain ⟨b1, b2, b3⟩ := zeroCols_spec hcs
      refine ⟨by simp [b1], fun c' hc' => ?_, fun k hk => by simp [a2 k hk, b3 k hk]⟩
      rcases List.mem_cons.1 hc' with rfl | hc'
      · exact a1
      · exact b2 c' hc'
    · cases h
theorem zeroCols_cells {n : Nat} {ds : List D} {cs : List Col0} (hne : ds ≠ []) (h : zeroCols n ds = some cs) : rowCells0 cs = (List.replicate n ds).flatten := by
  obtain ⟨a1, a2, a3⟩ := zeroCols_spec h
  have hne' : cs ≠ [] := fun e => hne (List.length_eq_zero_iff.1 (by rw [← a1, e]; rfl))
  have e1 := rowLen0_of hne' a2
  unfold rowCells0 rowCells
  rw [rowLen_up, e1]
  have key : ∀ m, m ≤ n → (List.range m).flatMap (fun i => (cs.map Col0.up).map (Col.cell i)) = (List.replicate m ds).flatten := by
    intro m
    induction m with
    | zero => intro _; rfl
    | succ m ih =>
      intro hm
      rw [List.range_succ, List.flatMap_append, ih (by omega), List.replicate_succ', List.flatten_append]
      congr 1
      simp only [List.flatMap_cons, List.flatMap_nil, List.append_nil, List.flatten_cons, List.flatten_nil, List.map_map]
      rw [← a3 m (by omega)]
      apply List.map_congr_left
      intro c _
      cases c <;> rfl
  exact key n (Nat.le_refl _)
def rowMake (P : Program) (c : Cf) (dst : Option Tmp) (id : Nat) (t : TypeId) (len cap : D) : Option (Cf × List Prop) :=
  match len, cap, P.underlying t with
  | .v (.int _ p), .v (.int _ q), some (.slice elem) => match P.info? elem, zeroD P elem with
    | some j, some z => bif Nat.beq z.length j.size && Nat.blt 0 z.length then match zeroCols q.toNat z with
        | some cols => some (((c.forget id).setB id (.row cols false)).put dst (.sl id 0 p.toNat ⟨j.size, 0⟩), [decide (0 ≤ p) = true, p = q, q * j.bytes ≤ 2 ^ 40, q ≤ 2 ^ 40])
        | none => none
      else none
    | _, _ => none
  | _, _, _ => none
theorem rowMake_spec {P : Program} {c c' : Cf} {dst : Option Tmp} {id : Nat} {t : TypeId} {len cap : D} {l : List Prop} (h : rowMake P c dst id t len cap = some (c', l)) (hl : AllP l) :
    ∃ e σ1, makeSliceD P t len cap = some e ∧ stepE c.abs dst id e = some σ1 ∧ Weaker σ1 c'.abs ∧ c'.cds = c.cds := by
  unfold rowMake at h
  split at h
  next k p k' q elem hu =>
    split at h
    next j z hj hz =>
      simp only [cond_eq_ite] at h
      split at h
      next hc =>
        simp only [Bool.and_eq_true] at hc
        have e1 := Nat.eq_of_beq_eq_true hc.1
        have e2 : 0 < z.length := by simpa [Nat.blt_eq] using hc.2
        split at h
        next cols hcols =>
          simp only [Option.some.injEq, Prod.mk.injEq] at h; obtain ⟨rfl, rfl⟩ := h
          obtain ⟨h1, h2, h3, h4, _⟩ := hl
          have h1 := of_decide_eq_true h1
          subst h2
          refine ⟨.row (List.replicate p.toNat z).flatten p.toNat j.size, _, ?_, ?_, Weaker.refl _, by simp [Cf.setB, Cf.forget]⟩
          · simp only [makeSliceD, hu, indexOf, hj, hz]
            rw [if_pos ⟨h1, Int.le_refl _, h3, h4, e1⟩]
          · have hcells := zeroCols_cells (by intro e; rw [e] at e2; simp at e2) hcols
            simp only [stepE, abs_put, abs_setB, abs_forget, BX.blk]
            rw [← hcells, rowCells0_forget]
        · cases h
      · cases h
    · cases h
  · cases h
end
end Go.Dam
end
