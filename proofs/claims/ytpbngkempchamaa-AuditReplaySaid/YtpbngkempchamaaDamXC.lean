/- The engine, part XC: an abstract machine for the program's functions, proved right against the model. No condition. -/
import Derived.Test.YtpbngkempchamaaDamXB
set_option linter.unusedSectionVars false
set_option linter.unusedVariables false
set_option linter.unusedSimpArgs false
namespace Go.Dam
open Go Go.RowKit
set_option linter.unusedSectionVars false
variable [Glo]
set_option linter.unusedSimpArgs false
set_option linter.unusedVariables false

theorem flatMap_get (g : Nat → List D) (m : Nat) (hg : ∀ i, (g i).length = m) : ∀ (n i j : Nat), i < n → j < m → ((List.range n).flatMap g)[i * m + j]? = (g i)[j]?
  | 0, i, j, h, _ => by omega
  | n + 1, i, j, h, hj => by
    have hl : ∀ n, ((List.range n).flatMap g).length = n * m := fun n => by
      rw [List.length_flatMap]; simp only [hg]; simp [List.map_const']
    rw [List.range_succ, List.flatMap_append]
    simp only [List.flatMap_cons, List.flatMap_nil, List.append_nil]
    by_cases hi : i < n
    · have : i * m + j < n * m := by
        have : (i + 1) * m ≤ n * m := Nat.mul_le_mul_right m hi
        rw [Nat.add_mul] at this; omega
      rw [List.getElem?_append_left (by rw [hl]; exact this)]
      exact flatMap_get g m hg n i j hi hj
    · obtain rfl : i = n := by omega
      rw [List.getElem?_append_right (by rw [hl]; omega), hl]
      congr 1; omega

theorem rowCells0_get {cols : List Col0} {i j : Nat} {c : Col0} (hi : i < rowLen0 cols) (hc : cols[j]? = some c) : (rowCells0 cols)[i * cols.length + j]? = some (.v (c.val i)) := by
  have hj : j < cols.length := (List.getElem?_eq_some_iff.1 hc).1
  unfold rowCells0 rowCells
  rw [rowLen_up]
  rw [flatMap_get _ cols.length (fun i => by simp) _ _ _ hi hj]
  simp only [List.getElem?_map, hc, Option.map_some]
  cases c <;> rfl

theorem rowCells0_length (cols : List Col0) : (rowCells0 cols).length = rowLen0 cols * cols.length := by
  unfold rowCells0; rw [rowCells_length, rowLen_up, List.length_map]

theorem sh_rc (cols : List Col0) : Reads (.sh (rowLen0 cols) (rowCells0 cols)) (.rc (cols.map Col0.up)) := fun w A u hr => by
  simp only [RepS] at hr ⊢
  obtain ⟨o, c, rfl, h1, h2, h3⟩ := hr
  refine ⟨o, c, by rw [rowLen_up], by rw [rowLen_up]; exact h1, by rw [rowLen_up]; exact fun h => h2 (.inl h), fun i j c' hi hc => ?_⟩
  rw [rowLen_up] at hi
  rw [List.getElem?_map, Option.map_eq_some_iff] at hc
  obtain ⟨c0, hc0, rfl⟩ := hc
  obtain ⟨ad, rfl, h4, _⟩ := h2 (.inl (by omega))
  simp only [Option.getD_some] at h3 ⊢
  obtain ⟨x, k1, k2⟩ := (RepAt.cellsAt (β := fun _ => none) (fun d u h => RepS.rep d u h) h3).get h4 _ _ (rowCells0_get hi hc0)
  simp only [Rep, RepS] at k2
  rw [List.length_map]
  exact ⟨x, k1, by subst k2; cases c0 <;> rfl⟩

noncomputable section

/-- The abstract value with own blocks told as shared content; the blocks that it speaks of; what has to hold. -/
def shareX (bk : List (Nat × BX)) : Nat → D → Option (D × List Nat × List Prop)
  | _, .v x => some (.v x, [], [])
  | _, .emp => some (.emp, [], [])
  | _, .sh n cs => some (.sh n cs, [], [])
  | _, .rc cs => some (.rc cs, [], [])
  | k + 1, .sl id off n sz => match lookX id bk with
    | none => none
    | some (.cells cells _) => if off + n * sz ≤ cells.length then
        match shareAllX (shareX bk k) ((cells.drop off).take (n * sz)) with
        | none => none
        | some (cs, ids, l) => some (.sh n cs, id :: ids, l)
      else none
    | some (.row cols _) => bif Nat.beq off 0 && Nat.beq sz.s cols.length then some (.rc (cols.map Col0.up), [id], [n = rowLen0 cols]) else none
  | k + 1, .agg cs => match shareAllX (shareX bk k) cs with
    | none => none
    | some (ds, ids, l) => some (.agg ds, ids, l)
  | _, .fn f [] => some (.fn f [], [], [])
  | _, _ => none
where
  shareAllX (g : D → Option (D × List Nat × List Prop)) : List D → Option (List D × List Nat × List Prop)
  | [] => some ([], [], [])
  | d :: ds => match g d, shareAllX g ds with
    | some (e, i, l), some (es, is, ls) => some (e :: es, i ++ is, l ++ ls)
    | _, _ => none

abbrev shareAllX := shareX.shareAllX

theorem shareAllX_spec {g : D → Option (D × List Nat × List Prop)} {g' : D → Option (D × List Nat)} (hg : ∀ d e ids l, g d = some (e, ids, l) → AllP l → ∃ e', g' d = some (e', ids) ∧ Reads e' e) :
    ∀ (ds es : List D) (ids : List Nat) (l : List Prop), shareAllX g ds = some (es, ids, l) → AllP l → ∃ es', shareAll g' ds = some (es', ids) ∧ ReadsL es' es
  | [], es, ids, l, h, _ => by
    simp [shareX.shareAllX] at h; obtain ⟨rfl, rfl, rfl⟩ := h
    exact ⟨[], rfl, .nil⟩
  | d :: ds, es, ids, l, h, hl => by
    simp only [shareX.shareAllX] at h
    split at h
    next e i l1 es' is l2 h1 h2 =>
      simp at h; obtain ⟨rfl, rfl, rfl⟩ := h
      rw [AllP_append] at hl
      obtain ⟨e', k1, k2⟩ := hg d e i l1 h1 hl.1
      obtain ⟨es2, k3, k4⟩ := shareAllX_spec hg ds es' is l2 h2 hl.2
      exact ⟨e' :: es2, by simp only [share.shareAll, k1]; rw [show share.shareAll g' ds = some (es2, is) from k3], .cons k2 k4⟩
    · cases h

theorem share_v (bk : Nat → Option Blk) (k : Nat) (x : Value) : share bk k (.v x) = some (.v x, []) := by cases k <;> rfl

theorem shareAll_v (bk : Nat → Option Blk) (k : Nat) : ∀ ds : List D, (∀ d ∈ ds, ∃ x, d = .v x) → shareAll (share bk k) ds = some (ds, [])
  | [], _ => rfl
  | d :: ds, h => by
    obtain ⟨x, rfl⟩ := h d (by simp)
    have ih := shareAll_v bk k ds (fun d hd => h d (by simp [hd]))
    simp only [share.shareAll, share_v]
    rw [show share.shareAll (share bk k) ds = some (ds, []) from ih]
    rfl

theorem shareX_spec {bk : List (Nat × BX)} : ∀ (k : Nat) (d e : D) (ids : List Nat) (l : List Prop), shareX bk k d = some (e, ids, l) → AllP l → ∃ e', share (fun i => lookB i bk) k d = some (e', ids) ∧ Reads e' e := by
  intro k
  induction k with
  | zero =>
    intro d e ids l h hl
    cases d with
    | v x => simp only [shareX, Option.some.injEq, Prod.mk.injEq] at h; obtain ⟨rfl, rfl, rfl⟩ := h; exact ⟨_, by simp only [share], .refl _⟩
    | emp => simp only [shareX, Option.some.injEq, Prod.mk.injEq] at h; obtain ⟨rfl, rfl, rfl⟩ := h; exact ⟨_, by simp only [share], .refl _⟩
    | sh n cs => simp only [shareX, Option.some.injEq, Prod.mk.injEq] at h; obtain ⟨rfl, rfl, rfl⟩ := h; exact ⟨_, by simp only [share], .refl _⟩
    | rc cs => simp only [shareX, Option.some.injEq, Prod.mk.injEq] at h; obtain ⟨rfl, rfl, rfl⟩ := h; exact ⟨_, by simp only [share], .refl _⟩
    | fn f cs =>
      cases cs with
      | nil => simp only [shareX, Option.some.injEq, Prod.mk.injEq] at h; obtain ⟨rfl, rfl, rfl⟩ := h; exact ⟨_, by simp only [share], .refl _⟩
      | cons _ _ => simp [shareX] at h
    | _ => simp [shareX] at h
  | succ k ih =>
    intro d e ids l h hl
    cases d with
    | v x => simp only [shareX, Option.some.injEq, Prod.mk.injEq] at h; obtain ⟨rfl, rfl, rfl⟩ := h; exact ⟨_, by simp only [share], .refl _⟩
    | emp => simp only [shareX, Option.some.injEq, Prod.mk.injEq] at h; obtain ⟨rfl, rfl, rfl⟩ := h; exact ⟨_, by simp only [share], .refl _⟩
    | sh n cs => simp only [shareX, Option.some.injEq, Prod.mk.injEq] at h; obtain ⟨rfl, rfl, rfl⟩ := h; exact ⟨_, by simp only [share], .refl _⟩
    | rc cs => simp only [shareX, Option.some.injEq, Prod.mk.injEq] at h; obtain ⟨rfl, rfl, rfl⟩ := h; exact ⟨_, by simp only [share], .refl _⟩
    | fn f cs =>
      cases cs with
      | nil => simp only [shareX, Option.some.injEq, Prod.mk.injEq] at h; obtain ⟨rfl, rfl, rfl⟩ := h; exact ⟨_, by simp only [share], .refl _⟩
      | cons _ _ => simp [shareX] at h
    | agg cs =>
      simp only [shareX] at h
      split at h
      · cases h
      next ds is l' h1 =>
        simp at h; obtain ⟨rfl, rfl, rfl⟩ := h
        obtain ⟨es', k1, k2⟩ := shareAllX_spec (fun d e ids l h hl => ih d e ids l h hl) cs ds is l' h1 hl
        exact ⟨.agg es', by simp only [share]; rw [show share.shareAll (share _ k) cs = some (es', is) from k1], k2.agg⟩
    | sl id off n sz =>
      simp only [shareX] at h
      split at h
      · cases h
      next cells ro hb =>
        split at h
        next hle =>
          split at h
          · cases h
          next cs is l' h1 =>
            simp at h; obtain ⟨rfl, rfl, rfl⟩ := h
            obtain ⟨es', k1, k2⟩ := shareAllX_spec (fun d e ids l h hl => ih d e ids l h hl) _ cs is l' h1 hl
            exact ⟨.sh n es', by simp only [share, lookB_cells hb]; rw [if_pos hle, show share.shareAll (share _ k) _ = some (es', is) from k1], k2.sh n⟩
        · cases h
      next cols ro hb =>
        simp only [cond_eq_ite] at h
        split at h
        next hc =>
          simp only [Bool.and_eq_true] at hc
          simp only [Option.some.injEq, Prod.mk.injEq] at h; obtain ⟨rfl, rfl, rfl⟩ := h
          obtain rfl := Nat.eq_of_beq_eq_true hc.1
          have hsz := Nat.eq_of_beq_eq_true hc.2
          simp only [AllP, and_true] at hl
          subst hl
          have hlb : lookB id bk = some ⟨rowCells0 cols, ro⟩ := by unfold lookB; rw [hb]; rfl
          have hlen := rowCells0_length cols
          refine ⟨.sh (rowLen0 cols) (rowCells0 cols), ?_, sh_rc cols⟩
          simp only [share, hlb]
          rw [if_pos (by rw [hlen, hsz]; omega), List.drop_zero, List.take_of_length_le (by rw [hlen, hsz]; exact Nat.le_refl _), show share.shareAll (share _ k) _ = some (rowCells0 cols, []) from shareAll_v _ k _ fun d hd => rowCells0_v hd]
        · cases h
    | _ => simp [shareX] at h

mutual
/-- Fresh slices become blocks, with names from 'id' on. -/
def thawX (id : Nat) : D → D × List BX
  | .ow n sz cs => (.sl id 0 n ⟨sz, 0⟩, [.cells cs false])
  | .oc cs => (.sl id 0 (rowLen0 cs) ⟨cs.length, 0⟩, [.row cs false])
  | .agg cs => (.agg (thawXL id cs).1, (thawXL id cs).2)
  | .tup cs => (.tup (thawXL id cs).1, (thawXL id cs).2)
  | d => (d, [])
def thawXL (id : Nat) : List D → List D × List BX
  | [] => ([], [])
  | d :: ds => ((thawX id d).1 :: (thawXL (id + (thawX id d).2.length) ds).1, (thawX id d).2 ++ (thawXL (id + (thawX id d).2.length) ds).2)
end

mutual
theorem thawX_spec : ∀ (d : D) (id : Nat), (thawX id d).1 = (thaw id d).1 ∧ (thawX id d).2.map BX.blk = (thaw id d).2.map fun cs => ⟨cs, false⟩
  | .ow n sz cs, id => by simp [thawX, thaw, BX.blk]
  | .oc cs, id => by simp [thawX, thaw, BX.blk]
  | .agg cs, id => by have := thawXL_spec cs id; simp only [thawX, thaw, this.1, true_and]; exact this.2
  | .tup cs, id => by have := thawXL_spec cs id; simp only [thawX, thaw, this.1, true_and]; exact this.2
  | .undef, id => by simp [thawX, thaw]
  | .v _, id => by simp [thawX, thaw]
  | .emp, id => by simp [thawX, thaw]
  | .sh _ _, id => by simp [thawX, thaw]
  | .sl _ _ _ _, id => by simp [thawX, thaw]
  | .ptr _ _, id => by simp [thawX, thaw]
  | .pel _ _ _ _, id => by simp [thawX, thaw]
  | .shp _ _, id => by simp [thawX, thaw]
  | .fn _ _, id => by simp [thawX, thaw]
  | .yld, id => by simp [thawX, thaw]
  | .rc _, id => by simp [thawX, thaw]
theorem thawXL_spec : ∀ (ds : List D) (id : Nat), (thawXL id ds).1 = (thawL id ds).1 ∧ (thawXL id ds).2.map BX.blk = (thawL id ds).2.map fun cs => ⟨cs, false⟩
  | [], id => by simp [thawXL, thawL]
  | d :: ds, id => by
    have h1 := thawX_spec d id
    have hlen : (thawX id d).2.length = (thaw id d).2.length := by have := congrArg List.length h1.2; simpa using this
    have h2 := thawXL_spec ds (id + (thawX id d).2.length)
    rw [hlen] at h2
    simp only [thawXL, thawL, hlen, h1.1, h2.1, List.map_append, h1.2, h2.2, and_self]
end

def putBlocksX (c : Cf) (id : Nat) : List BX → Cf
  | [] => c
  | b :: bs => putBlocksX ((c.forget id).setB id b) (id + 1) bs

theorem putBlocksX_abs : ∀ (bs : List BX) (cs : List (List D)) (c : Cf) (id : Nat), bs.map BX.blk = cs.map (fun cs => ⟨cs, false⟩) → (putBlocksX c id bs).abs = putBlocks c.abs id cs
  | [], [], _, _, _ => rfl
  | b :: bs, x :: cs, c, id, h => by
    simp only [List.map_cons, List.cons.injEq] at h
    simp only [putBlocksX, putBlocks, putBlocksX_abs bs cs _ _ h.2, abs_setB, abs_forget, h.1]
  | [], _ :: _, _, _, h => by simp at h
  | _ :: _, [], _, _, h => by simp at h

/-- Contracts: what a function answers, and what has to hold for that. -/
inductive Con where
  | call (g : List D → Option (D × List Prop))
  | ext (g : List Value → Option (Value × List Prop))
abbrev Contracts := FuncId → Option Con

structure ConOK (P : Program) (X : Contracts) : Prop where
  call : ∀ f g, X f = some (.call g) → ∀ args res l, g args = some (res, l) → AllP l → CallsD P f args res
  ext : ∀ f g, X f = some (.ext g) → ∀ vs u l, g vs = some (u, l) → AllP l → pureRun P (callFunc f vs.toArray) = some (.value u)

/-- What a function without a body answers. -/
def extX (P : Program) (X : Contracts) (f : FuncId) (vs : List Value) : Option (Value × List Prop) :=
  match X f with
  | some (.ext g) => g vs
  | _ => match pureRun P (callFunc f vs.toArray) with
    | some (.value u) => some (u, [])
    | _ => none

theorem extX_spec {P : Program} {X : Contracts} (hX : ConOK P X) {f : FuncId} {vs : List Value} {u : Value} {l : List Prop} (h : extX P X f vs = some (u, l)) (hl : AllP l) : pureRun P (callFunc f vs.toArray) = some (.value u) := by
  unfold extX at h
  split at h
  next g hg => exact hX.ext f g hg vs u l h hl
  · split at h
    next u' hu => simp only [Option.some.injEq, Prod.mk.injEq] at h; obtain ⟨rfl, rfl⟩ := h; exact hu
    · cases h

def callOf (X : Contracts) (f : FuncId) : Option (List D → Option (D × List Prop)) :=
  match X f with
  | some (.call g) => some g
  | _ => none
theorem callOf_spec {X : Contracts} {f : FuncId} {g : List D → Option (D × List Prop)} (h : callOf X f = some g) : X f = some (.call g) := by
  unfold callOf at h
  split at h
  next g' hg => simp only [Option.some.injEq] at h; subst h; exact hg
  · cases h

def callX (X : List D → Option (D × List Prop)) (c : Cf) (dst : Option Tmp) (id : Nat) (args : List D) : Option Cf :=
  match shareAllX (shareX c.bk depth) args with
  | none => none
  | some (as, passed, l) => match X as with
    | none => none
    | some (res, l') => some (((putBlocksX (bif flat res then c else c.markRo passed) id (thawX id res).2).put dst (thawX id res).1).owe (l ++ l'))

@[simp] theorem cds_put (c : Cf) (dst : Option Tmp) (d : D) : (c.put dst d).cds = c.cds := by cases dst <;> rfl
@[simp] theorem cds_setB (c : Cf) (i : Nat) (b : BX) : (c.setB i b).cds = c.cds := rfl
@[simp] theorem cds_forget (c : Cf) (i : Nat) : (c.forget i).cds = c.cds := rfl
@[simp] theorem cds_ro (c : Cf) (ids : List Nat) : (c.markRo ids).cds = c.cds := rfl
@[simp] theorem cds_owe (c : Cf) (l : List Prop) : (c.owe l).cds = l ++ c.cds := rfl
@[simp] theorem cds_blocks : ∀ (bs : List BX) (c : Cf) (id : Nat), (putBlocksX c id bs).cds = c.cds
  | [], _, _ => rfl
  | b :: bs, c, id => by simp [putBlocksX, cds_blocks bs]

theorem callX_spec {P : Program} {X : List D → Option (D × List Prop)} {f : FuncId} (hX : ∀ args res l, X args = some (res, l) → AllP l → CallsD P f args res) {c c' : Cf} {dst : Option Tmp} {id : Nat} {args : List D}
    (h : callX X c dst id args = some c') (hl : AllP c'.cds) : AllP c.cds ∧ CallD (CallsD P) c.abs dst id f args c'.abs := by
  unfold callX at h
  split at h
  · cases h
  next as passed l h1 =>
    split at h
    · cases h
    next res l' h2 =>
      simp only [Option.some.injEq] at h; subst h
      have hc : AllP (l ++ l' ++ c.cds) := by
        have := hl
        simp only [cds_owe, cds_put, cds_blocks] at this
        cases hf : flat res <;> simpa [hf] using this
      rw [AllP_append, AllP_append] at hc
      obtain ⟨⟨hl1, hl2⟩, hl3⟩ := hc
      obtain ⟨as', k1, k2⟩ := shareAllX_spec (fun d e ids l h hl => shareX_spec depth d e ids l h hl) args as passed l h1 hl1
      refine ⟨hl3, as', passed, res, k1, fun w A vs hv low glo => hX as res l' h2 hl2 w A vs (k2.repL hv) low glo, ?_⟩
      have ht := thawX_spec res id
      rw [abs_owe, abs_put, putBlocksX_abs _ _ _ _ ht.2, ht.1]
      cases flat res <;> simp [abs_ro]
end
end Go.Dam
