/- The engine: an abstract machine for the program's functions, proved right against the model. No condition. -/
import Derived.Test.YtakcfkmfiamliaaDamXR
set_option linter.unusedSectionVars false
set_option linter.unusedVariables false
set_option linter.unusedSimpArgs false
section
namespace Go.Dam
open Go Go.RowKit
variable [Glo]
noncomputable section
/-- Cells of an element, read. -/
def rowTake (P : Program) (t : TypeId) (cols : List Col0) (i w j : Nat) : Option (D × List Prop) :=
 match infoD P t with
 | none => none
 | some (sz, d) => bif Nat.beq w cols.length then
   bif aggD d then (bif Nat.blt 0 sz && Nat.ble (j + sz) cols.length then some (.agg (((cols.drop j).take sz).map (fun c => D.v (c.val i))), [i < rowLen0 cols]) else none)
   else match cols[j]? with
    | some c => some (.v (c.val i), [i < rowLen0 cols])
    | none => none
  else none
theorem rowTake_spec {P : Program} {t : TypeId} {cols : List Col0} {i w j : Nat} {d : D} {l : List Prop} (h : rowTake P t cols i w j = some (d, l)) (hl : AllP l) : takeD P t (rowCells0 cols) (i * w + j) = some d := by
 unfold rowTake at h
 unfold takeD
 split at h
 ·cases h
 next sz td hi =>
  simp only [cond_eq_ite] at h
  rw [hi]
  simp only []
  split at h
  next hw =>
   obtain rfl := Nat.eq_of_beq_eq_true hw
   split at h
   next ha =>
    split at h
    next hb =>
     simp only [Option.some.injEq, Prod.mk.injEq] at h; obtain ⟨rfl, rfl⟩ := h
     simp only [Bool.and_eq_true] at hb
     have b1 : 0 < sz := by have := hb.1; simpa [Nat.blt_eq] using this
     have b2 : j + sz ≤ cols.length := Nat.le_of_ble_eq_true hb.2
     have hlt : i < rowLen0 cols := hl.1
     rw [if_pos ha]
     rw [if_pos ⟨b1, by
      rw [rowCells0_length]
      have : (i + 1) * cols.length ≤ rowLen0 cols * cols.length := Nat.mul_le_mul_right _ hlt
      rw [Nat.add_mul, Nat.one_mul] at this
      omega⟩, rc0_slice hlt b2]
    ·cases h
   next ha =>
    rw [if_neg ha]
    split at h
    next c hc =>
     simp only [Option.some.injEq, Prod.mk.injEq] at h; obtain ⟨rfl, rfl⟩ := h
     exact rowCells0_get hl.1 hc
    ·cases h
  ·cases h
theorem rowCells0_one {cols : List Col0} : (rowCells0 cols).all D.one = true := by
 rw [List.all_eq_true]
 intro d hd
 simp only [rowCells0, rowCells, List.mem_flatMap, List.mem_map, List.map_map, Function.comp] at hd
 obtain ⟨i, _, c, _, rfl⟩ := hd
 cases c <;> rfl
/-! Columns, joined. -/
def Col0.join : Col0 → Col0 → Option Col0
 | .ints k xs, .ints k' ys => if k' = k then some (.ints k (xs ++ ys)) else none
 | .bools xs, .bools ys => some (.bools (xs ++ ys))
 | _, _ => none
def joinCols : List Col0 → List Col0 → Option (List Col0)
 | [], [] => some []
 | c :: cs, d :: ds => match c.join d, joinCols cs ds with
  | some e, some es => some (e :: es)
  | _, _ => none
 | _, _ => none
theorem getD_app {α : Type} (xs ys : List α) (k : Nat) (z : α) : (xs ++ ys).getD k z = if k < xs.length then xs.getD k z else ys.getD (k - xs.length) z := by
 rw [List.getD_eq_getElem?_getD]
 split
 next h => rw [List.getElem?_append_left h, List.getD_eq_getElem?_getD]
 next h => rw [List.getElem?_append_right (by omega), List.getD_eq_getElem?_getD]
theorem join_val {c d e : Col0} (h : c.join d = some e) : e.len = c.len + d.len ∧ ∀ k, e.val k = if k < c.len then c.val k else d.val (k - c.len) := by
 cases c <;> cases d <;> simp only [Col0.join] at h
 ·split at h
  next ek =>
   simp at h; subst h; subst ek
   refine ⟨by simp [Col0.len], fun k => ?_⟩
   simp only [Col0.val, Col0.len, getD_app]
   split <;> (rename_i hh; simp only [hh, if_true, if_false])
  ·cases h
 ·cases h
 ·cases h
 ·simp at h; subst h
  refine ⟨by simp [Col0.len], fun k => ?_⟩
  simp only [Col0.val, Col0.len, getD_app]
  split <;> (rename_i hh; simp only [hh, if_true, if_false])
theorem joinCols_spec : ∀ {cs ds es : List Col0} {n m : Nat}, joinCols cs ds = some es → (∀ c ∈ cs, c.len = n) → (∀ d ∈ ds, d.len = m) →
  es.length = cs.length ∧ ds.length = cs.length ∧ (∀ e ∈ es, e.len = n + m) ∧ ∀ (b : Nat) (e : Col0), es[b]? = some e → ∃ c d, cs[b]? = some c ∧ ds[b]? = some d ∧ ∀ k, k < n + m → e.val k = if k < n then c.val k else d.val (k - n)
 | [], [], es, n, m, h, _, _ => by simp [joinCols] at h; subst h; exact ⟨rfl, rfl, by simp, by simp⟩
 | [], _ :: _, es, n, m, h, _, _ => by simp [joinCols] at h
 | _ :: _, [], es, n, m, h, _, _ => by simp [joinCols] at h
 | c :: cs, d :: ds, es, n, m, h, h1, h2 => by
  simp only [joinCols] at h
  split at h
  next e es' he hes =>
   simp at h; subst h
   obtain ⟨a1, a2⟩ := join_val he
   obtain ⟨b1, b2, b3, b4⟩ := joinCols_spec hes (fun c hc => h1 c (by simp [hc])) (fun d hd => h2 d (by simp [hd]))
   have c1 := h1 c (by simp)
   have d1 := h2 d (by simp)
   refine ⟨by simp [b1], by simp [b2], fun e' he' => ?_, fun b e' hb => ?_⟩
   ·rcases List.mem_cons.1 he' with rfl | he'
    ·omega
    ·exact b3 e' he'
   ·cases b with
    | zero =>
     simp at hb; subst hb
     exact ⟨c, d, rfl, rfl, fun k hk => by rw [a2 k, c1]⟩
    | succ b =>
     simp at hb
     obtain ⟨c', d', k1, k2, k3⟩ := b4 b e' hb
     exact ⟨c', d', by simpa using k1, by simpa using k2, k3⟩
  ·cases h
theorem joinCols_cells {cs ds es : List Col0} {n m : Nat} (hne : cs ≠ []) (h : joinCols cs ds = some es) (h1 : ∀ c ∈ cs, c.len = n) (h2 : ∀ d ∈ ds, d.len = m) : rowCells0 es = rowCells0 cs ++ rowCells0 ds := by
 obtain ⟨a1, a2, a3, a4⟩ := joinCols_spec h h1 h2
 have hw : 0 < cs.length := List.length_pos_iff.2 hne
 have hne' : es ≠ [] := fun e => hne (List.length_eq_zero_iff.1 (by rw [← a1, e]; rfl))
 have hne2 : ds ≠ [] := fun e => hne (List.length_eq_zero_iff.1 (by rw [← a2, e]; rfl))
 have e1 := rowLen0_of hne h1
 have e2 := rowLen0_of hne2 h2
 have e3 := rowLen0_of hne' a3
 apply List.ext_getElem?
 intro x
 rw [rc0_get, a1, e3]
 by_cases hx : x < (n + m) * cs.length
 ·rw [if_pos hx]
  have hb : x % cs.length < es.length := by rw [a1]; exact Nat.mod_lt _ hw
  have he : es[x % cs.length]? = some es[x % cs.length] := List.getElem?_eq_getElem hb
  obtain ⟨c, d, k1, k2, k3⟩ := a4 _ _ he
  have hq : x / cs.length < n + m := by rw [Nat.div_lt_iff_lt_mul hw]; exact hx
  rw [he, Option.map_some, k3 _ hq]
  by_cases hc : x < n * cs.length
  ·have hqn : x / cs.length < n := by rw [Nat.div_lt_iff_lt_mul hw]; exact hc
   rw [List.getElem?_append_left (by rw [rowCells0_length, e1]; exact hc), rc0_get, e1, if_pos hc, k1, if_pos hqn]; rfl
  ·have hqn : ¬ x / cs.length < n := fun q => hc (by rw [Nat.div_lt_iff_lt_mul hw] at q; exact q)
   rw [List.getElem?_append_right (by rw [rowCells0_length, e1]; omega), rowCells0_length, e1, rc0_get, e2, a2]
   have ex : x = n * cs.length + (x - n * cs.length) := by omega
   have em : (x - n * cs.length) % cs.length = x % cs.length := by
    rw [← Nat.mul_add_mod cs.length n (x - n * cs.length)]
    congr 1
    rw [Nat.mul_comm]; omega
   have ed : (x - n * cs.length) / cs.length = x / cs.length - n := by
    have := Nat.mul_add_div hw n (x - n * cs.length)
    rw [show cs.length * n + (x - n * cs.length) = x by rw [Nat.mul_comm]; omega] at this
    omega
   have hx2 : x - n * cs.length < m * cs.length := by
    rw [Nat.add_mul] at hx
    omega
   rw [if_pos hx2, em, ed, k2, if_neg hqn]; rfl
 ·rw [if_neg hx]
  symm
  apply List.getElem?_eq_none
  rw [List.length_append, rowCells0_length, rowCells0_length, e1, e2, a2, ← Nat.add_mul]
  omega
/-- One element's cells as columns, of the kinds that some have. -/
def Col0.like (d : D) : Col0 → Option Col0
 | .ints k _ => match d with
  | .v (.int k' n) => if k' = k then some (.ints k [n]) else none
  | _ => none
 | .bools _ => match d with
  | .v (.bool b) => some (.bools [b])
  | _ => none
def likeCols : List Col0 → List D → Option (List Col0)
 | [], [] => some []
 | c :: cs, d :: ds => match c.like d, likeCols cs ds with
  | some e, some es => some (e :: es)
  | _, _ => none
 | _, _ => none
theorem like_val {d : D} {c e : Col0} (h : c.like d = some e) : e.len = 1 ∧ D.v (e.val 0) = d := by
 cases c <;> simp only [Col0.like] at h <;> split at h
 ·split at h
  ·simp at h; subst h; subst_vars; exact ⟨rfl, rfl⟩
  ·cases h
 ·cases h
 ·simp at h; subst h; exact ⟨rfl, rfl⟩
 ·cases h
theorem likeCols_spec : ∀ {cs es : List Col0} {ds : List D}, likeCols cs ds = some es → es.length = cs.length ∧ (∀ e ∈ es, e.len = 1) ∧ es.map (fun e => D.v (e.val 0)) = ds
 | [], es, [], h => by simp [likeCols] at h; subst h; exact ⟨rfl, by simp, rfl⟩
 | [], es, _ :: _, h => by simp [likeCols] at h
 | _ :: _, es, [], h => by simp [likeCols] at h
 | c :: cs, es, d :: ds, h => by
  simp only [likeCols] at h
  split at h
  next e es' he hes =>
   simp at h; subst h
   obtain ⟨a1, a2⟩ := like_val he
   obtain ⟨b1, b2, b3⟩ := likeCols_spec hes
   refine ⟨by simp [b1], fun e' he' => ?_, by simp [a2, b3]⟩
   rcases List.mem_cons.1 he' with rfl | he'
   ·exact a1
   ·exact b2 e' he'
  ·cases h
theorem likeCols_cells {cs es : List Col0} {ds : List D} (hne : cs ≠ []) (h : likeCols cs ds = some es) : rowCells0 es = ds := by
 obtain ⟨a1, a2, a3⟩ := likeCols_spec h
 have hne' : es ≠ [] := fun e => hne (List.length_eq_zero_iff.1 (by rw [← a1, e]; rfl))
 have e1 := rowLen0_of hne' a2
 unfold rowCells0 rowCells
 rw [rowLen_up, e1]
 simp only [List.range_one, List.flatMap_cons, List.flatMap_nil, List.append_nil, List.map_map]
 rw [← a3]
 apply List.map_congr_left
 intro c _
 cases c <;> rfl
end
end Go.Dam
end

section
namespace Go.Dam
open Go Go.RowKit
variable [Glo]
noncomputable section
/-! A slot told in other words; a block that is held on to. -/
section
variable {w : World} {A : Nat → Prop} {β : Env} {base : Nat} {σ : St} {tmps : Array Value} {acts : List (Array Value)}
/-- A block, held on to while all that speaks of it is forgotten. -/
theorem Rel.again (h : Rel w A β base σ tmps acts) (i : Nat) {b : Blk} (hb : σ.bk i = some b) (k : Nat) : Rel w A β base ((σ.forget i).setB i ⟨b.cells.take k, b.ro⟩) tmps acts := by
 have h1 := h.forget i
 refine ⟨h1.fr, h1.stk, fun k b' hk => ?_, fun x y a c hx hy ha hc hac => ?_, h1.low, h1.top, h1.glo, h1.lp⟩
 ·simp only [St.setB] at hk
  split at hk
  next e =>
   simp at hk; subst hk; subst e
   rcases h.blk _ b hb with ⟨k1, k2⟩ | ⟨ad, k1, k2⟩
   ·exact .inl ⟨k1, by simp [k2]⟩
   ·exact .inr ⟨ad, k1, ⟨k2.spot, k2.base, k2.obj, k2.cells.take k2.spot _, k2.own, k2.shared, k2.inside⟩⟩
  next e => exact h1.blk _ b' hk
 ·refine h.inj x y a c ?_ ?_ ha hc hac
  ·by_cases e : x = i
   ·subst e; simp [hb]
   ·simp only [St.setB, if_neg e, St.forget] at hx; intro q; simp [q] at hx
  ·by_cases e : y = i
   ·subst e; simp [hb]
   ·simp only [St.setB, if_neg e, St.forget] at hy; intro q; simp [q] at hy
end
/-- Nothing appended: the slice itself. -/
theorem weaker_same {σ : St} {t i : Nat} {b : Blk} {n off k : Nat} {sz : Sz} {s : Nat} (hb : σ.bk i = some b) (hs : sz.s = s) : Weaker (σ.put (some t) (.sl i off n sz)) (((σ.forget i).setB i ⟨b.cells.take k, b.ro⟩).put (some t) (.sl i off n ⟨s, 0⟩)) := by
 intro w A β base tmps acts h
 refine ⟨β, ?_⟩
 rw [← put_retm_again σ t i (.sl i off n sz) _ ⟨b.cells.take k, b.ro⟩]
 have h1 := h.again i (b := b) hb k
 refine h1.retm t _ fun hl => ?_
 have hl : t < σ.fr.nt := hl
 have hu := h.fr.tm t
 have e : ((σ.put (some t) (.sl i off n sz)).fr.tm t) = .sl i off n sz := by
  show (if t = t then (if t < σ.fr.nt then D.sl i off n sz else .undef) else σ.fr.tm t) = _
  rw [if_pos rfl, if_pos hl]
 rw [e] at hu
 simp only [Rep] at hu ⊢
 obtain ⟨o, c, hu, hc⟩ := hu
 refine ⟨o, c, hu, ?_⟩
 subst hs
 rcases hc with ⟨h2, h3⟩ | ⟨h2, ad, h3, h4, h5⟩
 ·exact .inl ⟨by omega, h3⟩
 ·exact .inr ⟨by show max n 0 ≤ c; omega, ad, h3, h4, h5⟩
theorem retm_put (σ : St) (t i : Nat) (d : D) (b : Blk) : (((σ.forget i).setB i b).retm t d) = (((σ.forget i).setB i b).put (some t) d) := rfl
theorem weaker_nil {σ : St} {t i : Nat} {s : Nat} (hx : σ.fr.tm t = .emp ∨ σ.fr.tm t = .v (.slice none 0 0)) : Weaker σ (((σ.forget i).setB i ⟨[], false⟩).put (some t) (.sl i 0 0 ⟨s, 0⟩)) := by
 intro w A β base tmps acts h
 obtain ⟨β', hb', h1⟩ := h.empty i
 refine ⟨β', ?_⟩
 rw [← retm_put σ t i _ ⟨[], false⟩]
 refine h1.retm t _ fun hl => ?_
 have hu := h.fr.tm t
 simp only [Rep]
 rcases hx with e | e
 ·rw [e] at hu
  simp only [Rep, RepS] at hu
  obtain ⟨ad, hu⟩ := hu
  exact ⟨some ad, 0, hu, .inl ⟨by simp, rfl⟩⟩
 ·rw [e] at hu
  simp only [Rep, RepS] at hu
  exact ⟨none, 0, hu, .inl ⟨by simp, rfl⟩⟩
/-- A cell of a block, told in other words. -/
theorem Rel.recell {w : World} {A : Nat → Prop} {β : Env} {base : Nat} {σ : St} {tmps : Array Value} {acts : List (Array Value)} (h : Rel w A β base σ tmps acts) {b off : Nat} {d : D} {cs : List D} {ro : Bool} (hb : σ.bk b = some ⟨cs, ro⟩)
  (hd : ∀ ad u, β b = some ad → w.cell? (plusOff ad off) = some u → Rep w A β d u) : Rel w A β base (σ.setB b ⟨cs.set off d, ro⟩) tmps acts := by
 refine ⟨h.fr, h.stk, fun k b' hk => ?_, fun x y a c hx hy ha hc hac => ?_, h.low, h.top, h.glo, h.lp⟩
 ·simp only [St.setB] at hk
  split at hk
  next e =>
   simp at hk; subst hk; subst e
   rcases h.blk _ _ hb with ⟨k1, k2⟩ | ⟨ad, k1, k2⟩
   ·simp only at k2
    exact .inl ⟨k1, by simp [k2]⟩
   ·refine .inr ⟨ad, k1, ⟨k2.spot, k2.base, k2.obj, ?_, k2.own, k2.shared, k2.inside⟩⟩
    have hcs := k2.cells
    simp only at hcs ⊢
    refine CellsAt.of_get k2.spot fun j d' hj => ?_
    rw [List.getElem?_set] at hj
    split at hj
    next ej =>
     split at hj
     next hl =>
      simp at hj; subst hj; subst ej
      obtain ⟨u, q1, _⟩ := hcs.get k2.spot off _ (List.getElem?_eq_getElem hl)
      exact ⟨u, q1, hd ad u k1 q1⟩
     ·cases hj
    ·exact hcs.get k2.spot j d' hj
  next e => exact h.blk _ b' hk
 ·refine h.inj x y a c ?_ ?_ ha hc hac
  ·by_cases e : x = b
   ·subst e; simp [hb]
   ·simpa only [St.setB, if_neg e] using hx
  ·by_cases e : y = b
   ·subst e; simp [hb]
   ·simpa only [St.setB, if_neg e] using hy
/-- What is empty in a cell of a block, as a slice of a block of nothing. -/
theorem weaker_cnil {σ : St} {b off i : Nat} {s : Nat} {cs : List D} {ro : Bool} (hbi : b ≠ i) (hb : σ.bk b = some ⟨cs, ro⟩) (hx : cs[off]? = some .emp ∨ cs[off]? = some (.v (.slice none 0 0))) :
  Weaker σ (((σ.forget i).setB i ⟨[], false⟩).setB b ⟨(cs.map (D.forget i)).set off (.sl i 0 0 ⟨s, 0⟩), ro⟩) := by
 intro w A β base tmps acts h
 obtain ⟨β', hb', h1, hsame⟩ := h.empty' i
 refine ⟨β', ?_⟩
 have hb2 : ((σ.forget i).setB i ⟨[], false⟩).bk b = some ⟨cs.map (D.forget i), ro⟩ := by
  simp only [St.setB, if_neg hbi, St.forget, hb, Option.map_some]; rfl
 refine h1.recell hb2 fun ad u had hu => ?_
 rw [hsame b hbi] at had
 rcases h.blk _ _ hb with ⟨k1, _⟩ | ⟨ad', k1, k2⟩
 ·rw [k1] at had; cases had
 rw [k1] at had; cases had
 have hcs := k2.cells
 simp only at hcs
 simp only [Rep]
 rcases hx with e | e
 ·obtain ⟨u', q1, q2⟩ := hcs.get k2.spot off _ e
  rw [q1] at hu; cases hu
  simp only [Rep, RepS] at q2
  obtain ⟨ad2, hu⟩ := q2
  exact ⟨some ad2, 0, hu, .inl ⟨by simp, rfl⟩⟩
 ·obtain ⟨u', q1, q2⟩ := hcs.get k2.spot off _ e
  rw [q1] at hu; cases hu
  simp only [Rep, RepS] at q2
  exact ⟨none, 0, q2, .inl ⟨by simp, rfl⟩⟩
/-! Where elements come from. -/
def downs : List Col → Option (List Col0)
 | [] => some []
 | .ints k xs :: l => match downs l with
  | some r => some (.ints k xs :: r)
  | none => none
 | .bools xs :: l => match downs l with
  | some r => some (.bools xs :: r)
  | none => none
 | .rows _ _ :: _ => none
theorem downs_spec : ∀ {cs : List Col} {c0 : List Col0}, downs cs = some c0 → cs = c0.map Col0.up
 | [], c0, h => by simp [downs] at h; subst h; rfl
 | .ints k xs :: l, c0, h => by
  simp only [downs] at h
  split at h
  next r hr => simp at h; subst h; simp [downs_spec hr, Col0.up]
  ·cases h
 | .bools xs :: l, c0, h => by
  simp only [downs] at h
  split at h
  next r hr => simp at h; subst h; simp [downs_spec hr, Col0.up]
  ·cases h
 | .rows _ _ :: _, c0, h => by simp [downs] at h
def srcX (bk : List (Nat × BX)) (size : Nat) : D → Option (Nat × List Col0 × List Prop)
 | .rc cs => match downs cs with
  | some c0 => bif Nat.beq c0.length size then some (rowLen0 c0, c0, lensOf (rowLen0 c0) c0) else none
  | none => none
 | .sl id off n sz => match lookX id bk with
  | some (.row c0 _) => bif Nat.beq off 0 && (Nat.beq sz.s size && Nat.beq c0.length size) then some (rowLen0 c0, c0, (n = rowLen0 c0) :: lensOf (rowLen0 c0) c0) else none
  | _ => none
 | _ => none
theorem srcX_spec {bk : List (Nat × BX)} {size m : Nat} {x : D} {c0 : List Col0} {l : List Prop} (h : srcX bk size x = some (m, c0, l)) (hl : AllP l) :
  x.elems (fun i => lookB i bk) size = some (m, rowCells0 c0) ∧ c0.length = size ∧ (∀ c ∈ c0, c.len = m) ∧ m = rowLen0 c0 := by
 cases x with
 | rc cs =>
  simp only [srcX] at h
  split at h
  next c1 hd =>
   simp only [cond_eq_ite] at h
   split at h
   next hb =>
    simp only [Option.some.injEq, Prod.mk.injEq] at h; obtain ⟨rfl, rfl, rfl⟩ := h
    have hsz := Nat.eq_of_beq_eq_true hb
    have := downs_spec hd; subst this
    refine ⟨?_, hsz, lensOf_all hl, rfl⟩
    simp only [D.elems]
    rw [if_pos (by simpa using hsz), rowLen_up]
   ·cases h
  ·cases h
 | sl id off n sz =>
  simp only [srcX] at h
  split at h
  next c1 ro hb =>
   simp only [cond_eq_ite] at h
   split at h
   next hc =>
    simp only [Option.some.injEq, Prod.mk.injEq] at h; obtain ⟨rfl, rfl, rfl⟩ := h
    simp only [Bool.and_eq_true] at hc
    obtain rfl := Nat.eq_of_beq_eq_true hc.1
    have e1 := Nat.eq_of_beq_eq_true hc.2.1
    have e2 := Nat.eq_of_beq_eq_true hc.2.2
    obtain ⟨hn, hl2⟩ := hl
    subst hn
    refine ⟨?_, e2, lensOf_all hl2, rfl⟩
    have hlk : lookB id bk = some ⟨rowCells0 c1, ro⟩ := by unfold lookB; rw [hb]; rfl
    simp only [D.elems, hlk]
    have hlen := rowCells0_length c1
    rw [if_pos ⟨e1, by rw [hlen, e2]; omega⟩, List.drop_zero, List.take_of_length_le (by rw [hlen, e2]; exact Nat.le_refl _)]
   ·cases h
  ·cases h
 | _ => simp [srcX] at h
end
end Go.Dam
end

section
namespace Go.Dam
open Go Go.RowKit
variable [Glo]
noncomputable section
/-! ### The operations on own rows -/
def rowIdxX (P : Program) (bk : List (Nat × BX)) (t : TypeId) (x ix : D) : Option OX :=
 match x, ix with
 | .sl id off n sz, .v (.int _ i) => match lookX id bk, P.underlying t with
  | some (.row _ _), some (.slice elem) => match P.info? elem with
   | some j => some (.val (.pel id i.toNat j.size off), [decide (0 ≤ i) = true, decide (i < (n : Int)) = true])
   | none => none
  | _, _ => none
 | _, _ => none
def rowLoadX (P : Program) (bk : List (Nat × BX)) (t : TypeId) (a : D) : Option OX :=
 match a with
 | .pel id i w j => match lookX id bk with
  | some (.row cols _) => match rowTake P t cols i w j with
   | some (d, l) => some (.val d, l)
   | none => none
  | _ => none
 | _ => none
def opY (P : Program) (bk : List (Nat × BX)) (ρ : Operand → D) (ty : TypeId) (op : Op) : Option OX :=
 match op with
 | .indexAddr t x ix => match rowIdxX P bk t (ρ x) (ρ ix) with
  | some r => some r
  | none => opX P (fun i => lookB i bk) ρ ty (.indexAddr t x ix)
 | .load t a => match rowLoadX P bk t (ρ a) with
  | some r => some r
  | none => opX P (fun i => lookB i bk) ρ ty (.load t a)
 | op => opX P (fun i => lookB i bk) ρ ty op
theorem opY_spec {P : Program} {bk : List (Nat × BX)} {ρ : Operand → D} {ty : TypeId} {op : Op} {e : Eff} {l : List Prop} (h : opY P bk ρ ty op = some (e, l)) (hl : AllP l) : opD P (fun i => lookB i bk) ρ ty op = some e := by
 unfold opY at h
 split at h
 next t x ix =>
  split at h
  next r hr =>
   simp only [Option.some.injEq] at h; subst h
   unfold rowIdxX at hr
   split at hr
   next id off n sz k i hx hi =>
    split at hr
    next elem hlk hu =>
     split at hr
     next j hj =>
      simp only [Option.some.injEq, Prod.mk.injEq] at hr; obtain ⟨rfl, rfl⟩ := hr
      obtain ⟨h1, h2, _⟩ := hl
      have h1 := of_decide_eq_true h1
      have h2 := of_decide_eq_true h2
      simp only [opD, indexAddrD, hx, hi, indexAddrP, indexOf, hu, hj]
      rw [if_pos ⟨h1, h2⟩]
     ·cases hr
    ·cases hr
   ·cases hr
  ·exact opX_spec h hl
 next t a =>
  split at h
  next r hr =>
   simp only [Option.some.injEq] at h; subst h
   unfold rowLoadX at hr
   split at hr
   next id i w j ha =>
    split at hr
    next cols ro hlk =>
     split at hr
     next d l0 ht =>
      simp only [Option.some.injEq, Prod.mk.injEq] at hr; obtain ⟨rfl, rfl⟩ := hr
      have hlb : lookB id bk = some ⟨rowCells0 cols, ro⟩ := by unfold lookB; rw [hlk]; rfl
      simp only [opD, loadD, ha, D.behind, hlb, Option.map_some]
      rw [rowTake_spec ht hl]; rfl
     ·cases hr
    ·cases hr
   ·cases hr
  ·exact opX_spec h hl
 ·exact opX_spec h hl
/-- A store into an element. -/
def rowStore (P : Program) (c : Cf) (dst : Option Tmp) (t : TypeId) (a x : D) : Option (Cf × List Prop) :=
 match a with
 | .pel id i w j => match lookX id c.bk with
  | some (.row cols false) => match x.cells, P.info? t with
   | some ds, some inf => bif Nat.beq ds.length inf.size && (ds.all D.one && (Nat.beq w cols.length && (Nat.blt 0 ds.length && Nat.ble (j + ds.length) cols.length))) then
     match setCols i cols j ds with
     | some cols' => some ((c.setB id (.row cols' false)).put dst (.v undef), (i < rowLen0 cols) :: lensOf (rowLen0 cols) cols)
     | none => none
    else none
   | _, _ => none
  | _ => none
 | _ => none
theorem lookB_row {i : Nat} {l : List (Nat × BX)} {cols : List Col0} {ro : Bool} (h : lookX i l = some (.row cols ro)) : lookB i l = some ⟨rowCells0 cols, ro⟩ := by
 unfold lookB; rw [h]; rfl
@[simp] theorem cds_put' (c : Cf) (dst : Option Tmp) (d : D) : (c.put dst d).cds = c.cds := by cases dst <;> rfl
theorem rowStore_spec {P : Program} {c c' : Cf} {dst : Option Tmp} {t : TypeId} {a x : D} {l : List Prop} {id0 : Nat} (h : rowStore P c dst t a x = some (c', l)) (hl : AllP l) :
  ∃ e σ1, storeD P t a x = some e ∧ stepE c.abs dst id0 e = some σ1 ∧ Weaker σ1 c'.abs ∧ c'.cds = c.cds := by
 unfold rowStore at h
 split at h
 next id i w j =>
  split at h
  next cols hlk =>
   split at h
   next ds inf hds hinf =>
    simp only [cond_eq_ite] at h
    split at h
    next hc =>
     simp only [Bool.and_eq_true] at hc
     obtain ⟨h1, h2, h3, h4, h5⟩ := hc
     have e1 := Nat.eq_of_beq_eq_true h1
     obtain rfl := Nat.eq_of_beq_eq_true h3
     have h4 : 0 < ds.length := by simpa [Nat.blt_eq] using h4
     have h5 := Nat.le_of_ble_eq_true h5
     split at h
     next cols' hs =>
      simp only [Option.some.injEq, Prod.mk.injEq] at h; obtain ⟨rfl, rfl⟩ := h
      obtain ⟨hi, hl2⟩ := hl
      have hne : cols ≠ [] := by rintro rfl; simp only [List.length_nil] at h5; omega
      have hcells := setCols_cells hne hs (lensOf_all hl2) hi h5
      refine ⟨.sto id (i * cols.length + j) ds, _, ?_, ?_, Weaker.refl _, by simp [Cf.setB]⟩
      ·simp only [storeD, hds, hinf]
       rw [if_pos ⟨e1, h2⟩]
      ·simp only [stepE, show c.abs.bk id = some ⟨rowCells0 cols, false⟩ from lookB_row hlk]
       rw [if_pos ?_, abs_put, abs_setB]
       ·simp only [BX.blk, hcells]
       ·rw [rowCells0_length]
        have : (i + 1) * cols.length ≤ rowLen0 cols * cols.length := Nat.mul_le_mul_right _ hi
        rw [Nat.add_mul, Nat.one_mul] at this
        omega
     ·cases h
    ·cases h
   ·cases h
  ·cases h
 ·cases h
theorem rowStore_sto {P : Program} {c c' : Cf} {dst : Option Tmp} {t : TypeId} {a x : D} {l : List Prop} (h : rowStore P c dst t a x = some (c', l)) (hl : AllP l) :
  ∃ id i w j ds off cells, a = .pel id i w j ∧ x.cells = some ds ∧ storeD P t a x = some (.sto id off ds) ∧ c.abs.bk id = some ⟨cells, false⟩ ∧ off + ds.length ≤ cells.length ∧
   c'.abs = (c.abs.setB id ⟨splice cells off ds, false⟩).put dst (.v undef) ∧ c'.cds = c.cds := by
 unfold rowStore at h
 split at h
 next id i w j =>
  split at h
  next cols hlk =>
   split at h
   next ds inf hds hinf =>
    simp only [cond_eq_ite] at h
    split at h
    next hc =>
     simp only [Bool.and_eq_true] at hc
     obtain ⟨h1, h2, h3, h4, h5⟩ := hc
     have e1 := Nat.eq_of_beq_eq_true h1
     obtain rfl := Nat.eq_of_beq_eq_true h3
     have h4 : 0 < ds.length := by simpa [Nat.blt_eq] using h4
     have h5 := Nat.le_of_ble_eq_true h5
     split at h
     next cols' hs =>
      simp only [Option.some.injEq, Prod.mk.injEq] at h; obtain ⟨rfl, rfl⟩ := h
      obtain ⟨hi, hl2⟩ := hl
      have hne : cols ≠ [] := by rintro rfl; simp only [List.length_nil] at h5; omega
      have hcells := setCols_cells hne hs (lensOf_all hl2) hi h5
      refine ⟨id, i, cols.length, j, ds, i * cols.length + j, rowCells0 cols, rfl, hds, ?_, lookB_row hlk, ?_, ?_, by simp [Cf.setB]⟩
      ·simp only [storeD, hds, hinf]
       rw [if_pos ⟨e1, h2⟩]
      ·rw [rowCells0_length]
       have : (i + 1) * cols.length ≤ rowLen0 cols * cols.length := Nat.mul_le_mul_right _ hi
       rw [Nat.add_mul, Nat.one_mul] at this
       omega
      ·rw [abs_put, abs_setB]
       simp only [BX.blk, hcells]
     ·cases h
    ·cases h
   ·cases h
  ·cases h
 ·cases h
/-- A row of zeros. -/
def zeroCol (n : Nat) : D → Option Col0
 | .v (.int k x) => some (.ints k (List.replicate n x))
 | .v (.bool b) => some (.bools (List.replicate n b))
 | _ => none
def zeroCols (n : Nat) : List D → Option (List Col0)
 | [] => some []
 | d :: ds => match zeroCol n d, zeroCols n ds with
  | some c, some cs => some (c :: cs)
  | _, _ => none
theorem zeroCol_val {n : Nat} {d : D} {c : Col0} (h : zeroCol n d = some c) : c.len = n ∧ ∀ k, k < n → D.v (c.val k) = d := by
 unfold zeroCol at h
 split at h
 ·simp at h; subst h
  exact ⟨by simp [Col0.len], fun k hk => by simp [Col0.val, List.getD_eq_getElem?_getD, hk]⟩
 ·simp at h; subst h
  exact ⟨by simp [Col0.len], fun k hk => by simp [Col0.val, List.getD_eq_getElem?_getD, hk]⟩
 ·cases h
theorem zeroCols_spec {n : Nat} : ∀ {ds : List D} {cs : List Col0}, zeroCols n ds = some cs → cs.length = ds.length ∧ (∀ c ∈ cs, c.len = n) ∧ ∀ k, k < n → cs.map (fun c => D.v (c.val k)) = ds
 | [], cs, h => by simp [zeroCols] at h; subst h; simp
 | d :: ds, cs, h => by
  simp only [zeroCols] at h
  split at h
  next c cs' hc hcs =>
   simp at h; subst h
   obtain ⟨a1, a2⟩ := zeroCol_val hc
   obtain ⟨b1, b2, b3⟩ := zeroCols_spec hcs
   refine ⟨by simp [b1], fun c' hc' => ?_, fun k hk => by simp [a2 k hk, b3 k hk]⟩
   rcases List.mem_cons.1 hc' with rfl | hc'
   ·exact a1
   ·exact b2 c' hc'
  ·cases h
theorem zeroCols_cells {n : Nat} {ds : List D} {cs : List Col0} (hne : ds ≠ []) (h : zeroCols n ds = some cs) : rowCells0 cs = (List.replicate n ds).flatten := by
 obtain ⟨a1, a2, a3⟩ := zeroCols_spec h
 have hne' : cs ≠ [] := fun e => hne (List.length_eq_zero_iff.1 (by rw [← a1, e]; rfl))
 have e1 := rowLen0_of hne' a2
 unfold rowCells0 rowCells
 rw [rowLen_up, e1]
 have key : ∀ m, m ≤ n → (List.range m).flatMap (fun i => (cs.map Col0.up).map (Col.cell i)) = (List.replicate m ds).flatten := by
  intro m
  induction m with
  | zero => intro _; rfl
  | succ m ih =>
   intro hm
   rw [List.range_succ, List.flatMap_append, ih (by omega), List.replicate_succ', List.flatten_append]
   congr 1
   simp only [List.flatMap_cons, List.flatMap_nil, List.append_nil, List.flatten_cons, List.flatten_nil, List.map_map]
   rw [← a3 m (by omega)]
   apply List.map_congr_left
   intro c _
   cases c <;> rfl
 exact key n (Nat.le_refl _)
def rowMake (P : Program) (c : Cf) (dst : Option Tmp) (id : Nat) (t : TypeId) (len cap : D) : Option (Cf × List Prop) :=
 match len, cap, P.underlying t with
 | .v (.int _ p), .v (.int _ q), some (.slice elem) => match P.info? elem, zeroD P elem with
  | some j, some z => bif Nat.beq z.length j.size && Nat.blt 0 z.length then match zeroCols q.toNat z with
    | some cols => some (((c.forget id).setB id (.row cols false)).put dst (.sl id 0 p.toNat ⟨j.size, 0⟩), [decide (0 ≤ p) = true, p = q, q * j.bytes ≤ 2 ^ 40, q ≤ 2 ^ 40])
    | none => none
   else none
  | _, _ => none
 | _, _, _ => none
theorem rowMake_spec {P : Program} {c c' : Cf} {dst : Option Tmp} {id : Nat} {t : TypeId} {len cap : D} {l : List Prop} (h : rowMake P c dst id t len cap = some (c', l)) (hl : AllP l) :
  ∃ e σ1, makeSliceD P t len cap = some e ∧ stepE c.abs dst id e = some σ1 ∧ Weaker σ1 c'.abs ∧ c'.cds = c.cds := by
 unfold rowMake at h
 split at h
 next k p k' q elem hu =>
  split at h
  next j z hj hz =>
   simp only [cond_eq_ite] at h
   split at h
   next hc =>
    simp only [Bool.and_eq_true] at hc
    have e1 := Nat.eq_of_beq_eq_true hc.1
    have e2 : 0 < z.length := by simpa [Nat.blt_eq] using hc.2
    split at h
    next cols hcols =>
     simp only [Option.some.injEq, Prod.mk.injEq] at h; obtain ⟨rfl, rfl⟩ := h
     obtain ⟨h1, h2, h3, h4, _⟩ := hl
     have h1 := of_decide_eq_true h1
     subst h2
     refine ⟨.row (List.replicate p.toNat z).flatten p.toNat j.size, _, ?_, ?_, Weaker.refl _, by simp [Cf.setB, Cf.forget]⟩
     ·simp only [makeSliceD, hu, indexOf, hj, hz]
      rw [if_pos ⟨h1, Int.le_refl _, h3, h4, e1⟩]
     ·have hcells := zeroCols_cells (by intro e; rw [e] at e2; simp at e2) hcols
      simp only [stepE, abs_put, abs_setB, abs_forget, BX.blk]
      rw [← hcells, rowCells0_forget]
    ·cases h
   ·cases h
  ·cases h
 ·cases h
end
end Go.Dam
end

section
namespace Go.Dam
open Go Go.RowKit
variable [Glo]
noncomputable section
/-- The columns that a slice has by itself. -/
def baseX (bk : List (Nat × BX)) (size : Nat) (c0 : List Col0) (i n : Nat) : Option (List Col0 × List Prop) :=
 match lookX i bk with
 | some (.row cols false) => bif Nat.beq cols.length size then some (cols, (n = rowLen0 cols) :: lensOf (rowLen0 cols) cols) else none
 | some (.cells cs false) => match c0 with
  | [c] => match c.of (cs.take n) with
   | some c' => bif Nat.beq size 1 && Nat.ble n cs.length then some ([c'], []) else none
   | none => none
  | _ => none
 | _ => none
theorem baseX_spec {bk : List (Nat × BX)} {size i n : Nat} {c0 cols : List Col0} {l : List Prop} (h : baseX bk size c0 i n = some (cols, l)) (hl : AllP l) :
  ∃ cells, lookB i bk = some ⟨cells, false⟩ ∧ n * size ≤ cells.length ∧ cells.take (n * size) = rowCells0 cols ∧ cols.length = size ∧ (∀ c ∈ cols, c.len = n) := by
 unfold baseX at h
 split at h
 next cols1 hlk =>
  simp only [cond_eq_ite] at h
  split at h
  next hc =>
   simp only [Option.some.injEq, Prod.mk.injEq] at h; obtain ⟨rfl, rfl⟩ := h
   have e := Nat.eq_of_beq_eq_true hc
   obtain ⟨h1, h2⟩ := hl
   subst h1
   have hlen := rowCells0_length cols1
   refine ⟨rowCells0 cols1, lookB_row hlk, by rw [hlen, e]; exact Nat.le_refl _, List.take_of_length_le (by rw [hlen, e]; exact Nat.le_refl _), e, lensOf_all h2⟩
  ·cases h
 next cs hlk =>
  split at h
  next c =>
   split at h
   next c' ho =>
    simp only [cond_eq_ite] at h
    split at h
    next hc =>
     simp only [Option.some.injEq, Prod.mk.injEq] at h; obtain ⟨rfl, rfl⟩ := h
     simp only [Bool.and_eq_true] at hc
     obtain rfl := Nat.eq_of_beq_eq_true hc.1
     have hn := Nat.le_of_ble_eq_true hc.2
     obtain ⟨a1, a2⟩ := Col0.of_spec ho
     have hl' : (cs.take n).length = n := by simp; omega
     refine ⟨cs, lookB_cells hlk, by omega, ?_, rfl, fun c hc => ?_⟩
     ·rw [Nat.mul_one]
      apply List.ext_getElem?
      intro k
      rw [rc0_get]
      have e1 : rowLen0 [c'] = n := by show c'.len = n; rw [a1, hl']
      rw [e1]
      simp only [List.length_cons, List.length_nil, Nat.zero_add, Nat.mul_one, Nat.mod_one, Nat.div_one]
      by_cases hk : k < n
      ·rw [if_pos hk, a2 k (by rw [hl']; exact hk)]; rfl
      ·rw [if_neg hk]; exact List.getElem?_eq_none (by rw [hl']; omega)
     ·simp at hc; subst hc; rw [a1, hl']
    ·cases h
   ·cases h
  ·cases h
 ·cases h
/-- An append to a slice that has columns. -/
def appRow (P : Program) (c : Cf) (dst : Option Tmp) (bytes size i n m : Nat) (c0 : List Col0) (l : List Prop) : Option (Cf × List Prop) :=
 match dst, baseX c.bk size c0 i n with
 | some t, some (cols, l2) => match joinCols cols c0 with
  | some es => some (((c.forget i).setB i (.row es false)).put (some t) (.sl i 0 (n + m) ⟨size, 0⟩), ((n + m) * bytes ≤ 2 ^ 44) :: (l2 ++ l))
  | none => none
 | _, _ => none
def appFrom (P : Program) (c : Cf) (dst : Option Tmp) (id bytes size : Nat) (s x : D) : Option (Cf × List Prop) :=
 match srcX c.bk size x with
 | some (m, c0, l) => match s with
  | .v (.slice none 0 0) => some (((c.forget id).setB id (.row c0 false)).put dst (.sl id 0 m ⟨size, 0⟩), (m * bytes ≤ 2 ^ 44) :: l)
  | .emp => match dst with
   | some t => some (((c.forget id).setB id (.row c0 false)).put (some t) (.sl id 0 m ⟨size, 0⟩), (m * bytes ≤ 2 ^ 44) :: l)
   | none => none
  | .sl i off n sz => bif Nat.beq off 0 && Nat.beq sz.s size then appRow P c dst bytes size i n m c0 l else none
  | _ => none
 | none => match s with
  | .sl i off n sz => match lookX i c.bk with
   | some (.row cols false) => match x.elems c.look size with
    | some (1, ds) => match likeCols cols ds with
     | some c0 => bif Nat.beq off 0 && Nat.beq sz.s size then appRow P c dst bytes size i n 1 c0 [] else none
     | none => none
    | _ => none
   | _ => none
  | _ => none
def rowApp (P : Program) (c : Cf) (dst : Option Tmp) (id : Nat) (ts : List TypeId) (s x : D) : Option (Cf × List Prop) :=
 match ts with
 | [t, t2] => match P.underlying t, P.underlying t2 with
  | some (.slice e), some (.slice _) => match P.info? e with
   | some j => match j.zero with
    | some z => bif Nat.ble 1 j.bytes && (Nat.beq z.cells.size j.size && Nat.blt 0 j.size) then appFrom P c dst id j.bytes j.size s x else none
    | none => none
   | none => none
  | _, _ => none
 | _ => none
section
variable {P : Program} {c c' : Cf} {dst : Option Tmp} {id : Nat} {l : List Prop}
theorem appRow_spec {bytes size i n m : Nat} {sz : Sz} {c0 : List Col0} {l0 : List Prop} (hsz : sz.s = size) (h0 : c0.length = size) (hm : ∀ d ∈ c0, d.len = m) (hp : 0 < size) (h : appRow P c dst bytes size i n m c0 l0 = some (c', l)) (hl : AllP l) :
  (n + m) * bytes ≤ 2 ^ 44 ∧ AllP l0 ∧ c'.cds = c.cds ∧ ∃ σ1, stepE c.abs dst id (appOf (.sl i 0 n sz) size m (rowCells0 c0)) = some σ1 ∧ Weaker σ1 c'.abs := by
 unfold appRow at h
 split at h
 next t cols l2 hb =>
  split at h
  next es he =>
   simp only [Option.some.injEq, Prod.mk.injEq] at h; obtain ⟨rfl, rfl⟩ := h
   obtain ⟨hlen, hl⟩ := hl
   rw [AllP_append] at hl
   obtain ⟨cells, k1, k2, k3, k4, k5⟩ := baseX_spec hb hl.1
   have hne : cols ≠ [] := by rintro rfl; simp at k4; omega
   have hcells := joinCols_cells hne he k5 hm
   have hne0 : c0 ≠ [] := by rintro rfl; simp at h0; omega
   refine ⟨hlen, hl.2, by simp [Cf.setB, Cf.forget], ?_⟩
   have hfor : (Blk.mk (rowCells0 es) false).forget i = ⟨rowCells0 es, false⟩ := by simp only [Blk.forget, rowCells0_forget]
   cases m with
   | zero =>
    refine ⟨c.abs.put (some t) (.sl i 0 n sz), by simp [appOf, stepE], ?_⟩
    have e0 : rowCells0 c0 = [] := by
     apply List.length_eq_zero_iff.1
     rw [rowCells0_length, rowLen0_of hne0 hm]; simp
    rw [e0, List.append_nil] at hcells
    rw [abs_put, abs_setB, abs_forget, BX.blk, hcells, ← k3]
    exact weaker_same (σ := c.abs) (b := ⟨cells, false⟩) (show c.abs.bk i = some ⟨cells, false⟩ from k1) hsz
   | succ m =>
    refine ⟨_, ?_, Weaker.refl _⟩
    simp only [appOf, stepE, show c.abs.bk i = some ⟨cells, false⟩ from k1]
    rw [if_pos (by omega), abs_put, abs_setB, abs_forget, BX.blk, List.drop_zero, k3, ← hcells, rowCells0_forget]
  ·cases h
 ·cases h
/-- What appendD says, once its types are known. -/
def appCore (bk : Nat → Option Blk) (bytes size : Nat) (s x : D) : Option Eff :=
 match x.elems bk size with
 | some (m, ds) => if ds.all D.one then match s with
   | .v (.slice none 0 0) => if m * bytes ≤ 2 ^ 44 then some (.app s size m ds) else none
   | .emp => if m * bytes ≤ 2 ^ 44 then some (appOf s size m ds) else none
   | .sl _ _ n sz => if sz.s = size ∧ (n + m) * bytes ≤ 2 ^ 44 then some (appOf s size m ds) else none
   | _ => none
  else none
 | none => none
theorem appFrom_spec {bytes size : Nat} {s x : D} (hp : 0 < size) (h : appFrom P c dst id bytes size s x = some (c', l)) (hl : AllP l) :
  ∃ e σ1, appCore c.abs.bk bytes size s x = some e ∧ stepE c.abs dst id e = some σ1 ∧ Weaker σ1 c'.abs ∧ c'.cds = c.cds := by
 unfold appFrom at h
 split at h
 next m c0 l0 hs =>
  split at h
  ·simp only [Option.some.injEq, Prod.mk.injEq] at h; obtain ⟨rfl, rfl⟩ := h
   obtain ⟨h1, h2⟩ := hl
   obtain ⟨k1, k2, k3, k4⟩ := srcX_spec hs h2
   have k1 : x.elems c.abs.bk size = some (m, rowCells0 c0) := k1
   refine ⟨.app (.v (.slice none 0 0)) size m (rowCells0 c0), _, ?_, ?_, Weaker.refl _, by simp [Cf.setB, Cf.forget]⟩
   ·simp only [appCore, k1, rowCells0_one, if_true, if_pos h1]
   ·simp only [stepE, abs_put, abs_setB, abs_forget, BX.blk, rowCells0_forget]
  ·split at h
   next t =>
    simp only [Option.some.injEq, Prod.mk.injEq] at h; obtain ⟨rfl, rfl⟩ := h
    obtain ⟨h1, h2⟩ := hl
    obtain ⟨k1, k2, k3, k4⟩ := srcX_spec hs h2
    have k1 : x.elems c.abs.bk size = some (m, rowCells0 c0) := k1
    have core : appCore c.abs.bk bytes size .emp x = some (appOf .emp size m (rowCells0 c0)) := by
     simp only [appCore, k1, rowCells0_one, if_true, if_pos h1]
    cases m with
    | zero =>
     have hne0 : c0 ≠ [] := by rintro rfl; simp at k2; omega
     have e0 : rowCells0 c0 = [] := by
      apply List.length_eq_zero_iff.1
      rw [rowCells0_length, rowLen0_of hne0 k3]; simp
     refine ⟨_, c.abs.put (some t) .emp, core, by simp [appOf, stepE], ?_, by simp [Cf.setB, Cf.forget]⟩
     rw [abs_put, abs_setB, abs_forget, BX.blk, e0]
     exact weaker_none (.inl rfl)
    | succ m =>
     refine ⟨_, _, core, ?_, Weaker.refl _, by simp [Cf.setB, Cf.forget]⟩
     simp only [appOf, stepE, abs_put, abs_setB, abs_forget, BX.blk, rowCells0_forget]
   ·cases h
  next i off n sz =>
   simp only [cond_eq_ite] at h
   split at h
   next hc =>
    simp only [Bool.and_eq_true] at hc
    obtain rfl := Nat.eq_of_beq_eq_true hc.1
    have e2 := Nat.eq_of_beq_eq_true hc.2
    have hl0 : AllP l0 := by
     have h' := h
     unfold appRow at h'
     split at h'
     ·split at h'
      ·simp only [Option.some.injEq, Prod.mk.injEq] at h'; obtain ⟨_, rfl⟩ := h'
       have := hl.2; rw [AllP_append] at this; exact this.2
      ·cases h'
     ·cases h'
    obtain ⟨k1, k2, k3, k4⟩ := srcX_spec hs hl0
    have k1 : x.elems c.abs.bk size = some (m, rowCells0 c0) := k1
    obtain ⟨a1, _, a3, σ1, a4, a5⟩ := appRow_spec (id := id) e2 k2 k3 hp h hl
    refine ⟨_, σ1, ?_, a4, a5, a3⟩
    simp only [appCore, k1, rowCells0_one, if_true, if_pos (show sz.s = size ∧ (n + m) * bytes ≤ 2 ^ 44 from ⟨e2, a1⟩)]
   ·cases h
  ·cases h
 ·split at h
  next i off n sz =>
   split at h
   next cols hlk =>
    split at h
    next ds hel =>
     split at h
     next c0 hlike =>
      simp only [cond_eq_ite] at h
      split at h
      next hc =>
       simp only [Bool.and_eq_true] at hc
       obtain rfl := Nat.eq_of_beq_eq_true hc.1
       have e2 := Nat.eq_of_beq_eq_true hc.2
       obtain ⟨b1, b2, b3⟩ := likeCols_spec hlike
       have hel : x.elems c.abs.bk size = some (1, ds) := hel
       have hcl : cols.length = size := by
        have h' := h
        unfold appRow at h'
        split at h'
        next t cols2 l2 hb =>
         unfold baseX at hb
         rw [hlk] at hb
         simp only [cond_eq_ite] at hb
         split at hb
         next hq => exact Nat.eq_of_beq_eq_true hq
         ·cases hb
        ·cases h'
       have hne : cols ≠ [] := by rintro rfl; simp at hcl; omega
       have hds := likeCols_cells hne hlike
       obtain ⟨a1, _, a3, σ1, a4, a5⟩ := appRow_spec (id := id) (m := 1) e2 (by rw [b1, hcl]) b2 hp h hl
       rw [hds] at a4
       have hone : ds.all D.one = true := by rw [← hds]; exact rowCells0_one
       refine ⟨_, σ1, ?_, a4, a5, a3⟩
       simp only [appCore, hel, hone, if_true, if_pos (show sz.s = size ∧ (n + 1) * bytes ≤ 2 ^ 44 from ⟨e2, a1⟩)]
      ·cases h
     ·cases h
    ·cases h
   ·cases h
  ·cases h
theorem rowApp_spec {ts : Array TypeId} {s x : D} (h : rowApp P c dst id ts.toList s x = some (c', l)) (hl : AllP l) :
  ∃ e σ1, appendD P c.abs.bk ts s x = some e ∧ stepE c.abs dst id e = some σ1 ∧ Weaker σ1 c'.abs ∧ c'.cds = c.cds := by
 obtain ⟨ts⟩ := ts
 unfold rowApp at h
 split at h
 next t t2 hts =>
  simp only at hts
  subst hts
  split at h
  next e e2 hu hu2 =>
   split at h
   next j hj =>
    split at h
    next z hz =>
     simp only [cond_eq_ite] at h
     split at h
     next hc =>
      simp only [Bool.and_eq_true] at hc
      have c1 := Nat.le_of_ble_eq_true hc.1
      have c2 := Nat.eq_of_beq_eq_true hc.2.1
      have c3 : 0 < j.size := by simpa [Nat.blt_eq] using hc.2.2
      obtain ⟨e0, σ1, k1, k2, k3, k4⟩ := appFrom_spec c3 h hl
      refine ⟨e0, σ1, ?_, k2, k3, k4⟩
      unfold appCore at k1
      simp only [appendD, hu, hu2, hj, hz]
      rw [if_pos ⟨c1, c2⟩]
      exact k1
     ·cases h
    ·cases h
   ·cases h
  ·cases h
 ·cases h
end
/-- The operations that turn own rows. -/
def rowCall (P : Program) (c : Cf) (dst : Option Tmp) (id : Nat) (k : Call) : Option (Cf × List Prop) :=
 match k.callee with
 | .builtin .append => match k.args.toList with
  | [s, x] => rowApp P c dst id k.argTypes.toList (evalC c.toCs s) (evalC c.toCs x)
  | _ => none
 | _ => none
def rowStepX (P : Program) (c : Cf) (dst : Option Tmp) (id : Nat) (op : Op) : Option (Cf × List Prop) :=
 match op with
 | .store t a x => rowStore P c dst t (evalC c.toCs a) (evalC c.toCs x)
 | .makeSlice t n k => rowMake P c dst id t (evalC c.toCs n) (evalC c.toCs k)
 | .call k => rowCall P c dst id k
 | _ => none
theorem rowStepX_spec {P : Program} {c c' : Cf} {dst : Option Tmp} {id : Nat} {ty : TypeId} {op : Op} {l : List Prop} (h : rowStepX P c dst id op = some (c', l)) (hl : AllP l) :
  ∃ e σ1, opD P c.abs.bk (evalD c.abs) ty op = some e ∧ stepE c.abs dst id e = some σ1 ∧ Weaker σ1 c'.abs ∧ c'.cds = c.cds := by
 unfold rowStepX at h
 split at h
 next t a x =>
  rw [evalC_abs] at h
  exact rowStore_spec h hl
 next t n k =>
  rw [evalC_abs] at h
  exact rowMake_spec h hl
 next k =>
  unfold rowCall at h
  split at h
  next hk =>
   split at h
   next s x ha =>
    rw [evalC_abs] at h
    obtain ⟨callee, ⟨args⟩, ts⟩ := k
    simp only at hk ha h
    subst hk
    subst ha
    obtain ⟨e, σ1, k1, k2, k3, k4⟩ := rowApp_spec h hl
    exact ⟨e, σ1, k1, k2, k3, k4⟩
   ·cases h
  ·cases h
 ·cases h
/-! Blocks told as rows. -/
def Col0.none : Col0 → Col0
 | .ints k _ => .ints k []
 | .bools _ => .bools []
def Col0.cut (k : Nat) : Col0 → Col0
 | .ints i xs => .ints i (xs.take k)
 | .bools xs => .bools (xs.take k)
theorem cut_cells (k : Nat) (c : Col0) : rowCells0 [c.cut k] = (rowCells0 [c]).take k := by
 apply List.ext_getElem?
 intro m
 rw [List.getElem?_take, rc0_get, rc0_get]
 cases c with
 | ints i xs =>
  simp only [Col0.cut, rowLen0, Col0.len, List.length_take, List.length_cons, List.length_nil, Nat.zero_add, Nat.mul_one, Nat.mod_one, Nat.div_one]
  by_cases h : m < k
  ·by_cases h2 : m < xs.length
   ·rw [if_pos (by omega), if_pos h, if_pos h2]; simp [Col0.val, List.getD_eq_getElem?_getD, List.getElem?_take, h]
   ·rw [if_neg (by omega), if_pos h, if_neg h2]
  ·rw [if_neg (by omega), if_neg h]
 | bools xs =>
  simp only [Col0.cut, rowLen0, Col0.len, List.length_take, List.length_cons, List.length_nil, Nat.zero_add, Nat.mul_one, Nat.mod_one, Nat.div_one]
  by_cases h : m < k
  ·by_cases h2 : m < xs.length
   ·rw [if_pos (by omega), if_pos h, if_pos h2]; simp [Col0.val, List.getD_eq_getElem?_getD, List.getElem?_take, h]
   ·rw [if_neg (by omega), if_pos h, if_neg h2]
  ·rw [if_neg (by omega), if_neg h]
def castOne (c : Cf) : Cast → Option Cf
 | .cut id k => match lookX id c.bk with
  | some (.row [col] ro) => some (c.setB id (.row [col.cut k] ro))
  | _ => Option.none
 | .nil t id sz cols => match c.get t with
  | .emp => bif Nat.blt 0 cols.length then some (((c.forget id).setB id (.row (cols.map Col0.none) false)).put (some t) (.sl id 0 0 ⟨sz, 0⟩)) else Option.none
  | .v (.slice Option.none 0 0) => bif Nat.blt 0 cols.length then some (((c.forget id).setB id (.row (cols.map Col0.none) false)).put (some t) (.sl id 0 0 ⟨sz, 0⟩)) else Option.none
  | _ => Option.none
 | .cells id col => match lookX id c.bk with
  | some (.cells cs ro) => match col.of cs with
   | some c' => some (c.setB id (.row [c'] ro))
   | Option.none => Option.none
  | _ => Option.none
 | .cnil b off id sz cols => match lookX b c.bk with
  | some (.cells cs false) => match cs[off]? with
   | some .emp => bif Nat.blt 0 cols.length && !(Nat.beq b id) then some (((c.forget id).setB id (.row (cols.map Col0.none) false)).setB b (.cells ((cs.map (D.forget id)).set off (.sl id 0 0 ⟨sz, 0⟩)) false)) else Option.none
   | some (.v (.slice Option.none 0 0)) => bif Nat.blt 0 cols.length && !(Nat.beq b id) then some (((c.forget id).setB id (.row (cols.map Col0.none) false)).setB b (.cells ((cs.map (D.forget id)).set off (.sl id 0 0 ⟨sz, 0⟩)) false)) else Option.none
   | _ => Option.none
  | _ => Option.none
def castAll : List Cast → Cf → Option Cf
 | [], c => some c
 | k :: ks, c => match castOne c k with
  | some c' => castAll ks c'
  | Option.none => Option.none
theorem rowCells0_none {cols : List Col0} (h : 0 < cols.length) : rowCells0 (cols.map Col0.none) = [] := by
 apply List.length_eq_zero_iff.1
 rw [rowCells0_length]
 cases cols with
 | nil => simp at h
 | cons c cs => simp only [List.map_cons, rowLen0]; cases c <;> simp [Col0.none, Col0.len]
theorem castOne_spec {c c' : Cf} {k : Cast} (h : castOne c k = some c') : Weaker c.abs c'.abs ∧ c'.cds = c.cds := by
 cases k with
 | cut id k =>
  simp only [castOne] at h
  split at h
  next col ro hlk =>
   simp at h; subst h
   refine ⟨?_, rfl⟩
   rw [abs_setB, BX.blk, cut_cells]
   have hb : c.abs.bk id = some ⟨rowCells0 [col], ro⟩ := by
    show lookB id c.bk = _
    unfold lookB; rw [hlk]; rfl
   exact fun w A β base tmps acts hr => ⟨β, Rel.cut hr hb k⟩
  ·cases h
 | nil t id sz cols =>
  simp only [castOne] at h
  split at h
  next he =>
   simp only [cond_eq_ite] at h
   split at h
   next hb =>
    simp at h; subst h
    refine ⟨?_, by simp [Cf.setB, Cf.forget]⟩
    rw [abs_put, abs_setB, abs_forget, BX.blk, rowCells0_none (by simpa [Nat.blt_eq] using hb)]
    exact weaker_nil (.inl he)
   ·cases h
  next he =>
   simp only [cond_eq_ite] at h
   split at h
   next hb =>
    simp at h; subst h
    refine ⟨?_, by simp [Cf.setB, Cf.forget]⟩
    rw [abs_put, abs_setB, abs_forget, BX.blk, rowCells0_none (by simpa [Nat.blt_eq] using hb)]
    exact weaker_nil (.inr he)
   ·cases h
  ·cases h
 | cells id col =>
  simp only [castOne] at h
  split at h
  next cs ro hlk =>
   split at h
   next c1 ho =>
    simp at h; subst h
    refine ⟨?_, rfl⟩
    obtain ⟨a1, a2⟩ := Col0.of_spec ho
    have hcells : rowCells0 [c1] = cs := by
     apply List.ext_getElem?
     intro k
     rw [rc0_get]
     have e1 : rowLen0 [c1] = cs.length := a1
     rw [e1]
     simp only [List.length_cons, List.length_nil, Nat.zero_add, Nat.mul_one, Nat.mod_one, Nat.div_one]
     by_cases hk : k < cs.length
     ·rw [if_pos hk, a2 k hk]; rfl
     ·rw [if_neg hk]; exact (List.getElem?_eq_none (by omega)).symm
    rw [abs_setB, BX.blk, hcells]
    have : c.abs.setB id ⟨cs, ro⟩ = c.abs := by
     simp only [St.setB]
     congr 1
     funext j
     by_cases e : j = id
     ·subst e; rw [if_pos rfl]; exact (lookB_cells hlk).symm
     ·rw [if_neg e]; rfl
    rw [this]
    exact Weaker.refl _
   ·cases h
  ·cases h
 | cnil b off id sz cols =>
  simp only [castOne] at h
  split at h
  next cs hlk =>
   split at h
   next he =>
    simp only [cond_eq_ite] at h
    split at h
    next hb =>
     simp at h; subst h
     simp only [Bool.and_eq_true, Bool.not_eq_true'] at hb
     refine ⟨?_, by simp [Cf.setB, Cf.forget]⟩
     rw [abs_setB, abs_setB, abs_forget, BX.blk, BX.blk, rowCells0_none (by simpa [Nat.blt_eq] using hb.1)]
     exact weaker_cnil (fun e => by rw [e, beq_yes] at hb; exact absurd hb.2 (by simp)) (show c.abs.bk b = some ⟨cs, false⟩ from lookB_cells hlk) (.inl he)
    ·cases h
   next he =>
    simp only [cond_eq_ite] at h
    split at h
    next hb =>
     simp at h; subst h
     simp only [Bool.and_eq_true, Bool.not_eq_true'] at hb
     refine ⟨?_, by simp [Cf.setB, Cf.forget]⟩
     rw [abs_setB, abs_setB, abs_forget, BX.blk, BX.blk, rowCells0_none (by simpa [Nat.blt_eq] using hb.1)]
     exact weaker_cnil (fun e => by rw [e, beq_yes] at hb; exact absurd hb.2 (by simp)) (show c.abs.bk b = some ⟨cs, false⟩ from lookB_cells hlk) (.inr he)
    ·cases h
   ·cases h
  ·cases h
theorem castAll_spec : ∀ {ks : List Cast} {c c' : Cf}, castAll ks c = some c' → Weaker c.abs c'.abs ∧ c'.cds = c.cds
 | [], c, c', h => by simp [castAll] at h; subst h; exact ⟨Weaker.refl _, rfl⟩
 | k :: ks, c, c', h => by
  simp only [castAll] at h
  split at h
  next c1 h1 =>
   obtain ⟨a1, a2⟩ := castOne_spec h1
   obtain ⟨b1, b2⟩ := castAll_spec h
   exact ⟨a1.trans b1, b2.trans a2⟩
  ·cases h
end
end Go.Dam
end
