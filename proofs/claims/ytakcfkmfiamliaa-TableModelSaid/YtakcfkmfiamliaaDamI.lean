/- The engine: an abstract machine for the program's functions, proved right against the model. No condition. -/
import Derived.Test.YtakcfkmfiamliaaDamE
import GoSem.Builtin.Append
import GoSem.Dispatch
set_option linter.unusedSectionVars false
set_option linter.unusedVariables false
set_option linter.unusedSimpArgs false
section
namespace Go.Dam
open Go Go.RowKit
variable [Glo]
theorem run_underlying {P : Program} {t : TypeId} {d : TypeDesc} (h : P.underlying t = some d) (w : World) : (underlying t).run P w = .ok d w := by simp [underlying, h]
theorem run_typeInfo {P : Program} {t : TypeId} {i : TypeInfo} (h : P.info? t = some i) (w : World) : (typeInfo t).run P w = .ok i w := by simp [typeInfo, h]
theorem run_sizeOf {P : Program} {t : TypeId} {i : TypeInfo} (h : P.info? t = some i) (w : World) : (sizeOf t).run P w = .ok i.size w := by simp [sizeOf, run_typeInfo h]
theorem run_zeroValue {P : Program} {t : TypeId} {i : TypeInfo} {z : Value} (h : P.info? t = some i) (hz : i.zero = some z) (w : World) : (zeroValue t).run P w = .ok z w := by simp [zeroValue, run_typeInfo h, hz]
theorem growBy_le (newLen : Nat) : ∀ r c, Builtin.growBy newLen r c ≤ c * 2 ^ r ∨ c < 256
 | 0, c => .inl (by simp [Builtin.growBy])
 | r + 1, c => by
  by_cases hc : c < 256
  ·exact .inr hc
  ·simp only [Builtin.growBy]
   split
   ·exact .inl (Nat.le_mul_of_pos_right _ (Nat.two_pow_pos _))
   ·rcases growBy_le newLen r (c + (c + 768) / 4) with h | h
    ·refine .inl (Nat.le_trans h ?_)
     rw [Nat.pow_succ, Nat.mul_comm (2 ^ r) 2, ← Nat.mul_assoc]
     exact Nat.mul_le_mul_right _ (by omega)
    ·omega
theorem nextslicecap_le (need c : Nat) (h : c < need) : Builtin.nextslicecap need c ≤ 16 * need := by
 unfold Builtin.nextslicecap
 split
 ·omega
 ·split
  ·omega
  ·rcases growBy_le need 4 c with h1 | h1 <;> omega
/-- The elements that are appended are read. -/
structure Src (P : Program) (w : World) (size m : Nat) (x : Value) (vs : List Value) : Prop where
 len : (Builtin.lenOf x).run P w = .ok m w
 cells : ∀ w' : World, w'.heap = w.heap → (Builtin.firstCells size m x).run P w' = .ok vs.toArray w'
theorem append_fits {P : Program} {w w' : World} {t t2 ty e : TypeId} {d2 : TypeDesc} {i : TypeInfo} (hu : P.underlying t = some (.slice e)) (hi : P.info? e = some i) (hu2 : P.underlying t2 = some d2) (hd2 : ∀ k, d2 ≠ .int k)
  {o : Option Addr} {n c m : Nat} {x : Value} {vs : List Value} (hs : Src P w i.size m x vs) (hfit : n + m ≤ c)
  (hst : ∀ a, o = some a → (storeCells (a.add (n * i.size)) vs).run P w = .ok () w') (hno : o = none → w' = w) :
  (Builtin.append_ #[t, t2] ty #[.slice o n c, x]).run P w = .ok (.slice o (n + m) c) w' := by
 have hm : (match d2 with | .int _ => true | _ => false) = false := by
  cases d2 <;> first | rfl | exact absurd rfl (hd2 _)
 cases o with
 | none =>
  have := hno rfl; subst this
  simp [Builtin.append_, run_underlying hu, run_underlying hu2, run_sizeOf hi, hm, hs.len, hfit, hs.cells _ rfl]
 | some a =>
  simp [Builtin.append_, run_underlying hu, run_underlying hu2, run_sizeOf hi, hm, hs.len, hfit, hs.cells w rfl, hst a rfl]
theorem append_grows {P : Program} {w : World} {t t2 ty e : TypeId} {d2 : TypeDesc} {i : TypeInfo} {z : Value} (hu : P.underlying t = some (.slice e)) (hi : P.info? e = some i) (hz : i.zero = some z) (hu2 : P.underlying t2 = some d2) (hd2 : ∀ k, d2 ≠ .int k)
  (hb1 : 1 ≤ i.bytes) (hzs : z.cells.size = i.size)
  {o : Option Addr} {n c m : Nat} {x : Value} {vs olds : List Value} (hs : Src P w i.size m x vs) (hfit : c < n + m) (hbytes : (n + m) * i.bytes ≤ 2 ^ 44)
  (hold : ∀ w' : World, w'.heap = w.heap → (Builtin.firstCells i.size n (.slice o n c)).run P w' = .ok olds.toArray w') :
  ∃ (cap : Nat) (rest : Array Value), n + m ≤ cap ∧ rest.size = (cap - (n + m)) * i.size ∧
   (Builtin.append_ #[t, t2] ty #[.slice o n c, x]).run P w = .ok (.slice (some ⟨w.heap.size, 0, none⟩) (n + m) cap) (w.drew.alloc (.cells ((olds ++ vs).toArray ++ rest) e)) := by
 have hm : (match d2 with | .int _ => true | _ => false) = false := by
  cases d2 <;> first | rfl | exact absurd rfl (hd2 _)
 have hneed : n + m ≤ 2 ^ 44 := Nat.le_trans (Nat.le_mul_of_pos_right _ hb1) hbytes
 have h1 : ¬ (((n + m : Nat) : Int) > IntKind.i64.max ∧ (False ∨ i.bytes = 0)) := by
  rintro ⟨_, h | h⟩
  ·exact h
  ·omega
 have h2 : ¬ (Builtin.nextslicecap (n + m) c * i.bytes > 2 ^ 48) := by
  have h3 := Nat.mul_le_mul_right i.bytes (nextslicecap_le (n + m) c hfit)
  rw [Nat.mul_assoc] at h3
  omega
 refine ⟨(Question.appendCap (n + m) c e).cut (w.tape w.drawn (.appendCap (n + m) c e)), Builtin.zeroCells z.cells (((Question.appendCap (n + m) c e).cut (w.tape w.drawn (.appendCap (n + m) c e))) - (n + m)), ?_, ?_, ?_⟩
 ·simp [Question.cut]
 ·simp [Builtin.zeroCells, hzs]
 ·have hb0 : i.bytes ≠ 0 := by omega
  have hfit' : ¬ (n + m ≤ c) := by omega
  have hcut : ∀ w1 : World, w1 = w.drew → w1.heap = w.heap := fun _ h => by rw [h]; rfl
  simp [Builtin.append_, run_underlying hu, run_underlying hu2, run_sizeOf hi, run_typeInfo hi, run_zeroValue hi hz, hm, hs.len, hfit', hb0, Question.forced, hs.cells _ (hcut _ rfl), hold _ (hcut _ rfl), newRow]
  rw [if_neg (by simpa using h2)]
  simp [hs.cells w.drew rfl, hold w.drew rfl]
  simp only [← List.append_toArray, Array.append_assoc]
section
variable {w w' : World} {A : Nat → Prop} {β : Env} {base : Nat} {σ : St} {tmps : Array Value} {acts : List (Array Value)}
theorem CellsAt.take {cs : List D} {ad : Addr} (hs : ad.spot = none) (h : CellsAt w A β cs ad) (n : Nat) : CellsAt w A β (cs.take n) ad :=
 CellsAt.of_get hs fun j d hj => by
  rw [List.getElem?_take] at hj
  split at hj
  ·exact h.get hs j d hj
  ·cases hj
theorem CellsAt.drop {cs : List D} {ad : Addr} (hs : ad.spot = none) (h : CellsAt w A β cs ad) (n : Nat) : CellsAt w A β (cs.drop n) (plusOff ad n) :=
 CellsAt.of_get rfl fun j d hj => by
  rw [List.getElem?_drop] at hj
  obtain ⟨u, h1, h2⟩ := h.get hs _ d hj
  exact ⟨u, by rw [plusOff_plus]; exact h1, h2⟩
/-- An append that fits: in place. -/
theorem Rel.app (P : Program) (h : Rel w A β base σ tmps acts) {id : Nat} {cells : List D} (hb : σ.bk id = some ⟨cells, false⟩) {ad : Addr} (ha : β id = some ad) {off k lim : Nat} {ds : List D} {vs : List Value}
  (hd : RepLs w A β ds vs) (ho : ∀ u ∈ vs, u.oneCell' = true) (hl : off + k ≤ cells.length) (hroom : Room w ad.block (ad.off + off + lim)) (hk : k + ds.length ≤ lim) :
  ∃ w', (storeCells (plusOff ad (off + k)) vs).run P w = .ok () w' ∧ Rel w' A (β.set id (some (plusOff ad off))) base ((σ.forget id).setB id ⟨((cells.drop off).take k ++ ds).map (D.forget id), false⟩) tmps acts ∧ Turn A A base w w' ∧
   Room w' ad.block (ad.off + off + lim) := by
 rcases h.blk id _ hb with ⟨h1, _⟩ | ⟨ad', h1, hB⟩
 ·rw [ha] at h1; cases h1
 rw [ha] at h1; cases h1
 obtain ⟨c, T, hobj⟩ := hB.obj
 have hlen := hd.length
 obtain ⟨c2, T2, fz2, hobj2, hlim⟩ := hroom
 rw [hobj] at hobj2; cases hobj2
 obtain ⟨w', r1, r2, r3, r4, r5, r6, r7⟩ := storeCells_run P ad.block T vs w c (ad.off + (off + k)) 0 hobj ho (by omega)
 have hx : Ext A w w' := ⟨fun j hj => r3 j (fun e => hB.own rfl (e ▸ hj)), fun b m ⟨c1, T1, fz1, k1, k2⟩ => by
  by_cases e : b = ad.block
  ·subst e
   rw [hobj] at k1; cases k1
   exact ⟨_, T, (0, 0), r2, by rw [putAt_size]; exact k2⟩
  ·exact ⟨c1, T1, fz1, by rw [r3 b e]; exact k1, k2⟩⟩
 have hne : ∀ i b a2, i ≠ id → σ.bk i = some b → β i = some a2 → a2.block ≠ ad.block := fun i b a2 hne hbi hai e => hne (h.inj i id a2 ad (by simp [hbi]) (by simp [hb]) hai ha e)
 have h1 := h.rebind (w' := w') id (some (plusOff ad off)) hx (by rw [r7]; exact h.top) (by omega) (.but hobj r3) (fun i b a2 hi hbi hai => r3 _ (hne i b a2 hi hbi hai))
 refine ⟨w', r1, ?_, ⟨hx, fun _ h => h, ⟨r4, r5, r6, by omega, fun j hj => r3 j (by have := hB.base; omega)⟩, fun _ h _ => h, .strict (.but hobj r3) (.refl _ _)⟩, ⟨_, T, (0, 0), r2, by rw [putAt_size]; exact hlim⟩⟩
 refine h1.setB id _ (.inr ⟨_, Env.set_same _ _ _, ⟨rfl, hB.base, ⟨_, T, r2⟩, ?_, hB.own, hB.shared, fun c1 T1 h1 => by
  have h1' : w'.heap[ad.block]? = some (.cells c1 T1 (0, 0)) := h1
  rw [r2] at h1'; cases h1'; rw [putAt_size]; simp; omega⟩⟩) ?_
 ·have hrep : ∀ (d : D) u, Rep w A β d u → Rep w' A (β.set id (some (plusOff ad off))) (d.forget id) u := fun d u hr =>
   Rep.mono hx (fun _ h => h) _ _ (fun i hi => Env.set_other _ _ (D.has_forget_of hi).2) (hr.forget id)
  have hkl : ((cells.drop off).take k).length = k := by simp; omega
  refine CellsAt.of_get rfl fun j d hj => ?_
  simp only [List.getElem?_map, Option.map_eq_some_iff] at hj
  obtain ⟨d0, hd0, rfl⟩ := hj
  have hc' : w'.cell? (plusOff (plusOff ad off) j) = (putAt c (ad.off + (off + k) + 0) vs)[ad.off + off + j]? := by rw [plusOff_plus]; rw [Nat.add_assoc ad.off off j]; exact cell_of_obj (o := ad.off + (off + j)) r2
  rw [hc', putAt_get _ _ _ _ (by omega)]
  rcases Nat.lt_or_ge j k with hjk | hjk
  ·rw [List.getElem?_append_left (by omega), List.getElem?_take, if_pos hjk, List.getElem?_drop] at hd0
   obtain ⟨u, hu, hr⟩ := hB.cells.get hB.spot _ d0 hd0
   refine ⟨u, ?_, hrep _ _ hr⟩
   rw [if_neg (by omega), ← hu, Nat.add_assoc]
   exact (cell_of_obj (o := ad.off + (off + j)) hobj).symm
  ·rw [List.getElem?_append_right (by omega), hkl] at hd0
   obtain ⟨u, hu, hr⟩ := hd.get _ _ hd0
   have hjl := (List.getElem?_eq_some_iff.1 hd0).1
   refine ⟨u, ?_, hrep _ _ hr⟩
   rw [if_pos (by omega), ← hu]; congr 1; omega
 ·intro i a a2 hi hbk hai ha2
  rw [Env.set_same] at ha2
  cases ha2
  rw [Env.set_other _ _ hi] at hai
  simp only [St.forget, if_neg hi] at hbk
  obtain ⟨b, hbb⟩ := Option.ne_none_iff_exists'.1 hbk
  simp only [Option.map_eq_some_iff] at hbb
  obtain ⟨b0, hb0, _⟩ := hbb
  exact hne i b0 a hi hb0 hai
end
end Go.Dam
end

section
namespace Go.Dam
open Go Go.RowKit
variable [Glo]
/-- What an operation does. -/
inductive Eff where
 | val (d : D)
 | box (cs : List D)
 | row (cs : List D) (n sz : Nat)
 | row0
 | sto (id off : Nat) (ds : List D)
 | app (dst : D) (sz m : Nat) (ds : List D)
 | cpy (id off : Nat) (ds : List D) (u : Value)
/-- The cells of a value. -/
def D.cells : D → Option (List D)
 | .agg cs => some cs
 | .v x => some (x.cells.toList.map .v)
 | .sh n cs => some [.sh n cs]
 | .sl id off n sz => some [.sl id off n sz]
 | .ptr id off => some [.ptr id off]
 | .shp cs off => some [.shp cs off]
 | .emp => some [.emp]
 | .fn f cs => some [.fn f cs]
 | .rc cs => some [.rc cs]
 | .pel id i n j => some [.pel id i n j]
 | _ => none
def D.one : D → Bool
 | .v x => x.oneCell'
 | .emp | .sh _ _ | .sl _ _ _ _ | .ptr _ _ | .shp _ _ | .fn _ _ | .rc _ | .pel _ _ _ _ => true
 | _ => false
def infoD (P : Program) (t : TypeId) : Option (Nat × TypeDesc) :=
 match P.info? t, P.underlying t with
 | some i, some d => some (i.size, d)
 | _, _ => none
def aggD : TypeDesc → Bool
 | .struct _ | .array _ _ => true
 | _ => false
/-- Cells behind a pointer: the list, and where it points. -/
def D.behind (bk : Nat → Option Blk) : D → Option (List D × Nat)
 | .ptr id off => (bk id).map fun b => (b.cells, off)
 | .pel id i n j => (bk id).map fun b => (b.cells, i * n + j)
 | .shp cs off => some (cs, off)
 | _ => none
def takeD (P : Program) (t : TypeId) (cs : List D) (off : Nat) : Option D :=
 match infoD P t with
 | none => none
 | some (sz, d) =>
  if aggD d then (if 0 < sz ∧ off + sz ≤ cs.length then some (.agg ((cs.drop off).take sz)) else none)
  else cs[off]?
def loadD (P : Program) (bk : Nat → Option Blk) (t : TypeId) (a : D) : Option Eff :=
 match a.behind bk with
 | none => none
 | some (cs, off) => (takeD P t cs off).map .val
def storeD (P : Program) (t : TypeId) (a x : D) : Option Eff :=
 match a, x.cells, P.info? t with
 | .ptr id off, some ds, some i => if ds.length = i.size ∧ ds.all D.one then some (.sto id off ds) else none
 | .pel id i0 n j, some ds, some i => if ds.length = i.size ∧ ds.all D.one then some (.sto id (i0 * n + j) ds) else none
 | _, _, _ => none
def zeroD (P : Program) (t : TypeId) : Option (List D) :=
 match P.info? t with
 | none => none
 | some i => match i.zero with
  | none => none
  | some z => some (z.cells.toList.map .v)
/-- Parts put into a row of cells. -/
def fillD (place : Nat → Option (Nat × Nat)) (cells : List D) : List (Nat × D) → Option (List D)
 | [] => some cells
 | (i, x) :: rest =>
  match place i, x.cells with
  | some (off, size), some ds => if ds.length = size ∧ off + size ≤ cells.length then fillD place (splice cells off ds) rest else none
  | _, _ => none
def buildD (P : Program) (t : TypeId) (parts : List (Nat × D)) : Option Eff :=
 match zeroD P t, P.underlying t with
 | some zero, some (.struct fields) =>
  if fields.toList.all (fun f => (P.info? f.type).isSome) then
   (fillD (fun i => (fields.toList.map fun f => (f.offset, ((P.info? f.type).map (·.size)).getD 0))[i]?) zero parts).map fun cs => .val (.agg cs)
  else none
 | some zero, some (.array _ elem) =>
  match P.info? elem with
  | none => none
  | some j => (fillD (fun i => some (i * j.size, j.size)) zero parts).map fun cs => .val (.agg cs)
 | _, _ => none
def pureD (P : Program) (s : Sem Value) : Option Eff := (pureRun P s).map fun u => .val (D.ofV u)
def indexOf : D → Option Int
 | .v (.int _ i) => some i
 | _ => none
/-- A cell of a column. -/
def Col.cell (i : Nat) : Col → D
 | .ints k xs => .v (.int k (xs.getD i 0))
 | .bools xs => .v (.bool (xs.getD i false))
 | .rows _ f => .rc ((f i).map Col0.up)
/-- A part of a column. -/
def Col.part (l n : Nat) : Col → Col
 | .ints k xs => .ints k ((xs.drop l).take n)
 | .bools xs => .bools ((xs.drop l).take n)
 | .rows _ f => .rows n fun i => f (i + l)
/-- All cells of a row. -/
def rowCells (cs : List Col) : List D := (List.range (rowLen cs)).flatMap fun i => cs.map (Col.cell i)
abbrev rowCells0 (cs : List Col0) : List D := rowCells (cs.map Col0.up)
/-- An element of a row that came in. -/
def rcAddrD (P : Program) (t : TypeId) (cs : List Col) (ix : D) : Option Eff :=
 match P.underlying t, indexOf ix with
 | some (.slice elem), some i => match P.info? elem with
  | none => none
  | some j => if j.size = cs.length ∧ 0 ≤ i ∧ i < rowLen cs then some (.val (.shp (cs.map (Col.cell i.toNat)) 0)) else none
 | _, _ => none
def indexAddrP (P : Program) (t : TypeId) (x ix : D) : Option Eff :=
 match indexOf ix, P.underlying t with
 | some i, some (.array len elem) =>
  match P.info? elem with
  | none => none
  | some j => if 0 ≤ i ∧ i < len then match x with
    | .ptr id off => some (.val (.ptr id (off + i.toNat * j.size)))
    | .pel id i0 n0 j0 => some (.val (.pel id i0 n0 (j0 + i.toNat * j.size)))
    | .shp cs off => some (.val (.shp cs (off + i.toNat * j.size)))
    | _ => none
   else none
 | some i, some (.slice elem) =>
  match P.info? elem with
  | none => none
  | some j => match x with
   | .sl id off n sz => if 0 ≤ i ∧ i < n then some (.val (.pel id i.toNat j.size off)) else none
   | .sh n cs => if 0 ≤ i ∧ i < n then some (.val (.shp cs (i.toNat * j.size))) else none
   | _ => none
 | _, _ => none
def indexAddrD (P : Program) (t : TypeId) (x ix : D) : Option Eff :=
 match x with
 | .rc cs => rcAddrD P t cs ix
 | x => indexAddrP P t x ix
def fieldAddrD (P : Program) (t : TypeId) (x : D) (f : Nat) : Option Eff :=
 match P.underlying t with
 | some (.struct fields) => match fields[f]? with
  | none => none
  | some f => match P.info? f.type with
   | none => none
   | some j => if j.size = 0 then none else match x with
    | .ptr id off => some (.val (.ptr id (off + f.offset)))
    | .pel id i n j => some (.val (.pel id i n (j + f.offset)))
    | .shp cs off => some (.val (.shp cs (off + f.offset)))
    | _ => none
 | _ => none
def fieldD (P : Program) (t : TypeId) (x : D) (f : Nat) : Option Eff :=
 match P.underlying t, x with
 | some (.struct fields), .agg cs => match fields[f]? with
  | none => none
  | some f => (takeD P f.type cs f.offset).map .val
 | _, _ => none
def indexD (P : Program) (t : TypeId) (x ix : D) : Option Eff :=
 match indexOf ix, P.underlying t, x with
 | some i, some (.array len elem), .agg cs =>
  match P.info? elem with
  | none => none
  | some j => if 0 ≤ i ∧ i < len then (takeD P elem cs (i.toNat * j.size)).map .val else none
 | some i, some .string, .v (.string s) => if 0 ≤ i then match s[i.toNat]? with
   | some b => some (.val (.v (.int .u8 b.toNat)))
   | none => none
  else none
 | _, _, _ => none
def extractD (x : D) (i : Nat) : Option Eff :=
 match x with
 | .tup cs => (cs[i]?).map .val
 | _ => none
/-- A bound of a slice expression. -/
def boundD (d : Option D) (dflt most : Nat) : Option Nat :=
 match d with
 | none => some dflt
 | some (.v (.int _ i)) => if 0 ≤ i ∧ i ≤ most then some i.toNat else none
 | some _ => none
/-- A part of a row that came in. -/
def rcSliceD (P : Program) (t : TypeId) (cs : List Col) (lo hi : Option D) : Option Eff :=
 match P.underlying t with
 | some (.slice elem) => match P.info? elem, boundD hi (rowLen cs) (rowLen cs) with
  | some j, some h => match boundD lo 0 h with
   | none => none
   | some l => if j.size = cs.length then some (.val (.rc (cs.map (Col.part l (h - l))))) else none
  | _, _ => none
 | _ => none
def sliceP (P : Program) (bk : Nat → Option Blk) (t : TypeId) (x : D) (lo hi : Option D) : Option Eff :=
 match P.underlying t, x with
 | some (.array n elem), .ptr id off =>
  match P.info? elem, boundD hi n n with
  | some j, some h => match boundD lo 0 h with
   | none => none
   | some l => match bk id with
    | some b => if off + n * j.size ≤ b.cells.length then some (.val (.sl id (off + l * j.size) (h - l) ⟨j.size, 0⟩)) else none
    | none => none
  | _, _ => none
 | some (.slice elem), .sh n cs =>
  match P.info? elem, boundD hi n n with
  | some j, some h => match boundD lo 0 h with
   | none => none
   | some l => some (.val (.sh (h - l) ((cs.drop (l * j.size)).take ((h - l) * j.size))))
  | _, _ => none
 | some (.slice elem), .sl id off n sz =>
  match P.info? elem, boundD hi n (max n sz.r) with
  | some j, some h => match boundD lo 0 h with
   | none => none
   | some l => if sz.s = j.size then some (.val (.sl id (off + l * sz.s) (h - l) ⟨sz.s, max n sz.r - l⟩)) else none
  | _, _ => none
 | some (.slice elem), .v (.slice none 0 0) =>
  match P.info? elem, boundD hi 0 0 with
  | some _, some h => match boundD lo 0 h with
   | none => none
   | some _ => some (.val (.v (.slice none 0 0)))
  | _, _ => none
 | some .string, .v (.string s) =>
  match boundD hi s.size s.size with
  | some h => match boundD lo 0 h with
   | none => none
   | some l => some (.val (.v (.string (s.extract l h))))
  | none => none
 | _, _ => none
def sliceD (P : Program) (bk : Nat → Option Blk) (t : TypeId) (x : D) (lo hi : Option D) : Option Eff :=
 match x with
 | .rc cs => rcSliceD P t cs lo hi
 | x => sliceP P bk t x lo hi
def zeroInt : D → Bool
 | .v (.int _ 0) => true
 | _ => false
/-- 's[i:j:k]', of which nothing is told but that it stands. -/
def sliceChk (x : D) (lo : Option D) (h mx : D) : Option Eff :=
 match x, lo, h, mx with
 | .sl _ _ n _, some (.v (.int _ l)), .v (.int _ h), .v (.int _ m) => if 0 ≤ l ∧ l ≤ h ∧ h ≤ m ∧ m ≤ n then some (.val .undef) else none
 | _, _, _, _ => none
/-- 's[:0:0]'. -/
def slice3D (P : Program) (t : TypeId) (x : D) (lo hi : Option D) (mx : D) : Option Eff :=
 match P.underlying t, hi with
 | some (.slice elem), some h =>
  match P.info? elem with
  | none => none
  | some _ => if zeroInt mx ∧ zeroInt h ∧ lo.all zeroInt then match x with
    | .sh n _ => if n = 0 then none else some (.val .emp)
    | .sl _ _ n sz => if max n sz.r = 0 then none else some (.val .emp)
    | .emp => some (.val .emp)
    | .v (.slice none 0 0) => some (.val (.v (.slice none 0 0)))
    | _ => none
   else sliceChk x lo h mx
 | _, _ => none
def makeSliceD (P : Program) (t : TypeId) (len cap : D) : Option Eff :=
 match P.underlying t, indexOf len, indexOf cap with
 | some (.slice elem), some l, some c =>
  match P.info? elem, zeroD P elem with
  | some j, some z => if 0 ≤ l ∧ l ≤ c ∧ c * j.bytes ≤ 2 ^ 40 ∧ c ≤ 2 ^ 40 ∧ z.length = j.size then some (.row (List.replicate c.toNat z).flatten l.toNat j.size) else none
  | _, _ => none
 | _, _, _ => none
def rowOf (cs : List D) (n sz : Nat) : Eff := match n with
 | 0 => .row0
 | n + 1 => .row cs (n + 1) sz
def buildSliceD (P : Program) (t : TypeId) (len : Nat) (parts : List (Nat × D)) : Option Eff :=
 match P.underlying t with
 | some (.slice elem) =>
  match P.info? elem, zeroD P elem with
  | some j, some z => if len * j.size ≤ 2 ^ 24 ∧ z.length = j.size then (fillD (fun i => some (i * j.size, j.size)) (List.replicate len z).flatten parts).map fun cs => rowOf cs len j.size else none
  | _, _ => none
 | _ => none
def D.len : D → Option Nat
 | .emp => some 0
 | .rc cs => some (rowLen cs)
 | .sh n _ => some n
 | .sl _ _ n _ => some n
 | .v (.slice _ n _) => some n
 | .v (.string s) => some s.size
 | _ => none
def lenD (P : Program) (t : TypeId) (x : D) : Option Eff :=
 match P.underlying t with
 | some (.slice _) => match x with
  | .sh n _ => some (.val (.v (goInt n)))
  | .sl _ _ n _ => some (.val (.v (goInt n)))
  | .v (.slice _ n _) => some (.val (.v (goInt n)))
  | .emp => some (.val (.v (goInt 0)))
  | .rc cs => some (.val (.v (goInt (rowLen cs))))
  | _ => none
 | some .string => match x with
  | .v (.string s) => some (.val (.v (goInt s.size)))
  | _ => none
 | some (.array n _) => some (.val (.v (goInt n)))
 | _ => none
/-- The elements of a slice: how many, and their cells. -/
def D.elems (bk : Nat → Option Blk) (size : Nat) : D → Option (Nat × List D)
 | .sh n cs => if n * size = cs.length then some (n, cs) else none
 | .rc cs => if cs.length = size then some (rowLen cs, rowCells cs) else none
 | .sl id off n sz => match bk id with
  | some b => if sz.s = size ∧ off + n * size ≤ b.cells.length then some (n, (b.cells.drop off).take (n * size)) else none
  | none => none
 | .v (.slice none 0 0) => some (0, [])
 | .emp => some (0, [])
 | _ => none
/-- An append: of nothing, it is no append. -/
def appOf (s : D) (sz m : Nat) (ds : List D) : Eff := match m with
 | 0 => .val s
 | m + 1 => .app s sz (m + 1) ds
def appendD (P : Program) (bk : Nat → Option Blk) (ts : Array TypeId) (s x : D) : Option Eff :=
 match ts with
 | ⟨[t, t2]⟩ => match P.underlying t, P.underlying t2 with
  | some (.slice e), some (.slice _) => match P.info? e with
   | some j => match j.zero with
    | some z => if 1 ≤ j.bytes ∧ z.cells.size = j.size then match x.elems bk j.size with
      | some (m, ds) => if ds.all D.one then match s with
        | .v (.slice none 0 0) => if m * j.bytes ≤ 2 ^ 44 then some (.app s j.size m ds) else none
        | .emp => if m * j.bytes ≤ 2 ^ 44 then some (appOf s j.size m ds) else none
        | .sl _ _ n sz => if sz.s = j.size ∧ (n + m) * j.bytes ≤ 2 ^ 44 then some (appOf s j.size m ds) else none
        | _ => none
       else none
      | none => none
     else none
    | none => none
   | none => none
  | _, _ => none
 | _ => none
def copyD (P : Program) (bk : Nat → Option Blk) (ts : Array TypeId) (d x : D) : Option Eff :=
 match ts with
 | ⟨[t, _]⟩ => match P.underlying t with
  | some (.slice e) => match P.info? e with
   | some j => match d, x.elems bk j.size with
    | .sl id off n sz, some (m, ds) => if sz.s = j.size ∧ n ≠ 0 ∧ ds.all D.one then some (.cpy id off (ds.take (Nat.min m n * sz.s)) (goInt (Nat.min m n))) else none
    | _, _ => none
   | none => none
  | _ => none
 | _ => none
def clearD (P : Program) (ts : Array TypeId) (d : D) : Option Eff :=
 match ts with
 | ⟨[t]⟩ => match P.underlying t with
  | some (.slice e) => match P.info? e with
   | some j => match j.zero with
    | some z => match d with
     | .sl id off n sz => if n ≠ 0 ∧ sz.s = j.size ∧ z.cells.toList.all Value.oneCell' then some (.cpy id off ((Builtin.zeroCells z.cells n).toList.map .v) (.tuple #[])) else none
     | _ => none
    | none => none
   | none => none
  | _ => none
 | _ => none
def heldKind : D → Nat
 | .emp => 1
 | .sh n _ => if n = 0 then 0 else 1
 | .sl _ _ n _ => if n = 0 then 0 else 1
 | .ptr _ _ | .shp _ _ | .pel _ _ _ _ => 2
 | .fn _ _ => 3
 | .rc _ => bif Glo.walked liveId then 1 else 0
 | _ => 0
def nilKind : D → Nat
 | .v (.slice none 0 0) => 1
 | .v (.pointer none) => 2
 | .v .nilFunc => 3
 | _ => 0
def descKind : TypeDesc → Nat
 | .slice _ => 1
 | .pointer _ => 2
 | .func _ _ _ => 3
 | _ => 4
/-- '== nil' and '!= nil' of what is not nil. -/
def nilCmpD (P : Program) (op : BinOp) (t : TypeId) (a b : D) : Option Eff :=
 match P.underlying t with
 | some d => if (heldKind a = descKind d ∧ nilKind b = descKind d) ∨ (nilKind a = descKind d ∧ heldKind b = descKind d) then match op with
   | .eql => some (.val (.v (.bool false)))
   | .neq => some (.val (.v (.bool true)))
   | _ => none
  else none
 | none => none
def D.plains (ds : List D) : Option (List Value) := ds.mapM D.plain
/-- Two numbers. -/
def intD (op : BinOp) (k k' : IntKind) (p q : Int) : Option D :=
 match op with
 | .shl | .shr => if 0 ≤ q then some (.v (.int k (opI op k p q))) else none
 | .quo | .rem => if k = k' then if q = 0 then none else some (.v (.int k (opI op k p q))) else none
 | .add | .sub | .mul | .and | .or | .xor | .andNot => if k = k' then some (.v (.int k (opI op k p q))) else none
 | .eql | .neq | .lss | .leq | .gtr | .geq => if k = k' then some (.v (.bool (cmpI op p q))) else none
/-- The greatest, or the least, of some. -/
def mostI (op : BinOp) (p q : Int) : Int := bif cmpI op q p then q else p
def mostGo (op : BinOp) (k : IntKind) (p : Int) : List D → Option D
 | [] => some (.v (.int k p))
 | .v (.int k' q) :: ds => if k = k' then mostGo op k (mostI op p q) ds else none
 | _ => none
def mostD (op : BinOp) : List D → Option D
 | .v (.int k p) :: ds => mostGo op k p ds
 | _ => none
/-- An operation on one number, or truth value. -/
def unD (op : UnOp) (a : D) : Option D :=
 match op, a with
 | .not, .v (.bool p) => some (.v (.bool (!p)))
 | .neg, .v (.int k p) => some (.v (.int k (opI .sub k 0 p)))
 | .xor, .v (.int k p) => some (.v (.int k (opI .xor k (if k.signed then -1 else k.max) p)))
 | _, _ => none
def convD (P : Program) (src dst : TypeId) (a : D) : Option D :=
 match a, P.underlying src, P.underlying dst with
 | .v (.int _ p), some _, some (.int k) => some (.v (.int k (k.wrap p)))
 | _, _, _ => none
def pickD (c : Bool) (a b : D) : D :=
 match a, b with
 | .v (.int k p), .v (.int k' q) => if k = k' then .v (.int k (bif c then p else q)) else bif c then a else b
 | .v (.bool p), .v (.bool q) => .v (.bool (bif c then p else q))
 | a, b => bif c then a else b
def eqFields (P : Program) (f : TypeId → D → D → Option Bool) (xs ys : List D) : List Field → Option Bool
 | [] => some true
 | fd :: l => if fd.name ≠ "_" then match takeD P fd.type xs fd.offset, takeD P fd.type ys fd.offset with
   | some x, some y => match f fd.type x y, eqFields P f xs ys l with
    | some s, some r => some (s && r)
    | _, _ => none
   | _, _ => none
  else eqFields P f xs ys l
def eqElems (P : Program) (f : D → D → Option Bool) (elem : TypeId) (size : Nat) (xs ys : List D) (i : Nat) : Nat → Option Bool
 | 0 => some true
 | n + 1 => match takeD P elem xs (i * size), takeD P elem ys (i * size) with
  | some x, some y => match f x y, eqElems P f elem size xs ys (i + 1) n with
   | some s, some r => some (s && r)
   | _, _ => none
  | _, _ => none
def eqBoolD : D → D → Option Bool
 | .v (.bool x), .v (.bool y) => some (x == y)
 | _, _ => none
def eqIntD : D → D → Option Bool
 | .v (.int k x), .v (.int k' y) => if k = k' then some (x == y) else none
 | _, _ => none
/-- Are two values the same? -/
def eqV (P : Program) : Nat → TypeId → D → D → Option Bool
 | 0, _, _, _ => none
 | d + 1, t, a, b => match P.underlying t with
  | some .bool => eqBoolD a b
  | some (.int _) => eqIntD a b
  | some (.struct fields) => match a, b with
   | .agg xs, .agg ys => if P.stoodInHeld t then none else eqFields P (eqV P d) xs ys fields.toList
   | _, _ => none
  | some (.array len elem) => match a, b, P.info? elem with
   | .agg xs, .agg ys, some j => eqElems P (eqV P d elem) elem j.size xs ys 0 len
   | _, _, _ => none
  | _ => none
/-- Values that may be compared cell by cell. -/
def eqAble : D → Bool
 | .agg _ | .v (.bool _) => true
 | _ => false
def eqD (P : Program) (op : BinOp) (t : TypeId) (a b : D) : Option D :=
 if eqAble a ∧ eqAble b then if P.eqGuardType P.depth t then none else match op with
  | .eql => (eqV P 20 t a b).map fun e => .v (.bool e)
  | .neq => (eqV P 20 t a b).map fun e => .v (.bool (!e))
  | _ => none
 else none
/-- A comparison of what else there is. -/
def binFall (P : Program) (op : BinOp) (t : TypeId) (x y : Operand) (a b : D) : Option Eff :=
 match eqD P op t a b with
 | some d => some (.val d)
 | none => match a.plain, b.plain with
  | some u, some v => pureD P (do eqGuard op t x y u v; binOp op t u v)
  | _, _ => nilCmpD P op t a b
def binD (P : Program) (op : BinOp) (t : TypeId) (x y : Operand) (a b : D) : Option Eff :=
 match a, b with
 | .v (.int k p), .v (.int k' q) => (intD op k k' p q).map .val
 | a, b => binFall P op t x y a b
def opUn (P : Program) (uop : UnOp) (a : D) : Option Eff :=
 match unD uop a with
 | some d => some (.val d)
 | none => match a.plain with
  | some u => pureD P (Op.unary uop u)
  | none => none
def opConv (P : Program) (src dst : TypeId) (a : D) : Option Eff :=
 match convD P src dst a with
 | some d => some (.val d)
 | none => match a.plain with
  | some u => pureD P (convert src dst u)
  | none => none
def opPick (c a b : D) : Option Eff :=
 match c with
 | .v (.bool c) => some (.val (pickD c a b))
 | _ => none
def opMost (op : BinOp) (s : List Value → Option Eff) (ds : List D) : Option Eff :=
 match mostD op ds with
 | some d => some (.val d)
 | none => match D.plains ds with
  | some vs => s vs
  | none => none
def opNil : D → Option Eff
 | .ptr id off => some (.val (.ptr id off))
 | .pel id i n j => some (.val (.pel id i n j))
 | .shp cs off => some (.val (.shp cs off))
 | .fn f cs => some (.val (.fn f cs))
 | _ => none
/-- The operations that call nothing. -/
def opD (P : Program) (bk : Nat → Option Blk) (ρ : Operand → D) (ty : TypeId) : Op → Option Eff
 | .move x | .assign x => some (.val (ρ x))
 | .pick c a b => opPick (ρ c) (ρ a) (ρ b)
 | .alloc t => (zeroD P t).map .box
 | .box _ x => (ρ x).cells.map .box
 | .build t parts => buildD P t (parts.toList.map fun p => (p.1, ρ p.2))
 | .buildSlice t len parts => buildSliceD P t len (parts.toList.map fun p => (p.1, ρ p.2))
 | .load t a => loadD P bk t (ρ a)
 | .store t a x => storeD P t (ρ a) (ρ x)
 | .nilCheck x => opNil (ρ x)
 | .binOp op t x y _ => binD P op t x y (ρ x) (ρ y)
 | .unOp op _ x => opUn P op (ρ x)
 | .convert src dst x => opConv P src dst (ρ x)
 | .makeFunc (.func f) first captured => if first.size = 0 then some (.val (.fn f (captured.toList.map ρ))) else none
 | .makeSlice t l c => makeSliceD P t (ρ l) (ρ c)
 | .slice t x lo hi none => sliceD P bk t (ρ x) (lo.map ρ) (hi.map ρ)
 | .slice t x lo hi (some mx) => slice3D P t (ρ x) (lo.map ρ) (hi.map ρ) (ρ mx)
 | .fieldAddr t x f => fieldAddrD P t (ρ x) f
 | .field t x f => fieldD P t (ρ x) f
 | .indexAddr t x ix => indexAddrD P t (ρ x) (ρ ix)
 | .index t x ix => indexD P t (ρ x) (ρ ix)
 | .extract x i => extractD (ρ x) i
 | .call ⟨.builtin .len, ⟨[x]⟩, ⟨[t]⟩⟩ => lenD P t (ρ x)
 | .call ⟨.builtin .append, ⟨[s, x]⟩, ts⟩ => appendD P bk ts (ρ s) (ρ x)
 | .call ⟨.builtin .copy, ⟨[d, x]⟩, ts⟩ => copyD P bk ts (ρ d) (ρ x)
 | .call ⟨.builtin .clear, ⟨[d]⟩, ts⟩ => clearD P ts (ρ d)
 | .call ⟨.builtin .max, xs, ts⟩ => opMost .gtr (fun vs => pureD P (Builtin.max_ ts ty vs.toArray)) (xs.toList.map ρ)
 | .call ⟨.builtin .min, xs, ts⟩ => opMost .lss (fun vs => pureD P (Builtin.min_ ts ty vs.toArray)) (xs.toList.map ρ)
 | _ => none
/-- The state behind an operation; 'id': the name that a new block gets. -/
def stepE (σ : St) (dst : Option Tmp) (id : Nat) : Eff → Option St
 | .val d => some (σ.put dst d)
 | .box cs => some (((σ.forget id).setB id ⟨cs.map (D.forget id), false⟩).put dst (.ptr id 0))
 | .row cs n sz => some (((σ.forget id).setB id ⟨cs.map (D.forget id), false⟩).put dst (.sl id 0 n ⟨sz, 0⟩))
 | .row0 => some (σ.put dst .emp)
 | .sto i off ds => match σ.bk i with
  | some ⟨cells, false⟩ => if off + ds.length ≤ cells.length then some ((σ.setB i ⟨splice cells off ds, false⟩).put dst (.v undef)) else none
  | _ => none
 | .cpy i off ds u => match σ.bk i with
  | some ⟨cells, false⟩ => if off + ds.length ≤ cells.length then some ((σ.setB i ⟨splice cells off ds, false⟩).put dst (D.ofV u)) else none
  | _ => none
 | .app s sz m ds => match s with
  | .emp => some (((σ.forget id).setB id ⟨ds.map (D.forget id), false⟩).put dst (.sl id 0 m ⟨sz, 0⟩))
  | .v _ => some (((σ.forget id).setB id ⟨ds.map (D.forget id), false⟩).put dst (.sl id 0 m ⟨sz, 0⟩))
  | .sl i off n _ => match σ.bk i with
   | some ⟨cells, false⟩ => if off + n * sz ≤ cells.length then some (((σ.forget i).setB i ⟨((cells.drop off).take (n * sz) ++ ds).map (D.forget i), false⟩).put dst (.sl i 0 (n + m) ⟨sz, 0⟩)) else none
   | _ => none
  | _ => none
/-- A pointer to a package-level variable. -/
def gloD : List D → D
 | [] => .undef
 | d :: ds => .shp (d :: ds) 0
def evalD (σ : St) : Operand → D
 | .tmp t => σ.fr.tm t
 | .const v => D.ofV v
 | .global g => gloD (Glo.g g)
 | .func f => .fn f []
end Go.Dam
end

section
namespace Go.Dam
open Go Go.RowKit
variable [Glo]
section
variable {P : Program} {w : World} {A : Nat → Prop} {β : Env} {base : Nat} {σ : St} {tmps : Array Value} {acts : List (Array Value)}
/-- What a run has come to, by an effect. -/
def Good (P : Program) (w : World) (A : Nat → Prop) (β : Env) (r : Result Next) : Eff → Prop
 | .val d => ∃ u, r = .ok (.value u) w ∧ Rep w A β d u
 | .box cs => ∃ T vs, RepLs w A β cs vs ∧ r = .ok (.value (.pointer (some ⟨w.heap.size, 0, none⟩))) (w.alloc (.cells vs.toArray T))
 | .row cs n sz => ∃ T vs cap, RepLs w A β cs vs ∧ n ≤ cap ∧ cap * sz ≤ vs.length ∧ r = .ok (.value (.slice (some ⟨w.heap.size, 0, none⟩) n cap)) (w.alloc (.cells vs.toArray T))
 | .row0 => ∃ T vs, r = .ok (.value (.slice (some ⟨w.heap.size, 0, none⟩) 0 0)) (w.alloc (.cells vs T))
 | .sto id off ds => ∃ ad vs, β id = some ad ∧ RepLs w A β ds vs ∧ (∀ u ∈ vs, u.oneCell' = true) ∧ r = ((storeCells (plusOff ad off) vs).run P w).andThen fun _ w' => .ok .skip w'
 | .cpy id off ds u => ∃ ad vs, β id = some ad ∧ RepLs w A β ds vs ∧ (∀ u ∈ vs, u.oneCell' = true) ∧ r = ((storeCells (plusOff ad off) vs).run P w).andThen fun _ w' => .ok (.value u) w'
 | .app s sz m ds => ∃ (t t2 ty e : TypeId) (e2 : TypeId) (i : TypeInfo) (z : Value) (o : Option Addr) (n c : Nat) (x : Value) (vs : List Value),
   P.underlying t = some (.slice e) ∧ P.underlying t2 = some (.slice e2) ∧ P.info? e = some i ∧ i.zero = some z ∧ z.cells.size = i.size ∧ 1 ≤ i.bytes ∧ sz = i.size ∧ Src P w sz m x vs ∧ RepLs w A β ds vs ∧
   (∀ u ∈ vs, u.oneCell' = true) ∧ (n + m) * i.bytes ≤ 2 ^ 44 ∧ ds.length = m * sz ∧ Rep w A β s (.slice o n c) ∧ (∀ id off n' sz', s = .sl id off n' sz' → sz'.s = sz) ∧ (∀ u, s = .v u → u = .slice none 0 0) ∧
   r = ((Builtin.append_ #[t, t2] ty #[.slice o n c, x]).run P w).andThen fun v w' => .ok (.value v) w'
theorem infoD_spec {t : TypeId} {sz : Nat} {d : TypeDesc} (h : infoD P t = some (sz, d)) : ∃ i, P.info? t = some i ∧ i.size = sz ∧ P.underlying t = some d := by
 unfold infoD at h
 split at h
 next i d' h1 h2 => simp at h; obtain ⟨rfl, rfl⟩ := h; exact ⟨i, h1, rfl, h2⟩
 next => cases h
theorem isAgg_run {t : TypeId} {d : TypeDesc} (h : P.underlying t = some d) (w : World) : (isAgg t).run P w = .ok (aggD d) w := by
 unfold isAgg
 simp only [Sem.run_bind, run_underlying h, Result.andThen_ok]
 cases d <;> rfl
/-- A variable is loaded. -/
theorem load_run {t : TypeId} {cs : List D} {off : Nat} {ad : Addr} {d : D} (hs : ad.spot = none) (hc : CellsAt w A β cs ad) (h : takeD P t cs off = some d) :
  ∃ u, (loadVar t (plusOff ad off)).run P w = .ok u w ∧ Rep w A β d u := by
 unfold takeD at h
 split at h
 ·cases h
 next sz dd hi =>
  obtain ⟨i, h1, rfl, h2⟩ := infoD_spec hi
  split at h
  next hag =>
   split at h
   next hl =>
    simp at h; subst h
    have hlen : ((cs.drop off).take i.size).length = i.size := by simp; omega
    obtain ⟨vs, k1, k2⟩ := loadCells_run P rfl ((hc.drop hs off).take rfl i.size)
    refine ⟨.agg vs.toArray, ?_, by simp only [Rep]; exact ⟨vs, rfl, k2⟩⟩
    rw [hlen] at k1
    simp [loadVar, isAgg_run h2, hag, run_sizeOf h1, k1]
   ·cases h
  next hag =>
   obtain ⟨u, k1, k2⟩ := hc.get hs off d h
   refine ⟨u, ?_, k2⟩
   simp [loadVar, isAgg_run h2, hag, k1]
/-- A part of a value. -/
theorem part_run {t : TypeId} {cs : List D} {vs : List Value} {off : Nat} {d : D} (hc : RepLs w A β cs vs) (h : takeD P t cs off = some d) :
  ∃ u, (part t vs.toArray off).run P w = .ok u w ∧ Rep w A β d u := by
 unfold takeD at h
 split at h
 ·cases h
 next sz dd hi =>
  obtain ⟨i, h1, rfl, h2⟩ := infoD_spec hi
  split at h
  next hag =>
   split at h
   next hl =>
    simp at h; subst h
    refine ⟨.agg (vs.toArray.extract off (off + i.size)), ?_, ?_⟩
    ·simp [part, isAgg_run h2, hag, run_sizeOf h1]
    ·simp only [Rep]
     refine ⟨(vs.drop off).take i.size, ?_, (hc.drop off).take _⟩
     congr 1
     apply Array.ext'
     simp [List.extract_eq_take_drop]
   ·cases h
  next hag =>
   obtain ⟨u, k1, k2⟩ := hc.get off d h
   refine ⟨u, ?_, k2⟩
   simp [part, isAgg_run h2, hag, k1]
theorem behind_spec (h : Rel w A β base σ tmps acts) {a : D} {va : Value} (ha : Rep w A β a va) {cs : List D} {off : Nat} (hb : a.behind σ.bk = some (cs, off)) (hne : cs ≠ []) :
  ∃ ad, va = .pointer (some (plusOff ad off)) ∧ ad.spot = none ∧ CellsAt w A β cs ad := by
 cases a with
 | ptr id o =>
  simp only [D.behind, Option.map_eq_some_iff] at hb
  obtain ⟨b, hb, he⟩ := hb
  simp at he; obtain ⟨rfl, rfl⟩ := he
  simp only [Rep] at ha
  obtain ⟨ad, h1, rfl⟩ := ha
  rcases h.blk id b hb with ⟨h2, _⟩ | ⟨ad', h2, h3⟩
  ·rw [h1] at h2; cases h2
  ·rw [h1] at h2; cases h2
   exact ⟨ad, rfl, h3.spot, h3.cells⟩
 | pel id i n j =>
  simp only [D.behind, Option.map_eq_some_iff] at hb
  obtain ⟨b, hb, he⟩ := hb
  simp at he; obtain ⟨rfl, rfl⟩ := he
  simp only [Rep] at ha
  obtain ⟨ad, h1, rfl⟩ := ha
  rcases h.blk id b hb with ⟨h2, _⟩ | ⟨ad', h2, h3⟩
  ·rw [h1] at h2; cases h2
  ·rw [h1] at h2; cases h2
   exact ⟨ad, rfl, h3.spot, h3.cells⟩
 | shp c o =>
  simp [D.behind] at hb; obtain ⟨rfl, rfl⟩ := hb
  simp only [Rep, RepS] at ha
  obtain ⟨ad, rfl, h1, _, h2⟩ := ha
  exact ⟨ad, rfl, h1, h2.cellsAt (fun d u h => RepS.rep d u h)⟩
 | _ => simp [D.behind] at hb
theorem cells_spec {x : D} {v : Value} (hr : Rep w A β x v) {cs : List D} (h : x.cells = some cs) : RepLs w A β cs v.cells.toList := by
 cases x with
 | agg ds => simp [D.cells] at h; subst h; simp only [Rep] at hr; obtain ⟨vs, rfl, hr⟩ := hr; simpa [Value.cells] using hr
 | v y => simp [D.cells] at h; subst h; simp only [Rep, RepS] at hr; subst hr; simpa using RepLs.ofV (w := w) (A := A) (β := β) v.cells.toList
 | sh n ds => simp [D.cells] at h; subst h; have hr0 := hr; simp only [Rep, RepS] at hr; obtain ⟨o, c, rfl, _⟩ := hr; simp [Value.cells, RepLs]; exact hr0
 | sl id off n sz => simp [D.cells] at h; subst h; have hr0 := hr; simp only [Rep] at hr; obtain ⟨o, c, rfl, _⟩ := hr; simp [Value.cells, RepLs]; exact hr0
 | ptr id off => simp [D.cells] at h; subst h; have hr0 := hr; simp only [Rep] at hr; obtain ⟨ad, _, rfl⟩ := hr; simp [Value.cells, RepLs]; exact hr0
 | shp ds off => simp [D.cells] at h; subst h; have hr0 := hr; simp only [Rep, RepS] at hr; obtain ⟨ad, rfl, _⟩ := hr; simp [Value.cells, RepLs]; exact hr0
 | fn f ds => simp [D.cells] at h; subst h; have hr0 := hr; simp only [Rep] at hr; obtain ⟨vs, rfl, _⟩ := hr; simp [Value.cells, RepLs]; exact hr0
 | emp => simp [D.cells] at h; subst h; have hr0 := hr; simp only [Rep, RepS] at hr; obtain ⟨o, rfl⟩ := hr; simp [Value.cells, RepLs]; exact hr0
 | rc ds => simp [D.cells] at h; subst h; have hr0 := hr; simp only [Rep, RepS] at hr; obtain ⟨o, c, rfl, _⟩ := hr; simp [Value.cells, RepLs]; exact hr0
 | pel id i n j => simp [D.cells] at h; subst h; have hr0 := hr; simp only [Rep] at hr; obtain ⟨ad, _, rfl⟩ := hr; simp [Value.cells, RepLs]; exact hr0
 | oc _ => simp [D.cells] at h
 | undef => simp [D.cells] at h
 | ow _ _ _ => simp [D.cells] at h
 | tup _ => simp [D.cells] at h
 | yld => simp [D.cells] at h
theorem one_spec {x : D} {v : Value} (hr : Rep w A β x v) (h : x.one = true) : v.oneCell' = true := by
 cases x with
 | v y => simp [D.one] at h; simp only [Rep, RepS] at hr; subst hr; exact h
 | sh n ds => simp only [Rep, RepS] at hr; obtain ⟨o, c, rfl, _⟩ := hr; rfl
 | sl id off n sz => simp only [Rep] at hr; obtain ⟨o, c, rfl, _⟩ := hr; rfl
 | ptr id off => simp only [Rep] at hr; obtain ⟨ad, _, rfl⟩ := hr; rfl
 | shp ds off => simp only [Rep, RepS] at hr; obtain ⟨ad, rfl, _⟩ := hr; rfl
 | fn f ds => simp only [Rep] at hr; obtain ⟨vs, rfl, _⟩ := hr; rfl
 | emp => simp only [Rep, RepS] at hr; obtain ⟨o, rfl⟩ := hr; rfl
 | rc ds => simp only [Rep, RepS] at hr; obtain ⟨o, c, rfl, _⟩ := hr; rfl
 | pel id i n j => simp only [Rep] at hr; obtain ⟨ad, _, rfl⟩ := hr; rfl
 | _ => simp [D.one] at h
theorem ones_spec : ∀ {cs : List D} {vs : List Value}, RepLs w A β cs vs → cs.all D.one = true → ∀ u ∈ vs, u.oneCell' = true
 | [], vs, h, _, u, hu => by simp [RepLs] at h; subst h; cases hu
 | d :: ds, vs, h, ho, u, hu => by
  simp only [RepLs] at h
  obtain ⟨x, xs, rfl, h1, h2⟩ := h
  simp at ho hu
  rcases hu with rfl | hu
  ·exact one_spec h1 ho.1
  ·exact ones_spec h2 (by simpa using ho.2) u hu
inductive PartsRep (w : World) (A : Nat → Prop) (β : Env) : List (Nat × D) → List (Nat × Value) → Prop
 | nil : PartsRep w A β [] []
 | cons {i : Nat} {d : D} {v : Value} {ps : List (Nat × D)} {qs : List (Nat × Value)} : Rep w A β d v → PartsRep w A β ps qs → PartsRep w A β ((i, d) :: ps) ((i, v) :: qs)
theorem fillD_spec (place : Nat → Option (Nat × Nat)) : ∀ (parts : List (Nat × D)) (vparts : List (Nat × Value)) (cells : List D) (vcells : Array Value) (out : List D),
  PartsRep w A β parts vparts → RepLs w A β cells vcells.toList → fillD place cells parts = some out →
  ∃ vout : Array Value, Instr.fill place vcells vparts = some vout ∧ RepLs w A β out vout.toList
 | [], _, cells, vcells, out, hf, hr, h => by
  cases hf
  simp [fillD] at h; subst h
  exact ⟨vcells, by simp [Instr.fill], hr⟩
 | (i, x) :: rest, _, cells, vcells, out, hf, hr, h => by
  cases hf with
  | @cons _ _ v _ qs hx h2 =>
  simp only [fillD] at h
  split at h
  next off size ds hp hc =>
   split at h
   next hl =>
    have hcs := cells_spec hx hc
    have hlen := hcs.length
    have hlen2 := hr.length
    simp only [Array.length_toList] at hlen hlen2
    have hput : RepLs w A β (splice cells off ds) (v.cells.zipIdx.foldl (fun cs (c, j) => cs.setIfInBounds (off + j) c) vcells).toList := by
     have hfold : ∀ (us : List Value) (k : Nat) (c : Array Value), (us.zipIdx k).foldl (fun cs (c, j) => cs.setIfInBounds (off + j) c) c = putAt c (off + k) us := by
      intro us
      induction us with
      | nil => intro k c; rfl
      | cons u us ih => intro k c; simp only [List.zipIdx_cons, List.foldl_cons, ih, putAt]; rw [Nat.add_assoc]
     have hfold' : v.cells.zipIdx.foldl (fun cs (c, j) => cs.setIfInBounds (off + j) c) vcells = putAt vcells off v.cells.toList := by
      have := hfold v.cells.toList 0 vcells
      rw [← Array.foldl_toList, Array.toList_zipIdx]
      simpa using this
     rw [hfold']
     refine RepLs.of_get ?_ ?_
     ·simp [splice, putAt_size]; omega
     ·intro j d hj
      rw [splice_get (by omega)] at hj
      rw [Array.getElem?_toList, putAt_get _ _ _ _ (by simp; omega)]
      split at hj
      next hin =>
       obtain ⟨u, k1, k2⟩ := hcs.get _ _ hj
       exact ⟨u, by rw [if_pos (by simp; omega)]; exact k1, k2⟩
      next hout =>
       obtain ⟨u, k1, k2⟩ := hr.get _ _ hj
       exact ⟨u, by rw [if_neg (by simp; omega)]; simpa using k1, k2⟩
    obtain ⟨vout, k1, k2⟩ := fillD_spec place rest qs _ _ out h2 hput h
    refine ⟨vout, ?_, k2⟩
    simp only [Instr.fill, hp]
    rw [if_neg (by simp; omega)]
    exact k1
   ·cases h
  ·cases h
theorem parts_spec {ρ : Operand → D} {ρv : Operand → Value} (hρ : ∀ x, Rep w A β (ρ x) (ρv x)) : ∀ (ps : List (Nat × Operand)), PartsRep w A β (ps.map fun p => (p.1, ρ p.2)) (ps.map fun p => (p.1, ρv p.2))
 | [] => .nil
 | p :: ps => .cons (hρ _) (parts_spec hρ ps)
theorem zero_spec {t : TypeId} {z : List D} (h : zeroD P t = some z) : ∃ i v, P.info? t = some i ∧ i.zero = some v ∧ z = v.cells.toList.map .v := by
 unfold zeroD at h
 split at h
 ·cases h
 next i hi =>
  split at h
  ·cases h
  next v hv => simp at h; exact ⟨i, v, hi, hv, h.symm⟩
theorem places_run : ∀ (fs : List Field) (w : World), (∀ f ∈ fs, (P.info? f.type).isSome = true) → (fs.mapM (fun f => do pure (f.offset, ← sizeOf f.type)) : Sem (List (Nat × Nat))).run P w = .ok (fs.map fun f => (f.offset, ((P.info? f.type).map (·.size)).getD 0)) w
 | [], w, _ => rfl
 | f :: fs, w, hall => by
  obtain ⟨j, hj⟩ := Option.isSome_iff_exists.1 (hall f (by simp))
  have ih := places_run fs w (fun g hg => hall g (by simp [hg]))
  simp only [List.mapM_cons, Sem.run_bind, run_sizeOf hj, Result.andThen_ok, Sem.run_pure, ih, List.map_cons, hj, Option.map_some, Option.getD_some]
theorem build_sound {ρ : Operand → D} {ρv : Operand → Value} (hρ : ∀ x, Rep w A β (ρ x) (ρv x)) {t : TypeId} {parts : Array (Nat × Operand)} {e : Eff} (h : buildD P t (parts.toList.map fun p => (p.1, ρ p.2)) = some e) :
  ∃ d u, e = .val d ∧ (Instr.build t (parts.map fun (i, x) => (i, ρv x))).run P w = .ok u w ∧ Rep w A β d u := by
 have hp : (parts.map fun (i, x) => (i, ρv x)).toList = parts.toList.map fun p => (p.1, ρv p.2) := by simp
 unfold buildD at h
 split at h
 next zero fields hz hu =>
  obtain ⟨i, z, hi, hzz, rfl⟩ := zero_spec hz
  split at h
  next hall =>
   simp only [Option.map_eq_some_iff] at h
   obtain ⟨cs, hf, rfl⟩ := h
   obtain ⟨vout, k1, k2⟩ := fillD_spec _ _ _ _ z.cells _ (parts_spec hρ parts.toList) (RepLs.ofV _) hf
   refine ⟨_, .agg vout, rfl, ?_, by simp only [Rep]; exact ⟨vout.toList, by simp, k2⟩⟩
   have hall' : ∀ f ∈ fields.toList, (P.info? f.type).isSome = true := fun f hf => List.all_eq_true.1 hall f hf
   simp only [Instr.build, Sem.run_bind, run_zeroValue hi hzz, Result.andThen_ok, run_underlying hu, Array.mapM_eq_mapM_toList, Sem.run_map, places_run fields.toList w hall', hp]
   have hpl : (fun (x : Nat) => ((fields.toList.map fun f => (f.offset, ((P.info? f.type).map (·.size)).getD 0)).toArray)[x]?) = fun i => (fields.toList.map fun f => (f.offset, ((P.info? f.type).map (·.size)).getD 0))[i]? := by funext i; simp
   rw [hpl, k1]
   rfl
  next => cases h
 next zero len elem hz hu =>
  obtain ⟨i, z, hi, hzz, rfl⟩ := zero_spec hz
  split at h
  ·cases h
  next j hj =>
   simp only [Option.map_eq_some_iff] at h
   obtain ⟨cs, hf, rfl⟩ := h
   obtain ⟨vout, k1, k2⟩ := fillD_spec _ _ _ _ z.cells _ (parts_spec hρ parts.toList) (RepLs.ofV _) hf
   refine ⟨_, .agg vout, rfl, ?_, by simp only [Rep]; exact ⟨vout.toList, by simp, k2⟩⟩
   simp only [Instr.build, Sem.run_bind, run_zeroValue hi hzz, Result.andThen_ok, run_underlying hu, run_sizeOf hj, hp, k1]
   rfl
 ·cases h
end
end Go.Dam
end
