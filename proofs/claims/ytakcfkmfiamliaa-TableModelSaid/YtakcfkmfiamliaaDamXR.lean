/- The engine: an abstract machine for the program's functions, proved right against the model. No condition. -/
import Derived.Test.YtakcfkmfiamliaaDamAF
set_option linter.unusedSectionVars false
set_option linter.unusedVariables false
set_option linter.unusedSimpArgs false
section
namespace Go.Dam
open Go Go.RowKit
variable [Glo]
theorem beq_no {i j : Nat} (h : i ≠ j) : Nat.beq i j = false := by
 rw [Bool.eq_false_iff]; intro e; exact h (Nat.eq_of_beq_eq_true e)
theorem beq_yes (i : Nat) : Nat.beq i i = true := Nat.beq_refl i
noncomputable section
/-! Frames as trees. -/
inductive TT where
 | lf
 | nd (d : D) (l r : TT)
def TT.top : TT → D := TT.rec .undef (fun d _ _ _ _ => d)
def TT.kid (b : Bool) : TT → TT := TT.rec .lf (fun _ l r _ _ => bif b then r else l)
def TT.get (p : List Bool) : TT → D := List.rec (motive := fun _ => TT → D) (fun t => t.top) (fun b _ ih t => ih (t.kid b)) p
def TT.set (d : D) (p : List Bool) : TT → TT :=
 List.rec (motive := fun _ => TT → TT) (fun t => .nd d (t.kid false) (t.kid true)) (fun b _ ih t => .nd t.top (bif b then t.kid false else ih (t.kid false)) (bif b then ih (t.kid true) else t.kid true)) p
def TT.map (f : D → D) : TT → TT := TT.rec .lf (fun d _ _ l r => .nd (f d) l r)
def pathF (k : Nat) : Nat → List Bool :=
 Nat.rec (motive := fun _ => Nat → List Bool) (fun _ => []) (fun _ ih n => bif Nat.beq n 0 then [] else bif Nat.beq (n % 2) 1 then false :: ih (n / 2) else true :: ih (n / 2 - 1)) k
def path (n : Nat) : List Bool := pathF (n + 1) n
def dec : List Bool → Nat
 | [] => 0
 | false :: p => 1 + 2 * dec p
 | true :: p => 2 + 2 * dec p
theorem dec_pathF : ∀ (k n : Nat), n < k → dec (pathF k n) = n
 | 0, n, h => by omega
 | k + 1, n, h => by
  show dec (bif Nat.beq n 0 then [] else bif Nat.beq (n % 2) 1 then false :: pathF k (n / 2) else true :: pathF k (n / 2 - 1)) = n
  by_cases h0 : n = 0
  ·subst h0; rfl
  ·rw [beq_no h0, cond_false]
   by_cases h1 : n % 2 = 1
   ·rw [h1, beq_yes, cond_true, dec, dec_pathF k _ (by omega)]; omega
   ·rw [beq_no h1, cond_false, dec, dec_pathF k _ (by omega)]; omega
theorem dec_path (n : Nat) : dec (path n) = n := dec_pathF _ _ (Nat.lt_succ_self n)
theorem path_inj {m n : Nat} (h : path m = path n) : m = n := by rw [← dec_path m, h, dec_path]
theorem length_pathF : ∀ (k n : Nat), (pathF k n).length ≤ n
 | 0, n => Nat.zero_le _
 | k + 1, n => by
  show (bif Nat.beq n 0 then [] else bif Nat.beq (n % 2) 1 then false :: pathF k (n / 2) else true :: pathF k (n / 2 - 1)).length ≤ n
  by_cases h0 : n = 0
  ·subst h0; exact Nat.zero_le _
  ·rw [beq_no h0, cond_false]
   by_cases h1 : n % 2 = 1
   ·rw [h1, beq_yes, cond_true, List.length_cons]; have := length_pathF k (n / 2); omega
   ·rw [beq_no h1, cond_false, List.length_cons]; have := length_pathF k (n / 2 - 1); omega
theorem TT.get_set (d : D) : ∀ (p q : List Bool) (t : TT), (t.set d p).get q = if q = p then d else t.get q
 | [], [], t => rfl
 | [], b :: q, t => by
  rw [if_neg (by simp)]
  show TT.get q (TT.kid b (.nd d (t.kid false) (t.kid true))) = TT.get q (t.kid b)
  cases b <;> rfl
 | b :: p, [], t => by rw [if_neg (by simp)]; rfl
 | b :: p, c :: q, t => by
  show TT.get q (TT.kid c (.nd t.top (bif b then t.kid false else (t.kid false).set d p) (bif b then (t.kid true).set d p else t.kid true))) = if c :: q = b :: p then d else TT.get q (t.kid c)
  have e : ∀ x : TT, (if q = p then d else TT.get q x) = TT.get q (x.set d p) := fun x => (TT.get_set d p q x).symm
  cases b <;> cases c
  ·show TT.get q ((t.kid false).set d p) = _
   rw [← e]; simp
  ·show TT.get q (t.kid true) = _
   rw [if_neg (by simp)]
  ·show TT.get q (t.kid false) = _
   rw [if_neg (by simp)]
  ·show TT.get q ((t.kid true).set d p) = _
   rw [← e]; simp
theorem TT.kid_map (f : D → D) (b : Bool) (t : TT) : (t.map f).kid b = (t.kid b).map f := by
 cases t with
 | lf => rfl
 | nd d l r => cases b <;> rfl
theorem TT.get_map {f : D → D} (hf : f .undef = .undef) : ∀ (p : List Bool) (t : TT), (t.map f).get p = f (t.get p)
 | [], t => by cases t with
  | lf => exact hf.symm
  | nd d l r => rfl
 | b :: p, t => by
  show TT.get p ((t.map f).kid b) = f (TT.get p (t.kid b))
  rw [TT.kid_map, TT.get_map hf p]
/-- A tree with these values. -/
def TT.mk (val : Nat → D) (k : Nat) : Nat → Nat → TT :=
 Nat.rec (motive := fun _ => Nat → Nat → TT) (fun _ _ => .lf) (fun _ ih o s => .nd (val o) (ih (o + s) (2 * s)) (ih (o + 2 * s) (2 * s))) k
theorem TT.get_mk (val : Nat → D) : ∀ (p : List Bool) (k o s : Nat), (TT.mk val k o s).get p = if p.length < k then val (o + s * dec p) else .undef
 | [], 0, o, s => rfl
 | [], k + 1, o, s => by rw [if_pos (by simp)]; show val o = val (o + s * 0); rw [Nat.mul_zero, Nat.add_zero]
 | b :: p, 0, o, s => by
  rw [if_neg (by simp)]
  show TT.get p (TT.kid b .lf) = .undef
  have : ∀ p, TT.get p .lf = .undef := fun p => by
   induction p with
   | nil => rfl
   | cons b p ih => exact ih
  exact this p
 | b :: p, k + 1, o, s => by
  show TT.get p (TT.kid b (.nd (val o) (TT.mk val k (o + s) (2 * s)) (TT.mk val k (o + 2 * s) (2 * s)))) = _
  have e : (b :: p).length < k + 1 ↔ p.length < k := by simp
  have m : s * (2 * dec p) = 2 * s * dec p := by rw [← Nat.mul_assoc, Nat.mul_comm s 2]
  cases b
  ·show TT.get p (TT.mk val k (o + s) (2 * s)) = _
   rw [TT.get_mk val p k]
   simp only [e, dec, Nat.mul_add, Nat.mul_one, m, Nat.add_assoc]
  ·show TT.get p (TT.mk val k (o + 2 * s) (2 * s)) = _
   rw [TT.get_mk val p k]
   simp only [e, dec, Nat.mul_add, m, Nat.add_assoc, Nat.mul_comm s 2]
/-- The values that a body begins with. -/
def initD (args : List D) (nt n : Nat) : D := match args[n]? with
 | some d => d
 | none => bif Nat.blt n nt then .v undef else .undef
/-- A block: cells; or a row of numbers and truth values, column by column. -/
inductive BX where
 | cells (cs : List D) (ro : Bool)
 | row (cols : List Col0) (ro : Bool)
def BX.blk : BX → Blk
 | .cells cs ro => ⟨cs, ro⟩
 | .row cols ro => ⟨rowCells0 cols, ro⟩
/-- A row into which cells were copied: a row again, if it can be one. -/
def BX.re (cols : List Col0) (cs : List D) : BX := match cols with
 | [c] => match c.of cs with
  | some c1 => .row [c1] false
  | none => .cells cs false
 | _ => .cells cs false
theorem BX.re_blk (cols : List Col0) (cs : List D) : (BX.re cols cs).blk = ⟨cs, false⟩ := by
 unfold BX.re
 split
 ·split
  next ho => simp only [BX.blk]; rw [Col0.of_cells ho]
  ·rfl
 ·rfl
def BX.forget (i : Nat) : BX → BX
 | .cells cs ro => .cells (cs.map (D.forget i)) ro
 | .row cols ro => .row cols ro
def BX.wipe (q : Nat → Bool) : BX → BX
 | .cells cs ro => .cells (cs.map (D.wipe q)) ro
 | .row cols ro => .row cols ro
def BX.freeze : BX → BX
 | .cells cs _ => .cells cs true
 | .row cols _ => .row cols true
/-- The abstract state as data. -/
structure Cs where
 tm : TT
 nt : Nat
 stk : List (TT × Nat)
 bk : List (Nat × BX)
 loop : Option LoopSt := none
 gen : Nat := 0
/-- What the run is told: that the next decisions are about known truth values; a decision; that a loop is run round by round; what a loop comes to:
which temporaries count ahead of it (frame by frame), how its blocks are called there (by which name, and by which from then on), the state ahead of it, how it ends, the state behind it. -/
inductive Cast where
 | nil (t id sz : Nat) (cols : List Col0)
 | cells (id : Nat) (c : Col0)
 | cnil (b off id sz : Nat) (cols : List Col0)
 | cut (id k : Nat)
inductive PE where
 | k (l : List Cast)
 | q (l : List Cast)
 | c (n : Nat)
 | d (b : Bool)
 | u
 | l (keep : List (List Nat)) (ren : List (Nat × Nat)) (c0 : Cs) (e : Ex) (c1 : Cs)
/-- The state, what the run is told, and what has to hold. -/
structure Cf extends Cs where
 todo : List PE := []
 cds : List Prop := []
def AllP : List Prop → Prop
 | [] => True
 | p :: l => p ∧ AllP l
theorem AllP_append : ∀ (l m : List Prop), AllP (l ++ m) ↔ AllP l ∧ AllP m
 | [], m => by simp [AllP]
 | p :: l, m => by simp [AllP, AllP_append l m, and_assoc]
/-- By which name new blocks are called: by turns, where that is asked for. -/
def depOf (c : Cf) : Nat := c.stk.length
def lookX (i : Nat) : List (Nat × BX) → Option BX
 | [] => none
 | (j, b) :: l => bif Nat.beq j i then some b else lookX i l
def lookB (i : Nat) (l : List (Nat × BX)) : Option Blk := (lookX i l).map BX.blk
def setBk (i : Nat) (b : BX) : List (Nat × BX) → List (Nat × BX)
 | [] => [(i, b)]
 | (j, c) :: l => bif Nat.beq j i then (j, b) :: l else (j, c) :: setBk i b l
def dropB (i : Nat) : List (Nat × BX) → List (Nat × BX)
 | [] => []
 | (j, c) :: l => bif Nat.beq j i then dropB i l else (j, c.forget i) :: dropB i l
def roB (ids : List Nat) : List (Nat × BX) → List (Nat × BX)
 | [] => []
 | (j, c) :: l => (j, bif ids.contains j then c.freeze else c) :: roB ids l
def frOf (f : TT × Nat) : Fr := { nt := f.2, tm := fun t => f.1.get (path t) }
def Cs.get (c : Cs) (t : Nat) : D := c.tm.get (path t)
def Cs.abs (c : Cs) : St := { fr := frOf (c.tm, c.nt), stk := c.stk.map frOf, bk := fun i => lookB i c.bk, loop := c.loop }
abbrev Cf.abs (c : Cf) : St := c.toCs.abs
theorem rowCells0_v {cols : List Col0} {d : D} (h : d ∈ rowCells0 cols) : ∃ x, d = .v x := by
 simp only [rowCells0, rowCells, List.mem_flatMap, List.mem_map, List.map_map, Function.comp] at h
 obtain ⟨i, _, c, _, rfl⟩ := h
 cases c <;> exact ⟨_, rfl⟩
theorem rowCells0_forget (i : Nat) (cols : List Col0) : (rowCells0 cols).map (D.forget i) = rowCells0 cols := by
 refine (List.map_congr_left fun d hd => ?_).trans (List.map_id _)
 obtain ⟨x, rfl⟩ := rowCells0_v hd
 rfl
theorem rowCells0_wipe (q : Nat → Bool) (cols : List Col0) : (rowCells0 cols).map (D.wipe q) = rowCells0 cols := by
 refine (List.map_congr_left fun d hd => ?_).trans (List.map_id _)
 obtain ⟨x, rfl⟩ := rowCells0_v hd
 rfl
theorem BX.blk_forget (i : Nat) (b : BX) : (b.forget i).blk = b.blk.forget i := by
 cases b with
 | cells cs ro => rfl
 | row cols ro => simp only [BX.forget, BX.blk, Blk.forget, rowCells0_forget]
theorem BX.blk_wipe (q : Nat → Bool) (b : BX) : (b.wipe q).blk = b.blk.wipe q := by
 cases b with
 | cells cs ro => rfl
 | row cols ro => simp only [BX.wipe, BX.blk, Blk.wipe, rowCells0_wipe]
theorem BX.blk_freeze (b : BX) : b.freeze.blk = { b.blk with ro := true } := by cases b <;> rfl
theorem lookX_set (i : Nat) (b : BX) (j : Nat) : ∀ l, lookX j (setBk i b l) = if j = i then some b else lookX j l
 | [] => by
  by_cases h : j = i
  ·subst h; simp [setBk, lookX, beq_yes]
  ·simp [setBk, lookX, h, beq_no (Ne.symm h)]
 | (k, c) :: l => by
  simp only [setBk]
  by_cases hk : k = i
  ·subst hk
   rw [beq_yes, cond_true]
   by_cases h : j = k
   ·subst h; simp [lookX, beq_yes]
   ·simp [h, lookX, beq_no (Ne.symm h)]
  ·rw [beq_no hk, cond_false]
   simp only [lookX, lookX_set i b j l]
   by_cases h : j = i
   ·subst h; simp [beq_no hk]
   ·simp [h]
theorem lookX_drop (i j : Nat) : ∀ l, lookX j (dropB i l) = if j = i then none else (lookX j l).map (BX.forget i)
 | [] => by simp [dropB, lookX]
 | (k, c) :: l => by
  simp only [dropB]
  by_cases hk : k = i
  ·subst hk
   rw [beq_yes, cond_true, lookX_drop k j l]
   by_cases h : j = k
   ·subst h; simp
   ·simp [h, lookX, beq_no (Ne.symm h)]
  ·rw [beq_no hk, cond_false]
   simp only [lookX, lookX_drop i j l]
   by_cases h : k = j
   ·subst h; simp [beq_yes, hk]
   ·simp [beq_no h]
theorem lookX_ro (ids : List Nat) (j : Nat) : ∀ l, lookX j (roB ids l) = if j ∈ ids then (lookX j l).map BX.freeze else lookX j l
 | [] => by simp [roB, lookX]
 | (k, c) :: l => by
  simp only [roB, lookX, lookX_ro ids j l]
  by_cases h : k = j
  ·subst h
   simp only [beq_yes, cond_true]
   by_cases hm : k ∈ ids <;> simp [hm]
  ·simp only [beq_no h, cond_false]
theorem lookB_set (i : Nat) (b : BX) (j : Nat) (l : List (Nat × BX)) : lookB j (setBk i b l) = if j = i then some b.blk else lookB j l := by
 unfold lookB; rw [lookX_set]; split <;> rfl
theorem lookB_drop (i j : Nat) (l : List (Nat × BX)) : lookB j (dropB i l) = if j = i then none else (lookB j l).map (Blk.forget i) := by
 unfold lookB; rw [lookX_drop]; split
 ·rfl
 ·simp only [Option.map_map]; congr 1; funext b; exact BX.blk_forget i b
theorem lookB_ro (ids : List Nat) (j : Nat) (l : List (Nat × BX)) : lookB j (roB ids l) = if j ∈ ids then (lookB j l).map fun b => { b with ro := true } else lookB j l := by
 unfold lookB; rw [lookX_ro]; split
 ·simp only [Option.map_map]; congr 1; funext b; exact BX.blk_freeze b
 ·rfl
def Cf.put (c : Cf) (dst : Option Tmp) (d : D) : Cf :=
 match dst with
 | some t => { c with tm := c.tm.set (bif Nat.blt t c.nt then d else .undef) (path t) }
 | none => c
def Cf.forget (c : Cf) (i : Nat) : Cf := { tm := c.tm.map (D.forget i), nt := c.nt, stk := c.stk.map fun f => (f.1.map (D.forget i), f.2), bk := dropB i c.bk, loop := if i = yldId then none else c.loop, gen := c.gen, todo := c.todo, cds := c.cds }
def Cf.setB (c : Cf) (i : Nat) (b : BX) : Cf := { c with bk := setBk i b c.bk }
def Cf.markRo (c : Cf) (ids : List Nat) : Cf := { c with bk := roB ids c.bk }
def Cf.enter (c : Cf) (args : List D) (nt : Nat) : Cf := { tm := TT.mk (initD args (args.length + (nt - args.length))) (args.length + (nt - args.length) + 1) 0 1, nt := args.length + (nt - args.length), stk := (c.tm, c.nt) :: c.stk, bk := c.bk, loop := c.loop, gen := c.gen, todo := c.todo, cds := c.cds }
/-- What has to hold, besides. -/
def Cf.owe (c : Cf) (l : List Prop) : Cf := { c with cds := l ++ c.cds }
theorem frOf_set (f : TT) (nt t : Nat) (d : D) : frOf (f.set (bif Nat.blt t nt then d else .undef) (path t), nt) = (frOf (f, nt)).put t d := by
 simp only [frOf, Fr.put]
 congr 1
 funext i
 rw [TT.get_set]
 by_cases h : i = t
 ·subst h
  rw [if_pos rfl, if_pos rfl]
  have key : ∀ (inst : Decidable (i < nt)), (bif i.blt nt then d else D.undef) = @ite D (i < nt) inst d .undef := by
   intro inst
   by_cases hl : i < nt
   ·rw [if_pos hl, show Nat.blt i nt = true by simpa [Nat.blt_eq] using hl]; rfl
   ·rw [if_neg hl, show Nat.blt i nt = false by rw [Bool.eq_false_iff]; simpa [Nat.blt_eq] using hl]; rfl
  exact key _
 ·rw [if_neg h, if_neg (fun e => h (path_inj e))]
theorem abs_put (c : Cf) (dst : Option Tmp) (d : D) : (c.put dst d).abs = c.abs.put dst d := by
 cases dst with
 | none => rfl
 | some t => simp only [Cf.put, Cf.abs, Cs.abs, St.put, frOf_set]
theorem frOf_forget (i : Nat) (f : TT × Nat) : frOf (f.1.map (D.forget i), f.2) = (frOf f).forget i := by
 simp only [frOf, Fr.forget]
 congr 1
 funext t
 exact TT.get_map rfl _ _
theorem abs_forget (c : Cf) (i : Nat) : (c.forget i).abs = c.abs.forget i := by
 simp only [Cf.forget, Cf.abs, Cs.abs, St.forget, List.map_map]
 congr 1
 ·exact frOf_forget i (c.tm, c.nt)
 ·congr 1
  funext f
  exact frOf_forget i f
 ·funext j
  exact lookB_drop i j c.bk
theorem abs_setB (c : Cf) (i : Nat) (b : BX) : (c.setB i b).abs = c.abs.setB i b.blk := by
 simp only [Cf.setB, Cf.abs, Cs.abs, St.setB]
 congr 1
 funext j
 exact lookB_set i b j c.bk
theorem abs_ro (c : Cf) (ids : List Nat) : (c.markRo ids).abs = c.abs.markRo ids := by
 simp only [Cf.markRo, Cf.abs, Cs.abs, St.markRo]
 congr 1
 funext j
 exact lookB_ro ids j c.bk
theorem frOf_mk (args : List D) (nt : Nat) : frOf (TT.mk (initD args (args.length + (nt - args.length))) (args.length + (nt - args.length) + 1) 0 1, args.length + (nt - args.length)) =
  { nt := args.length + (nt - args.length), tm := fun t => (args ++ List.replicate (nt - args.length) (D.v undef)).getD t .undef } := by
 simp only [frOf]
 congr 1
 funext t
 rw [TT.get_mk, dec_path, Nat.zero_add, Nat.one_mul]
 have hlen : (path t).length ≤ t := length_pathF (t + 1) t
 rw [List.getD_eq_getElem?_getD, List.getElem?_append, List.getElem?_replicate]
 by_cases h1 : t < args.length
 ·have hp : (path t).length < args.length + (nt - args.length) + 1 := by omega
  rw [if_pos hp, if_pos h1]
  simp [initD, h1]
 ·rw [if_neg h1]
  by_cases h2 : t < args.length + (nt - args.length)
  ·have hp : (path t).length < args.length + (nt - args.length) + 1 := by omega
   have h3 : t - args.length < nt - args.length := by omega
   rw [if_pos hp, if_pos h3]
   simp [initD, h1, show Nat.blt t (args.length + (nt - args.length)) = true by simpa [Nat.blt_eq] using h2]
  ·have h3 : ¬ (t - args.length < nt - args.length) := by omega
   rw [if_neg h3]
   split
   ·simp [initD, h1, show Nat.blt t (args.length + (nt - args.length)) = false by rw [Bool.eq_false_iff]; simpa [Nat.blt_eq] using h2]
   ·rfl
theorem abs_enter (c : Cf) (args : List D) (nt : Nat) : (c.enter args nt).abs = c.abs.enter args nt := by
 simp only [Cf.enter, Cf.abs, Cs.abs, St.enter, List.map_cons]
 congr 1
 exact frOf_mk args nt
@[simp] theorem abs_owe (c : Cf) (l : List Prop) : (c.owe l).abs = c.abs := rfl
def evalC (c : Cs) : Operand → D
 | .tmp t => c.get t
 | .const v => D.ofV v
 | .global g => gloD (Glo.g g)
 | .func f => .fn f []
theorem evalC_abs (c : Cs) : evalC c = evalD c.abs := by
 funext x; cases x <;> rfl
def Cs.look (c : Cs) : Nat → Option Blk := fun i => lookB i c.bk
def stepC (c : Cf) (dst : Option Tmp) (id : Nat) : Eff → Option Cf
 | .val d => some (c.put dst d)
 | .box cs => some (((c.forget id).setB id (.cells (cs.map (D.forget id)) false)).put dst (.ptr id 0))
 | .row cs n sz => some (((c.forget id).setB id (.cells (cs.map (D.forget id)) false)).put dst (.sl id 0 n ⟨sz, 0⟩))
 | .row0 => some (c.put dst .emp)
 | .sto i off ds => match lookX i c.bk with
  | some (.cells cells false) => if off + ds.length ≤ cells.length then some ((c.setB i (.cells (splice cells off ds) false)).put dst (.v undef)) else none
  | _ => none
 | .cpy i off ds u => match lookX i c.bk with
  | some (.cells cells false) => if off + ds.length ≤ cells.length then some ((c.setB i (.cells (splice cells off ds) false)).put dst (D.ofV u)) else none
  | some (.row cols false) => if off + ds.length ≤ (rowCells0 cols).length then some ((c.setB i (BX.re cols (splice (rowCells0 cols) off ds))).put dst (D.ofV u)) else none
  | _ => none
 | .app s sz m ds => match s with
  | .emp => some (((c.forget id).setB id (.cells (ds.map (D.forget id)) false)).put dst (.sl id 0 m ⟨sz, 0⟩))
  | .v _ => some (((c.forget id).setB id (.cells (ds.map (D.forget id)) false)).put dst (.sl id 0 m ⟨sz, 0⟩))
  | .sl i off n _ => match lookX i c.bk with
   | some (.cells cells false) => if off + n * sz ≤ cells.length then some (((c.forget i).setB i (.cells (((cells.drop off).take (n * sz) ++ ds).map (D.forget i)) false)).put dst (.sl i 0 (n + m) ⟨sz, 0⟩)) else none
   | _ => none
  | _ => none
theorem lookB_cells {i : Nat} {l : List (Nat × BX)} {cells : List D} {ro : Bool} (h : lookX i l = some (.cells cells ro)) : lookB i l = some ⟨cells, ro⟩ := by
 unfold lookB; rw [h]; rfl
theorem lookB_rowA {i : Nat} {l : List (Nat × BX)} {cols : List Col0} {ro : Bool} (h : lookX i l = some (.row cols ro)) : lookB i l = some ⟨rowCells0 cols, ro⟩ := by
 unfold lookB; rw [h]; rfl
theorem stepC_abs {c : Cf} {dst : Option Tmp} {id : Nat} {e : Eff} {c' : Cf} (h : stepC c dst id e = some c') : stepE c.abs dst id e = some c'.abs ∧ c'.cds = c.cds := by
 have pc : ∀ (c : Cf) (d : D), (c.put dst d).cds = c.cds := fun c d => by cases dst <;> rfl
 cases e with
 | val d => simp [stepC] at h; subst h; exact ⟨by simp [stepE, abs_put], pc _ _⟩
 | box cs => simp [stepC] at h; subst h; exact ⟨by simp [stepE, abs_put, abs_setB, abs_forget, BX.blk], pc _ _⟩
 | row cs n sz => simp [stepC] at h; subst h; exact ⟨by simp [stepE, abs_put, abs_setB, abs_forget, BX.blk], pc _ _⟩
 | row0 => simp [stepC] at h; subst h; exact ⟨by simp [stepE, abs_put], pc _ _⟩
 | sto i off ds =>
  simp only [stepC] at h
  split at h
  next cells hl =>
   split at h
   next hle =>
    simp only [Option.some.injEq] at h; subst h
    refine ⟨?_, pc _ _⟩
    simp only [stepE, show c.abs.bk i = some ⟨cells, false⟩ from lookB_cells hl, if_pos hle, abs_put, abs_setB, BX.blk]
   ·cases h
  ·cases h
 | cpy i off ds k =>
  simp only [stepC] at h
  split at h
  next cells hl =>
   split at h
   next hle =>
    simp only [Option.some.injEq] at h; subst h
    refine ⟨?_, pc _ _⟩
    simp only [stepE, show c.abs.bk i = some ⟨cells, false⟩ from lookB_cells hl, if_pos hle, abs_put, abs_setB, BX.blk]
   ·cases h
  next cols hl =>
   split at h
   next hle =>
    simp only [Option.some.injEq] at h; subst h
    refine ⟨?_, pc _ _⟩
    simp only [stepE, show c.abs.bk i = some ⟨rowCells0 cols, false⟩ from lookB_rowA hl, if_pos hle, abs_put, abs_setB, BX.re_blk]
   ·cases h
  ·cases h
 | app s sz m ds =>
  cases s with
  | v x => simp [stepC] at h; subst h; exact ⟨by simp [stepE, abs_put, abs_setB, abs_forget, BX.blk], pc _ _⟩
  | emp => simp [stepC] at h; subst h; exact ⟨by simp [stepE, abs_put, abs_setB, abs_forget, BX.blk], pc _ _⟩
  | sl i off n z =>
   simp only [stepC] at h
   split at h
   next cells hl =>
    split at h
    next hle =>
     simp only [Option.some.injEq] at h; subst h
     refine ⟨?_, pc _ _⟩
     simp only [stepE, show c.abs.bk i = some ⟨cells, false⟩ from lookB_cells hl, if_pos hle, abs_put, abs_setB, abs_forget, BX.blk]
    ·cases h
   ·cases h
  | _ => simp [stepC] at h
end
end Go.Dam
end

section
namespace Go.Dam
open Go Go.RowKit
variable [Glo]
noncomputable section
/-! ### Operations on numbers that are terms: what has to hold is told, not decided -/
def opLen (P : Program) (ρ : Operand → D) (args : List Operand) (ts : List TypeId) : Option Eff :=
 match args, ts with
 | [x], [t] => lenD P t (ρ x)
 | _, _ => none
def opAppend (P : Program) (bk : Nat → Option Blk) (ρ : Operand → D) (args : List Operand) (ts : Array TypeId) : Option Eff :=
 match args with
 | [s, x] => appendD P bk ts (ρ s) (ρ x)
 | _ => none
def opCopy (P : Program) (bk : Nat → Option Blk) (ρ : Operand → D) (args : List Operand) (ts : Array TypeId) : Option Eff :=
 match args with
 | [d, x] => copyD P bk ts (ρ d) (ρ x)
 | _ => none
def opClear (P : Program) (ρ : Operand → D) (args : List Operand) (ts : Array TypeId) : Option Eff :=
 match args with
 | [d] => clearD P ts (ρ d)
 | _ => none
def opBuiltin (P : Program) (bk : Nat → Option Blk) (ρ : Operand → D) (ty : TypeId) (args : Array Operand) (ts : Array TypeId) : Builtin → Option Eff
 | .len => opLen P ρ args.toList ts.toList
 | .append => opAppend P bk ρ args.toList ts
 | .copy => opCopy P bk ρ args.toList ts
 | .clear => opClear P ρ args.toList ts
 | .max => opMost .gtr (fun vs => pureD P (Builtin.max_ ts ty vs.toArray)) (args.toList.map ρ)
 | .min => opMost .lss (fun vs => pureD P (Builtin.min_ ts ty vs.toArray)) (args.toList.map ρ)
 | _ => none
def opCall (P : Program) (bk : Nat → Option Blk) (ρ : Operand → D) (ty : TypeId) (c : Call) : Option Eff :=
 match c.callee with
 | .builtin b => opBuiltin P bk ρ ty c.args c.argTypes b
 | _ => none
def opFunc (ρ : Operand → D) (f : Fn) (first captured : Array Operand) : Option Eff :=
 match f with
 | .func f => if first.size = 0 then some (.val (.fn f (captured.toList.map ρ))) else none
 | _ => none
def opSlice (P : Program) (bk : Nat → Option Blk) (ρ : Operand → D) (t : TypeId) (x : Operand) (lo hi mx : Option Operand) : Option Eff :=
 match mx with
 | none => sliceD P bk t (ρ x) (lo.map ρ) (hi.map ρ)
 | some m => slice3D P t (ρ x) (lo.map ρ) (hi.map ρ) (ρ m)
def valOf (d : D) : Option Eff := some (.val d)
def boxOf (d : D) : Option Eff := d.cells.map .box
def buildF (P : Program) (ρ : Operand → D) (t : TypeId) (parts : Array (Nat × Operand)) : Option Eff := buildD P t (parts.toList.map fun p => (p.1, ρ p.2))
def buildSliceF (P : Program) (ρ : Operand → D) (t : TypeId) (len : Nat) (parts : Array (Nat × Operand)) : Option Eff := buildSliceD P t len (parts.toList.map fun p => (p.1, ρ p.2))
def opF (P : Program) (bk : Nat → Option Blk) (ρ : Operand → D) (ty : TypeId) : Op → Option Eff
 | .move x => valOf (ρ x)
 | .assign x => valOf (ρ x)
 | .pick c a b => opPick (ρ c) (ρ a) (ρ b)
 | .alloc t => (zeroD P t).map .box
 | .box _ x => boxOf (ρ x)
 | .build t parts => buildF P ρ t parts
 | .buildSlice t len parts => buildSliceF P ρ t len parts
 | .load t a => loadD P bk t (ρ a)
 | .store t a x => storeD P t (ρ a) (ρ x)
 | .nilCheck x => opNil (ρ x)
 | .binOp op t x y _ => binD P op t x y (ρ x) (ρ y)
 | .unOp op _ x => opUn P op (ρ x)
 | .convert src dst x => opConv P src dst (ρ x)
 | .makeFunc f first captured => opFunc ρ f first captured
 | .makeSlice t l c => makeSliceD P t (ρ l) (ρ c)
 | .slice t x lo hi mx => opSlice P bk ρ t x lo hi mx
 | .fieldAddr t x f => fieldAddrD P t (ρ x) f
 | .field t x f => fieldD P t (ρ x) f
 | .indexAddr t x ix => indexAddrD P t (ρ x) (ρ ix)
 | .index t x ix => indexD P t (ρ x) (ρ ix)
 | .extract x i => extractD (ρ x) i
 | .call c => opCall P bk ρ ty c
 | _ => none
theorem opF_eq (P : Program) (bk : Nat → Option Blk) (ρ : Operand → D) (ty : TypeId) (op : Op) : opF P bk ρ ty op = opD P bk ρ ty op := by
 cases op with
 | makeFunc f a b => cases f <;> rfl
 | slice t x lo hi mx => cases mx <;> rfl
 | call c =>
  obtain ⟨callee, args, ts⟩ := c
  obtain ⟨args⟩ := args
  cases callee with
  | value g => rfl
  | invoke r m => rfl
  | builtin b =>
   cases b <;> first | rfl | skip
   all_goals (obtain ⟨ts⟩ := ts; rcases args with _ | ⟨x, _ | ⟨y, _ | ⟨z, l⟩⟩⟩ <;> rcases ts with _ | ⟨t, _ | ⟨u, m⟩⟩ <;> rfl)
 | _ => rfl
abbrev OX := Eff × List Prop
def plainX (e : Option Eff) : Option OX :=
 match e with
 | some e => some (e, [])
 | none => none
def intX (op : BinOp) (k k' : IntKind) (p q : Int) : Option OX :=
 match op with
 | .shl => some (.val (.v (.int k (opI .shl k p q))), [decide (0 ≤ q) = true])
 | .shr => some (.val (.v (.int k (opI .shr k p q))), [decide (0 ≤ q) = true])
 | .quo => if k = k' then some (.val (.v (.int k (opI .quo k p q))), [decide (q = 0) = false]) else none
 | .rem => if k = k' then some (.val (.v (.int k (opI .rem k p q))), [decide (q = 0) = false]) else none
 | op => match intD op k k' p q with
  | some d => some (.val d, [])
  | none => none
def binX (P : Program) (op : BinOp) (t : TypeId) (x y : Operand) (a b : D) : Option OX :=
 match a, b with
 | .v (.int k p), .v (.int k' q) => intX op k k' p q
 | a, b => plainX (binFall P op t x y a b)
def rcAddrX (P : Program) (t : TypeId) (cs : List Col) (ix : D) : Option OX :=
 match ix, P.underlying t with
 | .v (.int _ i), some (.slice elem) => match P.info? elem with
  | none => none
  | some j => if j.size = cs.length then some (.val (.shp (cs.map (Col.cell i.toNat)) 0), [decide (0 ≤ i) = true, decide (i < (rowLen cs : Int)) = true]) else none
 | _, _ => none
def indexAddrX (P : Program) (t : TypeId) (x ix : D) : Option OX :=
 match x with
 | .rc cs => rcAddrX P t cs ix
 | x => plainX (indexAddrP P t x ix)
/-- A byte of a text, by a number that is a term. -/
def textX (s : ByteArray) (i : Int) : OX := (.val (.v (.int .u8 (((s.data.toList.map UInt8.toNat).getD i.toNat 0 : Nat) : Int))), [decide (0 ≤ i) = true, decide (i < (s.size : Int)) = true])
def indexX (P : Program) (t : TypeId) (x ix : D) : Option OX :=
 match x, ix, P.underlying t with
 | .v (.string s), .v (.int _ i), some .string => some (textX s i)
 | x, ix, _ => plainX (indexD P t x ix)
def loX : Option D → Option Int
 | none => some 0
 | some (.v (.int _ l)) => some l
 | some _ => none
def hiX (n : Nat) : Option D → Option Int
 | none => some n
 | some (.v (.int _ h)) => some h
 | some _ => none
def rcSliceX (P : Program) (t : TypeId) (cs : List Col) (lo hi : Option D) : Option OX :=
 match P.underlying t with
 | some (.slice elem) => match P.info? elem with
  | some j => match loX lo, hiX (rowLen cs) hi with
   | some l, some h => if j.size = cs.length then some (.val (.rc (cs.map (Col.part l.toNat (h.toNat - l.toNat)))), [decide (0 ≤ l) = true, decide (l ≤ h) = true, decide (h ≤ (rowLen cs : Int)) = true]) else none
   | _, _ => none
  | none => none
 | _ => none
/-- The first elements of an own slice, as many as a term says. -/
def slSliceX (P : Program) (bk : Nat → Option Blk) (t : TypeId) (id off n : Nat) (sz : Sz) (lo hi : Option D) : Option OX :=
 match lo, hi with
 | none, some (.v (.int _ h)) => match P.underlying t with
  | some (.slice elem) => match P.info? elem with
   | some j => if sz.s = j.size then some (.val (.sl id off h.toNat ⟨sz.s, max n sz.r⟩), [decide (0 ≤ h) = true, decide (h ≤ (n : Int)) = true]) else none
   | none => none
  | _ => plainX (sliceP P bk t (.sl id off n sz) lo hi)
 | lo, hi => plainX (sliceP P bk t (.sl id off n sz) lo hi)
def sliceX (P : Program) (bk : Nat → Option Blk) (t : TypeId) (x : D) (lo hi : Option D) : Option OX :=
 match x with
 | .rc cs => rcSliceX P t cs lo hi
 | .sl id off n sz => slSliceX P bk t id off n sz lo hi
 | x => plainX (sliceP P bk t x lo hi)
def opSliceX (P : Program) (bk : Nat → Option Blk) (ρ : Operand → D) (t : TypeId) (x : Operand) (lo hi mx : Option Operand) : Option OX :=
 match mx with
 | none => sliceX P bk t (ρ x) (lo.map ρ) (hi.map ρ)
 | some m => plainX (slice3D P t (ρ x) (lo.map ρ) (hi.map ρ) (ρ m))
def opX (P : Program) (bk : Nat → Option Blk) (ρ : Operand → D) (ty : TypeId) : Op → Option OX
 | .binOp op t x y _ => binX P op t x y (ρ x) (ρ y)
 | .indexAddr t x ix => indexAddrX P t (ρ x) (ρ ix)
 | .index t x ix => indexX P t (ρ x) (ρ ix)
 | .slice t x lo hi mx => opSliceX P bk ρ t x lo hi mx
 | op => plainX (opF P bk ρ ty op)
section
variable {P : Program} {bk : Nat → Option Blk} {ρ : Operand → D} {ty : TypeId}
theorem plainX_spec {e : Option Eff} {r : OX} (h : plainX e = some r) : e = some r.1 := by
 cases e with
 | none => cases h
 | some e => simp [plainX] at h; subst h; rfl
theorem intX_spec {op : BinOp} {k k' : IntKind} {p q : Int} {e : Eff} {l : List Prop} (h : intX op k k' p q = some (e, l)) (hl : AllP l) : (intD op k k' p q).map .val = some e := by
 unfold intX at h
 split at h
 ·simp only [Option.some.injEq, Prod.mk.injEq] at h; obtain ⟨rfl, rfl⟩ := h
  simp only [AllP, decide_eq_true_eq, and_true] at hl
  simp [intD, hl]
 ·simp only [Option.some.injEq, Prod.mk.injEq] at h; obtain ⟨rfl, rfl⟩ := h
  simp only [AllP, decide_eq_true_eq, and_true] at hl
  simp [intD, hl]
 ·split at h
  next hk =>
   simp only [Option.some.injEq, Prod.mk.injEq] at h; obtain ⟨rfl, rfl⟩ := h
   simp only [AllP, decide_eq_false_iff_not, and_true] at hl
   simp [intD, hl, hk]
  ·cases h
 ·split at h
  next hk =>
   simp only [Option.some.injEq, Prod.mk.injEq] at h; obtain ⟨rfl, rfl⟩ := h
   simp only [AllP, decide_eq_false_iff_not, and_true] at hl
   simp [intD, hl, hk]
  ·cases h
 ·split at h
  next d hd => simp only [Option.some.injEq, Prod.mk.injEq] at h; obtain ⟨rfl, rfl⟩ := h; rw [hd]; rfl
  ·cases h
theorem opX_spec {op : Op} {e : Eff} {l : List Prop} (h : opX P bk ρ ty op = some (e, l)) (hl : AllP l) : opD P bk ρ ty op = some e := by
 unfold opX at h
 split at h
 next bop t x y yt =>
  simp only [opD]
  unfold binX at h
  unfold binD
  split at h
  next k p k' q ha hb => rw [ha, hb]; exact intX_spec h hl
  next a b hne =>
   have := plainX_spec h
   split
   next k p k' q ha hb => exact absurd hb (fun hb => hne _ _ _ _ ha hb)
   ·exact this
 next t x ix =>
  simp only [opD]
  unfold indexAddrX at h
  unfold indexAddrD
  split at h
  next cs hx =>
   unfold rcAddrX at h
   unfold rcAddrD
   split at h
   next k i elem hi hu =>
    split at h
    ·cases h
    next j hj =>
     split at h
     next hs =>
      simp only [Option.some.injEq, Prod.mk.injEq] at h; obtain ⟨rfl, rfl⟩ := h
      simp only [AllP, decide_eq_true_eq, and_true] at hl
      simp only [hx, hu, hi, indexOf, hj, hs, hl.1, hl.2, and_self, if_true]
     ·cases h
   ·cases h
  next x' hne =>
   have := plainX_spec h
   split
   next cs hx => exact absurd hx (hne cs)
   ·exact this
 next t x ix =>
  simp only [opD]
  unfold indexX at h
  split at h
  next s k i hx hi hu =>
   simp only [textX, Option.some.injEq, Prod.mk.injEq] at h; obtain ⟨rfl, rfl⟩ := h
   simp only [AllP, decide_eq_true_eq, and_true] at hl
   have hlt : i.toNat < s.size := by omega
   have hg : s[i.toNat]? = some s[i.toNat] := by rw [getElem?_pos]
   have he : (s.data.toList.map UInt8.toNat).getD i.toNat 0 = (s[i.toNat]).toNat := by
    rw [List.getD_eq_getElem?_getD, List.getElem?_map]
    have : s.data.toList[i.toNat]? = some s[i.toNat] := by
     rw [List.getElem?_eq_getElem (by simpa using hlt)]
     rfl
    rw [this]; rfl
   simp only [indexD, hx, hi, indexOf, hu, hl.1, if_true, hg, he]
  ·exact plainX_spec h
 next t x lo hi mx =>
  unfold opSliceX at h
  split at h
  next =>
   simp only [opD]
   unfold sliceX at h
   unfold sliceD
   split at h
   next cs hx =>
    unfold rcSliceX at h
    unfold rcSliceD
    split at h
    next elem hu =>
     split at h
     next j hj =>
      split at h
      next l' h' hlo hhi =>
       split at h
       next hs =>
        simp only [Option.some.injEq, Prod.mk.injEq] at h; obtain ⟨rfl, rfl⟩ := h
        simp only [AllP, decide_eq_true_eq, and_true] at hl
        obtain ⟨h0, h1, h2⟩ := hl
        have b1 : boundD (hi.map ρ) (rowLen cs) (rowLen cs) = some h'.toNat := by
         cases hi with
         | none => simp only [Option.map_none, hiX, Option.some.injEq] at hhi; subst hhi; simp [boundD]
         | some y =>
          simp only [Option.map_some, hiX] at hhi ⊢
          split at hhi
          next he => simp at he
          next k v he => simp only [Option.some.injEq] at hhi he; subst hhi; rw [he]; simp only [boundD]; rw [if_pos ⟨by omega, h2⟩]
          ·cases hhi
        have b2 : boundD (lo.map ρ) 0 h'.toNat = some l'.toNat := by
         cases lo with
         | none => simp only [Option.map_none, loX, Option.some.injEq] at hlo; subst hlo; simp [boundD]
         | some y =>
          simp only [Option.map_some, loX] at hlo ⊢
          split at hlo
          next he => simp at he
          next k v he => simp only [Option.some.injEq] at hlo he; subst hlo; rw [he]; simp only [boundD]; rw [if_pos ⟨h0, by omega⟩]
          ·cases hlo
        simp only [hx, hu, hj, b1, b2, hs, if_true]
       ·cases h
      ·cases h
     ·cases h
    ·cases h
   next id off n sz hx =>
    have hgo : sliceP P bk t (.sl id off n sz) (lo.map ρ) (hi.map ρ) = some e := by
     unfold slSliceX at h
     split at h
     next k h' hlo hhi =>
      split at h
      next elem hu =>
       split at h
       next j hj =>
        split at h
        next hs =>
         simp only [Option.some.injEq, Prod.mk.injEq] at h; obtain ⟨rfl, rfl⟩ := h
         simp only [AllP, decide_eq_true_eq, and_true] at hl
         obtain ⟨h0, h1⟩ := hl
         have b1 : boundD (some (.v (.int k h'))) n (max n sz.r) = some h'.toNat := by
          simp only [boundD]; rw [if_pos ⟨h0, by omega⟩]
         simp only [sliceP, hu, hj, hlo, hhi, b1]
         simp [boundD, hs]
        ·cases h
       ·cases h
      ·exact plainX_spec h
     ·exact plainX_spec h
    split
    next cs hx' => rw [hx] at hx'; cases hx'
    ·rw [hx]; exact hgo
   next x' hne hne2 =>
    have := plainX_spec h
    split
    next cs hx => exact absurd hx (hne cs)
    ·exact this
  next m => simp only [opD]; exact plainX_spec h
 ·rw [← opF_eq]; exact plainX_spec h
end
end
end Go.Dam
end

section
namespace Go.Dam
open Go Go.RowKit
variable [Glo]
theorem sh_rc (hg : ¬ Live) (cols : List Col0) : Reads (.sh (rowLen0 cols) (rowCells0 cols)) (.rc (cols.map Col0.up)) := fun w A u hr => by
 simp only [RepS] at hr ⊢
 obtain ⟨o, c, rfl, h1, h2, h3⟩ := hr
 refine ⟨o, c, by rw [rowLen_up], fun h => absurd h hg, by rw [rowLen_up]; exact h1, by rw [rowLen_up]; exact fun h => h2 (.inl h), fun i j c' hi hc => ?_⟩
 rw [rowLen_up] at hi
 rw [List.getElem?_map, Option.map_eq_some_iff] at hc
 obtain ⟨c0, hc0, rfl⟩ := hc
 obtain ⟨ad, rfl, h4, _⟩ := h2 (.inl (by omega))
 simp only [Option.getD_some] at h3 ⊢
 obtain ⟨x, k1, k2⟩ := (RepAt.cellsAt (β := fun _ => none) (fun d u h => RepS.rep d u h) h3).get h4 _ _ (rowCells0_get hi hc0)
 simp only [Rep, RepS] at k2
 rw [List.length_map]
 exact ⟨x, k1, by subst k2; cases c0 <;> rfl⟩
noncomputable section
/-- The abstract value with own blocks told as shared content; the blocks that it speaks of; what has to hold. -/
def shareX (bk : List (Nat × BX)) : Nat → D → Option (D × List Nat × List Prop)
 | _, .v x => some (.v x, [], [])
 | _, .emp => some (.emp, [], [])
 | _, .sh n cs => some (.sh n cs, [], [])
 | _, .rc cs => some (.rc cs, [], [])
 | k + 1, .sl id off n sz => match lookX id bk with
  | none => none
  | some (.cells cells _) => if off + n * sz ≤ cells.length then
    match shareAllX (shareX bk k) ((cells.drop off).take (n * sz)) with
    | none => none
    | some (cs, ids, l) => some (.sh n cs, id :: ids, l)
   else none
  | some (.row cols _) => bif Nat.beq off 0 && (Nat.beq sz.s cols.length && !(Glo.walked liveId)) then some (.rc (cols.map Col0.up), [id], [n = rowLen0 cols]) else none
 | k + 1, .agg cs => match shareAllX (shareX bk k) cs with
  | none => none
  | some (ds, ids, l) => some (.agg ds, ids, l)
 | _, .fn f [] => some (.fn f [], [], [])
 | _, _ => none
where
 shareAllX (g : D → Option (D × List Nat × List Prop)) : List D → Option (List D × List Nat × List Prop)
 | [] => some ([], [], [])
 | d :: ds => match g d, shareAllX g ds with
  | some (e, i, l), some (es, is, ls) => some (e :: es, i ++ is, l ++ ls)
  | _, _ => none
abbrev shareAllX := shareX.shareAllX
theorem shareAllX_spec {g : D → Option (D × List Nat × List Prop)} {g' : D → Option (D × List Nat)} (hg : ∀ d e ids l, g d = some (e, ids, l) → AllP l → ∃ e', g' d = some (e', ids) ∧ Reads e' e) :
  ∀ (ds es : List D) (ids : List Nat) (l : List Prop), shareAllX g ds = some (es, ids, l) → AllP l → ∃ es', shareAll g' ds = some (es', ids) ∧ ReadsL es' es
 | [], es, ids, l, h, _ => by
  simp [shareX.shareAllX] at h; obtain ⟨rfl, rfl, rfl⟩ := h
  exact ⟨[], rfl, .nil⟩
 | d :: ds, es, ids, l, h, hl => by
  simp only [shareX.shareAllX] at h
  split at h
  next e i l1 es' is l2 h1 h2 =>
   simp at h; obtain ⟨rfl, rfl, rfl⟩ := h
   rw [AllP_append] at hl
   obtain ⟨e', k1, k2⟩ := hg d e i l1 h1 hl.1
   obtain ⟨es2, k3, k4⟩ := shareAllX_spec hg ds es' is l2 h2 hl.2
   exact ⟨e' :: es2, by simp only [share.shareAll, k1]; rw [show share.shareAll g' ds = some (es2, is) from k3], .cons k2 k4⟩
  ·cases h
theorem share_v (bk : Nat → Option Blk) (k : Nat) (x : Value) : share bk k (.v x) = some (.v x, []) := by cases k <;> rfl
theorem shareAll_v (bk : Nat → Option Blk) (k : Nat) : ∀ ds : List D, (∀ d ∈ ds, ∃ x, d = .v x) → shareAll (share bk k) ds = some (ds, [])
 | [], _ => rfl
 | d :: ds, h => by
  obtain ⟨x, rfl⟩ := h d (by simp)
  have ih := shareAll_v bk k ds (fun d hd => h d (by simp [hd]))
  simp only [share.shareAll, share_v]
  rw [show share.shareAll (share bk k) ds = some (ds, []) from ih]
  rfl
theorem shareX_spec {bk : List (Nat × BX)} : ∀ (k : Nat) (d e : D) (ids : List Nat) (l : List Prop), shareX bk k d = some (e, ids, l) → AllP l → ∃ e', share (fun i => lookB i bk) k d = some (e', ids) ∧ Reads e' e := by
 intro k
 induction k with
 | zero =>
  intro d e ids l h hl
  cases d with
  | v x => simp only [shareX, Option.some.injEq, Prod.mk.injEq] at h; obtain ⟨rfl, rfl, rfl⟩ := h; exact ⟨_, by simp only [share], .refl _⟩
  | emp => simp only [shareX, Option.some.injEq, Prod.mk.injEq] at h; obtain ⟨rfl, rfl, rfl⟩ := h; exact ⟨_, by simp only [share], .refl _⟩
  | sh n cs => simp only [shareX, Option.some.injEq, Prod.mk.injEq] at h; obtain ⟨rfl, rfl, rfl⟩ := h; exact ⟨_, by simp only [share], .refl _⟩
  | rc cs => simp only [shareX, Option.some.injEq, Prod.mk.injEq] at h; obtain ⟨rfl, rfl, rfl⟩ := h; exact ⟨_, by simp only [share], .refl _⟩
  | fn f cs =>
   cases cs with
   | nil => simp only [shareX, Option.some.injEq, Prod.mk.injEq] at h; obtain ⟨rfl, rfl, rfl⟩ := h; exact ⟨_, by simp only [share], .refl _⟩
   | cons _ _ => simp [shareX] at h
  | _ => simp [shareX] at h
 | succ k ih =>
  intro d e ids l h hl
  cases d with
  | v x => simp only [shareX, Option.some.injEq, Prod.mk.injEq] at h; obtain ⟨rfl, rfl, rfl⟩ := h; exact ⟨_, by simp only [share], .refl _⟩
  | emp => simp only [shareX, Option.some.injEq, Prod.mk.injEq] at h; obtain ⟨rfl, rfl, rfl⟩ := h; exact ⟨_, by simp only [share], .refl _⟩
  | sh n cs => simp only [shareX, Option.some.injEq, Prod.mk.injEq] at h; obtain ⟨rfl, rfl, rfl⟩ := h; exact ⟨_, by simp only [share], .refl _⟩
  | rc cs => simp only [shareX, Option.some.injEq, Prod.mk.injEq] at h; obtain ⟨rfl, rfl, rfl⟩ := h; exact ⟨_, by simp only [share], .refl _⟩
  | fn f cs =>
   cases cs with
   | nil => simp only [shareX, Option.some.injEq, Prod.mk.injEq] at h; obtain ⟨rfl, rfl, rfl⟩ := h; exact ⟨_, by simp only [share], .refl _⟩
   | cons _ _ => simp [shareX] at h
  | agg cs =>
   simp only [shareX] at h
   split at h
   ·cases h
   next ds is l' h1 =>
    simp at h; obtain ⟨rfl, rfl, rfl⟩ := h
    obtain ⟨es', k1, k2⟩ := shareAllX_spec (fun d e ids l h hl => ih d e ids l h hl) cs ds is l' h1 hl
    exact ⟨.agg es', by simp only [share]; rw [show share.shareAll (share _ k) cs = some (es', is) from k1], k2.agg⟩
  | sl id off n sz =>
   simp only [shareX] at h
   split at h
   ·cases h
   next cells ro hb =>
    split at h
    next hle =>
     split at h
     ·cases h
     next cs is l' h1 =>
      simp at h; obtain ⟨rfl, rfl, rfl⟩ := h
      obtain ⟨es', k1, k2⟩ := shareAllX_spec (fun d e ids l h hl => ih d e ids l h hl) _ cs is l' h1 hl
      exact ⟨.sh n es', by simp only [share, lookB_cells hb]; rw [if_pos hle, show share.shareAll (share _ k) _ = some (es', is) from k1], k2.sh n⟩
    ·cases h
   next cols ro hb =>
    simp only [cond_eq_ite] at h
    split at h
    next hc =>
     simp only [Bool.and_eq_true, Bool.not_eq_true'] at hc
     simp only [Option.some.injEq, Prod.mk.injEq] at h; obtain ⟨rfl, rfl, rfl⟩ := h
     obtain rfl := Nat.eq_of_beq_eq_true hc.1
     have hsz := Nat.eq_of_beq_eq_true hc.2.1
     have hg : ¬ Live := fun q => by have := hc.2.2; rw [q] at this; cases this
     simp only [AllP, and_true] at hl
     subst hl
     have hlb : lookB id bk = some ⟨rowCells0 cols, ro⟩ := by unfold lookB; rw [hb]; rfl
     have hlen := rowCells0_length cols
     refine ⟨.sh (rowLen0 cols) (rowCells0 cols), ?_, sh_rc hg cols⟩
     simp only [share, hlb]
     rw [if_pos (by rw [hlen, hsz]; omega), List.drop_zero, List.take_of_length_le (by rw [hlen, hsz]; exact Nat.le_refl _), show share.shareAll (share _ k) _ = some (rowCells0 cols, []) from shareAll_v _ k _ fun d hd => rowCells0_v hd]
    ·cases h
  | _ => simp [shareX] at h
mutual
/-- Fresh slices become blocks, with names from 'id' on. -/
def thawX (id : Nat) : D → D × List BX
 | .ow n sz cs => (.sl id 0 n ⟨sz, 0⟩, [.cells cs false])
 | .oc cs => (.sl id 0 (rowLen0 cs) ⟨cs.length, 0⟩, [.row cs false])
 | .agg cs => (.agg (thawXL id cs).1, (thawXL id cs).2)
 | .tup cs => (.tup (thawXL id cs).1, (thawXL id cs).2)
 | d => (d, [])
def thawXL (id : Nat) : List D → List D × List BX
 | [] => ([], [])
 | d :: ds => ((thawX id d).1 :: (thawXL (id + (thawX id d).2.length) ds).1, (thawX id d).2 ++ (thawXL (id + (thawX id d).2.length) ds).2)
end
mutual
theorem thawX_spec : ∀ (d : D) (id : Nat), (thawX id d).1 = (thaw id d).1 ∧ (thawX id d).2.map BX.blk = (thaw id d).2.map fun cs => ⟨cs, false⟩
 | .ow n sz cs, id => by simp [thawX, thaw, BX.blk]
 | .oc cs, id => by simp [thawX, thaw, BX.blk]
 | .agg cs, id => by have := thawXL_spec cs id; simp only [thawX, thaw, this.1, true_and]; exact this.2
 | .tup cs, id => by have := thawXL_spec cs id; simp only [thawX, thaw, this.1, true_and]; exact this.2
 | .undef, id => by simp [thawX, thaw]
 | .v _, id => by simp [thawX, thaw]
 | .emp, id => by simp [thawX, thaw]
 | .sh _ _, id => by simp [thawX, thaw]
 | .sl _ _ _ _, id => by simp [thawX, thaw]
 | .ptr _ _, id => by simp [thawX, thaw]
 | .pel _ _ _ _, id => by simp [thawX, thaw]
 | .shp _ _, id => by simp [thawX, thaw]
 | .fn _ _, id => by simp [thawX, thaw]
 | .yld, id => by simp [thawX, thaw]
 | .rc _, id => by simp [thawX, thaw]
theorem thawXL_spec : ∀ (ds : List D) (id : Nat), (thawXL id ds).1 = (thawL id ds).1 ∧ (thawXL id ds).2.map BX.blk = (thawL id ds).2.map fun cs => ⟨cs, false⟩
 | [], id => by simp [thawXL, thawL]
 | d :: ds, id => by
  have h1 := thawX_spec d id
  have hlen : (thawX id d).2.length = (thaw id d).2.length := by have := congrArg List.length h1.2; simpa using this
  have h2 := thawXL_spec ds (id + (thawX id d).2.length)
  rw [hlen] at h2
  simp only [thawXL, thawL, hlen, h1.1, h2.1, List.map_append, h1.2, h2.2, and_self]
end
def putBlocksX (c : Cf) (id : Nat) : List BX → Cf
 | [] => c
 | b :: bs => putBlocksX ((c.forget id).setB id b) (id + 1) bs
theorem putBlocksX_abs : ∀ (bs : List BX) (cs : List (List D)) (c : Cf) (id : Nat), bs.map BX.blk = cs.map (fun cs => ⟨cs, false⟩) → (putBlocksX c id bs).abs = putBlocks c.abs id cs
 | [], [], _, _, _ => rfl
 | b :: bs, x :: cs, c, id, h => by
  simp only [List.map_cons, List.cons.injEq] at h
  simp only [putBlocksX, putBlocks, putBlocksX_abs bs cs _ _ h.2, abs_setB, abs_forget, h.1]
 | [], _ :: _, _, _, h => by simp at h
 | _ :: _, [], _, _, h => by simp at h
/-- Contracts: what a function answers, and what has to hold for that. -/
inductive Con where
 | call (g : List D → Option (D × List Prop))
 | ext (g : List Value → Option (Value × List Prop))
abbrev Contracts := FuncId → Option Con
structure ConOK (P : Program) (X : Contracts) : Prop where
 call : ∀ f g, X f = some (.call g) → ∀ args res l, g args = some (res, l) → AllP l → CallsD P f args res
 ext : ∀ f g, X f = some (.ext g) → ∀ vs u l, g vs = some (u, l) → AllP l → pureRun P (callFunc f vs.toArray) = some (.value u)
/-- What a function without a body answers. -/
def extX (P : Program) (X : Contracts) (f : FuncId) (vs : List Value) : Option (Value × List Prop) :=
 match X f with
 | some (.ext g) => g vs
 | _ => match pureRun P (callFunc f vs.toArray) with
  | some (.value u) => some (u, [])
  | _ => none
theorem extX_spec {P : Program} {X : Contracts} (hX : ConOK P X) {f : FuncId} {vs : List Value} {u : Value} {l : List Prop} (h : extX P X f vs = some (u, l)) (hl : AllP l) : pureRun P (callFunc f vs.toArray) = some (.value u) := by
 unfold extX at h
 split at h
 next g hg => exact hX.ext f g hg vs u l h hl
 ·split at h
  next u' hu => simp only [Option.some.injEq, Prod.mk.injEq] at h; obtain ⟨rfl, rfl⟩ := h; exact hu
  ·cases h
def callOf (X : Contracts) (f : FuncId) : Option (List D → Option (D × List Prop)) :=
 match X f with
 | some (.call g) => some g
 | _ => none
theorem callOf_spec {X : Contracts} {f : FuncId} {g : List D → Option (D × List Prop)} (h : callOf X f = some g) : X f = some (.call g) := by
 unfold callOf at h
 split at h
 next g' hg => simp only [Option.some.injEq] at h; subst h; exact hg
 ·cases h
def callX (X : List D → Option (D × List Prop)) (c : Cf) (dst : Option Tmp) (id : Nat) (args : List D) : Option Cf :=
 match shareAllX (shareX c.bk depth) args with
 | none => none
 | some (as, passed, l) => match X as with
  | none => none
  | some (res, l') => some (((putBlocksX (bif flat res then c else c.markRo passed) id (thawX id res).2).put dst (thawX id res).1).owe (l ++ l'))
@[simp] theorem cds_put (c : Cf) (dst : Option Tmp) (d : D) : (c.put dst d).cds = c.cds := by cases dst <;> rfl
@[simp] theorem cds_setB (c : Cf) (i : Nat) (b : BX) : (c.setB i b).cds = c.cds := rfl
@[simp] theorem cds_forget (c : Cf) (i : Nat) : (c.forget i).cds = c.cds := rfl
@[simp] theorem cds_ro (c : Cf) (ids : List Nat) : (c.markRo ids).cds = c.cds := rfl
@[simp] theorem cds_owe (c : Cf) (l : List Prop) : (c.owe l).cds = l ++ c.cds := rfl
@[simp] theorem cds_blocks : ∀ (bs : List BX) (c : Cf) (id : Nat), (putBlocksX c id bs).cds = c.cds
 | [], _, _ => rfl
 | b :: bs, c, id => by simp [putBlocksX, cds_blocks bs]
theorem callX_spec {P : Program} {X : List D → Option (D × List Prop)} {f : FuncId} (hX : ∀ args res l, X args = some (res, l) → AllP l → CallsD P f args res) {c c' : Cf} {dst : Option Tmp} {id : Nat} {args : List D}
  (h : callX X c dst id args = some c') (hl : AllP c'.cds) : AllP c.cds ∧ CallD (CallsD P) c.abs dst id f args c'.abs := by
 unfold callX at h
 split at h
 ·cases h
 next as passed l h1 =>
  split at h
  ·cases h
  next res l' h2 =>
   simp only [Option.some.injEq] at h; subst h
   have hc : AllP (l ++ l' ++ c.cds) := by
    have := hl
    simp only [cds_owe, cds_put, cds_blocks] at this
    cases hf : flat res <;> simpa [hf] using this
   rw [AllP_append, AllP_append] at hc
   obtain ⟨⟨hl1, hl2⟩, hl3⟩ := hc
   obtain ⟨as', k1, k2⟩ := shareAllX_spec (fun d e ids l h hl => shareX_spec depth d e ids l h hl) args as passed l h1 hl1
   refine ⟨hl3, as', passed, res, k1, fun w A vs hv low glo => hX as res l' h2 hl2 w A vs (k2.repL hv) low glo, ?_⟩
   have ht := thawX_spec res id
   rw [abs_owe, abs_put, putBlocksX_abs _ _ _ _ ht.2, ht.1]
   cases flat res <;> simp [abs_ro]
end
end Go.Dam
end

section
namespace Go.Dam
open Go Go.RowKit
variable [Glo]
noncomputable section
/-! ### Own rows of unknown length -/
theorem rc0_slice {cols : List Col0} {i j sz : Nat} (hi : i < rowLen0 cols) (hj : j + sz ≤ cols.length) :
  ((rowCells0 cols).drop (i * cols.length + j)).take sz = ((cols.drop j).take sz).map (fun c => D.v (c.val i)) := by
 apply List.ext_getElem?
 intro k
 rw [List.getElem?_take, List.getElem?_map, List.getElem?_take]
 by_cases hk : k < sz
 ·rw [if_pos hk, if_pos hk, List.getElem?_drop, List.getElem?_drop]
  have hjk : j + k < cols.length := by omega
  have hc : cols[j + k]? = some cols[j + k] := List.getElem?_eq_getElem hjk
  rw [Nat.add_assoc, rowCells0_get hi hc, hc]; rfl
 ·rw [if_neg hk, if_neg hk]; rfl
/-- Is it so? (of lengths that are terms) -/
def Col0.setAt (i : Nat) (d : D) : Col0 → Option Col0
 | .ints k xs => match d with
  | .v (.int k' n) => if k' = k then some (.ints k (xs.set i n)) else none
  | _ => none
 | .bools xs => match d with
  | .v (.bool b) => some (.bools (xs.set i b))
  | _ => none
/-- Cells put into an element's columns. -/
def setCols (i : Nat) : List Col0 → Nat → List D → Option (List Col0)
 | cs, _, [] => some cs
 | c :: cs, 0, d :: ds => match c.setAt i d, setCols i cs 0 ds with
  | some c', some cs' => some (c' :: cs')
  | _, _ => none
 | c :: cs, j + 1, d :: ds => match setCols i cs j (d :: ds) with
  | some cs' => some (c :: cs')
  | none => none
 | [], _, _ :: _ => none
/-- The lengths of the columns that are written. -/
def lensOf (n : Nat) : List Col0 → List Prop
 | [] => []
 | c :: cs => (c.len = n) :: lensOf n cs
theorem lensOf_all {n : Nat} : ∀ {cs : List Col0}, AllP (lensOf n cs) → ∀ c ∈ cs, c.len = n
 | [], _, _, h => by cases h
 | c :: cs, h, c', hc => by
  obtain ⟨h1, h2⟩ := h
  rcases List.mem_cons.1 hc with rfl | hc
  ·exact h1
  ·exact lensOf_all h2 c' hc
theorem setAt_val {i : Nat} {d : D} {c c' : Col0} (h : c.setAt i d = some c') (hi : i < c.len) : c'.len = c.len ∧ (∀ k, D.v (c'.val k) = if k = i then d else D.v (c.val k)) := by
 cases c with
 | ints k xs =>
  simp only [Col0.setAt] at h
  split at h
  ·split at h
   next e =>
    simp at h; subst h; subst e
    refine ⟨by simp [Col0.len], fun m => ?_⟩
    simp only [Col0.val, List.getD_eq_getElem?_getD, List.getElem?_set]
    by_cases em : m = i
    ·subst em; simp only [Col0.len] at hi; simp [hi]
    ·rw [if_neg em, if_neg (Ne.symm em)]
   ·cases h
  ·cases h
 | bools xs =>
  simp only [Col0.setAt] at h
  split at h
  ·simp at h; subst h
   refine ⟨by simp [Col0.len], fun m => ?_⟩
   simp only [Col0.val, List.getD_eq_getElem?_getD, List.getElem?_set]
   by_cases em : m = i
   ·subst em; simp only [Col0.len] at hi; simp [hi]
   ·rw [if_neg em, if_neg (Ne.symm em)]
  ·cases h
theorem setCols_spec {i n : Nat} : ∀ {cs : List Col0} {j : Nat} {ds : List D} {cs' : List Col0}, setCols i cs j ds = some cs' → (∀ c ∈ cs, c.len = n) → i < n →
  cs'.length = cs.length ∧ (∀ c ∈ cs', c.len = n) ∧ j + ds.length ≤ cs.length + (if ds = [] then j else 0) ∧
   ∀ (b k : Nat) (c' : Col0), cs'[b]? = some c' → ∃ c, cs[b]? = some c ∧ D.v (c'.val k) = if k = i ∧ j ≤ b ∧ b < j + ds.length then ds.getD (b - j) .undef else D.v (c.val k)
 | cs, j, [], cs', h, hl, hi => by
  simp [setCols] at h; subst h
  refine ⟨rfl, hl, by simp, fun b k c' hb => ⟨c', hb, ?_⟩⟩
  rw [if_neg (by simp)]
 | [], _, _ :: _, _, h, _, _ => by simp [setCols] at h
 | c :: cs, 0, d :: ds, cs', h, hl, hi => by
  simp only [setCols] at h
  split at h
  next c1 cs1 h1 h2 =>
   simp at h; subst h
   obtain ⟨a1, a2⟩ := setAt_val h1 (by rw [hl c (by simp)]; exact hi)
   obtain ⟨b1, b2, b3, b4⟩ := setCols_spec h2 (fun c hc => hl c (by simp [hc])) hi
   refine ⟨by simp [b1], fun c' hc => ?_, ?_, fun b k c' hb => ?_⟩
   ·rcases List.mem_cons.1 hc with rfl | hc
    ·rw [a1]; exact hl c (by simp)
    ·exact b2 c' hc
   ·rw [if_neg (by simp)]
    simp only [List.length_cons]
    split at b3 <;> omega
   ·cases b with
    | zero =>
     simp at hb; subst hb
     refine ⟨c, rfl, ?_⟩
     rw [a2 k]
     by_cases ek : k = i
     ·rw [if_pos ek, if_pos ⟨ek, by omega, by simp⟩]; simp
     ·rw [if_neg ek, if_neg (fun e => ek e.1)]
    | succ b =>
     simp at hb
     obtain ⟨c2, k1, k2⟩ := b4 b k c' hb
     refine ⟨c2, by simpa using k1, ?_⟩
     rw [k2]
     by_cases ek : k = i ∧ b < ds.length
     ·rw [if_pos ⟨ek.1, by omega, by omega⟩, if_pos ⟨ek.1, by omega, by simp; omega⟩]
      simp
     ·rw [if_neg (fun e => ek ⟨e.1, by omega⟩), if_neg (fun e => ek ⟨e.1, by simp at e; omega⟩)]
  ·cases h
 | c :: cs, j + 1, d :: ds, cs', h, hl, hi => by
  simp only [setCols] at h
  split at h
  next cs1 h2 =>
   simp at h; subst h
   obtain ⟨b1, b2, b3, b4⟩ := setCols_spec h2 (fun c hc => hl c (by simp [hc])) hi
   refine ⟨by simp [b1], fun c' hc => ?_, ?_, fun b k c' hb => ?_⟩
   ·rcases List.mem_cons.1 hc with rfl | hc
    ·exact hl c' (by simp)
    ·exact b2 c' hc
   ·rw [if_neg (by simp)] at b3 ⊢
    simp only [List.length_cons] at b3 ⊢
    omega
   ·cases b with
    | zero =>
     simp at hb; subst hb
     refine ⟨c, rfl, ?_⟩
     rw [if_neg (by omega)]
    | succ b =>
     simp at hb
     obtain ⟨c2, k1, k2⟩ := b4 b k c' hb
     refine ⟨c2, by simpa using k1, ?_⟩
     rw [k2]
     by_cases ek : k = i ∧ j ≤ b ∧ b < j + (d :: ds).length
     ·rw [if_pos ek, if_pos ⟨ek.1, by omega, by omega⟩]
      congr 1; omega
     ·rw [if_neg ek, if_neg (fun e => ek ⟨e.1, by omega, by omega⟩)]
  ·cases h
theorem rowLen0_of {n : Nat} : ∀ {cs : List Col0}, cs ≠ [] → (∀ c ∈ cs, c.len = n) → rowLen0 cs = n
 | [], h, _ => absurd rfl h
 | c :: cs, _, h => h c (by simp)
theorem setCols_cells {i n j : Nat} {cs cs' : List Col0} {ds : List D} (hne : cs ≠ []) (h : setCols i cs j ds = some cs') (hl : ∀ c ∈ cs, c.len = n) (hi : i < n) (hd : j + ds.length ≤ cs.length) :
  rowCells0 cs' = splice (rowCells0 cs) (i * cs.length + j) ds := by
 obtain ⟨h1, h2, _, h4⟩ := setCols_spec h hl hi
 have hne' : cs' ≠ [] := fun e => hne (List.length_eq_zero_iff.1 (by rw [← h1, e]; rfl))
 have e1 := rowLen0_of hne hl
 have e2 := rowLen0_of hne' h2
 have hw : 0 < cs.length := List.length_pos_iff.2 hne
 have hlen : i * cs.length + j + ds.length ≤ (rowCells0 cs).length := by
  rw [rowCells0_length, e1]
  have : (i + 1) * cs.length ≤ n * cs.length := Nat.mul_le_mul_right _ hi
  rw [Nat.add_mul, Nat.one_mul] at this
  omega
 apply List.ext_getElem?
 intro m
 rw [splice_get hlen, rc0_get, rc0_get, e1, e2, h1]
 by_cases hm : m < n * cs.length
 ·rw [if_pos hm, if_pos hm]
  have hb : m % cs.length < cs.length := Nat.mod_lt _ hw
  have hc : cs'[m % cs.length]? = some (cs'[m % cs.length]'(by rw [h1]; exact hb)) := List.getElem?_eq_getElem _
  obtain ⟨c, k1, k2⟩ := h4 (m % cs.length) (m / cs.length) _ hc
  rw [hc, k1]
  simp only [Option.map_some, k2]
  have hdm := Nat.div_add_mod m cs.length
  by_cases ek : m / cs.length = i ∧ j ≤ m % cs.length ∧ m % cs.length < j + ds.length
  ·obtain ⟨x1, x2, x3⟩ := ek
   rw [x1, Nat.mul_comm] at hdm
   rw [if_pos ⟨x1, x2, x3⟩, if_pos (by omega)]
   rw [show m - (i * cs.length + j) = m % cs.length - j by omega]
   rw [List.getD_eq_getElem?_getD, List.getElem?_eq_getElem (by omega)]
   rfl
  ·rw [if_neg ek, if_neg ?_]
   rintro ⟨y1, y2⟩
   apply ek
   have hq : m / cs.length = i := by
    apply Nat.div_eq_of_lt_le
    ·omega
    ·rw [Nat.add_mul, Nat.one_mul]; omega
   rw [hq, Nat.mul_comm] at hdm
   exact ⟨hq, by omega, by omega⟩
 ·rw [if_neg hm, if_neg hm, if_neg ?_]
  rintro ⟨y1, y2⟩
  rw [rowCells0_length, e1] at hlen
  omega
end
end Go.Dam
end
