/- The engine, part XA: an abstract machine for the program's functions, proved right against the model. No condition. -/
import Derived.Test.YtpbngkempchamaaDamS
import Derived.Test.YtpbngkempchamaaDamAD
set_option linter.unusedSectionVars false
set_option linter.unusedVariables false
set_option linter.unusedSimpArgs false
namespace Go.Dam
open Go Go.RowKit
set_option linter.unusedSectionVars false
variable [Glo]
set_option linter.unusedSimpArgs false
set_option linter.unusedVariables false

theorem beq_no {i j : Nat} (h : i ≠ j) : Nat.beq i j = false := by
  rw [Bool.eq_false_iff]; intro e; exact h (Nat.eq_of_beq_eq_true e)
theorem beq_yes (i : Nat) : Nat.beq i i = true := Nat.beq_refl i

noncomputable section
/-! Frames as trees. -/
inductive TT where
  | lf
  | nd (d : D) (l r : TT)

def TT.top : TT → D := TT.rec .undef (fun d _ _ _ _ => d)
def TT.kid (b : Bool) : TT → TT := TT.rec .lf (fun _ l r _ _ => bif b then r else l)
def TT.get (p : List Bool) : TT → D := List.rec (motive := fun _ => TT → D) (fun t => t.top) (fun b _ ih t => ih (t.kid b)) p
def TT.set (d : D) (p : List Bool) : TT → TT :=
  List.rec (motive := fun _ => TT → TT) (fun t => .nd d (t.kid false) (t.kid true)) (fun b _ ih t => .nd t.top (bif b then t.kid false else ih (t.kid false)) (bif b then ih (t.kid true) else t.kid true)) p
def TT.map (f : D → D) : TT → TT := TT.rec .lf (fun d _ _ l r => .nd (f d) l r)

def pathF (k : Nat) : Nat → List Bool :=
  Nat.rec (motive := fun _ => Nat → List Bool) (fun _ => []) (fun _ ih n => bif Nat.beq n 0 then [] else bif Nat.beq (n % 2) 1 then false :: ih (n / 2) else true :: ih (n / 2 - 1)) k
def path (n : Nat) : List Bool := pathF (n + 1) n
def dec : List Bool → Nat
  | [] => 0
  | false :: p => 1 + 2 * dec p
  | true :: p => 2 + 2 * dec p

theorem dec_pathF : ∀ (k n : Nat), n < k → dec (pathF k n) = n
  | 0, n, h => by omega
  | k + 1, n, h => by
    show dec (bif Nat.beq n 0 then [] else bif Nat.beq (n % 2) 1 then false :: pathF k (n / 2) else true :: pathF k (n / 2 - 1)) = n
    by_cases h0 : n = 0
    · subst h0; rfl
    · rw [beq_no h0, cond_false]
      by_cases h1 : n % 2 = 1
      · rw [h1, beq_yes, cond_true, dec, dec_pathF k _ (by omega)]; omega
      · rw [beq_no h1, cond_false, dec, dec_pathF k _ (by omega)]; omega
theorem dec_path (n : Nat) : dec (path n) = n := dec_pathF _ _ (Nat.lt_succ_self n)
theorem path_inj {m n : Nat} (h : path m = path n) : m = n := by rw [← dec_path m, h, dec_path]
theorem length_pathF : ∀ (k n : Nat), (pathF k n).length ≤ n
  | 0, n => Nat.zero_le _
  | k + 1, n => by
    show (bif Nat.beq n 0 then [] else bif Nat.beq (n % 2) 1 then false :: pathF k (n / 2) else true :: pathF k (n / 2 - 1)).length ≤ n
    by_cases h0 : n = 0
    · subst h0; exact Nat.zero_le _
    · rw [beq_no h0, cond_false]
      by_cases h1 : n % 2 = 1
      · rw [h1, beq_yes, cond_true, List.length_cons]; have := length_pathF k (n / 2); omega
      · rw [beq_no h1, cond_false, List.length_cons]; have := length_pathF k (n / 2 - 1); omega

theorem TT.get_set (d : D) : ∀ (p q : List Bool) (t : TT), (t.set d p).get q = if q = p then d else t.get q
  | [], [], t => rfl
  | [], b :: q, t => by
    rw [if_neg (by simp)]
    show TT.get q (TT.kid b (.nd d (t.kid false) (t.kid true))) = TT.get q (t.kid b)
    cases b <;> rfl
  | b :: p, [], t => by rw [if_neg (by simp)]; rfl
  | b :: p, c :: q, t => by
    show TT.get q (TT.kid c (.nd t.top (bif b then t.kid false else (t.kid false).set d p) (bif b then (t.kid true).set d p else t.kid true))) = if c :: q = b :: p then d else TT.get q (t.kid c)
    have e : ∀ x : TT, (if q = p then d else TT.get q x) = TT.get q (x.set d p) := fun x => (TT.get_set d p q x).symm
    cases b <;> cases c
    · show TT.get q ((t.kid false).set d p) = _
      rw [← e]; simp
    · show TT.get q (t.kid true) = _
      rw [if_neg (by simp)]
    · show TT.get q (t.kid false) = _
      rw [if_neg (by simp)]
    · show TT.get q ((t.kid true).set d p) = _
      rw [← e]; simp

theorem TT.kid_map (f : D → D) (b : Bool) (t : TT) : (t.map f).kid b = (t.kid b).map f := by
  cases t with
  | lf => rfl
  | nd d l r => cases b <;> rfl
theorem TT.get_map {f : D → D} (hf : f .undef = .undef) : ∀ (p : List Bool) (t : TT), (t.map f).get p = f (t.get p)
  | [], t => by cases t with
    | lf => exact hf.symm
    | nd d l r => rfl
  | b :: p, t => by
    show TT.get p ((t.map f).kid b) = f (TT.get p (t.kid b))
    rw [TT.kid_map, TT.get_map hf p]

/-- A tree with these values. -/
def TT.mk (val : Nat → D) (k : Nat) : Nat → Nat → TT :=
  Nat.rec (motive := fun _ => Nat → Nat → TT) (fun _ _ => .lf) (fun _ ih o s => .nd (val o) (ih (o + s) (2 * s)) (ih (o + 2 * s) (2 * s))) k
theorem TT.get_mk (val : Nat → D) : ∀ (p : List Bool) (k o s : Nat), (TT.mk val k o s).get p = if p.length < k then val (o + s * dec p) else .undef
  | [], 0, o, s => rfl
  | [], k + 1, o, s => by rw [if_pos (by simp)]; show val o = val (o + s * 0); rw [Nat.mul_zero, Nat.add_zero]
  | b :: p, 0, o, s => by
    rw [if_neg (by simp)]
    show TT.get p (TT.kid b .lf) = .undef
    have : ∀ p, TT.get p .lf = .undef := fun p => by
      induction p with
      | nil => rfl
      | cons b p ih => exact ih
    exact this p
  | b :: p, k + 1, o, s => by
    show TT.get p (TT.kid b (.nd (val o) (TT.mk val k (o + s) (2 * s)) (TT.mk val k (o + 2 * s) (2 * s)))) = _
    have e : (b :: p).length < k + 1 ↔ p.length < k := by simp
    have m : s * (2 * dec p) = 2 * s * dec p := by rw [← Nat.mul_assoc, Nat.mul_comm s 2]
    cases b
    · show TT.get p (TT.mk val k (o + s) (2 * s)) = _
      rw [TT.get_mk val p k]
      simp only [e, dec, Nat.mul_add, Nat.mul_one, m, Nat.add_assoc]
    · show TT.get p (TT.mk val k (o + 2 * s) (2 * s)) = _
      rw [TT.get_mk val p k]
      simp only [e, dec, Nat.mul_add, m, Nat.add_assoc, Nat.mul_comm s 2]

/-- The values that a body begins with. -/
def initD (args : List D) (nt n : Nat) : D := match args[n]? with
  | some d => d
  | none => bif Nat.blt n nt then .v undef else .undef

/-- A block: cells; or a row of numbers and truth values, column by column. -/
inductive BX where
  | cells (cs : List D) (ro : Bool)
  | row (cols : List Col0) (ro : Bool)

def BX.blk : BX → Blk
  | .cells cs ro => ⟨cs, ro⟩
  | .row cols ro => ⟨rowCells0 cols, ro⟩
def BX.forget (i : Nat) : BX → BX
  | .cells cs ro => .cells (cs.map (D.forget i)) ro
  | .row cols ro => .row cols ro
def BX.wipe (q : Nat → Bool) : BX → BX
  | .cells cs ro => .cells (cs.map (D.wipe q)) ro
  | .row cols ro => .row cols ro
def BX.freeze : BX → BX
  | .cells cs _ => .cells cs true
  | .row cols _ => .row cols true

/-- The abstract state as data. -/
structure Cs where
  tm : TT
  nt : Nat
  stk : List (TT × Nat)
  bk : List (Nat × BX)
  loop : Option LoopSt := none
  gen : Nat := 0

/-- What the run is told: that the next decisions are about known truth values; a decision; that a loop is run round by round; what a loop comes to:
which temporaries count ahead of it (frame by frame), how its blocks are called there (by which name, and by which from then on), the state ahead of it, how it ends, the state behind it. -/
inductive PE where
  | c (n : Nat)
  | d (b : Bool)
  | u
  | l (keep : List (List Nat)) (ren : List (Nat × Nat)) (c0 : Cs) (e : Ex) (c1 : Cs)

/-- The state, what the run is told, and what has to hold. -/
structure Cf extends Cs where
  todo : List PE := []
  cds : List Prop := []

def AllP : List Prop → Prop
  | [] => True
  | p :: l => p ∧ AllP l

theorem AllP_append : ∀ (l m : List Prop), AllP (l ++ m) ↔ AllP l ∧ AllP m
  | [], m => by simp [AllP]
  | p :: l, m => by simp [AllP, AllP_append l m, and_assoc]

/-- By which name new blocks are called: by turns, where that is asked for. -/
def depOf (c : Cf) : Nat := c.stk.length

def lookX (i : Nat) : List (Nat × BX) → Option BX
  | [] => none
  | (j, b) :: l => bif Nat.beq j i then some b else lookX i l

def lookB (i : Nat) (l : List (Nat × BX)) : Option Blk := (lookX i l).map BX.blk

def setBk (i : Nat) (b : BX) : List (Nat × BX) → List (Nat × BX)
  | [] => [(i, b)]
  | (j, c) :: l => bif Nat.beq j i then (j, b) :: l else (j, c) :: setBk i b l

def dropB (i : Nat) : List (Nat × BX) → List (Nat × BX)
  | [] => []
  | (j, c) :: l => bif Nat.beq j i then dropB i l else (j, c.forget i) :: dropB i l

def roB (ids : List Nat) : List (Nat × BX) → List (Nat × BX)
  | [] => []
  | (j, c) :: l => (j, bif ids.contains j then c.freeze else c) :: roB ids l

def frOf (f : TT × Nat) : Fr := { nt := f.2, tm := fun t => f.1.get (path t) }
def Cs.get (c : Cs) (t : Nat) : D := c.tm.get (path t)
def Cs.abs (c : Cs) : St := { fr := frOf (c.tm, c.nt), stk := c.stk.map frOf, bk := fun i => lookB i c.bk, loop := c.loop }
abbrev Cf.abs (c : Cf) : St := c.toCs.abs

theorem rowCells0_v {cols : List Col0} {d : D} (h : d ∈ rowCells0 cols) : ∃ x, d = .v x := by
  simp only [rowCells0, rowCells, List.mem_flatMap, List.mem_map, List.map_map, Function.comp] at h
  obtain ⟨i, _, c, _, rfl⟩ := h
  cases c <;> exact ⟨_, rfl⟩
theorem rowCells0_forget (i : Nat) (cols : List Col0) : (rowCells0 cols).map (D.forget i) = rowCells0 cols := by
  refine (List.map_congr_left fun d hd => ?_).trans (List.map_id _)
  obtain ⟨x, rfl⟩ := rowCells0_v hd
  rfl
theorem rowCells0_wipe (q : Nat → Bool) (cols : List Col0) : (rowCells0 cols).map (D.wipe q) = rowCells0 cols := by
  refine (List.map_congr_left fun d hd => ?_).trans (List.map_id _)
  obtain ⟨x, rfl⟩ := rowCells0_v hd
  rfl
theorem BX.blk_forget (i : Nat) (b : BX) : (b.forget i).blk = b.blk.forget i := by
  cases b with
  | cells cs ro => rfl
  | row cols ro => simp only [BX.forget, BX.blk, Blk.forget, rowCells0_forget]
theorem BX.blk_wipe (q : Nat → Bool) (b : BX) : (b.wipe q).blk = b.blk.wipe q := by
  cases b with
  | cells cs ro => rfl
  | row cols ro => simp only [BX.wipe, BX.blk, Blk.wipe, rowCells0_wipe]
theorem BX.blk_freeze (b : BX) : b.freeze.blk = { b.blk with ro := true } := by cases b <;> rfl

theorem lookX_set (i : Nat) (b : BX) (j : Nat) : ∀ l, lookX j (setBk i b l) = if j = i then some b else lookX j l
  | [] => by
    by_cases h : j = i
    · subst h; simp [setBk, lookX, beq_yes]
    · simp [setBk, lookX, h, beq_no (Ne.symm h)]
  | (k, c) :: l => by
    simp only [setBk]
    by_cases hk : k = i
    · subst hk
      rw [beq_yes, cond_true]
      by_cases h : j = k
      · subst h; simp [lookX, beq_yes]
      · simp [h, lookX, beq_no (Ne.symm h)]
    · rw [beq_no hk, cond_false]
      simp only [lookX, lookX_set i b j l]
      by_cases h : j = i
      · subst h; simp [beq_no hk]
      · simp [h]

theorem lookX_drop (i j : Nat) : ∀ l, lookX j (dropB i l) = if j = i then none else (lookX j l).map (BX.forget i)
  | [] => by simp [dropB, lookX]
  | (k, c) :: l => by
    simp only [dropB]
    by_cases hk : k = i
    · subst hk
      rw [beq_yes, cond_true, lookX_drop k j l]
      by_cases h : j = k
      · subst h; simp
      · simp [h, lookX, beq_no (Ne.symm h)]
    · rw [beq_no hk, cond_false]
      simp only [lookX, lookX_drop i j l]
      by_cases h : k = j
      · subst h; simp [beq_yes, hk]
      · simp [beq_no h]

theorem lookX_ro (ids : List Nat) (j : Nat) : ∀ l, lookX j (roB ids l) = if j ∈ ids then (lookX j l).map BX.freeze else lookX j l
  | [] => by simp [roB, lookX]
  | (k, c) :: l => by
    simp only [roB, lookX, lookX_ro ids j l]
    by_cases h : k = j
    · subst h
      simp only [beq_yes, cond_true]
      by_cases hm : k ∈ ids <;> simp [hm]
    · simp only [beq_no h, cond_false]

theorem lookB_set (i : Nat) (b : BX) (j : Nat) (l : List (Nat × BX)) : lookB j (setBk i b l) = if j = i then some b.blk else lookB j l := by
  unfold lookB; rw [lookX_set]; split <;> rfl
theorem lookB_drop (i j : Nat) (l : List (Nat × BX)) : lookB j (dropB i l) = if j = i then none else (lookB j l).map (Blk.forget i) := by
  unfold lookB; rw [lookX_drop]; split
  · rfl
  · simp only [Option.map_map]; congr 1; funext b; exact BX.blk_forget i b
theorem lookB_ro (ids : List Nat) (j : Nat) (l : List (Nat × BX)) : lookB j (roB ids l) = if j ∈ ids then (lookB j l).map fun b => { b with ro := true } else lookB j l := by
  unfold lookB; rw [lookX_ro]; split
  · simp only [Option.map_map]; congr 1; funext b; exact BX.blk_freeze b
  · rfl

def Cf.put (c : Cf) (dst : Option Tmp) (d : D) : Cf :=
  match dst with
  | some t => { c with tm := c.tm.set (bif Nat.blt t c.nt then d else .undef) (path t) }
  | none => c

def Cf.forget (c : Cf) (i : Nat) : Cf := { tm := c.tm.map (D.forget i), nt := c.nt, stk := c.stk.map fun f => (f.1.map (D.forget i), f.2), bk := dropB i c.bk, loop := if i = yldId then none else c.loop, gen := c.gen, todo := c.todo, cds := c.cds }
def Cf.setB (c : Cf) (i : Nat) (b : BX) : Cf := { c with bk := setBk i b c.bk }
def Cf.markRo (c : Cf) (ids : List Nat) : Cf := { c with bk := roB ids c.bk }
def Cf.enter (c : Cf) (args : List D) (nt : Nat) : Cf := { tm := TT.mk (initD args (args.length + (nt - args.length))) (args.length + (nt - args.length) + 1) 0 1, nt := args.length + (nt - args.length), stk := (c.tm, c.nt) :: c.stk, bk := c.bk, loop := c.loop, gen := c.gen, todo := c.todo, cds := c.cds }
/-- What has to hold, besides. -/
def Cf.owe (c : Cf) (l : List Prop) : Cf := { c with cds := l ++ c.cds }

theorem frOf_set (f : TT) (nt t : Nat) (d : D) : frOf (f.set (bif Nat.blt t nt then d else .undef) (path t), nt) = (frOf (f, nt)).put t d := by
  simp only [frOf, Fr.put]
  congr 1
  funext i
  rw [TT.get_set]
  by_cases h : i = t
  · subst h
    rw [if_pos rfl, if_pos rfl]
    have key : ∀ (inst : Decidable (i < nt)), (bif i.blt nt then d else D.undef) = @ite D (i < nt) inst d .undef := by
      intro inst
      by_cases hl : i < nt
      · rw [if_pos hl, show Nat.blt i nt = true by simpa [Nat.blt_eq] using hl]; rfl
      · rw [if_neg hl, show Nat.blt i nt = false by rw [Bool.eq_false_iff]; simpa [Nat.blt_eq] using hl]; rfl
    exact key _
  · rw [if_neg h, if_neg (fun e => h (path_inj e))]

theorem abs_put (c : Cf) (dst : Option Tmp) (d : D) : (c.put dst d).abs = c.abs.put dst d := by
  cases dst with
  | none => rfl
  | some t => simp only [Cf.put, Cf.abs, Cs.abs, St.put, frOf_set]

theorem frOf_forget (i : Nat) (f : TT × Nat) : frOf (f.1.map (D.forget i), f.2) = (frOf f).forget i := by
  simp only [frOf, Fr.forget]
  congr 1
  funext t
  exact TT.get_map rfl _ _

theorem abs_forget (c : Cf) (i : Nat) : (c.forget i).abs = c.abs.forget i := by
  simp only [Cf.forget, Cf.abs, Cs.abs, St.forget, List.map_map]
  congr 1
  · exact frOf_forget i (c.tm, c.nt)
  · congr 1
    funext f
    exact frOf_forget i f
  · funext j
    exact lookB_drop i j c.bk

theorem abs_setB (c : Cf) (i : Nat) (b : BX) : (c.setB i b).abs = c.abs.setB i b.blk := by
  simp only [Cf.setB, Cf.abs, Cs.abs, St.setB]
  congr 1
  funext j
  exact lookB_set i b j c.bk

theorem abs_ro (c : Cf) (ids : List Nat) : (c.markRo ids).abs = c.abs.markRo ids := by
  simp only [Cf.markRo, Cf.abs, Cs.abs, St.markRo]
  congr 1
  funext j
  exact lookB_ro ids j c.bk

theorem frOf_mk (args : List D) (nt : Nat) : frOf (TT.mk (initD args (args.length + (nt - args.length))) (args.length + (nt - args.length) + 1) 0 1, args.length + (nt - args.length)) =
    { nt := args.length + (nt - args.length), tm := fun t => (args ++ List.replicate (nt - args.length) (D.v undef)).getD t .undef } := by
  simp only [frOf]
  congr 1
  funext t
  rw [TT.get_mk, dec_path, Nat.zero_add, Nat.one_mul]
  have hlen : (path t).length ≤ t := length_pathF (t + 1) t
  rw [List.getD_eq_getElem?_getD, List.getElem?_append, List.getElem?_replicate]
  by_cases h1 : t < args.length
  · have hp : (path t).length < args.length + (nt - args.length) + 1 := by omega
    rw [if_pos hp, if_pos h1]
    simp [initD, h1]
  · rw [if_neg h1]
    by_cases h2 : t < args.length + (nt - args.length)
    · have hp : (path t).length < args.length + (nt - args.length) + 1 := by omega
      have h3 : t - args.length < nt - args.length := by omega
      rw [if_pos hp, if_pos h3]
      simp [initD, h1, show Nat.blt t (args.length + (nt - args.length)) = true by simpa [Nat.blt_eq] using h2]
    · have h3 : ¬ (t - args.length < nt - args.length) := by omega
      rw [if_neg h3]
      split
      · simp [initD, h1, show Nat.blt t (args.length + (nt - args.length)) = false by rw [Bool.eq_false_iff]; simpa [Nat.blt_eq] using h2]
      · rfl

theorem abs_enter (c : Cf) (args : List D) (nt : Nat) : (c.enter args nt).abs = c.abs.enter args nt := by
  simp only [Cf.enter, Cf.abs, Cs.abs, St.enter, List.map_cons]
  congr 1
  exact frOf_mk args nt

@[simp] theorem abs_owe (c : Cf) (l : List Prop) : (c.owe l).abs = c.abs := rfl

def evalC (c : Cs) : Operand → D
  | .tmp t => c.get t
  | .const v => D.ofV v
  | .global g => gloD (Glo.g g)
  | .func f => .fn f []

theorem evalC_abs (c : Cs) : evalC c = evalD c.abs := by
  funext x; cases x <;> rfl

def Cs.look (c : Cs) : Nat → Option Blk := fun i => lookB i c.bk
theorem look_abs (c : Cs) : c.look = c.abs.bk := rfl

def stepC (c : Cf) (dst : Option Tmp) (id : Nat) : Eff → Option Cf
  | .val d => some (c.put dst d)
  | .box cs => some (((c.forget id).setB id (.cells (cs.map (D.forget id)) false)).put dst (.ptr id 0))
  | .row cs n sz => some (((c.forget id).setB id (.cells (cs.map (D.forget id)) false)).put dst (.sl id 0 n ⟨sz, 0⟩))
  | .row0 => some (c.put dst .emp)
  | .sto i off ds => match lookX i c.bk with
    | some (.cells cells false) => if off + ds.length ≤ cells.length then some ((c.setB i (.cells (splice cells off ds) false)).put dst (.v undef)) else none
    | _ => none
  | .cpy i off ds u => match lookX i c.bk with
    | some (.cells cells false) => if off + ds.length ≤ cells.length then some ((c.setB i (.cells (splice cells off ds) false)).put dst (D.ofV u)) else none
    | _ => none
  | .app s sz m ds => match s with
    | .emp => some (((c.forget id).setB id (.cells (ds.map (D.forget id)) false)).put dst (.sl id 0 m ⟨sz, 0⟩))
    | .v _ => some (((c.forget id).setB id (.cells (ds.map (D.forget id)) false)).put dst (.sl id 0 m ⟨sz, 0⟩))
    | .sl i off n _ => match lookX i c.bk with
      | some (.cells cells false) => if off + n * sz ≤ cells.length then some (((c.forget i).setB i (.cells (((cells.drop off).take (n * sz) ++ ds).map (D.forget i)) false)).put dst (.sl i 0 (n + m) ⟨sz, 0⟩)) else none
      | _ => none
    | _ => none

theorem lookB_cells {i : Nat} {l : List (Nat × BX)} {cells : List D} {ro : Bool} (h : lookX i l = some (.cells cells ro)) : lookB i l = some ⟨cells, ro⟩ := by
  unfold lookB; rw [h]; rfl

theorem stepC_abs {c : Cf} {dst : Option Tmp} {id : Nat} {e : Eff} {c' : Cf} (h : stepC c dst id e = some c') : stepE c.abs dst id e = some c'.abs ∧ c'.cds = c.cds := by
  have pc : ∀ (c : Cf) (d : D), (c.put dst d).cds = c.cds := fun c d => by cases dst <;> rfl
  cases e with
  | val d => simp [stepC] at h; subst h; exact ⟨by simp [stepE, abs_put], pc _ _⟩
  | box cs => simp [stepC] at h; subst h; exact ⟨by simp [stepE, abs_put, abs_setB, abs_forget, BX.blk], pc _ _⟩
  | row cs n sz => simp [stepC] at h; subst h; exact ⟨by simp [stepE, abs_put, abs_setB, abs_forget, BX.blk], pc _ _⟩
  | row0 => simp [stepC] at h; subst h; exact ⟨by simp [stepE, abs_put], pc _ _⟩
  | sto i off ds =>
    simp only [stepC] at h
    split at h
    next cells hl =>
      split at h
      next hle =>
        simp only [Option.some.injEq] at h; subst h
        refine ⟨?_, pc _ _⟩
        simp only [stepE, show c.abs.bk i = some ⟨cells, false⟩ from lookB_cells hl, if_pos hle, abs_put, abs_setB, BX.blk]
      · cases h
    · cases h
  | cpy i off ds k =>
    simp only [stepC] at h
    split at h
    next cells hl =>
      split at h
      next hle =>
        simp only [Option.some.injEq] at h; subst h
        refine ⟨?_, pc _ _⟩
        simp only [stepE, show c.abs.bk i = some ⟨cells, false⟩ from lookB_cells hl, if_pos hle, abs_put, abs_setB, BX.blk]
      · cases h
    · cases h
  | app s sz m ds =>
    cases s with
    | v x => simp [stepC] at h; subst h; exact ⟨by simp [stepE, abs_put, abs_setB, abs_forget, BX.blk], pc _ _⟩
    | emp => simp [stepC] at h; subst h; exact ⟨by simp [stepE, abs_put, abs_setB, abs_forget, BX.blk], pc _ _⟩
    | sl i off n z =>
      simp only [stepC] at h
      split at h
      next cells hl =>
        split at h
        next hle =>
          simp only [Option.some.injEq] at h; subst h
          refine ⟨?_, pc _ _⟩
          simp only [stepE, show c.abs.bk i = some ⟨cells, false⟩ from lookB_cells hl, if_pos hle, abs_put, abs_setB, abs_forget, BX.blk]
        · cases h
      · cases h
    | _ => simp [stepC] at h

end
end Go.Dam
