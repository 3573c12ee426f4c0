/- The engine, part T: an abstract machine for the program's functions, proved right against the model. No condition. -/
import Derived.Test.YtoagadalegkloaaGreatDamS
import Derived.Test.YtoagadalegkloaaGreatDamAD
namespace Go.Dam
open Go Go.RowKit
set_option linter.unusedSectionVars false
variable [Glo]
set_option linter.unusedSimpArgs false
set_option linter.unusedVariables false

theorem beq_no {i j : Nat} (h : i ≠ j) : Nat.beq i j = false := by
  rw [Bool.eq_false_iff]; intro e; exact h (Nat.eq_of_beq_eq_true e)
theorem beq_yes (i : Nat) : Nat.beq i i = true := Nat.beq_refl i

noncomputable section
/-! Frames as trees. -/
inductive TT where
  | lf
  | nd (d : D) (l r : TT)

def TT.top : TT → D := TT.rec .undef (fun d _ _ _ _ => d)
def TT.kid (b : Bool) : TT → TT := TT.rec .lf (fun _ l r _ _ => bif b then r else l)
def TT.get (p : List Bool) : TT → D := List.rec (motive := fun _ => TT → D) (fun t => t.top) (fun b _ ih t => ih (t.kid b)) p
def TT.set (d : D) (p : List Bool) : TT → TT :=
  List.rec (motive := fun _ => TT → TT) (fun t => .nd d (t.kid false) (t.kid true)) (fun b _ ih t => .nd t.top (bif b then t.kid false else ih (t.kid false)) (bif b then ih (t.kid true) else t.kid true)) p
def TT.map (f : D → D) : TT → TT := TT.rec .lf (fun d _ _ l r => .nd (f d) l r)

def pathF (k : Nat) : Nat → List Bool :=
  Nat.rec (motive := fun _ => Nat → List Bool) (fun _ => []) (fun _ ih n => bif Nat.beq n 0 then [] else bif Nat.beq (n % 2) 1 then false :: ih (n / 2) else true :: ih (n / 2 - 1)) k
def path (n : Nat) : List Bool := pathF (n + 1) n
def dec : List Bool → Nat
  | [] => 0
  | false :: p => 1 + 2 * dec p
  | true :: p => 2 + 2 * dec p

theorem dec_pathF : ∀ (k n : Nat), n < k → dec (pathF k n) = n
  | 0, n, h => by omega
  | k + 1, n, h => by
    show dec (bif Nat.beq n 0 then [] else bif Nat.beq (n % 2) 1 then false :: pathF k (n / 2) else true :: pathF k (n / 2 - 1)) = n
    by_cases h0 : n = 0
    · subst h0; rfl
    · rw [beq_no h0, cond_false]
      by_cases h1 : n % 2 = 1
      · rw [h1, beq_yes, cond_true, dec, dec_pathF k _ (by omega)]; omega
      · rw [beq_no h1, cond_false, dec, dec_pathF k _ (by omega)]; omega
theorem dec_path (n : Nat) : dec (path n) = n := dec_pathF _ _ (Nat.lt_succ_self n)
theorem path_inj {m n : Nat} (h : path m = path n) : m = n := by rw [← dec_path m, h, dec_path]
theorem length_pathF : ∀ (k n : Nat), (pathF k n).length ≤ n
  | 0, n => Nat.zero_le _
  | k + 1, n => by
    show (bif Nat.beq n 0 then [] else bif Nat.beq (n % 2) 1 then false :: pathF k (n / 2) else true :: pathF k (n / 2 - 1)).length ≤ n
    by_cases h0 : n = 0
    · subst h0; exact Nat.zero_le _
    · rw [beq_no h0, cond_false]
      by_cases h1 : n % 2 = 1
      · rw [h1, beq_yes, cond_true, List.length_cons]; have := length_pathF k (n / 2); omega
      · rw [beq_no h1, cond_false, List.length_cons]; have := length_pathF k (n / 2 - 1); omega

theorem TT.get_set (d : D) : ∀ (p q : List Bool) (t : TT), (t.set d p).get q = if q = p then d else t.get q
  | [], [], t => rfl
  | [], b :: q, t => by
    rw [if_neg (by simp)]
    show TT.get q (TT.kid b (.nd d (t.kid false) (t.kid true))) = TT.get q (t.kid b)
    cases b <;> rfl
  | b :: p, [], t => by rw [if_neg (by simp)]; rfl
  | b :: p, c :: q, t => by
    show TT.get q (TT.kid c (.nd t.top (bif b then t.kid false else (t.kid false).set d p) (bif b then (t.kid true).set d p else t.kid true))) = if c :: q = b :: p then d else TT.get q (t.kid c)
    have e : ∀ x : TT, (if q = p then d else TT.get q x) = TT.get q (x.set d p) := fun x => (TT.get_set d p q x).symm
    cases b <;> cases c
    · show TT.get q ((t.kid false).set d p) = _
      rw [← e]; simp
    · show TT.get q (t.kid true) = _
      rw [if_neg (by simp)]
    · show TT.get q (t.kid false) = _
      rw [if_neg (by simp)]
    · show TT.get q ((t.kid true).set d p) = _
      rw [← e]; simp

theorem TT.kid_map (f : D → D) (b : Bool) (t : TT) : (t.map f).kid b = (t.kid b).map f := by
  cases t with
  | lf => rfl
  | nd d l r => cases b <;> rfl
theorem TT.get_map {f : D → D} (hf : f .undef = .undef) : ∀ (p : List Bool) (t : TT), (t.map f).get p = f (t.get p)
  | [], t => by cases t with
    | lf => exact hf.symm
    | nd d l r => rfl
  | b :: p, t => by
    show TT.get p ((t.map f).kid b) = f (TT.get p (t.kid b))
    rw [TT.kid_map, TT.get_map hf p]

/-- A tree with these values. -/
def TT.mk (val : Nat → D) (k : Nat) : Nat → Nat → TT :=
  Nat.rec (motive := fun _ => Nat → Nat → TT) (fun _ _ => .lf) (fun _ ih o s => .nd (val o) (ih (o + s) (2 * s)) (ih (o + 2 * s) (2 * s))) k
theorem TT.get_mk (val : Nat → D) : ∀ (p : List Bool) (k o s : Nat), (TT.mk val k o s).get p = if p.length < k then val (o + s * dec p) else .undef
  | [], 0, o, s => rfl
  | [], k + 1, o, s => by rw [if_pos (by simp)]; show val o = val (o + s * 0); rw [Nat.mul_zero, Nat.add_zero]
  | b :: p, 0, o, s => by
    rw [if_neg (by simp)]
    show TT.get p (TT.kid b .lf) = .undef
    have : ∀ p, TT.get p .lf = .undef := fun p => by
      induction p with
      | nil => rfl
      | cons b p ih => exact ih
    exact this p
  | b :: p, k + 1, o, s => by
    show TT.get p (TT.kid b (.nd (val o) (TT.mk val k (o + s) (2 * s)) (TT.mk val k (o + 2 * s) (2 * s)))) = _
    have e : (b :: p).length < k + 1 ↔ p.length < k := by simp
    have m : s * (2 * dec p) = 2 * s * dec p := by rw [← Nat.mul_assoc, Nat.mul_comm s 2]
    cases b
    · show TT.get p (TT.mk val k (o + s) (2 * s)) = _
      rw [TT.get_mk val p k]
      simp only [e, dec, Nat.mul_add, Nat.mul_one, m, Nat.add_assoc]
    · show TT.get p (TT.mk val k (o + 2 * s) (2 * s)) = _
      rw [TT.get_mk val p k]
      simp only [e, dec, Nat.mul_add, m, Nat.add_assoc, Nat.mul_comm s 2]

/-- The values that a body begins with. -/
def initD (args : List D) (nt n : Nat) : D := match args[n]? with
  | some d => d
  | none => bif Nat.blt n nt then .v undef else .undef

/-- The abstract state as data. -/
structure Cf where
  tm : TT
  nt : Nat
  stk : List (TT × Nat)
  bk : List (Nat × Blk)
  loop : Option LoopSt := none
  gen : Nat := 0

/-- By which name new blocks are called: by turns, where that is asked for. -/
def depOf (c : Cf) : Nat := bif Glo.walked 1000000 then c.stk.length + 1000 * (c.gen % 31) else c.stk.length

def lookB (i : Nat) : List (Nat × Blk) → Option Blk
  | [] => none
  | (j, b) :: l => bif Nat.beq j i then some b else lookB i l

def setBk (i : Nat) (b : Blk) : List (Nat × Blk) → List (Nat × Blk)
  | [] => [(i, b)]
  | (j, c) :: l => bif Nat.beq j i then (j, b) :: l else (j, c) :: setBk i b l

def dropB (i : Nat) : List (Nat × Blk) → List (Nat × Blk)
  | [] => []
  | (j, c) :: l => bif Nat.beq j i then dropB i l else (j, c.forget i) :: dropB i l

def roB (ids : List Nat) : List (Nat × Blk) → List (Nat × Blk)
  | [] => []
  | (j, c) :: l => (j, bif ids.contains j then { c with ro := true } else c) :: roB ids l

def frOf (f : TT × Nat) : Fr := { nt := f.2, tm := fun t => f.1.get (path t) }
def Cf.get (c : Cf) (t : Nat) : D := c.tm.get (path t)
def Cf.abs (c : Cf) : St := { fr := frOf (c.tm, c.nt), stk := c.stk.map frOf, bk := fun i => lookB i c.bk, loop := c.loop }

theorem lookB_set (i : Nat) (b : Blk) (j : Nat) : ∀ l, lookB j (setBk i b l) = if j = i then some b else lookB j l
  | [] => by
    by_cases h : j = i
    · subst h; simp [setBk, lookB, beq_yes]
    · simp [setBk, lookB, h, beq_no (Ne.symm h)]
  | (k, c) :: l => by
    simp only [setBk]
    by_cases hk : k = i
    · subst hk
      rw [beq_yes, cond_true]
      by_cases h : j = k
      · subst h; simp [lookB, beq_yes]
      · simp [h, lookB, beq_no (Ne.symm h)]
    · rw [beq_no hk, cond_false]
      simp only [lookB, lookB_set i b j l]
      by_cases h : j = i
      · subst h; simp [beq_no hk]
      · simp [h]

theorem lookB_drop (i j : Nat) : ∀ l, lookB j (dropB i l) = if j = i then none else (lookB j l).map (Blk.forget i)
  | [] => by simp [dropB, lookB]
  | (k, c) :: l => by
    simp only [dropB]
    by_cases hk : k = i
    · subst hk
      rw [beq_yes, cond_true, lookB_drop k j l]
      by_cases h : j = k
      · subst h; simp
      · simp [h, lookB, beq_no (Ne.symm h)]
    · rw [beq_no hk, cond_false]
      simp only [lookB, lookB_drop i j l]
      by_cases h : k = j
      · subst h; simp [beq_yes, hk]
      · simp [beq_no h]

theorem lookB_ro (ids : List Nat) (j : Nat) : ∀ l, lookB j (roB ids l) = if j ∈ ids then (lookB j l).map fun b => { b with ro := true } else lookB j l
  | [] => by simp [roB, lookB]
  | (k, c) :: l => by
    simp only [roB, lookB, lookB_ro ids j l]
    by_cases h : k = j
    · subst h
      simp only [beq_yes, cond_true]
      by_cases hm : k ∈ ids <;> simp [hm]
    · simp only [beq_no h, cond_false]

def Cf.put (c : Cf) (dst : Option Tmp) (d : D) : Cf :=
  match dst with
  | some t => { c with tm := c.tm.set (bif Nat.blt t c.nt then d else .undef) (path t) }
  | none => c

def Cf.forget (c : Cf) (i : Nat) : Cf := { tm := c.tm.map (D.forget i), nt := c.nt, stk := c.stk.map fun f => (f.1.map (D.forget i), f.2), bk := dropB i c.bk, loop := if i = yldId then none else c.loop, gen := c.gen }
def Cf.setB (c : Cf) (i : Nat) (b : Blk) : Cf := { c with bk := setBk i b c.bk }
def Cf.markRo (c : Cf) (ids : List Nat) : Cf := { c with bk := roB ids c.bk }
def Cf.enter (c : Cf) (args : List D) (nt : Nat) : Cf := { tm := TT.mk (initD args (args.length + (nt - args.length))) (args.length + (nt - args.length) + 1) 0 1, nt := args.length + (nt - args.length), stk := (c.tm, c.nt) :: c.stk, bk := c.bk, loop := c.loop, gen := c.gen }

theorem frOf_set (f : TT) (nt t : Nat) (d : D) : frOf (f.set (bif Nat.blt t nt then d else .undef) (path t), nt) = (frOf (f, nt)).put t d := by
  simp only [frOf, Fr.put]
  congr 1
  funext i
  rw [TT.get_set]
  by_cases h : i = t
  · subst h
    rw [if_pos rfl, if_pos rfl]
    have key : ∀ (inst : Decidable (i < nt)), (bif i.blt nt then d else D.undef) = @ite D (i < nt) inst d .undef := by
      intro inst
      by_cases hl : i < nt
      · rw [if_pos hl, show Nat.blt i nt = true by simpa [Nat.blt_eq] using hl]; rfl
      · rw [if_neg hl, show Nat.blt i nt = false by rw [Bool.eq_false_iff]; simpa [Nat.blt_eq] using hl]; rfl
    exact key _
  · rw [if_neg h, if_neg (fun e => h (path_inj e))]

theorem abs_put (c : Cf) (dst : Option Tmp) (d : D) : (c.put dst d).abs = c.abs.put dst d := by
  cases dst with
  | none => rfl
  | some t => simp only [Cf.put, Cf.abs, St.put, frOf_set]

theorem frOf_forget (i : Nat) (f : TT × Nat) : frOf (f.1.map (D.forget i), f.2) = (frOf f).forget i := by
  simp only [frOf, Fr.forget]
  congr 1
  funext t
  exact TT.get_map rfl _ _

theorem abs_forget (c : Cf) (i : Nat) : (c.forget i).abs = c.abs.forget i := by
  simp only [Cf.forget, Cf.abs, St.forget, List.map_map]
  congr 1
  · exact frOf_forget i (c.tm, c.nt)
  · congr 1
    funext f
    exact frOf_forget i f
  · funext j
    exact lookB_drop i j c.bk

theorem abs_setB (c : Cf) (i : Nat) (b : Blk) : (c.setB i b).abs = c.abs.setB i b := by
  simp only [Cf.setB, Cf.abs, St.setB]
  congr 1
  funext j
  exact lookB_set i b j c.bk

theorem abs_ro (c : Cf) (ids : List Nat) : (c.markRo ids).abs = c.abs.markRo ids := by
  simp only [Cf.markRo, Cf.abs, St.markRo]
  congr 1
  funext j
  exact lookB_ro ids j c.bk

theorem frOf_mk (args : List D) (nt : Nat) : frOf (TT.mk (initD args (args.length + (nt - args.length))) (args.length + (nt - args.length) + 1) 0 1, args.length + (nt - args.length)) =
    { nt := args.length + (nt - args.length), tm := fun t => (args ++ List.replicate (nt - args.length) (D.v undef)).getD t .undef } := by
  simp only [frOf]
  congr 1
  funext t
  rw [TT.get_mk, dec_path, Nat.zero_add, Nat.one_mul]
  have hlen : (path t).length ≤ t := length_pathF (t + 1) t
  rw [List.getD_eq_getElem?_getD, List.getElem?_append, List.getElem?_replicate]
  by_cases h1 : t < args.length
  · have hp : (path t).length < args.length + (nt - args.length) + 1 := by omega
    rw [if_pos hp, if_pos h1]
    simp [initD, h1]
  · rw [if_neg h1]
    by_cases h2 : t < args.length + (nt - args.length)
    · have hp : (path t).length < args.length + (nt - args.length) + 1 := by omega
      have h3 : t - args.length < nt - args.length := by omega
      rw [if_pos hp, if_pos h3]
      simp [initD, h1, show Nat.blt t (args.length + (nt - args.length)) = true by simpa [Nat.blt_eq] using h2]
    · have h3 : ¬ (t - args.length < nt - args.length) := by omega
      rw [if_neg h3]
      split
      · simp [initD, h1, show Nat.blt t (args.length + (nt - args.length)) = false by rw [Bool.eq_false_iff]; simpa [Nat.blt_eq] using h2]
      · rfl

theorem abs_enter (c : Cf) (args : List D) (nt : Nat) : (c.enter args nt).abs = c.abs.enter args nt := by
  simp only [Cf.enter, Cf.abs, St.enter, List.map_cons]
  congr 1
  exact frOf_mk args nt

def evalC (c : Cf) : Operand → D
  | .tmp t => c.get t
  | .const v => D.ofV v
  | .global g => gloD (Glo.g g)
  | .func f => .fn f []

theorem evalC_abs (c : Cf) : evalC c = evalD c.abs := by
  funext x; cases x <;> rfl

def Cf.look (c : Cf) : Nat → Option Blk := fun i => lookB i c.bk

def wantedC (R : Array Oper) (o : Oper) (c : Cf) : Option Bool :=
  match o.guard with
  | none => some true
  | some (j, want) => match (R[j]?).bind (·.dst) with
    | none => some false
    | some t => truthD want (c.get t)

theorem wantedC_abs (R : Array Oper) (o : Oper) (c : Cf) : wantedC R o c = wantedD R o c.abs := rfl

def stepC (c : Cf) (dst : Option Tmp) (id : Nat) : Eff → Option Cf
  | .val d => some (c.put dst d)
  | .box cs => some (((c.forget id).setB id ⟨cs.map (D.forget id), false⟩).put dst (.ptr id 0))
  | .row cs n sz => some (((c.forget id).setB id ⟨cs.map (D.forget id), false⟩).put dst (.sl id 0 n ⟨sz, 0⟩))
  | .row0 => some (c.put dst .emp)
  | .sto i off ds => match lookB i c.bk with
    | some ⟨cells, false⟩ => if off + ds.length ≤ cells.length then some ((c.setB i ⟨splice cells off ds, false⟩).put dst (.v undef)) else none
    | _ => none
  | .cpy i off ds u => match lookB i c.bk with
    | some ⟨cells, false⟩ => if off + ds.length ≤ cells.length then some ((c.setB i ⟨splice cells off ds, false⟩).put dst (D.ofV u)) else none
    | _ => none
  | .app s sz m ds => match s with
    | .emp => some (((c.forget id).setB id ⟨ds.map (D.forget id), false⟩).put dst (.sl id 0 m ⟨sz, 0⟩))
    | .v _ => some (((c.forget id).setB id ⟨ds.map (D.forget id), false⟩).put dst (.sl id 0 m ⟨sz, 0⟩))
    | .sl i off n _ => match lookB i c.bk with
      | some ⟨cells, false⟩ => if off + n * sz ≤ cells.length then some (((c.forget i).setB i ⟨((cells.drop off).take (n * sz) ++ ds).map (D.forget i), false⟩).put dst (.sl i 0 (n + m) ⟨sz, 0⟩)) else none
      | _ => none
    | _ => none

theorem stepC_abs (c : Cf) (dst : Option Tmp) (id : Nat) (e : Eff) : (stepC c dst id e).map Cf.abs = stepE c.abs dst id e := by
  cases e with
  | val d => simp [stepC, stepE, abs_put]
  | box cs => simp [stepC, stepE, abs_put, abs_setB, abs_forget]
  | row cs n sz => simp [stepC, stepE, abs_put, abs_setB, abs_forget]
  | row0 => simp [stepC, stepE, abs_put]
  | sto i off ds =>
    simp only [stepC, stepE, Cf.abs]
    cases h : lookB i c.bk with
    | none => rfl
    | some b =>
      obtain ⟨cells, ro⟩ := b
      cases ro with
      | true => rfl
      | false =>
        simp only []
        split
        · simp only [Option.map_some, abs_put, abs_setB]; rfl
        · rfl
  | cpy i off ds k =>
    simp only [stepC, stepE, Cf.abs]
    cases h : lookB i c.bk with
    | none => rfl
    | some b =>
      obtain ⟨cells, ro⟩ := b
      cases ro with
      | true => rfl
      | false =>
        simp only []
        split
        · simp only [Option.map_some, abs_put, abs_setB]; rfl
        · rfl
  | app s sz m ds =>
    cases s with
    | v x => simp [stepC, stepE, abs_put, abs_setB, abs_forget]
    | emp => simp [stepC, stepE, abs_put, abs_setB, abs_forget]
    | sl i off n z =>
      simp only [stepC, stepE, Cf.abs]
      cases h : lookB i c.bk with
      | none => rfl
      | some b =>
        obtain ⟨cells, ro⟩ := b
        cases ro with
        | true => rfl
        | false =>
          simp only []
          split
          · simp only [Option.map_some, abs_put, abs_setB, abs_forget]; rfl
          · rfl
    | _ => rfl

def putBlocksC (c : Cf) (id : Nat) : List (List D) → Cf
  | [] => c
  | b :: bs => putBlocksC ((c.forget id).setB id ⟨b, false⟩) (id + 1) bs

theorem putBlocksC_abs : ∀ (bs : List (List D)) (c : Cf) (id : Nat), (putBlocksC c id bs).abs = putBlocks c.abs id bs
  | [], _, _ => rfl
  | b :: bs, c, id => by simp only [putBlocksC, putBlocks, putBlocksC_abs bs, abs_setB, abs_forget]

def callC (F : FuncId → List D → Option D) (c : Cf) (dst : Option Tmp) (id : Nat) (f : FuncId) (args : List D) : Option Cf :=
  match shareAll (share c.look depth) args with
  | none => none
  | some (as, passed) => match F f as with
    | none => none
    | some res => some ((putBlocksC (if flat res then c else c.markRo passed) id (thaw id res).2).put dst (thaw id res).1)

theorem callC_abs (F : FuncId → List D → Option D) (c : Cf) (dst : Option Tmp) (id : Nat) (f : FuncId) (args : List D) : (callC F c dst id f args).map Cf.abs = callD F c.abs dst id f args := by
  unfold callC callD
  show (match shareAll (share c.look depth) args with | none => none | some (as, passed) => match F f as with | none => none | some res => some _).map Cf.abs = match shareAll (share c.look depth) args with | none => none | some (as, passed) => match F f as with | none => none | some res => some _
  split
  · rfl
  · split
    · rfl
    · simp only [Option.map_some, abs_put, putBlocksC_abs]
      split <;> simp [abs_ro]

mutual
/-- Must a call with such an argument be walked into? -/
def D.deep : D → Bool
  | .ptr _ _ | .shp _ _ => true
  | .fn _ (_ :: _) => true
  | .agg cs => D.deepL cs
  | _ => false
def D.deepL : List D → Bool
  | [] => false
  | d :: ds => D.deep d || D.deepL ds
end

def resC (P : Program) (c : Cf) (rs : List ResultVar) : Option (List D) := resD P c.abs rs

def Ex.done : Ex → Bool
  | .normal | .ret => true
  | .exit _ => false

/-! A region that draws. -/
def inSites : List Nat → Nat → Bool
  | [], _ => false
  | lo :: l, id => (Nat.ble lo id && Nat.blt id (lo + 32)) || inSites l id

def siteAt (R : Array Oper) (dep k : Nat) : Nat := (dep * 4096 + dstAt R k) * 32
def othersAt (R : Array Oper) (dep k : Nat) : List Nat := ((List.range R.size).filter fun l => wB R k l && makesAt R l).map (siteAt R dep)
def makersOf (R : Array Oper) (dep : Nat) : List Nat := ((List.range R.size).filter (makesAt R)).map (siteAt R dep)

def wipeB (q : Nat → Bool) : List (Nat × Blk) → List (Nat × Blk)
  | [] => []
  | (j, b) :: l => bif q j then wipeB q l else (j, b.wipe q) :: wipeB q l

def Cf.wipe (q : Nat → Bool) (c : Cf) : Cf := { tm := c.tm.map (D.wipe q), nt := c.nt, stk := c.stk.map fun f => (f.1.map (D.wipe q), f.2), bk := wipeB q c.bk, loop := if q yldId then none else c.loop, gen := c.gen }

theorem lookB_wipe (q : Nat → Bool) (j : Nat) : ∀ l, lookB j (wipeB q l) = if q j then none else (lookB j l).map (Blk.wipe q)
  | [] => by simp [wipeB, lookB]
  | (k, b) :: l => by
    simp only [wipeB]
    cases hk : q k with
    | true =>
      rw [cond_true, lookB_wipe q j l]
      by_cases h : k = j
      · subst h; simp [hk]
      · simp [lookB, beq_no h]
    | false =>
      rw [cond_false]
      simp only [lookB, lookB_wipe q j l]
      by_cases h : k = j
      · subst h; simp [beq_yes, hk]
      · simp [beq_no h]

theorem frOf_wipe (q : Nat → Bool) (f : TT × Nat) : frOf (f.1.map (D.wipe q), f.2) = (frOf f).wipe q := by
  simp only [frOf, Fr.wipe]
  congr 1
  funext t
  exact TT.get_map rfl _ _

theorem abs_wipe (c : Cf) (q : Nat → Bool) : (c.wipe q).abs = c.abs.wipe q := by
  simp only [Cf.wipe, Cf.abs, St.wipe, List.map_map]
  congr 1
  · exact frOf_wipe q (c.tm, c.nt)
  · congr 1
    funext f
    exact frOf_wipe q f
  · funext j
    exact lookB_wipe q j c.bk

def wipeS (los : List Nat) (c : Cf) : Cf := match los with
  | [] => c
  | lo :: l => c.wipe (inSites (lo :: l))

def clearS (los : List Nat) (d : D) : Bool := match los with
  | [] => true
  | lo :: l => D.clear (inSites (lo :: l)) d

def clearSL (los : List Nat) : List D → Bool
  | [] => true
  | d :: ds => clearS los d && clearSL los ds

def clearSLL (los : List Nat) : List (List D) → Bool
  | [] => true
  | d :: ds => clearSL los d && clearSLL los ds

def sepC (c : Cf) (tgt : List Nat) (S : List Nat) (o : Oper) (told : List Nat) : Bool := S.all fun j =>
  o.op.operands.toList.all (fun y => D.clear (Nat.beq (tgt.getD j 0)) (evalC c y)) && !(told.contains (tgt.getD j 0))

def blockOf : D → Nat
  | .ptr id _ => id
  | _ => 0

def tgtAt (P : Program) (R : Array Oper) (c : Cf) (k : Nat) : Nat := bif uB P R k then match R[k]? with
    | some o => match o.op with
      | .store _ ad _ => blockOf (evalC c ad)
      | _ => 0
    | none => 0
  else 0

/-- Where the stores will go: found by a first run in the order of the text. -/
def tgtsOf (P : Program) (R : Array Oper) (E : List Oper → Cf → Option (Ex × Cf)) (c : Cf) : List Nat :=
  bif (List.range R.size).any (uB P R) then match E R.toList c with
    | some (_, c1) => (List.range R.size).map (tgtAt P R c1)
    | none => []
  else []

def putNewC (c : Cf) (id : Nat) : List (List D) → Cf
  | [] => c
  | b :: bs => putNewC (c.setB id ⟨b, false⟩) (id + 1) bs

def freshB : D → Bool
  | .emp => true
  | .v _ => true
  | _ => false

/-- A step that is one of no order. -/
def quietOne (P : Program) (F : FuncId → List D → Option D) (R : Array Oper) (dep : Nat) (tgt : List Nat) (k : Nat) (o : Oper) (c : Cf) : Option Cf :=
  match callParts o.op with
  | none => match opD P c.look (evalC c) o.type o.op with
    | some (.val d) => bif Nat.ble (kindOf P o.op) 1 && (clearS (othersAt R dep k) d && (Nat.beq (kindOf P o.op) 0 || sepC c tgt (sL P R k) o [])) then some (c.put o.dst d) else none
    | some (.box cs) => bif Nat.ble (kindOf P o.op) 1 && (makesAt R k && (clearSL (siteAt R dep k :: othersAt R dep k) cs && (clearS (othersAt R dep k) (.ptr (siteAt R dep k) 0) && sepC c tgt (sL P R k) o []))) then some ((c.setB (siteAt R dep k) ⟨cs, false⟩).put o.dst (.ptr (siteAt R dep k) 0)) else none
    | some (.row cs n sz) => bif Nat.ble (kindOf P o.op) 1 && (makesAt R k && (clearSL (siteAt R dep k :: othersAt R dep k) cs && (clearS (othersAt R dep k) (.sl (siteAt R dep k) 0 n ⟨sz, 0⟩) && sepC c tgt (sL P R k) o []))) then some ((c.setB (siteAt R dep k) ⟨cs, false⟩).put o.dst (.sl (siteAt R dep k) 0 n ⟨sz, 0⟩)) else none
    | some (.app s sz m ds) => bif freshB s && (Nat.ble (kindOf P o.op) 1 && (makesAt R k && (clearSL (siteAt R dep k :: othersAt R dep k) ds && (clearS (othersAt R dep k) (.sl (siteAt R dep k) 0 m ⟨sz, 0⟩) && sepC c tgt (sL P R k) o [])))) then some ((c.setB (siteAt R dep k) ⟨ds, false⟩).put o.dst (.sl (siteAt R dep k) 0 m ⟨sz, 0⟩)) else none
    | some .row0 => bif Nat.ble (kindOf P o.op) 1 && sepC c tgt (sL P R k) o [] then some (c.put o.dst .emp) else none
    | some (.sto i off ds) => bif Nat.beq (kindOf P o.op) 2 && (clearSL (othersAt R dep k) ds && (!(uB P R k) || Nat.beq i (tgt.getD k 0))) then stepC c o.dst 0 (.sto i off ds) else none
    | some (.cpy i off ds n) => bif Nat.beq (kindOf P o.op) 4 && clearSL (othersAt R dep k) ds then stepC c o.dst 0 (.cpy i off ds n) else none
    | _ => none
  | some (fo, args) => match evalC c fo with
    | .fn f caps => match bodyOf P f with
      | none => match caps, D.plains (args.toList.map (evalC c)) with
        | [], some vs => match pureRun P (callFunc f vs.toArray) with
          | some (.value u) => bif clearS (othersAt R dep k) (D.ofV u) && sepC c tgt (sL P R k) o [] then some (c.put o.dst (D.ofV u)) else none
          | _ => none
        | _, _ => none
      | some _ => match shareAll (share c.look depth) (args.toList.map (evalC c) ++ caps) with
        | none => none
        | some (as, passed) => match F f as with
          | none => none
          | some res => bif makesAt R k && (clearS (othersAt R dep k) (thaw (siteAt R dep k) res).1 && (clearSLL (siteAt R dep k :: othersAt R dep k) (thaw (siteAt R dep k) res).2 && (Nat.ble (thaw (siteAt R dep k) res).2.length 32 && sepC c tgt (sL P R k) o passed))) then
              some ((putNewC (if flat res then c else c.markRo passed) (siteAt R dep k) (thaw (siteAt R dep k) res).2).put o.dst (thaw (siteAt R dep k) res).1) else none
    | _ => none

def drawOne (P : Program) (F : FuncId → List D → Option D) (E : List Oper → Cf → Option (Ex × Cf)) (R : Array Oper) (dep : Nat) (tgt : List Nat) (k : Nat) (o : Oper) (c : Cf) : Option Cf :=
  bif tB R k then match E [o] c with
    | some (_, c1) => some (wipeS (othersAt R dep k) c1)
    | none => none
  else match wantedC R o c with
    | none => none
    | some false => some (c.put o.dst (.v undef))
    | some true => quietOne P F R dep tgt k o c

def drawsGo (P : Program) (F : FuncId → List D → Option D) (E : List Oper → Cf → Option (Ex × Cf)) (R : Array Oper) (dep : Nat) (tgt : List Nat) : Nat → List Oper → Cf → Option Cf
  | _, [], c => some c
  | k, o :: l, c => match drawOne P F E R dep tgt k o c with
    | none => none
    | some c' => drawsGo P F E R dep tgt (k + 1) l c'

/-- By which name a region that draws calls its blocks: by turns, where that is asked for. -/
def regionDep (c : Cf) (R : Array Oper) : Nat := depOf c

/-! Loops over functions. -/
def putsC (f : TT × Nat) : List (Tmp × D) → TT × Nat
  | [] => f
  | (t, d) :: l => putsC (f.1.set (bif Nat.blt t f.2 then d else .undef) (path t), f.2) l

theorem frOf_puts : ∀ (ps : List (Tmp × D)) (f : TT × Nat), frOf (putsC f ps) = (frOf f).puts ps
  | [], f => rfl
  | (t, d) :: ps, f => by
    show frOf (putsC _ ps) = ((frOf f).put t d).puts ps
    rw [frOf_puts ps, frOf_set]

theorem get_lf : ∀ p, TT.get p .lf = .undef
  | [] => rfl
  | b :: p => get_lf p

def Cf.round (c : Cf) (f : TT × Nat) (ps : List (Tmp × D)) : Cf := { tm := (putsC f ps).1, nt := (putsC f ps).2, stk := (c.tm, c.nt) :: c.stk, bk := c.bk, loop := c.loop, gen := c.gen }
theorem abs_round (c : Cf) (f : TT × Nat) (ps : List (Tmp × D)) : (c.round f ps).abs = c.abs.round (frOf f) ps := by
  simp only [Cf.round, Cf.abs, St.round, List.map_cons]
  congr 1
  exact frOf_puts ps f

def Cf.at (c : Cf) (L : LoopSt) (s : LSt) : Cf := { c with loop := some { L with state := s } }

def Cf.ranged (c : Cf) (ps : Array Tmp) (assign body : Code) (caps : List D) (nt : Nat) : Cf :=
  { tm := TT.mk (initD (.yld :: caps) ((.yld :: caps).length + (nt - (.yld :: caps).length))) ((.yld :: caps).length + (nt - (.yld :: caps).length) + 1) 0 1, nt := (.yld :: caps).length + (nt - (.yld :: caps).length),
    stk := ((c.forget yldId).tm, (c.forget yldId).nt) :: (.lf, 1) :: (c.forget yldId).stk, bk := (c.forget yldId).bk, loop := some { ps := ps, assign := assign, body := body, depth := c.stk.length + 2, state := .ready }, gen := c.gen }
theorem abs_ranged (c : Cf) (ps : Array Tmp) (assign body : Code) (caps : List D) (nt : Nat) : (c.ranged ps assign body caps nt).abs = c.abs.ranged ps assign body caps nt := by
  have h := abs_forget c yldId
  have h1 := congrArg St.fr h
  have h2 := congrArg St.stk h
  have h3 := congrArg St.bk h
  simp only [Cf.ranged, St.ranged, ← h1, ← h2, ← h3]
  simp only [Cf.abs, List.map_cons]
  congr 1
  · exact frOf_mk _ _
  · congr 2
    simp only [frOf, ghost, get_lf]
  · simp

def yieldOn (ih : Job → Cf → Option (Ex × Cf)) (o : Oper) (c : Cf) (args : List Operand) (L : LoopSt) (f0 : TT × Nat) (m : Nat) : Option Cf :=
  bif L.state.ready? && (Nat.beq (m + 2) L.depth && (Nat.beq args.length L.ps.size && (noRange L.assign && noRange L.body))) then
    match ih (.code L.assign) (c.round f0 (L.ps.toList.zip (args.map (evalC c)))) with
    | some (.normal, c1) => match c1.loop with
      | some L1 => bif L1.state.ready? && Nat.beq L1.depth L.depth then
          match ih (.code L.body) (c1.at L1 .busy) with
          | some (e, c2) => match c2.loop, c2.stk with
            | some L2, fI :: stk' => bif L2.state.busy? && Nat.beq L2.depth L.depth then some (Cf.put ⟨fI.1, fI.2, stk', c2.bk, some { L2 with state := e.round }, c2.gen⟩ o.dst (.v (.bool e.goes))) else none
            | _, _ => none
          | none => none
        else none
      | none => none
    | _ => none
  else none

def yieldC (ih : Job → Cf → Option (Ex × Cf)) (o : Oper) (c : Cf) (args : List Operand) : Option Cf :=
  match c.loop, c.stk with
  | some L, f0 :: _ :: stk => yieldOn ih o c args L f0 stk.length
  | _, _ => none

def rangedC (P : Program) (ih : Job → Cf → Option (Ex × Cf)) (c : Cf) (g : Operand) (ps : Array Tmp) (assign body : Code) : Option (Ex × Cf) :=
  match c.loop with
  | some _ => none
  | none => match evalC (c.forget yldId) g with
    | .fn f caps => match bodyOf P f with
      | some (fn, b) => match fn.results.toList with
        | [] => match ih (.code b) (c.ranged ps assign body caps fn.ntmps) with
          | some (e1, c1) => bif e1.done then match c1.loop, c1.stk with
            | some L1, fr :: _ :: stk => bif Nat.beq L1.depth (c.stk.length + 2) then match L1.state.leaves with
                | some e => some (e, ⟨fr.1, fr.2, stk, c1.bk, none, c1.gen⟩)
                | none => none
              else none
            | _, _ => none
            else none
          | none => none
        | _ => none
      | none => none
    | _ => none

/-- THE ABSTRACT MACHINE, RUN. -/
def ev (P : Program) (F : FuncId → List D → Option D) : Nat → Job → Cf → Option (Ex × Cf)
  | 0, _, _ => none
  | n + 1, j, c => match j with
    | .draws _ _ _ _ => none
    | .ops R [] => some (.normal, c)
    | .ops R (o :: l) => match wantedC R o c with
      | none => none
      | some false => ev P F n (.ops R l) (c.put o.dst (.v undef))
      | some true => match callParts o.op with
        | none => match opD P c.look (evalC c) o.type o.op with
          | none => none
          | some e => match stepC c o.dst (site (depOf c) o.dst) e with
            | none => none
            | some c' => ev P F n (.ops R l) c'
        | some (fo, args) => match evalC c fo with
          | .fn f caps => match bodyOf P f with
            | none => match caps, D.plains (args.toList.map (evalC c)) with
              | [], some vs => match pureRun P (callFunc f vs.toArray) with
                | some (.value u) => ev P F n (.ops R l) (c.put o.dst (D.ofV u))
                | _ => none
              | _, _ => none
            | some (fn, body) =>
              bif Glo.walked f || D.deepL (args.toList.map (evalC c) ++ caps) then
                match ev P F n (.code body) (c.enter (args.toList.map (evalC c) ++ caps) fn.ntmps) with
                | none => none
                | some (e, c1) => match e.done, resC P c1 fn.results.toList, c1.stk with
                  | true, some ds, f :: stk => bif loopFits c1.loop stk.length then ev P F n (.ops R l) (Cf.put ⟨f.1, f.2, stk, c1.bk, c1.loop, c1.gen⟩ o.dst (resOut ds)) else none
                  | _, _, _ => none
              else match callC F c o.dst (site (depOf c) o.dst) f (args.toList.map (evalC c) ++ caps) with
                | none => none
                | some c' => ev P F n (.ops R l) c'
          | .yld => match yieldC (ev P F n) o c args.toList with
            | none => none
            | some c' => ev P F n (.ops R l) c'
          | _ => none
    | .rounds b => match ev P F n (.code b) c with
      | none => none
      | some (.normal, c') => ev P F n (.rounds b) { c' with gen := c'.gen + 1 }
      | some (e, c') => some (e, c')
    | .code x => match x with
      | .region _ R false => ev P F n (.ops R R.toList) c
      | .region _ R true => bif P.follows .mixedOrders && calmB P R then match drawsGo P F (fun l c' => ev P F n (.ops R l) c') R (regionDep c R) (tgtsOf P R (fun l c' => ev P F n (.ops R l) c') (wipeS (makersOf R (regionDep c R)) c)) 0 R.toList (wipeS (makersOf R (regionDep c R)) c) with
        | none => none
        | some c' => some (.normal, { c' with gen := c.gen + 1 })
        else none
      | .skip => some (.normal, c)
      | .ret => some (.ret, c)
      | .exit id => some (.exit id, c)
      | .seq x y => match ev P F n (.code x) c with
        | none => none
        | some (.normal, c') => ev P F n (.code y) c'
        | some (e, c') => some (e, c')
      | .cond t x y => match evalC c t with
        | .v (.bool b) => bif b then ev P F n (.code x) c else ev P F n (.code y) c
        | _ => none
      | .block id x => match ev P F n (.code x) c with
        | none => none
        | some (.exit i, c') => bif Nat.beq i id then some (.normal, c') else some (.exit i, c')
        | some (e, c') => some (e, c')
      | .loop x => ev P F n (.rounds x) c
      | .rangeFunc g ps assign body => rangedC P (ev P F n) c g ps assign body
      | _ => none

theorem ops_normal {P : Program} {F : FuncId → List D → Option D} : ∀ (n : Nat) (R : Array Oper) (l : List Oper) (c : Cf) (e : Ex) (c' : Cf), ev P F n (.ops R l) c = some (e, c') → e = .normal := by
  intro n
  induction n with
  | zero => intro R l c e c' h; simp [ev] at h
  | succ n ih =>
    intro R l c e c' h
    cases l with
    | nil => simp [ev] at h; exact h.1.symm
    | cons o l =>
      simp only [ev] at h
      repeat' split at h
      all_goals first | (cases h; done) | exact ih _ _ _ _ _ h | skip
      all_goals (simp only [cond_eq_ite] at h; split at h <;> (repeat' split at h) <;> first | (cases h; done) | exact ih _ _ _ _ _ h)

end
end Go.Dam
