/- The engine: an abstract machine for the program's functions, proved right against the model. No condition. -/
import Derived.Test.YtnmgcibopkdijaaDamQB
import Derived.Test.YtnmgcibopkdijaaDamS
set_option linter.unusedSectionVars false
set_option linter.unusedVariables false
set_option linter.unusedSimpArgs false
section
namespace Go.Dam
open Go Go.RowKit
set_option linter.unusedSectionVars false
variable [Glo]
set_option linter.unusedSimpArgs false
set_option linter.unusedVariables false

/-! ### The plan of a region, found by looking -/

/-- The names of blocks that an operation makes. -/
def site (dep : Nat) (dst : Option Tmp) : Nat := (dep * 4096 + dst.getD 0) * 32

def maskAdd (acc : List Nat) : List Edge → Nat → Nat
  | [], s => s
  | e :: es, s => maskAdd acc es (bif Region.binds .any e then Nat.lor (Nat.lor s (2 ^ e.on)) (acc.getD e.on 0) else s)

def masksGo : List Oper → List Nat → List Nat
  | [], acc => acc
  | o :: l, acc => masksGo l (acc ++ [maskAdd acc o.after.toList 0])

def masks (R : Array Oper) : List Nat := masksGo R.toList []

def bit (m i : Nat) : Bool := Nat.testBit m i
def ancB (R : Array Oper) (i k : Nat) : Bool := Nat.testBit ((masks R).getD k 0) i

theorem maskAdd_spec {acc : List Nat} {i : Nat} : ∀ {es : List Edge} {s : Nat}, Nat.testBit (maskAdd acc es s) i = true → Nat.testBit s i = true ∨ ∃ e ∈ es, Region.binds .any e = true ∧ (i = e.on ∨ Nat.testBit (acc.getD e.on 0) i = true)
  | [], s, h => .inl h
  | e :: es, s, h => by
    simp only [maskAdd] at h
    rcases maskAdd_spec h with h | ⟨e', h1, h2, h3⟩
    · cases hb : Region.binds .any e with
      | false => rw [hb] at h; exact .inl h
      | true =>
        rw [hb, cond_true] at h
        have h : Nat.testBit ((s ||| 2 ^ e.on) ||| acc.getD e.on 0) i = true := h
        rw [Nat.testBit_or, Nat.testBit_or, Bool.or_eq_true, Bool.or_eq_true] at h
        rcases h with (h | h) | h
        · exact .inl h
        · rw [Nat.testBit_two_pow] at h
          exact .inr ⟨e, by simp, hb, .inl (by simpa using (of_decide_eq_true h).symm)⟩
        · exact .inr ⟨e, by simp, hb, .inr h⟩
    · exact .inr ⟨e', by simp [h1], h2, h3⟩

theorem masksGo_spec {R : Array Oper} : ∀ (l : List Oper) (acc : List Nat), (∀ j, l[j]? = R[acc.length + j]?) → (∀ k i, Nat.testBit (acc.getD k 0) i = true → Anc R i k) → ∀ k i, Nat.testBit ((masksGo l acc).getD k 0) i = true → Anc R i k
  | [], acc, _, h => h
  | o :: l, acc, hl, h => by
    simp only [masksGo]
    refine masksGo_spec l _ (fun j => by have := hl (j + 1); simpa [Nat.add_assoc, Nat.add_comm 1 j] using this) fun k i hk => ?_
    have ho : R[acc.length]? = some o := by simpa using (hl 0).symm
    rcases Nat.lt_trichotomy k acc.length with hlt | rfl | hgt
    · rw [List.getD_eq_getElem?_getD, List.getElem?_append_left hlt, ← List.getD_eq_getElem?_getD] at hk
      exact h k i hk
    · rw [List.getD_eq_getElem?_getD, List.getElem?_append_right (Nat.le_refl _)] at hk
      simp only [Nat.sub_self, List.getElem?_cons_zero, Option.getD_some] at hk
      rcases maskAdd_spec hk with hk | ⟨e, h1, h2, h3⟩
      · simp at hk
      · rcases h3 with rfl | h3
        · exact .edge ho (by simpa using h1) h2
        · exact .trans ho (by simpa using h1) h2 (h _ _ h3)
    · rw [List.getD_eq_getElem?_getD, List.getElem?_append_right (by omega)] at hk
      have : ([maskAdd acc o.after.toList 0] : List Nat)[k - acc.length]? = none := by
        rw [List.getElem?_eq_none]; simp; omega
      rw [this] at hk
      simp at hk

theorem ancB_spec {R : Array Oper} {i k : Nat} (h : ancB R i k = true) : Anc R i k :=
  masksGo_spec R.toList [] (fun j => by simp) (fun k i h => by simp at h) k i h

/-- Does it make blocks? -/
def maker : Op → Bool
  | .alloc _ | .box _ _ | .buildSlice _ _ _ | .makeSlice _ _ _ | .call ⟨.value _, _, _⟩ | .call ⟨.builtin .append, _, _⟩ => true
  | _ => false

def tB (R : Array Oper) (k : Nat) : Bool := (List.range R.size).all fun j => bif Nat.blt j k then ancB R j k else bif Nat.beq j k then true else ancB R k j

def makesAt (R : Array Oper) (k : Nat) : Bool := match R[k]? with
  | none => false
  | some o => maker o.op && !tB R k

def dstAt (R : Array Oper) (k : Nat) : Nat := match R[k]? with
  | none => 0
  | some o => o.dst.getD 0

def wB (R : Array Oper) (k l : Nat) : Bool := !(Nat.beq l k) && !(ancB R l k)

def kindAt (P : Program) (R : Array Oper) (k : Nat) : Nat := match R[k]? with | some o => kindOf P o.op | none => 0

def sL (P : Program) (R : Array Oper) (k : Nat) : List Nat := bif Nat.beq (kindAt P R k) 0 then [] else (List.range R.size).filter fun j => Nat.blt k j && (!(ancB R k j) && Nat.beq (kindAt P R j) 2)

def uB (P : Program) (R : Array Oper) (j : Nat) : Bool := (List.range R.size).any fun k => (sL P R k).contains j

/-- Does it append to a block that is there? -/
def growAt (R : Array Oper) (tgt : List Nat) (k : Nat) : Bool := !(Nat.beq (tgt.getD k 0) 0) && (match R[k]? with
  | some o => match o.op with
    | .call ⟨.builtin .append, _, _⟩ => true
    | _ => false
  | none => false)
def gL (P : Program) (R : Array Oper) (tgt : List Nat) (k : Nat) : List Nat := bif Nat.beq (kindAt P R k) 0 then [] else (List.range R.size).filter fun j => growAt R tgt j && (!(Nat.beq j k) && (!(ancB R k j) && !(ancB R j k)))
theorem gL_nil (P : Program) (R : Array Oper) (k : Nat) : gL P R [] k = [] := by
  unfold gL
  cases Nat.beq (kindAt P R k) 0
  · rw [cond_false, List.filter_eq_nil_iff]
    intro j _; simp [growAt]
  · rfl

def planOf (P : Program) (R : Array Oper) (dep : Nat) (tgt : List Nat) : Plan where
  zs := fun k => bif makesAt R k then List.range' ((dep * 4096 + dstAt R k) * 32) 32 else []
  W := wB R
  T := tB R
  S := fun k => sL P R k ++ gL P R tgt k
  U := uB P R
  tgt := fun k => tgt.getD k 0
  Gr := growAt R tgt

/-! What is looked at once for a region. -/
def lowAt (k : Nat) (o : Oper) : Bool := o.after.toList.all fun e => !(Region.binds .any e) || Nat.blt e.on k

def pairAt (P : Program) (R : Array Oper) (p : Plan) (j : Nat) (oj : Oper) : Nat → List Oper → Bool
  | _, [] => true
  | i, oi :: l => (ancB R i j || pairB P R p i j oi oj) && pairAt P R p j oj (i + 1) l

def pairsB (P : Program) (R : Array Oper) (p : Plan) : Nat → List Oper → Bool
  | _, [] => true
  | j, oj :: l => lowAt j oj && (pairAt P R p j oj 0 (R.toList.take j) && pairsB P R p (j + 1) l)

def disB (R : Array Oper) : Bool := (List.range R.size).all fun i => !(makesAt R i) || (List.range R.size).all fun j => Nat.beq i j || (!(makesAt R j) || !(Nat.beq (dstAt R i) (dstAt R j)))

/-- May the region be taken in the order of the text? -/
def calmB (P : Program) (R : Array Oper) : Bool := pairsB P R (planOf P R 0 []) 0 R.toList && disB R

section
variable {P : Program} {R : Array Oper}

theorem pairAt_spec {p : Plan} {j : Nat} {oj : Oper} : ∀ {l : List Oper} {i : Nat}, pairAt P R p j oj i l = true → ∀ k o, l[k]? = some o → ancB R (i + k) j = true ∨ pairB P R p (i + k) j o oj = true
  | [], _, _, k, o, h => by simp at h
  | oi :: l, i, h, k, o, hk => by
    simp only [pairAt, Bool.and_eq_true, Bool.or_eq_true] at h
    cases k with
    | zero => simp at hk; subst hk; exact h.1
    | succ k =>
      have := pairAt_spec h.2 k o (by simpa using hk)
      rwa [show i + 1 + k = i + (k + 1) by omega] at this

theorem pairsB_spec {p : Plan} : ∀ {l : List Oper} {j : Nat}, pairsB P R p j l = true → ∀ k o, l[k]? = some o → lowAt (j + k) o = true ∧ pairAt P R p (j + k) o 0 (R.toList.take (j + k)) = true
  | [], _, _, k, o, h => by simp at h
  | oj :: l, j, h, k, o, hk => by
    simp only [pairsB, Bool.and_eq_true] at h
    cases k with
    | zero => simp at hk; subst hk; exact ⟨h.1, h.2.1⟩
    | succ k =>
      have := pairsB_spec h.2.2 k o (by simpa using hk)
      rwa [show j + 1 + k = j + (k + 1) by omega] at this

theorem makes_lt {k : Nat} (h : makesAt R k = true) : k < R.size := by
  unfold makesAt at h
  split at h
  · cases h
  next o ho => exact (Array.getElem?_eq_some_iff.1 ho).1

theorem plan_ok (dep : Nat) (tgt : List Nat) (h : calmB P R = true) : PlanOK P R (planOf P R dep tgt) := by
  simp only [calmB, Bool.and_eq_true] at h
  obtain ⟨hp, hd⟩ := h
  refine ⟨?_, ?_, ?_, ?_, ?_⟩
  · intro k o hk e he hb
    have := (pairsB_spec hp k o (by simpa using hk)).1
    simp only [lowAt, Nat.zero_add, List.all_eq_true] at this
    have := this e (by simpa using he)
    simpa [hb, Nat.blt_eq] using this
  · intro i j oi oj hij hi hj
    have := (pairsB_spec hp j oj (by simpa using hj)).2
    simp only [Nat.zero_add] at this
    have h2 := pairAt_spec this i oi (by rw [List.getElem?_take_of_lt hij]; simpa using hi)
    simp only [Nat.zero_add] at h2
    rcases h2 with h2 | h2
    · exact .inl (ancB_spec h2)
    · right
      have hc : (sL P R i ++ gL P R [] i).contains j = true → (sL P R i ++ gL P R tgt i).contains j = true := fun h => by
        rw [gL_nil, List.append_nil] at h
        simp only [List.contains_iff_mem, List.mem_append] at h ⊢
        exact .inl h
      simp only [planOf, pairB, Bool.and_eq_true, Bool.or_eq_true] at h2 ⊢
      obtain ⟨b1, b2, b3, b4, b5, b6⟩ := h2
      refine ⟨b1, b2, b3, b4, b5, ?_⟩
      rcases b6 with b | b | ⟨b, c, d⟩ | b
      · exact .inl b
      · exact .inr (.inl b)
      · exact .inr (.inr (.inl ⟨b, hc c, d⟩))
      · exact .inr (.inr (.inr b))
  · intro i j hij id hi hj
    simp only [planOf] at hi hj
    cases mi : makesAt R i with
    | false => rw [mi, cond_false] at hi; cases hi
    | true =>
      cases mj : makesAt R j with
      | false => rw [mj, cond_false] at hj; cases hj
      | true =>
        rw [mi, cond_true, List.mem_range'_1] at hi; rw [mj, cond_true, List.mem_range'_1] at hj
        simp only [disB, List.all_eq_true, List.mem_range, Bool.or_eq_true, Bool.not_eq_true'] at hd
        have h1 := hd i (makes_lt mi)
        rw [mi] at h1
        rcases h1 with h1 | h1
        · cases h1
        · have h2 := h1 j (makes_lt mj)
          rw [mj] at h2
          rcases h2 with h2 | h2 | h2
          · exact hij (Nat.eq_of_beq_eq_true h2)
          · cases h2
          · have : dstAt R i ≠ dstAt R j := fun e => by rw [e, Nat.beq_refl] at h2; cases h2
            omega
  · intro k l hne hna
    simp only [planOf, wB, Bool.and_eq_true, Bool.not_eq_true']
    refine ⟨Bool.eq_false_iff.2 fun e => hne (Nat.eq_of_beq_eq_true e), Bool.eq_false_iff.2 fun e => hna (ancB_spec e)⟩
  · intro i j oi hne hi hj ha hb hg
    by_cases h0 : kindOf P oi.op = 0
    · exact .inl h0
    right
    have hk : Nat.beq (kindAt P R i) 0 = false := by
      rw [Bool.eq_false_iff]; intro e
      have := Nat.eq_of_beq_eq_true e
      simp only [kindAt, hi] at this; exact h0 this
    refine List.mem_append.2 (.inr ?_)
    unfold gL
    rw [hk, cond_false, List.mem_filter, List.mem_range]
    refine ⟨hj, ?_⟩
    simp only [Bool.and_eq_true, Bool.not_eq_true']
    exact ⟨hg, Bool.eq_false_iff.2 fun e => hne (Nat.eq_of_beq_eq_true e).symm, Bool.eq_false_iff.2 fun e => ha (ancB_spec e), Bool.eq_false_iff.2 fun e => hb (ancB_spec e)⟩

end
end Go.Dam
end

section
namespace Go.Dam
open Go Go.RowKit
set_option linter.unusedSectionVars false
variable [Glo]
set_option linter.unusedSimpArgs false
set_option linter.unusedVariables false

theorem beq_no {i j : Nat} (h : i ≠ j) : Nat.beq i j = false := by
  rw [Bool.eq_false_iff]; intro e; exact h (Nat.eq_of_beq_eq_true e)
theorem beq_yes (i : Nat) : Nat.beq i i = true := Nat.beq_refl i

noncomputable section
/-! Frames as trees. -/
inductive TT where
  | lf
  | nd (d : D) (l r : TT)

def TT.top : TT → D := TT.rec .undef (fun d _ _ _ _ => d)
def TT.kid (b : Bool) : TT → TT := TT.rec .lf (fun _ l r _ _ => bif b then r else l)
def TT.get (p : List Bool) : TT → D := List.rec (motive := fun _ => TT → D) (fun t => t.top) (fun b _ ih t => ih (t.kid b)) p
def TT.set (d : D) (p : List Bool) : TT → TT :=
  List.rec (motive := fun _ => TT → TT) (fun t => .nd d (t.kid false) (t.kid true)) (fun b _ ih t => .nd t.top (bif b then t.kid false else ih (t.kid false)) (bif b then ih (t.kid true) else t.kid true)) p
def TT.map (f : D → D) : TT → TT := TT.rec .lf (fun d _ _ l r => .nd (f d) l r)

def pathF (k : Nat) : Nat → List Bool :=
  Nat.rec (motive := fun _ => Nat → List Bool) (fun _ => []) (fun _ ih n => bif Nat.beq n 0 then [] else bif Nat.beq (n % 2) 1 then false :: ih (n / 2) else true :: ih (n / 2 - 1)) k
def path (n : Nat) : List Bool := pathF (n + 1) n
def dec : List Bool → Nat
  | [] => 0
  | false :: p => 1 + 2 * dec p
  | true :: p => 2 + 2 * dec p

theorem dec_pathF : ∀ (k n : Nat), n < k → dec (pathF k n) = n
  | 0, n, h => by omega
  | k + 1, n, h => by
    show dec (bif Nat.beq n 0 then [] else bif Nat.beq (n % 2) 1 then false :: pathF k (n / 2) else true :: pathF k (n / 2 - 1)) = n
    by_cases h0 : n = 0
    · subst h0; rfl
    · rw [beq_no h0, cond_false]
      by_cases h1 : n % 2 = 1
      · rw [h1, beq_yes, cond_true, dec, dec_pathF k _ (by omega)]; omega
      · rw [beq_no h1, cond_false, dec, dec_pathF k _ (by omega)]; omega
theorem dec_path (n : Nat) : dec (path n) = n := dec_pathF _ _ (Nat.lt_succ_self n)
theorem path_inj {m n : Nat} (h : path m = path n) : m = n := by rw [← dec_path m, h, dec_path]
theorem length_pathF : ∀ (k n : Nat), (pathF k n).length ≤ n
  | 0, n => Nat.zero_le _
  | k + 1, n => by
    show (bif Nat.beq n 0 then [] else bif Nat.beq (n % 2) 1 then false :: pathF k (n / 2) else true :: pathF k (n / 2 - 1)).length ≤ n
    by_cases h0 : n = 0
    · subst h0; exact Nat.zero_le _
    · rw [beq_no h0, cond_false]
      by_cases h1 : n % 2 = 1
      · rw [h1, beq_yes, cond_true, List.length_cons]; have := length_pathF k (n / 2); omega
      · rw [beq_no h1, cond_false, List.length_cons]; have := length_pathF k (n / 2 - 1); omega

theorem TT.get_set (d : D) : ∀ (p q : List Bool) (t : TT), (t.set d p).get q = if q = p then d else t.get q
  | [], [], t => rfl
  | [], b :: q, t => by
    rw [if_neg (by simp)]
    show TT.get q (TT.kid b (.nd d (t.kid false) (t.kid true))) = TT.get q (t.kid b)
    cases b <;> rfl
  | b :: p, [], t => by rw [if_neg (by simp)]; rfl
  | b :: p, c :: q, t => by
    show TT.get q (TT.kid c (.nd t.top (bif b then t.kid false else (t.kid false).set d p) (bif b then (t.kid true).set d p else t.kid true))) = if c :: q = b :: p then d else TT.get q (t.kid c)
    have e : ∀ x : TT, (if q = p then d else TT.get q x) = TT.get q (x.set d p) := fun x => (TT.get_set d p q x).symm
    cases b <;> cases c
    · show TT.get q ((t.kid false).set d p) = _
      rw [← e]; simp
    · show TT.get q (t.kid true) = _
      rw [if_neg (by simp)]
    · show TT.get q (t.kid false) = _
      rw [if_neg (by simp)]
    · show TT.get q ((t.kid true).set d p) = _
      rw [← e]; simp

theorem TT.kid_map (f : D → D) (b : Bool) (t : TT) : (t.map f).kid b = (t.kid b).map f := by
  cases t with
  | lf => rfl
  | nd d l r => cases b <;> rfl
theorem TT.get_map {f : D → D} (hf : f .undef = .undef) : ∀ (p : List Bool) (t : TT), (t.map f).get p = f (t.get p)
  | [], t => by cases t with
    | lf => exact hf.symm
    | nd d l r => rfl
  | b :: p, t => by
    show TT.get p ((t.map f).kid b) = f (TT.get p (t.kid b))
    rw [TT.kid_map, TT.get_map hf p]

/-- A tree with these values. -/
def TT.mk (val : Nat → D) (k : Nat) : Nat → Nat → TT :=
  Nat.rec (motive := fun _ => Nat → Nat → TT) (fun _ _ => .lf) (fun _ ih o s => .nd (val o) (ih (o + s) (2 * s)) (ih (o + 2 * s) (2 * s))) k
theorem TT.get_mk (val : Nat → D) : ∀ (p : List Bool) (k o s : Nat), (TT.mk val k o s).get p = if p.length < k then val (o + s * dec p) else .undef
  | [], 0, o, s => rfl
  | [], k + 1, o, s => by rw [if_pos (by simp)]; show val o = val (o + s * 0); rw [Nat.mul_zero, Nat.add_zero]
  | b :: p, 0, o, s => by
    rw [if_neg (by simp)]
    show TT.get p (TT.kid b .lf) = .undef
    have : ∀ p, TT.get p .lf = .undef := fun p => by
      induction p with
      | nil => rfl
      | cons b p ih => exact ih
    exact this p
  | b :: p, k + 1, o, s => by
    show TT.get p (TT.kid b (.nd (val o) (TT.mk val k (o + s) (2 * s)) (TT.mk val k (o + 2 * s) (2 * s)))) = _
    have e : (b :: p).length < k + 1 ↔ p.length < k := by simp
    have m : s * (2 * dec p) = 2 * s * dec p := by rw [← Nat.mul_assoc, Nat.mul_comm s 2]
    cases b
    · show TT.get p (TT.mk val k (o + s) (2 * s)) = _
      rw [TT.get_mk val p k]
      simp only [e, dec, Nat.mul_add, Nat.mul_one, m, Nat.add_assoc]
    · show TT.get p (TT.mk val k (o + 2 * s) (2 * s)) = _
      rw [TT.get_mk val p k]
      simp only [e, dec, Nat.mul_add, m, Nat.add_assoc, Nat.mul_comm s 2]

/-- The values that a body begins with. -/
def initD (args : List D) (nt n : Nat) : D := match args[n]? with
  | some d => d
  | none => bif Nat.blt n nt then .v undef else .undef

/-- A block: cells; or a row of numbers and truth values, column by column. -/
inductive BX where
  | cells (cs : List D) (ro : Bool)
  | row (cols : List Col0) (ro : Bool)

def BX.blk : BX → Blk
  | .cells cs ro => ⟨cs, ro⟩
  | .row cols ro => ⟨rowCells0 cols, ro⟩
def BX.forget (i : Nat) : BX → BX
  | .cells cs ro => .cells (cs.map (D.forget i)) ro
  | .row cols ro => .row cols ro
def BX.wipe (q : Nat → Bool) : BX → BX
  | .cells cs ro => .cells (cs.map (D.wipe q)) ro
  | .row cols ro => .row cols ro
def BX.freeze : BX → BX
  | .cells cs _ => .cells cs true
  | .row cols _ => .row cols true

/-- The abstract state as data. -/
structure Cs where
  tm : TT
  nt : Nat
  stk : List (TT × Nat)
  bk : List (Nat × BX)
  loop : Option LoopSt := none
  gen : Nat := 0

/-- What the run is told: that the next decisions are about known truth values; a decision; that a loop is run round by round; what a loop comes to:
which temporaries count ahead of it (frame by frame), how its blocks are called there (by which name, and by which from then on), the state ahead of it, how it ends, the state behind it. -/
inductive Cast where
  | nil (t id sz : Nat) (cols : List Col0)
  | cells (id : Nat) (c : Col0)
  | cnil (b off id sz : Nat) (cols : List Col0)
inductive PE where
  | k (l : List Cast)
  | c (n : Nat)
  | d (b : Bool)
  | u
  | l (keep : List (List Nat)) (ren : List (Nat × Nat)) (c0 : Cs) (e : Ex) (c1 : Cs)

/-- The state, what the run is told, and what has to hold. -/
structure Cf extends Cs where
  todo : List PE := []
  cds : List Prop := []

def AllP : List Prop → Prop
  | [] => True
  | p :: l => p ∧ AllP l

theorem AllP_append : ∀ (l m : List Prop), AllP (l ++ m) ↔ AllP l ∧ AllP m
  | [], m => by simp [AllP]
  | p :: l, m => by simp [AllP, AllP_append l m, and_assoc]

/-- By which name new blocks are called: by turns, where that is asked for. -/
def depOf (c : Cf) : Nat := c.stk.length

def lookX (i : Nat) : List (Nat × BX) → Option BX
  | [] => none
  | (j, b) :: l => bif Nat.beq j i then some b else lookX i l

def lookB (i : Nat) (l : List (Nat × BX)) : Option Blk := (lookX i l).map BX.blk

def setBk (i : Nat) (b : BX) : List (Nat × BX) → List (Nat × BX)
  | [] => [(i, b)]
  | (j, c) :: l => bif Nat.beq j i then (j, b) :: l else (j, c) :: setBk i b l

def dropB (i : Nat) : List (Nat × BX) → List (Nat × BX)
  | [] => []
  | (j, c) :: l => bif Nat.beq j i then dropB i l else (j, c.forget i) :: dropB i l

def roB (ids : List Nat) : List (Nat × BX) → List (Nat × BX)
  | [] => []
  | (j, c) :: l => (j, bif ids.contains j then c.freeze else c) :: roB ids l

def frOf (f : TT × Nat) : Fr := { nt := f.2, tm := fun t => f.1.get (path t) }
def Cs.get (c : Cs) (t : Nat) : D := c.tm.get (path t)
def Cs.abs (c : Cs) : St := { fr := frOf (c.tm, c.nt), stk := c.stk.map frOf, bk := fun i => lookB i c.bk, loop := c.loop }
abbrev Cf.abs (c : Cf) : St := c.toCs.abs

theorem rowCells0_v {cols : List Col0} {d : D} (h : d ∈ rowCells0 cols) : ∃ x, d = .v x := by
  simp only [rowCells0, rowCells, List.mem_flatMap, List.mem_map, List.map_map, Function.comp] at h
  obtain ⟨i, _, c, _, rfl⟩ := h
  cases c <;> exact ⟨_, rfl⟩
theorem rowCells0_forget (i : Nat) (cols : List Col0) : (rowCells0 cols).map (D.forget i) = rowCells0 cols := by
  refine (List.map_congr_left fun d hd => ?_).trans (List.map_id _)
  obtain ⟨x, rfl⟩ := rowCells0_v hd
  rfl
theorem rowCells0_wipe (q : Nat → Bool) (cols : List Col0) : (rowCells0 cols).map (D.wipe q) = rowCells0 cols := by
  refine (List.map_congr_left fun d hd => ?_).trans (List.map_id _)
  obtain ⟨x, rfl⟩ := rowCells0_v hd
  rfl
theorem BX.blk_forget (i : Nat) (b : BX) : (b.forget i).blk = b.blk.forget i := by
  cases b with
  | cells cs ro => rfl
  | row cols ro => simp only [BX.forget, BX.blk, Blk.forget, rowCells0_forget]
theorem BX.blk_wipe (q : Nat → Bool) (b : BX) : (b.wipe q).blk = b.blk.wipe q := by
  cases b with
  | cells cs ro => rfl
  | row cols ro => simp only [BX.wipe, BX.blk, Blk.wipe, rowCells0_wipe]
theorem BX.blk_freeze (b : BX) : b.freeze.blk = { b.blk with ro := true } := by cases b <;> rfl

theorem lookX_set (i : Nat) (b : BX) (j : Nat) : ∀ l, lookX j (setBk i b l) = if j = i then some b else lookX j l
  | [] => by
    by_cases h : j = i
    · subst h; simp [setBk, lookX, beq_yes]
    · simp [setBk, lookX, h, beq_no (Ne.symm h)]
  | (k, c) :: l => by
    simp only [setBk]
    by_cases hk : k = i
    · subst hk
      rw [beq_yes, cond_true]
      by_cases h : j = k
      · subst h; simp [lookX, beq_yes]
      · simp [h, lookX, beq_no (Ne.symm h)]
    · rw [beq_no hk, cond_false]
      simp only [lookX, lookX_set i b j l]
      by_cases h : j = i
      · subst h; simp [beq_no hk]
      · simp [h]

theorem lookX_drop (i j : Nat) : ∀ l, lookX j (dropB i l) = if j = i then none else (lookX j l).map (BX.forget i)
  | [] => by simp [dropB, lookX]
  | (k, c) :: l => by
    simp only [dropB]
    by_cases hk : k = i
    · subst hk
      rw [beq_yes, cond_true, lookX_drop k j l]
      by_cases h : j = k
      · subst h; simp
      · simp [h, lookX, beq_no (Ne.symm h)]
    · rw [beq_no hk, cond_false]
      simp only [lookX, lookX_drop i j l]
      by_cases h : k = j
      · subst h; simp [beq_yes, hk]
      · simp [beq_no h]

theorem lookX_ro (ids : List Nat) (j : Nat) : ∀ l, lookX j (roB ids l) = if j ∈ ids then (lookX j l).map BX.freeze else lookX j l
  | [] => by simp [roB, lookX]
  | (k, c) :: l => by
    simp only [roB, lookX, lookX_ro ids j l]
    by_cases h : k = j
    · subst h
      simp only [beq_yes, cond_true]
      by_cases hm : k ∈ ids <;> simp [hm]
    · simp only [beq_no h, cond_false]

theorem lookB_set (i : Nat) (b : BX) (j : Nat) (l : List (Nat × BX)) : lookB j (setBk i b l) = if j = i then some b.blk else lookB j l := by
  unfold lookB; rw [lookX_set]; split <;> rfl
theorem lookB_drop (i j : Nat) (l : List (Nat × BX)) : lookB j (dropB i l) = if j = i then none else (lookB j l).map (Blk.forget i) := by
  unfold lookB; rw [lookX_drop]; split
  · rfl
  · simp only [Option.map_map]; congr 1; funext b; exact BX.blk_forget i b
theorem lookB_ro (ids : List Nat) (j : Nat) (l : List (Nat × BX)) : lookB j (roB ids l) = if j ∈ ids then (lookB j l).map fun b => { b with ro := true } else lookB j l := by
  unfold lookB; rw [lookX_ro]; split
  · simp only [Option.map_map]; congr 1; funext b; exact BX.blk_freeze b
  · rfl

def Cf.put (c : Cf) (dst : Option Tmp) (d : D) : Cf :=
  match dst with
  | some t => { c with tm := c.tm.set (bif Nat.blt t c.nt then d else .undef) (path t) }
  | none => c

def Cf.forget (c : Cf) (i : Nat) : Cf := { tm := c.tm.map (D.forget i), nt := c.nt, stk := c.stk.map fun f => (f.1.map (D.forget i), f.2), bk := dropB i c.bk, loop := if i = yldId then none else c.loop, gen := c.gen, todo := c.todo, cds := c.cds }
def Cf.setB (c : Cf) (i : Nat) (b : BX) : Cf := { c with bk := setBk i b c.bk }
def Cf.markRo (c : Cf) (ids : List Nat) : Cf := { c with bk := roB ids c.bk }
def Cf.enter (c : Cf) (args : List D) (nt : Nat) : Cf := { tm := TT.mk (initD args (args.length + (nt - args.length))) (args.length + (nt - args.length) + 1) 0 1, nt := args.length + (nt - args.length), stk := (c.tm, c.nt) :: c.stk, bk := c.bk, loop := c.loop, gen := c.gen, todo := c.todo, cds := c.cds }
/-- What has to hold, besides. -/
def Cf.owe (c : Cf) (l : List Prop) : Cf := { c with cds := l ++ c.cds }

theorem frOf_set (f : TT) (nt t : Nat) (d : D) : frOf (f.set (bif Nat.blt t nt then d else .undef) (path t), nt) = (frOf (f, nt)).put t d := by
  simp only [frOf, Fr.put]
  congr 1
  funext i
  rw [TT.get_set]
  by_cases h : i = t
  · subst h
    rw [if_pos rfl, if_pos rfl]
    have key : ∀ (inst : Decidable (i < nt)), (bif i.blt nt then d else D.undef) = @ite D (i < nt) inst d .undef := by
      intro inst
      by_cases hl : i < nt
      · rw [if_pos hl, show Nat.blt i nt = true by simpa [Nat.blt_eq] using hl]; rfl
      · rw [if_neg hl, show Nat.blt i nt = false by rw [Bool.eq_false_iff]; simpa [Nat.blt_eq] using hl]; rfl
    exact key _
  · rw [if_neg h, if_neg (fun e => h (path_inj e))]

theorem abs_put (c : Cf) (dst : Option Tmp) (d : D) : (c.put dst d).abs = c.abs.put dst d := by
  cases dst with
  | none => rfl
  | some t => simp only [Cf.put, Cf.abs, Cs.abs, St.put, frOf_set]

theorem frOf_forget (i : Nat) (f : TT × Nat) : frOf (f.1.map (D.forget i), f.2) = (frOf f).forget i := by
  simp only [frOf, Fr.forget]
  congr 1
  funext t
  exact TT.get_map rfl _ _

theorem abs_forget (c : Cf) (i : Nat) : (c.forget i).abs = c.abs.forget i := by
  simp only [Cf.forget, Cf.abs, Cs.abs, St.forget, List.map_map]
  congr 1
  · exact frOf_forget i (c.tm, c.nt)
  · congr 1
    funext f
    exact frOf_forget i f
  · funext j
    exact lookB_drop i j c.bk

theorem abs_setB (c : Cf) (i : Nat) (b : BX) : (c.setB i b).abs = c.abs.setB i b.blk := by
  simp only [Cf.setB, Cf.abs, Cs.abs, St.setB]
  congr 1
  funext j
  exact lookB_set i b j c.bk

theorem abs_ro (c : Cf) (ids : List Nat) : (c.markRo ids).abs = c.abs.markRo ids := by
  simp only [Cf.markRo, Cf.abs, Cs.abs, St.markRo]
  congr 1
  funext j
  exact lookB_ro ids j c.bk

theorem frOf_mk (args : List D) (nt : Nat) : frOf (TT.mk (initD args (args.length + (nt - args.length))) (args.length + (nt - args.length) + 1) 0 1, args.length + (nt - args.length)) =
    { nt := args.length + (nt - args.length), tm := fun t => (args ++ List.replicate (nt - args.length) (D.v undef)).getD t .undef } := by
  simp only [frOf]
  congr 1
  funext t
  rw [TT.get_mk, dec_path, Nat.zero_add, Nat.one_mul]
  have hlen : (path t).length ≤ t := length_pathF (t + 1) t
  rw [List.getD_eq_getElem?_getD, List.getElem?_append, List.getElem?_replicate]
  by_cases h1 : t < args.length
  · have hp : (path t).length < args.length + (nt - args.length) + 1 := by omega
    rw [if_pos hp, if_pos h1]
    simp [initD, h1]
  · rw [if_neg h1]
    by_cases h2 : t < args.length + (nt - args.length)
    · have hp : (path t).length < args.length + (nt - args.length) + 1 := by omega
      have h3 : t - args.length < nt - args.length := by omega
      rw [if_pos hp, if_pos h3]
      simp [initD, h1, show Nat.blt t (args.length + (nt - args.length)) = true by simpa [Nat.blt_eq] using h2]
    · have h3 : ¬ (t - args.length < nt - args.length) := by omega
      rw [if_neg h3]
      split
      · simp [initD, h1, show Nat.blt t (args.length + (nt - args.length)) = false by rw [Bool.eq_false_iff]; simpa [Nat.blt_eq] using h2]
      · rfl

theorem abs_enter (c : Cf) (args : List D) (nt : Nat) : (c.enter args nt).abs = c.abs.enter args nt := by
  simp only [Cf.enter, Cf.abs, Cs.abs, St.enter, List.map_cons]
  congr 1
  exact frOf_mk args nt

@[simp] theorem abs_owe (c : Cf) (l : List Prop) : (c.owe l).abs = c.abs := rfl

def evalC (c : Cs) : Operand → D
  | .tmp t => c.get t
  | .const v => D.ofV v
  | .global g => gloD (Glo.g g)
  | .func f => .fn f []

theorem evalC_abs (c : Cs) : evalC c = evalD c.abs := by
  funext x; cases x <;> rfl

def Cs.look (c : Cs) : Nat → Option Blk := fun i => lookB i c.bk
theorem look_abs (c : Cs) : c.look = c.abs.bk := rfl

def stepC (c : Cf) (dst : Option Tmp) (id : Nat) : Eff → Option Cf
  | .val d => some (c.put dst d)
  | .box cs => some (((c.forget id).setB id (.cells (cs.map (D.forget id)) false)).put dst (.ptr id 0))
  | .row cs n sz => some (((c.forget id).setB id (.cells (cs.map (D.forget id)) false)).put dst (.sl id 0 n ⟨sz, 0⟩))
  | .row0 => some (c.put dst .emp)
  | .sto i off ds => match lookX i c.bk with
    | some (.cells cells false) => if off + ds.length ≤ cells.length then some ((c.setB i (.cells (splice cells off ds) false)).put dst (.v undef)) else none
    | _ => none
  | .cpy i off ds u => match lookX i c.bk with
    | some (.cells cells false) => if off + ds.length ≤ cells.length then some ((c.setB i (.cells (splice cells off ds) false)).put dst (D.ofV u)) else none
    | _ => none
  | .app s sz m ds => match s with
    | .emp => some (((c.forget id).setB id (.cells (ds.map (D.forget id)) false)).put dst (.sl id 0 m ⟨sz, 0⟩))
    | .v _ => some (((c.forget id).setB id (.cells (ds.map (D.forget id)) false)).put dst (.sl id 0 m ⟨sz, 0⟩))
    | .sl i off n _ => match lookX i c.bk with
      | some (.cells cells false) => if off + n * sz ≤ cells.length then some (((c.forget i).setB i (.cells (((cells.drop off).take (n * sz) ++ ds).map (D.forget i)) false)).put dst (.sl i 0 (n + m) ⟨sz, 0⟩)) else none
      | _ => none
    | _ => none

theorem lookB_cells {i : Nat} {l : List (Nat × BX)} {cells : List D} {ro : Bool} (h : lookX i l = some (.cells cells ro)) : lookB i l = some ⟨cells, ro⟩ := by
  unfold lookB; rw [h]; rfl

theorem stepC_abs {c : Cf} {dst : Option Tmp} {id : Nat} {e : Eff} {c' : Cf} (h : stepC c dst id e = some c') : stepE c.abs dst id e = some c'.abs ∧ c'.cds = c.cds := by
  have pc : ∀ (c : Cf) (d : D), (c.put dst d).cds = c.cds := fun c d => by cases dst <;> rfl
  cases e with
  | val d => simp [stepC] at h; subst h; exact ⟨by simp [stepE, abs_put], pc _ _⟩
  | box cs => simp [stepC] at h; subst h; exact ⟨by simp [stepE, abs_put, abs_setB, abs_forget, BX.blk], pc _ _⟩
  | row cs n sz => simp [stepC] at h; subst h; exact ⟨by simp [stepE, abs_put, abs_setB, abs_forget, BX.blk], pc _ _⟩
  | row0 => simp [stepC] at h; subst h; exact ⟨by simp [stepE, abs_put], pc _ _⟩
  | sto i off ds =>
    simp only [stepC] at h
    split at h
    next cells hl =>
      split at h
      next hle =>
        simp only [Option.some.injEq] at h; subst h
        refine ⟨?_, pc _ _⟩
        simp only [stepE, show c.abs.bk i = some ⟨cells, false⟩ from lookB_cells hl, if_pos hle, abs_put, abs_setB, BX.blk]
      · cases h
    · cases h
  | cpy i off ds k =>
    simp only [stepC] at h
    split at h
    next cells hl =>
      split at h
      next hle =>
        simp only [Option.some.injEq] at h; subst h
        refine ⟨?_, pc _ _⟩
        simp only [stepE, show c.abs.bk i = some ⟨cells, false⟩ from lookB_cells hl, if_pos hle, abs_put, abs_setB, BX.blk]
      · cases h
    · cases h
  | app s sz m ds =>
    cases s with
    | v x => simp [stepC] at h; subst h; exact ⟨by simp [stepE, abs_put, abs_setB, abs_forget, BX.blk], pc _ _⟩
    | emp => simp [stepC] at h; subst h; exact ⟨by simp [stepE, abs_put, abs_setB, abs_forget, BX.blk], pc _ _⟩
    | sl i off n z =>
      simp only [stepC] at h
      split at h
      next cells hl =>
        split at h
        next hle =>
          simp only [Option.some.injEq] at h; subst h
          refine ⟨?_, pc _ _⟩
          simp only [stepE, show c.abs.bk i = some ⟨cells, false⟩ from lookB_cells hl, if_pos hle, abs_put, abs_setB, abs_forget, BX.blk]
        · cases h
      · cases h
    | _ => simp [stepC] at h

end
end Go.Dam
end

section
namespace Go.Dam
open Go Go.RowKit
set_option linter.unusedSectionVars false
variable [Glo]
set_option linter.unusedSimpArgs false
set_option linter.unusedVariables false
noncomputable section

/-! ### Operations on numbers that are terms: what has to hold is told, not decided -/

def opLen (P : Program) (ρ : Operand → D) (args : List Operand) (ts : List TypeId) : Option Eff :=
  match args, ts with
  | [x], [t] => lenD P t (ρ x)
  | _, _ => none

def opAppend (P : Program) (bk : Nat → Option Blk) (ρ : Operand → D) (args : List Operand) (ts : Array TypeId) : Option Eff :=
  match args with
  | [s, x] => appendD P bk ts (ρ s) (ρ x)
  | _ => none

def opCopy (P : Program) (bk : Nat → Option Blk) (ρ : Operand → D) (args : List Operand) (ts : Array TypeId) : Option Eff :=
  match args with
  | [d, x] => copyD P bk ts (ρ d) (ρ x)
  | _ => none

def opClear (P : Program) (ρ : Operand → D) (args : List Operand) (ts : Array TypeId) : Option Eff :=
  match args with
  | [d] => clearD P ts (ρ d)
  | _ => none

def opBuiltin (P : Program) (bk : Nat → Option Blk) (ρ : Operand → D) (ty : TypeId) (args : Array Operand) (ts : Array TypeId) : Builtin → Option Eff
  | .len => opLen P ρ args.toList ts.toList
  | .append => opAppend P bk ρ args.toList ts
  | .copy => opCopy P bk ρ args.toList ts
  | .clear => opClear P ρ args.toList ts
  | .max => opMost .gtr (fun vs => pureD P (Builtin.max_ ts ty vs.toArray)) (args.toList.map ρ)
  | .min => opMost .lss (fun vs => pureD P (Builtin.min_ ts ty vs.toArray)) (args.toList.map ρ)
  | _ => none

def opCall (P : Program) (bk : Nat → Option Blk) (ρ : Operand → D) (ty : TypeId) (c : Call) : Option Eff :=
  match c.callee with
  | .builtin b => opBuiltin P bk ρ ty c.args c.argTypes b
  | _ => none

def opFunc (ρ : Operand → D) (f : Fn) (first captured : Array Operand) : Option Eff :=
  match f with
  | .func f => if first.size = 0 then some (.val (.fn f (captured.toList.map ρ))) else none
  | _ => none

def opSlice (P : Program) (bk : Nat → Option Blk) (ρ : Operand → D) (t : TypeId) (x : Operand) (lo hi mx : Option Operand) : Option Eff :=
  match mx with
  | none => sliceD P bk t (ρ x) (lo.map ρ) (hi.map ρ)
  | some m => slice3D P t (ρ x) (lo.map ρ) (hi.map ρ) (ρ m)

def valOf (d : D) : Option Eff := some (.val d)
def boxOf (d : D) : Option Eff := d.cells.map .box
def buildF (P : Program) (ρ : Operand → D) (t : TypeId) (parts : Array (Nat × Operand)) : Option Eff := buildD P t (parts.toList.map fun p => (p.1, ρ p.2))
def buildSliceF (P : Program) (ρ : Operand → D) (t : TypeId) (len : Nat) (parts : Array (Nat × Operand)) : Option Eff := buildSliceD P t len (parts.toList.map fun p => (p.1, ρ p.2))

def opF (P : Program) (bk : Nat → Option Blk) (ρ : Operand → D) (ty : TypeId) : Op → Option Eff
  | .move x => valOf (ρ x)
  | .assign x => valOf (ρ x)
  | .pick c a b => opPick (ρ c) (ρ a) (ρ b)
  | .alloc t => (zeroD P t).map .box
  | .box _ x => boxOf (ρ x)
  | .build t parts => buildF P ρ t parts
  | .buildSlice t len parts => buildSliceF P ρ t len parts
  | .load t a => loadD P bk t (ρ a)
  | .store t a x => storeD P t (ρ a) (ρ x)
  | .nilCheck x => opNil (ρ x)
  | .binOp op t x y _ => binD P op t x y (ρ x) (ρ y)
  | .unOp op _ x => opUn P op (ρ x)
  | .convert src dst x => opConv P src dst (ρ x)
  | .makeFunc f first captured => opFunc ρ f first captured
  | .makeSlice t l c => makeSliceD P t (ρ l) (ρ c)
  | .slice t x lo hi mx => opSlice P bk ρ t x lo hi mx
  | .fieldAddr t x f => fieldAddrD P t (ρ x) f
  | .field t x f => fieldD P t (ρ x) f
  | .indexAddr t x ix => indexAddrD P t (ρ x) (ρ ix)
  | .index t x ix => indexD P t (ρ x) (ρ ix)
  | .extract x i => extractD (ρ x) i
  | .call c => opCall P bk ρ ty c
  | _ => none

theorem opF_eq (P : Program) (bk : Nat → Option Blk) (ρ : Operand → D) (ty : TypeId) (op : Op) : opF P bk ρ ty op = opD P bk ρ ty op := by
  cases op with
  | makeFunc f a b => cases f <;> rfl
  | slice t x lo hi mx => cases mx <;> rfl
  | call c =>
    obtain ⟨callee, args, ts⟩ := c
    obtain ⟨args⟩ := args
    cases callee with
    | value g => rfl
    | invoke r m => rfl
    | builtin b =>
      cases b <;> first | rfl | skip
      all_goals (obtain ⟨ts⟩ := ts; rcases args with _ | ⟨x, _ | ⟨y, _ | ⟨z, l⟩⟩⟩ <;> rcases ts with _ | ⟨t, _ | ⟨u, m⟩⟩ <;> rfl)
  | _ => rfl

abbrev OX := Eff × List Prop
def plainX (e : Option Eff) : Option OX :=
  match e with
  | some e => some (e, [])
  | none => none

def intX (op : BinOp) (k k' : IntKind) (p q : Int) : Option OX :=
  match op with
  | .shl => some (.val (.v (.int k (opI .shl k p q))), [decide (0 ≤ q) = true])
  | .shr => some (.val (.v (.int k (opI .shr k p q))), [decide (0 ≤ q) = true])
  | .quo => if k = k' then some (.val (.v (.int k (opI .quo k p q))), [decide (q = 0) = false]) else none
  | .rem => if k = k' then some (.val (.v (.int k (opI .rem k p q))), [decide (q = 0) = false]) else none
  | op => match intD op k k' p q with
    | some d => some (.val d, [])
    | none => none

def binX (P : Program) (op : BinOp) (t : TypeId) (x y : Operand) (a b : D) : Option OX :=
  match a, b with
  | .v (.int k p), .v (.int k' q) => intX op k k' p q
  | a, b => plainX (binFall P op t x y a b)

def rcAddrX (P : Program) (t : TypeId) (cs : List Col) (ix : D) : Option OX :=
  match ix, P.underlying t with
  | .v (.int _ i), some (.slice elem) => match P.info? elem with
    | none => none
    | some j => if j.size = cs.length then some (.val (.shp (cs.map (Col.cell i.toNat)) 0), [decide (0 ≤ i) = true, decide (i < (rowLen cs : Int)) = true]) else none
  | _, _ => none

def indexAddrX (P : Program) (t : TypeId) (x ix : D) : Option OX :=
  match x with
  | .rc cs => rcAddrX P t cs ix
  | x => plainX (indexAddrP P t x ix)

/-- A byte of a text, by a number that is a term. -/
def textX (s : ByteArray) (i : Int) : OX := (.val (.v (.int .u8 (((s.data.toList.map UInt8.toNat).getD i.toNat 0 : Nat) : Int))), [decide (0 ≤ i) = true, decide (i < (s.size : Int)) = true])

def indexX (P : Program) (t : TypeId) (x ix : D) : Option OX :=
  match x, ix, P.underlying t with
  | .v (.string s), .v (.int _ i), some .string => some (textX s i)
  | x, ix, _ => plainX (indexD P t x ix)

def loX : Option D → Option Int
  | none => some 0
  | some (.v (.int _ l)) => some l
  | some _ => none
def hiX (n : Nat) : Option D → Option Int
  | none => some n
  | some (.v (.int _ h)) => some h
  | some _ => none

def rcSliceX (P : Program) (t : TypeId) (cs : List Col) (lo hi : Option D) : Option OX :=
  match P.underlying t with
  | some (.slice elem) => match P.info? elem with
    | some j => match loX lo, hiX (rowLen cs) hi with
      | some l, some h => if j.size = cs.length then some (.val (.rc (cs.map (Col.part l.toNat (h.toNat - l.toNat)))), [decide (0 ≤ l) = true, decide (l ≤ h) = true, decide (h ≤ (rowLen cs : Int)) = true]) else none
      | _, _ => none
    | none => none
  | _ => none

def sliceX (P : Program) (bk : Nat → Option Blk) (t : TypeId) (x : D) (lo hi : Option D) : Option OX :=
  match x with
  | .rc cs => rcSliceX P t cs lo hi
  | x => plainX (sliceP P bk t x lo hi)

def opSliceX (P : Program) (bk : Nat → Option Blk) (ρ : Operand → D) (t : TypeId) (x : Operand) (lo hi mx : Option Operand) : Option OX :=
  match mx with
  | none => sliceX P bk t (ρ x) (lo.map ρ) (hi.map ρ)
  | some m => plainX (slice3D P t (ρ x) (lo.map ρ) (hi.map ρ) (ρ m))

def opX (P : Program) (bk : Nat → Option Blk) (ρ : Operand → D) (ty : TypeId) : Op → Option OX
  | .binOp op t x y _ => binX P op t x y (ρ x) (ρ y)
  | .indexAddr t x ix => indexAddrX P t (ρ x) (ρ ix)
  | .index t x ix => indexX P t (ρ x) (ρ ix)
  | .slice t x lo hi mx => opSliceX P bk ρ t x lo hi mx
  | op => plainX (opF P bk ρ ty op)

section
variable {P : Program} {bk : Nat → Option Blk} {ρ : Operand → D} {ty : TypeId}

theorem plainX_spec {e : Option Eff} {r : OX} (h : plainX e = some r) : e = some r.1 := by
  cases e with
  | none => cases h
  | some e => simp [plainX] at h; subst h; rfl

theorem intX_spec {op : BinOp} {k k' : IntKind} {p q : Int} {e : Eff} {l : List Prop} (h : intX op k k' p q = some (e, l)) (hl : AllP l) : (intD op k k' p q).map .val = some e := by
  unfold intX at h
  split at h
  · simp only [Option.some.injEq, Prod.mk.injEq] at h; obtain ⟨rfl, rfl⟩ := h
    simp only [AllP, decide_eq_true_eq, and_true] at hl
    simp [intD, hl]
  · simp only [Option.some.injEq, Prod.mk.injEq] at h; obtain ⟨rfl, rfl⟩ := h
    simp only [AllP, decide_eq_true_eq, and_true] at hl
    simp [intD, hl]
  · split at h
    next hk =>
      simp only [Option.some.injEq, Prod.mk.injEq] at h; obtain ⟨rfl, rfl⟩ := h
      simp only [AllP, decide_eq_false_iff_not, and_true] at hl
      simp [intD, hl, hk]
    · cases h
  · split at h
    next hk =>
      simp only [Option.some.injEq, Prod.mk.injEq] at h; obtain ⟨rfl, rfl⟩ := h
      simp only [AllP, decide_eq_false_iff_not, and_true] at hl
      simp [intD, hl, hk]
    · cases h
  · split at h
    next d hd => simp only [Option.some.injEq, Prod.mk.injEq] at h; obtain ⟨rfl, rfl⟩ := h; rw [hd]; rfl
    · cases h

theorem opX_spec {op : Op} {e : Eff} {l : List Prop} (h : opX P bk ρ ty op = some (e, l)) (hl : AllP l) : opD P bk ρ ty op = some e := by
  unfold opX at h
  split at h
  next bop t x y yt =>
    simp only [opD]
    unfold binX at h
    unfold binD
    split at h
    next k p k' q ha hb => rw [ha, hb]; exact intX_spec h hl
    next a b hne =>
      have := plainX_spec h
      split
      next k p k' q ha hb => exact absurd hb (fun hb => hne _ _ _ _ ha hb)
      · exact this
  next t x ix =>
    simp only [opD]
    unfold indexAddrX at h
    unfold indexAddrD
    split at h
    next cs hx =>
      unfold rcAddrX at h
      unfold rcAddrD
      split at h
      next k i elem hi hu =>
        split at h
        · cases h
        next j hj =>
          split at h
          next hs =>
            simp only [Option.some.injEq, Prod.mk.injEq] at h; obtain ⟨rfl, rfl⟩ := h
            simp only [AllP, decide_eq_true_eq, and_true] at hl
            simp only [hx, hu, hi, indexOf, hj, hs, hl.1, hl.2, and_self, if_true]
          · cases h
      · cases h
    next x' hne =>
      have := plainX_spec h
      split
      next cs hx => exact absurd hx (hne cs)
      · exact this
  next t x ix =>
    simp only [opD]
    unfold indexX at h
    split at h
    next s k i hx hi hu =>
      simp only [textX, Option.some.injEq, Prod.mk.injEq] at h; obtain ⟨rfl, rfl⟩ := h
      simp only [AllP, decide_eq_true_eq, and_true] at hl
      have hlt : i.toNat < s.size := by omega
      have hg : s[i.toNat]? = some s[i.toNat] := by rw [getElem?_pos]
      have he : (s.data.toList.map UInt8.toNat).getD i.toNat 0 = (s[i.toNat]).toNat := by
        rw [List.getD_eq_getElem?_getD, List.getElem?_map]
        have : s.data.toList[i.toNat]? = some s[i.toNat] := by
          rw [List.getElem?_eq_getElem (by simpa using hlt)]
          rfl
        rw [this]; rfl
      simp only [indexD, hx, hi, indexOf, hu, hl.1, if_true, hg, he]
    · exact plainX_spec h
  next t x lo hi mx =>
    unfold opSliceX at h
    split at h
    next =>
      simp only [opD]
      unfold sliceX at h
      unfold sliceD
      split at h
      next cs hx =>
        unfold rcSliceX at h
        unfold rcSliceD
        split at h
        next elem hu =>
          split at h
          next j hj =>
            split at h
            next l' h' hlo hhi =>
              split at h
              next hs =>
                simp only [Option.some.injEq, Prod.mk.injEq] at h; obtain ⟨rfl, rfl⟩ := h
                simp only [AllP, decide_eq_true_eq, and_true] at hl
                obtain ⟨h0, h1, h2⟩ := hl
                have b1 : boundD (hi.map ρ) (rowLen cs) (rowLen cs) = some h'.toNat := by
                  cases hi with
                  | none => simp only [Option.map_none, hiX, Option.some.injEq] at hhi; subst hhi; simp [boundD]
                  | some y =>
                    simp only [Option.map_some, hiX] at hhi ⊢
                    split at hhi
                    next he => simp at he
                    next k v he => simp only [Option.some.injEq] at hhi he; subst hhi; rw [he]; simp only [boundD]; rw [if_pos ⟨by omega, h2⟩]
                    · cases hhi
                have b2 : boundD (lo.map ρ) 0 h'.toNat = some l'.toNat := by
                  cases lo with
                  | none => simp only [Option.map_none, loX, Option.some.injEq] at hlo; subst hlo; simp [boundD]
                  | some y =>
                    simp only [Option.map_some, loX] at hlo ⊢
                    split at hlo
                    next he => simp at he
                    next k v he => simp only [Option.some.injEq] at hlo he; subst hlo; rw [he]; simp only [boundD]; rw [if_pos ⟨h0, by omega⟩]
                    · cases hlo
                simp only [hx, hu, hj, b1, b2, hs, if_true]
              · cases h
            · cases h
          · cases h
        · cases h
      next x' hne =>
        have := plainX_spec h
        split
        next cs hx => exact absurd hx (hne cs)
        · exact this
    next m => simp only [opD]; exact plainX_spec h
  · rw [← opF_eq]; exact plainX_spec h
end

end
end Go.Dam
end
