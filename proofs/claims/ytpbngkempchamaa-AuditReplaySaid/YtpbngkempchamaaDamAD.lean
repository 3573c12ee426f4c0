/- The engine, part AD: an abstract machine for the program's functions, proved right against the model. No condition. -/
import Derived.Test.YtpbngkempchamaaDamQB
set_option linter.unusedSectionVars false
set_option linter.unusedVariables false
set_option linter.unusedSimpArgs false
namespace Go.Dam
open Go Go.RowKit
set_option linter.unusedSectionVars false
variable [Glo]
set_option linter.unusedSimpArgs false
set_option linter.unusedVariables false

/-! ### The plan of a region, found by looking -/

/-- The names of blocks that an operation makes. -/
def site (dep : Nat) (dst : Option Tmp) : Nat := (dep * 4096 + dst.getD 0) * 32

def maskAdd (acc : List Nat) : List Edge → Nat → Nat
  | [], s => s
  | e :: es, s => maskAdd acc es (bif Region.binds .any e then Nat.lor (Nat.lor s (2 ^ e.on)) (acc.getD e.on 0) else s)

def masksGo : List Oper → List Nat → List Nat
  | [], acc => acc
  | o :: l, acc => masksGo l (acc ++ [maskAdd acc o.after.toList 0])

def masks (R : Array Oper) : List Nat := masksGo R.toList []

def bit (m i : Nat) : Bool := Nat.testBit m i
def ancB (R : Array Oper) (i k : Nat) : Bool := Nat.testBit ((masks R).getD k 0) i

theorem maskAdd_spec {acc : List Nat} {i : Nat} : ∀ {es : List Edge} {s : Nat}, Nat.testBit (maskAdd acc es s) i = true → Nat.testBit s i = true ∨ ∃ e ∈ es, Region.binds .any e = true ∧ (i = e.on ∨ Nat.testBit (acc.getD e.on 0) i = true)
  | [], s, h => .inl h
  | e :: es, s, h => by
    simp only [maskAdd] at h
    rcases maskAdd_spec h with h | ⟨e', h1, h2, h3⟩
    · cases hb : Region.binds .any e with
      | false => rw [hb] at h; exact .inl h
      | true =>
        rw [hb, cond_true] at h
        have h : Nat.testBit ((s ||| 2 ^ e.on) ||| acc.getD e.on 0) i = true := h
        rw [Nat.testBit_or, Nat.testBit_or, Bool.or_eq_true, Bool.or_eq_true] at h
        rcases h with (h | h) | h
        · exact .inl h
        · rw [Nat.testBit_two_pow] at h
          exact .inr ⟨e, by simp, hb, .inl (by simpa using (of_decide_eq_true h).symm)⟩
        · exact .inr ⟨e, by simp, hb, .inr h⟩
    · exact .inr ⟨e', by simp [h1], h2, h3⟩

theorem masksGo_spec {R : Array Oper} : ∀ (l : List Oper) (acc : List Nat), (∀ j, l[j]? = R[acc.length + j]?) → (∀ k i, Nat.testBit (acc.getD k 0) i = true → Anc R i k) → ∀ k i, Nat.testBit ((masksGo l acc).getD k 0) i = true → Anc R i k
  | [], acc, _, h => h
  | o :: l, acc, hl, h => by
    simp only [masksGo]
    refine masksGo_spec l _ (fun j => by have := hl (j + 1); simpa [Nat.add_assoc, Nat.add_comm 1 j] using this) fun k i hk => ?_
    have ho : R[acc.length]? = some o := by simpa using (hl 0).symm
    rcases Nat.lt_trichotomy k acc.length with hlt | rfl | hgt
    · rw [List.getD_eq_getElem?_getD, List.getElem?_append_left hlt, ← List.getD_eq_getElem?_getD] at hk
      exact h k i hk
    · rw [List.getD_eq_getElem?_getD, List.getElem?_append_right (Nat.le_refl _)] at hk
      simp only [Nat.sub_self, List.getElem?_cons_zero, Option.getD_some] at hk
      rcases maskAdd_spec hk with hk | ⟨e, h1, h2, h3⟩
      · simp at hk
      · rcases h3 with rfl | h3
        · exact .edge ho (by simpa using h1) h2
        · exact .trans ho (by simpa using h1) h2 (h _ _ h3)
    · rw [List.getD_eq_getElem?_getD, List.getElem?_append_right (by omega)] at hk
      have : ([maskAdd acc o.after.toList 0] : List Nat)[k - acc.length]? = none := by
        rw [List.getElem?_eq_none]; simp; omega
      rw [this] at hk
      simp at hk

theorem ancB_spec {R : Array Oper} {i k : Nat} (h : ancB R i k = true) : Anc R i k :=
  masksGo_spec R.toList [] (fun j => by simp) (fun k i h => by simp at h) k i h

/-- Does it make blocks? -/
def maker : Op → Bool
  | .alloc _ | .box _ _ | .buildSlice _ _ _ | .makeSlice _ _ _ | .call ⟨.value _, _, _⟩ | .call ⟨.builtin .append, _, _⟩ => true
  | _ => false

def tB (R : Array Oper) (k : Nat) : Bool := (List.range R.size).all fun j => bif Nat.blt j k then ancB R j k else bif Nat.beq j k then true else ancB R k j

def makesAt (R : Array Oper) (k : Nat) : Bool := match R[k]? with
  | none => false
  | some o => maker o.op && !tB R k

def dstAt (R : Array Oper) (k : Nat) : Nat := match R[k]? with
  | none => 0
  | some o => o.dst.getD 0

def wB (R : Array Oper) (k l : Nat) : Bool := !(Nat.beq l k) && !(ancB R l k)

def kindAt (P : Program) (R : Array Oper) (k : Nat) : Nat := match R[k]? with | some o => kindOf P o.op | none => 0

def sL (P : Program) (R : Array Oper) (k : Nat) : List Nat := bif Nat.beq (kindAt P R k) 0 then [] else (List.range R.size).filter fun j => Nat.blt k j && (!(ancB R k j) && Nat.beq (kindAt P R j) 2)

def uB (P : Program) (R : Array Oper) (j : Nat) : Bool := (List.range R.size).any fun k => (sL P R k).contains j

def planOf (P : Program) (R : Array Oper) (dep : Nat) (tgt : List Nat) : Plan where
  zs := fun k => bif makesAt R k then List.range' ((dep * 4096 + dstAt R k) * 32) 32 else []
  W := wB R
  T := tB R
  S := sL P R
  U := uB P R
  tgt := fun k => tgt.getD k 0

/-! What is looked at once for a region. -/
def lowAt (k : Nat) (o : Oper) : Bool := o.after.toList.all fun e => !(Region.binds .any e) || Nat.blt e.on k

def pairAt (P : Program) (R : Array Oper) (p : Plan) (j : Nat) (oj : Oper) : Nat → List Oper → Bool
  | _, [] => true
  | i, oi :: l => (ancB R i j || pairB P R p i j oi oj) && pairAt P R p j oj (i + 1) l

def pairsB (P : Program) (R : Array Oper) (p : Plan) : Nat → List Oper → Bool
  | _, [] => true
  | j, oj :: l => lowAt j oj && (pairAt P R p j oj 0 (R.toList.take j) && pairsB P R p (j + 1) l)

def disB (R : Array Oper) : Bool := (List.range R.size).all fun i => !(makesAt R i) || (List.range R.size).all fun j => Nat.beq i j || (!(makesAt R j) || !(Nat.beq (dstAt R i) (dstAt R j)))

/-- May the region be taken in the order of the text? -/
def calmB (P : Program) (R : Array Oper) : Bool := pairsB P R (planOf P R 0 []) 0 R.toList && disB R

section
variable {P : Program} {R : Array Oper}

theorem pairAt_spec {p : Plan} {j : Nat} {oj : Oper} : ∀ {l : List Oper} {i : Nat}, pairAt P R p j oj i l = true → ∀ k o, l[k]? = some o → ancB R (i + k) j = true ∨ pairB P R p (i + k) j o oj = true
  | [], _, _, k, o, h => by simp at h
  | oi :: l, i, h, k, o, hk => by
    simp only [pairAt, Bool.and_eq_true, Bool.or_eq_true] at h
    cases k with
    | zero => simp at hk; subst hk; exact h.1
    | succ k =>
      have := pairAt_spec h.2 k o (by simpa using hk)
      rwa [show i + 1 + k = i + (k + 1) by omega] at this

theorem pairsB_spec {p : Plan} : ∀ {l : List Oper} {j : Nat}, pairsB P R p j l = true → ∀ k o, l[k]? = some o → lowAt (j + k) o = true ∧ pairAt P R p (j + k) o 0 (R.toList.take (j + k)) = true
  | [], _, _, k, o, h => by simp at h
  | oj :: l, j, h, k, o, hk => by
    simp only [pairsB, Bool.and_eq_true] at h
    cases k with
    | zero => simp at hk; subst hk; exact ⟨h.1, h.2.1⟩
    | succ k =>
      have := pairsB_spec h.2.2 k o (by simpa using hk)
      rwa [show j + 1 + k = j + (k + 1) by omega] at this

theorem makes_lt {k : Nat} (h : makesAt R k = true) : k < R.size := by
  unfold makesAt at h
  split at h
  · cases h
  next o ho => exact (Array.getElem?_eq_some_iff.1 ho).1

theorem plan_ok (dep : Nat) (tgt : List Nat) (h : calmB P R = true) : PlanOK P R (planOf P R dep tgt) := by
  simp only [calmB, Bool.and_eq_true] at h
  obtain ⟨hp, hd⟩ := h
  refine ⟨?_, ?_, ?_, ?_⟩
  · intro k o hk e he hb
    have := (pairsB_spec hp k o (by simpa using hk)).1
    simp only [lowAt, Nat.zero_add, List.all_eq_true] at this
    have := this e (by simpa using he)
    simpa [hb, Nat.blt_eq] using this
  · intro i j oi oj hij hi hj
    have := (pairsB_spec hp j oj (by simpa using hj)).2
    simp only [Nat.zero_add] at this
    have h2 := pairAt_spec this i oi (by rw [List.getElem?_take_of_lt hij]; simpa using hi)
    simp only [Nat.zero_add] at h2
    rcases h2 with h2 | h2
    · exact .inl (ancB_spec h2)
    · right
      simp only [planOf, pairB] at h2 ⊢
      exact h2
  · intro i j hij id hi hj
    simp only [planOf] at hi hj
    cases mi : makesAt R i with
    | false => rw [mi, cond_false] at hi; cases hi
    | true =>
      cases mj : makesAt R j with
      | false => rw [mj, cond_false] at hj; cases hj
      | true =>
        rw [mi, cond_true, List.mem_range'_1] at hi; rw [mj, cond_true, List.mem_range'_1] at hj
        simp only [disB, List.all_eq_true, List.mem_range, Bool.or_eq_true, Bool.not_eq_true'] at hd
        have h1 := hd i (makes_lt mi)
        rw [mi] at h1
        rcases h1 with h1 | h1
        · cases h1
        · have h2 := h1 j (makes_lt mj)
          rw [mj] at h2
          rcases h2 with h2 | h2 | h2
          · exact hij (Nat.eq_of_beq_eq_true h2)
          · cases h2
          · have : dstAt R i ≠ dstAt R j := fun e => by rw [e, Nat.beq_refl] at h2; cases h2
            omega
  · intro k l hne hna
    simp only [planOf, wB, Bool.and_eq_true, Bool.not_eq_true']
    refine ⟨Bool.eq_false_iff.2 fun e => hne (Nat.eq_of_beq_eq_true e), Bool.eq_false_iff.2 fun e => hna (ancB_spec e)⟩

end
end Go.Dam
