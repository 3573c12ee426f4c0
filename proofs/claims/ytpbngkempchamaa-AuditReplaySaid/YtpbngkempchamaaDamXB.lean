/- The engine, part XB: an abstract machine for the program's functions, proved right against the model. No condition. -/
import Derived.Test.YtpbngkempchamaaDamXA
set_option linter.unusedSectionVars false
set_option linter.unusedVariables false
set_option linter.unusedSimpArgs false
namespace Go.Dam
open Go Go.RowKit
set_option linter.unusedSectionVars false
variable [Glo]
set_option linter.unusedSimpArgs false
set_option linter.unusedVariables false
noncomputable section

/-! ### Operations on numbers that are terms: what has to hold is told, not decided -/

def opLen (P : Program) (ρ : Operand → D) (args : List Operand) (ts : List TypeId) : Option Eff :=
  match args, ts with
  | [x], [t] => lenD P t (ρ x)
  | _, _ => none

def opAppend (P : Program) (bk : Nat → Option Blk) (ρ : Operand → D) (args : List Operand) (ts : Array TypeId) : Option Eff :=
  match args with
  | [s, x] => appendD P bk ts (ρ s) (ρ x)
  | _ => none

def opCopy (P : Program) (bk : Nat → Option Blk) (ρ : Operand → D) (args : List Operand) (ts : Array TypeId) : Option Eff :=
  match args with
  | [d, x] => copyD P bk ts (ρ d) (ρ x)
  | _ => none

def opClear (P : Program) (ρ : Operand → D) (args : List Operand) (ts : Array TypeId) : Option Eff :=
  match args with
  | [d] => clearD P ts (ρ d)
  | _ => none

def opBuiltin (P : Program) (bk : Nat → Option Blk) (ρ : Operand → D) (ty : TypeId) (args : Array Operand) (ts : Array TypeId) : Builtin → Option Eff
  | .len => opLen P ρ args.toList ts.toList
  | .append => opAppend P bk ρ args.toList ts
  | .copy => opCopy P bk ρ args.toList ts
  | .clear => opClear P ρ args.toList ts
  | .max => opMost .gtr (fun vs => pureD P (Builtin.max_ ts ty vs.toArray)) (args.toList.map ρ)
  | .min => opMost .lss (fun vs => pureD P (Builtin.min_ ts ty vs.toArray)) (args.toList.map ρ)
  | _ => none

def opCall (P : Program) (bk : Nat → Option Blk) (ρ : Operand → D) (ty : TypeId) (c : Call) : Option Eff :=
  match c.callee with
  | .builtin b => opBuiltin P bk ρ ty c.args c.argTypes b
  | _ => none

def opFunc (ρ : Operand → D) (f : Fn) (first captured : Array Operand) : Option Eff :=
  match f with
  | .func f => if first.size = 0 then some (.val (.fn f (captured.toList.map ρ))) else none
  | _ => none

def opSlice (P : Program) (bk : Nat → Option Blk) (ρ : Operand → D) (t : TypeId) (x : Operand) (lo hi mx : Option Operand) : Option Eff :=
  match mx with
  | none => sliceD P bk t (ρ x) (lo.map ρ) (hi.map ρ)
  | some m => slice3D P t (ρ x) (lo.map ρ) (hi.map ρ) (ρ m)

def valOf (d : D) : Option Eff := some (.val d)
def boxOf (d : D) : Option Eff := d.cells.map .box
def buildF (P : Program) (ρ : Operand → D) (t : TypeId) (parts : Array (Nat × Operand)) : Option Eff := buildD P t (parts.toList.map fun p => (p.1, ρ p.2))
def buildSliceF (P : Program) (ρ : Operand → D) (t : TypeId) (len : Nat) (parts : Array (Nat × Operand)) : Option Eff := buildSliceD P t len (parts.toList.map fun p => (p.1, ρ p.2))

def opF (P : Program) (bk : Nat → Option Blk) (ρ : Operand → D) (ty : TypeId) : Op → Option Eff
  | .move x => valOf (ρ x)
  | .assign x => valOf (ρ x)
  | .pick c a b => opPick (ρ c) (ρ a) (ρ b)
  | .alloc t => (zeroD P t).map .box
  | .box _ x => boxOf (ρ x)
  | .build t parts => buildF P ρ t parts
  | .buildSlice t len parts => buildSliceF P ρ t len parts
  | .load t a => loadD P bk t (ρ a)
  | .store t a x => storeD P t (ρ a) (ρ x)
  | .nilCheck x => opNil (ρ x)
  | .binOp op t x y _ => binD P op t x y (ρ x) (ρ y)
  | .unOp op _ x => opUn P op (ρ x)
  | .convert src dst x => opConv P src dst (ρ x)
  | .makeFunc f first captured => opFunc ρ f first captured
  | .makeSlice t l c => makeSliceD P t (ρ l) (ρ c)
  | .slice t x lo hi mx => opSlice P bk ρ t x lo hi mx
  | .fieldAddr t x f => fieldAddrD P t (ρ x) f
  | .field t x f => fieldD P t (ρ x) f
  | .indexAddr t x ix => indexAddrD P t (ρ x) (ρ ix)
  | .index t x ix => indexD P t (ρ x) (ρ ix)
  | .extract x i => extractD (ρ x) i
  | .call c => opCall P bk ρ ty c
  | _ => none

theorem opF_eq (P : Program) (bk : Nat → Option Blk) (ρ : Operand → D) (ty : TypeId) (op : Op) : opF P bk ρ ty op = opD P bk ρ ty op := by
  cases op with
  | makeFunc f a b => cases f <;> rfl
  | slice t x lo hi mx => cases mx <;> rfl
  | call c =>
    obtain ⟨callee, args, ts⟩ := c
    obtain ⟨args⟩ := args
    cases callee with
    | value g => rfl
    | invoke r m => rfl
    | builtin b =>
      cases b <;> first | rfl | skip
      all_goals (obtain ⟨ts⟩ := ts; rcases args with _ | ⟨x, _ | ⟨y, _ | ⟨z, l⟩⟩⟩ <;> rcases ts with _ | ⟨t, _ | ⟨u, m⟩⟩ <;> rfl)
  | _ => rfl

abbrev OX := Eff × List Prop
def plainX (e : Option Eff) : Option OX :=
  match e with
  | some e => some (e, [])
  | none => none

def intX (op : BinOp) (k k' : IntKind) (p q : Int) : Option OX :=
  match op with
  | .shl => some (.val (.v (.int k (opI .shl k p q))), [decide (0 ≤ q) = true])
  | .shr => some (.val (.v (.int k (opI .shr k p q))), [decide (0 ≤ q) = true])
  | .quo => if k = k' then some (.val (.v (.int k (opI .quo k p q))), [decide (q = 0) = false]) else none
  | .rem => if k = k' then some (.val (.v (.int k (opI .rem k p q))), [decide (q = 0) = false]) else none
  | op => match intD op k k' p q with
    | some d => some (.val d, [])
    | none => none

def binX (P : Program) (op : BinOp) (t : TypeId) (x y : Operand) (a b : D) : Option OX :=
  match a, b with
  | .v (.int k p), .v (.int k' q) => intX op k k' p q
  | a, b => plainX (binFall P op t x y a b)

def rcAddrX (P : Program) (t : TypeId) (cs : List Col) (ix : D) : Option OX :=
  match ix, P.underlying t with
  | .v (.int _ i), some (.slice elem) => match P.info? elem with
    | none => none
    | some j => if j.size = cs.length then some (.val (.shp (cs.map (Col.cell i.toNat)) 0), [decide (0 ≤ i) = true, decide (i < (rowLen cs : Int)) = true]) else none
  | _, _ => none

def indexAddrX (P : Program) (t : TypeId) (x ix : D) : Option OX :=
  match x with
  | .rc cs => rcAddrX P t cs ix
  | x => plainX (indexAddrP P t x ix)

/-- A byte of a text, by a number that is a term. -/
def textX (s : ByteArray) (i : Int) : OX := (.val (.v (.int .u8 (((s.data.toList.map UInt8.toNat).getD i.toNat 0 : Nat) : Int))), [decide (0 ≤ i) = true, decide (i < (s.size : Int)) = true])

def indexX (P : Program) (t : TypeId) (x ix : D) : Option OX :=
  match x, ix, P.underlying t with
  | .v (.string s), .v (.int _ i), some .string => some (textX s i)
  | x, ix, _ => plainX (indexD P t x ix)

def loX : Option D → Option Int
  | none => some 0
  | some (.v (.int _ l)) => some l
  | some _ => none
def hiX (n : Nat) : Option D → Option Int
  | none => some n
  | some (.v (.int _ h)) => some h
  | some _ => none

def rcSliceX (P : Program) (t : TypeId) (cs : List Col) (lo hi : Option D) : Option OX :=
  match P.underlying t with
  | some (.slice elem) => match P.info? elem with
    | some j => match loX lo, hiX (rowLen cs) hi with
      | some l, some h => if j.size = cs.length then some (.val (.rc (cs.map (Col.part l.toNat (h.toNat - l.toNat)))), [decide (0 ≤ l) = true, decide (l ≤ h) = true, decide (h ≤ (rowLen cs : Int)) = true]) else none
      | _, _ => none
    | none => none
  | _ => none

def sliceX (P : Program) (bk : Nat → Option Blk) (t : TypeId) (x : D) (lo hi : Option D) : Option OX :=
  match x with
  | .rc cs => rcSliceX P t cs lo hi
  | x => plainX (sliceP P bk t x lo hi)

def opSliceX (P : Program) (bk : Nat → Option Blk) (ρ : Operand → D) (t : TypeId) (x : Operand) (lo hi mx : Option Operand) : Option OX :=
  match mx with
  | none => sliceX P bk t (ρ x) (lo.map ρ) (hi.map ρ)
  | some m => plainX (slice3D P t (ρ x) (lo.map ρ) (hi.map ρ) (ρ m))

def opX (P : Program) (bk : Nat → Option Blk) (ρ : Operand → D) (ty : TypeId) : Op → Option OX
  | .binOp op t x y _ => binX P op t x y (ρ x) (ρ y)
  | .indexAddr t x ix => indexAddrX P t (ρ x) (ρ ix)
  | .index t x ix => indexX P t (ρ x) (ρ ix)
  | .slice t x lo hi mx => opSliceX P bk ρ t x lo hi mx
  | op => plainX (opF P bk ρ ty op)

section
variable {P : Program} {bk : Nat → Option Blk} {ρ : Operand → D} {ty : TypeId}

theorem plainX_spec {e : Option Eff} {r : OX} (h : plainX e = some r) : e = some r.1 := by
  cases e with
  | none => cases h
  | some e => simp [plainX] at h; subst h; rfl

theorem intX_spec {op : BinOp} {k k' : IntKind} {p q : Int} {e : Eff} {l : List Prop} (h : intX op k k' p q = some (e, l)) (hl : AllP l) : (intD op k k' p q).map .val = some e := by
  unfold intX at h
  split at h
  · simp only [Option.some.injEq, Prod.mk.injEq] at h; obtain ⟨rfl, rfl⟩ := h
    simp only [AllP, decide_eq_true_eq, and_true] at hl
    simp [intD, hl]
  · simp only [Option.some.injEq, Prod.mk.injEq] at h; obtain ⟨rfl, rfl⟩ := h
    simp only [AllP, decide_eq_true_eq, and_true] at hl
    simp [intD, hl]
  · split at h
    next hk =>
      simp only [Option.some.injEq, Prod.mk.injEq] at h; obtain ⟨rfl, rfl⟩ := h
      simp only [AllP, decide_eq_false_iff_not, and_true] at hl
      simp [intD, hl, hk]
    · cases h
  · split at h
    next hk =>
      simp only [Option.some.injEq, Prod.mk.injEq] at h; obtain ⟨rfl, rfl⟩ := h
      simp only [AllP, decide_eq_false_iff_not, and_true] at hl
      simp [intD, hl, hk]
    · cases h
  · split at h
    next d hd => simp only [Option.some.injEq, Prod.mk.injEq] at h; obtain ⟨rfl, rfl⟩ := h; rw [hd]; rfl
    · cases h

theorem opX_spec {op : Op} {e : Eff} {l : List Prop} (h : opX P bk ρ ty op = some (e, l)) (hl : AllP l) : opD P bk ρ ty op = some e := by
  unfold opX at h
  split at h
  next bop t x y yt =>
    simp only [opD]
    unfold binX at h
    unfold binD
    split at h
    next k p k' q ha hb => rw [ha, hb]; exact intX_spec h hl
    next a b hne =>
      have := plainX_spec h
      split
      next k p k' q ha hb => exact absurd hb (fun hb => hne _ _ _ _ ha hb)
      · exact this
  next t x ix =>
    simp only [opD]
    unfold indexAddrX at h
    unfold indexAddrD
    split at h
    next cs hx =>
      unfold rcAddrX at h
      unfold rcAddrD
      split at h
      next k i elem hi hu =>
        split at h
        · cases h
        next j hj =>
          split at h
          next hs =>
            simp only [Option.some.injEq, Prod.mk.injEq] at h; obtain ⟨rfl, rfl⟩ := h
            simp only [AllP, decide_eq_true_eq, and_true] at hl
            simp only [hx, hu, hi, indexOf, hj, hs, hl.1, hl.2, and_self, if_true]
          · cases h
      · cases h
    next x' hne =>
      have := plainX_spec h
      split
      next cs hx => exact absurd hx (hne cs)
      · exact this
  next t x ix =>
    simp only [opD]
    unfold indexX at h
    split at h
    next s k i hx hi hu =>
      simp only [textX, Option.some.injEq, Prod.mk.injEq] at h; obtain ⟨rfl, rfl⟩ := h
      simp only [AllP, decide_eq_true_eq, and_true] at hl
      have hlt : i.toNat < s.size := by omega
      have hg : s[i.toNat]? = some s[i.toNat] := by rw [getElem?_pos]
      have he : (s.data.toList.map UInt8.toNat).getD i.toNat 0 = (s[i.toNat]).toNat := by
        rw [List.getD_eq_getElem?_getD, List.getElem?_map]
        have : s.data.toList[i.toNat]? = some s[i.toNat] := by
          rw [List.getElem?_eq_getElem (by simpa using hlt)]
          rfl
        rw [this]; rfl
      simp only [indexD, hx, hi, indexOf, hu, hl.1, if_true, hg, he]
    · exact plainX_spec h
  next t x lo hi mx =>
    unfold opSliceX at h
    split at h
    next =>
      simp only [opD]
      unfold sliceX at h
      unfold sliceD
      split at h
      next cs hx =>
        unfold rcSliceX at h
        unfold rcSliceD
        split at h
        next elem hu =>
          split at h
          next j hj =>
            split at h
            next l' h' hlo hhi =>
              split at h
              next hs =>
                simp only [Option.some.injEq, Prod.mk.injEq] at h; obtain ⟨rfl, rfl⟩ := h
                simp only [AllP, decide_eq_true_eq, and_true] at hl
                obtain ⟨h0, h1, h2⟩ := hl
                have b1 : boundD (hi.map ρ) (rowLen cs) (rowLen cs) = some h'.toNat := by
                  cases hi with
                  | none => simp only [Option.map_none, hiX, Option.some.injEq] at hhi; subst hhi; simp [boundD]
                  | some y =>
                    simp only [Option.map_some, hiX] at hhi ⊢
                    split at hhi
                    next he => simp at he
                    next k v he => simp only [Option.some.injEq] at hhi he; subst hhi; rw [he]; simp only [boundD]; rw [if_pos ⟨by omega, h2⟩]
                    · cases hhi
                have b2 : boundD (lo.map ρ) 0 h'.toNat = some l'.toNat := by
                  cases lo with
                  | none => simp only [Option.map_none, loX, Option.some.injEq] at hlo; subst hlo; simp [boundD]
                  | some y =>
                    simp only [Option.map_some, loX] at hlo ⊢
                    split at hlo
                    next he => simp at he
                    next k v he => simp only [Option.some.injEq] at hlo he; subst hlo; rw [he]; simp only [boundD]; rw [if_pos ⟨h0, by omega⟩]
                    · cases hlo
                simp only [hx, hu, hj, b1, b2, hs, if_true]
              · cases h
            · cases h
          · cases h
        · cases h
      next x' hne =>
        have := plainX_spec h
        split
        next cs hx => exact absurd hx (hne cs)
        · exact this
    next m => simp only [opD]; exact plainX_spec h
  · rw [← opF_eq]; exact plainX_spec h
end

end
end Go.Dam
