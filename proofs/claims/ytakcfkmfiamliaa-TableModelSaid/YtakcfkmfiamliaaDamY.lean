/- The engine: an abstract machine for the program's functions, proved right against the model. No condition. -/
import Derived.Test.YtakcfkmfiamliaaDamQ
import Derived.Still
set_option linter.unusedSectionVars false
set_option linter.unusedVariables false
set_option linter.unusedSimpArgs false
section
namespace Go.Dam
open Go Go.RowKit
variable [Glo]
section
variable {w : World} {A : Nat → Prop} {β : Env} {base : Nat} {σ : St} {tmps : Array Value} {acts : List (Array Value)}
def St.retm (σ : St) (t : Nat) (d : D) : St := { σ with fr := { nt := σ.fr.nt, tm := fun k => if k = t then (if t < σ.fr.nt then d else .undef) else σ.fr.tm k } }
theorem Rel.retm (h : Rel w A β base σ tmps acts) (t : Nat) (d : D) (hd : t < σ.fr.nt → Rep w A β d (tmps.getD t Go.undef)) : Rel w A β base (σ.retm t d) tmps acts :=
 ⟨⟨h.fr.nt, fun k => by
   show Rep w A β (if k = t then (if t < σ.fr.nt then d else .undef) else σ.fr.tm k) _
   by_cases e : k = t
   ·subst e
    rw [if_pos rfl]
    by_cases hl : k < σ.fr.nt
    ·rw [if_pos hl]; exact hd hl
    ·rw [if_neg hl]; simp [Rep, RepS]
   ·rw [if_neg e]; exact h.fr.tm k⟩, h.stk, h.blk, h.inj, h.low, h.top, h.glo, h.lp⟩
/-- A new block of nothing. -/
theorem Rel.empty' (h : Rel w A β base σ tmps acts) (i : Nat) : ∃ β' : Env, β' i = none ∧ Rel w A β' base ((σ.forget i).setB i ⟨[], false⟩) tmps acts ∧ ∀ k, k ≠ i → β' k = β k := by
 have h1 := h.forget i
 have key : ∀ (d : D) (id : Nat), (d.forget i).has id = true → (fun k => if k = i then none else β k : Env) id = β id := fun d id hd => by
  have := (D.has_forget_of hd).2
  simp [this]
 refine ⟨fun k => if k = i then none else β k, by simp, ?_, fun k hk => by simp [hk]⟩
 have h2 : Rel w A (fun k => if k = i then none else β k) base (σ.forget i) tmps acts := by
  refine h1.carry (.refl _ _) (fun _ h => h) h1.low h1.top ?_ ?_ ?_ ?_
  ·intro t id hid
   exact key (σ.fr.tm t) id hid
  ·intro f hf t id hid
   simp only [St.forget, List.mem_map] at hf
   obtain ⟨f0, _, rfl⟩ := hf
   exact key (f0.tm t) id hid
  ·intro k b hk
   simp only [St.forget] at hk
   split at hk
   ·cases hk
   next e =>
    rw [Option.map_eq_some_iff] at hk
    obtain ⟨b0, _, rfl⟩ := hk
    refine ⟨by simp [e], fun id hid => ?_, fun ad _ => ⟨rfl, fun h => h⟩⟩
    have := (D.hasL_forget_of (cs := b0.cells) hid).2
    simp [this]
  ·show LoopRep w A _ base (if i = yldId then none else σ.loop) acts
   by_cases e : i = yldId
   ·rw [if_pos e]; trivial
   ·rw [if_neg e]
    exact h.lp.mono (.refl w) (.refl A w) (fun _ => by simp [Ne.symm e])
 refine ⟨h2.fr, h2.stk, fun k b' hk => ?_, fun x y a c hx hy ha hc hac => ?_, h2.low, h2.top, h2.glo, h2.lp⟩
 ·simp only [St.setB] at hk
  split at hk
  next e => simp at hk; subst hk; exact .inl ⟨by simp [e], rfl⟩
  next e => exact h2.blk k b' hk
 ·by_cases ex : x = i
  ·simp [ex] at ha
  by_cases ey : y = i
  ·simp [ey] at hc
  exact h2.inj x y a c (by simpa only [St.setB, if_neg ex] using hx) (by simpa only [St.setB, if_neg ey] using hy) ha hc hac
theorem Rel.empty (h : Rel w A β base σ tmps acts) (i : Nat) : ∃ β' : Env, β' i = none ∧ Rel w A β' base ((σ.forget i).setB i ⟨[], false⟩) tmps acts := by
 obtain ⟨β', h1, h2, _⟩ := h.empty' i
 exact ⟨β', h1, h2⟩
end
theorem put_retm_again (σ : St) (t i : Nat) (s d : D) (b : Blk) : ((((σ.put (some t) s).forget i).setB i b).retm t d) = (((σ.forget i).setB i b).put (some t) d) := by
 simp only [St.put, St.forget, St.setB, St.retm]
 congr 1
 simp only [Fr.forget, Fr.put]
 congr 1
 funext k
 by_cases e : k = t
 ·rw [if_pos e, if_pos e]
  rfl
 ·rw [if_neg e, if_neg e, if_neg e]
/-- What is empty, as a slice of a block of nothing. -/
theorem weaker_none {σ : St} {t i : Nat} {x : D} {s : Nat} (hx : x = .emp ∨ x = .v (.slice none 0 0)) : Weaker (σ.put (some t) x) (((σ.forget i).setB i ⟨[], false⟩).put (some t) (.sl i 0 0 ⟨s, 0⟩)) := by
 intro w A β base tmps acts h
 obtain ⟨β', hb', h1⟩ := h.empty i
 refine ⟨β', ?_⟩
 rw [← put_retm_again σ t i x _ ⟨[], false⟩]
 refine h1.retm t _ fun hl => ?_
 have hl : t < σ.fr.nt := hl
 have hu := h.fr.tm t
 have e : ((σ.put (some t) x).fr.tm t) = x := by
  show (if t = t then (if t < σ.fr.nt then x else .undef) else σ.fr.tm t) = _
  rw [if_pos rfl, if_pos hl]
 rw [e] at hu
 simp only [Rep]
 rcases hx with rfl | rfl
 ·simp only [Rep, RepS] at hu
  obtain ⟨ad, hu⟩ := hu
  exact ⟨some ad, 0, hu, .inl ⟨by simp, rfl⟩⟩
 ·simp only [Rep, RepS] at hu
  exact ⟨none, 0, hu, .inl ⟨by simp, rfl⟩⟩
theorem weaker_emp {σ : St} {dst : Option Tmp} {i s : Nat} : Weaker (σ.put dst .emp) (((σ.forget i).setB i ⟨[], false⟩).put dst (.sl i 0 0 ⟨s, 0⟩)) := by
 cases dst with
 | none =>
  intro w A β base tmps acts h
  obtain ⟨β', _, h1⟩ := Rel.empty h i
  exact ⟨β', h1⟩
 | some t => exact weaker_none (.inl rfl)
/-- A block known up to a place alone. -/
theorem Rel.cut {w : World} {A : Nat → Prop} {β : Env} {base : Nat} {σ : St} {tmps : Array Value} {acts : List (Array Value)} (h : Rel w A β base σ tmps acts) {z : Nat} {b : Blk} (hb : σ.bk z = some b) (k : Nat) : Rel w A β base (σ.setB z ⟨b.cells.take k, b.ro⟩) tmps acts := by
 refine ⟨h.fr, h.stk, fun k b' hk => ?_, fun x y a c hx hy ha hc hac => ?_, h.low, h.top, h.glo, h.lp⟩
 ·simp only [St.setB] at hk
  split at hk
  next e =>
   simp at hk; subst hk; subst e
   rcases h.blk _ b hb with ⟨k1, k2⟩ | ⟨ad, k1, k2⟩
   ·exact .inl ⟨k1, by simp [k2]⟩
   ·exact .inr ⟨ad, k1, ⟨k2.spot, k2.base, k2.obj, k2.cells.take k2.spot _, k2.own, k2.shared, k2.inside⟩⟩
  next e => exact h.blk _ b' hk
 ·refine h.inj x y a c ?_ ?_ ha hc hac
  ·by_cases e : x = z
   ·subst e; simp [hb]
   ·simpa only [St.setB, if_neg e] using hx
  ·by_cases e : y = z
   ·subst e; simp [hb]
   ·simpa only [St.setB, if_neg e] using hy
/-- Nothing appended: the slice itself, its block under another name. -/
theorem weaker_rename {σ : St} {dst : Option Tmp} {i z n s k : Nat} {sz : Sz} {cells : List D} (hb : σ.bk i = some ⟨cells, false⟩) (hz : Unused z σ) (hs : sz.s = s) :
  Weaker (σ.put dst (.sl i 0 n sz)) (((σ.dropB i).setB z ⟨cells.take k, false⟩).put dst (.sl z 0 n ⟨s, 0⟩)) := by
 have hiz : i ≠ z := fun e => by rw [e, hz.no] at hb; cases hb
 intro w A β base tmps acts h
 refine ⟨β.set z (β i), ?_⟩
 have hzp : Unused z (σ.put dst (.sl i 0 n sz)) := by
  cases dst with
  | none => exact hz
  | some t =>
   refine ⟨fun t' => ?_, hz.stk, hz.no, hz.bk, hz.lp⟩
   show (if t' = t then (if t < σ.fr.nt then D.sl i 0 n sz else .undef) else σ.fr.tm t').has z = false
   split
   ·split
    ·simp only [D.has]; simpa using hiz
    ·rfl
   ·exact hz.fr t'
 have hbp : (σ.put dst (.sl i 0 n sz)).bk i = some ⟨cells, false⟩ := by cases dst <;> exact hb
 have h1 := h.rename hbp hzp
 have h2 := h1.cut (z := z) (b := ⟨cells, false⟩) (by simp [St.setB]) k
 have hbz : (β.set z (β i)) z = β i := Env.set_same _ _ _
 cases dst with
 | none =>
  have e : (((σ.put none (.sl i 0 n sz)).dropB i).setB z ⟨cells, false⟩).setB z ⟨cells.take k, false⟩ = ((σ.dropB i).setB z ⟨cells.take k, false⟩).put none (.sl z 0 n ⟨s, 0⟩) := by
   simp only [St.put, St.setB, St.dropB]
   congr 1
   funext j
   by_cases e : j = z <;> simp [e]
  rw [← e]; exact h2
 | some t =>
  have e : ((((σ.put (some t) (.sl i 0 n sz)).dropB i).setB z ⟨cells, false⟩).setB z ⟨cells.take k, false⟩).retm t (.sl z 0 n ⟨s, 0⟩) = ((σ.dropB i).setB z ⟨cells.take k, false⟩).put (some t) (.sl z 0 n ⟨s, 0⟩) := by
   simp only [St.put, St.setB, St.dropB, St.retm, Fr.put]
   congr 1
   ·congr 1
    funext j
    by_cases e : j = t
    ·rw [if_pos e, if_pos e]; rfl
    ·rw [if_neg e, if_neg e, if_neg e]
   ·funext j
    by_cases e : j = z <;> simp [e]
  rw [← e]
  refine h2.retm t _ fun hl => ?_
  have hl : t < σ.fr.nt := hl
  have hu := h.fr.tm t
  have e3 : ((σ.put (some t) (.sl i 0 n sz)).fr.tm t) = .sl i 0 n sz := by
   show (if t = t then (if t < σ.fr.nt then D.sl i 0 n sz else .undef) else σ.fr.tm t) = _
   rw [if_pos rfl, if_pos hl]
  rw [e3] at hu
  simp only [Rep] at hu ⊢
  obtain ⟨o, c, hu, hc⟩ := hu
  refine ⟨o, c, hu, ?_⟩
  subst hs
  rw [hbz]
  rcases hc with ⟨h2, h3⟩ | ⟨h2, ad, h3, h4, h5⟩
  ·exact .inl ⟨by omega, h3⟩
  ·exact .inr ⟨by show max n 0 ≤ c; omega, ad, h3, h4, h5⟩
end Go.Dam
end

section
namespace Go.Dam
open Go Go.RowKit
variable [Glo]
/-! ### A region that draws its order -/
theorem unused_forget (id : Nat) (σ : St) : Unused id (σ.forget id) where
 fr := fun t => D.has_forget id _
 stk := fun f hf t => by
  simp only [St.forget, List.mem_map] at hf
  obtain ⟨g, _, rfl⟩ := hf
  exact D.has_forget id _
 no := by simp [St.forget]
 lp := fun e => by simp [St.forget, e]
 bk := fun i b hb => by
  simp only [St.forget] at hb
  split at hb
  ·cases hb
  ·simp only [Option.map_eq_some_iff] at hb
   obtain ⟨b0, _, rfl⟩ := hb
   simp only [Blk.forget]
   rw [Bool.eq_false_iff]
   intro h
   exact (D.hasL_forget_of h).2 rfl
theorem has_forget_false {id j : Nat} {d : D} (h : d.has id = false) : (d.forget j).has id = false := by
 rw [Bool.eq_false_iff]; intro e; rw [(D.has_forget_of e).1] at h; cases h
theorem Unused.forget {id : Nat} {σ : St} (h : Unused id σ) (j : Nat) : Unused id (σ.forget j) where
 fr := fun t => has_forget_false (h.fr t)
 stk := fun f hf t => by
  simp only [St.forget, List.mem_map] at hf
  obtain ⟨g, hg, rfl⟩ := hf
  exact has_forget_false (h.stk g hg t)
 no := by simp only [St.forget]; split; rfl; rw [h.no]; rfl
 lp := fun e => by simp only [St.forget]; split; rfl; exact h.lp e
 bk := fun i b hb => by
  simp only [St.forget] at hb
  split at hb
  ·cases hb
  ·simp only [Option.map_eq_some_iff] at hb
   obtain ⟨b0, hb0, rfl⟩ := hb
   simp only [Blk.forget]
   rw [Bool.eq_false_iff]
   intro e
   have := h.bk i b0 hb0
   rw [(D.hasL_forget_of e).1] at this
   cases this
/-- A step of a region: a value; new blocks; blocks that are read-only from here on. -/
structure QR where
 d : D
 new : List (Nat × List D)
 ro : List Nat
 told : List Nat
 gone : Option Nat
def newB (i : Nat) : List (Nat × List D) → Option Blk
 | [] => none
 | (j, cs) :: l => if j = i then some ⟨cs, false⟩ else newB i l
def qbk (bk : Nat → Option Blk) (r : QR) : Nat → Option Blk := fun i =>
 match newB i r.new with
 | some b => some b
 | none => if r.gone = some i then none else if i ∈ r.ro then (bk i).map fun b => { b with ro := true } else bk i
def St.q (σ : St) (dst : Option Tmp) (r : QR) : St := St.put { σ with bk := qbk σ.bk r } dst r.d
/-- The kinds of operations: 0: neither reads nor writes memory; 1: reads, or makes memory, or calls; 2: stores; 3: all else. -/
def kindOf (P : Program) : Op → Nat
 | .move _ | .assign _ | .pick _ _ _ | .build _ _ | .nilCheck _ | .binOp _ _ _ _ _ | .unOp _ _ _ | .convert _ _ _ | .makeFunc _ _ _ | .fieldAddr _ _ _ | .field _ _ _ | .indexAddr _ _ _ | .index _ _ _ | .extract _ _ => 0
 | .slice _ _ _ _ (some _) => 0
 | .call ⟨.builtin .len, _, _⟩ | .call ⟨.builtin .max, _, _⟩ | .call ⟨.builtin .min, _, _⟩ => 0
 | .load _ _ | .alloc _ | .box _ _ | .buildSlice _ _ _ | .makeSlice _ _ _ | .slice _ _ _ _ none | .call ⟨.value _, _, _⟩ | .call ⟨.builtin .append, _, _⟩ => 1
 | .store _ _ _ => 2
 | .call ⟨.builtin .copy, _, _⟩ => 4
 | _ => 3
/-- A step that turns nothing that is there. -/
inductive QOp (P : Program) (F : FuncId → List D → D → Prop) (o : Oper) (ρ : Operand → D) (bk : Nat → Option Blk) : QR → Prop
 | val {d : D} : kindOf P o.op ≤ 1 → opD P bk ρ o.type o.op = some (.val d) → QOp P F o ρ bk ⟨d, [], [], [], none⟩
 | box {cs : List D} {id : Nat} : kindOf P o.op ≤ 1 → opD P bk ρ o.type o.op = some (.box cs) → QOp P F o ρ bk ⟨.ptr id 0, [(id, cs)], [], [], none⟩
 | row {cs : List D} {n sz id : Nat} : kindOf P o.op ≤ 1 → opD P bk ρ o.type o.op = some (.row cs n sz) → QOp P F o ρ bk ⟨.sl id 0 n ⟨sz, 0⟩, [(id, cs)], [], [], none⟩
 | app0 {s : D} {sz m id : Nat} {ds : List D} : kindOf P o.op ≤ 1 → opD P bk ρ o.type o.op = some (.app s sz m ds) → (s = .emp ∨ ∃ u, s = .v u) → QOp P F o ρ bk ⟨.sl id 0 m ⟨sz, 0⟩, [(id, ds)], [], [], none⟩
 | appE {sz m id : Nat} {ds : List D} : kindOf P o.op = 1 → opD P bk ρ o.type o.op = some (appOf .emp sz m ds) → (m = 0 → ds = []) → QOp P F o ρ bk ⟨.sl id 0 m ⟨sz, 0⟩, [(id, ds)], [], [], none⟩
 | row0 : kindOf P o.op ≤ 1 → opD P bk ρ o.type o.op = some .row0 → QOp P F o ρ bk ⟨.emp, [], [], [], none⟩
 | ext {fo : Operand} {args : Array Operand} {f : FuncId} {vs : List Value} {u : Value} : callParts o.op = some (fo, args) → ρ fo = .fn f [] → D.plains (args.toList.map ρ) = some vs →
   pureRun P (callFunc f vs.toArray) = some (.value u) → QOp P F o ρ bk ⟨D.ofV u, [], [], [], none⟩
 | call {fo : Operand} {args : Array Operand} {f : FuncId} {caps as : List D} {passed : List Nat} {res : D} {id : Nat} : callParts o.op = some (fo, args) → ρ fo = .fn f caps → (bodyOf P f).isSome = true →
   shareAll (share bk depth) (args.toList.map ρ ++ caps) = some (as, passed) → F f as res →
   QOp P F o ρ bk ⟨(thaw id res).1, (thaw id res).2.zipIdx.map fun (cs, k) => (id + k, cs), if flat res then [] else passed, passed, none⟩
 | grow {i n m s id : Nat} {sz : Sz} {ds cells : List D} : kindOf P o.op = 1 → (∃ y ∈ o.op.operands, ρ y = .sl i 0 n sz) → opD P bk ρ o.type o.op = some (appOf (.sl i 0 n sz) s m ds) → (m = 0 → ds = [] ∧ sz.s = s) → bk i = some ⟨cells, false⟩ → n * s ≤ cells.length →
   QOp P F o ρ bk ⟨.sl id 0 (n + m) ⟨s, 0⟩, [(id, cells.take (n * s) ++ ds)], [], [], some i⟩
/-- What a step reads is apart from a block. -/
def Sep (ρ : Operand → D) (o : Oper) (t : Nat) (r : QR) : Prop := (∀ y ∈ o.op.operands, (ρ y).has t = false) ∧ t ∉ r.told
/-- How a region is laid out: the blocks that are each operation's to make; 'W k l': operation 'l' may come behind operation 'k'; 'T': ordered against all the others; 'S': the stores that may come on either side. -/
structure Plan where
 zs : Nat → List Nat
 W : Nat → Nat → Bool
 T : Nat → Bool
 S : Nat → List Nat
 U : Nat → Bool
 tgt : Nat → Nat
 Gr : Nat → Bool
/-- It speaks of no block that is another operation's to make. -/
def NoMen (p : Plan) (k : Nat) (d : D) : Prop := ∀ l, p.W k l = true → ∀ id ∈ p.zs l, d.has id = false
/-- Operation number 'k' of a region. -/
inductive QStep (P : Program) (F : FuncId → List D → D → Prop) (O : Oper → St → St → Prop) (R : Array Oper) (p : Plan) (k : Nat) (o : Oper) (σ : St) : St → Prop
 | skip : wantedD R o σ = some false → QStep P F O R p k o σ (σ.q o.dst ⟨.v undef, [], [], [], none⟩)
 | op {r : QR} : wantedD R o σ = some true → QOp P F o (evalD σ) σ.bk r → (∀ i cs, (i, cs) ∈ r.new → i ∈ p.zs k ∧ Unused i σ ∧ ∀ j cs', (j, cs') ∈ r.new → D.hasL i cs' = false) → (r.new.map (·.1)).Nodup →
   NoMen p k r.d → (∀ i cs, (i, cs) ∈ r.new → ∀ d ∈ cs, NoMen p k d) → (kindOf P o.op = 0 ∨ ∀ j ∈ p.S k, Sep (evalD σ) o (p.tgt j) r) → (∀ g, r.gone = some g → p.Gr k = true ∧ g = p.tgt k) → QStep P F O R p k o σ (σ.q o.dst r)
 | sto {id off : Nat} {ds cells : List D} : wantedD R o σ = some true → kindOf P o.op = 2 → opD P σ.bk (evalD σ) o.type o.op = some (.sto id off ds) → σ.bk id = some ⟨cells, false⟩ → off + ds.length ≤ cells.length →
   (∀ d ∈ ds, NoMen p k d) → (p.U k = true → id = p.tgt k) → QStep P F O R p k o σ ((σ.setB id ⟨splice cells off ds, false⟩).put o.dst (.v undef))
 | cpy {id off : Nat} {k' : Value} {ds cells : List D} : wantedD R o σ = some true → kindOf P o.op = 4 → opD P σ.bk (evalD σ) o.type o.op = some (.cpy id off ds k') → σ.bk id = some ⟨cells, false⟩ → off + ds.length ≤ cells.length →
   (∀ d ∈ ds, NoMen p k d) → QStep P F O R p k o σ ((σ.setB id ⟨splice cells off ds, false⟩).put o.dst (D.ofV k'))
 | oth {σ' : St} : p.T k = true → O o σ σ' → (∀ l, p.W k l = true → ∀ id ∈ p.zs l, Unused id σ') → QStep P F O R p k o σ σ'
end Go.Dam
end

section
namespace Go.Dam
open Go Go.RowKit
variable [Glo]
section
variable {P : Program} {F : FuncId → List D → D → Prop} {R : Array Oper}
/-- The operands alone count. -/
theorem opD_congr {bk : Nat → Option Blk} {ρ ρ' : Operand → D} {ty : TypeId} {op : Op} (h : ∀ x ∈ op.operands, ρ x = ρ' x) : opD P bk ρ ty op = opD P bk ρ' ty op := by
 have pairs : ∀ ps : Array (Nat × Operand), (∀ x ∈ ps.toList.map (·.2), ρ x = ρ' x) → (ps.toList.map fun p => (p.1, ρ p.2)) = (ps.toList.map fun p => (p.1, ρ' p.2)) := fun ps hp =>
  List.map_congr_left fun p hm => by rw [hp p.2 (List.mem_map.2 ⟨p, hm, rfl⟩)]
 cases op with
 | move x => simp only [opD, h x (by simp [Op.operands])]
 | assign x => simp only [opD, h x (by simp [Op.operands])]
 | pick c a b => simp only [opD, h c (by simp [Op.operands]), h a (by simp [Op.operands]), h b (by simp [Op.operands])]
 | box t x => simp only [opD, h x (by simp [Op.operands])]
 | build t ps => simp only [opD, pairs ps (fun x hx => h x (by simpa [Op.operands] using hx))]
 | buildSlice t n ps => simp only [opD, pairs ps (fun x hx => h x (by simpa [Op.operands] using hx))]
 | load t x => simp only [opD, h x (by simp [Op.operands])]
 | store t a x => simp only [opD, h a (by simp [Op.operands]), h x (by simp [Op.operands])]
 | nilCheck x => simp only [opD, h x (by simp [Op.operands])]
 | binOp o t x y yt => simp only [opD, h x (by simp [Op.operands]), h y (by simp [Op.operands])]
 | unOp o t x => simp only [opD, h x (by simp [Op.operands])]
 | convert s d x => simp only [opD, h x (by simp [Op.operands])]
 | makeFunc f a b =>
  cases f with
  | func f =>
   simp only [opD]
   have : b.toList.map ρ = b.toList.map ρ' := List.map_congr_left fun x hx => h x (by simp [Op.operands]; right; simpa using hx)
   rw [this]
  | _ => rfl
 | makeSlice t l c => simp only [opD, h l (by simp [Op.operands]), h c (by simp [Op.operands])]
 | slice t x lo hi mx =>
  cases mx with
  | none =>
   simp only [opD, h x (by simp [Op.operands])]
   have e1 : lo.map ρ = lo.map ρ' := by cases lo with | none => rfl | some y => simp [h y (by simp [Op.operands])]
   have e2 : hi.map ρ = hi.map ρ' := by cases hi with | none => rfl | some y => simp [h y (by simp [Op.operands])]
   rw [e1, e2]
  | some m =>
   simp only [opD, h x (by simp [Op.operands]), h m (by simp [Op.operands])]
   have e1 : lo.map ρ = lo.map ρ' := by cases lo with | none => rfl | some y => simp [h y (by simp [Op.operands])]
   have e2 : hi.map ρ = hi.map ρ' := by cases hi with | none => rfl | some y => simp [h y (by simp [Op.operands])]
   rw [e1, e2]
 | fieldAddr t x f => simp only [opD, h x (by simp [Op.operands])]
 | field t x f => simp only [opD, h x (by simp [Op.operands])]
 | indexAddr t x i => simp only [opD, h x (by simp [Op.operands]), h i (by simp [Op.operands])]
 | index t x i => simp only [opD, h x (by simp [Op.operands]), h i (by simp [Op.operands])]
 | extract x i => simp only [opD, h x (by simp [Op.operands])]
 | call c =>
  obtain ⟨callee, args, ts⟩ := c
  cases callee with
  | builtin b =>
   have hm : ∀ l : List Operand, l ⊆ args.toList → l.map ρ = l.map ρ' := fun l hl => List.map_congr_left fun x hx => h x (by simp [Op.operands, Call.operands]; simpa using hl hx)
   have hargs := hm args.toList (fun _ h => h)
   obtain ⟨args⟩ := args
   cases b with
   | len =>
    match args, ts, h with
    | [x], ⟨[t]⟩, h => simp only [opD, h x (by simp [Op.operands, Call.operands])]
    | [], _, _ => simp [opD]
    | _ :: _ :: _, _, _ => simp [opD]
    | [_], ⟨[]⟩, _ => simp [opD]
    | [_], ⟨_ :: _ :: _⟩, _ => simp [opD]
   | append =>
    match args, h with
    | [x, y], h => simp only [opD, h x (by simp [Op.operands, Call.operands]), h y (by simp [Op.operands, Call.operands])]
    | [], _ => simp [opD]
    | [_], _ => simp [opD]
    | _ :: _ :: _ :: _, _ => simp [opD]
   | copy =>
    match args, h with
    | [x, y], h => simp only [opD, h x (by simp [Op.operands, Call.operands]), h y (by simp [Op.operands, Call.operands])]
    | [], _ => simp [opD]
    | [_], _ => simp [opD]
    | _ :: _ :: _ :: _, _ => simp [opD]
   | clear =>
    match args, h with
    | [x], h => simp only [opD, h x (by simp [Op.operands, Call.operands])]
    | [], _ => simp [opD]
    | _ :: _ :: _, _ => simp [opD]
   | max => simp only [opD]; simp only [hargs]
   | min => simp only [opD]; simp only [hargs]
   | _ => rfl
  | value f => rfl
  | invoke r m => rfl
 | _ => rfl
/-- Blocks of the same cells, but for some that nothing speaks of. -/
def Agree (N : Nat → Prop) (bk bk' : Nat → Option Blk) : Prop := ∀ i, ¬ N i → (bk' i).map Blk.cells = (bk i).map Blk.cells
theorem Agree.symm {N : Nat → Prop} {bk bk' : Nat → Option Blk} (h : Agree N bk bk') : Agree N bk' bk := fun i hi => (h i hi).symm
theorem behind_agree {N : Nat → Prop} {bk bk' : Nat → Option Blk} (h : Agree N bk bk') {d : D} (hd : ∀ i, N i → d.has i = false) : d.behind bk' = d.behind bk := by
 cases d with
 | ptr id off =>
  have hn : ¬ N id := fun hN => by have := hd id hN; simp [D.has] at this
  have := h id hn
  simp only [D.behind]
  cases h1 : bk id <;> cases h2 : bk' id <;> simp [h1, h2] at this ⊢
  exact this
 | pel id i n j =>
  have hn : ¬ N id := fun hN => by have := hd id hN; simp [D.has] at this
  have := h id hn
  simp only [D.behind]
  cases h1 : bk id <;> cases h2 : bk' id <;> simp [h1, h2] at this ⊢
  exact this
 | _ => rfl
theorem slice_agree {bk bk' : Nat → Option Blk} {t : TypeId} {x : D} {lo hi : Option D} (h : ∀ id off, x = .ptr id off → (bk' id).map Blk.cells = (bk id).map Blk.cells) : sliceD P bk' t x lo hi = sliceD P bk t x lo hi := by
 by_cases hp : ∃ id off, x = .ptr id off
 ·obtain ⟨id, off, rfl⟩ := hp
  have hid := h id off rfl
  show sliceP P bk' t _ lo hi = sliceP P bk t _ lo hi
  unfold sliceP
  cases P.underlying t with
  | none => rfl
  | some u =>
   cases u with
   | array n elem =>
    simp only []
    cases P.info? elem with
    | none => rfl
    | some j =>
     cases boundD hi n n with
     | none => rfl
     | some h' =>
      simp only []
      cases boundD lo 0 h' with
      | none => rfl
      | some l =>
       simp only []
       cases h1 : bk id with
       | none => cases h2 : bk' id with
        | none => rfl
        | some b' => rw [h1, h2] at hid; simp at hid
       | some b => cases h2 : bk' id with
        | none => rw [h1, h2] at hid; simp at hid
        | some b' => rw [h1, h2] at hid; simp at hid; simp only [hid]
   | _ => rfl
 ·suffices hs : sliceP P bk' t x lo hi = sliceP P bk t x lo hi by
   unfold sliceD; split
   ·rfl
   ·exact hs
  unfold sliceP
  cases P.underlying t with
  | none => rfl
  | some u =>
   cases x with
   | ptr id off => exact absurd ⟨id, off, rfl⟩ hp
   | v y => cases u <;> cases y <;> first | rfl | (rename_i o n c; cases o <;> cases n <;> cases c <;> rfl)
   | _ => cases u <;> rfl
theorem elems_agree {bk bk' : Nat → Option Blk} {size : Nat} {x : D} (h : ∀ id off n sz, x = .sl id off n sz → (bk' id).map Blk.cells = (bk id).map Blk.cells) : x.elems bk' size = x.elems bk size := by
 cases x with
 | sl id off n sz =>
  have hid := h id off n sz rfl
  simp only [D.elems]
  cases h1 : bk id with
  | none => cases h2 : bk' id with
   | none => rfl
   | some b' => rw [h1, h2] at hid; simp at hid
  | some b => cases h2 : bk' id with
   | none => rw [h1, h2] at hid; simp at hid
   | some b' => rw [h1, h2] at hid; simp at hid; simp only [hid]
 | v y =>
  cases y with
  | slice o n c => cases o <;> cases n <;> cases c <;> rfl
  | _ => rfl
 | _ => rfl
theorem opD_agree {N : Nat → Prop} {bk bk' : Nat → Option Blk} (h : Agree N bk bk') {ρ : Operand → D} {ty : TypeId} {op : Op} (hk : kindOf P op ≤ 1) (hn : ∀ x ∈ op.operands, ∀ i, N i → (ρ x).has i = false) : opD P bk' ρ ty op = opD P bk ρ ty op := by
 cases op with
 | load t a => simp only [opD, loadD, behind_agree h (hn a (by simp [Op.operands]))]
 | slice t x lo hi mx =>
  cases mx with
  | none =>
   simp only [opD]
   refine slice_agree (fun id off hρ => h id fun hN => ?_)
   have := hn x (by simp [Op.operands]) id hN
   rw [hρ] at this
   simp [D.has] at this
  | some _ => rfl
 | store t a x => simp [kindOf] at hk
 | call c =>
  obtain ⟨callee, args, ts⟩ := c
  cases callee with
  | builtin b =>
   obtain ⟨args⟩ := args
   obtain ⟨ts⟩ := ts
   have key : ∀ y ∈ args, ∀ size, (ρ y).elems bk' size = (ρ y).elems bk size := fun y hy size => elems_agree (fun id off n sz hρ => h id fun hN => by
    have := hn y (by simp [Op.operands, Call.operands, hy]) id hN
    rw [hρ] at this
    simp [D.has] at this)
   cases b with
   | append =>
    rcases args with _ | ⟨x, _ | ⟨y, _ | ⟨z, l⟩⟩⟩
    ·rfl
    ·rfl
    ·simp only [opD, appendD, key y (by simp)]
    ·rfl
   | len => rcases args with _ | ⟨x, _ | ⟨y, l⟩⟩ <;> rcases ts with _ | ⟨t, _ | ⟨u, m⟩⟩ <;> rfl
   | _ => first | rfl | (simp [kindOf] at hk; done)
  | value f => rfl
  | invoke r m => rfl
 | makeFunc f a b => cases f <;> rfl
 | _ => rfl
/-- For what reads nothing, memory doesn't count. -/
theorem opD_pure {bk bk' : Nat → Option Blk} {ρ : Operand → D} {ty : TypeId} {op : Op} (hk : kindOf P op = 0) : opD P bk' ρ ty op = opD P bk ρ ty op := by
 cases op with
 | load t a => simp [kindOf] at hk
 | slice t x lo hi mx => cases mx with | none => simp [kindOf] at hk | some _ => rfl
 | store t a x => simp [kindOf] at hk
 | call c =>
  obtain ⟨callee, args, ts⟩ := c
  cases callee with
  | builtin b =>
   obtain ⟨args⟩ := args
   obtain ⟨ts⟩ := ts
   cases b <;> first | rfl | (simp [kindOf] at hk; done) | (rcases args with _ | ⟨x, _ | ⟨y, l⟩⟩ <;> rcases ts with _ | ⟨t, _ | ⟨u, m⟩⟩ <;> rfl)
  | value f => simp [kindOf] at hk
  | invoke r m => rfl
 | makeFunc f a b => cases f <;> rfl
 | _ => rfl
mutual
/-- Shared content, by blocks of the same cells. -/
theorem share_agree {N : Nat → Prop} {bk bk' : Nat → Option Blk} (h : Agree N bk bk') (hb : ∀ i b, bk i = some b → ∀ n, N n → D.hasL n b.cells = false) : ∀ (k : Nat) (d : D), (∀ i, N i → d.has i = false) → share bk' k d = share bk k d
 | 0, .undef, _ | 0, .yld, _ | 0, .emp, _ | 0, .rc _, _ | 0, .oc _, _ | 0, .pel _ _ _ _, _ | 0, .v _, _ | 0, .sh _ _, _ | 0, .ow _ _ _, _ | 0, .sl _ _ _ _, _ | 0, .ptr _ _, _ | 0, .shp _ _, _ | 0, .agg _, _ | 0, .tup _, _ => rfl
 | 0, .fn _ cs, _ => by cases cs <;> rfl
 | k + 1, .sl id off n sz, hd => by
  have hn : ¬ N id := fun hN => by have := hd id hN; simp [D.has] at this
  have hid := h id hn
  simp only [share]
  cases h1 : bk id with
  | none => cases h2 : bk' id with
   | none => rfl
   | some b' => rw [h1, h2] at hid; simp at hid
  | some b => cases h2 : bk' id with
   | none => rw [h1, h2] at hid; simp at hid
   | some b' =>
    rw [h1, h2] at hid
    simp at hid
    simp only [hid]
    have hcs : ∀ i, N i → D.hasL i ((b.cells.drop off).take (n * sz)) = false := fun i hi => hasL_sub (hb id b h1 i hi) _ _
    have e : share.shareAll (share bk' k) ((b.cells.drop off).take (n * sz)) = share.shareAll (share bk k) ((b.cells.drop off).take (n * sz)) := shareAll_agree h hb k _ hcs
    rw [e]
 | k + 1, .agg cs, hd => by
  simp only [share]
  have e : share.shareAll (share bk' k) cs = share.shareAll (share bk k) cs := shareAll_agree h hb k cs (fun i hi => by simpa [D.has] using hd i hi)
  rw [e]
 | k + 1, .undef, _ => rfl
 | k + 1, .v _, _ => rfl
 | k + 1, .yld, _ => rfl
 | k + 1, .sh _ _, _ => rfl
 | k + 1, .rc _, _ => rfl
 | k + 1, .oc _, _ => rfl
 | k + 1, .pel _ _ _ _, _ => rfl
 | k + 1, .ow _ _ _, _ => rfl
 | k + 1, .ptr _ _, _ => rfl
 | k + 1, .shp _ _, _ => rfl
 | k + 1, .emp, _ => rfl
 | k + 1, .fn _ cs, _ => by cases cs <;> rfl
 | k + 1, .tup _, _ => rfl
theorem shareAll_agree {N : Nat → Prop} {bk bk' : Nat → Option Blk} (h : Agree N bk bk') (hb : ∀ i b, bk i = some b → ∀ n, N n → D.hasL n b.cells = false) : ∀ (k : Nat) (ds : List D), (∀ i, N i → D.hasL i ds = false) → shareAll (share bk' k) ds = shareAll (share bk k) ds
 | _, [], _ => rfl
 | k, d :: ds, hd => by
  have e : share.shareAll (share bk' k) ds = share.shareAll (share bk k) ds := shareAll_agree h hb k ds (fun i hi => by have := hd i hi; simp [D.hasL] at this; exact this.2)
  simp only [share.shareAll]
  rw [e, share_agree h hb k d (fun i hi => by have := hd i hi; simp [D.hasL] at this; exact this.1)]
theorem hasL_sub {i : Nat} {cs : List D} (h : D.hasL i cs = false) (a b : Nat) : D.hasL i ((cs.drop a).take b) = false := by
 have hd : ∀ (a : Nat) (cs : List D), D.hasL i cs = false → D.hasL i (cs.drop a) = false := by
  intro a
  induction a with
  | zero => intro cs h; simpa using h
  | succ a ih =>
   intro cs h
   cases cs with
   | nil => simpa using h
   | cons d ds => simp [D.hasL] at h; simpa using ih ds h.2
 have ht : ∀ (b : Nat) (cs : List D), D.hasL i cs = false → D.hasL i (cs.take b) = false := by
  intro b
  induction b with
  | zero => intro cs h; simp [D.hasL]
  | succ b ih =>
   intro cs h
   cases cs with
   | nil => simp [D.hasL]
   | cons d ds => simp [D.hasL] at h; simp [D.hasL, h.1, ih ds h.2]
 exact ht b _ (hd a cs h)
end
/-- The blocks that were told are those that count. -/
theorem share_told {n : Nat} {bk bk' : Nat → Option Blk} (h : Agree (· = n) bk bk') : ∀ (k : Nat) (d e : D) (ids : List Nat), share bk k d = some (e, ids) → n ∉ ids → share bk' k d = some (e, ids) := by
 intro k
 induction k with
 | zero =>
  intro d e ids hd _
  cases d with
  | fn f cs => cases cs <;> exact hd
  | _ => exact hd
 | succ k ih =>
  have hall : ∀ (ds es : List D) (ids : List Nat), shareAll (share bk k) ds = some (es, ids) → n ∉ ids → shareAll (share bk' k) ds = some (es, ids) := by
   intro ds
   induction ds with
   | nil => intro es ids hd _; exact hd
   | cons d ds ihd =>
    intro es ids hd hn
    simp only [share.shareAll] at hd ⊢
    split at hd
    next e i es' is' h1 h2 =>
     simp at hd; obtain ⟨rfl, rfl⟩ := hd
     have e2 := ihd es' is' h2 (fun hm => hn (by simp [hm]))
     simp only [shareAll] at e2
     rw [ih d e i h1 (fun hm => hn (by simp [hm])), e2]
    ·cases hd
  intro d e ids hd hn
  cases d with
  | sl id off m sz =>
   simp only [share] at hd ⊢
   split at hd
   ·cases hd
   next b hb =>
    split at hd
    next hl =>
     split at hd
     ·cases hd
     next cs is h1 =>
      simp at hd; obtain ⟨rfl, rfl⟩ := hd
      have hne : ¬ id = n := fun e => hn (by simp [e])
      have hid := h id hne
      cases h2 : bk' id with
      | none => rw [hb, h2] at hid; simp at hid
      | some b' =>
       rw [hb, h2] at hid
       simp at hid
       simp only [hid, hl, if_true]
       have e := hall _ _ _ h1 (fun hm => hn (by simp [hm]))
       simp only [shareAll] at e
       rw [e]
    ·cases hd
  | agg cs =>
   simp only [share] at hd ⊢
   split at hd
   ·cases hd
   next ds is h1 =>
    simp at hd; obtain ⟨rfl, rfl⟩ := hd
    have e := hall _ _ _ h1 hn
    simp only [shareAll] at e
    rw [e]
  | fn f cs => cases cs <;> exact hd
  | _ => exact hd
theorem shareAll_told {n : Nat} {bk bk' : Nat → Option Blk} (h : Agree (· = n) bk bk') (k : Nat) : ∀ (ds es : List D) (ids : List Nat), shareAll (share bk k) ds = some (es, ids) → n ∉ ids → shareAll (share bk' k) ds = some (es, ids)
 | [], es, ids, hd, _ => hd
 | d :: ds, es, ids, hd, hn => by
  simp only [share.shareAll] at hd ⊢
  split at hd
  next e i es' is' h1 h2 =>
   simp at hd; obtain ⟨rfl, rfl⟩ := hd
   have e2 := shareAll_told h k ds es' is' h2 (fun hm => hn (by simp [hm]))
   simp only [shareAll] at e2
   rw [share_told h k d e i h1 (fun hm => hn (by simp [hm])), e2]
  ·cases hd
end
end Go.Dam
end

section
namespace Go.Dam
open Go Go.RowKit
variable [Glo]
section
variable {P : Program} {F : FuncId → List D → D → Prop} {R : Array Oper}
/-- The state looks the same to an operation. -/
def Same (R : Array Oper) (o : Oper) (σ σ' : St) : Prop := ∀ t ∈ o.looksAt R, σ'.fr.tm t = σ.fr.tm t
theorem Same.symm {o : Oper} {σ σ' : St} (h : Same R o σ σ') : Same R o σ' σ := fun t ht => (h t ht).symm
theorem Same.eval {o : Oper} {σ σ' : St} (h : Same R o σ σ') : ∀ x ∈ o.op.operands, evalD σ' x = evalD σ x := by
 intro x hx
 cases x with
 | tmp t => exact h t (by simp [Oper.looksAt]; left; exact ⟨_, hx, rfl⟩)
 | _ => rfl
theorem Same.wanted {o : Oper} {σ σ' : St} (h : Same R o σ σ') : wantedD R o σ' = wantedD R o σ := by
 unfold wantedD
 cases hg : o.guard with
 | none => rfl
 | some g =>
  obtain ⟨j, want⟩ := g
  simp only []
  cases hd : (R[j]?).bind (·.dst) with
  | none => rfl
  | some t =>
   simp only []
   rw [h t (by simp [Oper.looksAt, hg, hd])]
theorem q_same {o oi : Oper} {σ : St} {r : QR} (h : ∀ d, oi.dst = some d → d ∉ o.looksAt R) : Same R o σ (σ.q oi.dst r) := by
 intro t ht
 cases hd : oi.dst with
 | none => rfl
 | some d =>
  have hne : t ≠ d := fun e => h d hd (e ▸ ht)
  simp [St.q, St.put, Fr.put, hne]
theorem sto_same {o oi : Oper} {σ : St} {id : Nat} {b : Blk} (h : ∀ d, oi.dst = some d → d ∉ o.looksAt R) : Same R o σ ((σ.setB id b).put oi.dst (.v undef)) := by
 intro t ht
 cases hd : oi.dst with
 | none => rfl
 | some d =>
  have hne : t ≠ d := fun e => h d hd (e ▸ ht)
  simp [St.put, Fr.put, hne, St.setB]
theorem newB_mem {i : Nat} {b : Blk} : ∀ {l : List (Nat × List D)}, newB i l = some b → ∃ cs, (i, cs) ∈ l ∧ b = ⟨cs, false⟩
 | (j, cs) :: l, h => by
  simp only [newB] at h
  split at h
  next e => subst e; simp at h; exact ⟨cs, by simp, h.symm⟩
  next => obtain ⟨cs', h1, h2⟩ := newB_mem h; exact ⟨cs', by simp [h1], h2⟩
theorem newB_none {i : Nat} : ∀ {l : List (Nat × List D)}, (∀ cs, (i, cs) ∉ l) → newB i l = none
 | [], _ => rfl
 | (j, cs) :: l, h => by
  simp only [newB]
  rw [if_neg (fun e => h cs (by simp [e])), newB_none (fun c hc => h c (by simp [hc]))]
theorem hasL_of_get {i : Nat} : ∀ {cs : List D}, D.hasL i cs = true → ∃ d ∈ cs, d.has i = true
 | d :: ds, h => by
  simp only [D.hasL, Bool.or_eq_true] at h
  rcases h with h | h
  ·exact ⟨d, by simp, h⟩
  ·obtain ⟨e, h1, h2⟩ := hasL_of_get h; exact ⟨e, by simp [h1], h2⟩
theorem hasL_false {i : Nat} {cs : List D} (h : ∀ d ∈ cs, d.has i = false) : D.hasL i cs = false := by
 rw [Bool.eq_false_iff]; intro e
 obtain ⟨d, h1, h2⟩ := hasL_of_get e
 rw [h d h1] at h2; cases h2
theorem hasL_mem {i : Nat} : ∀ {cs : List D}, D.hasL i cs = false → ∀ d ∈ cs, d.has i = false
 | d :: ds, h, e, he => by
  simp [D.hasL] at h
  rcases List.mem_cons.1 he with rfl | he
  ·exact h.1
  ·exact hasL_mem h.2 e he
theorem agree_q {bk : Nat → Option Blk} {r : QR} : Agree (fun i => (∃ cs, (i, cs) ∈ r.new) ∨ r.gone = some i) bk (qbk bk r) := by
 intro i hi
 simp only [qbk]
 rw [newB_none (fun cs hc => hi (.inl ⟨cs, hc⟩))]
 simp only []
 rw [if_neg fun h => hi (.inr h)]
 split
 ·cases bk i <;> rfl
 ·rfl
/-- What a step gives, where memory is the same to it. -/
theorem qop_move {o : Oper} {ρ ρ' : Operand → D} {bk bk' : Nat → Option Blk} {r : QR} (h : QOp P F o ρ bk r) (hρ : ∀ x ∈ o.op.operands, ρ' x = ρ x)
  (hop : kindOf P o.op ≤ 1 → opD P bk' ρ o.type o.op = opD P bk ρ o.type o.op) (hsh : ∀ fo args (f : FuncId) (caps as : List D) passed, callParts o.op = some (fo, args) → ρ fo = .fn f caps → shareAll (share bk depth) (args.toList.map ρ ++ caps) = some (as, passed) → r.told = passed →
   shareAll (share bk' depth) (args.toList.map ρ ++ caps) = some (as, passed)) (hgo : ∀ g, r.gone = some g → bk' g = bk g) : QOp P F o ρ' bk' r := by
 have hcong : kindOf P o.op ≤ 1 → opD P bk' ρ' o.type o.op = opD P bk ρ o.type o.op := fun hk => (opD_congr hρ).trans (hop hk)
 have hparts : ∀ fo args, callParts o.op = some (fo, args) → ρ' fo = ρ fo ∧ args.toList.map ρ' = args.toList.map ρ := by
  intro fo args hc
  cases hopc : o.op with
  | call c =>
   rw [hopc] at hc
   obtain ⟨callee, as, ts⟩ := c
   cases callee with
   | value g =>
    simp [callParts] at hc
    obtain ⟨rfl, rfl⟩ := hc
    refine ⟨hρ _ (by rw [hopc]; simp [Op.operands, Call.operands]), List.map_congr_left fun x hx => hρ x (by rw [hopc]; simp [Op.operands, Call.operands]; right; simpa using hx)⟩
   | _ => simp [callParts] at hc
  | _ => rw [hopc] at hc; simp [callParts] at hc
 cases h with
 | val hk h1 => exact .val hk ((hcong hk).trans h1)
 | box hk h1 => exact .box hk ((hcong hk).trans h1)
 | row hk h1 => exact .row hk ((hcong hk).trans h1)
 | row0 hk h1 => exact .row0 hk ((hcong hk).trans h1)
 | app0 hk h1 hs => exact .app0 hk ((hcong hk).trans h1) hs
 | appE hk h1 hz => exact .appE hk ((hcong (by omega)).trans h1) hz
 | grow hk hy h1 hz hb hl =>
  obtain ⟨y, y1, y2⟩ := hy
  exact .grow hk ⟨y, y1, (hρ y y1).trans y2⟩ ((hcong (by omega)).trans h1) hz ((hgo _ rfl).trans hb) hl
 | ext h1 h2 h3 h4 =>
  obtain ⟨e1, e2⟩ := hparts _ _ h1
  exact .ext h1 (e1.trans h2) (by rw [e2]; exact h3) h4
 | @call fo args f caps as passed res id h1 h2 h3 h4 h5 =>
  obtain ⟨e1, e2⟩ := hparts _ _ h1
  refine .call h1 (e1.trans h2) h3 ?_ h5
  rw [e2]
  exact hsh fo args f caps as passed h1 h2 h4 rfl
theorem ofV_has (v : Value) (id : Nat) : (D.ofV v).has id = false := by
 cases v with
 | agg cs =>
  simp only [D.ofV, D.has]
  refine hasL_false fun d hd => ?_
  simp only [List.mem_map] at hd
  obtain ⟨x, _, rfl⟩ := hd
  rfl
 | tuple cs =>
  simp only [D.ofV, D.has]
  refine hasL_false fun d hd => ?_
  simp only [List.mem_map] at hd
  obtain ⟨x, _, rfl⟩ := hd
  rfl
 | _ => rfl
theorem Unused.eval {id : Nat} {σ : St} (h : Unused id σ) (x : Operand) : (evalD σ x).has id = false := by
 cases x with
 | tmp t => exact h.fr t
 | const v => exact ofV_has v id
 | global g =>
  show (gloD (Glo.g g)).has id = false
  cases Glo.g g <;> rfl
 | func f => simp [evalD, D.has, D.hasL]
/-- The blocks that are told are spoken of. -/
theorem share_ids {bk : Nat → Option Blk} {i : Nat} (hb : ∀ j b, bk j = some b → D.hasL i b.cells = false) : ∀ (k : Nat) (d e : D) (ids : List Nat), share bk k d = some (e, ids) → d.has i = false → i ∉ ids := by
 intro k
 induction k with
 | zero =>
  intro d e ids h _
  cases d with
  | v x => simp only [share, Option.some.injEq, Prod.mk.injEq] at h; obtain ⟨_, rfl⟩ := h; simp
  | emp => simp only [share, Option.some.injEq, Prod.mk.injEq] at h; obtain ⟨_, rfl⟩ := h; simp
  | rc cs => simp only [share, Option.some.injEq, Prod.mk.injEq] at h; obtain ⟨_, rfl⟩ := h; simp
  | sh n cs => simp only [share, Option.some.injEq, Prod.mk.injEq] at h; obtain ⟨_, rfl⟩ := h; simp
  | fn f cs => cases cs with
   | nil => simp only [share, Option.some.injEq, Prod.mk.injEq] at h; obtain ⟨_, rfl⟩ := h; simp
   | cons _ _ => simp [share] at h
  | _ => simp [share] at h
 | succ k ih =>
  have hall : ∀ (ds es : List D) (ids : List Nat), shareAll (share bk k) ds = some (es, ids) → D.hasL i ds = false → i ∉ ids := by
   intro ds
   induction ds with
   | nil => intro es ids h _; simp [share.shareAll] at h; obtain ⟨_, rfl⟩ := h; simp
   | cons d ds ihd =>
    intro es ids h hn
    simp only [share.shareAll] at h
    split at h
    next e j es' is' h1 h2 =>
     simp at h; obtain ⟨rfl, rfl⟩ := h
     simp [D.hasL] at hn
     simp [ih d e j h1 hn.1, ihd es' is' h2 hn.2]
    ·cases h
  intro d e ids h hd
  cases d with
  | v x => simp only [share, Option.some.injEq, Prod.mk.injEq] at h; obtain ⟨_, rfl⟩ := h; simp
  | emp => simp only [share, Option.some.injEq, Prod.mk.injEq] at h; obtain ⟨_, rfl⟩ := h; simp
  | rc cs => simp only [share, Option.some.injEq, Prod.mk.injEq] at h; obtain ⟨_, rfl⟩ := h; simp
  | sh n cs => simp only [share, Option.some.injEq, Prod.mk.injEq] at h; obtain ⟨_, rfl⟩ := h; simp
  | fn f cs => cases cs with
   | nil => simp only [share, Option.some.injEq, Prod.mk.injEq] at h; obtain ⟨_, rfl⟩ := h; simp
   | cons _ _ => simp [share] at h
  | agg cs =>
   simp only [share] at h
   split at h
   ·cases h
   next ds is h1 =>
    simp at h; obtain ⟨rfl, rfl⟩ := h
    exact hall cs ds is h1 (by simpa [D.has] using hd)
  | sl id off n sz =>
   simp only [share] at h
   split at h
   ·cases h
   next b hbk =>
    split at h
    next hl =>
     split at h
     ·cases h
     next cs is h1 =>
      simp at h; obtain ⟨rfl, rfl⟩ := h
      have h2 := hall _ _ _ h1 (hasL_sub (hb id b hbk) _ _)
      simp [D.has] at hd
      simp [h2, Ne.symm hd]
    ·cases h
  | _ => simp [share] at h
theorem shareAll_ids {bk : Nat → Option Blk} {i : Nat} (hb : ∀ j b, bk j = some b → D.hasL i b.cells = false) {k : Nat} : ∀ (ds es : List D) (ids : List Nat), shareAll (share bk k) ds = some (es, ids) → D.hasL i ds = false → i ∉ ids
 | [], es, ids, h, _ => by simp [share.shareAll] at h; obtain ⟨_, rfl⟩ := h; simp
 | d :: ds, es, ids, h, hn => by
  simp only [share.shareAll] at h
  split at h
  next e j es' is' h1 h2 =>
   simp at h; obtain ⟨rfl, rfl⟩ := h
   simp [D.hasL] at hn
   simp [share_ids hb k d e j h1 hn.1, shareAll_ids hb ds es' is' h2 hn.2]
  ·cases h
/-- What a step makes read-only is spoken of in the state. -/
theorem qop_ro {o : Oper} {σ : St} {r : QR} (h : QOp P F o (evalD σ) σ.bk r) {id : Nat} (hu : ∀ j b, σ.bk j = some b → D.hasL id b.cells = false) (he : ∀ x ∈ o.op.operands, (evalD σ x).has id = false) : id ∉ r.ro := by
 cases h with
 | call h1 h2 h3 h4 h5 =>
  simp only []
  split
  ·simp
  ·refine shareAll_ids hu _ _ _ h4 (hasL_false fun d hd => ?_)
   cases hopc : o.op with
   | call c =>
    rw [hopc] at h1
    obtain ⟨callee, as, ts⟩ := c
    cases callee with
    | value g =>
     simp [callParts] at h1
     obtain ⟨rfl, rfl⟩ := h1
     rcases List.mem_append.1 hd with hd | hd
     ·simp only [List.mem_map] at hd
      obtain ⟨x, hx, rfl⟩ := hd
      exact he x (by rw [hopc]; simp [Op.operands, Call.operands]; right; simpa using hx)
     ·have := he g (by rw [hopc]; simp [Op.operands, Call.operands])
      rw [h2] at this
      exact hasL_mem (by simpa [D.has] using this) d hd
    | _ => simp [callParts] at h1
   | _ => rw [hopc] at h1; simp [callParts] at h1
 | _ => simp
theorem Fr.put_comm (f : Fr) {s t : Nat} (h : s ≠ t) (d e : D) : (f.put s d).put t e = (f.put t e).put s d := by
 simp only [Fr.put]
 congr 1
 funext i
 by_cases h1 : i = t
 ·subst h1; rw [if_pos rfl, if_neg (Ne.symm h), if_pos rfl]; rfl
 ·by_cases h2 : i = s
  ·subst h2; rw [if_neg h, if_pos rfl, if_pos rfl]; rfl
  ·rw [if_neg h1, if_neg h2, if_neg h2, if_neg h1]
theorem St.put_comm (σ : St) {s t : Option Tmp} (h : ∀ d, s = some d → t ≠ some d) (d e : D) : (σ.put s d).put t e = (σ.put t e).put s d := by
 cases s with
 | none => rfl
 | some s =>
  cases t with
  | none => rfl
  | some t =>
   have hne : s ≠ t := fun e => h s rfl (by rw [e])
   simp only [St.put, Fr.put_comm _ hne]
theorem unused_q {id : Nat} {σ : St} {dst : Option Tmp} {r : QR} (h : Unused id σ) (hd : r.d.has id = false) (hn : ∀ cs, (id, cs) ∉ r.new) (hc : ∀ i cs, (i, cs) ∈ r.new → D.hasL id cs = false) : Unused id (σ.q dst r) where
 fr := fun t => by
  cases dst with
  | none => exact h.fr t
  | some s =>
   simp only [St.q, St.put, Fr.put]
   split
   ·split
    ·exact hd
    ·rfl
   ·exact h.fr t
 stk := fun f hf => by
  have : (σ.q dst r).stk = σ.stk := by cases dst <;> rfl
  rw [this] at hf
  exact h.stk f hf
 lp := fun e => by
  have : (σ.q dst r).loop = σ.loop := by cases dst <;> rfl
  rw [this]; exact h.lp e
 no := by
  have : (σ.q dst r).bk = qbk σ.bk r := by cases dst <;> rfl
  rw [this]
  simp only [qbk, newB_none hn, h.no]
  split
  ·rfl
  ·split <;> rfl
 bk := fun i b hb => by
  have : (σ.q dst r).bk = qbk σ.bk r := by cases dst <;> rfl
  rw [this] at hb
  simp only [qbk] at hb
  split at hb
  next b' hb' =>
   simp at hb; subst hb
   obtain ⟨cs, h1, rfl⟩ := newB_mem hb'
   exact hc i cs h1
  next =>
   split at hb
   ·cases hb
   ·split at hb
    ·simp only [Option.map_eq_some_iff] at hb
     obtain ⟨b0, h1, rfl⟩ := hb
     exact h.bk i b0 h1
    ·exact h.bk i b hb
end
end Go.Dam
end
