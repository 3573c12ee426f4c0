/- The engine, part AE: an abstract machine for the program's functions, proved right against the model. No condition. -/
import Derived.Test.YtpbngkempchamaaDamAC
set_option linter.unusedSectionVars false
set_option linter.unusedVariables false
set_option linter.unusedSimpArgs false
namespace Go.Dam
open Go Go.RowKit
set_option linter.unusedSectionVars false
variable [Glo]
set_option linter.unusedSimpArgs false
set_option linter.unusedVariables false

/-! ### To forget many blocks at once -/

mutual
/-- Does it speak of none of these blocks? -/
def D.clear (q : Nat → Bool) : D → Bool
  | .sl i _ _ _ => !(q i)
  | .ptr i _ => !(q i)
  | .pel i _ _ _ => !(q i)
  | .yld => !(q yldId)
  | .agg cs => D.clearL q cs
  | .tup cs => D.clearL q cs
  | .fn _ cs => D.clearL q cs
  | _ => true
def D.clearL (q : Nat → Bool) : List D → Bool
  | [] => true
  | d :: ds => D.clear q d && D.clearL q ds
end

mutual
theorem clear_has {q : Nat → Bool} {id : Nat} (hq : q id = true) : ∀ (d : D), D.clear q d = true → d.has id = false
  | .sl i _ _ _, h => by
    simp only [D.clear, D.has] at h ⊢
    by_cases e : i = id
    · subst e; rw [hq] at h; cases h
    · simpa using e
  | .pel i _ _ _, h => by
    simp only [D.clear, D.has] at h ⊢
    by_cases e : i = id
    · subst e; rw [hq] at h; cases h
    · simpa using e
  | .ptr i _, h => by
    simp only [D.clear, D.has] at h ⊢
    by_cases e : i = id
    · subst e; rw [hq] at h; cases h
    · simpa using e
  | .agg cs, h => by simp only [D.clear, D.has] at h ⊢; exact clearL_has hq cs h
  | .tup cs, h => by simp only [D.clear, D.has] at h ⊢; exact clearL_has hq cs h
  | .fn _ cs, h => by simp only [D.clear, D.has] at h ⊢; exact clearL_has hq cs h
  | .undef, _ => rfl
  | .v _, _ => rfl
  | .yld, h => by
    simp only [D.clear, D.has] at h ⊢
    by_cases e : yldId = id
    · subst e; rw [hq] at h; cases h
    · simpa using e
  | .sh _ _, _ => rfl
  | .ow _ _ _, _ => rfl
  | .shp _ _, _ => rfl
  | .rc _, _ => rfl
  | .oc _, _ => rfl
  | .emp, _ => rfl
theorem clearL_has {q : Nat → Bool} {id : Nat} (hq : q id = true) : ∀ (ds : List D), D.clearL q ds = true → D.hasL id ds = false
  | [], _ => rfl
  | d :: ds, h => by
    simp only [D.clearL, Bool.and_eq_true] at h
    simp only [D.hasL, clear_has hq d h.1, clearL_has hq ds h.2, Bool.or_self]
end

def D.wipe (q : Nat → Bool) (d : D) : D := bif D.clear q d then d else .undef
def Fr.wipe (q : Nat → Bool) (f : Fr) : Fr := { f with tm := fun t => (f.tm t).wipe q }
def Blk.wipe (q : Nat → Bool) (b : Blk) : Blk := { b with cells := b.cells.map (D.wipe q) }
def St.wipe (q : Nat → Bool) (σ : St) : St :=
  { fr := σ.fr.wipe q, stk := σ.stk.map (Fr.wipe q), bk := fun i => if q i then none else (σ.bk i).map (Blk.wipe q), loop := if q yldId then none else σ.loop }

theorem wipe_has {q : Nat → Bool} {id : Nat} (hq : q id = true) (d : D) : (d.wipe q).has id = false := by
  unfold D.wipe
  cases h : D.clear q d with
  | true => exact clear_has hq d h
  | false => rfl

theorem unused_wipe {q : Nat → Bool} {id : Nat} (hq : q id = true) (σ : St) : Unused id (σ.wipe q) where
  fr := fun t => wipe_has hq _
  stk := fun f hf t => by
    simp only [St.wipe, List.mem_map] at hf
    obtain ⟨g, _, rfl⟩ := hf
    exact wipe_has hq _
  no := by simp [St.wipe, hq]
  lp := fun e => by simp only [St.wipe]; rw [if_pos (by rw [← e]; exact hq)]
  bk := fun i b hb => by
    simp only [St.wipe] at hb
    split at hb
    · cases hb
    · simp only [Option.map_eq_some_iff] at hb
      obtain ⟨b0, _, rfl⟩ := hb
      refine hasL_false fun d hd => ?_
      simp only [Blk.wipe, List.mem_map] at hd
      obtain ⟨d0, _, rfl⟩ := hd
      exact wipe_has hq _

theorem Rep.wipe {w : World} {A : Nat → Prop} {β : Env} {d : D} {u : Value} (q : Nat → Bool) (h : Rep w A β d u) : Rep w A β (d.wipe q) u := by
  unfold D.wipe; cases D.clear q d
  · simp [Rep, RepS]
  · exact h
theorem CellsAt.wipe {w : World} {A : Nat → Prop} {β : Env} (q : Nat → Bool) : ∀ {cs : List D} {ad : Addr}, CellsAt w A β cs ad → CellsAt w A β (cs.map (D.wipe q)) ad
  | [], _, _ => trivial
  | _ :: _, _, ⟨⟨u, h1, h2⟩, h3⟩ => ⟨⟨u, h1, h2.wipe q⟩, CellsAt.wipe q h3⟩
theorem FrRep.wipe {w : World} {A : Nat → Prop} {β : Env} {f : Fr} {a : Array Value} (q : Nat → Bool) (h : FrRep w A β f a) : FrRep w A β (f.wipe q) a := ⟨h.nt, fun t => (h.tm t).wipe q⟩
theorem StkRep.wipe {w : World} {A : Nat → Prop} {β : Env} (q : Nat → Bool) : ∀ {fs : List Fr} {as : List (Array Value)}, StkRep w A β fs as → StkRep w A β (fs.map (Fr.wipe q)) as
  | _, _, .nil => .nil
  | _, _, .cons h t => .cons (h.wipe q) (t.wipe q)
theorem BlkRep.wipe {w : World} {A : Nat → Prop} {β : Env} {base : Nat} {b : Blk} {ad : Addr} (q : Nat → Bool) (h : BlkRep w A β base b ad) : BlkRep w A β base (b.wipe q) ad := by
  refine ⟨h.spot, h.base, ?_, h.cells.wipe q, h.own, h.shared, ?_⟩
  · simpa [Blk.wipe] using h.obj
  · simpa [Blk.wipe] using h.inside

theorem Rel.wipe {w : World} {A : Nat → Prop} {β : Env} {base : Nat} {σ : St} {tmps : Array Value} {acts : List (Array Value)} (h : Rel w A β base σ tmps acts) (q : Nat → Bool) : Rel w A β base (σ.wipe q) tmps acts where
  fr := h.fr.wipe q
  stk := h.stk.wipe q
  blk := fun i b hb => by
    simp only [St.wipe] at hb
    split at hb
    · simp at hb
    · simp only [Option.map_eq_some_iff] at hb
      obtain ⟨b0, hb0, rfl⟩ := hb
      rcases h.blk i b0 hb0 with ⟨h1, h2⟩ | ⟨ad, h1, h2⟩
      · exact .inl ⟨h1, by simp [Blk.wipe, h2]⟩
      · exact .inr ⟨ad, h1, h2.wipe q⟩
  inj := fun i j a b hi hj => h.inj i j a b (fun e => hi (by simp only [St.wipe]; split <;> simp [e])) (fun e => hj (by simp only [St.wipe]; split <;> simp [e]))
  low := h.low
  top := h.top
  glo := h.glo
  lp := by
    show LoopRep w A β base (if q yldId then none else σ.loop) acts
    split
    · trivial
    · exact h.lp

end Go.Dam
