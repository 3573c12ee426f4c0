/- The engine, part W: an abstract machine for the program's functions, proved right against the model. No condition. -/
import Derived.Test.YtpbngkempchamaaDamV
set_option linter.unusedSectionVars false
set_option linter.unusedVariables false
set_option linter.unusedSimpArgs false
namespace Go.Dam
open Go Go.RowKit
set_option linter.unusedSectionVars false
variable [Glo]
set_option linter.unusedSimpArgs false
set_option linter.unusedVariables false

section
variable {P : Program} {F : FuncId → List D → D → Prop} {R : Array Oper}

/-- The operands alone count. -/
theorem opD_congr {bk : Nat → Option Blk} {ρ ρ' : Operand → D} {ty : TypeId} {op : Op} (h : ∀ x ∈ op.operands, ρ x = ρ' x) : opD P bk ρ ty op = opD P bk ρ' ty op := by
  have pairs : ∀ ps : Array (Nat × Operand), (∀ x ∈ ps.toList.map (·.2), ρ x = ρ' x) → (ps.toList.map fun p => (p.1, ρ p.2)) = (ps.toList.map fun p => (p.1, ρ' p.2)) := fun ps hp =>
    List.map_congr_left fun p hm => by rw [hp p.2 (List.mem_map.2 ⟨p, hm, rfl⟩)]
  cases op with
  | move x => simp only [opD, h x (by simp [Op.operands])]
  | assign x => simp only [opD, h x (by simp [Op.operands])]
  | pick c a b => simp only [opD, h c (by simp [Op.operands]), h a (by simp [Op.operands]), h b (by simp [Op.operands])]
  | box t x => simp only [opD, h x (by simp [Op.operands])]
  | build t ps => simp only [opD, pairs ps (fun x hx => h x (by simpa [Op.operands] using hx))]
  | buildSlice t n ps => simp only [opD, pairs ps (fun x hx => h x (by simpa [Op.operands] using hx))]
  | load t x => simp only [opD, h x (by simp [Op.operands])]
  | store t a x => simp only [opD, h a (by simp [Op.operands]), h x (by simp [Op.operands])]
  | nilCheck x => simp only [opD, h x (by simp [Op.operands])]
  | binOp o t x y yt => simp only [opD, h x (by simp [Op.operands]), h y (by simp [Op.operands])]
  | unOp o t x => simp only [opD, h x (by simp [Op.operands])]
  | convert s d x => simp only [opD, h x (by simp [Op.operands])]
  | makeFunc f a b =>
    cases f with
    | func f =>
      simp only [opD]
      have : b.toList.map ρ = b.toList.map ρ' := List.map_congr_left fun x hx => h x (by simp [Op.operands]; right; simpa using hx)
      rw [this]
    | _ => rfl
  | makeSlice t l c => simp only [opD, h l (by simp [Op.operands]), h c (by simp [Op.operands])]
  | slice t x lo hi mx =>
    cases mx with
    | none =>
      simp only [opD, h x (by simp [Op.operands])]
      have e1 : lo.map ρ = lo.map ρ' := by cases lo with | none => rfl | some y => simp [h y (by simp [Op.operands])]
      have e2 : hi.map ρ = hi.map ρ' := by cases hi with | none => rfl | some y => simp [h y (by simp [Op.operands])]
      rw [e1, e2]
    | some m =>
      simp only [opD, h x (by simp [Op.operands]), h m (by simp [Op.operands])]
      have e1 : lo.map ρ = lo.map ρ' := by cases lo with | none => rfl | some y => simp [h y (by simp [Op.operands])]
      have e2 : hi.map ρ = hi.map ρ' := by cases hi with | none => rfl | some y => simp [h y (by simp [Op.operands])]
      rw [e1, e2]
  | fieldAddr t x f => simp only [opD, h x (by simp [Op.operands])]
  | field t x f => simp only [opD, h x (by simp [Op.operands])]
  | indexAddr t x i => simp only [opD, h x (by simp [Op.operands]), h i (by simp [Op.operands])]
  | index t x i => simp only [opD, h x (by simp [Op.operands]), h i (by simp [Op.operands])]
  | extract x i => simp only [opD, h x (by simp [Op.operands])]
  | call c =>
    obtain ⟨callee, args, ts⟩ := c
    cases callee with
    | builtin b =>
      have hm : ∀ l : List Operand, l ⊆ args.toList → l.map ρ = l.map ρ' := fun l hl => List.map_congr_left fun x hx => h x (by simp [Op.operands, Call.operands]; simpa using hl hx)
      have hargs := hm args.toList (fun _ h => h)
      obtain ⟨args⟩ := args
      cases b with
      | len =>
        match args, ts, h with
        | [x], ⟨[t]⟩, h => simp only [opD, h x (by simp [Op.operands, Call.operands])]
        | [], _, _ => simp [opD]
        | _ :: _ :: _, _, _ => simp [opD]
        | [_], ⟨[]⟩, _ => simp [opD]
        | [_], ⟨_ :: _ :: _⟩, _ => simp [opD]
      | append =>
        match args, h with
        | [x, y], h => simp only [opD, h x (by simp [Op.operands, Call.operands]), h y (by simp [Op.operands, Call.operands])]
        | [], _ => simp [opD]
        | [_], _ => simp [opD]
        | _ :: _ :: _ :: _, _ => simp [opD]
      | copy =>
        match args, h with
        | [x, y], h => simp only [opD, h x (by simp [Op.operands, Call.operands]), h y (by simp [Op.operands, Call.operands])]
        | [], _ => simp [opD]
        | [_], _ => simp [opD]
        | _ :: _ :: _ :: _, _ => simp [opD]
      | clear =>
        match args, h with
        | [x], h => simp only [opD, h x (by simp [Op.operands, Call.operands])]
        | [], _ => simp [opD]
        | _ :: _ :: _, _ => simp [opD]
      | max => simp only [opD]; simp only [hargs]
      | min => simp only [opD]; simp only [hargs]
      | _ => rfl
    | value f => rfl
    | invoke r m => rfl
  | _ => rfl

/-- Blocks of the same cells, but for some that nothing speaks of. -/
def Agree (N : Nat → Prop) (bk bk' : Nat → Option Blk) : Prop := ∀ i, ¬ N i → (bk' i).map Blk.cells = (bk i).map Blk.cells

theorem Agree.symm {N : Nat → Prop} {bk bk' : Nat → Option Blk} (h : Agree N bk bk') : Agree N bk' bk := fun i hi => (h i hi).symm

theorem behind_agree {N : Nat → Prop} {bk bk' : Nat → Option Blk} (h : Agree N bk bk') {d : D} (hd : ∀ i, N i → d.has i = false) : d.behind bk' = d.behind bk := by
  cases d with
  | ptr id off =>
    have hn : ¬ N id := fun hN => by have := hd id hN; simp [D.has] at this
    have := h id hn
    simp only [D.behind]
    cases h1 : bk id <;> cases h2 : bk' id <;> simp [h1, h2] at this ⊢
    exact this
  | pel id i n j =>
    have hn : ¬ N id := fun hN => by have := hd id hN; simp [D.has] at this
    have := h id hn
    simp only [D.behind]
    cases h1 : bk id <;> cases h2 : bk' id <;> simp [h1, h2] at this ⊢
    exact this
  | _ => rfl

theorem slice_agree {bk bk' : Nat → Option Blk} {t : TypeId} {x : D} {lo hi : Option D} (h : ∀ id off, x = .ptr id off → (bk' id).map Blk.cells = (bk id).map Blk.cells) : sliceD P bk' t x lo hi = sliceD P bk t x lo hi := by
  by_cases hp : ∃ id off, x = .ptr id off
  · obtain ⟨id, off, rfl⟩ := hp
    have hid := h id off rfl
    show sliceP P bk' t _ lo hi = sliceP P bk t _ lo hi
    unfold sliceP
    cases P.underlying t with
    | none => rfl
    | some u =>
      cases u with
      | array n elem =>
        simp only []
        cases P.info? elem with
        | none => rfl
        | some j =>
          cases boundD hi n n with
          | none => rfl
          | some h' =>
            simp only []
            cases boundD lo 0 h' with
            | none => rfl
            | some l =>
              simp only []
              cases h1 : bk id with
              | none => cases h2 : bk' id with
                | none => rfl
                | some b' => rw [h1, h2] at hid; simp at hid
              | some b => cases h2 : bk' id with
                | none => rw [h1, h2] at hid; simp at hid
                | some b' => rw [h1, h2] at hid; simp at hid; simp only [hid]
      | _ => rfl
  · suffices hs : sliceP P bk' t x lo hi = sliceP P bk t x lo hi by
      unfold sliceD; split
      · rfl
      · exact hs
    unfold sliceP
    cases P.underlying t with
    | none => rfl
    | some u =>
      cases x with
      | ptr id off => exact absurd ⟨id, off, rfl⟩ hp
      | v y => cases u <;> cases y <;> first | rfl | (rename_i o n c; cases o <;> cases n <;> cases c <;> rfl)
      | _ => cases u <;> rfl

theorem elems_agree {bk bk' : Nat → Option Blk} {size : Nat} {x : D} (h : ∀ id off n sz, x = .sl id off n sz → (bk' id).map Blk.cells = (bk id).map Blk.cells) : x.elems bk' size = x.elems bk size := by
  cases x with
  | sl id off n sz =>
    have hid := h id off n sz rfl
    simp only [D.elems]
    cases h1 : bk id with
    | none => cases h2 : bk' id with
      | none => rfl
      | some b' => rw [h1, h2] at hid; simp at hid
    | some b => cases h2 : bk' id with
      | none => rw [h1, h2] at hid; simp at hid
      | some b' => rw [h1, h2] at hid; simp at hid; simp only [hid]
  | v y =>
    cases y with
    | slice o n c => cases o <;> cases n <;> cases c <;> rfl
    | _ => rfl
  | _ => rfl

theorem opD_agree {N : Nat → Prop} {bk bk' : Nat → Option Blk} (h : Agree N bk bk') {ρ : Operand → D} {ty : TypeId} {op : Op} (hk : kindOf P op ≤ 1) (hn : ∀ x ∈ op.operands, ∀ i, N i → (ρ x).has i = false) : opD P bk' ρ ty op = opD P bk ρ ty op := by
  cases op with
  | load t a => simp only [opD, loadD, behind_agree h (hn a (by simp [Op.operands]))]
  | slice t x lo hi mx =>
    cases mx with
    | none =>
      simp only [opD]
      refine slice_agree (fun id off hρ => h id fun hN => ?_)
      have := hn x (by simp [Op.operands]) id hN
      rw [hρ] at this
      simp [D.has] at this
    | some _ => rfl
  | store t a x => simp [kindOf] at hk
  | call c =>
    obtain ⟨callee, args, ts⟩ := c
    cases callee with
    | builtin b =>
      obtain ⟨args⟩ := args
      obtain ⟨ts⟩ := ts
      have key : ∀ y ∈ args, ∀ size, (ρ y).elems bk' size = (ρ y).elems bk size := fun y hy size => elems_agree (fun id off n sz hρ => h id fun hN => by
        have := hn y (by simp [Op.operands, Call.operands, hy]) id hN
        rw [hρ] at this
        simp [D.has] at this)
      cases b with
      | append =>
        rcases args with _ | ⟨x, _ | ⟨y, _ | ⟨z, l⟩⟩⟩
        · rfl
        · rfl
        · simp only [opD, appendD, key y (by simp)]
        · rfl
      | len => rcases args with _ | ⟨x, _ | ⟨y, l⟩⟩ <;> rcases ts with _ | ⟨t, _ | ⟨u, m⟩⟩ <;> rfl
      | _ => first | rfl | (simp [kindOf] at hk; done)
    | value f => rfl
    | invoke r m => rfl
  | makeFunc f a b => cases f <;> rfl
  | _ => rfl

/-- For what reads nothing, memory doesn't count. -/
theorem opD_pure {bk bk' : Nat → Option Blk} {ρ : Operand → D} {ty : TypeId} {op : Op} (hk : kindOf P op = 0) : opD P bk' ρ ty op = opD P bk ρ ty op := by
  cases op with
  | load t a => simp [kindOf] at hk
  | slice t x lo hi mx => cases mx with | none => simp [kindOf] at hk | some _ => rfl
  | store t a x => simp [kindOf] at hk
  | call c =>
    obtain ⟨callee, args, ts⟩ := c
    cases callee with
    | builtin b =>
      obtain ⟨args⟩ := args
      obtain ⟨ts⟩ := ts
      cases b <;> first | rfl | (simp [kindOf] at hk; done) | (rcases args with _ | ⟨x, _ | ⟨y, l⟩⟩ <;> rcases ts with _ | ⟨t, _ | ⟨u, m⟩⟩ <;> rfl)
    | value f => simp [kindOf] at hk
    | invoke r m => rfl
  | makeFunc f a b => cases f <;> rfl
  | _ => rfl

mutual
/-- Shared content, by blocks of the same cells. -/
theorem share_agree {N : Nat → Prop} {bk bk' : Nat → Option Blk} (h : Agree N bk bk') (hb : ∀ i b, bk i = some b → ∀ n, N n → D.hasL n b.cells = false) : ∀ (k : Nat) (d : D), (∀ i, N i → d.has i = false) → share bk' k d = share bk k d
  | 0, .undef, _ | 0, .yld, _ | 0, .emp, _ | 0, .rc _, _ | 0, .oc _, _ | 0, .pel _ _ _ _, _ | 0, .v _, _ | 0, .sh _ _, _ | 0, .ow _ _ _, _ | 0, .sl _ _ _ _, _ | 0, .ptr _ _, _ | 0, .shp _ _, _ | 0, .agg _, _ | 0, .tup _, _ => rfl
  | 0, .fn _ cs, _ => by cases cs <;> rfl
  | k + 1, .sl id off n sz, hd => by
    have hn : ¬ N id := fun hN => by have := hd id hN; simp [D.has] at this
    have hid := h id hn
    simp only [share]
    cases h1 : bk id with
    | none => cases h2 : bk' id with
      | none => rfl
      | some b' => rw [h1, h2] at hid; simp at hid
    | some b => cases h2 : bk' id with
      | none => rw [h1, h2] at hid; simp at hid
      | some b' =>
        rw [h1, h2] at hid
        simp at hid
        simp only [hid]
        have hcs : ∀ i, N i → D.hasL i ((b.cells.drop off).take (n * sz)) = false := fun i hi => hasL_sub (hb id b h1 i hi) _ _
        have e : share.shareAll (share bk' k) ((b.cells.drop off).take (n * sz)) = share.shareAll (share bk k) ((b.cells.drop off).take (n * sz)) := shareAll_agree h hb k _ hcs
        rw [e]
  | k + 1, .agg cs, hd => by
    simp only [share]
    have e : share.shareAll (share bk' k) cs = share.shareAll (share bk k) cs := shareAll_agree h hb k cs (fun i hi => by simpa [D.has] using hd i hi)
    rw [e]
  | k + 1, .undef, _ => rfl
  | k + 1, .v _, _ => rfl
  | k + 1, .yld, _ => rfl
  | k + 1, .sh _ _, _ => rfl
  | k + 1, .rc _, _ => rfl
  | k + 1, .oc _, _ => rfl
  | k + 1, .pel _ _ _ _, _ => rfl
  | k + 1, .ow _ _ _, _ => rfl
  | k + 1, .ptr _ _, _ => rfl
  | k + 1, .shp _ _, _ => rfl
  | k + 1, .emp, _ => rfl
  | k + 1, .fn _ cs, _ => by cases cs <;> rfl
  | k + 1, .tup _, _ => rfl
theorem shareAll_agree {N : Nat → Prop} {bk bk' : Nat → Option Blk} (h : Agree N bk bk') (hb : ∀ i b, bk i = some b → ∀ n, N n → D.hasL n b.cells = false) : ∀ (k : Nat) (ds : List D), (∀ i, N i → D.hasL i ds = false) → shareAll (share bk' k) ds = shareAll (share bk k) ds
  | _, [], _ => rfl
  | k, d :: ds, hd => by
    have e : share.shareAll (share bk' k) ds = share.shareAll (share bk k) ds := shareAll_agree h hb k ds (fun i hi => by have := hd i hi; simp [D.hasL] at this; exact this.2)
    simp only [share.shareAll]
    rw [e, share_agree h hb k d (fun i hi => by have := hd i hi; simp [D.hasL] at this; exact this.1)]
theorem hasL_sub {i : Nat} {cs : List D} (h : D.hasL i cs = false) (a b : Nat) : D.hasL i ((cs.drop a).take b) = false := by
  have hd : ∀ (a : Nat) (cs : List D), D.hasL i cs = false → D.hasL i (cs.drop a) = false := by
    intro a
    induction a with
    | zero => intro cs h; simpa using h
    | succ a ih =>
      intro cs h
      cases cs with
      | nil => simpa using h
      | cons d ds => simp [D.hasL] at h; simpa using ih ds h.2
  have ht : ∀ (b : Nat) (cs : List D), D.hasL i cs = false → D.hasL i (cs.take b) = false := by
    intro b
    induction b with
    | zero => intro cs h; simp [D.hasL]
    | succ b ih =>
      intro cs h
      cases cs with
      | nil => simp [D.hasL]
      | cons d ds => simp [D.hasL] at h; simp [D.hasL, h.1, ih ds h.2]
  exact ht b _ (hd a cs h)
end

/-- The blocks that were told are those that count. -/
theorem share_told {n : Nat} {bk bk' : Nat → Option Blk} (h : Agree (· = n) bk bk') : ∀ (k : Nat) (d e : D) (ids : List Nat), share bk k d = some (e, ids) → n ∉ ids → share bk' k d = some (e, ids) := by
  intro k
  induction k with
  | zero =>
    intro d e ids hd _
    cases d with
    | fn f cs => cases cs <;> exact hd
    | _ => exact hd
  | succ k ih =>
    have hall : ∀ (ds es : List D) (ids : List Nat), shareAll (share bk k) ds = some (es, ids) → n ∉ ids → shareAll (share bk' k) ds = some (es, ids) := by
      intro ds
      induction ds with
      | nil => intro es ids hd _; exact hd
      | cons d ds ihd =>
        intro es ids hd hn
        simp only [share.shareAll] at hd ⊢
        split at hd
        next e i es' is' h1 h2 =>
          simp at hd; obtain ⟨rfl, rfl⟩ := hd
          have e2 := ihd es' is' h2 (fun hm => hn (by simp [hm]))
          simp only [shareAll] at e2
          rw [ih d e i h1 (fun hm => hn (by simp [hm])), e2]
        · cases hd
    intro d e ids hd hn
    cases d with
    | sl id off m sz =>
      simp only [share] at hd ⊢
      split at hd
      · cases hd
      next b hb =>
        split at hd
        next hl =>
          split at hd
          · cases hd
          next cs is h1 =>
            simp at hd; obtain ⟨rfl, rfl⟩ := hd
            have hne : ¬ id = n := fun e => hn (by simp [e])
            have hid := h id hne
            cases h2 : bk' id with
            | none => rw [hb, h2] at hid; simp at hid
            | some b' =>
              rw [hb, h2] at hid
              simp at hid
              simp only [hid, hl, if_true]
              have e := hall _ _ _ h1 (fun hm => hn (by simp [hm]))
              simp only [shareAll] at e
              rw [e]
        · cases hd
    | agg cs =>
      simp only [share] at hd ⊢
      split at hd
      · cases hd
      next ds is h1 =>
        simp at hd; obtain ⟨rfl, rfl⟩ := hd
        have e := hall _ _ _ h1 hn
        simp only [shareAll] at e
        rw [e]
    | fn f cs => cases cs <;> exact hd
    | _ => exact hd

theorem shareAll_told {n : Nat} {bk bk' : Nat → Option Blk} (h : Agree (· = n) bk bk') (k : Nat) : ∀ (ds es : List D) (ids : List Nat), shareAll (share bk k) ds = some (es, ids) → n ∉ ids → shareAll (share bk' k) ds = some (es, ids)
  | [], es, ids, hd, _ => hd
  | d :: ds, es, ids, hd, hn => by
    simp only [share.shareAll] at hd ⊢
    split at hd
    next e i es' is' h1 h2 =>
      simp at hd; obtain ⟨rfl, rfl⟩ := hd
      have e2 := shareAll_told h k ds es' is' h2 (fun hm => hn (by simp [hm]))
      simp only [shareAll] at e2
      rw [share_told h k d e i h1 (fun hm => hn (by simp [hm])), e2]
    · cases hd

end
end Go.Dam
