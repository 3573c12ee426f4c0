/- The engine: an abstract machine for the program's functions, proved right against the model. No condition. -/
import Derived.Test.YtakcfkmfiamliaaDamK
set_option linter.unusedSectionVars false
set_option linter.unusedVariables false
set_option linter.unusedSimpArgs false
section
namespace Go.Dam
open Go Go.RowKit
variable [Glo]
section
variable {P : Program} {w : World} {A : Nat → Prop} {β : Env} {base : Nat} {σ : St} {tmps : Array Value} {acts : List (Array Value)}
theorem good_of {s : Sem Value} {e : Eff} (h : ∃ d u, e = .val d ∧ s.run P w = .ok u w ∧ Rep w A β d u) : Good P w A β ((s.run P w).andThen fun v w' => .ok (.value v) w') e := by
 obtain ⟨d, u, rfl, h1, h2⟩ := h
 exact ⟨u, by rw [h1]; rfl, h2⟩
theorem of_v {s : Sem Value} {e : Eff} (h : Good P w A β ((s.run P w).andThen fun v w' => .ok (.value v) w') e) : Good P w A β ((s >>= fun v => (pure (Next.value v) : Sem Next)).run P w) e := by
 rw [Sem.run_bind]; exact h
theorem good_pure {s : Sem Value} {e : Eff} (h : pureD P s = some e) : Good P w A β ((s.run P w).andThen fun v w' => .ok (.value v) w') e := by
 obtain ⟨u, h1, rfl⟩ := pureD_sound (w := w) h
 exact ⟨u, by rw [h1]; rfl, Rep.ofV u⟩
theorem plains_spec {ρ : Operand → D} {ρv : Operand → Value} (hρ : ∀ x, Rep w A β (ρ x) (ρv x)) : ∀ (xs : List Operand) (vs : List Value), D.plains (xs.map ρ) = some vs → xs.map ρv = vs
 | [], vs, h => by simp [D.plains] at h; simp [h]
 | x :: xs, vs, h => by
  simp only [D.plains, List.map_cons, List.mapM_cons, Option.bind_eq_bind, Option.bind_eq_some_iff, Option.pure_def, Option.some.injEq] at h
  obtain ⟨u, h1, us, h2, rfl⟩ := h
  simp only [List.map_cons, plains_spec hρ xs us h2, (hρ x).plain h1]
theorem maps_rel {ρ : Operand → D} {ρv : Operand → Value} (hρ : ∀ x, Rep w A β (ρ x) (ρv x)) : ∀ (xs : List Operand), RepLs w A β (xs.map ρ) (xs.map ρv)
 | [] => by simp [RepLs]
 | x :: xs => by simp only [List.map_cons, RepLs]; exact ⟨_, _, rfl, hρ x, maps_rel hρ xs⟩
theorem copy_sound (hrel : Rel w A β base σ tmps acts) {ts : Array TypeId} {ty : TypeId} {d x : D} {vd vx : Value} (hd : Rep w A β d vd) (hx : Rep w A β x vx) {e : Eff} (h : copyD P σ.bk ts d x = some e) :
  Good P w A β (((Builtin.copy_ ts ty #[vd, vx]).run P w).andThen fun v w' => .ok (.value v) w') e := by
 unfold copyD at h
 split at h
 next t t2 =>
  split at h
  next el hu =>
   split at h
   next j hj =>
    split at h
    next id off n sz m ds hel =>
     split at h
     next hc =>
      simp at h; subst h
      obtain ⟨sz, r⟩ := sz
      simp only at hc
      obtain ⟨rfl, hn0, hone⟩ := hc
      obtain ⟨vs, hsrc, hds, hdl⟩ := elems_sound (P := P) hrel hx hel
      simp only [Rep] at hd
      obtain ⟨o, c, rfl, hd⟩ := hd
      rcases hd with ⟨h1, _⟩ | ⟨_, ad, h1, rfl, _⟩
      ·exact absurd (by omega) hn0
      have hvl := hds.length
      -- as many as both have
      have hfirst : (Builtin.firstCells j.size (Nat.min m n) vx).run P w = .ok (vs.take (Nat.min m n * j.size)).toArray w := by
       have hall := hsrc.cells w rfl
       cases vx with
       | slice oa l cap =>
        have hl : l = m := by have := hsrc.len; simp [Builtin.lenOf] at this; exact this
        subst hl
        cases oa with
        | none =>
         simp [Builtin.firstCells] at hall ⊢
         have : vs = [] := by simpa using hall.symm
         simp [this]
        | some a =>
         simp only [Builtin.firstCells] at hall ⊢
         have key : ∀ (k2 n0 i : Nat) (acc r : Array Value), (loadCellsFrom a i (n0 + k2) acc).run P w = .ok r w → r.size = acc.size + (n0 + k2) ∧ (loadCellsFrom a i n0 acc).run P w = .ok (r.extract 0 (acc.size + n0)) w := by
          intro k2 n0
          induction n0 with
          | zero =>
           intro i acc r hr
           have hpre : ∀ (k i : Nat) (acc r : Array Value), (loadCellsFrom a i k acc).run P w = .ok r w → r.size = acc.size + k ∧ r.extract 0 acc.size = acc := by
            intro k
            induction k with
            | zero => intro i acc r h; simp [loadCellsFrom] at h; subst h; simp
            | succ k ih =>
             intro i acc r h
             simp only [loadCellsFrom, Sem.run_bind] at h
             obtain ⟨u, w1, h2, h3⟩ := Result.andThen_eq_ok' h
             have hw1 : w1 = w := by
              simp only [run_load] at h2
              split at h2
              ·simp at h2; exact h2.2.symm
              ·split at h2
               ·simp at h2; exact h2.2.symm
               ·cases h2
             subst hw1
             obtain ⟨h4, h5⟩ := ih (i + 1) _ r h3
             simp at h4
             refine ⟨by omega, ?_⟩
             have := congrArg (fun x => x.extract 0 acc.size) h5
             simpa [Array.extract_extract] using this
           obtain ⟨h4, h5⟩ := hpre _ i acc r (by simpa using hr)
           exact ⟨by omega, by simp [loadCellsFrom, h5]⟩
          | succ n0 ih =>
           intro i acc r hr
           rw [show n0 + 1 + k2 = (n0 + k2) + 1 from by omega] at hr
           simp only [loadCellsFrom, Sem.run_bind] at hr ⊢
           obtain ⟨u, w1, h2, h3⟩ := Result.andThen_eq_ok' hr
           have hw1 : w1 = w := by
            simp only [run_load] at h2
            split at h2
            ·simp at h2; exact h2.2.symm
            ·split at h2
             ·simp at h2; exact h2.2.symm
             ·cases h2
           subst hw1
           obtain ⟨h4, h5⟩ := ih (i + 1) _ r h3
           simp at h4 h5
           rw [h2]
           refine ⟨by omega, ?_⟩
           simp only [Result.andThen_ok, h5]
           congr 2; omega
         have hle : Nat.min l n * j.size ≤ l * j.size := Nat.mul_le_mul_right _ (Nat.min_le_left _ _)
         have h6 := (key (l * j.size - Nat.min l n * j.size) (Nat.min l n * j.size) 0 #[] vs.toArray (by rw [Nat.add_sub_cancel' hle]; exact hall)).2
         simp only [loadCells]
         rw [h6]
         congr 1
         simp
       | string s =>
        exfalso
        cases x with
        | sh _ _ => simp only [Rep, RepS] at hx; obtain ⟨o, c, h, _⟩ := hx; cases h
        | sl _ _ _ _ => simp only [Rep] at hx; obtain ⟨o, c, h, _⟩ := hx; cases h
        | v y =>
         simp only [Rep, RepS] at hx; subst hx
         simp [D.elems] at hel
        | emp => simp only [Rep, RepS] at hx; obtain ⟨o, h⟩ := hx; cases h
        | rc cs => simp only [Rep, RepS] at hx; obtain ⟨o, c, h, _⟩ := hx; cases h
        | _ => simp [D.elems] at hel
       | _ => have := hsrc.len; simp [Builtin.lenOf] at this
      refine ⟨ad, vs.take (Nat.min m n * j.size), h1, hds.take _, ?_, ?_⟩
      ·intro u hu
       exact ones_spec hds hone u (List.mem_of_mem_take hu)
      ·simp [Builtin.copy_, run_underlying hu, hsrc.len, run_sizeOf hj, hfirst]
       cases (storeCells (plusOff ad off) (List.take (m.min n * j.size) vs)).run P w <;> rfl
     ·cases h
    ·cases h
   ·cases h
  ·cases h
 ·cases h
theorem append_good (hrel : Rel w A β base σ tmps acts) {ts : Array TypeId} {ty : TypeId} {s x : D} {vs vx : Value} (hs : Rep w A β s vs) (hx : Rep w A β x vx) {e : Eff} (h : appendD P σ.bk ts s x = some e) :
  Good P w A β (((Builtin.append_ ts ty #[vs, vx]).run P w).andThen fun v w' => .ok (.value v) w') e := by
 unfold appendD at h
 split at h
 next t t2 =>
  split at h
  next el e2 hu hu2 =>
   split at h
   next j hj =>
    split at h
    next z hz =>
     split at h
     next hb =>
      split at h
      next m ds hel =>
       split at h
       next hone =>
        obtain ⟨us, hsrc, hds, hdl⟩ := elems_sound (P := P) hrel hx hel
        split at h
        ·split at h
         next hbd =>
          simp at h; subst h
          have hs0 := hs
          simp only [Rep, RepS] at hs; subst hs
          exact ⟨t, t2, ty, el, e2, j, z, none, 0, 0, vx, us, hu, hu2, hj, hz, hb.2, hb.1, rfl, hsrc, hds, ones_spec hds hone, by rw [Nat.zero_add]; exact hbd, hdl, hs0, (fun _ _ _ _ h => by cases h), (fun u h => by cases h; rfl), rfl⟩
         next => cases h
        ·split at h
         next hbd =>
          have hs0 := hs
          simp only [Rep, RepS] at hs
          obtain ⟨o, rfl⟩ := hs
          cases m with
          | zero =>
           simp [appOf] at h; subst h
           have hds0 : ds = [] := List.length_eq_zero_iff.1 (by omega)
           subst hds0
           simp only [RepLs] at hds; subst hds
           have hd2 : ∀ k, TypeDesc.slice e2 ≠ .int k := fun k h => by cases h
           have g := append_fits (w := w) (w' := w) (ty := ty) hu hj hu2 hd2 hsrc (n := 0) (c := 0) (o := some o) (by omega) (fun a h => by simp [storeCells]) (fun _ => rfl)
           exact ⟨_, by rw [g]; rfl, by simpa using hs0⟩
          | succ m =>
          simp [appOf] at h; subst h
          exact ⟨t, t2, ty, el, e2, j, z, some o, 0, 0, vx, us, hu, hu2, hj, hz, hb.2, hb.1, rfl, hsrc, hds, ones_spec hds hone, by rw [Nat.zero_add]; exact hbd, hdl, hs0, (fun _ _ _ _ h => by cases h), (fun u h => by cases h), rfl⟩
         next => cases h
        next id off n sz =>
         split at h
         next hbd =>
          obtain ⟨sz, r⟩ := sz
          try simp only at hbd
          obtain ⟨rfl, hbd⟩ := hbd
          have hs0 := hs
          simp only [Rep] at hs
          obtain ⟨o, c, rfl, hsr⟩ := hs
          try simp only at hsr
          cases m with
          | zero =>
           simp [appOf] at h; subst h
           have hds0 : ds = [] := List.length_eq_zero_iff.1 (by omega)
           subst hds0
           simp only [RepLs] at hds; subst hds
           have hd2 : ∀ k, TypeDesc.slice e2 ≠ .int k := fun k h => by cases h
           have g := append_fits (w := w) (w' := w) (ty := ty) hu hj hu2 hd2 hsrc (n := n) (c := c) (o := o) (by rcases hsr with h | h <;> omega) (fun a h => by simp [storeCells]) (fun _ => rfl)
           exact ⟨_, by rw [g]; rfl, by simpa using hs0⟩
          | succ m =>
          simp [appOf] at h; subst h
          exact ⟨t, t2, ty, el, e2, j, z, o, n, c, vx, us, hu, hu2, hj, hz, hb.2, hb.1, rfl, hsrc, hds, ones_spec hds hone, hbd, hdl, hs0, (fun _ _ _ _ h => by cases h; rfl), (fun u h => by cases h), rfl⟩
         next => cases h
        ·cases h
       next => cases h
      next => cases h
     next => cases h
    next => cases h
   next => cases h
  next => cases h
 ·cases h
theorem zeroCells_mem {z : Array Value} {n : Nat} {u : Value} (h : u ∈ (Builtin.zeroCells z n).toList) : u ∈ z.toList := by
 simp only [Builtin.zeroCells, Array.toList_map, Array.toList_range, List.mem_map, List.mem_range] at h
 obtain ⟨i, hi, rfl⟩ := h
 have hz : 0 < z.size := by
  rcases Nat.eq_zero_or_pos z.size with e | e
  ·rw [e] at hi; omega
  ·exact e
 have hlt : i % z.size < z.size := Nat.mod_lt _ hz
 rw [getElem!_pos z (i % z.size) hlt]
 simp
theorem clear_sound {ts : Array TypeId} {ty : TypeId} {d : D} {vd : Value} (hd : Rep w A β d vd) {e : Eff} (h : clearD P ts d = some e) :
  Good P w A β (((Builtin.clear_ ts ty #[vd]).run P w).andThen fun v w' => .ok (.value v) w') e := by
 unfold clearD at h
 split at h
 next t =>
  split at h
  next el hu =>
   split at h
   next j hj =>
    split at h
    next z hz =>
     split at h
     next id off n sz =>
      split at h
      next hc =>
       simp only [Option.some.injEq] at h; subst h
       obtain ⟨hn0, hsz, hone⟩ := hc
       simp only [Rep] at hd
       obtain ⟨o, c, rfl, hd⟩ := hd
       rcases hd with ⟨h1, _⟩ | ⟨_, ad, h1, rfl, _⟩
       ·exact absurd (by omega) hn0
       refine ⟨ad, (Builtin.zeroCells z.cells n).toList, h1, RepLs.ofV _, fun u hu => List.all_eq_true.1 hone u (zeroCells_mem hu), ?_⟩
       cases n with
       | zero => exact absurd rfl hn0
       | succ n =>
        simp only [Builtin.clear_, Sem.run_bind, run_underlying hu, run_zeroValue hj hz, Result.andThen_ok, Sem.run_pure, List.getElem?_toArray, List.getElem?_cons_zero]
        cases (storeCells (plusOff ad off) (Builtin.zeroCells z.cells (n + 1)).toList).run P w <;> rfl
      ·cases h
     ·cases h
    ·cases h
   ·cases h
  ·cases h
 ·cases h
/-- What is not nil, what is. -/
inductive HeldV : Nat → Value → Prop
 | slice {ad : Addr} {n c : Nat} : HeldV 1 (.slice (some ad) n c)
 | ptr {ad : Addr} : HeldV 2 (.pointer (some ad))
 | fn {f : Fn} {a b : Array Value} : HeldV 3 (.func f a b)
theorem held_spec {a : D} {va : Value} (ha : Rep w A β a va) {k : Nat} (h : heldKind a = k) (hk : k ≠ 0) : HeldV k va := by
 cases a with
 | sh n cs =>
  simp only [heldKind] at h
  split at h
  ·exact absurd h.symm hk
  next hn =>
   subst h
   simp only [Rep, RepS] at ha
   obtain ⟨o, c, rfl, _, h1, _⟩ := ha
   obtain ⟨ad, rfl, _⟩ := h1 (.inl hn)
   exact .slice
 | sl id off n sz =>
  simp only [heldKind] at h
  split at h
  ·exact absurd h.symm hk
  next hn =>
   subst h
   simp only [Rep] at ha
   obtain ⟨o, c, rfl, h1⟩ := ha
   rcases h1 with ⟨h1, _⟩ | ⟨_, ad, _, rfl, _⟩
   ·exact absurd (by omega) hn
   ·exact .slice
 | rc cs =>
  simp only [heldKind, cond_eq_ite] at h
  split at h
  next hL =>
   subst h
   simp only [Rep, RepS] at ha
   obtain ⟨o, c, rfl, hv, _⟩ := ha
   cases o with
   | none => exact absurd rfl (hv hL)
   | some ad => exact .slice
  next => exact absurd h.symm hk
 | emp => simp only [heldKind] at h; subst h; simp only [Rep, RepS] at ha; obtain ⟨ad, rfl⟩ := ha; exact .slice
 | ptr id off => simp only [heldKind] at h; subst h; simp only [Rep] at ha; obtain ⟨ad, _, rfl⟩ := ha; exact .ptr
 | pel id i n j => simp only [heldKind] at h; subst h; simp only [Rep] at ha; obtain ⟨ad, _, rfl⟩ := ha; exact .ptr
 | shp cs off => simp only [heldKind] at h; subst h; simp only [Rep, RepS] at ha; obtain ⟨ad, rfl, _⟩ := ha; exact .ptr
 | fn f cs => simp only [heldKind] at h; subst h; simp only [Rep] at ha; obtain ⟨vs, rfl, _⟩ := ha; exact .fn
 | _ => simp only [heldKind] at h; exact absurd h.symm hk
inductive NilV : Nat → Value → Prop
 | slice : NilV 1 (.slice none 0 0)
 | ptr : NilV 2 (.pointer none)
 | fn : NilV 3 .nilFunc
theorem nil_spec {b : D} {vb : Value} (hb : Rep w A β b vb) {k : Nat} (h : nilKind b = k) (hk : k ≠ 0) : NilV k vb := by
 unfold nilKind at h
 split at h
 ·subst h; simp only [Rep, RepS] at hb; subst hb; exact .slice
 ·subst h; simp only [Rep, RepS] at hb; subst hb; exact .ptr
 ·subst h; simp only [Rep, RepS] at hb; subst hb; exact .fn
 ·exact absurd h.symm hk
theorem nilCmp_sound {bop : BinOp} {t : TypeId} {x y : Operand} {a b : D} {va vb : Value} (ha : Rep w A β a va) (hb : Rep w A β b vb) {e : Eff} (h : nilCmpD P bop t a b = some e) :
  ∃ d u, e = .val d ∧ (do eqGuard bop t x y va vb; binOp bop t va vb : Sem Value).run P w = .ok u w ∧ Rep w A β d u := by
 unfold nilCmpD at h
 split at h
 next d hu =>
  have hk : descKind d ≠ 0 := by unfold descKind; split <;> decide
  have hno : descKind d ≠ 4 → (∀ k v, HeldV k v → k = descKind d → ∀ v', NilV k v' → ∀ m, (Op.equalIn (m + 1) t v v').run P w = .ok false w ∧ (Op.equalIn (m + 1) t v' v).run P w = .ok false w) := by
   intro h4 k v hv hkd v' hn m
   cases hv with
   | slice =>
    cases hn
    cases d <;> simp [descKind] at hkd
    simp [Op.equalIn, run_underlying hu]
   | ptr =>
    cases hn
    cases d <;> simp [descKind] at hkd
    simp [Op.equalIn, run_underlying hu]
   | fn =>
    cases hn
    cases d <;> simp [descKind] at hkd
    simp [Op.equalIn, run_underlying hu]
  have fin : ∀ (hh : (Op.equal t va vb).run P w = .ok false w) (hg : (eqGuard .eql t x y va vb).run P w = .ok () w ∧ (eqGuard .neq t x y va vb).run P w = .ok () w)
    (hb2 : binOp .eql t va vb = (do pure (.bool (← Op.equal t va vb))) ∧ binOp .neq t va vb = (do pure (.bool (!(← Op.equal t va vb))))),
    ∀ e, (match bop with | .eql => some (Eff.val (.v (.bool false))) | .neq => some (.val (.v (.bool true))) | _ => none) = some e →
     ∃ d u, e = .val d ∧ (do eqGuard bop t x y va vb; binOp bop t va vb : Sem Value).run P w = .ok u w ∧ Rep w A β d u := by
   intro hh hg hb2 e he
   cases bop <;> simp only [Option.some.injEq] at he <;> first | (cases he; done) | skip
   ·subst he; refine ⟨_, .bool false, rfl, ?_, by simp [Rep, RepS]⟩
    rw [hb2.1]
    simp only [Sem.run_bind, hg.1, Result.andThen_ok, hh, Sem.run_pure]
   ·subst he; refine ⟨_, .bool true, rfl, ?_, by simp [Rep, RepS]⟩
    rw [hb2.2]
    simp only [Sem.run_bind, hg.2, Result.andThen_ok, hh, Sem.run_pure, Bool.not_false]
  split at h
  next hc =>
   rcases hc with ⟨h1, h2⟩ | ⟨h1, h2⟩
   ·have hv := held_spec ha h1 hk
    have hn := nil_spec hb h2 hk
    have h4 : descKind d ≠ 4 := by intro h4; rw [h4] at hv; cases hv
    refine fin (hno h4 _ _ hv rfl _ hn 9999).1 ?_ ?_ e h
    all_goals generalize descKind d = kk at hv hn
    ·cases hv <;> cases hn <;> simp [eqGuard]
    ·cases hv <;> cases hn <;> exact ⟨rfl, rfl⟩
   ·have hv := held_spec hb h2 hk
    have hn := nil_spec ha h1 hk
    have h4 : descKind d ≠ 4 := by intro h4; rw [h4] at hv; cases hv
    refine fin (hno h4 _ _ hv rfl _ hn 9999).2 ?_ ?_ e h
    all_goals generalize descKind d = kk at hv hn
    ·cases hv <;> cases hn <;> simp [eqGuard]
    ·cases hv <;> cases hn <;> exact ⟨rfl, rfl⟩
  ·cases h
 ·cases h
/-! Numbers and truth values. -/
theorem eqGuard_int {bop : BinOp} {t : TypeId} {x y : Operand} {k k' : IntKind} {a b : Int} : (eqGuard bop t x y (.int k a) (.int k' b)).run P w = .ok () w := by
 cases bop <;> rfl
theorem shl_run {k yk : IntKind} {x y : Int} (h : ¬ y < 0) : (Op.shift .shl k x yk y).run P w = .ok (.int k (opI .shl k x y)) w := by
 unfold Op.shift; rw [if_neg h]; rfl
theorem shr_run {k yk : IntKind} {x y : Int} (h : ¬ y < 0) : (Op.shift .shr k x yk y).run P w = .ok (.int k (opI .shr k x y)) w := by
 unfold Op.shift; rw [if_neg h]; rfl
theorem quo_run {k : IntKind} {x y : Int} (h : ¬ y = 0) : (Op.intDiv .quo k x y).run P w = .ok (.int k (opI .quo k x y)) w := by
 unfold Op.intDiv; rw [if_neg h]; rfl
theorem rem_run {k : IntKind} {x y : Int} (h : ¬ y = 0) : (Op.intDiv .rem k x y).run P w = .ok (.int k (opI .rem k x y)) w := by
 unfold Op.intDiv; rw [if_neg h]; rfl
theorem intD_sound {bop : BinOp} {t : TypeId} {k k' : IntKind} {p q : Int} {d : D} (h : intD bop k k' p q = some d) :
  ∃ u, (binOp bop t (.int k p) (.int k' q)).run P w = .ok u w ∧ Rep w A β d u := by
 unfold intD at h
 split at h
 case h_1 =>
  split at h
  next hc => simp only [Option.some.injEq] at h; subst h; exact ⟨_, shl_run (yk := k') (show ¬ q < 0 by omega), by simp [Rep, RepS]⟩
  ·cases h
 case h_2 =>
  split at h
  next hc => simp only [Option.some.injEq] at h; subst h; exact ⟨_, shr_run (yk := k') (show ¬ q < 0 by omega), by simp [Rep, RepS]⟩
  ·cases h
 case h_3 =>
  split at h
  next hk =>
   subst hk
   split at h
   ·cases h
   next hc =>
    simp only [Option.some.injEq] at h; subst h
    refine ⟨.int k (opI .quo k p q), ?_, by simp [Rep, RepS]⟩
    simp only [binOp, ne_eq, not_true_eq_false, if_false]
    exact quo_run hc
  ·cases h
 case h_4 =>
  split at h
  next hk =>
   subst hk
   split at h
   ·cases h
   next hc =>
    simp only [Option.some.injEq] at h; subst h
    refine ⟨.int k (opI .rem k p q), ?_, by simp [Rep, RepS]⟩
    simp only [binOp, ne_eq, not_true_eq_false, if_false]
    exact rem_run hc
  ·cases h
 case h_5 | h_6 | h_7 | h_8 | h_9 | h_10 | h_11 =>
  split at h
  next hk =>
   subst hk
   simp only [Option.some.injEq] at h; subst h
   refine ⟨_, ?_, by simp only [Rep, RepS]; rfl⟩
   simp only [binOp, Op.intArith, Op.intBits, Sem.run_pure, opI, ne_eq, not_true_eq_false, if_false]
  ·cases h
 case h_12 | h_13 | h_14 | h_15 | h_16 | h_17 =>
  split at h
  next hk =>
   subst hk
   simp only [Option.some.injEq] at h; subst h
   refine ⟨_, ?_, by simp only [Rep, RepS]; rfl⟩
   simp only [binOp, Op.intCmp, Sem.run_pure, cmpI, ne_eq, not_true_eq_false, if_false]
  ·cases h
theorem mostGo_sound {op : BinOp} {f : Value → Value → Sem Value} (hf : ∀ k x k' y, f (.int k x) (.int k' y) = .pure (.int k (mostI op x y))) {k : IntKind} : ∀ (ds : List D) (vs : List Value) (p : Int) (d : D), RepLs w A β ds vs → mostGo op k p ds = some d →
  ∃ u, (vs.foldlM f (.int k p)).run P w = .ok u w ∧ Rep w A β d u
 | [], vs, p, d, hr, h => by
  simp only [RepLs] at hr; subst hr
  simp only [mostGo, Option.some.injEq] at h; subst h
  exact ⟨_, rfl, by simp [Rep, RepS]⟩
 | x :: ds, vs, p, d, hr, h => by
  simp only [RepLs] at hr
  obtain ⟨v, vs, rfl, h1, h2⟩ := hr
  unfold mostGo at h
  split at h
  ·rename_i he; cases he
  next k' q ds' he =>
   simp only [List.cons.injEq] at he
   obtain ⟨rfl, rfl⟩ := he
   split at h
   next hk =>
    subst hk
    simp only [Rep, RepS] at h1; subst h1
    obtain ⟨u, h3, h4⟩ := mostGo_sound hf ds _ _ d h2 h
    refine ⟨u, ?_, h4⟩
    rw [List.foldlM_cons, hf]
    exact h3
   ·cases h
  ·cases h
theorem mostD_sound {op : BinOp} {f : Value → Value → Sem Value} (hf : ∀ k x k' y, f (.int k x) (.int k' y) = .pure (.int k (mostI op x y))) {ds : List D} {vs : List Value} {d : D} {why : String} (hr : RepLs w A β ds vs) (h : mostD op ds = some d) :
  ∃ u, (match vs with | [] => stuck why | x :: rest => rest.foldlM f x : Sem Value).run P w = .ok u w ∧ Rep w A β d u := by
 unfold mostD at h
 split at h
 next k p ds =>
  simp only [RepLs] at hr
  obtain ⟨v, vs, rfl, h1, h2⟩ := hr
  simp only [Rep, RepS] at h1; subst h1
  exact mostGo_sound hf ds vs p d h2 h
 ·cases h
theorem maxF (k : IntKind) (x : Int) (k' : IntKind) (y : Int) : Builtin.max2 (.int k x) (.int k' y) = .pure (.int k (mostI .gtr x y)) := by
 simp only [Builtin.max2, mostI, cmpI]
 by_cases h : y > x <;> simp [h] <;> rfl
theorem minF (k : IntKind) (x : Int) (k' : IntKind) (y : Int) : Builtin.min2 (.int k x) (.int k' y) = .pure (.int k (mostI .lss x y)) := by
 simp only [Builtin.min2, mostI, cmpI]
 by_cases h : y < x <;> simp [h] <;> rfl
theorem unD_sound {uop : UnOp} {a : D} {va : Value} (ha : Rep w A β a va) {d : D} (h : unD uop a = some d) :
  ∃ u, (Op.unary uop va).run P w = .ok u w ∧ Rep w A β d u := by
 unfold unD at h
 split at h
 all_goals first | (cases h; done) | skip
 all_goals (simp only [Option.some.injEq] at h; subst h; simp only [Rep, RepS] at ha; subst ha)
 ·exact ⟨_, rfl, by simp [Rep, RepS]⟩
 ·exact ⟨_, rfl, by simp [Rep, RepS, opI]⟩
 ·exact ⟨_, rfl, by simp [Rep, RepS, opI]⟩
theorem convD_sound {src dst : TypeId} {a : D} {va : Value} (ha : Rep w A β a va) {d : D} (h : convD P src dst a = some d) :
  ∃ u, (convert src dst va).run P w = .ok u w ∧ Rep w A β d u := by
 unfold convD at h
 split at h
 next k0 p ds k h1 h2 =>
  simp only [Option.some.injEq] at h; subst h
  simp only [Rep, RepS] at ha; subst ha
  refine ⟨.int k (k.wrap p), ?_, by simp only [Rep, RepS]⟩
  simp only [convert, Sem.run_bind, run_underlying h1, run_underlying h2, Result.andThen_ok, Conv.intToInt, Sem.run_pure]
 ·cases h
theorem pickD_sound {c : Bool} {a b : D} {va vb : Value} (ha : Rep w A β a va) (hb : Rep w A β b vb) : Rep w A β (pickD c a b) (if c = true then va else vb) := by
 unfold pickD
 split
 ·split
  next hk => subst hk; simp only [Rep, RepS] at ha hb ⊢; subst ha hb; cases c <;> rfl
  next => cases c <;> assumption
 ·simp only [Rep, RepS] at ha hb ⊢; subst ha hb; cases c <;> rfl
 ·cases c <;> assumption
def eqOut (b : Bool) : Option Bool × Unit := if b then (none, ()) else (some false, ())
theorem eqFields_sound {f : TypeId → D → D → Option Bool} {E : TypeId → Value → Value → Sem Bool} (hE : ∀ t x y s vx vy, f t x y = some s → Rep w A β x vx → Rep w A β y vy → (E t vx vy).run P w = .ok s w)
  {xs ys : List D} {vx vy : List Value} (ha : RepLs w A β xs vx) (hb : RepLs w A β ys vy) : ∀ (l : List Field) (s : Bool), eqFields P f xs ys l = some s →
  (forIn l ((none, ()) : Option Bool × Unit) (fun (f : Field) (_ : Option Bool × Unit) => if f.name ≠ "_" then do
    let a ← part f.type vx.toArray f.offset
    let b ← part f.type vy.toArray f.offset
    let c ← E f.type a b
    if (!c) = true then pure (ForInStep.done (some false, ())) else pure (ForInStep.yield (none, ()))
   else pure (ForInStep.yield (none, ()))) : Sem (Option Bool × Unit)).run P w = .ok (eqOut s) w
 | [], s, h => by
  simp only [eqFields, Option.some.injEq] at h; subst h
  simp [eqOut]
 | fd :: l, s, h => by
  simp only [eqFields] at h
  rw [List.forIn_cons]
  split at h
  next hn =>
   split at h
   next x y hx hy =>
    split at h
    next s1 r hs hr =>
     simp only [Option.some.injEq] at h; subst h
     obtain ⟨ux, k1, k2⟩ := part_run (P := P) ha hx
     obtain ⟨uy, k3, k4⟩ := part_run (P := P) hb hy
     have k5 := hE fd.type x y s1 ux uy hs k2 k4
     have ih := eqFields_sound hE ha hb l r hr
     simp only [if_pos hn, Sem.run_bind, k1, k3, k5, Result.andThen_ok]
     cases hc : s1 with
     | false => simp [eqOut]
     | true => simp only [Bool.not_true, Bool.false_eq_true, if_false, Sem.run_pure, Result.andThen_ok, Bool.true_and]; exact ih
    ·cases h
   ·cases h
  next hn =>
   have ih := eqFields_sound hE ha hb l s h
   simp only [if_neg hn, Sem.run_bind, Sem.run_pure, Result.andThen_ok]
   exact ih
theorem eqElems_sound {f : D → D → Option Bool} {E : Value → Value → Sem Bool} (hE : ∀ x y s vx vy, f x y = some s → Rep w A β x vx → Rep w A β y vy → (E vx vy).run P w = .ok s w)
  {elem : TypeId} {size : Nat} {xs ys : List D} {vx vy : List Value} (ha : RepLs w A β xs vx) (hb : RepLs w A β ys vy) : ∀ (n i : Nat) (s : Bool), eqElems P f elem size xs ys i n = some s →
  (forIn (List.range' i n 1) ((none, ()) : Option Bool × Unit) (fun (i : Nat) (_ : Option Bool × Unit) => do
    let a ← part elem vx.toArray (i * size)
    let b ← part elem vy.toArray (i * size)
    let c ← E a b
    if (!c) = true then pure (ForInStep.done (some false, ())) else pure (ForInStep.yield (none, ()))) : Sem (Option Bool × Unit)).run P w = .ok (eqOut s) w
 | 0, i, s, h => by
  simp only [eqElems, Option.some.injEq] at h; subst h
  simp [eqOut]
 | n + 1, i, s, h => by
  simp only [eqElems] at h
  rw [List.range'_succ, List.forIn_cons]
  split at h
  next x y hx hy =>
   split at h
   next s1 r hs hr =>
    simp only [Option.some.injEq] at h; subst h
    obtain ⟨ux, k1, k2⟩ := part_run (P := P) ha hx
    obtain ⟨uy, k3, k4⟩ := part_run (P := P) hb hy
    have k5 := hE x y s1 ux uy hs k2 k4
    have ih := eqElems_sound hE ha hb n (i + 1) r hr
    simp only [Sem.run_bind, k1, k3, k5, Result.andThen_ok]
    cases hc : s1 with
    | false => simp [eqOut]
    | true => simp only [Bool.not_true, Bool.false_eq_true, if_false, Sem.run_pure, Result.andThen_ok, Bool.true_and]; exact ih
   ·cases h
  ·cases h
theorem eqV_sound : ∀ (d : Nat) (t : TypeId) (a b : D) (s : Bool) (va vb : Value), eqV P d t a b = some s → Rep w A β a va → Rep w A β b vb → ∀ d', d ≤ d' → (Op.equalIn d' t va vb).run P w = .ok s w
 | 0, t, a, b, s, va, vb, h, ha, hb, d', hd => by simp [eqV] at h
 | d + 1, t, a, b, s, va, vb, h, ha, hb, d', hd => by
  obtain ⟨d', rfl⟩ : ∃ e, d' = e + 1 := ⟨d' - 1, by omega⟩
  simp only [eqV] at h
  split at h
  next hu =>
   unfold eqBoolD at h
   split at h
   next x y =>
    simp only [Option.some.injEq] at h; subst h
    simp only [Rep, RepS] at ha hb; subst ha hb
    simp only [Op.equalIn, Sem.run_bind, run_underlying hu, Result.andThen_ok, Sem.run_pure]
   ·cases h
  next hu =>
   unfold eqIntD at h
   split at h
   next k x k' y =>
    split at h
    next hk =>
     subst hk
     simp only [Option.some.injEq] at h; subst h
     simp only [Rep, RepS] at ha hb; subst ha hb
     simp only [Op.equalIn, Sem.run_bind, run_underlying hu, Result.andThen_ok, Sem.run_pure, if_true]
    ·cases h
   ·cases h
  next fields hu =>
   split at h
   next xs ys =>
    split at h
    ·cases h
    next hst =>
     simp only [Rep] at ha hb
     obtain ⟨vx, rfl, ha⟩ := ha
     obtain ⟨vy, rfl, hb⟩ := hb
     have k := eqFields_sound (P := P) (E := Op.equalIn d') (fun t x y s vx vy h hx hy => eqV_sound d t x y s vx vy h hx hy d' (by omega)) ha hb fields.toList s h
     rw [Array.forIn_toList] at k
     simp only [Op.equalIn, Sem.run_bind, run_underlying hu, Result.andThen_ok]
     show (Sem.run P (if P.stoodInHeld t = true then _ else _) w) = _
     rw [if_neg hst]
     simp only [Sem.run_bind, k, Result.andThen_ok, eqOut]
     cases s <;> rfl
   ·cases h
  next len elem hu =>
   split at h
   next xs ys j hj =>
    simp only [Rep] at ha hb
    obtain ⟨vx, rfl, ha⟩ := ha
    obtain ⟨vy, rfl, hb⟩ := hb
    have k := eqElems_sound (P := P) (E := Op.equalIn d' elem) (fun x y s vx vy h hx hy => eqV_sound d elem x y s vx vy h hx hy d' (by omega)) ha hb len 0 s h
    simp only [Op.equalIn, Sem.run_bind, run_underlying hu, Result.andThen_ok, run_sizeOf hj]
    rw [Std.Legacy.Range.forIn_eq_forIn_range']
    simp only [Std.Legacy.Range.size, Nat.sub_zero, Nat.add_sub_cancel, Nat.div_one]
    simp only [k, Result.andThen_ok, eqOut]
    cases s <;> rfl
   ·cases h
  ·cases h
theorem eqAble_val {d : D} {v : Value} (hd : Rep w A β d v) (hq : eqAble d = true) : (∃ vs, v = .agg vs) ∨ ∃ b, v = .bool b := by
 unfold eqAble at hq
 split at hq
 ·simp only [Rep] at hd; obtain ⟨vs, rfl, _⟩ := hd; exact .inl ⟨_, rfl⟩
 ·simp only [Rep, RepS] at hd; exact .inr ⟨_, hd⟩
 ·cases hq
theorem eqAble_run {t : TypeId} {x y : Operand} {a b : D} {va vb : Value} (ha : Rep w A β a va) (hb : Rep w A β b vb) (h1 : eqAble a = true) (h2 : eqAble b = true) (hg : ¬ P.eqGuardType P.depth t = true) {s : Bool}
  (h : (Op.equalIn Op.maxDepth t va vb).run P w = .ok s w) : (do eqGuard .eql t x y va vb; binOp .eql t va vb : Sem Value).run P w = .ok (.bool s) w ∧ (do eqGuard .neq t x y va vb; binOp .neq t va vb : Sem Value).run P w = .ok (.bool (!s)) w := by
 rcases eqAble_val ha h1 with ⟨vs, rfl⟩ | ⟨p, rfl⟩ <;> rcases eqAble_val hb h2 with ⟨us, rfl⟩ | ⟨q, rfl⟩ <;> simp [eqGuard, hg, binOp, Op.equal, h]
theorem eqD_sound {bop : BinOp} {t : TypeId} {x y : Operand} {a b : D} {va vb : Value} (ha : Rep w A β a va) (hb : Rep w A β b vb) {d : D} (h : eqD P bop t a b = some d) :
  ∃ u, (do eqGuard bop t x y va vb; binOp bop t va vb : Sem Value).run P w = .ok u w ∧ Rep w A β d u := by
 unfold eqD at h
 split at h
 next hq =>
  split at h
  ·cases h
  next hg =>
   split at h
   ·simp only [Option.map_eq_some_iff] at h
    obtain ⟨s, hs, rfl⟩ := h
    have := eqV_sound 20 t _ _ s _ _ hs ha hb Op.maxDepth (by decide)
    refine ⟨.bool s, ?_, by simp [Rep, RepS]⟩
    exact (eqAble_run ha hb hq.1 hq.2 hg this).1
   ·simp only [Option.map_eq_some_iff] at h
    obtain ⟨s, hs, rfl⟩ := h
    have := eqV_sound 20 t _ _ s _ _ hs ha hb Op.maxDepth (by decide)
    refine ⟨.bool (!s), ?_, by simp [Rep, RepS]⟩
    exact (eqAble_run ha hb hq.1 hq.2 hg this).2
   ·cases h
 ·cases h
theorem binFall_sound {bop : BinOp} {t : TypeId} {x y : Operand} {a b : D} {va vb : Value} (ha : Rep w A β a va) (hb : Rep w A β b vb) {e : Eff} (h : binFall P bop t x y a b = some e) :
  Good P w A β (((do eqGuard bop t x y va vb; binOp bop t va vb : Sem Value).run P w).andThen fun v w' => .ok (.value v) w') e := by
 unfold binFall at h
 split at h
 next d hd =>
  simp only [Option.some.injEq] at h
  obtain ⟨u, h1, h2⟩ := eqD_sound (t := t) (x := x) (y := y) (P := P) ha hb hd
  exact good_of ⟨d, u, h.symm, h1, h2⟩
 next =>
  split at h
  next u v hu hv =>
   rw [← ha.plain hu, ← hb.plain hv] at h
   exact good_pure h
  next => exact good_of (nilCmp_sound ha hb h)
theorem binD_sound {bop : BinOp} {t : TypeId} {x y : Operand} {a b : D} {va vb : Value} (ha : Rep w A β a va) (hb : Rep w A β b vb) {e : Eff} (h : binD P bop t x y a b = some e) :
  Good P w A β (((do eqGuard bop t x y va vb; binOp bop t va vb : Sem Value).run P w).andThen fun v w' => .ok (.value v) w') e := by
 unfold binD at h
 split at h
 next k p k' q =>
  simp only [Option.map_eq_some_iff] at h
  obtain ⟨d, hd, rfl⟩ := h
  simp only [Rep, RepS] at ha hb; subst ha hb
  obtain ⟨u, h3, h4⟩ := intD_sound (t := t) (P := P) (w := w) (A := A) (β := β) hd
  exact good_of ⟨d, u, rfl, by simp only [Sem.run_bind, eqGuard_int, Result.andThen_ok, h3], h4⟩
 ·exact binFall_sound ha hb h
/-- EVERY OPERATION that the abstract machine carries out: what the machine comes to. -/
theorem opD_sound (hrel : Rel w A β base σ tmps acts) {ρ : Operand → D} {ρv : Operand → Value} (hρ : ∀ x, Rep w A β (ρ x) (ρv x)) (o : Oper) {e : Eff} (h : opD P σ.bk ρ o.type o.op = some e) :
  (∃ r, (execOp ρv o).run P w = r ∧ Good P w A β r e) := by
 refine ⟨_, rfl, ?_⟩
 obtain ⟨dst, op, type, pos, after, guard⟩ := o
 simp only at h
 cases op with
 | move x => simp only [opD, Option.some.injEq] at h; subst h; exact ⟨ρv x, by simp [execOp], hρ x⟩
 | assign x => simp only [opD, Option.some.injEq] at h; subst h; exact ⟨ρv x, by simp [execOp], hρ x⟩
 | pick c a b =>
  simp only [opD] at h
  unfold opPick at h
  split at h
  next c' hc =>
   simp at h; subst h
   have := hρ c
   rw [hc] at this
   simp only [Rep, RepS] at this
   exact ⟨_, by simp [execOp, this, asBool], pickD_sound (hρ a) (hρ b)⟩
  ·cases h
 | alloc t =>
  simp only [opD, Option.map_eq_some_iff] at h
  obtain ⟨z, hz, rfl⟩ := h
  obtain ⟨i, v, hi, hv, rfl⟩ := zero_spec hz
  refine ⟨t, v.cells.toList, RepLs.ofV _, ?_⟩
  simp [execOp, Instr.alloc, run_zeroValue hi hv, newVar, newRow]
 | box t x =>
  simp only [opD, Option.map_eq_some_iff] at h
  obtain ⟨cs, hc, rfl⟩ := h
  exact ⟨t, (ρv x).cells.toList, cells_spec (hρ x) hc, by simp [execOp, Instr.box, newVar, newRow]⟩
 | build t parts => exact of_v (good_of (build_sound hρ h))
 | buildSlice t len parts => exact of_v (buildSlice_sound hρ h)
 | load t a =>
  simp only [opD, loadD] at h
  split at h
  ·cases h
  next cs off hb =>
   simp only [Option.map_eq_some_iff] at h
   obtain ⟨d, hd, rfl⟩ := h
   have hne : cs ≠ [] := by
    rintro rfl
    unfold takeD at hd
    split at hd
    ·cases hd
    ·split at hd
     ·split at hd
      next hlt => simp at hlt; omega
      ·cases hd
     ·simp at hd
   obtain ⟨ad, h1, h2, h3⟩ := behind_spec hrel (hρ a) hb hne
   obtain ⟨u, k1, k2⟩ := load_run (P := P) h2 h3 hd
   exact ⟨u, by simp [execOp, Instr.loadAt, h1, Instr.sureAddr, k1], k2⟩
 | store t a x =>
  simp only [opD, storeD] at h
  split at h
  next id off ds i ha hc hi =>
   split at h
   next hb =>
    simp at h; subst h
    have ha' := hρ a
    rw [ha] at ha'
    simp only [Rep] at ha'
    obtain ⟨ad, h1, h2⟩ := ha'
    have hcs := cells_spec (hρ x) hc
    refine ⟨ad, (ρv x).cells.toList, h1, hcs, ones_spec hcs hb.2, ?_⟩
    have hlen := hcs.length
    have hsz : (ρv x).cells.size = i.size := by simpa [hb.1] using hlen
    simp [execOp, Instr.storeAt, h2, Instr.sureAddr, storeVar, run_sizeOf hi, hsz]
   ·cases h
  next id i0 n j ds i ha hc hi =>
   split at h
   next hb =>
    simp at h; subst h
    have ha' := hρ a
    rw [ha] at ha'
    simp only [Rep] at ha'
    obtain ⟨ad, h1, h2⟩ := ha'
    have hcs := cells_spec (hρ x) hc
    refine ⟨ad, (ρv x).cells.toList, h1, hcs, ones_spec hcs hb.2, ?_⟩
    have hlen := hcs.length
    have hsz : (ρv x).cells.size = i.size := by simpa [hb.1] using hlen
    simp [execOp, Instr.storeAt, h2, Instr.sureAddr, storeVar, run_sizeOf hi, hsz]
   ·cases h
  ·cases h
 | nilCheck x =>
  simp only [opD] at h
  have hx := hρ x
  unfold opNil at h
  split at h
  next id off he =>
   simp at h; subst h
   rw [he] at hx
   have hx0 := hx
   simp only [Rep] at hx
   obtain ⟨ad, h1, h2⟩ := hx
   exact ⟨.pointer (some (plusOff ad off)), by simp [execOp, h2], by rw [← h2]; exact hx0⟩
  next id i n j he =>
   simp at h; subst h
   rw [he] at hx
   have hx0 := hx
   simp only [Rep] at hx
   obtain ⟨ad, h1, h2⟩ := hx
   exact ⟨.pointer (some (plusOff ad (i * n + j))), by simp [execOp, h2], by rw [← h2]; exact hx0⟩
  next cs off he =>
   simp at h; subst h
   rw [he] at hx
   have hx0 := hx
   simp only [Rep, RepS] at hx
   obtain ⟨ad, h1, h2⟩ := hx
   exact ⟨ρv x, by simp [execOp, h1], hx0⟩
  next f cs he =>
   simp at h; subst h
   rw [he] at hx
   have hx0 := hx
   simp only [Rep] at hx
   obtain ⟨vs, h1, h2⟩ := hx
   exact ⟨ρv x, by simp [execOp, h1], hx0⟩
  ·cases h
 | binOp bop t x y yt => simp only [opD] at h; exact of_v (binD_sound (hρ x) (hρ y) h)
 | unOp uop t x =>
  simp only [opD] at h
  unfold opUn at h
  split at h
  next d hd =>
   simp only [Option.some.injEq] at h; subst h
   obtain ⟨u, h1, h2⟩ := unD_sound (P := P) (hρ x) hd
   exact of_v (good_of ⟨d, u, rfl, h1, h2⟩)
  ·split at h
   next a ha => rw [← (hρ x).plain ha] at h; exact of_v (good_pure h)
   ·cases h
 | convert src dst' x =>
  simp only [opD] at h
  unfold opConv at h
  split at h
  next d hd =>
   simp only [Option.some.injEq] at h; subst h
   obtain ⟨u, h1, h2⟩ := convD_sound (P := P) (hρ x) hd
   exact of_v (good_of ⟨d, u, rfl, h1, h2⟩)
  ·split at h
   next a ha => rw [← (hρ x).plain ha] at h; exact of_v (good_pure h)
   ·cases h
 | makeFunc fn first captured =>
  cases fn with
  | func f =>
   simp only [opD] at h
   split at h
   next h0 =>
    simp at h; subst h
    have h0' : first = #[] := Array.eq_empty_of_size_eq_zero h0
    subst h0'
    refine ⟨.func (.func f) #[] (captured.map ρv), by simp [execOp, Instr.makeFunc], ?_⟩
    simp only [Rep]
    refine ⟨captured.toList.map ρv, by congr 1; apply Array.ext'; simp, ?_⟩
    exact maps_rel hρ captured.toList
   ·cases h
  | _ => simp [opD] at h
 | makeSlice t l c => exact of_v (makeSlice_sound (hρ l) (hρ c) h)
 | slice t x lo hi mx =>
  cases mx with
  | none => exact of_v (good_of (slice_sound hrel (hρ x) (map_rel hρ lo) (map_rel hρ hi) h))
  | some m => exact of_v (good_of (slice3_sound (hρ x) (map_rel hρ lo) (map_rel hρ hi) (hρ m) h))
 | fieldAddr t x f => exact of_v (good_of (fieldAddr_sound (hρ x) h))
 | field t x f => exact of_v (good_of (field_sound (hρ x) h))
 | indexAddr t x ix => exact of_v (good_of (indexAddr_sound (hρ x) (hρ ix) h))
 | index t x ix => exact of_v (good_of (index_sound (hρ x) (hρ ix) h))
 | extract x i => exact of_v (good_of (extract_sound (hρ x) h))
 | call c =>
  obtain ⟨callee, args, argTypes⟩ := c
  cases callee with
  | builtin b =>
   obtain ⟨cks, hres⟩ : ∃ cks, (execOp ρv ⟨dst, .call ⟨.builtin b, args, argTypes⟩, type, pos, after, guard⟩).run P w = (builtin b argTypes type cks (args.map ρv)).run P w := ⟨_, by simp only [execOp, resolve, invoke, Sem.run_bind, Sem.run_pure, Result.andThen_ok]; rfl⟩
   rw [hres]
   cases b with
   | len =>
    simp only [opD] at h
    split at h
    all_goals first | (cases h; done) | skip
    all_goals try (simp only [reduceCtorEq, Op.call.injEq, Call.mk.injEq, Callee.builtin.injEq, false_and, and_false] at *; done)
    next x t heq =>
     simp only [Op.call.injEq, Call.mk.injEq, true_and] at heq
     obtain ⟨rfl, rfl⟩ := heq
     obtain ⟨d, u, rfl, k1, k2⟩ := len_sound (P := P) (ty := type) (hρ x) h
     exact ⟨u, by simp [builtin, k1], k2⟩
   | append =>
    simp only [opD] at h
    split at h
    all_goals first | (cases h; done) | skip
    all_goals try (simp only [reduceCtorEq, Op.call.injEq, Call.mk.injEq, Callee.builtin.injEq, false_and, and_false] at *; done)
    next s x ts heq =>
     simp only [Op.call.injEq, Call.mk.injEq, true_and] at heq
     obtain ⟨rfl, rfl⟩ := heq
     have e1 : Array.map ρv ⟨[s, x]⟩ = #[ρv s, ρv x] := by simp
     rw [e1]
     exact of_v (append_good hrel (hρ s) (hρ x) h)
   | copy =>
    simp only [opD] at h
    split at h
    all_goals first | (cases h; done) | skip
    all_goals try (simp only [reduceCtorEq, Op.call.injEq, Call.mk.injEq, Callee.builtin.injEq, false_and, and_false] at *; done)
    next s x ts heq =>
     simp only [Op.call.injEq, Call.mk.injEq, true_and] at heq
     obtain ⟨rfl, rfl⟩ := heq
     have e1 : Array.map ρv ⟨[s, x]⟩ = #[ρv s, ρv x] := by simp
     rw [e1]
     exact of_v (copy_sound hrel (hρ s) (hρ x) h)
   | clear =>
    unfold opD at h
    split at h
    all_goals try (simp only [reduceCtorEq, Op.call.injEq, Call.mk.injEq, Callee.builtin.injEq, false_and, and_false] at *; done)
    next s ts heq =>
     simp only [Op.call.injEq, Call.mk.injEq, true_and] at heq
     obtain ⟨rfl, rfl⟩ := heq
     have e1 : Array.map ρv ⟨[s]⟩ = #[ρv s] := by simp
     rw [e1]
     exact of_v (clear_sound (hρ s) h)
   | max =>
    simp only [opD] at h
    unfold opMost at h
    split at h
    next d hd =>
     simp only [Option.some.injEq] at h; subst h
     have hl : RepLs w A β (args.toList.map ρ) (args.map ρv).toList := by rw [Array.toList_map]; exact maps_rel hρ _
     obtain ⟨u, h1, h2⟩ := mostD_sound (P := P) (w := w) maxF hl hd
     exact of_v ⟨u, by
      have h1' : (Builtin.max_ argTypes type (Array.map ρv args)).run P w = .ok u w := h1
      rw [h1']; rfl, h2⟩
    ·split at h
     next vs hp =>
      have := plains_spec hρ _ _ hp
      have e1 : args.map ρv = vs.toArray := by rw [← this]; apply Array.ext'; simp
      rw [e1]
      exact of_v (good_pure h)
     ·cases h
   | min =>
    simp only [opD] at h
    unfold opMost at h
    split at h
    next d hd =>
     simp only [Option.some.injEq] at h; subst h
     have hl : RepLs w A β (args.toList.map ρ) (args.map ρv).toList := by rw [Array.toList_map]; exact maps_rel hρ _
     obtain ⟨u, h1, h2⟩ := mostD_sound (P := P) (w := w) minF hl hd
     exact of_v ⟨u, by
      have h1' : (Builtin.min_ argTypes type (Array.map ρv args)).run P w = .ok u w := h1
      rw [h1']; rfl, h2⟩
    ·split at h
     next vs hp =>
      have := plains_spec hρ _ _ hp
      have e1 : args.map ρv = vs.toArray := by rw [← this]; apply Array.ext'; simp
      rw [e1]
      exact of_v (good_pure h)
     ·cases h
   | _ => simp [opD] at h
  | value f => simp [opD] at h
  | invoke r m => simp [opD] at h
 | _ => simp [opD] at h
end
end Go.Dam
end

section
namespace Go.Dam
open Go Go.RowKit
variable [Glo]
section
variable {P : Program} {w : World} {A : Nat → Prop} {β : Env} {base : Nat} {σ : St} {a : Act} {acts : List (Array Value)}
theorem put_tmps (a : Act) (dst : Option Tmp) (u : Value) : (a.put dst u).tmps = match dst with | some t => a.tmps.setIfInBounds t u | none => a.tmps := by
 cases dst <;> rfl
theorem Rel.putA {w : World} {A : Nat → Prop} {β : Env} {base : Nat} {σ : St} {acts : List (Array Value)} (h : Rel w A β base σ a.tmps acts) (dst : Option Tmp) {d : D} {u : Value} (hd : Rep w A β d u) :
  Rel w A β base (σ.put dst d) (a.put dst u).tmps acts := by
 rw [put_tmps]; exact h.put dst hd
theorem alloc_obj (w : World) (c : Array Value) (T : TypeId) : (w.alloc (.cells c T)).heap[w.heap.size]? = some (.cells c T (0, 0)) := by show (w.heap.push _)[w.heap.size]? = _; simp
/-- THE STEP OF AN OPERATION. -/
theorem step_sound (hrel : Rel w A β base σ a.tmps acts) {o : Oper} {e : Eff} {r : Result Next} (hr : (execOp a.eval o).run P w = r) (hE : Good P w A β r e) {id : Nat} {σ' : St} (hs : stepE σ o.dst id e = some σ') :
  ∃ u w' β', ((execOp a.eval o).run P w = .ok (.value u) w' ∨ ((execOp a.eval o).run P w = .ok .skip w' ∧ u = undef)) ∧ Rel w' A β' base σ' (a.put o.dst u).tmps acts ∧ Turn A A base w w' := by
 cases e with
 | val d =>
  obtain ⟨u, h1, h2⟩ := hE
  simp [stepE] at hs; subst hs
  exact ⟨u, w, β, .inl (by rw [hr, h1]), hrel.putA o.dst h2, .refl _ _ _⟩
 | box cs =>
  obtain ⟨T, vs, h1, h2⟩ := hE
  simp [stepE] at hs; subst hs
  refine ⟨_, _, _, .inl (by rw [hr, h2]), (hrel.new id vs.toArray T cs vs h1 (fun j u h => by simpa using h)).putA o.dst ?_, .alloc hrel _⟩
  simp only [Rep]
  exact ⟨_, Env.set_same _ _ _, rfl⟩
 | row cs n sz =>
  obtain ⟨T, vs, cap, h1, h2, h3, h4⟩ := hE
  simp [stepE] at hs; subst hs
  refine ⟨_, _, _, .inl (by rw [hr, h4]), (hrel.new id vs.toArray T cs vs h1 (fun j u h => by simpa using h)).putA o.dst ?_, .alloc hrel _⟩
  simp only [Rep]
  exact ⟨_, _, rfl, .inr ⟨by simpa using h2, _, Env.set_same _ _ _, rfl, ⟨_, _, _, alloc_obj _ _ _, by simpa using h3⟩⟩⟩
 | row0 =>
  obtain ⟨T, vs, h4⟩ := hE
  simp [stepE] at hs; subst hs
  exact ⟨_, _, β, .inl (by rw [hr, h4]), (hrel.alloc0 _).putA o.dst (by simp only [Rep, RepS]; exact ⟨_, rfl⟩), .alloc hrel _⟩
 | sto i off ds =>
  obtain ⟨ad, vs, h1, h2, h3, h4⟩ := hE
  simp only [stepE] at hs
  split at hs
  next cells hb =>
   split at hs
   next hl =>
    simp at hs; subst hs
    obtain ⟨w', k1, k2, k3⟩ := hrel.store P hb h1 h2 h3 hl
    exact ⟨undef, w', β, .inr ⟨by rw [hr, h4, k1]; rfl, rfl⟩, k2.putA o.dst (by simp [Rep, RepS]), k3⟩
   ·cases hs
  ·cases hs
 | cpy i off ds k =>
  obtain ⟨ad, vs, h1, h2, h3, h4⟩ := hE
  simp only [stepE] at hs
  split at hs
  next cells hb =>
   split at hs
   next hl =>
    simp at hs; subst hs
    obtain ⟨w', k1, k2, k3⟩ := hrel.store P hb h1 h2 h3 hl
    exact ⟨k, w', β, .inl (by rw [hr, h4, k1]; rfl), k2.putA o.dst (Rep.ofV k), k3⟩
   ·cases hs
  ·cases hs
 | app s sz m ds =>
  obtain ⟨t, t2, ty, el, e2, i, z, oa, n, c, x, vs, hu, hu2, hi, hz, hzs, hb1, rfl, hsrc, hds, hone, hbytes, hdl, hrs, hssz, hsv, hrun⟩ := hE
  have hd2 : ∀ k, TypeDesc.slice e2 ≠ .int k := fun k h => by cases h
  have hvl := hds.length
  cases s with
  | v y =>
   have hy := hsv y rfl
   subst hy
   simp only [stepE, Option.some.injEq] at hs; subst hs
   simp only [Rep, RepS] at hrs
   cases hrs
   rcases Nat.lt_or_ge 0 m with hm | hm
   ·obtain ⟨cap, rest, g1, g2, g3⟩ := append_grows (ty := ty) (o := none) (n := 0) (c := 0) hu hi hz hu2 hd2 hb1 hzs hsrc (by omega) hbytes (olds := []) (fun w' _ => by simp [Builtin.firstCells])
    refine ⟨.slice (some ⟨w.heap.size, 0, none⟩) (0 + m) cap, w.drew.alloc (.cells (([] ++ vs).toArray ++ rest) el), β.set id (some ⟨w.heap.size, 0, none⟩), .inl (by rw [hr, hrun, g3]; rfl), ?_, ?_⟩
    ·have h1 := (hrel.heap_eq (w' := w.drew) rfl).new id (([] ++ vs).toArray ++ rest) el ds vs (Rel.rep_drew hds) (fun j u hj => by
      have hlt := (List.getElem?_eq_some_iff.1 hj).1
      simp only [List.nil_append]
      rw [Array.getElem?_append_left (by simpa using hlt)]; simpa using hj)
     refine h1.putA o.dst ?_
     simp only [Rep]
     refine ⟨some ⟨w.heap.size, 0, none⟩, cap, by rw [Nat.zero_add], .inr ⟨by omega, _, Env.set_same _ _ _, rfl, ⟨_, _, _, alloc_obj _ _ _, ?_⟩⟩⟩
     simp only [World.size_drew, List.nil_append, Array.size_append, List.size_toArray, g2, hvl, hdl, Nat.zero_add]
     rw [← Nat.add_mul]
     exact Nat.mul_le_mul_right _ (by omega)
    ·exact (Turn.of_heap (w := w) (w' := w.drew) rfl rfl rfl rfl).trans (.alloc (hrel.heap_eq (w' := w.drew) rfl) _)
   ·obtain rfl : m = 0 := by omega
    have hds0 : ds = [] := List.length_eq_zero_iff.1 (by omega)
    subst hds0
    simp only [RepLs] at hds; subst hds
    have g := append_fits (w' := w) (ty := ty) hu hi hu2 hd2 hsrc (n := 0) (c := 0) (o := none) (by omega) (fun a h => by cases h) (fun _ => rfl)
    refine ⟨.slice none 0 0, w, β.set id none, .inl (by rw [hr, hrun, g]; rfl), ?_, .refl _ _ _⟩
    have h1 := hrel.rebind (w' := w) id none (.refl _ _) hrel.top (Nat.le_refl _) (.refl _) (fun _ _ _ _ _ _ => rfl)
    have h2 := h1.setB id ⟨[].map (D.forget id), false⟩ (.inl (And.intro (Env.set_same _ _ _) (by simp))) (fun _ _ _ _ _ _ h => by rw [Env.set_same] at h; cases h)
    exact h2.putA o.dst (by simp only [Rep]; exact ⟨none, 0, rfl, .inl (by simp)⟩)
  | emp =>
   simp only [stepE, Option.some.injEq] at hs; subst hs
   simp only [Rep, RepS] at hrs
   obtain ⟨o1, he⟩ := hrs
   cases he
   rcases Nat.lt_or_ge 0 m with hm | hm
   ·obtain ⟨cap, rest, g1, g2, g3⟩ := append_grows (ty := ty) (o := some o1) (n := 0) (c := 0) hu hi hz hu2 hd2 hb1 hzs hsrc (by omega) hbytes (olds := []) (fun w' _ => by simp [Builtin.firstCells, loadCells, loadCellsFrom])
    refine ⟨.slice (some ⟨w.heap.size, 0, none⟩) (0 + m) cap, w.drew.alloc (.cells (([] ++ vs).toArray ++ rest) el), β.set id (some ⟨w.heap.size, 0, none⟩), .inl (by rw [hr, hrun, g3]; rfl), ?_, ?_⟩
    ·have h1 := (hrel.heap_eq (w' := w.drew) rfl).new id (([] ++ vs).toArray ++ rest) el ds vs (Rel.rep_drew hds) (fun j u hj => by
      have hlt := (List.getElem?_eq_some_iff.1 hj).1
      simp only [List.nil_append]
      rw [Array.getElem?_append_left (by simpa using hlt)]; simpa using hj)
     refine h1.putA o.dst ?_
     simp only [Rep]
     refine ⟨some ⟨w.heap.size, 0, none⟩, cap, by rw [Nat.zero_add], .inr ⟨by omega, _, Env.set_same _ _ _, rfl, ⟨_, _, _, alloc_obj _ _ _, ?_⟩⟩⟩
     simp only [World.size_drew, List.nil_append, Array.size_append, List.size_toArray, g2, hvl, hdl, Nat.zero_add]
     rw [← Nat.add_mul]
     exact Nat.mul_le_mul_right _ (by omega)
    ·exact (Turn.of_heap (w := w) (w' := w.drew) rfl rfl rfl rfl).trans (.alloc (hrel.heap_eq (w' := w.drew) rfl) _)
   ·obtain rfl : m = 0 := by omega
    have hds0 : ds = [] := List.length_eq_zero_iff.1 (by omega)
    subst hds0
    simp only [RepLs] at hds; subst hds
    have g := append_fits (w' := w) (ty := ty) hu hi hu2 hd2 hsrc (n := 0) (c := 0) (o := some o1) (by omega) (fun a h => by simp [storeCells]) (fun _ => rfl)
    refine ⟨.slice (some o1) 0 0, w, β.set id none, .inl (by rw [hr, hrun, g]; rfl), ?_, .refl _ _ _⟩
    have h1 := hrel.rebind (w' := w) id none (.refl _ _) hrel.top (Nat.le_refl _) (.refl _) (fun _ _ _ _ _ _ => rfl)
    have h2 := h1.setB id ⟨[].map (D.forget id), false⟩ (.inl (And.intro (Env.set_same _ _ _) (by simp))) (fun _ _ _ _ _ _ h => by rw [Env.set_same] at h; cases h)
    exact h2.putA o.dst (by simp only [Rep]; exact ⟨some o1, 0, rfl, .inl (by simp)⟩)
  | sl j off n' sz' =>
   have hsz := hssz j off n' sz' rfl
   obtain ⟨sz', r'⟩ := sz'
   simp only at hsz
   subst hsz
   simp only [stepE] at hs
   split at hs
   next cells hb =>
    split at hs
    next hl =>
     simp only [Option.some.injEq] at hs; subst hs
     simp only [Rep] at hrs
     obtain ⟨o2, c2, he, hrs⟩ := hrs
     cases he
     have holdlen : ((cells.drop off).take (n * i.size)).length = n * i.size := by simp; omega
     -- it grows
     have grow : ∀ olds : List Value, c < n + m → RepLs w A β ((cells.drop off).take (n * i.size)) olds → (∀ w' : World, w'.heap = w.heap → (Builtin.firstCells i.size n (.slice oa n c)).run P w' = .ok olds.toArray w') →
       ∃ u w' β', ((execOp a.eval o).run P w = .ok (.value u) w' ∨ ((execOp a.eval o).run P w = .ok .skip w' ∧ u = undef)) ∧
        Rel w' A β' base (((σ.forget j).setB j ⟨((cells.drop off).take (n * i.size) ++ ds).map (D.forget j), false⟩).put o.dst (.sl j 0 (n + m) ⟨i.size, 0⟩)) (a.put o.dst u).tmps acts ∧ Turn A A base w w' := by
      intro olds hlt holds hfirst
      obtain ⟨cap, rest, g1, g2, g3⟩ := append_grows (ty := ty) hu hi hz hu2 hd2 hb1 hzs hsrc hlt hbytes hfirst
      refine ⟨.slice (some ⟨w.heap.size, 0, none⟩) (n + m) cap, w.drew.alloc (.cells ((olds ++ vs).toArray ++ rest) el), β.set j (some ⟨w.heap.size, 0, none⟩), .inl (by rw [hr, hrun, g3]; rfl), ?_, ?_⟩
      ·have h1 := (hrel.heap_eq (w' := w.drew) rfl).new j ((olds ++ vs).toArray ++ rest) el ((cells.drop off).take (n * i.size) ++ ds) (olds ++ vs) (Rel.rep_drew (holds.append hds)) (fun k u hk => by
        have hlt2 := (List.getElem?_eq_some_iff.1 hk).1
        rw [Array.getElem?_append_left (by simpa using hlt2)]; simpa using hk)
       refine h1.putA o.dst ?_
       simp only [Rep]
       refine ⟨_, _, rfl, .inr ⟨by omega, _, Env.set_same _ _ _, rfl, ⟨_, _, _, alloc_obj _ _ _, ?_⟩⟩⟩
       simp only [World.size_drew, Array.size_append, List.size_toArray, List.length_append, g2, hvl, hdl, holds.length, holdlen, Nat.zero_add]
       rw [← Nat.add_mul, ← Nat.add_mul]
       exact Nat.mul_le_mul_right _ (by omega)
      ·exact (Turn.of_heap (w := w) (w' := w.drew) rfl rfl rfl rfl).trans (.alloc (hrel.heap_eq (w' := w.drew) rfl) _)
     rcases hrs with ⟨hn0, rfl⟩ | ⟨hnr, ad, hβ, rfl, hroom⟩
     ·-- nothing was there
      obtain rfl : n = 0 := by omega
      rcases Nat.lt_or_ge 0 m with hm | hm
      ·refine grow [] (by omega) (by simp [RepLs]) (fun w' _ => ?_)
       cases oa <;> simp [Builtin.firstCells, loadCells, loadCellsFrom]
      ·obtain rfl : m = 0 := by omega
       have hds0 : ds = [] := List.length_eq_zero_iff.1 (by omega)
       subst hds0
       simp only [RepLs] at hds; subst hds
       have g := append_fits (w' := w) (ty := ty) hu hi hu2 hd2 hsrc (n := 0) (c := 0) (o := oa) (by omega) (fun a h => by simp [storeCells]) (fun _ => rfl)
       refine ⟨.slice oa 0 0, w, β.set j none, .inl (by rw [hr, hrun, g]; rfl), ?_, .refl _ _ _⟩
       have h1 := hrel.rebind (w' := w) j none (.refl _ _) hrel.top (Nat.le_refl _) (.refl _) (fun _ _ _ _ _ _ => rfl)
       have h2 := h1.setB j ⟨((cells.drop off).take (0 * i.size) ++ []).map (D.forget j), false⟩ (.inl (And.intro (Env.set_same _ _ _) (by simp))) (fun _ _ _ _ _ _ h => by rw [Env.set_same] at h; cases h)
       exact h2.putA o.dst (by simp only [Rep]; exact ⟨oa, 0, rfl, .inl (by simp)⟩)
     ·rcases Nat.lt_or_ge c (n + m) with hlt | hge
      ·rcases hrel.blk j _ hb with ⟨h2, _⟩ | ⟨ad', h2, h3⟩
       ·rw [hβ] at h2; cases h2
       ·rw [hβ] at h2; cases h2
        have hcells := (h3.cells.drop h3.spot off).take rfl (n * i.size)
        obtain ⟨olds, k1, k2⟩ := cells_read (P := P) (w := w) rfl hcells
        rw [holdlen] at k1
        exact grow olds hlt k2 (fun w' hw' => by simp [Builtin.firstCells, k1 w' hw'])
      ·obtain ⟨w', k1, k2, k3, k4⟩ := hrel.app P hb hβ (off := off) (k := n * i.size) (lim := c * i.size) hds hone (by omega) hroom (by rw [hdl, ← Nat.add_mul]; exact Nat.mul_le_mul_right _ hge)
       have g := append_fits (w' := w') (ty := ty) hu hi hu2 hd2 hsrc (n := n) (c := c) (o := some (plusOff ad off)) hge (fun a h => by cases h; rw [plusOff_add]; exact k1) (fun h => by cases h)
       refine ⟨.slice (some (plusOff ad off)) (n + m) c, w', _, .inl (by rw [hr, hrun, g]; rfl), k2.putA o.dst ?_, k3⟩
       simp only [Rep]
       refine ⟨_, _, rfl, .inr ⟨by omega, _, Env.set_same _ _ _, by simp [plusOff], ?_⟩⟩
       simpa using k4
    ·cases hs
   ·cases hs
  | _ => simp [stepE] at hs
end
end Go.Dam
end
