/- The engine: an abstract machine for the program's functions, proved right against the model. No condition. -/
import Derived.Test.YtakcfkmfiamliaaDamXD
set_option linter.unusedSectionVars false
set_option linter.unusedVariables false
set_option linter.unusedSimpArgs false
section
namespace Go.Dam
open Go Go.RowKit
variable [Glo]
noncomputable section
theorem inSites_of {lo id : Nat} : ∀ {los : List Nat}, lo ∈ los → lo ≤ id → id < lo + 32 → inSites los id = true
 | l :: los, h, h1, h2 => by
  simp only [inSites, Bool.or_eq_true, Bool.and_eq_true]
  rcases List.mem_cons.1 h with rfl | h
  ·exact .inl ⟨by simpa using h1, by simpa [Nat.blt_eq] using h2⟩
  ·exact .inr (inSites_of h h1 h2)
theorem clearS_has {los : List Nat} {lo id : Nat} {d : D} (h : clearS los d = true) (h0 : lo ∈ los) (h1 : lo ≤ id) (h2 : id < lo + 32) : d.has id = false := by
 cases los with
 | nil => cases h0
 | cons l los => exact clear_has (inSites_of h0 h1 h2) d h
theorem clearSL_mem {los : List Nat} : ∀ {ds : List D}, clearSL los ds = true → ∀ d ∈ ds, clearS los d = true
 | d :: ds, h, e, he => by
  simp only [clearSL, Bool.and_eq_true] at h
  rcases List.mem_cons.1 he with rfl | he
  ·exact h.1
  ·exact clearSL_mem h.2 e he
theorem clearS_tail {l : Nat} {los : List Nat} {d : D} (h : clearS (l :: los) d = true) : clearS los d = true := by
 cases los with
 | nil => rfl
 | cons m los =>
  simp only [clearS] at h ⊢
  -- fewer blocks to look for
  have mono : ∀ (q q' : Nat → Bool), (∀ i, q' i = true → q i = true) → ∀ d, D.clear q d = true → D.clear q' d = true := by
   intro q q' hq
   have key : ∀ i, (!(q i)) = true → (!(q' i)) = true := fun i h => by
    cases e : q' i with
    | false => rfl
    | true => rw [hq i e] at h; cases h
   intro d
   refine D.rec (motive_1 := fun d => D.clear q d = true → D.clear q' d = true) (motive_2 := fun ds => D.clearL q ds = true → D.clearL q' ds = true) ?_ ?_ ?_ ?_ ?_ ?_ ?_ ?_ ?_ ?_ ?_ ?_ ?_ ?_ ?_ ?_ ?_ d
   all_goals first
    | (intros; rfl)
    | (intros; simp only [D.clear] at *; apply key; assumption)
    | (intro cs ih h; simp only [D.clear] at h ⊢; exact ih h)
    | (intro f cs ih h; simp only [D.clear] at h ⊢; exact ih h)
    | (intro d ds h1 h2 h; simp only [D.clearL, Bool.and_eq_true] at h ⊢; exact ⟨h1 h.1, h2 h.2⟩)
  refine mono _ _ (fun i hi => ?_) d h
  simp only [inSites, Bool.or_eq_true] at hi ⊢
  exact .inr hi
section
variable {P : Program} {F : FuncId → List D → D → Prop} {R : Array Oper} {dep : Nat} {tgt : List Nat}
theorem others_mem {k l : Nat} {id : Nat} (hW : (planOf P R dep tgt).W k l = true) (hid : id ∈ (planOf P R dep tgt).zs l) : siteAt R dep l ∈ othersAt R dep k ∧ siteAt R dep l ≤ id ∧ id < siteAt R dep l + 32 := by
 simp only [planOf] at hid hW
 cases hm : makesAt R l with
 | false => rw [hm, cond_false] at hid; cases hid
 | true =>
  rw [hm, cond_true, List.mem_range'_1] at hid
  refine ⟨?_, hid.1, hid.2⟩
  simp only [othersAt, List.mem_map, List.mem_filter, List.mem_range, Bool.and_eq_true]
  exact ⟨l, ⟨makes_lt hm, hW, hm⟩, rfl⟩
theorem nomen_of {k : Nat} {d : D} (h : clearS (othersAt R dep k) d = true) : NoMen (planOf P R dep tgt) k d := by
 intro l hW id hid
 obtain ⟨h1, h2, h3⟩ := others_mem hW hid
 exact clearS_has h h1 h2 h3
theorem unused_others {k : Nat} (c : Cf) : ∀ l, (planOf P R dep tgt).W k l = true → ∀ id ∈ (planOf P R dep tgt).zs l, Unused id (wipeS (othersAt R dep k) c).abs := by
 intro l hW id hid
 obtain ⟨h1, h2, h3⟩ := others_mem hW hid
 cases ho : othersAt R dep k with
 | nil => rw [ho] at h1; cases h1
 | cons lo los =>
  simp only [wipeS]
  rw [abs_wipe]
  rw [ho] at h1
  exact unused_wipe (inSites_of h1 h2 h3) _
theorem unused_makers (c : Cf) : ∀ l, ∀ id ∈ (planOf P R dep tgt).zs l, Unused id (wipeS (makersOf R dep) c).abs := by
 intro l id hid
 simp only [planOf] at hid
 cases hm : makesAt R l with
 | false => rw [hm, cond_false] at hid; cases hid
 | true =>
  rw [hm, cond_true, List.mem_range'_1] at hid
  have h1 : siteAt R dep l ∈ makersOf R dep := by
   simp only [makersOf, List.mem_map, List.mem_filter, List.mem_range]
   exact ⟨l, ⟨makes_lt hm, hm⟩, rfl⟩
  cases ho : makersOf R dep with
  | nil => rw [ho] at h1; cases h1
  | cons lo los =>
   simp only [wipeS]
   rw [abs_wipe]
   rw [ho] at h1
   exact unused_wipe (inSites_of h1 hid.1 hid.2) _
theorem wipeS_runs {R' : Array Oper} {l : List Oper} {σ : St} {los : List Nat} {c : Cf} (h : Runs P F (.ops R' l) σ .normal c.abs) : Runs P F (.ops R' l) σ .normal (wipeS los c).abs := by
 cases los with
 | nil => exact h
 | cons lo los => simp only [wipeS]; rw [abs_wipe]; exact .after h
theorem wipeS_start {j : Job} {e : Ex} {σ' : St} {los : List Nat} {c : Cf} (hp : j.plain = true) (h : Runs P F j (wipeS los c).abs e σ') : Runs P F j c.abs e σ' := by
 cases los with
 | nil => exact h
 | cons lo los => simp only [wipeS] at h; rw [abs_wipe] at h; exact .wipe hp h
theorem sep_of {c : Cf} {S : List Nat} {o : Oper} {r : QR} (h : sepC c tgt S o r.told = true) : ∀ j ∈ S, Sep (evalD c.abs) o (tgt.getD j 0) r := by
 intro j hj
 simp only [sepC, List.all_eq_true] at h
 have h1 := h j hj
 simp only [evalC_abs, Bool.and_eq_true, Bool.not_eq_true', List.all_eq_true] at h1
 refine ⟨fun y hy => clear_has (Nat.beq_refl _) _ (h1.1 y (by simpa using hy)), fun hm => ?_⟩
 have := h1.2
 rw [List.contains_iff_mem.2 hm] at this
 cases this
theorem putNew_abs : ∀ (bs : List BX) (cs : List (List D)) (c : Cf) (id : Nat), bs.map BX.blk = cs.map (fun cs => ⟨cs, false⟩) → (putNewC c id bs).abs = { c.abs with bk := fun i => match newB i (news id cs) with | some b => some b | none => c.abs.bk i }
 | [], [], c, id, _ => rfl
 | [], _ :: _, _, _, h => by simp at h
 | _ :: _, [], _, _, h => by simp at h
 | b :: bs, x :: cs, c, id, h => by
  simp only [List.map_cons, List.cons.injEq] at h
  simp only [putNewC]
  rw [putNew_abs bs cs _ _ h.2]
  rw [abs_setB, h.1]
  refine St.ext' rfl rfl ?_ rfl
  funext i
  simp only [St.setB, news, newB]
  by_cases e : i = id
  ·subst e
   rw [newB_none (i := i) (l := news (i + 1) cs) (fun cs' hm => by have := (news_ge hm).1; omega)]
   simp
  ·rw [if_neg e, if_neg (Ne.symm e)]
@[simp] theorem cds_new : ∀ (bs : List BX) (c : Cf) (id : Nat), (putNewC c id bs).cds = c.cds
 | [], _, _ => rfl
 | b :: bs, c, id => by simp [putNewC, cds_new bs]
theorem news_lt : ∀ {bs : List (List D)} {id i : Nat} {cs : List D}, (i, cs) ∈ news id bs → i < id + bs.length
 | c :: bs, id, i, cs, h => by
  simp only [news, List.mem_cons, Prod.mk.injEq] at h
  rcases h with ⟨rfl, rfl⟩ | h
  ·simp
  ·have := news_lt h; simp; omega
theorem news_nodup : ∀ (bs : List (List D)) (id : Nat), ((news id bs).map (·.1)).Nodup
 | [], _ => .nil
 | c :: bs, id => by
  simp only [news, List.map_cons, List.nodup_cons]
  refine ⟨fun h => ?_, news_nodup bs (id + 1)⟩
  simp only [List.mem_map] at h
  obtain ⟨⟨i, cs⟩, h1, h2⟩ := h
  simp only at h2
  subst h2
  have := (news_ge h1).1
  omega
theorem q_plain (c : Cf) (dst : Option Tmp) (d : D) : c.abs.q dst ⟨d, [], [], [], none⟩ = (c.put dst d).abs := by
 rw [abs_put]; simp only [St.q]; congr 1
theorem q_one (c : Cf) (dst : Option Tmp) (d : D) (id : Nat) (cs : List D) : c.abs.q dst ⟨d, [(id, cs)], [], [], none⟩ = ((c.setB id (.cells cs false)).put dst d).abs := by
 rw [abs_put, abs_setB]; simp only [St.q, St.setB, BX.blk]; congr 1
 congr 1
 funext i
 simp only [qbk, newB]
 by_cases e : i = id
 ·subst e; simp
 ·rw [if_neg e, if_neg (Ne.symm e)]; simp
theorem clearBXs_mem {los : List Nat} : ∀ {bs : List BX} {cs : List (List D)}, bs.map BX.blk = cs.map (fun cs => ⟨cs, false⟩) → clearBXs los bs = true → ∀ x ∈ cs, ∀ d ∈ x, clearS los d = true
 | [], [], _, _, x, hx => by cases hx
 | [], _ :: _, h, _, _, _ => by simp at h
 | _ :: _, [], h, _, _, _ => by simp at h
 | b :: bs, y :: cs, h, hc, x, hx => by
  simp only [List.map_cons, List.cons.injEq] at h
  simp only [clearBXs, Bool.and_eq_true] at hc
  rcases List.mem_cons.1 hx with rfl | hx
  ·intro d hd
   cases b with
   | cells cs ro =>
    have := congrArg Blk.cells h.1
    simp only [BX.blk] at this; subst this
    exact clearSL_mem hc.1 d hd
   | row cols ro =>
    have := congrArg Blk.cells h.1
    simp only [BX.blk] at this; subst this
    obtain ⟨v, rfl⟩ := rowCells0_v hd
    cases los <;> rfl
  ·exact clearBXs_mem h.2 hc.2 x hx
theorem quietOld_spec {O : Oper → St → St → Prop} {X : Contracts} (hX : ConOK P X) {k : Nat} {o : Oper} {c c' : Cf} (hk : R[k]? = some o)
  (h : quietOld P X R dep tgt k o c = some c') (hl : AllP c'.cds) : AllP c.cds ∧ (wantedD R o c.abs = some true → (∀ id ∈ (planOf P R dep tgt).zs k, Unused id c.abs) → QStep P (CallsD P) O R (planOf P R dep tgt) k o c.abs c'.abs) := by
 have own : ∀ id, makesAt R k = true → siteAt R dep k ≤ id → id < siteAt R dep k + 32 → id ∈ (planOf P R dep tgt).zs k := fun id hm h1 h2 => by
  simp only [planOf]; rw [hm, cond_true, List.mem_range'_1]; exact ⟨h1, h2⟩
 have blk : wantedD R o c.abs = some true → (∀ id ∈ (planOf P R dep tgt).zs k, Unused id c.abs) → ∀ d cs, makesAt R k = true → clearSL (siteAt R dep k :: othersAt R dep k) cs = true → clearS (othersAt R dep k) d = true → sepC c tgt (sG P R tgt k) o [] = true → QOp P (CallsD P) o (evalD c.abs) c.abs.bk ⟨d, [(siteAt R dep k, cs)], [], [], none⟩ →
   QStep P (CallsD P) O R (planOf P R dep tgt) k o c.abs ((c.setB (siteAt R dep k) (.cells cs false)).put o.dst d).abs := by
  intro hw hu d cs hm hcl hd hsep hop
  rw [← q_one]
  have hmem : siteAt R dep k ∈ (planOf P R dep tgt).zs k := own _ hm (Nat.le_refl _) (by omega)
  refine .op hw hop ?_ (by simp) (nomen_of hd) ?_ (.inr (sep_of hsep)) (fun g h => by cases h)
  ·intro i cs' hi
   simp only [List.mem_singleton, Prod.mk.injEq] at hi
   obtain ⟨rfl, rfl⟩ := hi
   refine ⟨hmem, hu _ hmem, fun j cs'' hj => ?_⟩
   simp only [List.mem_singleton, Prod.mk.injEq] at hj
   obtain ⟨rfl, rfl⟩ := hj
   exact hasL_false fun d hd' => clearS_has (clearSL_mem hcl d hd') (by simp) (Nat.le_refl _) (by omega)
  ·intro i cs' hi d' hd'
   simp only [List.mem_singleton, Prod.mk.injEq] at hi
   obtain ⟨rfl, rfl⟩ := hi
   exact nomen_of (clearS_tail (clearSL_mem hcl d' hd'))
 have opd : ∀ {e : Eff} {l : List Prop}, opY P c.bk (evalC c.toCs) o.type o.op = some (e, l) → AllP l → opD P c.abs.bk (evalD c.abs) o.type o.op = some e := fun h hl => by
  have := opY_spec h hl
  rwa [evalC_abs] at this
 unfold quietOld at h
 split at h
 next hcp =>
  split at h
  next d l hop =>
   simp only [cond_eq_ite] at h
   split at h
   next hb =>
    simp only [Option.some.injEq] at h; subst h
    simp only [cds_owe, cds_put, AllP_append] at hl
    simp only [Bool.and_eq_true, Bool.or_eq_true] at hb
    refine ⟨hl.2, fun hw hu => ?_⟩
    rw [abs_owe, ← q_plain]
    refine .op hw (.val (Nat.le_of_ble_eq_true hb.1) (opd hop hl.1)) (fun i cs h => by cases h) .nil (nomen_of hb.2.1) (fun i cs h => by cases h) ?_ (fun g h => by cases h)
    rcases hb.2.2 with h | h
    ·exact .inl (Nat.eq_of_beq_eq_true h)
    ·exact .inr (sep_of h)
   next => cases h
  next cs l hop =>
   simp only [cond_eq_ite] at h
   split at h
   next hb =>
    simp only [Option.some.injEq] at h; subst h
    simp only [cds_owe, cds_put, cds_setB, AllP_append] at hl
    simp only [Bool.and_eq_true] at hb
    exact ⟨hl.2, fun hw hu => blk hw hu _ cs hb.2.1 hb.2.2.1 hb.2.2.2.1 hb.2.2.2.2 (.box (Nat.le_of_ble_eq_true hb.1) (opd hop hl.1))⟩
   next => cases h
  next cs n sz l hop =>
   simp only [cond_eq_ite] at h
   split at h
   next hb =>
    simp only [Option.some.injEq] at h; subst h
    simp only [cds_owe, cds_put, cds_setB, AllP_append] at hl
    simp only [Bool.and_eq_true] at hb
    exact ⟨hl.2, fun hw hu => blk hw hu _ cs hb.2.1 hb.2.2.1 hb.2.2.2.1 hb.2.2.2.2 (.row (Nat.le_of_ble_eq_true hb.1) (opd hop hl.1))⟩
   next => cases h
  next s sz m ds l hop =>
   simp only [cond_eq_ite] at h
   split at h
   next hb =>
    simp only [Option.some.injEq] at h; subst h
    simp only [cds_owe, cds_put, cds_setB, AllP_append] at hl
    simp only [Bool.and_eq_true] at hb
    have hs : s = .emp ∨ ∃ u, s = .v u := by
     have := hb.1
     unfold freshB at this
     split at this
     ·exact .inl rfl
     ·exact .inr ⟨_, rfl⟩
     ·cases this
    exact ⟨hl.2, fun hw hu => blk hw hu _ ds hb.2.2.1 hb.2.2.2.1 hb.2.2.2.2.1 hb.2.2.2.2.2 (.app0 (Nat.le_of_ble_eq_true hb.2.1) (opd hop hl.1) hs)⟩
   next => cases h
  next l hop =>
   simp only [cond_eq_ite] at h
   split at h
   next hb =>
    simp only [Option.some.injEq] at h; subst h
    simp only [cds_owe, cds_put, AllP_append] at hl
    simp only [Bool.and_eq_true] at hb
    refine ⟨hl.2, fun hw hu => ?_⟩
    rw [abs_owe, ← q_plain]
    exact .op hw (.row0 (Nat.le_of_ble_eq_true hb.1) (opd hop hl.1)) (fun i cs h => by cases h) .nil (fun _ _ _ _ => rfl) (fun i cs h => by cases h) (.inr (sep_of hb.2)) (fun g h => by cases h)
   next => cases h
  next i off ds l hop =>
   simp only [cond_eq_ite] at h
   split at h
   next hb =>
    simp only [Bool.and_eq_true] at hb
    split at h
    next c1 hst =>
     simp only [Option.some.injEq] at h; subst h
     simp only [stepC] at hst
     split at hst
     next cells hbk =>
      split at hst
      next hlen =>
       simp only [Option.some.injEq] at hst; subst hst
       simp only [cds_owe, cds_put, cds_setB, AllP_append] at hl
       refine ⟨hl.2, fun hw hu => ?_⟩
       rw [abs_owe, abs_put, abs_setB]
       exact .sto hw (Nat.eq_of_beq_eq_true hb.1) (opd hop hl.1) (lookB_cells hbk) hlen (fun d hd => nomen_of (clearSL_mem hb.2.1 d hd)) (fun hU => by
        have hU : uB P R k = true := hU
        have h2 := hb.2.2
        rw [hU] at h2
        have h2 : Nat.beq i (tgt.getD k 0) = true := h2
        exact Nat.eq_of_beq_eq_true h2)
      next => cases hst
     next => cases hst
    ·cases h
   next => cases h
  next i off ds n l hop =>
   simp only [cond_eq_ite] at h
   split at h
   next hb =>
    simp only [Bool.and_eq_true] at hb
    split at h
    next c1 hst =>
     simp only [Option.some.injEq] at h; subst h
     simp only [stepC] at hst
     split at hst
     next cells hbk =>
      split at hst
      next hlen =>
       simp only [Option.some.injEq] at hst; subst hst
       simp only [cds_owe, cds_put, cds_setB, AllP_append] at hl
       refine ⟨hl.2, fun hw hu => ?_⟩
       rw [abs_owe, abs_put, abs_setB]
       exact .cpy hw (Nat.eq_of_beq_eq_true hb.1) (opd hop hl.1) (lookB_cells hbk) hlen (fun d hd => nomen_of (clearSL_mem hb.2 d hd))
      next => cases hst
     next cols hbk =>
      split at hst
      next hlen =>
       simp only [Option.some.injEq] at hst; subst hst
       simp only [cds_owe, cds_put, cds_setB, AllP_append] at hl
       refine ⟨hl.2, fun hw hu => ?_⟩
       rw [abs_owe, abs_put, abs_setB, BX.re_blk]
       exact .cpy hw (Nat.eq_of_beq_eq_true hb.1) (opd hop hl.1) (lookB_rowA hbk) hlen (fun d hd => nomen_of (clearSL_mem hb.2 d hd))
      next => cases hst
     next => cases hst
    ·cases h
   next => cases h
  next => cases h
 next fo args hcp =>
  split at h
  next f caps hfo =>
   have hfo' : evalD c.abs fo = .fn f caps := by rw [← evalC_abs]; exact hfo
   split at h
   next hbody =>
    split at h
    next vs hpl =>
     split at h
     next u l hrun =>
      simp only [cond_eq_ite] at h
      split at h
      next hb =>
       simp only [Option.some.injEq] at h; subst h
       simp only [cds_owe, cds_put, AllP_append] at hl
       simp only [Bool.and_eq_true] at hb
       refine ⟨hl.2, fun hw hu => ?_⟩
       rw [abs_owe, ← q_plain]
       exact .op hw (.ext hcp hfo' (by rw [← evalC_abs]; exact hpl) (extX_spec hX hrun hl.1)) (fun i cs h => by cases h) .nil (nomen_of hb.1) (fun i cs h => by cases h) (.inr (sep_of hb.2)) (fun g h => by cases h)
      next => cases h
     next => cases h
    next => cases h
   next fnb hbody =>
    split at h
    ·cases h
    next g hg =>
    split at h
    ·cases h
    next as passed l hsh =>
     split at h
     ·cases h
     next res l' hres =>
      simp only [cond_eq_ite] at h
      split at h
      next hb =>
       simp only [Option.some.injEq] at h; subst h
       simp only [Bool.and_eq_true] at hb
       obtain ⟨hm, hd, hcl, hlen, hsep⟩ := hb
       have hcd : AllP (l ++ l' ++ c.cds) := by
        have := hl
        simp only [cds_owe, cds_put, cds_new] at this
        cases hf : flat res <;> simpa [hf] using this
       rw [AllP_append, AllP_append] at hcd
       obtain ⟨⟨hl1, hl2⟩, hl3⟩ := hcd
       have hlen' := Nat.le_of_ble_eq_true hlen
       obtain ⟨as', ks1, ks2⟩ := shareAllX_spec (fun d e ids l h hl => shareX_spec depth d e ids l h hl) _ as passed l hsh hl1
       have ht := thawX_spec res (siteAt R dep k)
       have hlt : (thawX (siteAt R dep k) res).2.length = (thaw (siteAt R dep k) res).2.length := by have := congrArg List.length ht.2; simpa using this
       have hcall : CallsD P f as' res := fun w A vs hv low glo => hX.call f g (callOf_spec hg) as res l' hres hl2 w A vs (ks2.repL hv) low glo
       have hq : QOp P (CallsD P) o (evalD c.abs) c.abs.bk ⟨(thaw (siteAt R dep k) res).1, (thaw (siteAt R dep k) res).2.zipIdx.map fun (cs, j) => (siteAt R dep k + j, cs), if flat res then [] else passed, passed, none⟩ :=
        .call hcp hfo' (by rw [hbody]; rfl) (by rw [← evalC_abs]; exact ks1) hcall
       have hne := news_eq (thaw (siteAt R dep k) res).2 (siteAt R dep k) 0
       simp only [Nat.add_zero] at hne
       rw [hne] at hq
       have e : (((putNewC (if flat res = true then c else c.markRo passed) (siteAt R dep k) (thawX (siteAt R dep k) res).2).put o.dst (thawX (siteAt R dep k) res).1).owe (l ++ l')).abs =
         c.abs.q o.dst ⟨(thaw (siteAt R dep k) res).1, news (siteAt R dep k) (thaw (siteAt R dep k) res).2, if flat res then [] else passed, passed, none⟩ := by
        rw [abs_owe, abs_put, putNew_abs _ _ _ _ ht.2, ht.1]
        simp only [St.q]
        congr 1
        refine St.ext' ?_ ?_ ?_ (by cases flat res <;> rfl)
        ·cases flat res <;> rfl
        ·cases flat res <;> rfl
        ·funext i
         simp only [qbk]
         cases newB i (news (siteAt R dep k) (thaw (siteAt R dep k) res).2) with
         | some b => rfl
         | none =>
          cases flat res with
          | true => simp
          | false => simp [abs_ro, St.markRo]
       refine ⟨hl3, fun hw hu => ?_⟩
       rw [e]
       have hin : ∀ i cs, (i, cs) ∈ news (siteAt R dep k) (thaw (siteAt R dep k) res).2 → siteAt R dep k ≤ i ∧ i < siteAt R dep k + 32 := fun i cs hi => ⟨(news_ge hi).1, by have := news_lt hi; omega⟩
       have hclm := clearBXs_mem ht.2 hcl
       refine .op hw hq ?_ (news_nodup _ _) (nomen_of (by rw [← ht.1]; exact hd)) ?_ (.inr (sep_of hsep)) (fun g h => by cases h)
       ·intro i cs hi
        obtain ⟨h1, h2⟩ := hin i cs hi
        have hz := own i hm h1 h2
        refine ⟨hz, hu i hz, fun j cs' hj => ?_⟩
        exact hasL_false fun d hd' => clearS_has (hclm cs' (news_ge hj).2 d hd') (by simp) h1 h2
       ·intro i cs hi d' hd'
        exact nomen_of (clearS_tail (hclm cs (news_ge hi).2 d' hd'))
      next => cases h
  next => cases h
theorem q_grow (c : Cf) (dst : Option Tmp) (d : D) (i id : Nat) (es : List Col0) : c.abs.q dst ⟨d, [(id, rowCells0 es)], [], [], some i⟩ = (((c.delB i).setB id (.row es false)).put dst d).abs := by
 rw [abs_put, abs_setB, abs_delB]; simp only [St.q, St.setB, St.dropB, BX.blk]; congr 1
 congr 1
 funext j
 simp only [qbk, newB]
 by_cases e : j = id
 ·subst e; simp
 ·rw [if_neg e, if_neg (Ne.symm e)]
  by_cases e2 : j = i
  ·subst e2; simp
  ·have : ¬ i = j := fun h => e2 h.symm
   simp [e2, this]
theorem quietGrow_spec {O : Oper → St → St → Prop} {k : Nat} {o : Oper} {c c' : Cf}
  (h : quietGrow P R dep tgt k o c = some c') (hl : AllP c'.cds) : AllP c.cds ∧ (wantedD R o c.abs = some true → (∀ id ∈ (planOf P R dep tgt).zs k, Unused id c.abs) → QStep P (CallsD P) O R (planOf P R dep tgt) k o c.abs c'.abs) := by
 unfold quietGrow at h
 split at h
 next s x ts hop =>
  simp only [cond_eq_ite] at h
  split at h
  next hgr =>
   split at h
   next i n size es l hg =>
    split at h
    next hb =>
     simp only [Option.some.injEq] at h; subst h
     simp only [Bool.and_eq_true] at hb
     obtain ⟨hm, hi, hd, hsep⟩ := hb
     have hcd : AllP (l ++ c.cds) := by simpa [cds_owe, cds_put, cds_setB, Cf.delB] using hl
     rw [AllP_append] at hcd
     rw [evalC_abs] at hg
     obtain ⟨sz, ds, cells, k0, k1, k2, k3, k4⟩ := rowGrow_spec hg hcd.1
     refine ⟨hcd.2, fun hw hu => ?_⟩
     rw [abs_owe, ← q_grow]
     have hz : siteAt R dep k ∈ (planOf P R dep tgt).zs k := by
      simp only [planOf]; rw [hm, cond_true, List.mem_range'_1]; exact ⟨Nat.le_refl _, by show _ < siteAt R dep k + 32; omega⟩
     have hq : QOp P (CallsD P) o (evalD c.abs) c.abs.bk ⟨.sl (siteAt R dep k) 0 (n + 1) ⟨size, 0⟩, [(siteAt R dep k, rowCells0 es)], [], [], some i⟩ := by
      rw [k4]
      refine .grow ?_ ⟨s, ?_, k0⟩ (sz := sz) (ds := ds) (cells := cells) ?_ (fun h => by cases h) k2 k3
      ·rw [hop]; rfl
      ·rw [hop]; simp [Op.operands, Call.operands]
      ·rw [hop]; exact k1
     have hv : ∀ d ∈ rowCells0 es, ∀ id, d.has id = false := fun d hd id => by obtain ⟨v, rfl⟩ := rowCells0_v hd; rfl
     refine .op hw hq ?_ (by simp) (nomen_of hd) ?_ (.inr (sep_of hsep)) ?_
     ·intro j cs' hj
      simp only [List.mem_singleton, Prod.mk.injEq] at hj
      obtain ⟨rfl, rfl⟩ := hj
      refine ⟨hz, hu _ hz, fun j cs'' hj => ?_⟩
      simp only [List.mem_singleton, Prod.mk.injEq] at hj
      obtain ⟨rfl, rfl⟩ := hj
      exact hasL_false fun d hd' => hv d hd' _
     ·intro j cs' hj d' hd'
      simp only [List.mem_singleton, Prod.mk.injEq] at hj
      obtain ⟨rfl, rfl⟩ := hj
      exact fun _ _ _ _ => hv d' hd' _
     ·intro g hg'
      simp only [Option.some.injEq] at hg'
      subst hg'
      exact ⟨hgr, Nat.eq_of_beq_eq_true hi⟩
    ·cases h
   ·cases h
  ·cases h
 ·cases h
theorem quietStore_spec {O : Oper → St → St → Prop} {k : Nat} {o : Oper} {c c' : Cf}
  (h : quietStore P R dep tgt k o c = some c') (hl : AllP c'.cds) : AllP c.cds ∧ (wantedD R o c.abs = some true → (∀ id ∈ (planOf P R dep tgt).zs k, Unused id c.abs) → QStep P (CallsD P) O R (planOf P R dep tgt) k o c.abs c'.abs) := by
 unfold quietStore at h
 split at h
 next t a x hop =>
  split at h
  next id i w j ds ha hx =>
   simp only [cond_eq_ite] at h
   split at h
   next hb =>
    simp only [Bool.and_eq_true] at hb
    split at h
    next c1 l hst =>
     simp only [Option.some.injEq] at h; subst h
     simp only [cds_owe, AllP_append] at hl
     obtain ⟨id', i', w', j', ds', off, cells, e1, e2, e3, e4, e5, e6, e7⟩ := rowStore_sto hst hl.1
     rw [ha] at e1
     simp only [D.pel.injEq] at e1
     obtain ⟨rfl, _⟩ := e1
     rw [hx] at e2
     simp only [Option.some.injEq] at e2; subst e2
     refine ⟨by rw [← e7]; exact hl.2, fun hw hu => ?_⟩
     rw [abs_owe, e6]
     refine .sto hw (Nat.eq_of_beq_eq_true hb.1) ?_ e4 e5 (fun d hd => nomen_of (clearSL_mem hb.2.1 d hd)) (fun hU => by
      have hU : uB P R k = true := hU
      have h2 := hb.2.2
      rw [hU] at h2
      have h2 : Nat.beq id (tgt.getD k 0) = true := h2
      exact Nat.eq_of_beq_eq_true h2)
     rw [hop]
     simp only [opD]
     exact e3
    ·cases h
   ·cases h
  ·cases h
 ·cases h
theorem q_row (c : Cf) (dst : Option Tmp) (d : D) (id : Nat) (cs : List Col0) : c.abs.q dst ⟨d, [(id, rowCells0 cs)], [], [], none⟩ = ((c.setB id (.row cs false)).put dst d).abs := by
 rw [abs_put, abs_setB]; simp only [St.q, St.setB, BX.blk]; congr 1
 congr 1
 funext i
 simp only [qbk, newB]
 by_cases e : i = id
 ·subst e; simp
 ·rw [if_neg e, if_neg (Ne.symm e)]; simp
theorem quietApp_spec {O : Oper → St → St → Prop} {k : Nat} {o : Oper} {c c' : Cf}
  (h : quietApp P R dep tgt k o c = some c') (hl : AllP c'.cds) : AllP c.cds ∧ (wantedD R o c.abs = some true → (∀ id ∈ (planOf P R dep tgt).zs k, Unused id c.abs) → QStep P (CallsD P) O R (planOf P R dep tgt) k o c.abs c'.abs) := by
 unfold quietApp at h
 split at h
 next s x ts hop =>
  split at h
  next m size c0 l hg =>
   simp only [cond_eq_ite] at h
   split at h
   next hb =>
    simp only [Option.some.injEq] at h; subst h
    simp only [Bool.and_eq_true] at hb
    obtain ⟨hm, hd, hsep⟩ := hb
    have hcd : AllP (l ++ c.cds) := by simpa [cds_owe, cds_put, cds_setB] using hl
    rw [AllP_append] at hcd
    rw [evalC_abs] at hg
    obtain ⟨k0, k1, k2⟩ := rowFresh_spec hg hcd.1
    refine ⟨hcd.2, fun hw hu => ?_⟩
    rw [abs_owe, ← q_row]
    have hz : siteAt R dep k ∈ (planOf P R dep tgt).zs k := by
     simp only [planOf]; rw [hm, cond_true, List.mem_range'_1]; exact ⟨Nat.le_refl _, by show _ < siteAt R dep k + 32; omega⟩
    have hq : QOp P (CallsD P) o (evalD c.abs) c.abs.bk ⟨.sl (siteAt R dep k) 0 m ⟨size, 0⟩, [(siteAt R dep k, rowCells0 c0)], [], [], none⟩ := by
     refine .appE ?_ ?_ k2
     ·rw [hop]; rfl
     ·rw [hop]; exact k1
    have hv : ∀ d ∈ rowCells0 c0, ∀ id, d.has id = false := fun d hd id => by obtain ⟨v, rfl⟩ := rowCells0_v hd; rfl
    refine .op hw hq ?_ (by simp) (nomen_of hd) ?_ (.inr (sep_of hsep)) (fun g h => by cases h)
    ·intro j cs' hj
     simp only [List.mem_singleton, Prod.mk.injEq] at hj
     obtain ⟨rfl, rfl⟩ := hj
     refine ⟨hz, hu _ hz, fun j cs'' hj => ?_⟩
     simp only [List.mem_singleton, Prod.mk.injEq] at hj
     obtain ⟨rfl, rfl⟩ := hj
     exact hasL_false fun d hd' => hv d hd' _
    ·intro j cs' hj d' hd'
     simp only [List.mem_singleton, Prod.mk.injEq] at hj
     obtain ⟨rfl, rfl⟩ := hj
     exact fun _ _ _ _ => hv d' hd' _
   ·cases h
  ·cases h
 ·cases h
theorem quietJoin_spec {O : Oper → St → St → Prop} {k : Nat} {o : Oper} {c c' : Cf}
  (h : quietJoin P R dep tgt k o c = some c') (hl : AllP c'.cds) : AllP c.cds ∧ (wantedD R o c.abs = some true → (∀ id ∈ (planOf P R dep tgt).zs k, Unused id c.abs) → QStep P (CallsD P) O R (planOf P R dep tgt) k o c.abs c'.abs) := by
 unfold quietJoin at h
 split at h
 next s x ts hop =>
  simp only [cond_eq_ite] at h
  split at h
  next hgr =>
   split at h
   next i n m size es l hg =>
    split at h
    next hb =>
     simp only [Option.some.injEq] at h; subst h
     simp only [Bool.and_eq_true] at hb
     obtain ⟨hm, hi, hd, hsep⟩ := hb
     have hcd : AllP (l ++ c.cds) := by simpa [cds_owe, cds_put, cds_setB, Cf.delB] using hl
     rw [AllP_append] at hcd
     rw [evalC_abs] at hg
     obtain ⟨sz, ds, cells, k0, k1, kz, k2, k3, k4⟩ := rowJoin_spec hg hcd.1
     refine ⟨hcd.2, fun hw hu => ?_⟩
     rw [abs_owe, ← q_grow]
     have hz : siteAt R dep k ∈ (planOf P R dep tgt).zs k := by
      simp only [planOf]; rw [hm, cond_true, List.mem_range'_1]; exact ⟨Nat.le_refl _, by show _ < siteAt R dep k + 32; omega⟩
     have hq : QOp P (CallsD P) o (evalD c.abs) c.abs.bk ⟨.sl (siteAt R dep k) 0 (n + m) ⟨size, 0⟩, [(siteAt R dep k, rowCells0 es)], [], [], some i⟩ := by
      rw [k4]
      refine .grow ?_ ⟨s, ?_, k0⟩ (sz := sz) (ds := ds) (cells := cells) ?_ kz k2 k3
      ·rw [hop]; rfl
      ·rw [hop]; simp [Op.operands, Call.operands]
      ·rw [hop]; exact k1
     have hv : ∀ d ∈ rowCells0 es, ∀ id, d.has id = false := fun d hd id => by obtain ⟨v, rfl⟩ := rowCells0_v hd; rfl
     refine .op hw hq ?_ (by simp) (nomen_of hd) ?_ (.inr (sep_of hsep)) ?_
     ·intro j cs' hj
      simp only [List.mem_singleton, Prod.mk.injEq] at hj
      obtain ⟨rfl, rfl⟩ := hj
      refine ⟨hz, hu _ hz, fun j cs'' hj => ?_⟩
      simp only [List.mem_singleton, Prod.mk.injEq] at hj
      obtain ⟨rfl, rfl⟩ := hj
      exact hasL_false fun d hd' => hv d hd' _
     ·intro j cs' hj d' hd'
      simp only [List.mem_singleton, Prod.mk.injEq] at hj
      obtain ⟨rfl, rfl⟩ := hj
      exact fun _ _ _ _ => hv d' hd' _
     ·intro g hg'
      simp only [Option.some.injEq] at hg'
      subst hg'
      exact ⟨hgr, Nat.eq_of_beq_eq_true hi⟩
    ·cases h
   ·cases h
  ·cases h
 ·cases h
theorem quietOne_spec {O : Oper → St → St → Prop} {X : Contracts} (hX : ConOK P X) {k : Nat} {o : Oper} {c c' : Cf} (hk : R[k]? = some o)
  (h : quietOne P X R dep tgt k o c = some c') (hl : AllP c'.cds) : AllP c.cds ∧ (wantedD R o c.abs = some true → (∀ id ∈ (planOf P R dep tgt).zs k, Unused id c.abs) → QStep P (CallsD P) O R (planOf P R dep tgt) k o c.abs c'.abs) := by
 unfold quietOne at h
 split at h
 next c2 hg =>
  simp only [Option.some.injEq] at h; subst h
  exact quietGrow_spec hg hl
 ·split at h
  next c2 hg =>
   simp only [Option.some.injEq] at h; subst h
   exact quietStore_spec hg hl
  ·split at h
   next c2 hg =>
    simp only [Option.some.injEq] at h; subst h
    exact quietApp_spec hg hl
   ·split at h
    next c2 hg =>
     simp only [Option.some.injEq] at h; subst h
     exact quietJoin_spec hg hl
    ·exact quietOld_spec hX hk h hl
theorem qstep_un {O : Oper → St → St → Prop} {p : Plan} (ok : PlanOK P R p) {k m : Nat} {o : Oper} {σ σ1 : St} (h : QStep P F O R p k o σ σ1) (hlt : k < m) (hu : ∀ id ∈ p.zs m, Unused id σ) (hW : p.W k m = true) : ∀ id ∈ p.zs m, Unused id σ1 := by
 intro id hid
 have hu := hu id hid
 cases h with
 | skip _ => exact unused_q hu rfl (fun cs h => by cases h) (fun i cs h => by cases h)
 | op _ _ hm _ hd hcs _ =>
  refine unused_q hu (hd m hW id hid) (fun cs hn => ok.dis m k (by omega) id hid (hm id cs hn).1) (fun j cs hn => hasL_false fun d hd' => hcs j cs hn d hd' m hW id hid)
 | sto _ _ _ hb _ hd _ => exact unused_sto hu hb (hasL_false fun d hd' => hd d hd' m hW id hid)
 | cpy _ _ _ hb _ hd => exact unused_put_ofV (unused_sto hu hb (hasL_false fun d hd' => hd d hd' m hW id hid))
 | oth _ _ h => exact h m hW id hid
theorem anc_lt {p : Plan} (ok : PlanOK P R p) {i k : Nat} (h : Anc R i k) : i < k := by
 induction h with
 | edge h1 h2 h3 => exact ok.low _ _ h1 _ h2 h3
 | trans h1 h2 h3 _ ih => exact Nat.lt_trans ih (ok.low _ _ h1 _ h2 h3)
theorem cds_wipeS (los : List Nat) (c : Cf) : (wipeS los c).cds = c.cds := by cases los <;> rfl
theorem drawOne_spec {X : Contracts} (hX : ConOK P X) {E : List Oper → Cf → Option (Ex × Cf)}
  (hE : ∀ l c c', E l c = some (.normal, c') → AllP c'.cds → AllP c.cds ∧ Runs P (CallsD P) (.ops R l) c.abs .normal c'.abs) {k : Nat} {o : Oper} {c c1 : Cf} (hk : R[k]? = some o)
  (h : drawOne P X E R dep tgt k o c = some c1) (hl : AllP c1.cds) : AllP c.cds ∧ ((∀ id ∈ (planOf P R dep tgt).zs k, Unused id c.abs) →
   ((tB R k = true ∧ Runs P (CallsD P) (.ops R [o]) c.abs .normal c1.abs ∧ ∀ l, (planOf P R dep tgt).W k l = true → ∀ id ∈ (planOf P R dep tgt).zs l, Unused id c1.abs) ∨ QStep P (CallsD P) (fun _ _ _ => False) R (planOf P R dep tgt) k o c.abs c1.abs)) := by
 unfold drawOne at h
 cases ht : tB R k with
 | true =>
  rw [ht, cond_true] at h
  split at h
  next c2 he =>
   simp only [Option.some.injEq] at h; subst h
   rw [cds_wipeS] at hl
   obtain ⟨k1, k2⟩ := hE _ _ _ he hl
   exact ⟨k1, fun _ => .inl ⟨rfl, wipeS_runs k2, unused_others (P := P) (R := R) (dep := dep) (tgt := tgt) (k := k) c2⟩⟩
  ·cases h
 | false =>
  rw [ht, cond_false] at h
  split at h
  ·cases h
  next c2 hw =>
   simp only [Option.some.injEq] at h; subst h
   rw [cds_put] at hl
   obtain ⟨k1, k2, k3⟩ := wantedX_spec hw hl
   refine ⟨k1, fun _ => .inr ?_⟩
   rw [← q_plain, k2]
   exact .skip k3
  next c2 hw =>
   obtain ⟨q1, q2⟩ := quietOne_spec (O := fun _ _ _ => False) hX hk h hl
   obtain ⟨k1, k2, k3⟩ := wantedX_spec hw q1
   rw [k2] at q2
   exact ⟨k1, fun hu => .inr (q2 k3 hu)⟩
theorem drawsGo_runs {X : Contracts} (hX : ConOK P X) {E : List Oper → Cf → Option (Ex × Cf)}
  (hE : ∀ l c c', E l c = some (.normal, c') → AllP c'.cds → AllP c.cds ∧ Runs P (CallsD P) (.ops R l) c.abs .normal c'.abs) (ok : PlanOK P R (planOf P R dep tgt)) : ∀ (l : List Oper) (k : Nat) (c c' : Cf), (∀ j, l[j]? = R[k + j]?) →
  drawsGo P X E R dep tgt k l c = some c' → AllP c'.cds → AllP c.cds ∧ ((∀ m, k ≤ m → ∀ id ∈ (planOf P R dep tgt).zs m, Unused id c.abs) → Runs P (CallsD P) (.draws R (planOf P R dep tgt) k l) c.abs .normal c'.abs)
 | [], k, c, c', _, h, hl => by simp only [drawsGo, Option.some.injEq] at h; subst h; exact ⟨hl, fun _ => .dnil⟩
 | o :: l, k, c, c', hlk, h, hl => by
  have hk : R[k]? = some o := by simpa using (hlk 0).symm
  have hl' : ∀ j, l[j]? = R[k + 1 + j]? := fun j => by have := hlk (j + 1); simpa [Nat.add_assoc, Nat.add_comm 1 j] using this
  have hW : ∀ m, k < m → (planOf P R dep tgt).W k m = true := fun m hm => ok.later k m (by omega) (fun ha => by have := anc_lt ok ha; omega)
  simp only [drawsGo] at h
  split at h
  ·cases h
  next c1 h1 =>
   obtain ⟨j1, j2⟩ := drawsGo_runs hX hE ok l (k + 1) c1 c' hl' h hl
   obtain ⟨k1, k2⟩ := drawOne_spec hX hE hk h1 j1
   refine ⟨k1, fun hu => ?_⟩
   rcases k2 (hu k (Nat.le_refl _)) with ⟨ht, hr, hun⟩ | hq
   ·exact .dother ht hr hun (j2 fun m hm => hun m (hW m hm))
   ·exact .dstep hq (j2 fun m hm => qstep_un ok hq hm (hu m (by omega)) (hW m hm))
end
end
end Go.Dam
end

section
namespace Go.Dam
open Go Go.RowKit
variable [Glo]
noncomputable section
/-! ### The state ahead of a loop: what counts of it, its blocks by other names -/
def renOf (i : Nat) : List (Nat × Nat) → Option Nat
 | [] => none
 | (k, j) :: l => bif Nat.beq k i then some j else renOf i l
mutual
def D.ren (l : List (Nat × Nat)) : D → D
 | .sl i off n sz => match renOf i l with
  | some j => .sl j off n sz
  | none => .undef
 | .ptr i off => match renOf i l with
  | some j => .ptr j off
  | none => .undef
 | .pel i a b c => match renOf i l with
  | some j => .pel j a b c
  | none => .undef
 | .agg cs => .agg (D.renL l cs)
 | .tup cs => .tup (D.renL l cs)
 | .fn f cs => .fn f (D.renL l cs)
 | d => d
def D.renL (l : List (Nat × Nat)) : List D → List D
 | [] => []
 | d :: ds => D.ren l d :: D.renL l ds
end
def BX.ren (l : List (Nat × Nat)) : BX → BX
 | .cells cs ro => .cells (D.renL l cs) ro
 | .row cols ro => .row cols ro
def keepT (t : TT) : List Nat → TT
 | [] => .lf
 | k :: ks => (keepT t ks).set (t.get (path k)) (path k)
/-- A tree out of what lies in it. -/
def TT.of : List (Nat × D) → TT
 | [] => .lf
 | (k, d) :: l => (TT.of l).set d (path k)
theorem get_keepT (t : TT) (k : Nat) : ∀ ks, (keepT t ks).get (path k) = if k ∈ ks then t.get (path k) else .undef
 | [] => by simp [keepT, get_lf]
 | j :: ks => by
  simp only [keepT, TT.get_set, get_keepT t k ks]
  by_cases h : k = j
  ·subst h; simp
  ·rw [if_neg (fun e => h (path_inj e))]; simp [h]
def renBk (bk : List (Nat × BX)) (l : List (Nat × Nat)) : List (Nat × Nat) → List (Nat × BX)
 | [] => []
 | (i, j) :: m => match lookX i bk with
  | some b => (j, b.ren l) :: renBk bk l m
  | none => renBk bk l m
def keepF (l : List (Nat × Nat)) (f : TT × Nat) (ks : List Nat) : TT × Nat := ((keepT f.1 ks).map (D.ren l), f.2)
def keepS (l : List (Nat × Nat)) : List (TT × Nat) → List (List Nat) → List (TT × Nat)
 | [], _ => []
 | f :: fs, [] => keepF l f [] :: keepS l fs []
 | f :: fs, k :: ks => keepF l f k :: keepS l fs ks
/-- The state ahead of a loop. -/
def Cs.norm (c : Cs) (keep : List (List Nat)) (l : List (Nat × Nat)) : Cs :=
 { tm := (keepF l (c.tm, c.nt) (keep.headD [])).1, nt := c.nt, stk := keepS l c.stk keep.tail, bk := renBk c.bk l l, loop := c.loop, gen := 0 }
/-- Names given once. -/
def okRen : List (Nat × Nat) → Bool
 | [] => true
 | (i, j) :: l => (!(Nat.beq j yldId)) && (l.all (fun p => !(Nat.beq p.1 i) && !(Nat.beq p.2 j)) && okRen l)
theorem okRen_mem : ∀ {l : List (Nat × Nat)}, okRen l = true → (∀ i j, (i, j) ∈ l → renOf i l = some j ∧ j ≠ yldId) ∧ ∀ i i' j, (i, j) ∈ l → (i', j) ∈ l → i = i'
 | [], _ => ⟨fun i j h => (by cases h), fun i i' j h => (by cases h)⟩
 | (a, b) :: l, h => by
  simp only [okRen, Bool.and_eq_true, Bool.not_eq_true', List.all_eq_true, Prod.forall] at h
  obtain ⟨h1, h2, h3⟩ := h
  obtain ⟨k1, k2⟩ := okRen_mem h3
  have hb : b ≠ yldId := fun e => by rw [e, beq_yes] at h1; cases h1
  refine ⟨fun i j hm => ?_, fun i i' j hm hm' => ?_⟩
  ·simp only [List.mem_cons, Prod.mk.injEq] at hm
   rcases hm with ⟨rfl, rfl⟩ | hm
   ·exact ⟨by simp [renOf, beq_yes], hb⟩
   ·have hne : a ≠ i := fun e => by subst e; have := (h2 a j hm).1; rw [beq_yes] at this; cases this
    simp only [renOf, beq_no hne, cond_false]
    exact k1 i j hm
  ·simp only [List.mem_cons, Prod.mk.injEq] at hm hm'
   rcases hm with ⟨e1, e2⟩ | hm <;> rcases hm' with ⟨e3, e4⟩ | hm'
   ·rw [e1, e3]
   ·have := (h2 i' _ hm').2; rw [e2, beq_yes] at this; cases this
   ·have := (h2 i _ hm).2; rw [e4, beq_yes] at this; cases this
   ·exact k2 i i' j hm hm'
theorem renOf_mem : ∀ {l : List (Nat × Nat)} {i j : Nat}, renOf i l = some j → (i, j) ∈ l
 | [], _, _, h => by simp [renOf] at h
 | (a, b) :: l, i, j, h => by
  simp only [renOf, cond_eq_ite] at h
  split at h
  next e => have := Nat.eq_of_beq_eq_true e; simp at h; subst this; subst h; simp
  next => simp [renOf_mem h]
def invOf (j : Nat) : List (Nat × Nat) → Option Nat
 | [] => none
 | (i, k) :: l => if k = j then some i else invOf j l
theorem invOf_mem {j : Nat} : ∀ {l : List (Nat × Nat)} {i : Nat}, okRen l = true → (i, j) ∈ l → invOf j l = some i
 | [], i, _, h => by cases h
 | (a, b) :: l, i, ho, h => by
  simp only [invOf]
  split
  next e =>
   subst e
   rw [(okRen_mem ho).2 i a b h (by simp)]
  next e =>
   simp only [List.mem_cons, Prod.mk.injEq] at h
   rcases h with ⟨rfl, rfl⟩ | h
   ·exact absurd rfl e
   ·simp only [okRen, Bool.and_eq_true] at ho
    exact invOf_mem ho.2.2 h
/-- Where the renamed blocks lie. -/
def renEnv (β : Env) (l : List (Nat × Nat)) : Env := fun k => if k = yldId then β yldId else (invOf k l).bind β
theorem renEnv_of {β : Env} {l : List (Nat × Nat)} (ho : okRen l = true) {i j : Nat} (h : renOf i l = some j) : renEnv β l j = β i := by
 have hm := renOf_mem h
 unfold renEnv
 rw [if_neg ((okRen_mem ho).1 i j hm).2, invOf_mem ho hm]
 rfl
mutual
theorem ren_rep {w : World} {A : Nat → Prop} {β : Env} {l : List (Nat × Nat)} (ho : okRen l = true) : ∀ (d : D) (u : Value), Rep w A β d u → Rep w A (renEnv β l) (d.ren l) u
 | .sl i off n sz, u, h => by
  simp only [D.ren]
  split
  next j hj =>
   simp only [Rep] at h ⊢
   rw [renEnv_of ho hj]; exact h
  next => simp [Rep, RepS]
 | .ptr i off, u, h => by
  simp only [D.ren]
  split
  next j hj =>
   simp only [Rep] at h ⊢
   rw [renEnv_of ho hj]; exact h
  next => simp [Rep, RepS]
 | .pel i a b c, u, h => by
  simp only [D.ren]
  split
  next j hj =>
   simp only [Rep] at h ⊢
   rw [renEnv_of ho hj]; exact h
  next => simp [Rep, RepS]
 | .agg cs, u, h => by
  simp only [Rep, D.ren] at h ⊢
  obtain ⟨vs, rfl, h⟩ := h
  exact ⟨vs, rfl, renL_rep ho cs vs h⟩
 | .tup cs, u, h => by
  simp only [Rep, D.ren] at h ⊢
  obtain ⟨vs, rfl, h⟩ := h
  exact ⟨vs, rfl, renL_rep ho cs vs h⟩
 | .fn f cs, u, h => by
  simp only [Rep, D.ren] at h ⊢
  obtain ⟨vs, rfl, h⟩ := h
  exact ⟨vs, rfl, renL_rep ho cs vs h⟩
 | .yld, u, h => by
  simp only [Rep, D.ren] at h ⊢
  obtain ⟨ad, h1, h2⟩ := h
  exact ⟨ad, by simp [renEnv, h1], h2⟩
 | .undef, u, h => by simpa [D.ren, Rep] using h
 | .v x, u, h => by simpa [D.ren, Rep] using h
 | .emp, u, h => by simpa [D.ren, Rep] using h
 | .sh _ _, u, h => by simpa [D.ren, Rep] using h
 | .ow _ _ _, u, h => by simpa [D.ren, Rep] using h
 | .shp _ _, u, h => by simpa [D.ren, Rep] using h
 | .rc _, u, h => by simpa [D.ren, Rep] using h
 | .oc _, u, h => by simpa [D.ren, Rep] using h
theorem renL_rep {w : World} {A : Nat → Prop} {β : Env} {l : List (Nat × Nat)} (ho : okRen l = true) : ∀ (ds : List D) (vs : List Value), RepLs w A β ds vs → RepLs w A (renEnv β l) (D.renL l ds) vs
 | [], vs, h => by simpa [D.renL, RepLs] using h
 | d :: ds, vs, h => by
  simp only [D.renL, RepLs] at h ⊢
  obtain ⟨x, xs, rfl, h1, h2⟩ := h
  exact ⟨x, xs, rfl, ren_rep ho d x h1, renL_rep ho ds xs h2⟩
end
theorem renL_at {w : World} {A : Nat → Prop} {β : Env} {l : List (Nat × Nat)} (ho : okRen l = true) : ∀ (ds : List D) (ad : Addr), CellsAt w A β ds ad → CellsAt w A (renEnv β l) (D.renL l ds) ad
 | [], _, _ => trivial
 | d :: ds, ad, ⟨⟨u, h1, h2⟩, h3⟩ => ⟨⟨u, h1, ren_rep ho d u h2⟩, renL_at ho ds _ h3⟩
theorem renL_map (l : List (Nat × Nat)) : ∀ ds : List D, D.renL l ds = ds.map (D.ren l)
 | [] => rfl
 | d :: ds => by simp [D.renL, renL_map l ds]
theorem renL_row (l : List (Nat × Nat)) (cols : List Col0) : D.renL l (rowCells0 cols) = rowCells0 cols := by
 rw [renL_map]
 refine (List.map_congr_left fun d hd => ?_).trans (List.map_id _)
 obtain ⟨x, rfl⟩ := rowCells0_v hd
 rfl
theorem BX.ren_cells (l : List (Nat × Nat)) (b : BX) : (b.ren l).blk = ⟨D.renL l b.blk.cells, b.blk.ro⟩ := by
 cases b with
 | cells cs ro => rfl
 | row cols ro => simp only [BX.ren, BX.blk, renL_row]
theorem lookX_ren {bk : List (Nat × BX)} {l : List (Nat × Nat)} {j : Nat} {b : BX} : ∀ {m : List (Nat × Nat)}, lookX j (renBk bk l m) = some b → ∃ i b0, (i, j) ∈ m ∧ lookX i bk = some b0 ∧ b = b0.ren l
 | [], h => by simp [renBk, lookX] at h
 | (i, k) :: m, h => by
  simp only [renBk] at h
  split at h
  next b0 hb0 =>
   simp only [lookX, cond_eq_ite] at h
   split at h
   next e =>
    have := Nat.eq_of_beq_eq_true e
    subst this
    simp at h; subst h
    exact ⟨i, b0, by simp, hb0, rfl⟩
   next =>
    obtain ⟨i', b', h1, h2, h3⟩ := lookX_ren h
    exact ⟨i', b', by simp [h1], h2, h3⟩
  next =>
   obtain ⟨i', b', h1, h2, h3⟩ := lookX_ren h
   exact ⟨i', b', by simp [h1], h2, h3⟩
theorem keepF_rep {w : World} {A : Nat → Prop} {β : Env} {l : List (Nat × Nat)} (ho : okRen l = true) {f : TT × Nat} {ks : List Nat} {a : Array Value} (h : FrRep w A β (frOf f) a) : FrRep w A (renEnv β l) (frOf (keepF l f ks)) a := by
 refine ⟨h.nt, fun t => ?_⟩
 show Rep w A (renEnv β l) (((keepT f.1 ks).map (D.ren l)).get (path t)) _
 rw [TT.get_map rfl, get_keepT]
 split
 ·exact ren_rep ho _ _ (h.tm t)
 ·simp [D.ren, Rep, RepS]
theorem keepS_rep {w : World} {A : Nat → Prop} {β : Env} {l : List (Nat × Nat)} (ho : okRen l = true) : ∀ (fs : List (TT × Nat)) (ks : List (List Nat)) (as : List (Array Value)), StkRep w A β (fs.map frOf) as → StkRep w A (renEnv β l) ((keepS l fs ks).map frOf) as
 | [], _, as, h => by cases h; simp only [keepS]; exact .nil
 | f :: fs, [], as, h => by
  cases h with
  | cons h1 h2 => simp only [keepS, List.map_cons]; exact .cons (keepF_rep ho h1) (keepS_rep ho fs [] _ h2)
 | f :: fs, k :: ks, as, h => by
  cases h with
  | cons h1 h2 => simp only [keepS, List.map_cons]; exact .cons (keepF_rep ho h1) (keepS_rep ho fs ks _ h2)
theorem norm_weaker (c : Cs) (keep : List (List Nat)) {l : List (Nat × Nat)} (ho : okRen l = true) : Weaker c.abs (c.norm keep l).abs := by
 intro w A β base tmps acts h
 have inv : ∀ j b, (c.norm keep l).abs.bk j = some b → ∃ i b0, (i, j) ∈ l ∧ c.abs.bk i = some b0 ∧ b = ⟨D.renL l b0.cells, b0.ro⟩ := by
  intro j b hb
  have hb : lookB j (renBk c.bk l l) = some b := hb
  unfold lookB at hb
  rw [Option.map_eq_some_iff] at hb
  obtain ⟨b1, hb1, rfl⟩ := hb
  obtain ⟨i, b0, h1, h2, rfl⟩ := lookX_ren hb1
  exact ⟨i, b0.blk, h1, by show lookB i c.bk = _; unfold lookB; rw [h2]; rfl, BX.ren_cells l b0⟩
 have henv : ∀ i j, (i, j) ∈ l → renEnv β l j = β i := fun i j hm => renEnv_of ho ((okRen_mem ho).1 i j hm).1
 refine ⟨renEnv β l, ⟨keepF_rep ho h.fr, keepS_rep ho _ _ _ h.stk, ?_, ?_, h.low, h.top, h.glo, ?_⟩⟩
 ·intro j b hb
  obtain ⟨i, b0, hm, h1, rfl⟩ := inv j b hb
  rw [henv i j hm]
  rcases h.blk i b0 h1 with ⟨k1, k2⟩ | ⟨ad, k1, k2⟩
  ·exact .inl ⟨k1, by simp [k2, D.renL]⟩
  ·exact .inr ⟨ad, k1, ⟨k2.spot, k2.base, k2.obj, renL_at ho _ _ k2.cells, k2.own, k2.shared, k2.inside⟩⟩
 ·intro j1 j2 a b h1 h2 ha hb hab
  obtain ⟨b1, hb1⟩ := Option.ne_none_iff_exists'.1 h1
  obtain ⟨b2, hb2⟩ := Option.ne_none_iff_exists'.1 h2
  obtain ⟨i1, c1, m1, k1, _⟩ := inv j1 b1 hb1
  obtain ⟨i2, c2, m2, k2, _⟩ := inv j2 b2 hb2
  rw [henv i1 j1 m1] at ha
  rw [henv i2 j2 m2] at hb
  have := h.inj i1 i2 a b (by simp [k1]) (by simp [k2]) ha hb hab
  subst this
  have e1 := ((okRen_mem ho).1 _ _ m1).1
  have e2 := ((okRen_mem ho).1 _ _ m2).1
  rw [e1] at e2
  exact Option.some.inj e2
 ·exact h.lp.mono (w := w) (w' := w) (A := A) (.refl _) (.refl _ _) (fun _ => by simp [renEnv])
end
end Go.Dam
end
