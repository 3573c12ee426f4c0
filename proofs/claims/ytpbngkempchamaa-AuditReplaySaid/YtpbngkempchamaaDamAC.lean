/- The engine, part AC: an abstract machine for the program's functions, proved right against the model. No condition. -/
import Derived.Test.YtpbngkempchamaaDamAB
set_option linter.unusedSectionVars false
set_option linter.unusedVariables false
set_option linter.unusedSimpArgs false
namespace Go.Dam
open Go Go.RowKit
set_option linter.unusedSectionVars false
variable [Glo]
set_option linter.unusedSimpArgs false
set_option linter.unusedVariables false

section
variable {P : Program} {F : FuncId → List D → D → Prop} {R : Array Oper} {O : Oper → St → St → Prop} {p : Plan}

/-- Must come before. -/
inductive Anc (R : Array Oper) : Nat → Nat → Prop
  | edge {k : Nat} {o : Oper} {e : Edge} : R[k]? = some o → e ∈ o.after → Region.binds .any e = true → Anc R e.on k
  | trans {i k : Nat} {o : Oper} {e : Edge} : R[k]? = some o → e ∈ o.after → Region.binds .any e = true → Anc R i e.on → Anc R i k

structure PlanOK (P : Program) (R : Array Oper) (p : Plan) : Prop where
  low : ∀ k o, R[k]? = some o → ∀ e ∈ o.after, Region.binds .any e = true → e.on < k
  pairs : ∀ i j oi oj, i < j → R[i]? = some oi → R[j]? = some oj → Anc R i j ∨ pairB P R p i j oi oj = true
  dis : ∀ i j, i ≠ j → ∀ id, id ∈ p.zs i → id ∉ p.zs j
  later : ∀ k l, l ≠ k → ¬ Anc R l k → p.W k l = true

/-- What is listed has what must come before it listed. -/
def Cl (R : Array Oper) (listed : Array Bool) : Prop := ∀ k o, R[k]? = some o → listed.getD k false = true → ∀ e ∈ o.after, Region.binds .any e = true → listed.getD e.on false = true

theorem anc_listed {listed : Array Bool} (hc : Cl R listed) {i k : Nat} (h : Anc R i k) : listed.getD k false = true → listed.getD i false = true := by
  induction h with
  | edge h1 h2 h3 => intro hk; exact hc _ _ h1 hk _ h2 h3
  | trans h1 h2 h3 _ ih => intro hk; exact ih (hc _ _ h1 hk _ h2 h3)

theorem anc_ready {listed : Array Bool} (hc : Cl R listed) {i j : Nat} (h : Anc R i j) (hj : j ∈ Region.ready .any R listed) : listed.getD i false = true := by
  obtain ⟨_, o, ho, hall⟩ := mem_ready.1 hj
  cases h with
  | edge h1 h2 h3 => rw [ho] at h1; cases h1; exact hall _ h2 h3
  | trans h1 h2 h3 h4 => rw [ho] at h1; cases h1; exact anc_listed hc h4 (hall _ h2 h3)

theorem getD_two {l : Array Bool} {i : Nat} (h : l.getD i true = false) : l.getD i false = false := by
  rcases Nat.lt_or_ge i l.size with h' | h'
  · simpa [h'] using h
  · simp [Array.getElem?_eq_none h']

theorem getD_lt {l : Array Bool} {i : Nat} (h : l.getD i true = false) : i < l.size := by
  rcases Nat.lt_or_ge i l.size with h' | h'
  · exact h'
  · simp [Array.getElem?_eq_none h'] at h

theorem getD_set_self {l : Array Bool} {i : Nat} (h : i < l.size) (d : Bool) : (l.setIfInBounds i true).getD i d = true := by
  simp [h]

theorem cl_set {listed : Array Bool} (hc : Cl R listed) {i : Nat} (hi : i ∈ Region.ready .any R listed) : Cl R (listed.setIfInBounds i true) := by
  intro k o hk hl e he hb
  by_cases hik : i = k
  · subst hik
    obtain ⟨_, o', ho, hall⟩ := mem_ready.1 hi
    rw [ho] at hk; cases hk
    exact getD_set_true (hall e he hb)
  · rw [getD_set_ne false hik] at hl
    exact getD_set_true (hc k o hk hl e he hb)

theorem unlisted_set {listed : Array Bool} {i k : Nat} (h : (listed.setIfInBounds i true).getD k true = false) : k ≠ i ∧ listed.getD k true = false := by
  by_cases e : i = k
  · subst e
    have hlt := getD_lt h
    simp only [Array.size_setIfInBounds] at hlt
    rw [getD_set_self hlt] at h; cases h
  · rw [getD_set_ne true e] at h; exact ⟨Ne.symm e, h⟩

theorem qstep_inv (ok : PlanOK P R p) {listed : Array Bool} {i : Nat} {oi : Oper} {σ σ1 : St} (hc : Cl R listed) (hi : i ∈ Region.ready .any R listed) (h : QStep P F O R p i oi σ σ1) (hinv : Inv p listed σ) : Inv p (listed.setIfInBounds i true) σ1 := by
  intro k hk id hid
  obtain ⟨hne, hun⟩ := unlisted_set hk
  have hu := hinv k hun id hid
  have hW : p.W i k = true := ok.later i k hne (fun ha => by have := anc_ready hc ha hi; rw [getD_two hun] at this; cases this)
  cases h with
  | skip _ => exact unused_q hu rfl (fun cs h => by cases h) (fun i cs h => by cases h)
  | op _ _ hm _ hd hcs _ =>
    refine unused_q hu (hd k hW id hid) (fun cs hn => ok.dis k i hne id hid (hm id cs hn).1) (fun j cs hn => hasL_false fun d hd' => hcs j cs hn d hd' k hW id hid)
  | sto _ _ _ hb _ hd _ => exact unused_sto hu hb (hasL_false fun d hd' => hd d hd' k hW id hid)
  | cpy _ _ _ hb _ hd => exact unused_put_ofV (unused_sto hu hb (hasL_false fun d hd' => hd d hd' k hW id hid))
  | oth _ _ h => exact h k hW id hid

theorem anyD_first (ok : PlanOK P R p) {σ' : St} {i : Nat} {oi : Oper} (hi : R[i]? = some oi) : ∀ (n : Nat) (listed : Array Bool) (σ σ1 : St), i ∈ Region.ready .any R listed → (∀ j, listed.getD j true = false → i ≤ j) → Cl R listed → Inv p listed σ →
    QStep P F O R p i oi σ σ1 → AnyD P F O R p σ' n (listed.setIfInBounds i true) σ1 → AnyD P F O R p σ' (n + 1) listed σ := by
  intro n
  induction n with
  | zero =>
    intro listed σ σ1 hr hmin hc hinv hs H
    refine ⟨fun h => (by rw [h] at hr; cases hr), fun j hj => ?_⟩
    by_cases hji : j = i
    · subst hji; exact ⟨oi, hi, σ1, hs, H⟩
    · have := ready_mono hj hji
      rw [H.1] at this
      cases this
  | succ n ih =>
    intro listed σ σ1 hr hmin hc hinv hs H
    refine ⟨fun h => (by rw [h] at hr; cases hr), fun j hj => ?_⟩
    by_cases hji : j = i
    · subst hji; exact ⟨oi, hi, σ1, hs, H⟩
    · obtain ⟨oj, hoj, σ2, hs2, H2⟩ := H.2 j (ready_mono hj hji)
      have hju := (mem_ready.1 hj).1
      have hlt : i < j := by have := hmin j hju; omega
      have hpair : pairB P R p i j oi oj = true := by
        rcases ok.pairs i j oi oj hlt hi hoj with h | h
        · have := anc_ready hc h hj
          rw [getD_two (mem_ready.1 hr).1] at this; cases this
        · exact h
      obtain ⟨σ3, h3, h4⟩ := comm hi hoj hpair (ok.dis i j (Ne.symm hji)) (hinv j hju) hs hs2
      refine ⟨oj, hoj, σ3, h3, ?_⟩
      refine ih (listed.setIfInBounds j true) σ3 σ2 (ready_mono hr (Ne.symm hji)) (fun k hk => hmin k (unlisted_set hk).2) (cl_set hc hj) (qstep_inv ok hc hj h3 hinv) h4 ?_
      rw [Array.setIfInBounds_comm _ _ hji]
      exact H2

/-- The operations in the order of the text. -/
inductive QRun (P : Program) (F : FuncId → List D → D → Prop) (O : Oper → St → St → Prop) (R : Array Oper) (p : Plan) : Nat → List Oper → St → St → Prop
  | nil {k : Nat} {σ : St} : QRun P F O R p k [] σ σ
  | cons {k : Nat} {o : Oper} {l : List Oper} {σ σ1 σ' : St} : QStep P F O R p k o σ σ1 → QRun P F O R p (k + 1) l σ1 σ' → QRun P F O R p k (o :: l) σ σ'

theorem anyD_lex (ok : PlanOK P R p) {σ' : St} : ∀ (l : List Oper) (k : Nat) (listed : Array Bool) (σ : St), (∀ j, l[j]? = R[k + j]?) → listed.size = R.size → (∀ j, j < R.size → listed.getD j false = decide (j < k)) →
    QRun P F O R p k l σ σ' → Cl R listed → Inv p listed σ → AnyD P F O R p σ' l.length listed σ
  | [], k, listed, σ, hl, hsz, hlist, h, hc, hinv => by
    cases h
    refine ⟨?_, rfl⟩
    rw [List.eq_nil_iff_forall_not_mem]
    intro j hj
    obtain ⟨hu, o, ho, _⟩ := mem_ready.1 hj
    have hjl := getD_lt hu
    have h1 := hlist j (by omega)
    rw [getD_two hu] at h1
    have h2 : k ≤ j := by simpa using h1.symm
    have h3 := hl (j - k)
    rw [Nat.add_sub_cancel' h2, ho] at h3
    simp at h3
  | o :: l, k, listed, σ, hl, hsz, hlist, h, hc, hinv => by
    cases h with
    | @cons _ _ _ _ σ1 _ hs hrun =>
      have hk : R[k]? = some o := by simpa using (hl 0).symm
      have hlt : k < R.size := by
        rcases Nat.lt_or_ge k R.size with h | h
        · exact h
        · rw [Array.getElem?_eq_none h] at hk; cases hk
      have hun : listed.getD k true = false := by
        have := hlist k hlt
        simp [hsz, hlt] at this ⊢
        exact this
      have hr : k ∈ Region.ready .any R listed := by
        refine mem_ready.2 ⟨hun, o, hk, fun e he hb => ?_⟩
        have hlow := ok.low k o hk e he hb
        rw [hlist e.on (by omega)]
        simp [hlow]
      refine anyD_first ok hk l.length listed σ σ1 hr (fun j hj => ?_) hc hinv hs ?_
      · have h1 := hlist j (by have := getD_lt hj; omega)
        rw [getD_two hj] at h1
        simpa using h1.symm
      · refine anyD_lex ok l (k + 1) _ σ1 (fun j => by have := hl (j + 1); simpa [Nat.add_assoc, Nat.add_comm 1 j] using this) (by simpa using hsz) (fun j hj => ?_) hrun (cl_set hc hr) (qstep_inv ok hc hr hs hinv)
        by_cases e : k = j
        · subst e; rw [getD_set_self (by omega)]; simp
        · rw [getD_set_ne false e, hlist j hj]
          have : j < k ↔ j < k + 1 := by omega
          simp [this]

/-! ### Down to the walk -/

theorem wpIn_only {ro : Option Nat} {n : Nat} {o : Oper} {a : Act} {w : World} {K : Act → World → Prop} {Q Q' : Exit → Act → World → Prop} (h1 : ∀ c a w, ¬ Q' (.panic c) a w) (h2 : ¬ LetsOut Q') (h : o.wpIn (FW ro) n P a w K Q') : o.wpIn (FW ro) n P a w K Q := by
  unfold Oper.wpIn at *
  refine ⟨h.1, ?_⟩
  have h := h.2
  generalize (o.semAt (FW ro).round a.eval).run P w = r at *
  cases r with
  | ok x w' =>
    cases x <;> simp only [Oper.uponIn] at h ⊢ <;> first
      | exact h
      | exact ⟨h.1, CallsIn.mono h.2 (fun e w'' he => by
          cases e with
          | returned v => exact he
          | panicked c => exact absurd he (h1 _ _ _)
          | outgrown => exact absurd he h2)⟩
      | exact ⟨h.1, RoundIn.mono h.2 (fun e w'' he => by
          cases e with
          | returned v => exact he
          | panicked c => exact absurd he (h1 _ _ _)
          | outgrown => exact absurd he h2)⟩
  | halt x w' => cases x <;> simp only [Oper.uponIn] at h ⊢ <;> first | exact absurd h (h1 _ _ _) | exact h

/-- One operation is right, whatever stands behind. -/
def SoundOp (P : Program) (R : Array Oper) (o : Oper) (σ σ' : St) : Prop :=
  ∀ (ro : Option Nat) (w : World) (A : Nat → Prop) (β : Env) (base : Nat) (a : Act) (acts : List (Array Value)) (Q : Exit → Act → World → Prop), Rel w A β base σ a.tmps acts → Aft σ' base acts A a w (Q .normal) → wpListIn (FW ro) 0 P R Q [o] a w

theorem opStep_nodefer {o : Oper} {σ σ' : St} (h : OpStep P F o σ σ') : ∀ c, o.op ≠ .defer c := by
  intro c e
  cases h with
  | op h _ => rw [e] at h; simp [opD] at h
  | ext h => rw [e] at h; simp [callParts] at h
  | call h => rw [e] at h; simp [callParts] at h

theorem opStep_in (hF : ∀ f as res, F f as res → CallsD P f as res) {ro : Option Nat} {w : World} {A : Nat → Prop} {β : Env} {base : Nat} {σ σ' : St} {a : Act} {acts : List (Array Value)} (hrel : Rel w A β base σ a.tmps acts) {o : Oper} (h : OpStep P F o σ σ')
    {K : Act → World → Prop} {Q : Exit → Act → World → Prop} (hK : ∀ a' w' A' β', Marks w w' A' a a' → Rel w' A' β' base σ' a'.tmps acts → Turn A A' base w w' → K a' w') : o.wpIn (FW ro) 0 P a w K Q :=
  wpIn_FW (opStep_nodefer h) (opStep_sound hF hrel h fun a' w' A' β' hd hr' ht => hK a' w' A' β' (.same hd) hr' ht)

theorem qstep_sound (hF : ∀ f as res, F f as res → CallsD P f as res) (hO : ∀ o σ σ', O o σ σ' → SoundOp P R o σ σ') {ro : Option Nat} {i : Nat} {o : Oper} {σ σ1 : St} (hi : R[i]? = some o) (h : QStep P F O R p i o σ σ1) {w : World} {A : Nat → Prop} {β : Env} {base : Nat} {a : Act} {acts : List (Array Value)}
    (hr : Rel w A β base σ a.tmps acts) {K : Act → World → Prop} {Q : Exit → Act → World → Prop} (hK : Aft σ1 base acts A a w K) : wpOpIn (FW ro) 0 P R Q i K a w := by
  unfold wpOpIn
  simp only [hi]
  cases h with
  | skip hw =>
    rw [if_neg (by rw [wanted_spec hr hw]; simp)]
    have e : σ.q o.dst ⟨.v undef, [], [], []⟩ = σ.put o.dst (.v undef) := by
      simp only [St.q]; congr 1
    rw [e] at hK
    exact ⟨fun _ _ => trivial, hK _ w A β (.same (put_defers _ _ _)) (hr.putA o.dst (by simp [Rep, RepS])) (.refl _ _ _)⟩
  | op hw hop hm _ _ _ _ =>
    rw [if_pos (wanted_spec hr hw)]
    exact opStep_in hF hr (qop_step hop fun i cs h => (hm i cs h).2) fun a' w' A' β' hd hr' ht => hK a' w' A' β' hd hr' ht
  | @sto id off ds cells hw _ hop hb hl _ _ =>
    rw [if_pos (wanted_spec hr hw)]
    refine opStep_in hF hr (.op (id := 0) hop ?_) fun a' w' A' β' hd hr' ht => hK a' w' A' β' hd hr' ht
    simp only [stepE, hb]
    rw [if_pos hl]
  | @cpy id off k' ds cells hw _ hop hb hl _ =>
    rw [if_pos (wanted_spec hr hw)]
    refine opStep_in hF hr (.op (id := 0) hop ?_) fun a' w' A' β' hd hr' ht => hK a' w' A' β' hd hr' ht
    simp only [stepE, hb]
    rw [if_pos hl]
  | oth _ ho _ =>
    have h1 := hO _ _ _ ho ro w A β base a acts (fun e a w => e = .normal ∧ K a w) hr (fun a' w' A' β' hd hr' ht => ⟨rfl, hK a' w' A' β' hd hr' ht⟩)
    simp only [wpListIn] at h1
    split at h1
    next hwt =>
      rw [if_pos hwt]
      exact Oper.wpIn_mono (fun a w h => h.2) (wpIn_only (fun c a w h => by cases h.1) (fun ⟨a, w, h⟩ => by cases h.1) h1)
    next hwt =>
      rw [if_neg hwt]
      exact ⟨fun _ _ => trivial, h1.2.2⟩

theorem anyD_sound (hF : ∀ f as res, F f as res → CallsD P f as res) (hO : ∀ o σ σ', O o σ σ' → SoundOp P R o σ σ') {ro : Option Nat} {σ' : St} {base : Nat} {acts : List (Array Value)} {Q : Exit → Act → World → Prop} : ∀ (n : Nat) (listed : Array Bool) (σ : St) (w : World) (A : Nat → Prop) (β : Env) (a : Act),
    AnyD P F O R p σ' n listed σ → Rel w A β base σ a.tmps acts → Aft σ' base acts A a w (Q .normal) → wpAnyIn (FW ro) 0 P .any R Q n listed a w
  | 0, listed, σ, w, A, β, a, h, hr, hK => by
    obtain ⟨h1, rfl⟩ := h
    exact ⟨h1, hK a w A β (.same rfl) hr (.refl _ _ _)⟩
  | n + 1, listed, σ, w, A, β, a, h, hr, hK => by
    refine ⟨fun h0 => ?_, fun i hi => ?_⟩
    · have := h.1 h0; subst this
      exact hK a w A β (.same rfl) hr (.refl _ _ _)
    · obtain ⟨o, ho, σ1, hs, hrest⟩ := h.2 i hi
      exact qstep_sound hF hO ho hs hr fun a' w' A' β' hd hr' ht => anyD_sound hF hO n _ σ1 w' A' β' a' hrest hr' (hK.trans hd ht)

theorem Ext.drawn (A : Nat → Prop) (w : World) (n : Nat) : Ext A w { w with drawn := n } := ⟨fun _ _ => rfl, fun _ _ h => h⟩

theorem Rel.drawn {w : World} {A : Nat → Prop} {β : Env} {base : Nat} {σ : St} {tmps : Array Value} {acts : List (Array Value)} (h : Rel w A β base σ tmps acts) (n : Nat) : Rel { w with drawn := n } A β base σ tmps acts :=
  h.carry (.drawn A w n) (fun _ h => h) h.low h.top (fun _ _ _ => rfl) (fun _ _ _ _ _ => rfl) (fun _ _ _ => ⟨rfl, fun _ _ => rfl, fun _ _ => ⟨rfl, fun h => h⟩⟩) (h.lp.mono (.of_heap rfl) (.refl _ _) (fun _ => rfl))

/-- A REGION THAT DRAWS ITS ORDER. -/
theorem drawn_sound (hF : ∀ f as res, F f as res → CallsD P f as res) (hO : ∀ o σ σ', O o σ σ' → SoundOp P R o σ σ') (hm : P.follows .mixedOrders = true) (ok : PlanOK P R p) {σ σ' : St} (hinv : ∀ k, ∀ id ∈ p.zs k, Unused id σ) (hrun : QRun P F O R p 0 R.toList σ σ')
    {ro : Option Nat} {id : Nat} {w : World} {A : Nat → Prop} {β : Env} {base : Nat} {a : Act} {acts : List (Array Value)} {Q : Exit → Act → World → Prop} (hr : Rel w A β base σ a.tmps acts) (hK : Aft σ' base acts A a w (Q .normal)) : (Code.region id R true).wpIn (FW ro) 0 P Q a w := by
  refine wpIn_region_any hm ?_
  have hl : ∀ j, (Array.replicate R.size false).getD j false = false := fun j => by
    rcases Nat.lt_or_ge j R.size with h | h
    · simp [h]
    · simp [h]
  have := anyD_lex ok R.toList 0 (Array.replicate R.size false) σ (by simp) (by simp) (fun j _ => by rw [hl]; simp) hrun (fun k o _ h => by rw [hl] at h; cases h) (fun k _ => hinv k)
  simp only [Array.length_toList] at this
  refine anyD_sound hF hO R.size _ σ _ A β a this (hr.drawn _) (hK.trans (.same rfl) ⟨.drawn A w _, fun _ h => h, ⟨rfl, rfl, rfl, Nat.le_refl _, fun _ _ => rfl⟩, fun _ h _ => h, .strict (.of_heap rfl) (.refl _ _)⟩)

end
end Go.Dam
