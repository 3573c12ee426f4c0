/- What the functions compute, and the law. No condition. -/
import Derived.Test.YtakcfkmfiamliaaTaTG
import Derived.Test.YtakcfkmfiamliaaDamYA
set_option linter.unusedSectionVars false
set_option linter.unusedVariables false
set_option linter.unusedSimpArgs false
section
namespace TableS
open Go Go.Dam Go.Proofs
set_option maxRecDepth 1000000
/-- A list without a number twice, in a range, is no longer than the range. -/
theorem pigeon : ∀ (n : Nat) (l : List Int), l.Nodup → (∀ x ∈ l, 0 ≤ x ∧ x < (n : Int)) → l.length ≤ n
 | 0, l, _, h => by
  cases l with
  | nil => exact Nat.le_refl _
  | cons a l => have := h a (by simp); omega
 | n + 1, l, hn, h => by
  have := pigeon n (l.erase (n : Int)) (hn.erase _) fun x hx => by
   rw [hn.mem_erase_iff] at hx
   have := h x hx.2
   omega
  by_cases hm : (n : Int) ∈ l
  ·rw [List.length_erase_of_mem hm] at this; omega
  ·rw [List.erase_of_not_mem hm] at this; omega
/-- The list that begins at a place: it leads out, or has a place twice: none. -/
def chain (nx : List Int) : Nat → Int → List Int → Option (List Int)
 | 0, _, _ => none
 | d + 1, i, l => if i = -1 then some l else if i < 0 ∨ (nx.length : Int) ≤ i ∨ i ∈ l then none else chain nx d (nx.getD i.toNat 0) (l ++ [i])
def okL (n : Nat) (l : List Int) : Prop := l.Nodup ∧ ∀ x ∈ l, 0 ≤ x ∧ x < (n : Int)
theorem okL_snoc {n : Nat} {l : List Int} {i : Int} (h : okL n l) (h0 : 0 ≤ i) (h1 : i < (n : Int)) (h2 : i ∉ l) : okL n (l ++ [i]) := by
 refine ⟨?_, ?_⟩
 ·rw [List.nodup_append]
  refine ⟨h.1, by simp, ?_⟩
  intro a ha b hb e
  simp at hb; subst hb; subst e; exact h2 ha
 ·intro x hx
  rcases List.mem_append.1 hx with hx | hx
  ·exact h.2 x hx
  ·simp at hx; subst hx; exact ⟨h0, h1⟩
theorem okL_nil (n : Nat) : okL n [] := ⟨by simp, by simp⟩
theorem chain_ok {nx : List Int} : ∀ {d : Nat} {i : Int} {l l' : List Int}, okL nx.length l → chain nx d i l = some l' → okL nx.length l'
 | 0, _, _, _, _, h => by cases h
 | d + 1, i, l, l', ho, h => by
  simp only [chain] at h
  split at h
  ·simp only [Option.some.injEq] at h; subst h; exact ho
  ·split at h
   ·cases h
   next hc =>
    exact chain_ok (okL_snoc ho (by omega) (by omega) fun hm => hc (.inr (.inr hm))) h
noncomputable def frL_T (o : Bool) (k : Nat) (i : Int) (nx : List Int) (us : List Bool) (f : Int) (l : List Int) : Tr (Ex × Cs) := .d (cmpI .neq i (-1)) (fun e0 => .d (cmpI .lss i 0) (fun e1 => .p (.c 7) (.lf (Ex.ret, (frT (false) (k) (i) (nx) (us) (f) (l))))) (fun e1 => .p (.c 3) (.d (cmpI .geq i ↑(nx.length)) (fun e2 => .p (.c 2) (.lf (Ex.ret, (frT (false) (k) (i) (nx) (us) (f) (l))))) (fun e2 => .p (.c 1) (.s (l.length ≤ 200) (.s (k = l.length) (.d (inB l i) (fun e3 => .lf (Ex.ret, (frT (false) (k) (i) (nx) (us) (f) (l)))) (fun e3 => .s (l.length = l.length) (.s (k = l.length) (.s ((k + 1) * 8 ≤ 17592186044416) (.s (decide (i < ↑(nx.length)) = true) (.s (decide (0 ≤ i) = true) (.lf (Ex.normal, (frT (o) (k + 1) (nx.getD i.toNat 0) (nx) (us) (f) (l ++ [i])))))))))))))))) (fun e0 => .lf (Ex.exit 0, (frT (o) (k) (i) (nx) (us) (f) (l))))
theorem frL_L (o : Bool) (k : Nat) (i : Int) (nx : List Int) (us : List Bool) (f : Int) (l : List Int) : Leaves (roundT Try.prog (X2) 100000 (loopAt Try.prog 95 0) [[1, 2, 3, 4, 5]] [(32, 32), (9001, 9001)] (frT o k i nx us f l)) (frL_T o k i nx us f l) [] [] := by refine ⟨fun _ => ⟨fun _ => ?_, fun _ => ⟨fun _ => ?_, fun _ => ⟨fun _ => ?_, fun _ => ?_⟩⟩⟩, fun _ => ?_⟩ <;> (show _ = _; kernel_rfl)
theorem frL_step (o : Bool) (k : Nat) (i : Int) (nx : List Int) (us : List Bool) (f : Int) (l : List Int) (σ : St) (e : Ex) (h0 : At (RG Try.prog (loopAt Try.prog 95 0) e σ) (frL_T o k i nx us f l) [true, true] True) (h1 : At (RG Try.prog (loopAt Try.prog 95 0) e σ) (frL_T o k i nx us f l) [true, false, true] True) (h2 : At (RG Try.prog (loopAt Try.prog 95 0) e σ) (frL_T o k i nx us f l) [true, false, false, true] True) (h3 : At (RG Try.prog (loopAt Try.prog 95 0) e σ) (frL_T o k i nx us f l) [true, false, false, false] True) (h4 : At (RG Try.prog (loopAt Try.prog 95 0) e σ) (frL_T o k i nx us f l) [false] True) : Runs Try.prog (CallsD Try.prog) (.rounds (loopAt Try.prog 95 0)) (frT o k i nx us f l).abs e σ := tree_rounds (hX2) (frL_L o k i nx us f l) ⟨fun e0 => ⟨fun e1 => h0 e0 e1, fun e1 => ⟨fun e2 => h1 e0 e1 e2, fun e2 => ⟨fun e3 => h2 e0 e1 e2 e3, fun e3 => h3 e0 e1 e2 e3⟩⟩⟩, fun e0 => h4 e0⟩
noncomputable def frF_T (o : Bool) (k : Nat) (i : Int) (nx : List Int) (us : List Bool) (f : Int) (l : List Int) : Tr D := .p (.k [Cast.nil 4 9001 1 [.ints .i64 []]]) (.p (.l [[1, 2, 3, 4, 5]] [(32, 32), (9001, 9001)] (frT false 0 f nx us f []) (Ex.exit 0) (frT o k i nx us f l)) (.s (Runs Try.prog (CallsD Try.prog) (.code (.loop (loopAt Try.prog 95 0))) (frT false 0 f nx us f []).abs (Ex.exit 0) (frT o k i nx us f l).abs) (.k ((frT false 0 f nx us f [] = frT false 0 f nx us f [])) rfl (.s (k = l.length) (.lf (D.tup [D.oc [.ints .i64 l], bo true]))))))
theorem frF_L (o : Bool) (k : Nat) (i : Int) (nx : List Int) (us : List Bool) (f : Int) (l : List Int) : Leaves (fun l => fnX Try.prog (X2) 100000 l 95 [D.agg [ri nx, rb us, i64 f]]) (frF_T o k i nx us f l) [] [] := by show _ = _; kernel_rfl
theorem frF_calls (o : Bool) (k : Nat) (i : Int) (nx : List Int) (us : List Bool) (f : Int) (l : List Int) (res : D) (h0 : At (fun r => res = r) (frF_T o k i nx us f l) [] True) : CallsD Try.prog 95 [D.agg [ri nx, rb us, i64 f]] res := tree_calls (hX2) (frF_L o k i nx us f l) h0
noncomputable def frR_T (o : Bool) (k : Nat) (i : Int) (nx : List Int) (us : List Bool) (f : Int) (l : List Int) : Tr D := .p (.k [Cast.nil 4 9001 1 [.ints .i64 []]]) (.p (.l [[1, 2, 3, 4, 5]] [(32, 32), (9001, 9001)] (frT false 0 f nx us f []) Ex.ret (frT o k i nx us f l)) (.s (Runs Try.prog (CallsD Try.prog) (.code (.loop (loopAt Try.prog 95 0))) (frT false 0 f nx us f []).abs (Ex.ret) (frT o k i nx us f l).abs) (.k ((frT false 0 f nx us f [] = frT false 0 f nx us f [])) rfl (.lf (D.tup [D.v (Value.slice none 0 0), bo o])))))
theorem frR_L (o : Bool) (k : Nat) (i : Int) (nx : List Int) (us : List Bool) (f : Int) (l : List Int) : Leaves (fun l => fnX Try.prog (X2) 100000 l 95 [D.agg [ri nx, rb us, i64 f]]) (frR_T o k i nx us f l) [] [] := by show _ = _; kernel_rfl
theorem frR_calls (o : Bool) (k : Nat) (i : Int) (nx : List Int) (us : List Bool) (f : Int) (l : List Int) (res : D) (h0 : At (fun r => res = r) (frR_T o k i nx us f l) [] True) : CallsD Try.prog 95 [D.agg [ri nx, rb us, i64 f]] res := tree_calls (hX2) (frR_L o k i nx us f l) h0
noncomputable def alL_T (o : Bool) (k : Nat) (i : Int) (ps : List Int) (nx : List Int) (h : Int) (t : Int) (l : List Int) : Tr (Ex × Cs) := .d (cmpI .neq i (-1)) (fun e0 => .d (cmpI .lss i 0) (fun e1 => .p (.c 7) (.lf (Ex.ret, (alT (false) (k) (i) (ps) (nx) (h) (t) (l))))) (fun e1 => .p (.c 3) (.d (cmpI .geq i ↑(nx.length)) (fun e2 => .p (.c 2) (.lf (Ex.ret, (alT (false) (k) (i) (ps) (nx) (h) (t) (l))))) (fun e2 => .p (.c 1) (.s (l.length ≤ 200) (.s (k = l.length) (.d (inB l i) (fun e3 => .lf (Ex.ret, (alT (false) (k) (i) (ps) (nx) (h) (t) (l)))) (fun e3 => .s (l.length = l.length) (.s (k = l.length) (.s ((k + 1) * 8 ≤ 17592186044416) (.s (decide (i < ↑(nx.length)) = true) (.s (decide (0 ≤ i) = true) (.lf (Ex.normal, (alT (o) (k + 1) (nx.getD i.toNat 0) (ps) (nx) (h) (t) (l ++ [i])))))))))))))))) (fun e0 => .lf (Ex.exit 0, (alT (o) (k) (i) (ps) (nx) (h) (t) (l))))
theorem alL_L (o : Bool) (k : Nat) (i : Int) (ps nx : List Int) (h t : Int) (l : List Int) : Leaves (roundT Try.prog (X2) 100000 (loopAt Try.prog 69 0) [[1, 2, 3, 4, 5]] [(32, 32), (9001, 9001)] (alT o k i ps nx h t l)) (alL_T o k i ps nx h t l) [] [] := by refine ⟨fun _ => ⟨fun _ => ?_, fun _ => ⟨fun _ => ?_, fun _ => ⟨fun _ => ?_, fun _ => ?_⟩⟩⟩, fun _ => ?_⟩ <;> (show _ = _; kernel_rfl)
theorem alL_step (o : Bool) (k : Nat) (i : Int) (ps : List Int) (nx : List Int) (h : Int) (t : Int) (l : List Int) (σ : St) (e : Ex) (h0 : At (RG Try.prog (loopAt Try.prog 69 0) e σ) (alL_T o k i ps nx h t l) [true, true] True) (h1 : At (RG Try.prog (loopAt Try.prog 69 0) e σ) (alL_T o k i ps nx h t l) [true, false, true] True) (h2 : At (RG Try.prog (loopAt Try.prog 69 0) e σ) (alL_T o k i ps nx h t l) [true, false, false, true] True) (h3 : At (RG Try.prog (loopAt Try.prog 69 0) e σ) (alL_T o k i ps nx h t l) [true, false, false, false] True) (h4 : At (RG Try.prog (loopAt Try.prog 69 0) e σ) (alL_T o k i ps nx h t l) [false] True) : Runs Try.prog (CallsD Try.prog) (.rounds (loopAt Try.prog 69 0)) (alT o k i ps nx h t l).abs e σ := tree_rounds (hX2) (alL_L o k i ps nx h t l) ⟨fun e0 => ⟨fun e1 => h0 e0 e1, fun e1 => ⟨fun e2 => h1 e0 e1 e2, fun e2 => ⟨fun e3 => h2 e0 e1 e2 e3, fun e3 => h3 e0 e1 e2 e3⟩⟩⟩, fun e0 => h4 e0⟩
noncomputable def alF_T (o : Bool) (k : Nat) (i : Int) (ps : List Int) (nx : List Int) (h : Int) (t : Int) (l : List Int) : Tr D := .p (.k [Cast.nil 4 9001 1 [.ints .i64 []]]) (.p (.l [[1, 2, 3, 4, 5]] [(32, 32), (9001, 9001)] (alT false 0 h ps nx h t []) (Ex.exit 0) (alT o k i ps nx h t l)) (.s (Runs Try.prog (CallsD Try.prog) (.code (.loop (loopAt Try.prog 69 0))) (alT false 0 h ps nx h t []).abs (Ex.exit 0) (alT o k i ps nx h t l).abs) (.k ((alT false 0 h ps nx h t [] = alT false 0 h ps nx h t [])) rfl (.s (k = l.length) (.lf (D.tup [D.oc [.ints .i64 l], bo true]))))))
theorem alF_L (o : Bool) (k : Nat) (i : Int) (ps nx : List Int) (h t : Int) (l : List Int) : Leaves (fun l => fnX Try.prog (X2) 100000 l 69 [D.agg [ri ps, ri nx, i64 h, i64 t]]) (alF_T o k i ps nx h t l) [] [] := by show _ = _; kernel_rfl
theorem alF_calls (o : Bool) (k : Nat) (i : Int) (ps nx : List Int) (h t : Int) (l : List Int) (res : D) (h0 : At (fun r => res = r) (alF_T o k i ps nx h t l) [] True) : CallsD Try.prog 69 [D.agg [ri ps, ri nx, i64 h, i64 t]] res := tree_calls (hX2) (alF_L o k i ps nx h t l) h0
noncomputable def alR_T (o : Bool) (k : Nat) (i : Int) (ps : List Int) (nx : List Int) (h : Int) (t : Int) (l : List Int) : Tr D := .p (.k [Cast.nil 4 9001 1 [.ints .i64 []]]) (.p (.l [[1, 2, 3, 4, 5]] [(32, 32), (9001, 9001)] (alT false 0 h ps nx h t []) Ex.ret (alT o k i ps nx h t l)) (.s (Runs Try.prog (CallsD Try.prog) (.code (.loop (loopAt Try.prog 69 0))) (alT false 0 h ps nx h t []).abs (Ex.ret) (alT o k i ps nx h t l).abs) (.k ((alT false 0 h ps nx h t [] = alT false 0 h ps nx h t [])) rfl (.lf (D.tup [D.v (Value.slice none 0 0), bo o])))))
theorem alR_L (o : Bool) (k : Nat) (i : Int) (ps nx : List Int) (h t : Int) (l : List Int) : Leaves (fun l => fnX Try.prog (X2) 100000 l 69 [D.agg [ri ps, ri nx, i64 h, i64 t]]) (alR_T o k i ps nx h t l) [] [] := by show _ = _; kernel_rfl
theorem alR_calls (o : Bool) (k : Nat) (i : Int) (ps nx : List Int) (h t : Int) (l : List Int) (res : D) (h0 : At (fun r => res = r) (alR_T o k i ps nx h t l) [] True) : CallsD Try.prog 69 [D.agg [ri ps, ri nx, i64 h, i64 t]] res := tree_calls (hX2) (alR_L o k i ps nx h t l) h0
theorem fr_run (nx : List Int) (us : List Bool) (f : Int) (hn : nx.length ≤ 200) : ∀ (d : Nat) (i : Int) (l : List Int), okL nx.length l → l.length + d = nx.length + 1 →
  match chain nx d i l with
  | some l' => Runs Try.prog (CallsD Try.prog) (.rounds (loopAt Try.prog 95 0)) (frT false l.length i nx us f l).abs (.exit 0) (frT false l'.length (-1) nx us f l').abs
  | none => ∃ (k : Nat) (i' : Int) (l' : List Int), Runs Try.prog (CallsD Try.prog) (.rounds (loopAt Try.prog 95 0)) (frT false l.length i nx us f l).abs .ret (frT false k i' nx us f l').abs
 | 0, i, l, ho, hd => by
  have := pigeon _ _ ho.1 ho.2
  omega
 | d + 1, i, l, ho, hd => by
  have hl := pigeon _ _ ho.1 ho.2
  simp only [chain]
  by_cases c1 : i = -1
  ·subst c1
   simp only [if_true]
   refine frL_step false l.length (-1) nx us f l _ _ ?_ ?_ ?_ ?_ ?_ <;> dsimp only [At, Tr.q, RG, frL_T]
   ·intro g; rw [neq_t] at g; exact absurd rfl g
   ·intro g; rw [neq_t] at g; exact absurd rfl g
   ·intro g; rw [neq_t] at g; exact absurd rfl g
   ·intro g; rw [neq_t] at g; exact absurd rfl g
   ·intro _; exact ⟨trivial, rfl, rfl⟩
  ·rw [if_neg c1]
   by_cases c2 : i < 0 ∨ (nx.length : Int) ≤ i ∨ i ∈ l
   ·rw [if_pos c2]
    refine ⟨l.length, i, l, frL_step false l.length i nx us f l _ _ ?_ ?_ ?_ ?_ ?_⟩
    ·intro _ _; exact ⟨trivial, rfl, rfl⟩
    ·intro _ _ _; exact ⟨trivial, rfl, rfl⟩
    ·intro _ _ _ _; exact ⟨⟨rfl, by omega, trivial⟩, rfl, rfl⟩
    ·intro _ g1 g2 g3
     rw [lss_f] at g1; rw [geq_f] at g2; simp only [inB, decide_eq_false_iff_not] at g3
     rcases c2 with c | c | c
     ·omega
     ·omega
     ·exact absurd c g3
    ·intro g; rw [neq_f] at g; exact absurd g c1
   ·rw [if_neg c2]
    have hi0 : 0 ≤ i := by omega
    have hi1 : i < (nx.length : Int) := by omega
    have hi2 : i ∉ l := fun h => c2 (.inr (.inr h))
    have ih := fr_run nx us f hn d (nx.getD i.toNat 0) (l ++ [i]) (okL_snoc ho hi0 hi1 hi2) (by simp; omega)
    have step : ∀ (σ : St) (e : Ex), Runs Try.prog (CallsD Try.prog) (.rounds (loopAt Try.prog 95 0)) (frT false (l ++ [i]).length (nx.getD i.toNat 0) nx us f (l ++ [i])).abs e σ → Runs Try.prog (CallsD Try.prog) (.rounds (loopAt Try.prog 95 0)) (frT false l.length i nx us f l).abs e σ := by
     intro σ e hr
     refine frL_step false l.length i nx us f l σ e ?_ ?_ ?_ ?_ ?_ <;> dsimp only [At, Tr.q, RG, frL_T]
     ·intro _ g; rw [lss_t] at g; omega
     ·intro _ _ g; rw [geq_t] at g; omega
     ·intro _ _ _ g; simp only [inB, decide_eq_true_eq] at g; exact absurd g hi2
     ·intro _ _ _ _
      refine ⟨⟨by simpa using hi0, by simpa using hi1, by omega, rfl, rfl, rfl, by omega, trivial⟩, ?_⟩
      simpa using hr
     ·intro g; rw [neq_f] at g; exact absurd g c1
    cases hch : chain nx d (nx.getD i.toNat 0) (l ++ [i]) with
    | some l' => rw [hch] at ih; exact step _ _ ih
    | none =>
     rw [hch] at ih
     obtain ⟨k, i', l', h⟩ := ih
     exact ⟨k, i', l', step _ _ h⟩
/-- The free list, and whether it is one. -/
def frD (nx : List Int) (f : Int) : D := match chain nx (nx.length + 1) f [] with
 | some l => .tup [oi l, bo true]
 | none => .tup [.v (.slice none 0 0), bo false]
theorem fr_ok (nx : List Int) (us : List Bool) (f : Int) (h : nx.length ≤ 200) : CallsD Try.prog 95 [.agg [ri nx, rb us, i64 f]] (frD nx f) := by
 have hr := fr_run nx us f h (nx.length + 1) f [] (okL_nil _) (by simp)
 unfold frD
 cases hc : chain nx (nx.length + 1) f [] with
 | some l =>
  rw [hc] at hr
  exact frF_calls false l.length (-1) nx us f l _ ⟨⟨rfl, loop_of_rounds hr, trivial⟩, rfl⟩
 | none =>
  rw [hc] at hr
  obtain ⟨k, i, l, hr⟩ := hr
  exact frR_calls false k i nx us f l _ ⟨⟨loop_of_rounds hr, trivial⟩, rfl⟩
theorem al_run (ps nx : List Int) (h t : Int) (hn : nx.length ≤ 200) : ∀ (d : Nat) (i : Int) (l : List Int), okL nx.length l → l.length + d = nx.length + 1 →
  match chain nx d i l with
  | some l' => Runs Try.prog (CallsD Try.prog) (.rounds (loopAt Try.prog 69 0)) (alT false l.length i ps nx h t l).abs (.exit 0) (alT false l'.length (-1) ps nx h t l').abs
  | none => ∃ (k : Nat) (i' : Int) (l' : List Int), Runs Try.prog (CallsD Try.prog) (.rounds (loopAt Try.prog 69 0)) (alT false l.length i ps nx h t l).abs .ret (alT false k i' ps nx h t l').abs
 | 0, i, l, ho, hd => by
  have := pigeon _ _ ho.1 ho.2
  omega
 | d + 1, i, l, ho, hd => by
  have hl := pigeon _ _ ho.1 ho.2
  simp only [chain]
  by_cases c1 : i = -1
  ·subst c1
   simp only [if_true]
   refine alL_step false l.length (-1) ps nx h t l _ _ ?_ ?_ ?_ ?_ ?_ <;> dsimp only [At, Tr.q, RG, alL_T]
   ·intro g; rw [neq_t] at g; exact absurd rfl g
   ·intro g; rw [neq_t] at g; exact absurd rfl g
   ·intro g; rw [neq_t] at g; exact absurd rfl g
   ·intro g; rw [neq_t] at g; exact absurd rfl g
   ·intro _; exact ⟨trivial, rfl, rfl⟩
  ·rw [if_neg c1]
   by_cases c2 : i < 0 ∨ (nx.length : Int) ≤ i ∨ i ∈ l
   ·rw [if_pos c2]
    refine ⟨l.length, i, l, alL_step false l.length i ps nx h t l _ _ ?_ ?_ ?_ ?_ ?_⟩
    ·intro _ _; exact ⟨trivial, rfl, rfl⟩
    ·intro _ _ _; exact ⟨trivial, rfl, rfl⟩
    ·intro _ _ _ _; exact ⟨⟨rfl, by omega, trivial⟩, rfl, rfl⟩
    ·intro _ g1 g2 g3
     rw [lss_f] at g1; rw [geq_f] at g2; simp only [inB, decide_eq_false_iff_not] at g3
     rcases c2 with c | c | c
     ·omega
     ·omega
     ·exact absurd c g3
    ·intro g; rw [neq_f] at g; exact absurd g c1
   ·rw [if_neg c2]
    have hi0 : 0 ≤ i := by omega
    have hi1 : i < (nx.length : Int) := by omega
    have hi2 : i ∉ l := fun hh => c2 (.inr (.inr hh))
    have ih := al_run ps nx h t hn d (nx.getD i.toNat 0) (l ++ [i]) (okL_snoc ho hi0 hi1 hi2) (by simp; omega)
    have step : ∀ (σ : St) (e : Ex), Runs Try.prog (CallsD Try.prog) (.rounds (loopAt Try.prog 69 0)) (alT false (l ++ [i]).length (nx.getD i.toNat 0) ps nx h t (l ++ [i])).abs e σ → Runs Try.prog (CallsD Try.prog) (.rounds (loopAt Try.prog 69 0)) (alT false l.length i ps nx h t l).abs e σ := by
     intro σ e hr
     refine alL_step false l.length i ps nx h t l σ e ?_ ?_ ?_ ?_ ?_ <;> dsimp only [At, Tr.q, RG, alL_T]
     ·intro _ g; rw [lss_t] at g; omega
     ·intro _ _ g; rw [geq_t] at g; omega
     ·intro _ _ _ g; simp only [inB, decide_eq_true_eq] at g; exact absurd g hi2
     ·intro _ _ _ _
      refine ⟨⟨by simpa using hi0, by simpa using hi1, by omega, rfl, rfl, rfl, by omega, trivial⟩, ?_⟩
      simpa using hr
     ·intro g; rw [neq_f] at g; exact absurd g c1
    cases hch : chain nx d (nx.getD i.toNat 0) (l ++ [i]) with
    | some l' => rw [hch] at ih; exact step _ _ ih
    | none =>
     rw [hch] at ih
     obtain ⟨k, i', l', hh⟩ := ih
     exact ⟨k, i', l', step _ _ hh⟩
theorem al_ok (ps nx : List Int) (h t : Int) (hn : nx.length ≤ 200) : CallsD Try.prog 69 [.agg [ri ps, ri nx, i64 h, i64 t]] (frD nx h) := by
 have hr := al_run ps nx h t hn (nx.length + 1) h [] (okL_nil _) (by simp)
 unfold frD
 cases hc : chain nx (nx.length + 1) h [] with
 | some l =>
  rw [hc] at hr
  exact alF_calls false l.length (-1) ps nx h t l _ ⟨⟨rfl, loop_of_rounds hr, trivial⟩, rfl⟩
 | none =>
  rw [hc] at hr
  obtain ⟨k, i, l, hr⟩ := hr
  exact alR_calls false k i ps nx h t l _ ⟨⟨loop_of_rounds hr, trivial⟩, rfl⟩
end TableS
end

section
namespace TableS
open Go Go.Dam Go.Proofs
set_option maxRecDepth 1000000
noncomputable def hmA_T (k : Int) : Tr D := .q (true) (.lf (i64 (IntKind.i64.wrap (opI .shr .u32 (opI .mul .u32 k 2654435769) 28))))
theorem hmA_L (k : Int) : Leaves (fun l => fnX Try.prog (X2) 100000 l 107 [u32 k]) (hmA_T k) [] [] := by show _ = _; kernel_rfl
theorem hmA_calls (k : Int) (res : D) (h0 : At (fun r => res = r) (hmA_T k) [] True) : CallsD Try.prog 107 [u32 k] res := tree_calls (hX2) (hmA_L k) h0
noncomputable def hmB_T (k : Int) : Tr D := .q (false) (.q (false) (.lf (i64 (IntKind.i64.wrap (opI .quo .u64 (opI .rem .u64 (opI .mul .u64 (IntKind.u64.wrap k) 2654435769) 4294967296) 268435456)))))
theorem hmB_L (k : Int) : Leaves (fun l => fnX Try.prog (X2) 100000 l 100 [u32 k]) (hmB_T k) [] [] := by show _ = _; kernel_rfl
theorem hmB_calls (k : Int) (res : D) (h0 : At (fun r => res = r) (hmB_T k) [] True) : CallsD Try.prog 100 [u32 k] res := tree_calls (hX2) (hmB_L k) h0
noncomputable def cnA_T (xs : List Int) (n : Int) : Tr D := .s (xs.length ≤ 200) (.lf (D.v (Value.bool (cmpI .geq (ixN xs n) 0))))
theorem cnA_L (xs : List Int) (n : Int) : Leaves (fun l => fnX Try.prog (X2) 100000 l 63 [ri xs, i64 n]) (cnA_T xs n) [] [] := by show _ = _; kernel_rfl
theorem cnA_calls (xs : List Int) (n : Int) (res : D) (h0 : At (fun r => res = r) (cnA_T xs n) [] True) : CallsD Try.prog 63 [ri xs, i64 n] res := tree_calls (hX2) (cnA_L xs n) h0
def homeN (k : Int) : Int := k * 2654435769 % 4294967296 / 268435456
def inU (k : Int) : Prop := 0 ≤ k ∧ k < 4294967296
theorem homeN_lt {k : Int} (h : inU k) : 0 ≤ homeN k ∧ homeN k < 16 := by unfold homeN; omega
theorem shr28 {a : Int} (h0 : 0 ≤ a) (h1 : a < 4294967296) : opI .shr .u32 a 28 = a / 268435456 := by
 show a.fdiv (2 ^ min (28 : Int).toNat 32) = _
 rw [Int.fdiv_eq_ediv_of_nonneg _ (by decide)]; rfl
theorem home_eq {k : Int} (h : inU k) : IntKind.i64.wrap (opI .shr .u32 (opI .mul .u32 k 2654435769) 28) = homeN k := by
 obtain ⟨h0, h1⟩ := h
 rw [opI_mul, wrap_u32, shr28 (by omega) (by omega), wrap_i64_of (by omega) (by omega)]; rfl
theorem hmA_ok (k : Int) (h : inU k) : CallsD Try.prog 107 [u32 k] (i64 (homeN k)) := hmA_calls k _ ⟨trivial, by rw [home_eq h]⟩
theorem hmB_ok (k : Int) (h : inU k) : CallsD Try.prog 100 [u32 k] (i64 (homeN k)) := by
 refine hmB_calls k _ ⟨trivial, ?_⟩
 obtain ⟨h0, h1⟩ := h
 rw [wrap_u64_of (by omega) (by omega), opI_mul, wrap_u64_of (by omega) (by omega), opI_rem _ (by omega), opI_quo _ (by omega), wrap_u64_of (by omega) (by omega), wrap_i64_of (by omega) (by omega)]; rfl
theorem and15 {i : Int} (h0 : 0 ≤ i) (h1 : i ≤ 16) : opI .and .i64 i 15 = i % 16 := by
 have : i.toNat ≤ 16 := by omega
 obtain ⟨n, rfl⟩ := Int.eq_ofNat_of_zero_le h0
 have : n ≤ 16 := by omega
 clear h0 h1
 rcases n with _|_|_|_|_|_|_|_|_|_|_|_|_|_|_|_|_|n <;> first | rfl | (exfalso; omega)
theorem cn_ok (xs : List Int) (n : Int) (h : xs.length ≤ 200) : CallsD Try.prog 63 [ri xs, i64 n] (bo (inB xs n)) := by
 refine cnA_calls xs n _ ⟨⟨h, trivial⟩, ?_⟩
 congr 2
 unfold inB
 rw [mem_findI]
 have e : ixN xs n = findI (fun i => xs.getD i 0 == n) xs.length 0 := by
  unfold ixN; congr 1; funext i; exact Bool.beq_comm ..
 rw [e, Bool.eq_iff_iff]
 simp only [geq_t, Bool.not_eq_true', decide_eq_false_iff_not]
 omega
/-- The list of a chain, and whether it is one. -/
def chL (nx : List Int) (f : Int) : List Int := (chain nx (nx.length + 1) f []).getD []
def chB (nx : List Int) (f : Int) : Bool := (chain nx (nx.length + 1) f []).isSome
theorem frD_reads (nx : List Int) (f : Int) : ReadsN (frD nx f) (.tup [oi (chL nx f), bo (chB nx f)]) := by
 unfold frD chL chB
 cases chain nx (nx.length + 1) f [] with
 | some l => exact .refl _
 | none => exact ReadsNs.tup (.cons (.nil rfl) (.refl _))
theorem fr2_ok (nx : List Int) (us : List Bool) (f : Int) (h : nx.length ≤ 200) : CallsD Try.prog 95 [.agg [ri nx, rb us, i64 f]] (.tup [oi (chL nx f), bo (chB nx f)]) := calls_reads (frD_reads nx f) (fr_ok nx us f h)
theorem al2_ok (ps nx : List Int) (h t : Int) (hn : nx.length ≤ 200) : CallsD Try.prog 69 [.agg [ri ps, ri nx, i64 h, i64 t]] (.tup [oi (chL nx h), bo (chB nx h)]) := calls_reads (frD_reads nx h) (al_ok ps nx h t hn)
def hmC : List D → Option (D × List Prop)
 | [.v (.int .u32 k)] => some (i64 (homeN k), [inU k])
 | _ => none
theorem hmC_okA (args res l) (h : hmC args = some (res, l)) (hl : AllP l) : CallsD Try.prog 107 args res := by
 unfold hmC at h; split at h
 ·simp only [Option.some.injEq, Prod.mk.injEq] at h
  obtain ⟨rfl, rfl⟩ := h; obtain ⟨h0, _⟩ := hl
  exact hmA_ok _ h0
 ·cases h
theorem hmC_okB (args res l) (h : hmC args = some (res, l)) (hl : AllP l) : CallsD Try.prog 100 args res := by
 unfold hmC at h; split at h
 ·simp only [Option.some.injEq, Prod.mk.injEq] at h
  obtain ⟨rfl, rfl⟩ := h; obtain ⟨h0, _⟩ := hl
  exact hmB_ok _ h0
 ·cases h
def frC : List D → Option (D × List Prop)
 | [.agg [.rc [.ints .i64 nx], .rc [.bools us], .v (.int .i64 f)]] => some ((.tup [oi (chL nx f), bo (chB nx f)]), [nx.length ≤ 200])
 | _ => none
theorem frC_ok (args res l) (h : frC args = some (res, l)) (hl : AllP l) : CallsD Try.prog 95 args res := by
 unfold frC at h; split at h
 ·simp only [Option.some.injEq, Prod.mk.injEq] at h
  obtain ⟨rfl, rfl⟩ := h; obtain ⟨h0, _⟩ := hl
  exact fr2_ok _ _ _ h0
 ·cases h
def alC : List D → Option (D × List Prop)
 | [.agg [.rc [.ints .i64 ps], .rc [.ints .i64 nx], .v (.int .i64 h), .v (.int .i64 t)]] => some ((.tup [oi (chL nx h), bo (chB nx h)]), [nx.length ≤ 200])
 | _ => none
theorem alC_ok (args res l) (h : alC args = some (res, l)) (hl : AllP l) : CallsD Try.prog 69 args res := by
 unfold alC at h; split at h
 ·simp only [Option.some.injEq, Prod.mk.injEq] at h
  obtain ⟨rfl, rfl⟩ := h; obtain ⟨h0, _⟩ := hl
  exact al2_ok _ _ _ _ h0
 ·cases h
theorem cnC_ok (args res l) (h : inC args = some (res, l)) (hl : AllP l) : CallsD Try.prog 63 args res := by
 unfold inC at h; split at h
 ·simp only [Option.some.injEq, Prod.mk.injEq] at h
  obtain ⟨rfl, rfl⟩ := h; obtain ⟨h0, _⟩ := hl
  exact cn_ok _ _ h0
 ·cases h
def X3 : Contracts := addCon 107 (.call hmC) (addCon 100 (.call hmC) (addCon 63 (.call inC) (addCon 95 (.call frC) (addCon 69 (.call alC) X2))))
theorem hX3 : ConOK Try.prog X3 := addCall_ok hmC_okA (addCall_ok hmC_okB (addCall_ok cnC_ok (addCall_ok frC_ok (addCall_ok alC_ok hX2))))
end TableS
end

section
namespace TableS
open Go Go.Dam Go.Proofs
set_option maxRecDepth 1000000
theorem mdL_r0 (n : Int) (xs : List Int) (i : Int) (j k : Nat) (ps nx : List Int) : roundX Try.prog (X2) 100000 (loopAt Try.prog 78 0) [.d true] [[0, 1, 4, 5, 6]] [(128, 128), (160, 160), (544, 9001), (672, 9002)] (mdT n xs i j k ps nx) = some (Ex.normal, (mdT (n) (xs) (opI .add .i64 i 1) (j + 1) (k + 1) (ps ++ [-1]) (nx ++ [-1])), [(k + 1) * 8 ≤ 17592186044416, k = nx.length, nx.length = nx.length, (j + 1) * 8 ≤ 17592186044416, j = ps.length, ps.length = ps.length, cmpI .lss i n = true]) := by kernel_rfl
theorem mdL_r1 (n : Int) (xs : List Int) (i : Int) (j k : Nat) (ps nx : List Int) : roundX Try.prog (X2) 100000 (loopAt Try.prog 78 0) [.d false] [[0, 1, 4, 5, 6]] [(128, 128), (160, 160), (9001, 9001), (9002, 9002)] (mdT n xs i j k ps nx) = some (Ex.exit 0, (mdT (n) (xs) (i) (j) (k) (ps) (nx)), [cmpI .lss i n = false]) := by kernel_rfl
theorem mdL_step (n : Int) (xs : List Int) (i : Int) (j : Nat) (k : Nat) (ps : List Int) (nx : List Int) (σ : St) (e : Ex)
 (h0 : ((cmpI .lss i n) = true) → (((k + 1) * 8 ≤ 17592186044416) ∧ (k = nx.length) ∧ (nx.length = nx.length) ∧ ((j + 1) * 8 ≤ 17592186044416) ∧ (j = ps.length) ∧ (ps.length = ps.length) ∧ True) ∧ Runs Try.prog (CallsD Try.prog) (.rounds (loopAt Try.prog 78 0)) (mdT (n) (xs) (opI .add .i64 i 1) (j + 1) (k + 1) (ps ++ [-1]) (nx ++ [-1])).abs e σ)
 (h1 : ((cmpI .lss i n) = false) → (True) ∧ (e = Ex.exit 0 ∧ σ = (mdT (n) (xs) (i) (j) (k) (ps) (nx)).abs)) : Runs Try.prog (CallsD Try.prog) (.rounds (loopAt Try.prog 78 0)) (mdT n xs i j k ps nx).abs e σ := by
 cases e0 : (cmpI .lss i n) with
 | true =>
  obtain ⟨⟨k0, k1, k2, k3, k4, k5, _⟩, kr⟩ := h0 e0
  exact rounds_on (hX2) (mdL_r0 n xs i j k ps nx) ⟨k0, k1, k2, k3, k4, k5, e0, trivial⟩ kr
 | false =>
  obtain ⟨_, kr⟩ := h1 e0
  exact rounds_end (hX2) (mdL_r1 n xs i j k ps nx) ⟨e0, trivial⟩ (by simp) kr
noncomputable def mdL2_T (xs : List Int) (i : Int) (j : Nat) (k : Nat) (h : Int) (t : Int) (ps : List Int) (nx : List Int) : Tr (Ex × Cs) := .d (cmpI .lss i ↑(xs.length)) (fun e0 => .d (cmpI .eql i 0) (fun e1 => .s (decide (i < ↑(xs.length)) = true) (.s (decide (0 ≤ i) = true) (.s (decide (i < ↑(xs.length)) = true) (.s (decide (0 ≤ i) = true) (.lf (Ex.normal, (mdT2 (xs) (opI .add .i64 i 1) (j) (k) (xs.getD i.toNat 0) (xs.getD i.toNat 0) (ps) (nx)))))))) (fun e1 => .s (decide (i < ↑(xs.length)) = true) (.s (decide (0 ≤ i) = true) (.s (decide (opI .sub .i64 i 1 < ↑(xs.length)) = true) (.s (decide (0 ≤ opI .sub .i64 i 1) = true) (.s (decide (xs.getD i.toNat 0 < ↑j) = true) (.s (decide (0 ≤ xs.getD i.toNat 0) = true) (.s (ps.length = ps.length) (.s ((xs.getD i.toNat 0).toNat < ps.length) (.s (decide (opI .sub .i64 i 1 < ↑(xs.length)) = true) (.s (decide (0 ≤ opI .sub .i64 i 1) = true) (.s (decide (i < ↑(xs.length)) = true) (.s (decide (0 ≤ i) = true) (.s (decide (xs.getD (opI .sub .i64 i 1).toNat 0 < ↑k) = true) (.s (decide (0 ≤ xs.getD (opI .sub .i64 i 1).toNat 0) = true) (.s (nx.length = nx.length) (.s ((xs.getD (opI .sub .i64 i 1).toNat 0).toNat < nx.length) (.s (decide (i < ↑(xs.length)) = true) (.s (decide (0 ≤ i) = true) (.lf (Ex.normal, (mdT2 (xs) (opI .add .i64 i 1) (j) (k) (h) (xs.getD i.toNat 0) (ps.set (xs.getD i.toNat 0).toNat (xs.getD (opI .sub .i64 i 1).toNat 0)) (nx.set (xs.getD (opI .sub .i64 i 1).toNat 0).toNat (xs.getD i.toNat 0)))))))))))))))))))))))) (fun e0 => .lf (Ex.exit 2, (mdT2 (xs) (i) (j) (k) (h) (t) (ps) (nx))))
theorem mdL2_L (xs : List Int) (i : Int) (j k : Nat) (h t : Int) (ps nx : List Int) : Leaves (roundT Try.prog (X2) 100000 (loopAt Try.prog 78 1) [[1, 4, 5, 7]] [(128, 128), (160, 160), (9001, 9001), (9002, 9002)] (mdT2 xs i j k h t ps nx)) (mdL2_T xs i j k h t ps nx) [] [] := by refine ⟨fun _ => ⟨fun _ => ?_, fun _ => ?_⟩, fun _ => ?_⟩ <;> (show _ = _; kernel_rfl)
theorem mdL2_step (xs : List Int) (i : Int) (j : Nat) (k : Nat) (h : Int) (t : Int) (ps : List Int) (nx : List Int) (σ : St) (e : Ex) (h0 : At (RG Try.prog (loopAt Try.prog 78 1) e σ) (mdL2_T xs i j k h t ps nx) [true, true] True) (h1 : At (RG Try.prog (loopAt Try.prog 78 1) e σ) (mdL2_T xs i j k h t ps nx) [true, false] True) (h2 : At (RG Try.prog (loopAt Try.prog 78 1) e σ) (mdL2_T xs i j k h t ps nx) [false] True) : Runs Try.prog (CallsD Try.prog) (.rounds (loopAt Try.prog 78 1)) (mdT2 xs i j k h t ps nx).abs e σ := tree_rounds (hX2) (mdL2_L xs i j k h t ps nx) ⟨fun e0 => ⟨fun e1 => h0 e0 e1, fun e1 => h1 e0 e1⟩, fun e0 => h2 e0⟩
noncomputable def mdF_T (n : Int) (xs : List Int) (i : Int) (i2 : Int) (j : Nat) (k : Nat) (h : Int) (t : Int) (ps : List Int) (nx : List Int) (ps2 : List Int) (nx2 : List Int) : Tr D := .p (.k [Cast.cnil 160 0 9001 1 [.ints .i64 []], Cast.cnil 160 1 9002 1 [.ints .i64 []]]) (.p (.l [[0, 1, 4, 5, 6]] [(128, 128), (160, 160), (9001, 9001), (9002, 9002)] (mdT n xs 0 0 0 [] []) (Ex.exit 0) (mdT n xs i j k ps nx)) (.p (.l [[1, 4, 5, 7]] [(128, 128), (160, 160), (9001, 9001), (9002, 9002)] (mdT2 xs 0 j k (-1) (-1) ps nx) (Ex.exit 2) (mdT2 xs i2 j k h t ps2 nx2)) (.s (Runs Try.prog (CallsD Try.prog) (.code (.loop (loopAt Try.prog 78 0))) (mdT n xs 0 0 0 [] []).abs (Ex.exit 0) (mdT n xs i j k ps nx).abs) (.k ((mdT n xs 0 0 0 [] [] = mdT n xs 0 0 0 [] [])) rfl (.s (Runs Try.prog (CallsD Try.prog) (.code (.loop (loopAt Try.prog 78 1))) (mdT2 xs 0 j k (-1) (-1) ps nx).abs (Ex.exit 2) (mdT2 xs i2 j k h t ps2 nx2).abs) (.k ((mdT2 xs 0 j k (-1) (-1) ps nx = mdT2 xs 0 j k (-1) (-1) ps nx)) rfl (.s (k = nx2.length) (.s (j = ps2.length) (.lf (D.agg [D.oc [.ints .i64 ps2], D.oc [.ints .i64 nx2], i64 h, i64 t]))))))))))
theorem mdF_L (n : Int) (xs : List Int) (i i2 : Int) (j k : Nat) (h t : Int) (ps nx ps2 nx2 : List Int) : Leaves (fun l => fnX Try.prog (X2) 100000 l 78 [i64 n, ri xs]) (mdF_T n xs i i2 j k h t ps nx ps2 nx2) [] [] := by show _ = _; kernel_rfl
theorem mdF_calls (n : Int) (xs : List Int) (i i2 : Int) (j k : Nat) (h t : Int) (ps nx ps2 nx2 : List Int) (res : D) (h0 : At (fun r => res = r) (mdF_T n xs i i2 j k h t ps nx ps2 nx2) [] True) : CallsD Try.prog 78 [i64 n, ri xs] res := tree_calls (hX2) (mdF_L n xs i i2 j k h t ps nx ps2 nx2) h0
/-- The two rows that a list makes, after so many of its places. -/
def mkP (n : Nat) (xs : List Int) : Nat → List Int
 | 0 => List.replicate n (-1)
 | i + 1 => if i = 0 then mkP n xs i else (mkP n xs i).set (xs.getD i 0).toNat (xs.getD (i - 1) 0)
def mkN (n : Nat) (xs : List Int) : Nat → List Int
 | 0 => List.replicate n (-1)
 | i + 1 => if i = 0 then mkN n xs i else (mkN n xs i).set (xs.getD (i - 1) 0).toNat (xs.getD i 0)
def mkH (xs : List Int) (i : Nat) : Int := if i = 0 then -1 else xs.getD 0 0
def mkT (xs : List Int) (i : Nat) : Int := if i = 0 then -1 else xs.getD (i - 1) 0
theorem mkP_len (n : Nat) (xs : List Int) : ∀ i, (mkP n xs i).length = n
 | 0 => by simp [mkP]
 | i + 1 => by simp only [mkP]; split <;> simp [mkP_len n xs i]
theorem mkN_len (n : Nat) (xs : List Int) : ∀ i, (mkN n xs i).length = n
 | 0 => by simp [mkN]
 | i + 1 => by simp only [mkN]; split <;> simp [mkN_len n xs i]
def mdS (n : Int) (xs : List Int) : Prop := 0 ≤ n ∧ n ≤ 200 ∧ xs.length ≤ 200 ∧ ∀ x ∈ xs, 0 ≤ x ∧ x < n
theorem md_ok (n : Int) (xs : List Int) (h : mdS n xs) : CallsD Try.prog 78 [i64 n, ri xs] (.agg [oi (mkP n.toNat xs xs.length), oi (mkN n.toNat xs xs.length), i64 (mkH xs xs.length), i64 (mkT xs xs.length)]) := by
 obtain ⟨h0, h1, h2, h3⟩ := h
 have hx : ∀ i, i < xs.length → 0 ≤ xs.getD i 0 ∧ xs.getD i 0 < n := fun i hi => by
  rw [List.getD_eq_getElem?_getD, List.getElem?_eq_getElem hi]
  exact h3 _ (List.getElem_mem hi)
 refine mdF_calls n xs n xs.length n.toNat n.toNat (mkH xs xs.length) (mkT xs xs.length) (mkP n.toNat xs 0) (mkN n.toNat xs 0) (mkP n.toNat xs xs.length) (mkN n.toNat xs xs.length) _ ⟨⟨(mkP_len _ _ _).symm, (mkN_len _ _ _).symm, loop_of_rounds ?_, loop_of_rounds ?_, trivial⟩, rfl⟩
 ·refine scan_all (fun i => mdT2 xs (i : Int) n.toNat n.toNat (mkH xs i) (mkT xs i) (mkP n.toNat xs i) (mkN n.toNat xs i)) xs.length (fun _ => True) (fun i hi _ σ e hr => ?_) ?_ xs.length 0 (by omega) (fun _ _ _ => trivial)
  ·obtain ⟨y0, y1⟩ := hx i hi
   refine mdL2_step xs i n.toNat n.toNat _ _ _ _ σ e ?_ ?_ ?_ <;> dsimp only [At, Tr.q, RG, mdL2_T]
   ·intro _ g
    rw [eql_t] at g
    obtain rfl : i = 0 := by omega
    rw [succL hi h2, Int.toNat_natCast]
    exact ⟨⟨(natLt hi).1, (natLt hi).2, (natLt hi).1, (natLt hi).2, trivial⟩, hr⟩
   ·intro _ g
    rw [eql_f] at g
    have hi0 : i ≠ 0 := by omega
    have hp : opI .sub .i64 (i : Int) 1 = ((i - 1 : Nat) : Int) := by
     rw [opI_sub, wrap_i64_of (by omega) (by omega)]; omega
    obtain ⟨z0, z1⟩ := hx (i - 1) (by omega)
    rw [succL hi h2, hp, Int.toNat_natCast, Int.toNat_natCast]
    have e1 : mkP n.toNat xs (i + 1) = (mkP n.toNat xs i).set (xs.getD i 0).toNat (xs.getD (i - 1) 0) := by simp only [mkP, if_neg hi0]
    have e2 : mkN n.toNat xs (i + 1) = (mkN n.toNat xs i).set (xs.getD (i - 1) 0).toNat (xs.getD i 0) := by simp only [mkN, if_neg hi0]
    have e3 : mkH xs (i + 1) = mkH xs i := by simp only [mkH, if_neg hi0]; rfl
    have e4 : mkT xs (i + 1) = xs.getD i 0 := by simp only [mkT]; rfl
    rw [e1, e2, e3, e4] at hr
    have n1 := natLt hi
    have n2 : decide (0 ≤ ((i - 1 : Nat) : Int)) = true ∧ decide (((i - 1 : Nat) : Int) < (xs.length : Int)) = true := natLt (by omega)
    have l1 := mkP_len n.toNat xs i
    have l2 := mkN_len n.toNat xs i
    refine ⟨⟨n1.1, n1.2, by omega, rfl, by simpa using z0, ?_, n1.1, n1.2, n2.1, n2.2, by omega, rfl, by simpa using y0, ?_, n2.1, n2.2, n1.1, n1.2, trivial⟩, hr⟩
    ·rw [decide_eq_true_eq]; omega
    ·rw [decide_eq_true_eq]; omega
   ·intro g; rw [lss_f] at g; omega
  ·refine mdL2_step xs xs.length n.toNat n.toNat _ _ _ _ _ _ ?_ ?_ ?_ <;> dsimp only [At, Tr.q, RG, mdL2_T]
   ·intro g; rw [lss_t] at g; omega
   ·intro g; rw [lss_t] at g; omega
   ·intro _; exact ⟨trivial, rfl, rfl⟩
 ·have hn : ((n.toNat : Nat) : Int) = n := by omega
  have key := scan_all (P := Try.prog) (F := CallsD Try.prog) (b := loopAt Try.prog 78 0) (fun i => mdT n xs (i : Int) i i (List.replicate i (-1)) (List.replicate i (-1))) n.toNat (fun _ => True) (fun i hi _ σ e hr => ?_) (σ := (mdT n xs n n.toNat n.toNat (mkP n.toNat xs 0) (mkN n.toNat xs 0)).abs) (e := .exit 0) ?_ n.toNat 0 (by omega) (fun _ _ _ => trivial)
  ·exact key
  ·refine mdL_step n xs i i i _ _ σ e ?_ ?_
   ·intro _
    rw [succL hi (by omega)]
    refine ⟨⟨by omega, by simp, rfl, by omega, by simp, rfl, trivial⟩, ?_⟩
    rw [← List.replicate_succ']; exact hr
   ·intro g; rw [lss_f] at g; omega
  ·rw [hn]
   refine mdL_step n xs n n.toNat n.toNat _ _ _ _ ?_ ?_
   ·intro g; rw [lss_t] at g; omega
   ·intro _; exact ⟨trivial, rfl, rfl⟩
def mdC : List D → Option (D × List Prop)
 | [.v (.int .i64 n), .rc [.ints .i64 xs]] => some ((.agg [oi (mkP n.toNat xs xs.length), oi (mkN n.toNat xs xs.length), i64 (mkH xs xs.length), i64 (mkT xs xs.length)]), [mdS n xs])
 | _ => none
theorem mdC_ok (args res l) (h : mdC args = some (res, l)) (hl : AllP l) : CallsD Try.prog 78 args res := by
 unfold mdC at h; split at h
 ·simp only [Option.some.injEq, Prod.mk.injEq] at h
  obtain ⟨rfl, rfl⟩ := h; obtain ⟨h0, _⟩ := hl
  exact md_ok _ _ h0
 ·cases h
end TableS
end

section
namespace TableS
open Go Go.Dam Go.Proofs
set_option maxRecDepth 1000000
noncomputable def lkL_T (xs : List Int) (ys : List Int) (zs : List Bool) (k : Int) (i : Int) (n : Int) : Tr (Ex × Cs) := .s (decide (i < ↑(xs.length)) = true) (.s (decide (0 ≤ i) = true) (.d (zs.getD i.toNat false) (fun e0 => .p (.c 5) (.s (decide (i < ↑(xs.length)) = true) (.s (decide (0 ≤ i) = true) (.d (cmpI .neq (xs.getD i.toNat 0) k) (fun e1 => .lf (Ex.normal, (lkT (xs) (ys) (zs) (k) (opI .and .i64 (opI .add .i64 i 1) 15) (opI .add .i64 n 1)))) (fun e1 => .lf (Ex.exit 0, (lkT (xs) (ys) (zs) (k) (i) (n)))))))) (fun e0 => .p (.c 6) (.lf (Ex.exit 0, (lkT (xs) (ys) (zs) (k) (i) (n)))))))
theorem lkL_L (xs ys : List Int) (zs : List Bool) (k i n : Int) : Leaves (roundT Try.prog (X1) 100000 (loopAt Try.prog 88 0) [[0, 1, 4, 5]] [] (lkT xs ys zs k i n)) (lkL_T xs ys zs k i n) [] [] := by refine ⟨fun _ => ⟨fun _ => ?_, fun _ => ?_⟩, fun _ => ?_⟩ <;> (show _ = _; kernel_rfl)
theorem lkL_step (xs : List Int) (ys : List Int) (zs : List Bool) (k : Int) (i : Int) (n : Int) (σ : St) (e : Ex) (h0 : At (RG Try.prog (loopAt Try.prog 88 0) e σ) (lkL_T xs ys zs k i n) [true, true] True) (h1 : At (RG Try.prog (loopAt Try.prog 88 0) e σ) (lkL_T xs ys zs k i n) [true, false] True) (h2 : At (RG Try.prog (loopAt Try.prog 88 0) e σ) (lkL_T xs ys zs k i n) [false] True) : Runs Try.prog (CallsD Try.prog) (.rounds (loopAt Try.prog 88 0)) (lkT xs ys zs k i n).abs e σ := tree_rounds (hX1) (lkL_L xs ys zs k i n) ⟨fun e0 => ⟨fun e1 => h0 e0 e1, fun e1 => h1 e0 e1⟩, fun e0 => h2 e0⟩
noncomputable def lkF_c0 (k : Int) := opI .shr .u32 (opI .mul .u32 k 2654435769) 28
noncomputable def lkF_T (xs : List Int) (ys : List Int) (zs : List Bool) (k : Int) (i : Int) (n : Int) : Tr D := .p (.l [[0, 1, 4, 5]] [] (lkT xs ys zs k (IntKind.i64.wrap (lkF_c0 k)) 0) (Ex.exit 0) (lkT xs ys zs k i n)) (.q (true) (.s (Runs Try.prog (CallsD Try.prog) (.code (.loop (loopAt Try.prog 88 0))) (lkT xs ys zs k (IntKind.i64.wrap (lkF_c0 k)) 0).abs (Ex.exit 0) (lkT xs ys zs k i n).abs) (.k ((lkT xs ys zs k (IntKind.i64.wrap (lkF_c0 k)) 0 = lkT xs ys zs k (IntKind.i64.wrap (lkF_c0 k)) 0)) rfl (.lf (D.tup [i64 i, i64 (opI .add .i64 n 1)])))))
theorem lkF_L (xs ys : List Int) (zs : List Bool) (k i n : Int) : Leaves (fun l => fnX Try.prog (X1) 100000 l 88 [cc xs ys zs, u32 k]) (lkF_T xs ys zs k i n) [] [] := by show _ = _; kernel_rfl
theorem lkF_calls (xs ys : List Int) (zs : List Bool) (k i n : Int) (res : D) (h0 : At (fun r => res = r) (lkF_T xs ys zs k i n) [] True) : CallsD Try.prog 88 [cc xs ys zs, u32 k] res := tree_calls (hX1) (lkF_L xs ys zs k i n) h0
/-- Where a key is looked for: the place, and how many steps it took. -/
def lkW (xs : List Int) (zs : List Bool) (k : Int) : Nat → Nat → Nat → Nat × Nat
 | 0, i, n => (i, n)
 | d + 1, i, n => if zs.getD i false = true ∧ xs.getD i 0 ≠ k then lkW xs zs k d ((i + 1) % 16) (n + 1) else (i, n)
theorem lkW_lt {xs : List Int} {zs : List Bool} {k : Int} : ∀ (d i n : Nat), i < 16 → (lkW xs zs k d i n).1 < 16 ∧ (lkW xs zs k d i n).2 ≤ n + d
 | 0, i, n, h => ⟨h, Nat.le_refl _⟩
 | d + 1, i, n, h => by
  simp only [lkW]
  split
  ·have := lkW_lt (xs := xs) (zs := zs) (k := k) d ((i + 1) % 16) (n + 1) (by omega)
   exact ⟨this.1, by omega⟩
  ·exact ⟨h, by show n ≤ _; omega⟩
theorem lk_run (xs ys : List Int) (zs : List Bool) (k : Int) (hx : xs.length = 16) : ∀ (D d i n : Nat), d ≤ D → i < 16 → n + D ≤ 100 → zs.getD ((i + d) % 16) false = false →
  Runs Try.prog (CallsD Try.prog) (.rounds (loopAt Try.prog 88 0)) (lkT xs ys zs k i n).abs (.exit 0) (lkT xs ys zs k (lkW xs zs k D i n).1 (lkW xs zs k D i n).2).abs := by
 intro D
 induction D with
 | zero =>
  intro d i n hd hi hn hz
  obtain rfl : d = 0 := by omega
  rw [Nat.add_zero, Nat.mod_eq_of_lt hi] at hz
  have b := natLt (n := xs.length) (i := i) (by omega)
  refine lkL_step xs ys zs k i n _ _ ?_ ?_ ?_ <;> dsimp only [At, Tr.q, RG, lkL_T]
  ·intro g; rw [Int.toNat_natCast, hz] at g; cases g
  ·intro g; rw [Int.toNat_natCast, hz] at g; cases g
  ·intro _; exact ⟨⟨b.1, b.2, trivial⟩, rfl, rfl⟩
 | succ D ih =>
  intro d i n hd hi hn hz
  have b := natLt (n := xs.length) (i := i) (by omega)
  by_cases c : zs.getD i false = true ∧ xs.getD i 0 ≠ k
  ·have hd0 : d ≠ 0 := fun e => by
    subst e
    rw [Nat.add_zero, Nat.mod_eq_of_lt hi, c.1] at hz; cases hz
   have r := ih (d - 1) ((i + 1) % 16) (n + 1) (by omega) (by omega) (by omega) (by rw [← hz]; congr 1; omega)
   have e1 : opI .and .i64 (opI .add .i64 (i : Int) 1) 15 = (((i + 1) % 16 : Nat) : Int) := by
    rw [opI_add, wrap_i64_of (by omega) (by omega), and15 (by omega) (by omega)]; omega
   have e2 : opI .add .i64 (n : Int) 1 = ((n + 1 : Nat) : Int) := by
    rw [opI_add, wrap_i64_of (by omega) (by omega)]; omega
   simp only [lkW, if_pos c]
   refine lkL_step xs ys zs k i n _ _ ?_ ?_ ?_ <;> dsimp only [At, Tr.q, RG, lkL_T]
   ·intro _ _; rw [e1, e2]; exact ⟨⟨b.1, b.2, b.1, b.2, trivial⟩, r⟩
   ·intro _ g; rw [Int.toNat_natCast, neq_f] at g; exact absurd g c.2
   ·intro g; rw [Int.toNat_natCast, c.1] at g; cases g
  ·simp only [lkW, if_neg c]
   refine lkL_step xs ys zs k i n _ _ ?_ ?_ ?_ <;> dsimp only [At, Tr.q, RG, lkL_T]
   ·intro g1 g2; rw [Int.toNat_natCast] at g1; rw [Int.toNat_natCast, neq_t] at g2; exact absurd ⟨g1, g2⟩ c
   ·intro _ _; exact ⟨⟨b.1, b.2, b.1, b.2, trivial⟩, rfl, rfl⟩
   ·intro _; exact ⟨⟨b.1, b.2, trivial⟩, rfl, rfl⟩
/-- An index whose key can be looked for. -/
def lkS (xs : List Int) (zs : List Bool) (k : Int) : Prop := xs.length = 16 ∧ inU k ∧ ∃ j, j < 16 ∧ zs.getD j false = false
def lkI (xs : List Int) (zs : List Bool) (k : Int) : Nat := (lkW xs zs k 16 (homeN k).toNat 0).1
def lkC (xs : List Int) (zs : List Bool) (k : Int) : Nat := (lkW xs zs k 16 (homeN k).toNat 0).2 + 1
theorem lk_ok (xs ys : List Int) (zs : List Bool) (k : Int) (h : lkS xs zs k) : CallsD Try.prog 88 [cc xs ys zs, u32 k] (.tup [i64 (lkI xs zs k), i64 (lkC xs zs k)]) := by
 obtain ⟨hx, hk, j, hj, hz⟩ := h
 have hh := homeN_lt hk
 have r := lk_run xs ys zs k hx 16 ((j + 16 - (homeN k).toNat) % 16) (homeN k).toNat 0 (by omega) (by omega) (by omega) (by rw [← hz]; congr 1; omega)
 have hw := lkW_lt (xs := xs) (zs := zs) (k := k) 16 (homeN k).toNat 0 (by omega)
 refine lkF_calls xs ys zs k (lkI xs zs k) (lkW xs zs k 16 (homeN k).toNat 0).2 _ ⟨⟨?_, trivial⟩, ?_⟩
 ·unfold lkF_c0; rw [home_eq hk]
  have e : homeN k = (((homeN k).toNat : Nat) : Int) := by omega
  have r' := loop_of_rounds r
  rw [← e] at r'
  exact r'
 ·rw [opI_add, wrap_i64_of (by omega) (by omega)]
  simp only [lkC, Int.natCast_add]; rfl
def lkC0 : List D → Option (D × List Prop)
 | [.rc [.ints .u32 xs, .ints .i64 ys, .bools zs], .v (.int .u32 k)] => some ((.tup [i64 (lkI xs zs k), i64 (lkC xs zs k)]), [lkS xs zs k])
 | _ => none
theorem lkC0_ok (args res l) (h : lkC0 args = some (res, l)) (hl : AllP l) : CallsD Try.prog 88 args res := by
 unfold lkC0 at h; split at h
 ·simp only [Option.some.injEq, Prod.mk.injEq] at h
  obtain ⟨rfl, rfl⟩ := h; obtain ⟨h0, _⟩ := hl
  exact lk_ok _ _ _ _ h0
 ·cases h
def X4 : Contracts := addCon 88 (.call lkC0) (addCon 78 (.call mdC) X3)
theorem hX4 : ConOK Try.prog X4 := addCall_ok lkC0_ok (addCall_ok mdC_ok hX3)
end TableS
end
