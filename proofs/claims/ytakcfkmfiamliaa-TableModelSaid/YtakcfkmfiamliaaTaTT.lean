/- What the functions compute, and the law. No condition. -/
import Derived.Test.YtakcfkmfiamliaaTaTQ
set_option linter.unusedSectionVars false
set_option linter.unusedVariables false
set_option linter.unusedSimpArgs false
section
namespace TableS
open Go Go.Dam Go.Proofs
set_option maxRecDepth 1000000
noncomputable def c15_T (ps : List Int) (nx : List Int) (h : Int) (t : Int) : Tr D := .d (cmpI .lss (ps.length : Int) 1) (fun e0 => .p (.c 10) (.lf (i64 8))) (fun e0 => .p (.c 2) (.d (cmpI .gtr (ps.length : Int) 16) (fun e1 => .p (.c 6) (.lf (i64 8))) (fun e1 => .p (.c 5) (.d (cmpI .neq (nx.length : Int) (ps.length : Int)) (fun e2 => .lf (i64 8)) (fun e2 => .s (nx.length ≤ 200) (.d (!chB nx h) (fun e3 => .p (.c 7) (.lf (i64 8))) (fun e3 => .p (.c 6) (.s (mdS (ps.length : Int) (chL nx h)) (.q (rowLen0 [.ints .i64 (chL nx h)]) (.s (ps.length ≤ 200 ∧ nx.length ≤ 200) (.q (rowLen0 [.ints .i64 (mkN ((ps.length : Int)).toNat (chL nx h) (chL nx h).length)]) (.q (rowLen0 [.ints .i64 (mkP ((ps.length : Int)).toNat (chL nx h) (chL nx h).length)]) (.d (!sm15 ps nx h t (mkP ((ps.length : Int)).toNat (chL nx h) (chL nx h).length) (mkN ((ps.length : Int)).toNat (chL nx h) (chL nx h).length) (mkH (chL nx h) (chL nx h).length) (mkT (chL nx h) (chL nx h).length)) (fun e4 => .lf (i64 8)) (fun e4 => .lf (i64 0)))))))))))))))
theorem c15_L (ps nx : List Int) (h t : Int) : Leaves (fun l => fnX Try.prog (X7) 100000 l 68 [D.agg [ri ps, ri nx, i64 h, i64 t]]) (c15_T ps nx h t) [] [] := by refine ⟨fun _ => ?_, fun _ => ⟨fun _ => ?_, fun _ => ⟨fun _ => ?_, fun _ => ⟨fun _ => ?_, fun _ => ⟨fun _ => ?_, fun _ => ?_⟩⟩⟩⟩⟩ <;> (show _ = _; kernel_rfl)
theorem c15_calls (ps nx : List Int) (h t : Int) (res : D) (h0 : At (fun r => res = r) (c15_T ps nx h t) [true] True) (h1 : At (fun r => res = r) (c15_T ps nx h t) [false, true] True) (h2 : At (fun r => res = r) (c15_T ps nx h t) [false, false, true] True) (h3 : At (fun r => res = r) (c15_T ps nx h t) [false, false, false, true] True) (h4 : At (fun r => res = r) (c15_T ps nx h t) [false, false, false, false, true] True) (h5 : At (fun r => res = r) (c15_T ps nx h t) [false, false, false, false, false] True) : CallsD Try.prog 68 [D.agg [ri ps, ri nx, i64 h, i64 t]] res := tree_calls (hX7) (c15_L ps nx h t) ⟨fun e0 => h0 e0, fun e0 => ⟨fun e1 => h1 e0 e1, fun e1 => ⟨fun e2 => h2 e0 e1 e2, fun e2 => ⟨fun e3 => h3 e0 e1 e2 e3, fun e3 => ⟨fun e4 => h4 e0 e1 e2 e3 e4, fun e4 => h5 e0 e1 e2 e3 e4⟩⟩⟩⟩⟩
noncomputable def c13L_c0 (o k : Int) (nx : List Int) (us : List Bool) (f : Int) (m : Nat) (l : List Int) := c13T (o) (opI .add .i64 k 1) (nx) (us) (f) (m) (l)
noncomputable def c13L_T (o : Int) (k : Int) (nx : List Int) (us : List Bool) (f : Int) (m : Nat) (l : List Int) : Tr (Ex × Cs) := .d (cmpI .lss k (us.length : Int)) (fun e0 => .s (decide (k < (us.length : Int)) = true) (.s (decide (0 ≤ k) = true) (.s (l.length ≤ 200) (.s (m = l.length) (.d (us.getD k.toNat false == inB l k) (fun e1 => .p (.c 6) (.lf (Ex.ret, (c13T (8) (k) (nx) (us) (f) (m) (l))))) (fun e1 => .p (.c 4) (.s (decide (k < (us.length : Int)) = true) (.s (decide (0 ≤ k) = true) (.d (us.getD k.toNat false) (fun e2 => .p (.c 5) (.s (decide (k < (nx.length : Int)) = true) (.s (decide (0 ≤ k) = true) (.d (cmpI .neq (nx.getD k.toNat 0) (-1)) (fun e3 => .lf (Ex.ret, (c13T (8) (k) (nx) (us) (f) (m) (l)))) (fun e3 => .lf (Ex.normal, (c13L_c0 o k nx us f m l))))))) (fun e2 => .p (.c 6) (.lf (Ex.normal, (c13L_c0 o k nx us f m l))))))))))))) (fun e0 => .lf (Ex.exit 0, (c13T (o) (k) (nx) (us) (f) (m) (l))))
theorem c13L_L (o k : Int) (nx : List Int) (us : List Bool) (f : Int) (m : Nat) (l : List Int) : Leaves (roundT Try.prog (X7) 100000 (loopAt Try.prog 66 0) [[1, 2, 3, 5]] [(32, 32), (864, 864)] (c13T o k nx us f m l)) (c13L_T o k nx us f m l) [] [] := by refine ⟨fun _ => ⟨fun _ => ?_, fun _ => ⟨fun _ => ⟨fun _ => ?_, fun _ => ?_⟩, fun _ => ?_⟩⟩, fun _ => ?_⟩ <;> (show _ = _; kernel_rfl)
theorem c13L_step (o : Int) (k : Int) (nx : List Int) (us : List Bool) (f : Int) (m : Nat) (l : List Int) (σ : St) (e : Ex) (h0 : At (RG Try.prog (loopAt Try.prog 66 0) e σ) (c13L_T o k nx us f m l) [true, true] True) (h1 : At (RG Try.prog (loopAt Try.prog 66 0) e σ) (c13L_T o k nx us f m l) [true, false, true, true] True) (h2 : At (RG Try.prog (loopAt Try.prog 66 0) e σ) (c13L_T o k nx us f m l) [true, false, true, false] True) (h3 : At (RG Try.prog (loopAt Try.prog 66 0) e σ) (c13L_T o k nx us f m l) [true, false, false] True) (h4 : At (RG Try.prog (loopAt Try.prog 66 0) e σ) (c13L_T o k nx us f m l) [false] True) : Runs Try.prog (CallsD Try.prog) (.rounds (loopAt Try.prog 66 0)) (c13T o k nx us f m l).abs e σ := tree_rounds (hX7) (c13L_L o k nx us f m l) ⟨fun e0 => ⟨fun e1 => h0 e0 e1, fun e1 => ⟨fun e2 => ⟨fun e3 => h1 e0 e1 e2 e3, fun e3 => h2 e0 e1 e2 e3⟩, fun e2 => h3 e0 e1 e2⟩⟩, fun e0 => h4 e0⟩
noncomputable def c13F_T (nx : List Int) (us : List Bool) (f : Int) (k : Int) : Tr D := .d (cmpI .lss (nx.length : Int) 1) (fun e0 => .p (.c 10) (.lf (i64 8))) (fun e0 => .p (.c 2) (.d (cmpI .gtr (nx.length : Int) 16) (fun e1 => .p (.c 6) (.lf (i64 8))) (fun e1 => .p (.c 5) (.d (cmpI .neq (us.length : Int) (nx.length : Int)) (fun e2 => .lf (i64 8)) (fun e2 => .s (nx.length ≤ 200) (.d (!chB nx f) (fun e3 => .lf (i64 8)) (fun e3 => .p (.l [[1, 2, 3, 5]] [(32, 32), (864, 864)] (c13T 0 0 nx us f ((chL nx f).length) (chL nx f)) (Ex.exit 0) (c13T 0 k nx us f ((chL nx f).length) (chL nx f))) (.s (Runs Try.prog (CallsD Try.prog) (.code (.loop (loopAt Try.prog 66 0))) (c13T 0 0 nx us f ((chL nx f).length) (chL nx f)).abs (Ex.exit 0) (c13T 0 k nx us f ((chL nx f).length) (chL nx f)).abs) (.k ((c13T 0 0 nx us f ((chL nx f).length) (chL nx f) = c13T 0 0 nx us f ((chL nx f).length) (chL nx f))) rfl (.lf (i64 0)))))))))))
theorem c13F_L (nx : List Int) (us : List Bool) (f k : Int) : Leaves (fun l => fnX Try.prog (X7) 100000 l 66 [D.agg [ri nx, rb us, i64 f]]) (c13F_T nx us f k) [] [] := by refine ⟨fun _ => ?_, fun _ => ⟨fun _ => ?_, fun _ => ⟨fun _ => ?_, fun _ => ⟨fun _ => ?_, fun _ => ?_⟩⟩⟩⟩ <;> (show _ = _; kernel_rfl)
theorem c13F_calls (nx : List Int) (us : List Bool) (f k : Int) (res : D) (h0 : At (fun r => res = r) (c13F_T nx us f k) [true] True) (h1 : At (fun r => res = r) (c13F_T nx us f k) [false, true] True) (h2 : At (fun r => res = r) (c13F_T nx us f k) [false, false, true] True) (h3 : At (fun r => res = r) (c13F_T nx us f k) [false, false, false, true] True) (h4 : At (fun r => res = r) (c13F_T nx us f k) [false, false, false, false] True) : CallsD Try.prog 66 [D.agg [ri nx, rb us, i64 f]] res := tree_calls (hX7) (c13F_L nx us f k) ⟨fun e0 => h0 e0, fun e0 => ⟨fun e1 => h1 e0 e1, fun e1 => ⟨fun e2 => h2 e0 e1 e2, fun e2 => ⟨fun e3 => h3 e0 e1 e2 e3, fun e3 => h4 e0 e1 e2 e3⟩⟩⟩⟩
noncomputable def c13R_T (nx : List Int) (us : List Bool) (f : Int) (o : Int) (k : Int) : Tr D := .d (cmpI .lss (nx.length : Int) 1) (fun e0 => .p (.c 10) (.lf (i64 8))) (fun e0 => .p (.c 2) (.d (cmpI .gtr (nx.length : Int) 16) (fun e1 => .p (.c 6) (.lf (i64 8))) (fun e1 => .p (.c 5) (.d (cmpI .neq (us.length : Int) (nx.length : Int)) (fun e2 => .lf (i64 8)) (fun e2 => .s (nx.length ≤ 200) (.d (!chB nx f) (fun e3 => .lf (i64 8)) (fun e3 => .p (.l [[1, 2, 3, 5]] [(32, 32), (864, 864)] (c13T 0 0 nx us f ((chL nx f).length) (chL nx f)) Ex.ret (c13T o k nx us f ((chL nx f).length) (chL nx f))) (.s (Runs Try.prog (CallsD Try.prog) (.code (.loop (loopAt Try.prog 66 0))) (c13T 0 0 nx us f ((chL nx f).length) (chL nx f)).abs (Ex.ret) (c13T o k nx us f ((chL nx f).length) (chL nx f)).abs) (.k ((c13T 0 0 nx us f ((chL nx f).length) (chL nx f) = c13T 0 0 nx us f ((chL nx f).length) (chL nx f))) rfl (.lf (i64 o)))))))))))
theorem c13R_L (nx : List Int) (us : List Bool) (f o k : Int) : Leaves (fun l => fnX Try.prog (X7) 100000 l 66 [D.agg [ri nx, rb us, i64 f]]) (c13R_T nx us f o k) [] [] := by refine ⟨fun _ => ?_, fun _ => ⟨fun _ => ?_, fun _ => ⟨fun _ => ?_, fun _ => ⟨fun _ => ?_, fun _ => ?_⟩⟩⟩⟩ <;> (show _ = _; kernel_rfl)
theorem c13R_calls (nx : List Int) (us : List Bool) (f o k : Int) (res : D) (h0 : At (fun r => res = r) (c13R_T nx us f o k) [true] True) (h1 : At (fun r => res = r) (c13R_T nx us f o k) [false, true] True) (h2 : At (fun r => res = r) (c13R_T nx us f o k) [false, false, true] True) (h3 : At (fun r => res = r) (c13R_T nx us f o k) [false, false, false, true] True) (h4 : At (fun r => res = r) (c13R_T nx us f o k) [false, false, false, false] True) : CallsD Try.prog 66 [D.agg [ri nx, rb us, i64 f]] res := tree_calls (hX7) (c13R_L nx us f o k) ⟨fun e0 => h0 e0, fun e0 => ⟨fun e1 => h1 e0 e1, fun e1 => ⟨fun e2 => h2 e0 e1 e2, fun e2 => ⟨fun e3 => h3 e0 e1 e2 e3, fun e3 => h4 e0 e1 e2 e3⟩⟩⟩⟩
theorem chB_chain {nx : List Int} {f : Int} (h : chB nx f = true) : chain nx (nx.length + 1) f [] = some (chL nx f) := by
 unfold chB at h; unfold chL
 obtain ⟨l, e⟩ := Option.isSome_iff_exists.1 h
 rw [e]; rfl
theorem chB_okL {nx : List Int} {f : Int} (h : chB nx f = true) : okL nx.length (chL nx f) := chain_ok (okL_nil _) (chB_chain h)
theorem okL_len {n : Nat} {l : List Int} (h : okL n l) : l.length ≤ n := pigeon _ _ h.1 h.2
def c15S (ps nx : List Int) (h t : Int) : Bool := sm15 ps nx h t (mkP ps.length (chL nx h) (chL nx h).length) (mkN ps.length (chL nx h) (chL nx h).length) (mkH (chL nx h) (chL nx h).length) (mkT (chL nx h) (chL nx h).length)
def c15V (ps nx : List Int) (h t : Int) : Int := if 1 ≤ ps.length ∧ ps.length ≤ 16 ∧ nx.length = ps.length ∧ chB nx h = true ∧ c15S ps nx h t = true then 0 else 8
theorem c15_ok (ps nx : List Int) (h t : Int) (hn : nx.length ≤ 200) : CallsD Try.prog 68 [.agg [ri ps, ri nx, i64 h, i64 t]] (i64 (c15V ps nx h t)) := by
 unfold c15V
 refine c15_calls ps nx h t _ ?_ ?_ ?_ ?_ ?_ ?_ <;> dsimp only [At, Tr.q, c15_T]
 ·intro g; rw [lss_t] at g; exact ⟨trivial, by rw [if_neg (by omega)]⟩
 ·intro _ g; rw [gtr_t] at g; exact ⟨trivial, by rw [if_neg (by omega)]⟩
 ·intro _ _ g; rw [neq_t] at g; exact ⟨trivial, by rw [if_neg (by omega)]⟩
 ·intro _ _ _ g; exact ⟨⟨hn, trivial⟩, by rw [if_neg (by intro c; rw [c.2.2.2.1] at g; cases g)]⟩
 all_goals
  intro g1 g2 g3 g4 g5
  rw [lss_f] at g1; rw [gtr_f] at g2; rw [neq_f] at g3
  have g4' : chB nx h = true := by simpa using g4
  have ho := chB_okL g4'
  have hl := okL_len ho
  have hm : mdS (ps.length : Int) (chL nx h) := ⟨by omega, by omega, by omega, fun x hx => by have := ho.2 x hx; omega⟩
 ·refine ⟨⟨⟨by omega, hn⟩, hm, hn, trivial⟩, ?_⟩
  rw [if_neg]
  intro c
  have := c.2.2.2.2
  unfold c15S at this
  rw [Int.toNat_natCast] at g5
  rw [this] at g5; cases g5
 ·refine ⟨⟨⟨by omega, hn⟩, hm, hn, trivial⟩, ?_⟩
  rw [if_pos]
  rw [Int.toNat_natCast] at g5
  exact ⟨by omega, by omega, by omega, g4', by unfold c15S; simpa using g5⟩
def c13Bad (nx : List Int) (us : List Bool) (f : Int) (i : Nat) : Bool := (us.getD i false == inB (chL nx f) i) || (us.getD i false && nx.getD i 0 != -1)
def c13V (nx : List Int) (us : List Bool) (f : Int) : Int := if 1 ≤ nx.length ∧ nx.length ≤ 16 ∧ us.length = nx.length ∧ chB nx f = true then (if findI (c13Bad nx us f) nx.length 0 < 0 then 0 else 8) else 8
theorem c13_ok (nx : List Int) (us : List Bool) (f : Int) (hn : nx.length ≤ 200) : CallsD Try.prog 66 [.agg [ri nx, rb us, i64 f]] (i64 (c13V nx us f)) := by
 unfold c13V
 by_cases c : 1 ≤ nx.length ∧ nx.length ≤ 16 ∧ us.length = nx.length ∧ chB nx f = true
 ·rw [if_pos c]
  obtain ⟨c1, c2, c3, c4⟩ := c
  have hl := okL_len (chB_okL c4)
  have hl2 : (chL nx f).length ≤ 200 := by omega
  refine look_for (b := loopAt Try.prog 66 0) (fun i => c13T 0 (i : Int) nx us f (chL nx f).length (chL nx f)) nx.length (c13Bad nx us f) (fun v => CallsD Try.prog 66 [.agg [ri nx, rb us, i64 f]] (i64 (if v < 0 then 0 else 8))) ?_ ?_ ?_
  ·intro i hi hp σ e hr
   have n1 := natLt hi
   have n2 := natLt (n := us.length) (i := i) (by omega)
   simp only [c13Bad, Bool.or_eq_false_iff] at hp
   refine c13L_step 0 i nx us f _ (chL nx f) σ e ?_ ?_ ?_ ?_ ?_ <;> dsimp only [At, Tr.q, RG, c13L_T]
   ·intro _ g; rw [Int.toNat_natCast, hp.1] at g; cases g
   ·intro _ _ g1 g2
    rw [Int.toNat_natCast] at g1 g2
    rw [neq_t] at g2
    have := hp.2
    rw [g1] at this; simp at this; exact absurd this (by simpa using g2)
   ·intro _ _ _ _
    unfold c13L_c0; rw [succL hi hn]
    exact ⟨⟨n1.1, n1.2, n2.1, n2.2, rfl, hl2, n2.1, n2.2, trivial⟩, hr⟩
   ·intro _ _ _
    unfold c13L_c0; rw [succL hi hn]
    exact ⟨⟨n2.1, n2.2, rfl, hl2, n2.1, n2.2, trivial⟩, hr⟩
   ·intro g; rw [lss_f] at g; omega
  ·intro hr
   refine c13F_calls nx us f nx.length _ ?_ ?_ ?_ ?_ ?_ <;> dsimp only [At, Tr.q, c13F_T]
   ·intro g; rw [lss_t] at g; omega
   ·intro _ g; rw [gtr_t] at g; omega
   ·intro _ _ g; rw [neq_t] at g; omega
   ·intro _ _ _ g; rw [c4] at g; cases g
   ·intro _ _ _ _
    refine ⟨⟨loop_of_rounds (hr _ _ ?_), hn, trivial⟩, rfl⟩
    refine c13L_step 0 nx.length nx us f _ (chL nx f) _ _ ?_ ?_ ?_ ?_ ?_ <;> dsimp only [At, Tr.q, RG, c13L_T]
    ·intro g; rw [lss_t] at g; omega
    ·intro g; rw [lss_t] at g; omega
    ·intro g; rw [lss_t] at g; omega
    ·intro g; rw [lss_t] at g; omega
    ·intro _; exact ⟨trivial, rfl, rfl⟩
  ·intro j hj hp hr
   have n1 := natLt hj
   have n2 := natLt (n := us.length) (i := j) (by omega)
   refine c13R_calls nx us f 8 j _ ?_ ?_ ?_ ?_ ?_ <;> dsimp only [At, Tr.q, c13R_T]
   ·intro g; rw [lss_t] at g; omega
   ·intro _ g; rw [gtr_t] at g; omega
   ·intro _ _ g; rw [neq_t] at g; omega
   ·intro _ _ _ g; rw [c4] at g; cases g
   ·intro _ _ _ _
    refine ⟨⟨loop_of_rounds (hr _ _ ?_), hn, trivial⟩, by rw [if_neg (by omega)]⟩
    refine c13L_step 0 j nx us f _ (chL nx f) _ _ ?_ ?_ ?_ ?_ ?_ <;> dsimp only [At, Tr.q, RG, c13L_T]
    ·intro _ _; exact ⟨⟨rfl, hl2, n2.1, n2.2, trivial⟩, rfl, rfl⟩
    ·intro _ _ _ _; exact ⟨⟨n1.1, n1.2, n2.1, n2.2, rfl, hl2, n2.1, n2.2, trivial⟩, rfl, rfl⟩
    ·intro _ g1 g2 g3
     rw [Int.toNat_natCast] at g1 g2 g3
     rw [neq_f] at g3
     simp only [c13Bad, g1, g3, Bool.false_or, Bool.and_eq_true] at hp
     simp at hp
    ·intro _ g1 g2
     rw [Int.toNat_natCast] at g1 g2
     simp only [c13Bad, g1, Bool.false_or, Bool.and_eq_true] at hp
     rw [g2] at hp; cases hp.1
    ·intro g; rw [lss_f] at g; omega
 ·rw [if_neg c]
  refine c13F_calls nx us f 0 _ ?_ ?_ ?_ ?_ ?_ <;> dsimp only [At, Tr.q, c13F_T]
  ·intro _; exact ⟨trivial, rfl⟩
  ·intro _ _; exact ⟨trivial, rfl⟩
  ·intro _ _ _; exact ⟨trivial, rfl⟩
  ·intro _ _ _ _; exact ⟨⟨hn, trivial⟩, rfl⟩
  ·intro g1 g2 g3 g4
   rw [lss_f] at g1; rw [gtr_f] at g2; rw [neq_f] at g3
   exact absurd ⟨by omega, by omega, by omega, by simpa using g4⟩ c
def c15C : List D → Option (D × List Prop)
 | [.agg [.rc [.ints .i64 ps], .rc [.ints .i64 nx], .v (.int .i64 h), .v (.int .i64 t)]] => some (i64 (c15V ps nx h t), [nx.length ≤ 200])
 | _ => none
theorem c15C_ok (args res l) (h : c15C args = some (res, l)) (hl : AllP l) : CallsD Try.prog 68 args res := by
 unfold c15C at h; split at h
 ·simp only [Option.some.injEq, Prod.mk.injEq] at h
  obtain ⟨rfl, rfl⟩ := h; obtain ⟨h0, _⟩ := hl
  exact c15_ok _ _ _ _ h0
 ·cases h
def c13C : List D → Option (D × List Prop)
 | [.agg [.rc [.ints .i64 nx], .rc [.bools us], .v (.int .i64 f)]] => some (i64 (c13V nx us f), [nx.length ≤ 200])
 | _ => none
theorem c13C_ok (args res l) (h : c13C args = some (res, l)) (hl : AllP l) : CallsD Try.prog 66 args res := by
 unfold c13C at h; split at h
 ·simp only [Option.some.injEq, Prod.mk.injEq] at h
  obtain ⟨rfl, rfl⟩ := h; obtain ⟨h0, _⟩ := hl
  exact c13_ok _ _ _ h0
 ·cases h
end TableS
end

section
namespace TableS
open Go Go.Dam Go.Proofs
set_option maxRecDepth 1000000
noncomputable def c14I_T (kx : List Int) (px : List Int) (ux : List Bool) (o : Int) (i : Int) (k : Int) : Tr (Ex × Cs) := .d (cmpI .neq k i) (fun e0 => .s (decide (k < (kx.length : Int)) = true) (.s (decide (0 ≤ k) = true) (.d (!ux.getD k.toNat false) (fun e1 => .lf (Ex.ret, (c14T2 (kx) (px) (ux) (8) (i) (k)))) (fun e1 => .q (false) (.lf (Ex.normal, (c14T2 (kx) (px) (ux) (o) (i) (opI .rem .i64 (opI .add .i64 k 1) 16)))))))) (fun e0 => .lf (Ex.exit 2, (c14T2 (kx) (px) (ux) (o) (i) (k))))
theorem c14I_L (kx px : List Int) (ux : List Bool) (o i k : Int) : Leaves (roundT Try.prog (X7) 100000 (loopAt Try.prog 67 1) [[0, 2, 3, 4]] [] (c14T2 kx px ux o i k)) (c14I_T kx px ux o i k) [] [] := by refine ⟨fun _ => ⟨fun _ => ?_, fun _ => ?_⟩, fun _ => ?_⟩ <;> (show _ = _; kernel_rfl)
theorem c14I_step (kx : List Int) (px : List Int) (ux : List Bool) (o : Int) (i : Int) (k : Int) (σ : St) (e : Ex) (h0 : At (RG Try.prog (loopAt Try.prog 67 1) e σ) (c14I_T kx px ux o i k) [true, true] True) (h1 : At (RG Try.prog (loopAt Try.prog 67 1) e σ) (c14I_T kx px ux o i k) [true, false] True) (h2 : At (RG Try.prog (loopAt Try.prog 67 1) e σ) (c14I_T kx px ux o i k) [false] True) : Runs Try.prog (CallsD Try.prog) (.rounds (loopAt Try.prog 67 1)) (c14T2 kx px ux o i k).abs e σ := tree_rounds (hX7) (c14I_L kx px ux o i k) ⟨fun e0 => ⟨fun e1 => h0 e0 e1, fun e1 => h1 e0 e1⟩, fun e0 => h2 e0⟩
noncomputable def c14L_c0 (px : List Int) (ux : List Bool) (i : Int) := px.getD i.toNat 0 == 0 && (ux.getD i.toNat false == false && true)
noncomputable def c14L_T (kx : List Int) (px : List Int) (ux : List Bool) (o : Int) (i : Int) : Tr (Ex × Cs) := .d (cmpI .lss i 16) (fun e0 => .s (decide (i < (kx.length : Int)) = true) (.s (decide (0 ≤ i) = true) (.d (!ux.getD i.toNat false) (fun e1 => .s (decide (i < (kx.length : Int)) = true) (.s (decide (0 ≤ i) = true) (.d (!(kx.getD i.toNat 0 == 0 && (c14L_c0 px ux i))) (fun e2 => .lf (Ex.ret, (c14T (kx) (px) (ux) (8) (i)))) (fun e2 => .lf (Ex.normal, (c14T (kx) (px) (ux) (o) (opI .add .i64 i 1))))))) (fun e1 => .s (decide (i < (kx.length : Int)) = true) (.s (decide (0 ≤ i) = true) (.d (cmpI .lss (px.getD i.toNat 0) 0) (fun e2 => .p (.c 14) (.lf (Ex.ret, (c14T (kx) (px) (ux) (8) (i))))) (fun e2 => .p (.c 4) (.s (decide (i < (kx.length : Int)) = true) (.s (decide (0 ≤ i) = true) (.d (cmpI .geq (px.getD i.toNat 0) 16) (fun e3 => .p (.c 8) (.lf (Ex.ret, (c14T (kx) (px) (ux) (8) (i))))) (fun e3 => .p (.c 7) (.s (decide (i < (kx.length : Int)) = true) (.s (decide (0 ≤ i) = true) (.s (kx.length ≤ 200) (.d (cmpI .neq (atN kx ux (kx.getD i.toNat 0)) i) (fun e4 => .lf (Ex.ret, (c14T (kx) (px) (ux) (8) (i)))) (fun e4 => .p (.l [[0, 2, 3, 4]] [] (c14T2 kx px ux o i (homeN (kx.getD i.toNat 0))) (Ex.exit 2) (c14T2 kx px ux o i i)) (.s (decide (i < (kx.length : Int)) = true) (.s (decide (0 ≤ i) = true) (.s (inU (kx.getD i.toNat 0)) (.s (Runs Try.prog (CallsD Try.prog) (.code (.loop (loopAt Try.prog 67 1))) (c14T2 kx px ux o i (homeN (kx.getD i.toNat 0))).abs (Ex.exit 2) (c14T2 kx px ux o i i).abs) (.k ((c14T2 kx px ux o i (homeN (kx.getD i.toNat 0)) = c14T2 kx px ux o i (homeN (kx.getD i.toNat 0)))) rfl (.lf (Ex.normal, (c14T (kx) (px) (ux) (o) (opI .add .i64 i 1))))))))))))))))))))))))) (fun e0 => .lf (Ex.exit 0, (c14T (kx) (px) (ux) (o) (i))))
theorem c14L_L (kx px : List Int) (ux : List Bool) (o i : Int) : Leaves (roundT Try.prog (X7) 100000 (loopAt Try.prog 67 0) [[0, 2, 3]] [] (c14T kx px ux o i)) (c14L_T kx px ux o i) [] [] := by refine ⟨fun _ => ⟨fun _ => ⟨fun _ => ?_, fun _ => ?_⟩, fun _ => ⟨fun _ => ?_, fun _ => ⟨fun _ => ?_, fun _ => ⟨fun _ => ?_, fun _ => ?_⟩⟩⟩⟩, fun _ => ?_⟩ <;> (show _ = _; kernel_rfl)
theorem c14L_step (kx : List Int) (px : List Int) (ux : List Bool) (o : Int) (i : Int) (σ : St) (e : Ex) (h0 : At (RG Try.prog (loopAt Try.prog 67 0) e σ) (c14L_T kx px ux o i) [true, true, true] True) (h1 : At (RG Try.prog (loopAt Try.prog 67 0) e σ) (c14L_T kx px ux o i) [true, true, false] True) (h2 : At (RG Try.prog (loopAt Try.prog 67 0) e σ) (c14L_T kx px ux o i) [true, false, true] True) (h3 : At (RG Try.prog (loopAt Try.prog 67 0) e σ) (c14L_T kx px ux o i) [true, false, false, true] True) (h4 : At (RG Try.prog (loopAt Try.prog 67 0) e σ) (c14L_T kx px ux o i) [true, false, false, false, true] True) (h5 : At (RG Try.prog (loopAt Try.prog 67 0) e σ) (c14L_T kx px ux o i) [true, false, false, false, false] True) (h6 : At (RG Try.prog (loopAt Try.prog 67 0) e σ) (c14L_T kx px ux o i) [false] True) : Runs Try.prog (CallsD Try.prog) (.rounds (loopAt Try.prog 67 0)) (c14T kx px ux o i).abs e σ := tree_rounds (hX7) (c14L_L kx px ux o i) ⟨fun e0 => ⟨fun e1 => ⟨fun e2 => h0 e0 e1 e2, fun e2 => h1 e0 e1 e2⟩, fun e1 => ⟨fun e2 => h2 e0 e1 e2, fun e2 => ⟨fun e3 => h3 e0 e1 e2 e3, fun e3 => ⟨fun e4 => h4 e0 e1 e2 e3 e4, fun e4 => h5 e0 e1 e2 e3 e4⟩⟩⟩⟩, fun e0 => h6 e0⟩
noncomputable def c14M_c0 (px : List Int) (ux : List Bool) (i : Int) := px.getD i.toNat 0 == 0 && (ux.getD i.toNat false == false && true)
noncomputable def c14M_T (kx : List Int) (px : List Int) (ux : List Bool) (o : Int) (i : Int) (k : Int) : Tr (Ex × Cs) := .d (cmpI .lss i 16) (fun e0 => .s (decide (i < (kx.length : Int)) = true) (.s (decide (0 ≤ i) = true) (.d (!ux.getD i.toNat false) (fun e1 => .s (decide (i < (kx.length : Int)) = true) (.s (decide (0 ≤ i) = true) (.d (!(kx.getD i.toNat 0 == 0 && (c14M_c0 px ux i))) (fun e2 => .lf (Ex.ret, (c14T (kx) (px) (ux) (8) (i)))) (fun e2 => .lf (Ex.normal, (c14T (kx) (px) (ux) (o) (opI .add .i64 i 1))))))) (fun e1 => .s (decide (i < (kx.length : Int)) = true) (.s (decide (0 ≤ i) = true) (.d (cmpI .lss (px.getD i.toNat 0) 0) (fun e2 => .p (.c 14) (.lf (Ex.ret, (c14T (kx) (px) (ux) (8) (i))))) (fun e2 => .p (.c 4) (.s (decide (i < (kx.length : Int)) = true) (.s (decide (0 ≤ i) = true) (.d (cmpI .geq (px.getD i.toNat 0) 16) (fun e3 => .p (.c 8) (.lf (Ex.ret, (c14T (kx) (px) (ux) (8) (i))))) (fun e3 => .p (.c 7) (.s (decide (i < (kx.length : Int)) = true) (.s (decide (0 ≤ i) = true) (.s (kx.length ≤ 200) (.d (cmpI .neq (atN kx ux (kx.getD i.toNat 0)) i) (fun e4 => .lf (Ex.ret, (c14T (kx) (px) (ux) (8) (i)))) (fun e4 => .p (.l [[0, 2, 3, 4]] [] (c14T2 kx px ux o i (homeN (kx.getD i.toNat 0))) Ex.ret (c14T2 kx px ux 8 i k)) (.s (decide (i < (kx.length : Int)) = true) (.s (decide (0 ≤ i) = true) (.s (inU (kx.getD i.toNat 0)) (.s (Runs Try.prog (CallsD Try.prog) (.code (.loop (loopAt Try.prog 67 1))) (c14T2 kx px ux o i (homeN (kx.getD i.toNat 0))).abs (Ex.ret) (c14T2 kx px ux 8 i k).abs) (.k ((c14T2 kx px ux o i (homeN (kx.getD i.toNat 0)) = c14T2 kx px ux o i (homeN (kx.getD i.toNat 0)))) rfl (.lf (Ex.ret, (c14T (kx) (px) (ux) (8) (i))))))))))))))))))))))))) (fun e0 => .lf (Ex.exit 0, (c14T (kx) (px) (ux) (o) (i))))
theorem c14M_L (kx px : List Int) (ux : List Bool) (o i k : Int) : Leaves (roundT Try.prog (X7) 100000 (loopAt Try.prog 67 0) [[0, 2, 3]] [] (c14T kx px ux o i)) (c14M_T kx px ux o i k) [] [] := by refine ⟨fun _ => ⟨fun _ => ⟨fun _ => ?_, fun _ => ?_⟩, fun _ => ⟨fun _ => ?_, fun _ => ⟨fun _ => ?_, fun _ => ⟨fun _ => ?_, fun _ => ?_⟩⟩⟩⟩, fun _ => ?_⟩ <;> (show _ = _; kernel_rfl)
theorem c14M_step (kx : List Int) (px : List Int) (ux : List Bool) (o : Int) (i : Int) (k : Int) (σ : St) (e : Ex) (h0 : At (RG Try.prog (loopAt Try.prog 67 0) e σ) (c14M_T kx px ux o i k) [true, true, true] True) (h1 : At (RG Try.prog (loopAt Try.prog 67 0) e σ) (c14M_T kx px ux o i k) [true, true, false] True) (h2 : At (RG Try.prog (loopAt Try.prog 67 0) e σ) (c14M_T kx px ux o i k) [true, false, true] True) (h3 : At (RG Try.prog (loopAt Try.prog 67 0) e σ) (c14M_T kx px ux o i k) [true, false, false, true] True) (h4 : At (RG Try.prog (loopAt Try.prog 67 0) e σ) (c14M_T kx px ux o i k) [true, false, false, false, true] True) (h5 : At (RG Try.prog (loopAt Try.prog 67 0) e σ) (c14M_T kx px ux o i k) [true, false, false, false, false] True) (h6 : At (RG Try.prog (loopAt Try.prog 67 0) e σ) (c14M_T kx px ux o i k) [false] True) : Runs Try.prog (CallsD Try.prog) (.rounds (loopAt Try.prog 67 0)) (c14T kx px ux o i).abs e σ := tree_rounds (hX7) (c14M_L kx px ux o i k) ⟨fun e0 => ⟨fun e1 => ⟨fun e2 => h0 e0 e1 e2, fun e2 => h1 e0 e1 e2⟩, fun e1 => ⟨fun e2 => h2 e0 e1 e2, fun e2 => ⟨fun e3 => h3 e0 e1 e2 e3, fun e3 => ⟨fun e4 => h4 e0 e1 e2 e3 e4, fun e4 => h5 e0 e1 e2 e3 e4⟩⟩⟩⟩, fun e0 => h6 e0⟩
noncomputable def c14F_T (kx : List Int) (px : List Int) (ux : List Bool) (k : Int) : Tr D := .d (cmpI .neq (kx.length : Int) 16) (fun e0 => .p (.c 2) (.lf (i64 8))) (fun e0 => .p (.c 1) (.s (kx.length ≤ 200) (.d (cmpI .gtr (↑(ctN kx.length ux)) 12) (fun e1 => .lf (i64 8)) (fun e1 => .p (.l [[0, 2, 3]] [] (c14T kx px ux 0 0) (Ex.exit 0) (c14T kx px ux 0 k)) (.s (Runs Try.prog (CallsD Try.prog) (.code (.loop (loopAt Try.prog 67 0))) (c14T kx px ux 0 0).abs (Ex.exit 0) (c14T kx px ux 0 k).abs) (.k ((c14T kx px ux 0 0 = c14T kx px ux 0 0)) rfl (.lf (i64 0))))))))
theorem c14F_L (kx px : List Int) (ux : List Bool) (k : Int) : Leaves (fun l => fnX Try.prog (X7) 100000 l 67 [cc kx px ux]) (c14F_T kx px ux k) [] [] := by refine ⟨fun _ => ?_, fun _ => ⟨fun _ => ?_, fun _ => ?_⟩⟩ <;> (show _ = _; kernel_rfl)
theorem c14F_calls (kx px : List Int) (ux : List Bool) (k : Int) (res : D) (h0 : At (fun r => res = r) (c14F_T kx px ux k) [true] True) (h1 : At (fun r => res = r) (c14F_T kx px ux k) [false, true] True) (h2 : At (fun r => res = r) (c14F_T kx px ux k) [false, false] True) : CallsD Try.prog 67 [cc kx px ux] res := tree_calls (hX7) (c14F_L kx px ux k) ⟨fun e0 => h0 e0, fun e0 => ⟨fun e1 => h1 e0 e1, fun e1 => h2 e0 e1⟩⟩
noncomputable def c14R_T (kx : List Int) (px : List Int) (ux : List Bool) (o : Int) (k : Int) : Tr D := .d (cmpI .neq (kx.length : Int) 16) (fun e0 => .p (.c 2) (.lf (i64 8))) (fun e0 => .p (.c 1) (.s (kx.length ≤ 200) (.d (cmpI .gtr (↑(ctN kx.length ux)) 12) (fun e1 => .lf (i64 8)) (fun e1 => .p (.l [[0, 2, 3]] [] (c14T kx px ux 0 0) Ex.ret (c14T kx px ux o k)) (.s (Runs Try.prog (CallsD Try.prog) (.code (.loop (loopAt Try.prog 67 0))) (c14T kx px ux 0 0).abs (Ex.ret) (c14T kx px ux o k).abs) (.k ((c14T kx px ux 0 0 = c14T kx px ux 0 0)) rfl (.lf (i64 o))))))))
theorem c14R_L (kx px : List Int) (ux : List Bool) (o k : Int) : Leaves (fun l => fnX Try.prog (X7) 100000 l 67 [cc kx px ux]) (c14R_T kx px ux o k) [] [] := by refine ⟨fun _ => ?_, fun _ => ⟨fun _ => ?_, fun _ => ?_⟩⟩ <;> (show _ = _; kernel_rfl)
theorem c14R_calls (kx px : List Int) (ux : List Bool) (o k : Int) (res : D) (h0 : At (fun r => res = r) (c14R_T kx px ux o k) [true] True) (h1 : At (fun r => res = r) (c14R_T kx px ux o k) [false, true] True) (h2 : At (fun r => res = r) (c14R_T kx px ux o k) [false, false] True) : CallsD Try.prog 67 [cc kx px ux] res := tree_calls (hX7) (c14R_L kx px ux o k) ⟨fun e0 => h0 e0, fun e0 => ⟨fun e1 => h1 e0 e1, fun e1 => h2 e0 e1⟩⟩
/-- From here on up to i: is there a free one? -/
def gapW (ux : List Bool) (i : Nat) : Nat → Nat → Bool
 | 0, _ => false
 | d + 1, k => if k = i then false else if ux.getD k false = false then true else gapW ux i d ((k + 1) % 16)
theorem next16 (k : Nat) (h : k < 16) : opI .rem .i64 (opI .add .i64 (k : Int) 1) 16 = (((k + 1) % 16 : Nat) : Int) := by
 rw [opI_add, wrap_i64_of (by omega) (by omega), opI_rem _ (by omega)]; omega
theorem c14I_run (kx px : List Int) (ux : List Bool) (o : Int) (i : Nat) (hx : kx.length = 16) : ∀ (D d k : Nat), k < 16 → d < D → (k + d) % 16 = i →
  if gapW ux i D k = true then ∃ k' : Int, Runs Try.prog (CallsD Try.prog) (.rounds (loopAt Try.prog 67 1)) (c14T2 kx px ux o i k).abs .ret (c14T2 kx px ux 8 i k').abs
  else Runs Try.prog (CallsD Try.prog) (.rounds (loopAt Try.prog 67 1)) (c14T2 kx px ux o i k).abs (.exit 2) (c14T2 kx px ux o i i).abs
 | 0, d, k, _, h, _ => by omega
 | D + 1, d, k, hk, hd, he => by
  have b := natLt (n := kx.length) (i := k) (by omega)
  by_cases c : k = i
  ·have e : gapW ux i (D + 1) k = false := by simp only [gapW, if_pos c]
   rw [e, if_neg (by simp)]
   subst c
   refine c14I_step kx px ux o k k _ _ ?_ ?_ ?_ <;> dsimp only [At, Tr.q, RG, c14I_T]
   ·intro g; rw [neq_t] at g; omega
   ·intro g; rw [neq_t] at g; omega
   ·intro _; exact ⟨trivial, rfl, rfl⟩
  ·cases hu : ux.getD k false with
   | false =>
    have e : gapW ux i (D + 1) k = true := by simp only [gapW, if_neg c, hu, if_true]
    rw [e, if_pos rfl]
    refine ⟨k, c14I_step kx px ux o i k _ _ ?_ ?_ ?_⟩
    ·intro _ _; exact ⟨⟨b.1, b.2, trivial⟩, rfl, rfl⟩
    ·intro _ g; rw [Int.toNat_natCast, hu] at g; cases g
    ·intro g; rw [neq_f] at g; omega
   | true =>
    have e : gapW ux i (D + 1) k = gapW ux i D ((k + 1) % 16) := by simp only [gapW, if_neg c, hu]; rw [if_neg (by simp)]
    have hd0 : d ≠ 0 := fun z => by subst z; rw [Nat.add_zero, Nat.mod_eq_of_lt hk] at he; exact c he
    have ih := c14I_run kx px ux o i hx D (d - 1) ((k + 1) % 16) (by omega) (by omega) (by rw [← he]; omega)
    have st : ∀ (σ : St) (ex : Ex), Runs Try.prog (CallsD Try.prog) (.rounds (loopAt Try.prog 67 1)) (c14T2 kx px ux o i ((k + 1) % 16 : Nat)).abs ex σ → Runs Try.prog (CallsD Try.prog) (.rounds (loopAt Try.prog 67 1)) (c14T2 kx px ux o i k).abs ex σ := fun σ ex r => by
     refine c14I_step kx px ux o i k _ _ ?_ ?_ ?_ <;> dsimp only [At, Tr.q, RG, c14I_T]
     ·intro _ g; rw [Int.toNat_natCast, hu] at g; cases g
     ·intro _ _; rw [next16 k hk]; exact ⟨⟨b.1, b.2, trivial⟩, r⟩
     ·intro g; rw [neq_f] at g; omega
    rw [e]
    split
    next g => rw [if_pos g] at ih; obtain ⟨k', r⟩ := ih; exact ⟨k', st _ _ r⟩
    next g => rw [if_neg g] at ih; exact st _ _ ih
def c14Bad (kx px : List Int) (ux : List Bool) (i : Nat) : Bool :=
 if ux.getD i false = true then decide (px.getD i 0 < 0 ∨ 16 ≤ px.getD i 0 ∨ atN kx ux (kx.getD i 0) ≠ i) || gapW ux i 16 (homeN (kx.getD i 0)).toNat
 else decide (kx.getD i 0 ≠ 0 ∨ px.getD i 0 ≠ 0)
def okI (kx : List Int) : Prop := kx.length ≤ 200 ∧ ∀ i, i < kx.length → inU (kx.getD i 0)
def c14V (kx px : List Int) (ux : List Bool) : Int := if kx.length = 16 ∧ ctN 16 ux ≤ 12 then (if findI (c14Bad kx px ux) 16 0 < 0 then 0 else 8) else 8
theorem zc (a b : Int) (u : Bool) (hu : u = false) : (!(a == 0 && (b == 0 && (u == false && true)))) = decide (a ≠ 0 ∨ b ≠ 0) := by
 subst hu
 by_cases h1 : a = 0 <;> by_cases h2 : b = 0 <;> simp [h1, h2]
theorem c14_ok (kx px : List Int) (ux : List Bool) (h : okI kx) : CallsD Try.prog 67 [cc kx px ux] (i64 (c14V kx px ux)) := by
 unfold c14V
 have hl := h.1
 by_cases c : kx.length = 16 ∧ ctN 16 ux ≤ 12
 ·rw [if_pos c]
  obtain ⟨c1, c2⟩ := c
  refine look_for (b := loopAt Try.prog 67 0) (fun i => c14T kx px ux 0 (i : Int)) 16 (c14Bad kx px ux) (fun v => CallsD Try.prog 67 [cc kx px ux] (i64 (if v < 0 then 0 else 8))) ?_ ?_ ?_
  ·intro i hi hp σ e hr
   have n1 := natLt (n := kx.length) (i := i) (by omega)
   have hu := h.2 i (by omega)
   have hh := homeN_lt hu
   have hI := c14I_run kx px ux 0 i c1 16 ((i + 16 - (homeN (kx.getD i 0)).toNat) % 16) (homeN (kx.getD i 0)).toNat (by omega) (by omega) (by omega)
   refine c14L_step kx px ux 0 i σ e ?_ ?_ ?_ ?_ ?_ ?_ ?_ <;> dsimp only [At, Tr.q, RG, c14L_T]
   ·intro _ g1 g2
    unfold c14L_c0 at g2
    rw [Int.toNat_natCast] at g1 g2
    have g1' : ux.getD i false = false := by simpa using g1
    rw [zc _ _ _ g1'] at g2
    simp only [c14Bad, g1'] at hp; rw [if_neg (by simp)] at hp
    rw [hp] at g2; cases g2
   ·intro _ _ _; rw [succL hi (by omega)]; exact ⟨⟨n1.1, n1.2, n1.1, n1.2, trivial⟩, hr⟩
   all_goals (try (intro _ g1))
   all_goals (try (rw [Int.toNat_natCast] at g1; have g1' : ux.getD i false = true := by simpa using g1))
   all_goals (try (simp only [c14Bad, g1', if_true, Bool.or_eq_false_iff, decide_eq_false_iff_not, not_or, ne_eq, Decidable.not_not] at hp))
   ·intro g2; rw [Int.toNat_natCast, lss_t] at g2; omega
   ·intro _ g2; rw [Int.toNat_natCast, geq_t] at g2; omega
   ·intro _ _ g2; rw [Int.toNat_natCast, neq_t] at g2; omega
   ·intro _ _ _
    rw [hp.2, if_neg (by simp)] at hI
    have hI' := loop_of_rounds hI
    rw [Int.toNat_of_nonneg hh.1] at hI'
    rw [succL hi (by omega)]
    refine ⟨⟨?_, ?_, n1.1, n1.2, hl, n1.1, n1.2, n1.1, n1.2, n1.1, n1.2, n1.1, n1.2, trivial⟩, hr⟩
    ·rw [Int.toNat_natCast]; exact hI'
    ·rw [Int.toNat_natCast]; exact hu
   ·intro g; rw [lss_f] at g; omega
  ·intro hr
   refine c14F_calls kx px ux 16 _ ?_ ?_ ?_ <;> dsimp only [At, Tr.q, c14F_T]
   ·intro g; rw [neq_t] at g; omega
   ·intro _ g; rw [gtr_t, c1] at g; omega
   ·intro _ _
    refine ⟨⟨loop_of_rounds (hr _ _ ?_), hl, trivial⟩, rfl⟩
    have c0 : ¬ cmpI .lss ((16 : Nat) : Int) 16 = true := by rw [lss_t]; omega
    refine c14L_step kx px ux 0 (16 : Nat) _ _ ?_ ?_ ?_ ?_ ?_ ?_ ?_ <;> dsimp only [At, Tr.q, RG, c14L_T]
    ·intro g; exact absurd g c0
    ·intro g; exact absurd g c0
    ·intro g; exact absurd g c0
    ·intro g; exact absurd g c0
    ·intro g; exact absurd g c0
    ·intro g; exact absurd g c0
    ·intro _; exact ⟨trivial, rfl, rfl⟩
  ·intro j hj hp hr
   have n1 := natLt (n := kx.length) (i := j) (by omega)
   have hu := h.2 j (by omega)
   have hh := homeN_lt hu
   have hI := c14I_run kx px ux 0 j c1 16 ((j + 16 - (homeN (kx.getD j 0)).toNat) % 16) (homeN (kx.getD j 0)).toNat (by omega) (by omega) (by omega)
   refine c14R_calls kx px ux 8 j _ ?_ ?_ ?_ <;> dsimp only [At, Tr.q, c14R_T]
   ·intro g; rw [neq_t] at g; omega
   ·intro _ g; rw [gtr_t, c1] at g; omega
   ·intro _ _
    refine ⟨⟨loop_of_rounds (hr _ _ ?_), hl, trivial⟩, by rw [if_neg (by omega)]⟩
    cases g1' : ux.getD j false with
    | false =>
     simp only [c14Bad, g1'] at hp; rw [if_neg (by simp)] at hp
     refine c14L_step kx px ux 0 j _ _ ?_ ?_ ?_ ?_ ?_ ?_ ?_ <;> dsimp only [At, Tr.q, RG, c14L_T]
     ·intro _ _ _; exact ⟨⟨n1.1, n1.2, n1.1, n1.2, trivial⟩, rfl, rfl⟩
     ·intro _ _ g2; unfold c14L_c0 at g2; rw [Int.toNat_natCast, zc _ _ _ g1', hp] at g2; cases g2
     ·intro _ g; rw [Int.toNat_natCast, g1'] at g; cases g
     ·intro _ g; rw [Int.toNat_natCast, g1'] at g; cases g
     ·intro _ g; rw [Int.toNat_natCast, g1'] at g; cases g
     ·intro _ g; rw [Int.toNat_natCast, g1'] at g; cases g
     ·intro g; rw [lss_f] at g; omega
    | true =>
     simp only [c14Bad, g1', if_true] at hp
     cases hw : gapW ux j 16 (homeN (kx.getD j 0)).toNat with
     | true =>
      rw [hw, if_pos rfl] at hI
      obtain ⟨k', hI⟩ := hI
      have hI' := loop_of_rounds hI
      rw [Int.toNat_of_nonneg hh.1] at hI'
      refine c14M_step kx px ux 0 j k' _ _ ?_ ?_ ?_ ?_ ?_ ?_ ?_ <;> dsimp only [At, Tr.q, RG, c14M_T]
      ·intro _ g; rw [Int.toNat_natCast, g1'] at g; cases g
      ·intro _ g; rw [Int.toNat_natCast, g1'] at g; cases g
      ·intro _ _ _; exact ⟨⟨n1.1, n1.2, n1.1, n1.2, trivial⟩, rfl, rfl⟩
      ·intro _ _ _ _; exact ⟨⟨n1.1, n1.2, n1.1, n1.2, n1.1, n1.2, trivial⟩, rfl, rfl⟩
      ·intro _ _ _ _ _; exact ⟨⟨hl, n1.1, n1.2, n1.1, n1.2, n1.1, n1.2, n1.1, n1.2, trivial⟩, rfl, rfl⟩
      ·intro _ _ _ _ _
       refine ⟨⟨?_, ?_, n1.1, n1.2, hl, n1.1, n1.2, n1.1, n1.2, n1.1, n1.2, n1.1, n1.2, trivial⟩, rfl, rfl⟩
       ·rw [Int.toNat_natCast]; exact hI'
       ·rw [Int.toNat_natCast]; exact hu
      ·intro g; rw [lss_f] at g; omega
     | false =>
      rw [hw, Bool.or_false, decide_eq_true_eq] at hp
      refine c14L_step kx px ux 0 j _ _ ?_ ?_ ?_ ?_ ?_ ?_ ?_ <;> dsimp only [At, Tr.q, RG, c14L_T]
      ·intro _ g; rw [Int.toNat_natCast, g1'] at g; cases g
      ·intro _ g; rw [Int.toNat_natCast, g1'] at g; cases g
      ·intro _ _ _; exact ⟨⟨n1.1, n1.2, n1.1, n1.2, trivial⟩, rfl, rfl⟩
      ·intro _ _ _ _; exact ⟨⟨n1.1, n1.2, n1.1, n1.2, n1.1, n1.2, trivial⟩, rfl, rfl⟩
      ·intro _ _ _ _ _; exact ⟨⟨hl, n1.1, n1.2, n1.1, n1.2, n1.1, n1.2, n1.1, n1.2, trivial⟩, rfl, rfl⟩
      ·intro _ _ g2 g3 g4
       rw [Int.toNat_natCast] at g2 g3 g4
       rw [lss_f] at g2; rw [geq_f] at g3; rw [neq_f] at g4
       omega
      ·intro g; rw [lss_f] at g; omega
 ·rw [if_neg c]
  refine c14F_calls kx px ux 0 _ ?_ ?_ ?_ <;> dsimp only [At, Tr.q, c14F_T]
  ·intro _; exact ⟨trivial, rfl⟩
  ·intro _ _; exact ⟨⟨hl, trivial⟩, rfl⟩
  ·intro g1 g2
   rw [neq_f] at g1; rw [gtr_f] at g2
   have : kx.length = 16 := by omega
   rw [this] at g2
   exact absurd ⟨this, by omega⟩ c
def c14C : List D → Option (D × List Prop)
 | [.rc [.ints .u32 kx, .ints .i64 px, .bools ux]] => some (i64 (c14V kx px ux), [okI kx])
 | _ => none
theorem c14C_ok (args res l) (h : c14C args = some (res, l)) (hl : AllP l) : CallsD Try.prog 67 args res := by
 unfold c14C at h; split at h
 ·simp only [Option.some.injEq, Prod.mk.injEq] at h
  obtain ⟨rfl, rfl⟩ := h; obtain ⟨h0, _⟩ := hl
  exact c14_ok _ _ _ h0
 ·cases h
end TableS
end

section
namespace TableS
open Go Go.Dam Go.Proofs
set_option maxRecDepth 1000000
noncomputable def pcL_T (kx : List Int) (px : List Int) (ux : List Bool) (o : Int) (n : Int) (m : Int) (j : Int) : Tr (Ex × Cs) := .d (cmpI .lss j m) (fun e0 => .s (decide (j < (kx.length : Int)) = true) (.s (decide (0 ≤ j) = true) (.d (ux.getD j.toNat false) (fun e1 => .lf (Ex.normal, (pcT (kx) (px) (ux) (o) (opI .add .i64 n 1) (m) (opI .add .i64 j 1)))) (fun e1 => .lf (Ex.normal, (pcT (kx) (px) (ux) (o) (n) (m) (opI .add .i64 j 1))))))) (fun e0 => .lf (Ex.exit 0, (pcT (kx) (px) (ux) (o) (n) (m) (j))))
theorem pcL_L (kx px : List Int) (ux : List Bool) (o n m j : Int) : Leaves (roundT Try.prog (X7) 100000 (loopAt Try.prog 62 0) [[0, 2, 3, 13, 14, 15]] [] (pcT kx px ux o n m j)) (pcL_T kx px ux o n m j) [] [] := by refine ⟨fun _ => ⟨fun _ => ?_, fun _ => ?_⟩, fun _ => ?_⟩ <;> (show _ = _; kernel_rfl)
theorem pcL_step (kx : List Int) (px : List Int) (ux : List Bool) (o : Int) (n : Int) (m : Int) (j : Int) (σ : St) (e : Ex) (h0 : At (RG Try.prog (loopAt Try.prog 62 0) e σ) (pcL_T kx px ux o n m j) [true, true] True) (h1 : At (RG Try.prog (loopAt Try.prog 62 0) e σ) (pcL_T kx px ux o n m j) [true, false] True) (h2 : At (RG Try.prog (loopAt Try.prog 62 0) e σ) (pcL_T kx px ux o n m j) [false] True) : Runs Try.prog (CallsD Try.prog) (.rounds (loopAt Try.prog 62 0)) (pcT kx px ux o n m j).abs e σ := tree_rounds (hX7) (pcL_L kx px ux o n m j) ⟨fun e0 => ⟨fun e1 => h0 e0 e1, fun e1 => h1 e0 e1⟩, fun e0 => h2 e0⟩
noncomputable def pcM_c0 (px : List Int) (ux : List Bool) (i : Int) := px.getD i.toNat 0 == 0 && (ux.getD i.toNat false == false && true)
noncomputable def pcM_T (kx : List Int) (px : List Int) (ux : List Bool) (o : Int) (i : Int) : Tr (Ex × Cs) := .d (cmpI .lss i 16) (fun e0 => .s (decide (i < (kx.length : Int)) = true) (.s (decide (0 ≤ i) = true) (.d (!ux.getD i.toNat false) (fun e1 => .p (.c 1) (.d (!(kx.getD i.toNat 0 == 0 && (pcM_c0 px ux i))) (fun e2 => .p (.c 3) (.lf (Ex.ret, (pcT2 (kx) (px) (ux) (8) (i))))) (fun e2 => .p (.c 1) (.d (ux.getD i.toNat false) (fun e3 => .p (.c 2) (.d (cmpI .lss (px.getD i.toNat 0) 0) (fun e4 => .p (.c 4) (.lf (Ex.ret, (pcT2 (kx) (px) (ux) (8) (i))))) (fun e4 => .p (.c 3) (.d (cmpI .geq (px.getD i.toNat 0) 16) (fun e5 => .lf (Ex.ret, (pcT2 (kx) (px) (ux) (8) (i)))) (fun e5 => .p (.d true) (.p (.c 1) (.s (lkS kx ux (kx.getD i.toNat 0)) (.k _ e3 (.d (cmpI .neq (↑(lkI kx ux (kx.getD i.toNat 0))) i) (fun e6 => .lf (Ex.ret, (pcT2 (kx) (px) (ux) (8) (i)))) (fun e6 => .lf (Ex.normal, (pcT2 (kx) (px) (ux) (o) (opI .add .i64 i 1))))))))))))) (fun e3 => .p (.c 5) (.p (.d false) (.p (.c 2) (.s (lkS kx ux (kx.getD i.toNat 0)) (.k _ e3 (.lf (Ex.normal, (pcT2 (kx) (px) (ux) (o) (opI .add .i64 i 1))))))))))))) (fun e1 => .p (.c 4) (.d (ux.getD i.toNat false) (fun e2 => .p (.c 2) (.d (cmpI .lss (px.getD i.toNat 0) 0) (fun e3 => .p (.c 4) (.lf (Ex.ret, (pcT2 (kx) (px) (ux) (8) (i))))) (fun e3 => .p (.c 3) (.d (cmpI .geq (px.getD i.toNat 0) 16) (fun e4 => .lf (Ex.ret, (pcT2 (kx) (px) (ux) (8) (i)))) (fun e4 => .p (.d true) (.p (.c 1) (.s (lkS kx ux (kx.getD i.toNat 0)) (.k _ e2 (.d (cmpI .neq (↑(lkI kx ux (kx.getD i.toNat 0))) i) (fun e5 => .lf (Ex.ret, (pcT2 (kx) (px) (ux) (8) (i)))) (fun e5 => .lf (Ex.normal, (pcT2 (kx) (px) (ux) (o) (opI .add .i64 i 1))))))))))))) (fun e2 => .p (.c 5) (.p (.d false) (.p (.c 2) (.s (lkS kx ux (kx.getD i.toNat 0)) (.k _ e2 (.lf (Ex.normal, (pcT2 (kx) (px) (ux) (o) (opI .add .i64 i 1)))))))))))))) (fun e0 => .lf (Ex.exit 2, (pcT2 (kx) (px) (ux) (o) (i))))
theorem pcM_L (kx px : List Int) (ux : List Bool) (o i : Int) : Leaves (roundT Try.prog (X7) 100000 (loopAt Try.prog 62 1) [[0, 2, 26]] [] (pcT2 kx px ux o i)) (pcM_T kx px ux o i) [] [] := by refine ⟨fun _ => ⟨fun _ => ⟨fun _ => ?_, fun _ => ⟨fun _ => ⟨fun _ => ?_, fun _ => ⟨fun _ => ?_, fun _ => ⟨fun _ => ?_, fun _ => ?_⟩⟩⟩, fun _ => ?_⟩⟩, fun _ => ⟨fun _ => ⟨fun _ => ?_, fun _ => ⟨fun _ => ?_, fun _ => ⟨fun _ => ?_, fun _ => ?_⟩⟩⟩, fun _ => ?_⟩⟩, fun _ => ?_⟩ <;> (show _ = _; kernel_rfl)
theorem pcM_step (kx : List Int) (px : List Int) (ux : List Bool) (o : Int) (i : Int) (σ : St) (e : Ex) (h0 : At (RG Try.prog (loopAt Try.prog 62 1) e σ) (pcM_T kx px ux o i) [true, true, true] True) (h1 : At (RG Try.prog (loopAt Try.prog 62 1) e σ) (pcM_T kx px ux o i) [true, true, false, true, true] True) (h2 : At (RG Try.prog (loopAt Try.prog 62 1) e σ) (pcM_T kx px ux o i) [true, true, false, true, false, true] True) (h3 : At (RG Try.prog (loopAt Try.prog 62 1) e σ) (pcM_T kx px ux o i) [true, true, false, true, false, false, true] True) (h4 : At (RG Try.prog (loopAt Try.prog 62 1) e σ) (pcM_T kx px ux o i) [true, true, false, true, false, false, false] True) (h5 : At (RG Try.prog (loopAt Try.prog 62 1) e σ) (pcM_T kx px ux o i) [true, true, false, false] True) (h6 : At (RG Try.prog (loopAt Try.prog 62 1) e σ) (pcM_T kx px ux o i) [true, false, true, true] True) (h7 : At (RG Try.prog (loopAt Try.prog 62 1) e σ) (pcM_T kx px ux o i) [true, false, true, false, true] True) (h8 : At (RG Try.prog (loopAt Try.prog 62 1) e σ) (pcM_T kx px ux o i) [true, false, true, false, false, true] True) (h9 : At (RG Try.prog (loopAt Try.prog 62 1) e σ) (pcM_T kx px ux o i) [true, false, true, false, false, false] True) (h10 : At (RG Try.prog (loopAt Try.prog 62 1) e σ) (pcM_T kx px ux o i) [true, false, false] True) (h11 : At (RG Try.prog (loopAt Try.prog 62 1) e σ) (pcM_T kx px ux o i) [false] True) : Runs Try.prog (CallsD Try.prog) (.rounds (loopAt Try.prog 62 1)) (pcT2 kx px ux o i).abs e σ := tree_rounds (hX7) (pcM_L kx px ux o i) ⟨fun e0 => ⟨fun e1 => ⟨fun e2 => h0 e0 e1 e2, fun e2 => ⟨fun e3 => ⟨fun e4 => h1 e0 e1 e2 e3 e4, fun e4 => ⟨fun e5 => h2 e0 e1 e2 e3 e4 e5, fun e5 => ⟨fun e6 => h3 e0 e1 e2 e3 e4 e5 e6, fun e6 => h4 e0 e1 e2 e3 e4 e5 e6⟩⟩⟩, fun e3 => h5 e0 e1 e2 e3⟩⟩, fun e1 => ⟨fun e2 => ⟨fun e3 => h6 e0 e1 e2 e3, fun e3 => ⟨fun e4 => h7 e0 e1 e2 e3 e4, fun e4 => ⟨fun e5 => h8 e0 e1 e2 e3 e4 e5, fun e5 => h9 e0 e1 e2 e3 e4 e5⟩⟩⟩, fun e2 => h10 e0 e1 e2⟩⟩, fun e0 => h11 e0⟩
noncomputable def pcF_T (kx : List Int) (px : List Int) (ux : List Bool) (n : Int) (k : Int) : Tr D := .d (cmpI .neq (kx.length : Int) 16) (fun e0 => .lf (i64 8)) (fun e0 => .p (.l [[0, 2, 3, 13, 14, 15]] [] (pcT kx px ux 0 0 (kx.length : Int) 0) (Ex.exit 0) (pcT kx px ux 0 n (kx.length : Int) (kx.length : Int))) (.s (Runs Try.prog (CallsD Try.prog) (.code (.loop (loopAt Try.prog 62 0))) (pcT kx px ux 0 0 (kx.length : Int) 0).abs (Ex.exit 0) (pcT kx px ux 0 n (kx.length : Int) (kx.length : Int)).abs) (.k ((pcT kx px ux 0 0 (kx.length : Int) 0 = pcT kx px ux 0 0 (kx.length : Int) 0)) rfl (.d (cmpI .gtr n 12) (fun e1 => .lf (i64 8)) (fun e1 => .p (.l [[0, 2, 26]] [] (pcT2 kx px ux 0 0) (Ex.exit 2) (pcT2 kx px ux 0 k)) (.s (Runs Try.prog (CallsD Try.prog) (.code (.loop (loopAt Try.prog 62 1))) (pcT2 kx px ux 0 0).abs (Ex.exit 2) (pcT2 kx px ux 0 k).abs) (.k ((pcT2 kx px ux 0 0 = pcT2 kx px ux 0 0)) rfl (.lf (i64 0)))))))))
theorem pcF_L (kx px : List Int) (ux : List Bool) (n k : Int) : Leaves (fun l => fnX Try.prog (X7) 100000 l 62 [cc kx px ux]) (pcF_T kx px ux n k) [] [] := by refine ⟨fun _ => ?_, fun _ => ⟨fun _ => ?_, fun _ => ?_⟩⟩ <;> (show _ = _; kernel_rfl)
theorem pcF_calls (kx px : List Int) (ux : List Bool) (n k : Int) (res : D) (h0 : At (fun r => res = r) (pcF_T kx px ux n k) [true] True) (h1 : At (fun r => res = r) (pcF_T kx px ux n k) [false, true] True) (h2 : At (fun r => res = r) (pcF_T kx px ux n k) [false, false] True) : CallsD Try.prog 62 [cc kx px ux] res := tree_calls (hX7) (pcF_L kx px ux n k) ⟨fun e0 => h0 e0, fun e0 => ⟨fun e1 => h1 e0 e1, fun e1 => h2 e0 e1⟩⟩
noncomputable def pcR_T (kx : List Int) (px : List Int) (ux : List Bool) (n : Int) (o : Int) (k : Int) : Tr D := .d (cmpI .neq (kx.length : Int) 16) (fun e0 => .lf (i64 8)) (fun e0 => .p (.l [[0, 2, 3, 13, 14, 15]] [] (pcT kx px ux 0 0 (kx.length : Int) 0) (Ex.exit 0) (pcT kx px ux 0 n (kx.length : Int) (kx.length : Int))) (.s (Runs Try.prog (CallsD Try.prog) (.code (.loop (loopAt Try.prog 62 0))) (pcT kx px ux 0 0 (kx.length : Int) 0).abs (Ex.exit 0) (pcT kx px ux 0 n (kx.length : Int) (kx.length : Int)).abs) (.k ((pcT kx px ux 0 0 (kx.length : Int) 0 = pcT kx px ux 0 0 (kx.length : Int) 0)) rfl (.d (cmpI .gtr n 12) (fun e1 => .lf (i64 8)) (fun e1 => .p (.l [[0, 2, 26]] [] (pcT2 kx px ux 0 0) Ex.ret (pcT2 kx px ux o k)) (.s (Runs Try.prog (CallsD Try.prog) (.code (.loop (loopAt Try.prog 62 1))) (pcT2 kx px ux 0 0).abs (Ex.ret) (pcT2 kx px ux o k).abs) (.k ((pcT2 kx px ux 0 0 = pcT2 kx px ux 0 0)) rfl (.lf (i64 o)))))))))
theorem pcR_L (kx px : List Int) (ux : List Bool) (n o k : Int) : Leaves (fun l => fnX Try.prog (X7) 100000 l 62 [cc kx px ux]) (pcR_T kx px ux n o k) [] [] := by refine ⟨fun _ => ?_, fun _ => ⟨fun _ => ?_, fun _ => ?_⟩⟩ <;> (show _ = _; kernel_rfl)
theorem pcR_calls (kx px : List Int) (ux : List Bool) (n o k : Int) (res : D) (h0 : At (fun r => res = r) (pcR_T kx px ux n o k) [true] True) (h1 : At (fun r => res = r) (pcR_T kx px ux n o k) [false, true] True) (h2 : At (fun r => res = r) (pcR_T kx px ux n o k) [false, false] True) : CallsD Try.prog 62 [cc kx px ux] res := tree_calls (hX7) (pcR_L kx px ux n o k) ⟨fun e0 => h0 e0, fun e0 => ⟨fun e1 => h1 e0 e1, fun e1 => h2 e0 e1⟩⟩
def pcBad (kx px : List Int) (ux : List Bool) (i : Nat) : Bool :=
 if ux.getD i false = true then decide (px.getD i 0 < 0 ∨ 16 ≤ px.getD i 0 ∨ lkI kx ux (kx.getD i 0) ≠ i)
 else decide (kx.getD i 0 ≠ 0 ∨ px.getD i 0 ≠ 0)
def pcV (kx px : List Int) (ux : List Bool) : Int := if kx.length = 16 ∧ ctN 16 ux ≤ 12 then (if findI (pcBad kx px ux) 16 0 < 0 then 0 else 8) else 8
theorem ctN_free {ux : List Bool} : ∀ {n : Nat}, ctN n ux < n → ∃ j, j < n ∧ ux.getD j false = false
 | 0, h => by omega
 | n + 1, h => by
  cases e : ux.getD n false with
  | false => exact ⟨n, by omega, e⟩
  | true =>
   have : ctN n ux < n := by simp only [ctN, cnt, e, cond_true] at h; simp only [ctN]; omega
   obtain ⟨j, a, b⟩ := ctN_free this
   exact ⟨j, by omega, b⟩
theorem pcL_all (kx px : List Int) (ux : List Bool) (h : kx.length ≤ 200) :
  Runs Try.prog (CallsD Try.prog) (.code (.loop (loopAt Try.prog 62 0))) (pcT kx px ux 0 0 kx.length 0).abs (.exit 0) (pcT kx px ux 0 (ctN kx.length ux : Nat) kx.length kx.length).abs := by
 refine loop_of_rounds ?_
 refine scan_all (fun i => pcT kx px ux 0 (ctN i ux : Nat) kx.length (i : Int)) kx.length (fun _ => True) (fun i hi _ σ e hr => ?_) ?_ kx.length 0 (by omega) (fun _ _ _ => trivial)
 ·refine pcL_step kx px ux 0 _ kx.length i σ e ?_ ?_ ?_ <;> dsimp only [At, Tr.q, RG, pcL_T]
  ·intro _ g
   rw [Int.toNat_natCast] at g
   rw [succL hi h]; unfold ctN; rw [cnt1 hi h]
   refine ⟨⟨(natLt hi).1, (natLt hi).2, trivial⟩, ?_⟩
   simp only [ctN, cnt, g, cond_true] at hr; exact hr
  ·intro _ g
   rw [Int.toNat_natCast] at g
   rw [succL hi h]
   refine ⟨⟨(natLt hi).1, (natLt hi).2, trivial⟩, ?_⟩
   simp only [ctN, cnt, g, cond_false, Nat.add_zero] at hr; exact hr
  ·intro g; rw [lss_f] at g; omega
 ·refine pcL_step kx px ux 0 _ kx.length kx.length _ _ ?_ ?_ ?_ <;> dsimp only [At, Tr.q, RG, pcL_T]
  ·intro g; rw [lss_t] at g; omega
  ·intro g; rw [lss_t] at g; omega
  ·intro _; exact ⟨trivial, rfl, rfl⟩
theorem pc_ok (kx px : List Int) (ux : List Bool) (h : okI kx) : CallsD Try.prog 62 [cc kx px ux] (i64 (pcV kx px ux)) := by
 unfold pcV
 have hl := h.1
 have hL := pcL_all kx px ux hl
 by_cases c : kx.length = 16 ∧ ctN 16 ux ≤ 12
 ·rw [if_pos c]
  obtain ⟨c1, c2⟩ := c
  have hfree := ctN_free (ux := ux) (n := 16) (by omega)
  have hlk : ∀ i, i < 16 → lkS kx ux (kx.getD i 0) := fun i hi => ⟨c1, h.2 i (by omega), hfree⟩
  refine look_for (b := loopAt Try.prog 62 1) (fun i => pcT2 kx px ux 0 (i : Int)) 16 (pcBad kx px ux) (fun v => CallsD Try.prog 62 [cc kx px ux] (i64 (if v < 0 then 0 else 8))) ?_ ?_ ?_
  ·intro i hi hp σ e hr
   have n1 := natLt (n := kx.length) (i := i) (by omega)
   have hk := hlk i hi
   have hs := succL hi (by omega)
   have hkx : lkS kx ux (kx.getD (i : Int).toNat 0) := by rw [Int.toNat_natCast]; exact hk
   cases g1' : ux.getD i false with
   | false =>
    simp only [pcBad, g1'] at hp; rw [if_neg (by simp)] at hp
    have ga : ¬ ux.getD (i : Int).toNat false = true := by rw [Int.toNat_natCast, g1']; simp
    have gb : ¬ (!ux.getD (i : Int).toNat false) = false := by rw [Int.toNat_natCast, g1']; simp
    refine pcM_step kx px ux 0 i σ e ?_ ?_ ?_ ?_ ?_ ?_ ?_ ?_ ?_ ?_ ?_ ?_ <;> dsimp only [At, Tr.q, RG, pcM_T]
    ·intro _ _ g2
     try unfold pcM_c0 at g2
     rw [Int.toNat_natCast, zc _ _ _ g1', hp] at g2; cases g2
    ·intro _ _ _ g; exact absurd g ga
    ·intro _ _ _ g; exact absurd g ga
    ·intro _ _ _ g; exact absurd g ga
    ·intro _ _ _ g; exact absurd g ga
    ·intro _ _ _ _
     (try unfold pcM_c1); (try unfold pcM_c0)
     rw [hs]; exact ⟨⟨hkx, n1.1, n1.2, trivial⟩, hr⟩
    ·intro _ g; exact absurd g gb
    ·intro _ g; exact absurd g gb
    ·intro _ g; exact absurd g gb
    ·intro _ g; exact absurd g gb
    ·intro _ g; exact absurd g gb
    ·intro g; rw [lss_f] at g; omega
   | true =>
    simp only [pcBad, g1', if_true, decide_eq_false_iff_not, not_or, ne_eq, Decidable.not_not] at hp
    have ga : ¬ ux.getD (i : Int).toNat false = false := by rw [Int.toNat_natCast, g1']; simp
    have gb : ¬ (!ux.getD (i : Int).toNat false) = true := by rw [Int.toNat_natCast, g1']; simp
    refine pcM_step kx px ux 0 i σ e ?_ ?_ ?_ ?_ ?_ ?_ ?_ ?_ ?_ ?_ ?_ ?_ <;> dsimp only [At, Tr.q, RG, pcM_T]
    ·intro _ g; exact absurd g gb
    ·intro _ g; exact absurd g gb
    ·intro _ g; exact absurd g gb
    ·intro _ g; exact absurd g gb
    ·intro _ g; exact absurd g gb
    ·intro _ g; exact absurd g gb
    ·intro _ _ _ g; rw [Int.toNat_natCast, lss_t] at g; omega
    ·intro _ _ _ _ g; rw [Int.toNat_natCast, geq_t] at g; omega
    ·intro _ _ _ _ _ g; rw [Int.toNat_natCast, neq_t] at g; omega
    ·intro _ _ _ _ _ _
     (try unfold pcM_c1); (try unfold pcM_c0)
     rw [hs]; exact ⟨⟨hkx, n1.1, n1.2, trivial⟩, hr⟩
    ·intro _ _ g; exact absurd g ga
    ·intro g; rw [lss_f] at g; omega
  ·intro hr
   refine pcF_calls kx px ux (ctN kx.length ux : Nat) 16 _ ?_ ?_ ?_ <;> dsimp only [At, Tr.q, pcF_T]
   ·intro g; rw [neq_t] at g; omega
   ·intro _ g; rw [gtr_t, c1] at g; omega
   ·intro _ _
    refine ⟨⟨loop_of_rounds (hr _ _ ?_), hL, trivial⟩, rfl⟩
    have c0 : ¬ cmpI .lss ((16 : Nat) : Int) 16 = true := by rw [lss_t]; omega
    refine pcM_step kx px ux 0 (16 : Nat) _ _ ?_ ?_ ?_ ?_ ?_ ?_ ?_ ?_ ?_ ?_ ?_ ?_ <;> dsimp only [At, Tr.q, RG, pcM_T]
    all_goals first | (intro g; exact absurd g c0) | (intro _; exact ⟨trivial, rfl, rfl⟩)
  ·intro j hj hp hr
   have n1 := natLt (n := kx.length) (i := j) (by omega)
   have hk := hlk j hj
   have hkx : lkS kx ux (kx.getD (j : Int).toNat 0) := by rw [Int.toNat_natCast]; exact hk
   refine pcR_calls kx px ux (ctN kx.length ux : Nat) 8 j _ ?_ ?_ ?_ <;> dsimp only [At, Tr.q, pcR_T]
   ·intro g; rw [neq_t] at g; omega
   ·intro _ g; rw [gtr_t, c1] at g; omega
   ·intro _ _
    refine ⟨⟨loop_of_rounds (hr _ _ ?_), hL, trivial⟩, by rw [if_neg (by omega)]⟩
    cases g1' : ux.getD j false with
    | false =>
     simp only [pcBad, g1'] at hp; rw [if_neg (by simp)] at hp
     have ga : ¬ ux.getD (j : Int).toNat false = true := by rw [Int.toNat_natCast, g1']; simp
     have gb : ¬ (!ux.getD (j : Int).toNat false) = false := by rw [Int.toNat_natCast, g1']; simp
     have gc : ∀ g2, (!(kx.getD (j : Int).toNat 0 == 0 && (px.getD (j : Int).toNat 0 == 0 && (ux.getD (j : Int).toNat false == false && true)))) = g2 → g2 = true := fun g2 e => by
      rw [Int.toNat_natCast, zc _ _ _ g1', hp] at e; exact e.symm
     refine pcM_step kx px ux 0 j _ _ ?_ ?_ ?_ ?_ ?_ ?_ ?_ ?_ ?_ ?_ ?_ ?_ <;> dsimp only [At, Tr.q, RG, pcM_T]
     ·intro _ _ _; exact ⟨⟨n1.1, n1.2, trivial⟩, rfl, rfl⟩
     ·intro _ _ _ g; exact absurd g ga
     ·intro _ _ _ g; exact absurd g ga
     ·intro _ _ _ g; exact absurd g ga
     ·intro _ _ _ g; exact absurd g ga
     ·intro _ _ g2; exact absurd (gc _ g2) (by simp)
     ·intro _ g; exact absurd g gb
     ·intro _ g; exact absurd g gb
     ·intro _ g; exact absurd g gb
     ·intro _ g; exact absurd g gb
     ·intro _ g; exact absurd g gb
     ·intro g; rw [lss_f] at g; omega
    | true =>
     simp only [pcBad, g1', if_true, decide_eq_true_eq] at hp
     have ga : ¬ ux.getD (j : Int).toNat false = false := by rw [Int.toNat_natCast, g1']; simp
     have gb : ¬ (!ux.getD (j : Int).toNat false) = true := by rw [Int.toNat_natCast, g1']; simp
     refine pcM_step kx px ux 0 j _ _ ?_ ?_ ?_ ?_ ?_ ?_ ?_ ?_ ?_ ?_ ?_ ?_ <;> dsimp only [At, Tr.q, RG, pcM_T]
     ·intro _ g; exact absurd g gb
     ·intro _ g; exact absurd g gb
     ·intro _ g; exact absurd g gb
     ·intro _ g; exact absurd g gb
     ·intro _ g; exact absurd g gb
     ·intro _ g; exact absurd g gb
     ·intro _ _ _ _; exact ⟨⟨n1.1, n1.2, trivial⟩, rfl, rfl⟩
     ·intro _ _ _ _ _; exact ⟨⟨n1.1, n1.2, trivial⟩, rfl, rfl⟩
     ·intro _ _ _ _ _ _; exact ⟨⟨hkx, n1.1, n1.2, trivial⟩, rfl, rfl⟩
     ·intro _ _ _ g1 g2 g3
      rw [Int.toNat_natCast] at g1 g2 g3
      rw [lss_f] at g1; rw [geq_f] at g2; rw [neq_f] at g3
      omega
     ·intro _ _ g; exact absurd g ga
     ·intro g; rw [lss_f] at g; omega
 ·rw [if_neg c]
  refine pcF_calls kx px ux (ctN kx.length ux : Nat) 0 _ ?_ ?_ ?_ <;> dsimp only [At, Tr.q, pcF_T]
  ·intro _; exact ⟨trivial, rfl⟩
  ·intro _ _; exact ⟨⟨hL, trivial⟩, rfl⟩
  ·intro g1 g2
   rw [neq_f] at g1; rw [gtr_f] at g2
   have : kx.length = 16 := by omega
   rw [this] at g2
   exact absurd ⟨this, by omega⟩ c
def pcC : List D → Option (D × List Prop)
 | [.rc [.ints .u32 kx, .ints .i64 px, .bools ux]] => some (i64 (pcV kx px ux), [okI kx])
 | _ => none
theorem pcC_ok (args res l) (h : pcC args = some (res, l)) (hl : AllP l) : CallsD Try.prog 62 args res := by
 unfold pcC at h; split at h
 ·simp only [Option.some.injEq, Prod.mk.injEq] at h
  obtain ⟨rfl, rfl⟩ := h; obtain ⟨h0, _⟩ := hl
  exact pc_ok _ _ _ h0
 ·cases h
def X8 : Contracts := addCon 62 (.call pcC) (addCon 67 (.call c14C) (addCon 66 (.call c13C) (addCon 68 (.call c15C) X7)))
theorem hX8 : ConOK Try.prog X8 := addCall_ok pcC_ok (addCall_ok c14C_ok (addCall_ok c13C_ok (addCall_ok c15C_ok hX7)))
end TableS
end
