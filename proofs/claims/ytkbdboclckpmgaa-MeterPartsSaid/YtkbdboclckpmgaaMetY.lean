/- The functions of the folder meter and what they reach: what they compute. No condition. -/
import Derived.Test.YtkbdboclckpmgaaDamXJ
import Derived.Test.YtkbdboclckpmgaaMetX
import Derived.Test.YtkbdboclckpmgaaRows
set_option linter.unusedSectionVars false
set_option linter.unusedVariables false
set_option linter.unusedSimpArgs false
namespace Go.Proofs.Ytkbdboclckpmgaa.meterParts
open Go.ChangeShapes Go.WideShapes Go.ChangeAt Go.RowKit Go.Dam MeterS
set_option linter.unusedVariables false
set_option maxRecDepth 100000
noncomputable instance glo : Glo := ⟨fun _ => [], fun _ => false⟩
theorem walk (W : World) (v0 v1 v2 v3 : Value) (b0 r0 p0 : Int) (xs1 ys1 : List Int) (n2 : Int) (n3 : Int) (h0 : v0 = .agg #[.int .i64 b0, .int .i64 r0, .int .i64 p0]) (h1 : IsPairs .u64 .i64 W v1 xs1 ys1) (h2 : v2 = .int .i64 n2) (w2 : (Lit.int .i64 n2).wf = true) (h3 : v3 = .int .i64 n3) (w3 : (Lit.int .i64 n3).wf = true) :
    Calls Try.prog 8 #[v0, v1, v2, v3] W (fun e W' => e = .returned (.bool true) ∧ Below W.heap.size W W') := by
  subst h0; subst h2; obtain ⟨f2, g2⟩ := wf_i64 w2; subst h3; obtain ⟨f3, g3⟩ := wf_i64 w3
  refine (law8_ok b0 r0 p0 xs1 ys1 n2 n3 (fun k hk => wf_u64 (h1.2.1 k hk))   W (fun k => k < W.heap.size) [_, v1, _, _] ?_ (fun _ h => h) (fun g h => absurd rfl h)).mono ?_
  · exact ⟨_, _, rfl, ⟨[_, _, _], rfl, _, _, rfl, rfl, _, _, rfl, rfl, _, _, rfl, rfl, rfl⟩, ⟨_, _, rfl, h1.rep, ⟨_, _, rfl, rfl, ⟨_, _, rfl, rfl, rfl⟩⟩⟩⟩
  · rintro e w' ⟨v, A', bl, rfl, hr, _, _, _, _, hb⟩
    have hv : v = .bool true := by
      simp only [RepO, RepS] at hr
      exact hr.1
    exact ⟨by rw [hv], hb⟩
theorem own : ownKnob Try.prog.godebug = none := by kernel_rfl
theorem laidOut : laidOutB Try.prog = true := by kernel_rfl
theorem lifted (os : Os) (started : os.Started) (H : Type) (enc : TypeId × Value → H) :
    ReturnsInHanded {} Try.checked os 8 .any (Rows.meterPartsSpec.pre6 enc Try.prog Try.f8 Rows.meterPartsRow.domain false) (Rows.meterPartsSpec.post enc Try.prog Try.f8 false true false false) := by
  refine returnsInHanded_of_change_sized (C := Try.checked) own started (by kernel_rfl) Try.func8
    (ChangeSpec.witness6 (enc := enc) (C := Try.checked) false ⟨#[], #[.agg #[.int .i64 0, .int .i64 0, .int .i64 0], .slice none 0 0, .int .i64 0, .int .i64 0], []⟩ 8 (by kernel_rfl) (by kernel_rfl) (by kernel_rfl) (by kernel_rfl)) ?_
  intro W base args ds gs before hval0 hW hcnd hsz0 _
  have hval : ∀ (j : Nat) t v, Try.f8.params[j]? = some t → args[j]? = some v → Value.okWide Try.prog W .any base t v := hval0
  have hW' := hW
  obtain ⟨p, q, hA0, hV, rfl, hfz, hnd⟩ := hW
  have hA : DataW.TrodAll enc Try.prog W 0 (fun _ => true) true Try.f8.params.toList args.toList ds p := hA0
  rw [Try.params8] at hA hval
  obtain ⟨v0, vs0, d0, ds0, p0, q0, hargs, rfl, rfl, h0, r0⟩ := trodAll_cons hA
  obtain ⟨v1, vs1, d1, ds1, p1, q1, rfl, rfl, rfl, h1, r1⟩ := trodAll_cons r0
  obtain ⟨v2, vs2, d2, ds2, p2, q2, rfl, rfl, rfl, h2, r2⟩ := trodAll_cons r1
  obtain ⟨v3, vs3, d3, ds3, p3, q3, rfl, rfl, rfl, h3, r3⟩ := trodAll_cons r2
  obtain ⟨rfl, rfl, rfl⟩ := trodAll_nil r3
  obtain rfl : args = #[v0, v1, v2, v3] := by cases args; simp_all
  obtain ⟨rfl, rfl⟩ := trodVars_none hV
  have lt : ∀ {t : TypeId} {v : Value} {d : DataW H} {ps : List MemPlace}, DataW.Trod enc Try.prog W 0 (fun _ => true) true t v d ps → ∀ x ∈ ps, x.block < W.heap.size := fun h => by
    obtain ⟨m, hm⟩ := h; exact DataW.trod_lt m _ _ _ hm
  obtain ⟨b0, rr0, pp0, e0, _, _, _⟩ := open_three (k0 := .i64) (k1 := .i64) (k2 := .i64) Try.underlying55 (by kernel_rfl) rfl rfl rfl (by kernel_rfl) (by kernel_rfl) (by kernel_rfl) (by kernel_rfl) (by kernel_rfl) (by kernel_rfl) (hval 0 55 v0 rfl rfl) h0
  obtain ⟨xs1, ys1, e1⟩ := open_pairs (k0 := .u64) (k1 := .i64) Try.underlying57 Try.underlying77 (by kernel_rfl) rfl rfl (by kernel_rfl) (by kernel_rfl) (by kernel_rfl) (by kernel_rfl) (hval 1 57 v1 rfl rfl) h1
  obtain ⟨n2, e2, _, _, w2⟩ := open_int (k := .i64) Try.underlying3 (hval 2 3 v2 rfl rfl) h2
  obtain ⟨n3, e3, _, _, w3⟩ := open_int (k := .i64) Try.underlying3 (hval 3 3 v3 rfl rfl) h3
  clear hA0 hval0 hsz0
  refine (walk W v0 v1 v2 v3 b0 rr0 pp0 xs1 ys1 n2 n3 e0 e1 e2 w2 e3 w3).mono fun e W' ⟨he, bel⟩ => ?_
  subst he
  exact ⟨_, rfl, _, _, _, [], _, [], hW', trodAll_mk1 (shut_bool Try.underlying4 _),
    (trodAll_cons_mk (Below.trod laidOut (by kernel_rfl) (of_decide_eq_true (by kernel_rfl)) h0 bel (lt h0)) (trodAll_cons_mk (Below.trod laidOut (by kernel_rfl) (of_decide_eq_true (by kernel_rfl)) h1 bel (lt h1)) (trodAll_cons_mk (Below.trod laidOut (by kernel_rfl) (of_decide_eq_true (by kernel_rfl)) h2 bel (lt h2)) (trodAll_cons_mk (Below.trod laidOut (by kernel_rfl) (of_decide_eq_true (by kernel_rfl)) h3 bel (lt h3)) trodAll_mk0)))), rfl, bel.frame _, fun h => by cases h⟩
theorem over : Rows.meterPartsRow.holds Try.pinned (OpenSpec.ofChange Rows.meterPartsSpec) :=
  OpenClaim.holds_of_wide 8 Try.f8 rfl rfl rfl rfl rfl rfl rfl ⟨rfl, rfl, rfl, rfl, rfl⟩ rfl rfl rfl rfl rfl (by kernel_rfl) Try.func8 (by kernel_rfl)
    (of_decide_eq_true (by kernel_rfl)) (by unfold Func.isWrapper; first | (rw [if_pos (by decide +kernel)]; kernel_rfl) | (rw [if_neg (by decide +kernel)]; exact ⟨rfl, rfl⟩))
    (fun os started H enc _ => lifted os started H enc)
theorem proved : Rows.MeterPartsSaid := over
#print axioms proved
end Go.Proofs.Ytkbdboclckpmgaa.meterParts
namespace Go.Proofs.Ytkbdboclckpmgaa
theorem meterParts_holds : Rows.MeterPartsSaid := meterParts.proved
end Go.Proofs.Ytkbdboclckpmgaa
