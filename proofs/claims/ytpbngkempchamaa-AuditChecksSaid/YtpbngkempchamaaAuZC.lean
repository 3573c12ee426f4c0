/- The functions of the folder audit and what they reach: what they compute. No condition. -/
import Derived.Test.YtpbngkempchamaaDamXO
import Derived.Test.YtpbngkempchamaaAuXZ
import Derived.Test.YtpbngkempchamaaRows
set_option linter.unusedSectionVars false
set_option linter.unusedVariables false
set_option linter.unusedSimpArgs false
namespace Go.Proofs.Ytpbngkempchamaa.auditChecks
open Go.ChangeShapes Go.WideShapes Go.ChangeAt Go.RowKit Go.Dam MeterS
set_option linter.unusedVariables false
set_option maxRecDepth 100000
noncomputable instance glo : Glo := ⟨fun _ => [], fun _ => false⟩
def K3 : List IntKind := [.i64, .i64, .i64, .i64, .i64, .u64, .i64, .i64, .i64, .i64, .i64, .u64, .i64, .i64, .i64, .i64, .i64, .u64]
theorem walk (W : World) (v0 v1 v2 v3 v4 : Value) (a : Nat → List Int) (tn : Int) (f : Nat → Int) (n co : Int) (h0 : IsRows kindsP W v0 a) (h1 : v1 = .int .u32 tn) (h2 : v2 = .agg (mkVal K3 f).toArray) (w2 : ∀ i k, K3[i]? = some k → (Lit.int k (f i)).wf = true)
    (h3 : v3 = .int .u64 n) (w3 : (Lit.int .u64 n).wf = true) (h4 : v4 = .int .u32 co) (w4 : (Lit.int .u32 co).wf = true) :
    Calls Try.prog 4 #[v0, v1, v2, v3, v4] W (fun e W' => e = .returned (.bool true) ∧ Below W.heap.size W W') := by
  subst h1 h2 h3 h4
  have hi : inPs a := fun i hl => by
    have g := fun j k hj => h0.1 i j k hl hj
    exact ⟨⟨(wf_i64 (g 6 _ rfl)).1, (wf_i64 (g 6 _ rfl)).2, (wf_i64 (g 12 _ rfl)).1, (wf_i64 (g 12 _ rfl)).2, (wf_i64 (g 18 _ rfl)).1, (wf_i64 (g 18 _ rfl)).2⟩,
      ⟨(wf_i64 (g 30 _ rfl)).1, (wf_i64 (g 30 _ rfl)).2, (wf_i64 (g 36 _ rfl)).1, (wf_i64 (g 36 _ rfl)).2, (wf_i64 (g 42 _ rfl)).1, (wf_i64 (g 42 _ rfl)).2⟩,
      ⟨(wf_u64 (g 1 _ rfl)).1, (wf_u64 (g 1 _ rfl)).2, (wf_u32 (g 2 _ rfl)).1, (wf_u32 (g 2 _ rfl)).2⟩,
      ⟨(wf_u64 (g 8 _ rfl)).1, (wf_u64 (g 8 _ rfl)).2, (wf_u64 (g 14 _ rfl)).1, (wf_u64 (g 14 _ rfl)).2, (wf_u64 (g 20 _ rfl)).1, (wf_u64 (g 20 _ rfl)).2⟩, (wf_u8 (g 21 _ rfl)).1, (wf_u64 (g 26 _ rfl)).1⟩
  have hv : inV (f 3) (f 9) (f 15) := ⟨(wf_i64 (w2 3 _ rfl)).1, (wf_i64 (w2 3 _ rfl)).2, (wf_i64 (w2 9 _ rfl)).1, (wf_i64 (w2 9 _ rfl)).2, (wf_i64 (w2 15 _ rfl)).1, (wf_i64 (w2 15 _ rfl)).2⟩
  have ht : inT (f 5) (f 11) (f 17) := ⟨(wf_u64 (w2 5 _ rfl)).1, (wf_u64 (w2 5 _ rfl)).2, (wf_u64 (w2 11 _ rfl)).1, (wf_u64 (w2 11 _ rfl)).2, (wf_u64 (w2 17 _ rfl)).1, (wf_u64 (w2 17 _ rfl)).2⟩
  have hn : inNC n co := ⟨(wf_u64 w3).1, (wf_u64 w3).2, (wf_u32 w4).1, (wf_u32 w4).2⟩
  refine (checks_ok a tn (f 0) (f 1) (f 2) (f 3) (f 4) (f 5) (f 6) (f 7) (f 8) (f 9) (f 10) (f 11) (f 12) (f 13) (f 14) (f 15) (f 16) (f 17) n co hi hv ht hn W (fun k => k < W.heap.size) [v0, _, _, _, _] ?_ (fun _ h => h) (fun g h => absurd rfl h)).mono ?_
  · exact ⟨_, _, rfl, h0.rep, ⟨_, _, rfl, rfl, ⟨_, _, rfl, rep_ints K3 f, ⟨_, _, rfl, rfl, ⟨_, _, rfl, rfl, rfl⟩⟩⟩⟩⟩
  · rintro e w' ⟨v, A', bl, rfl, hr, _, _, _, _, hb⟩
    have hv : v = .bool true := by
      simp only [RepO, RepS] at hr
      exact hr.1
    exact ⟨by rw [hv], hb⟩
theorem own : ownKnob Try.prog.godebug = none := by kernel_rfl
theorem laidOut : laidOutB Try.prog = true := by kernel_rfl
theorem lifted (os : Os) (started : os.Started) (H : Type) (enc : TypeId × Value → H) :
    ReturnsInHanded {} Try.checked os 4 .any (Rows.auditChecksSpec.pre6 enc Try.prog Try.f4 Rows.auditChecksRow.domain false) (Rows.auditChecksSpec.post enc Try.prog Try.f4 false true false false) := by
  refine returnsInHanded_of_change_sized (C := Try.checked) own started (by kernel_rfl) Try.func4
    (ChangeSpec.witness6 (enc := enc) (C := Try.checked) false ⟨#[], #[.slice none 0 0, .int .u32 0, .agg #[.int .i64 0, .int .i64 0, .int .i64 0, .int .i64 0, .int .i64 0, .int .u64 0, .int .i64 0, .int .i64 0, .int .i64 0, .int .i64 0, .int .i64 0, .int .u64 0, .int .i64 0, .int .i64 0, .int .i64 0, .int .i64 0, .int .i64 0, .int .u64 0], .int .u64 0, .int .u32 0], []⟩ 8 (by kernel_rfl) (by kernel_rfl) (by kernel_rfl) (by kernel_rfl)) ?_
  intro W base args ds gs before hval0 hW hcnd hsz0 _
  have hval : ∀ (j : Nat) t v, Try.f4.params[j]? = some t → args[j]? = some v → Value.okWide Try.prog W .any base t v := hval0
  have hW' := hW
  obtain ⟨p, q, hA0, hV, rfl, hfz, hnd⟩ := hW
  have hA : DataW.TrodAll enc Try.prog W 0 (fun _ => true) true Try.f4.params.toList args.toList ds p := hA0
  rw [Try.params4] at hA hval
  obtain ⟨v0, vs0, d0, ds0, p0, q0, hargs, rfl, rfl, h0, r0⟩ := trodAll_cons hA
  obtain ⟨v1, vs1, d1, ds1, p1, q1, rfl, rfl, rfl, h1, r1⟩ := trodAll_cons r0
  obtain ⟨v2, vs2, d2, ds2, p2, q2, rfl, rfl, rfl, h2, r2⟩ := trodAll_cons r1
  obtain ⟨v3, vs3, d3, ds3, p3, q3, rfl, rfl, rfl, h3, r3⟩ := trodAll_cons r2
  obtain ⟨v4, vs4, d4, ds4, p4, q4, rfl, rfl, rfl, h4, r4⟩ := trodAll_cons r3
  obtain ⟨rfl, rfl, rfl⟩ := trodAll_nil r4
  obtain rfl : args = #[v0, v1, v2, v3, v4] := by cases args; simp_all
  obtain ⟨rfl, rfl⟩ := trodVars_none hV
  have lt : ∀ {t : TypeId} {v : Value} {d : DataW H} {ps : List MemPlace}, DataW.Trod enc Try.prog W 0 (fun _ => true) true t v d ps → ∀ x ∈ ps, x.block < W.heap.size := fun h => by
    obtain ⟨m, hm⟩ := h; exact DataW.trod_lt m _ _ _ hm
  obtain ⟨a, e0⟩ := open_rows (n := 10) (k0 := .u32) (ks := kindsP.tail) Try.underlying45 (by kernel_rfl) (hval 0 45 v0 rfl rfl) h0
  obtain ⟨tn, e1, _, _, w1⟩ := open_int (k := .u32) Try.underlying22 (hval 1 22 v1 rfl rfl) h1
  obtain ⟨f, e2, w2⟩ := open_ints (n := 10) (ks := K3) (t := 28) (by kernel_rfl) (by rw [Try.underlying28]) (hval 2 28 v2 rfl rfl) h2
  obtain ⟨n, e3, _, _, w3⟩ := open_int (k := .u64) Try.underlying23 (hval 3 23 v3 rfl rfl) h3
  obtain ⟨co, e4, _, _, w4⟩ := open_int (k := .u32) Try.underlying22 (hval 4 22 v4 rfl rfl) h4
  clear hA0 hval0 hsz0
  refine (walk W v0 v1 v2 v3 v4 a tn f n co e0 e1 e2 w2 e3 w3 e4 w4).mono fun e W' ⟨he, bel⟩ => ?_
  subst he
  exact ⟨_, rfl, _, _, _, [], _, [], hW', trodAll_mk1 (shut_bool Try.underlying4 _),
    (trodAll_cons_mk (Below.trod laidOut (by kernel_rfl) (of_decide_eq_true (by kernel_rfl)) h0 bel (lt h0)) (trodAll_cons_mk (Below.trod laidOut (by kernel_rfl) (of_decide_eq_true (by kernel_rfl)) h1 bel (lt h1)) (trodAll_cons_mk (Below.trod laidOut (by kernel_rfl) (of_decide_eq_true (by kernel_rfl)) h2 bel (lt h2)) (trodAll_cons_mk (Below.trod laidOut (by kernel_rfl) (of_decide_eq_true (by kernel_rfl)) h3 bel (lt h3)) (trodAll_cons_mk (Below.trod laidOut (by kernel_rfl) (of_decide_eq_true (by kernel_rfl)) h4 bel (lt h4)) trodAll_mk0))))), rfl, bel.frame _, fun h => by cases h⟩
theorem over : Rows.auditChecksRow.holds Try.pinned (OpenSpec.ofChange Rows.auditChecksSpec) :=
  OpenClaim.holds_of_wide 4 Try.f4 rfl rfl rfl rfl rfl rfl rfl ⟨rfl, rfl, rfl, rfl, rfl⟩ rfl rfl rfl rfl rfl (by kernel_rfl) Try.func4 (by kernel_rfl)
    (of_decide_eq_true (by kernel_rfl)) (by unfold Func.isWrapper; first | (rw [if_pos (by decide +kernel)]; kernel_rfl) | (rw [if_neg (by decide +kernel)]; exact ⟨rfl, rfl⟩))
    (fun os started H enc _ => lifted os started H enc)
theorem proved : Rows.AuditChecksSaid := over
#print axioms proved
end Go.Proofs.Ytpbngkempchamaa.auditChecks
namespace Go.Proofs.Ytpbngkempchamaa
theorem auditChecks_holds : Rows.AuditChecksSaid := auditChecks.proved
end Go.Proofs.Ytpbngkempchamaa
