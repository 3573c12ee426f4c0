/- The functions of the folder audit and what they reach: what they compute. No condition. -/
import Derived.Test.YtpbngkempchamaaDamXO
import Derived.Test.YtpbngkempchamaaAuXY
import Derived.Test.YtpbngkempchamaaRows
set_option linter.unusedSectionVars false
set_option linter.unusedVariables false
set_option linter.unusedSimpArgs false
namespace Go.Proofs.Ytpbngkempchamaa.auditReplay
open Go.ChangeShapes Go.WideShapes Go.ChangeAt Go.RowKit Go.Dam MeterS
set_option linter.unusedVariables false
set_option maxRecDepth 100000
noncomputable instance glo : Glo := ⟨fun _ => [], fun _ => false⟩
def K3 : List IntKind := [.i64, .i64, .i64, .i64, .i64, .u64, .i64, .i64, .i64, .i64, .i64, .u64, .i64, .i64, .i64, .i64, .i64, .u64]
def K6 : List IntKind := [.u32, .u64, .u32, .i64, .i64, .i64, .i64, .i64, .u64, .i64, .i64, .i64, .i64, .i64, .u64, .i64, .i64, .i64, .i64, .i64, .u64, .u8, .u32, .u32, .u32, .u32, .u64, .i64, .i64, .i64, .i64, .i64, .u64, .i64, .i64, .i64, .i64, .i64, .u64, .i64, .i64, .i64, .i64, .i64, .u64]
def KR : List IntKind := [.u8, .u32, .u32, .u32, .u32, .u64]
theorem walk (W : World) (v0 v1 v2 : Value) (f g k : Nat → Int) (h0 : v0 = .agg (mkVal K6 f).toArray) (w0 : ∀ i c, K6[i]? = some c → (Lit.int c (f i)).wf = true) (h1 : v1 = .agg (mkVal KR g).toArray) (w1 : ∀ i c, KR[i]? = some c → (Lit.int c (g i)).wf = true)
    (h2 : v2 = .agg (mkVal K3 k).toArray) (w2 : ∀ i c, K3[i]? = some c → (Lit.int c (k i)).wf = true) :
    Calls Try.prog 3 #[v0, v1, v2] W (fun e W' => e = .returned (.bool true) ∧ Below W.heap.size W W') := by
  subst h0 h1 h2
  have hp : inP (f 1) (f 2) (f 6) (f 12) (f 18) (f 8) (f 14) (f 20) (f 21) (f 26) (f 30) (f 36) (f 42) :=
    ⟨⟨(wf_i64 (w0 6 _ rfl)).1, (wf_i64 (w0 6 _ rfl)).2, (wf_i64 (w0 12 _ rfl)).1, (wf_i64 (w0 12 _ rfl)).2, (wf_i64 (w0 18 _ rfl)).1, (wf_i64 (w0 18 _ rfl)).2⟩,
      ⟨(wf_i64 (w0 30 _ rfl)).1, (wf_i64 (w0 30 _ rfl)).2, (wf_i64 (w0 36 _ rfl)).1, (wf_i64 (w0 36 _ rfl)).2, (wf_i64 (w0 42 _ rfl)).1, (wf_i64 (w0 42 _ rfl)).2⟩,
      ⟨(wf_u64 (w0 1 _ rfl)).1, (wf_u64 (w0 1 _ rfl)).2, (wf_u32 (w0 2 _ rfl)).1, (wf_u32 (w0 2 _ rfl)).2⟩,
      ⟨(wf_u64 (w0 8 _ rfl)).1, (wf_u64 (w0 8 _ rfl)).2, (wf_u64 (w0 14 _ rfl)).1, (wf_u64 (w0 14 _ rfl)).2, (wf_u64 (w0 20 _ rfl)).1, (wf_u64 (w0 20 _ rfl)).2⟩, (wf_u8 (w0 21 _ rfl)).1, (wf_u64 (w0 26 _ rfl)).1⟩
  have ha : inV (k 3) (k 9) (k 15) := ⟨(wf_i64 (w2 3 _ rfl)).1, (wf_i64 (w2 3 _ rfl)).2, (wf_i64 (w2 9 _ rfl)).1, (wf_i64 (w2 9 _ rfl)).2, (wf_i64 (w2 15 _ rfl)).1, (wf_i64 (w2 15 _ rfl)).2⟩
  refine (replay_ok (f 0) (f 1) (f 2) (f 3) (f 4) (f 5) (f 6) (f 7) (f 8) (f 9) (f 10) (f 11) (f 12) (f 13) (f 14) (f 15) (f 16) (f 17) (f 18) (f 19) (f 20) (f 21) (f 22) (f 23) (f 24) (f 25) (f 26) (f 27) (f 28) (f 29) (f 30) (f 31) (f 32) (f 33) (f 34) (f 35) (f 36) (f 37) (f 38) (f 39) (f 40) (f 41) (f 42) (f 43) (f 44)
    (g 0) (g 1) (g 2) (g 3) (g 4) (g 5) (k 0) (k 1) (k 2) (k 3) (k 4) (k 5) (k 6) (k 7) (k 8) (k 9) (k 10) (k 11) (k 12) (k 13) (k 14) (k 15) (k 16) (k 17) hp (wf_u8 (w1 0 _ rfl)).1 (wf_u64 (w1 5 _ rfl)).1 ha W (fun x => x < W.heap.size) [_, _, _] ?_ (fun _ h => h) (fun g h => absurd rfl h)).mono ?_
  · exact ⟨_, _, rfl, rep_ints K6 f, ⟨_, _, rfl, rep_ints KR g, ⟨_, _, rfl, rep_ints K3 k, rfl⟩⟩⟩
  · rintro e w' ⟨v, A', bl, rfl, hr, _, _, _, _, hb⟩
    have hv : v = .bool true := by
      simp only [RepO, RepS] at hr
      exact hr.1
    exact ⟨by rw [hv], hb⟩
theorem own : ownKnob Try.prog.godebug = none := by kernel_rfl
theorem laidOut : laidOutB Try.prog = true := by kernel_rfl
theorem lifted (os : Os) (started : os.Started) (H : Type) (enc : TypeId × Value → H) :
    ReturnsInHanded {} Try.checked os 3 .any (Rows.auditReplaySpec.pre6 enc Try.prog Try.f3 Rows.auditReplayRow.domain false) (Rows.auditReplaySpec.post enc Try.prog Try.f3 false true false false) := by
  refine returnsInHanded_of_change_sized (C := Try.checked) own started (by kernel_rfl) Try.func3
    (ChangeSpec.witness6 (enc := enc) (C := Try.checked) false ⟨#[], #[.agg (mkVal K6 (fun _ => 0)).toArray, .agg (mkVal KR (fun _ => 0)).toArray, .agg (mkVal K3 (fun _ => 0)).toArray], []⟩ 8 (by kernel_rfl) (by kernel_rfl) (by kernel_rfl) (by kernel_rfl)) ?_
  intro W base args ds gs before hval0 hW hcnd hsz0 _
  have hval : ∀ (j : Nat) t v, Try.f3.params[j]? = some t → args[j]? = some v → Value.okWide Try.prog W .any base t v := hval0
  have hW' := hW
  obtain ⟨p, q, hA0, hV, rfl, hfz, hnd⟩ := hW
  have hA : DataW.TrodAll enc Try.prog W 0 (fun _ => true) true Try.f3.params.toList args.toList ds p := hA0
  rw [Try.params3] at hA hval
  obtain ⟨v0, vs0, d0, ds0, p0, q0, hargs, rfl, rfl, h0, r0⟩ := trodAll_cons hA
  obtain ⟨v1, vs1, d1, ds1, p1, q1, rfl, rfl, rfl, h1, r1⟩ := trodAll_cons r0
  obtain ⟨v2, vs2, d2, ds2, p2, q2, rfl, rfl, rfl, h2, r2⟩ := trodAll_cons r1
  obtain ⟨rfl, rfl, rfl⟩ := trodAll_nil r2
  obtain rfl : args = #[v0, v1, v2] := by cases args; simp_all
  obtain ⟨rfl, rfl⟩ := trodVars_none hV
  have lt : ∀ {t : TypeId} {v : Value} {d : DataW H} {ps : List MemPlace}, DataW.Trod enc Try.prog W 0 (fun _ => true) true t v d ps → ∀ x ∈ ps, x.block < W.heap.size := fun h => by
    obtain ⟨m, hm⟩ := h; exact DataW.trod_lt m _ _ _ hm
  obtain ⟨f, e0, w0⟩ := open_ints (n := 10) (ks := K6) (t := 33) (by kernel_rfl) (by rw [Try.underlying33]) (hval 0 33 v0 rfl rfl) h0
  obtain ⟨g, e1, w1⟩ := open_ints (n := 10) (ks := KR) (t := 31) (by kernel_rfl) (by rw [Try.underlying31]) (hval 1 31 v1 rfl rfl) h1
  obtain ⟨k, e2, w2⟩ := open_ints (n := 10) (ks := K3) (t := 28) (by kernel_rfl) (by rw [Try.underlying28]) (hval 2 28 v2 rfl rfl) h2
  clear hA0 hval0 hsz0
  refine (walk W v0 v1 v2 f g k e0 w0 e1 w1 e2 w2).mono fun e W' ⟨he, bel⟩ => ?_
  subst he
  exact ⟨_, rfl, _, _, _, [], _, [], hW', trodAll_mk1 (shut_bool Try.underlying4 _),
    (trodAll_cons_mk (Below.trod laidOut (by kernel_rfl) (of_decide_eq_true (by kernel_rfl)) h0 bel (lt h0)) (trodAll_cons_mk (Below.trod laidOut (by kernel_rfl) (of_decide_eq_true (by kernel_rfl)) h1 bel (lt h1)) (trodAll_cons_mk (Below.trod laidOut (by kernel_rfl) (of_decide_eq_true (by kernel_rfl)) h2 bel (lt h2)) trodAll_mk0))), rfl, bel.frame _, fun h => by cases h⟩
theorem over : Rows.auditReplayRow.holds Try.pinned (OpenSpec.ofChange Rows.auditReplaySpec) :=
  OpenClaim.holds_of_wide 3 Try.f3 rfl rfl rfl rfl rfl rfl rfl ⟨rfl, rfl, rfl, rfl, rfl⟩ rfl rfl rfl rfl rfl (by kernel_rfl) Try.func3 (by kernel_rfl)
    (of_decide_eq_true (by kernel_rfl)) (by unfold Func.isWrapper; first | (rw [if_pos (by decide +kernel)]; kernel_rfl) | (rw [if_neg (by decide +kernel)]; exact ⟨rfl, rfl⟩))
    (fun os started H enc _ => lifted os started H enc)
theorem proved : Rows.AuditReplaySaid := over
#print axioms proved
end Go.Proofs.Ytpbngkempchamaa.auditReplay
namespace Go.Proofs.Ytpbngkempchamaa
theorem auditReplay_holds : Rows.AuditReplaySaid := auditReplay.proved
end Go.Proofs.Ytpbngkempchamaa
