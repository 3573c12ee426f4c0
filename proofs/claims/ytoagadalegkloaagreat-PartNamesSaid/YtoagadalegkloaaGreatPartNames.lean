/- The law PartNames of the folder spigotlaw18 answers true. No condition. -/
import Derived.Test.YtoagadalegkloaaGreatRows
import Derived.WalkKit
import Derived.ProofKit
import Derived.OpenShut
import Derived.ShutString
import Derived.ChangeOld
import Derived.Below
import Derived.SizedLaws
import Derived.Test.YtoagadalegkloaaGreatDamUB
import Derived.KernelRfl
namespace Go.Proofs.YtoagadalegkloaaGreat.partNames
open Go.ChangeShapes Go.WideShapes Go.ChangeAt Go.RowKit Go.Dam
set_option linter.unusedVariables false
instance glo : Glo := ⟨fun _ => [], fun f => Nat.beq f 52 || Nat.beq f 49, fun _ => 0, [], fun _ h => by cases h⟩
def X0 : FuncId → Option (List D → Option D) := fun _ => Option.none
theorem hX0 : ∀ f g, X0 f = some g → ∀ args res, g args = some res → Go.Dam.CallsD Tryz.prog f args res := fun f g h => by cases h
set_option maxRecDepth 1000000 in
theorem alive : Go.Dam.CallsD Tryz.prog 21 [] (Go.Dam.D.v (.bool true)) := FN_calls hX0 100000 20 21 [] _ (by kernel_rfl)
def told : List D → Option D
  | [] => some (.v (.bool true))
  | _ => Option.none
def X1 : FuncId → Option (List D → Option D) := fun f => bif Nat.beq f 21 then some told else Option.none
theorem hX1 : ∀ f g, X1 f = some g → ∀ args res, g args = some res → Go.Dam.CallsD Tryz.prog f args res := by
  intro f g h args res hr
  unfold X1 at h
  cases hb : Nat.beq f 21 with
  | false => rw [hb] at h; cases h
  | true =>
    rw [hb] at h
    have := Nat.eq_of_beq_eq_true hb
    subst this
    cases h
    cases args with
    | nil => cases hr; exact alive
    | cons a l => cases hr
set_option maxRecDepth 1000000 in
theorem answers : Go.Dam.CallsD Tryz.prog 4 [] (Go.Dam.D.v (.bool true)) := FN_calls hX1 100000 20 4 [] _ (by kernel_rfl)
theorem walk (W : World) : Calls Tryz.prog 4 #[] W (fun e W' => e = .returned (.bool true) ∧ Below W.heap.size W W') := by
  refine (answers W (fun _ => False) [] (by simp [Go.Dam.RepL]) (fun _ h => h.elim) (fun g h => absurd rfl h)).mono ?_
  rintro e w' ⟨v, A', bl, rfl, hr, _, _, _, _, hb⟩
  have hv : v = .bool true := by
    simp only [Go.Dam.RepO, Go.Dam.RepS] at hr
    exact hr.1
  exact ⟨by rw [hv], hb⟩
theorem own : ownKnob Tryz.prog.godebug = none := by kernel_rfl
set_option maxRecDepth 100000 in
theorem lifted (os : Os) (started : os.Started) (H : Type) (enc : TypeId × Value → H) :
    ReturnsInHanded {} Tryz.checked os 4 .any (Rows.partNamesSpec.pre6 enc Tryz.prog Tryz.f4 Rows.partNamesRow.domain false) (Rows.partNamesSpec.post enc Tryz.prog Tryz.f4 false true false false) := by
  refine returnsInHanded_of_change_sized (C := Tryz.checked) own started (by kernel_rfl) Tryz.func4
    (ChangeSpec.witness6 (enc := enc) (C := Tryz.checked) false ⟨#[], #[], []⟩ 8 (by kernel_rfl) (by kernel_rfl) (by kernel_rfl) (by kernel_rfl)) ?_
  intro W base args ds gs before hval0 hW hcnd hsz0 _
  have hW' := hW
  obtain ⟨p, q, hA0, hV, rfl, hfz, hnd⟩ := hW
  have hA : DataW.TrodAll enc Tryz.prog W 0 (fun _ => true) true Tryz.f4.params.toList args.toList ds p := hA0
  rw [Tryz.params4] at hA
  obtain ⟨rfl, rfl, rfl⟩ := trodAll_none hA
  obtain ⟨rfl, rfl⟩ := trodVars_none hV
  clear hA0 hval0 hsz0
  refine (walk W).mono fun e W' ⟨he, bel⟩ => ?_
  subst he
  exact ⟨_, rfl, _, _, _, [], _, [], hW', trodAll_mk1 (shut_bool Tryz.underlying4 _), trodAll_mk0, rfl, bel.frame _, fun h => by cases h⟩
theorem over : Rows.partNamesRow.holds Tryz.pinned (OpenSpec.ofChange Rows.partNamesSpec) :=
  OpenClaim.holds_of_wide 4 Tryz.f4 rfl rfl rfl rfl rfl rfl rfl ⟨rfl, rfl, rfl, rfl, rfl⟩ rfl rfl rfl rfl rfl (by kernel_rfl) Tryz.func4 (by kernel_rfl)
    (of_decide_eq_true (by kernel_rfl)) (by unfold Func.isWrapper; first | (rw [if_pos (by decide +kernel)]; kernel_rfl) | (rw [if_neg (by decide +kernel)]; exact ⟨rfl, rfl⟩))
    (fun os started H enc _ => lifted os started H enc)
theorem proved : Rows.PartNamesSaid := over
#print axioms proved
end Go.Proofs.YtoagadalegkloaaGreat.partNames
namespace Go.Proofs.YtoagadalegkloaaGreat
theorem partNames_holds : Rows.PartNamesSaid := partNames.proved
end Go.Proofs.YtoagadalegkloaaGreat
