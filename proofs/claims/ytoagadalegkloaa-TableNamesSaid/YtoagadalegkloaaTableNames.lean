/- The law TableNames of the folder spigotlaw16 answers true. No condition. -/
import Derived.Test.YtoagadalegkloaaRows
import Derived.WalkKit
import Derived.ProofKit
import Derived.OpenShut
import Derived.ShutString
import Derived.ChangeOld
import Derived.Below
import Derived.SizedLaws
import Derived.Test.YtoagadalegkloaaDamUB
import Derived.KernelRfl
namespace Go.Proofs.Ytoagadalegkloaa.tableNames
open Go.ChangeShapes Go.WideShapes Go.ChangeAt Go.RowKit Go.Dam
set_option linter.unusedVariables false
def X0 : FuncId → Option (List D → Option D) := fun _ => Option.none
theorem hX0 : ∀ f g, X0 f = some g → ∀ args res, g args = some res → Go.Dam.CallsD Try.prog f args res := fun f g h => by cases h
set_option maxRecDepth 1000000 in
theorem alive : Go.Dam.CallsD Try.prog 12 [] (Go.Dam.D.v (.bool true)) := FN_calls hX0 100000 12 12 [] _ (by kernel_rfl)
def told : List D → Option D
  | [] => some (.v (.bool true))
  | _ => Option.none
def X1 : FuncId → Option (List D → Option D) := fun f => bif Nat.beq f 12 then some told else Option.none
theorem hX1 : ∀ f g, X1 f = some g → ∀ args res, g args = some res → Go.Dam.CallsD Try.prog f args res := by
  intro f g h args res hr
  unfold X1 at h
  cases hb : Nat.beq f 12 with
  | false => rw [hb] at h; cases h
  | true =>
    rw [hb] at h
    have := Nat.eq_of_beq_eq_true hb
    subst this
    cases h
    cases args with
    | nil => cases hr; exact alive
    | cons a l => cases hr
set_option maxRecDepth 1000000 in
theorem answers : Go.Dam.CallsD Try.prog 3 [] (Go.Dam.D.v (.bool true)) := FN_calls hX1 100000 12 3 [] _ (by kernel_rfl)
theorem walk (W : World) : Calls Try.prog 3 #[] W (fun e W' => e = .returned (.bool true) ∧ Below W.heap.size W W') := by
  refine (answers W (fun _ => False) [] (by simp [Go.Dam.RepL]) (fun _ h => h.elim)).mono ?_
  rintro e w' ⟨v, A', bl, rfl, hr, _, _, _, _, hb⟩
  have hv : v = .bool true := by
    simp only [Go.Dam.RepO, Go.Dam.RepS] at hr
    exact hr.1
  exact ⟨by rw [hv], hb⟩
theorem own : ownKnob Try.prog.godebug = none := by kernel_rfl
set_option maxRecDepth 100000 in
theorem lifted (os : Os) (started : os.Started) (H : Type) (enc : TypeId × Value → H) :
    ReturnsInHanded {} Try.checked os 3 .any (Rows.tableNamesSpec.pre6 enc Try.prog Try.f3 Rows.tableNamesRow.domain false) (Rows.tableNamesSpec.post enc Try.prog Try.f3 false true false false) := by
  refine returnsInHanded_of_change_sized (C := Try.checked) own started (by kernel_rfl) Try.func3
    (ChangeSpec.witness6 (enc := enc) (C := Try.checked) false ⟨#[], #[], []⟩ 8 (by kernel_rfl) (by kernel_rfl) (by kernel_rfl) (by kernel_rfl)) ?_
  intro W base args ds gs before hval0 hW hcnd hsz0 _
  have hW' := hW
  obtain ⟨p, q, hA0, hV, rfl, hfz, hnd⟩ := hW
  have hA : DataW.TrodAll enc Try.prog W 0 (fun _ => true) true Try.f3.params.toList args.toList ds p := hA0
  rw [Try.params3] at hA
  obtain ⟨rfl, rfl, rfl⟩ := trodAll_none hA
  obtain ⟨rfl, rfl⟩ := trodVars_none hV
  clear hA0 hval0 hsz0
  refine (walk W).mono fun e W' ⟨he, bel⟩ => ?_
  subst he
  exact ⟨_, rfl, _, _, _, [], _, [], hW', trodAll_mk1 (shut_bool Try.underlying4 _), trodAll_mk0, rfl, bel.frame _, fun h => by cases h⟩
theorem over : Rows.tableNamesRow.holds Try.pinned (OpenSpec.ofChange Rows.tableNamesSpec) :=
  OpenClaim.holds_of_wide 3 Try.f3 rfl rfl rfl rfl rfl rfl rfl ⟨rfl, rfl, rfl, rfl, rfl⟩ rfl rfl rfl rfl rfl (by kernel_rfl) Try.func3 (by kernel_rfl)
    (of_decide_eq_true (by kernel_rfl)) (by unfold Func.isWrapper; first | (rw [if_pos (by decide +kernel)]; kernel_rfl) | (rw [if_neg (by decide +kernel)]; exact ⟨rfl, rfl⟩))
    (fun os started H enc _ => lifted os started H enc)
theorem proved : Rows.TableNamesSaid := over
#print axioms proved
end Go.Proofs.Ytoagadalegkloaa.tableNames
namespace Go.Proofs.Ytoagadalegkloaa
theorem tableNames_holds : Rows.TableNamesSaid := tableNames.proved
end Go.Proofs.Ytoagadalegkloaa
