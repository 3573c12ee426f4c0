/- The law AdminNames of the folder spigotlaw20 answers true. No condition. -/
import Derived.Test.YtoagadalegkloaaGreatAdmB
import Derived.Test.YtoagadalegkloaaGreatAdmC
import Derived.Test.YtoagadalegkloaaGreatAdmD
import Derived.Test.YtoagadalegkloaaGreatAdmE
import Derived.Test.YtoagadalegkloaaGreatAdmF
import Derived.Test.YtoagadalegkloaaGreatAdmG
import Derived.Test.YtoagadalegkloaaGreatAdmH
import Derived.Test.YtoagadalegkloaaGreatAdmI
import Derived.Test.YtoagadalegkloaaGreatAdmJ
import Derived.Test.YtoagadalegkloaaGreatAdmK
namespace Go.Proofs.YtoagadalegkloaaGreat.adminNames
open Go.ChangeShapes Go.WideShapes Go.ChangeAt Go.RowKit Go.Dam
set_option linter.unusedVariables false
set_option maxRecDepth 1000000
noncomputable section
def does : List (List D × D) := [([srvD (regD (.v (.slice Option.none 0 0)) 0), createD 0], doneD (.v (.slice Option.none 0 0)) 1),
  ([srvD (regD (.v (.slice Option.none 0 0)) 1), createD 1], doneD (.v (.slice Option.none 0 0)) 2),
  ([srvD (regD (.v (.slice Option.none 0 0)) 2), createD 2], doneD (.v (.slice Option.none 0 0)) 3),
  ([srvD (regD (.v (.slice Option.none 0 0)) 3), createD 3], doneD (.v (.slice Option.none 0 0)) 4),
  ([srvD (regD (.v (.slice Option.none 0 0)) 4), createD 4], doneD (.v (.slice Option.none 0 0)) 5),
  ([srvD (regD (.v (.slice Option.none 0 0)) 5), createD 5], doneD (.v (.slice Option.none 0 0)) 6),
  ([srvD (regD (.v (.slice Option.none 0 0)) 6), createD 6], doneD (.v (.slice Option.none 0 0)) 7),
  ([srvD (regD (.v (.slice Option.none 0 0)) 7), createD 7], doneD (.v (.slice Option.none 0 0)) 8),
  ([srvD (regD (revD 0) 8), revokeD 0], doneD (revD 1) 8),
  ([srvD (regD (revD 1) 8), revokeD 1], doneD (revD 2) 8),
  ([srvD (regD (revD 2) 8), revokeD 2], doneD (revD 3) 8),
  ([srvD (regD (revD 3) 8), revokeD 3], doneD (revD 4) 8),
  ([srvD (regD (revD 4) 8), revokeD 4], doneD (revD 5) 8),
  ([srvD (regD (revD 5) 8), revokeD 5], doneD (revD 6) 8),
  ([srvD (regD (revD 6) 8), revokeD 6], doneD (revD 7) 8),
  ([srvD (regD (revD 7) 8), revokeD 7], doneD (revD 8) 8),
  ([srvD (regD (.v (.slice Option.none 0 0)) 8), createD 8], .tup [srvD (.sh 8 (cellsD (.v (.slice Option.none 0 0)) 8)), u8 5, i64 0]),
  ([spentD (.sh 8 (cellsE 8)), doD 2 3], .tup [spentD (.ow 8 42 (cellsE 8)), u8 8, i64 0]),
  ([spentD (.sh 8 (cellsE 8)), doD 4 3], .tup [spentD (.ow 8 42 (cellsE 8)), u8 8, i64 0]),
  ([srvD (regD (revD 8) 8), revokeD 8], .tup [srvD (.ow 8 42 (cellsD (revD 8) 8)), u8 5, i64 0]),
  ([srvD (regD (revD 8) 8), revokeD 7], doneD (revD 8) 8)]

theorem does_calls : ∀ p ∈ does, Go.Dam.CallsD Tryz.prog 5 p.1 p.2 := by
  intro p hp
  simp only [does, List.mem_cons, List.not_mem_nil, or_false] at hp
  rcases hp with rfl | rfl | rfl | rfl | rfl | rfl | rfl | rfl | rfl | rfl | rfl | rfl | rfl | rfl | rfl | rfl | rfl | rfl | rfl | rfl | rfl
  · exact made0
  · exact made1
  · exact made2
  · exact made3
  · exact made4
  · exact made5
  · exact made6
  · exact made7
  · exact revoked0
  · exact revoked1
  · exact revoked2
  · exact revoked3
  · exact revoked4
  · exact revoked5
  · exact revoked6
  · exact revoked7
  · exact full8
  · exact spent2
  · exact spent4
  · exact again8
  · exact again7

def findD (args : List D) : List (List D × D) → Option D
  | [] => Option.none
  | p :: l => bif sameL p.1.reverse args.reverse then some p.2 else findD args l
theorem findD_spec {args : List D} {res : D} : ∀ {l : List (List D × D)}, findD args l = some res → (args, res) ∈ l
  | [], h => by cases h
  | p :: l, h => by
    unfold findD at h
    cases hs : sameL p.1.reverse args.reverse with
    | true =>
      rw [hs] at h
      cases h
      have := congrArg List.reverse (sameL_eq _ _ hs)
      simp only [List.reverse_reverse] at this
      obtain ⟨a, b⟩ := p
      simp only at this
      rw [← this]
      exact List.mem_cons_self
    | false => rw [hs] at h; exact List.mem_cons_of_mem _ (findD_spec h)
def tellD (args : List D) : Option D := match findD args does with
  | some r => some r
  | Option.none => FN Tryz.prog X2 100000 20 5 args
theorem tellD_calls {args : List D} {res : D} (h : tellD args = some res) : Go.Dam.CallsD Tryz.prog 5 args res := by
  unfold tellD at h
  split at h
  next r hf => cases h; exact does_calls _ (findD_spec hf)
  · exact FN_calls hX2 100000 20 5 _ _ h
def tellA : List D → Option D
  | [] => some (.v (.bool true))
  | _ => Option.none
def X3 : FuncId → Option (List D → Option D) := fun f => bif Nat.beq f 16 then some tellC else bif Nat.beq f 5 then some tellD else bif Nat.beq f 10 then some tellA else Option.none
theorem hX3 : ∀ f g, X3 f = some g → ∀ args res, g args = some res → Go.Dam.CallsD Tryz.prog f args res := by
  intro f g h args res hr
  unfold X3 at h
  cases hb : Nat.beq f 16 with
  | true =>
    rw [hb] at h
    have := Nat.eq_of_beq_eq_true hb
    subst this
    cases h
    exact tellC_calls hr
  | false =>
    rw [hb] at h
    cases hc : Nat.beq f 5 with
    | true =>
      rw [hc] at h
      have := Nat.eq_of_beq_eq_true hc
      subst this
      cases h
      exact tellD_calls hr
    | false =>
      rw [hc] at h
      cases hd : Nat.beq f 10 with
      | true =>
        rw [hd] at h
        have := Nat.eq_of_beq_eq_true hd
        subst this
        cases h
        cases args with
        | nil => cases hr; exact alive
        | cons a l => cases hr
      | false => rw [hd] at h; cases h

theorem answers : Go.Dam.CallsD Tryz.prog 3 [] (Go.Dam.D.v (.bool true)) := FN_calls hX3 100000 20 3 [] _ (by kernel_rfl)

end
theorem walk (W : World) : Calls Tryz.prog 3 #[] W (fun e W' => e = .returned (.bool true) ∧ Below W.heap.size W W') := by
  refine (answers W (fun _ => False) [] (by simp [Go.Dam.RepL]) (fun _ h => h.elim) (fun g h => absurd rfl h)).mono ?_
  rintro e w' ⟨v, A', bl, rfl, hr, _, _, _, _, hb⟩
  have hv : v = .bool true := by
    simp only [Go.Dam.RepO, Go.Dam.RepS] at hr
    exact hr.1
  exact ⟨by rw [hv], hb⟩
theorem own : ownKnob Tryz.prog.godebug = none := by kernel_rfl
set_option maxRecDepth 100000 in
theorem lifted (os : Os) (started : os.Started) (H : Type) (enc : TypeId × Value → H) :
    ReturnsInHanded {} Tryz.checked os 3 .any (Rows.adminNamesSpec.pre6 enc Tryz.prog Tryz.f3 Rows.adminNamesRow.domain false) (Rows.adminNamesSpec.post enc Tryz.prog Tryz.f3 false true false false) := by
  refine returnsInHanded_of_change_sized (C := Tryz.checked) own started (by kernel_rfl) Tryz.func3
    (ChangeSpec.witness6 (enc := enc) (C := Tryz.checked) false ⟨#[], #[], []⟩ 8 (by kernel_rfl) (by kernel_rfl) (by kernel_rfl) (by kernel_rfl)) ?_
  intro W base args ds gs before hval0 hW hcnd hsz0 _
  have hW' := hW
  obtain ⟨p, q, hA0, hV, rfl, hfz, hnd⟩ := hW
  have hA : DataW.TrodAll enc Tryz.prog W 0 (fun _ => true) true Tryz.f3.params.toList args.toList ds p := hA0
  rw [Tryz.params3] at hA
  obtain ⟨rfl, rfl, rfl⟩ := trodAll_none hA
  obtain ⟨rfl, rfl⟩ := trodVars_none hV
  clear hA0 hval0 hsz0
  refine (walk W).mono fun e W' ⟨he, bel⟩ => ?_
  subst he
  exact ⟨_, rfl, _, _, _, [], _, [], hW', trodAll_mk1 (shut_bool Tryz.underlying4 _), trodAll_mk0, rfl, bel.frame _, fun h => by cases h⟩
theorem over : Rows.adminNamesRow.holds Tryz.pinned (OpenSpec.ofChange Rows.adminNamesSpec) :=
  OpenClaim.holds_of_wide 3 Tryz.f3 rfl rfl rfl rfl rfl rfl rfl ⟨rfl, rfl, rfl, rfl, rfl⟩ rfl rfl rfl rfl rfl (by kernel_rfl) Tryz.func3 (by kernel_rfl)
    (of_decide_eq_true (by kernel_rfl)) (by unfold Func.isWrapper; first | (rw [if_pos (by decide +kernel)]; kernel_rfl) | (rw [if_neg (by decide +kernel)]; exact ⟨rfl, rfl⟩))
    (fun os started H enc _ => lifted os started H enc)
theorem proved : Rows.AdminNamesSaid := over

#print axioms proved
end Go.Proofs.YtoagadalegkloaaGreat.adminNames

namespace Go.Proofs.YtoagadalegkloaaGreat
theorem adminNames_holds : Rows.AdminNamesSaid := adminNames.proved
end Go.Proofs.YtoagadalegkloaaGreat
