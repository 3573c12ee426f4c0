/- AdminNames, part 1: what its calls answer, told. No condition. -/
import Derived.Test.YtoagadalegkloaaGreatRows
import Derived.WalkKit
import Derived.ProofKit
import Derived.OpenShut
import Derived.ShutString
import Derived.ChangeOld
import Derived.Below
import Derived.SizedLaws
import Derived.Test.YtoagadalegkloaaGreatDamUB
import Derived.KernelRfl
namespace Go.Proofs.YtoagadalegkloaaGreat.adminNames
open Go.ChangeShapes Go.WideShapes Go.ChangeAt Go.RowKit Go.Dam
set_option linter.unusedVariables false
set_option maxRecDepth 1000000
noncomputable section
instance glo : Glo := ⟨fun _ => [], fun f => Nat.beq f 52 || Nat.beq f 100 || Nat.beq f 62 || Nat.beq f 49 || Nat.beq f 1000000, fun _ => 0, [], fun _ h => by cases h⟩

def i64 (i : Int) : D := .v (.int .i64 i)
def u64 (i : Int) : D := .v (.int .u64 i)
def u32 (i : Int) : D := .v (.int .u32 i)
def bo (b : Bool) : D := .v (.bool b)
/-- An empty table of two keys. -/
def tabD : List D :=
  [i64 2, .sh 2 [u32 0, u32 0], .sh 2 [i64 0, i64 0, i64 0, i64 0, i64 0, u64 0, i64 0, i64 0, i64 0, i64 0, i64 0, u64 0], .sh 2 [i64 1, i64 (-1)], .sh 2 [bo false, bo false], i64 0,
   .sh 16 (List.replicate 16 [u32 0, i64 0, bo false]).flatten, .sh 2 [i64 (-1), i64 (-1)], .sh 2 [i64 (-1), i64 (-1)], i64 (-1), i64 (-1)]
/-- The part of a tenant. -/
def partD (t : Int) (rev : D) : List D :=
  [u32 t, i64 4, i64 1, i64 1, i64 3, i64 1, i64 1, i64 2, i64 1, i64 1, i64 4, i64 1, i64 1, i64 4, i64 0, u64 0] ++ (tabD ++ (tabD ++ [rev, u64 0, u64 0, u64 0]))
def vsame : Value → Value → Bool
  | .int k i, .int k' i' => decide (k = k') && decide (i = i')
  | .bool a, .bool b => a == b
  | .slice Option.none 0 0, .slice Option.none 0 0 => true
  | _, _ => false
theorem vsame_eq : ∀ {a b : Value}, vsame a b = true → a = b := by
  intro a b h
  unfold vsame at h
  split at h
  · simp at h; obtain ⟨rfl, rfl⟩ := h; rfl
  · simp at h; rw [h]
  · rfl
  · cases h
mutual
def same : D → D → Bool
  | .v x, .v y => vsame x y
  | .sh n cs, .sh m ds => Nat.beq n m && sameL cs ds
  | .emp, .emp => true
  | .agg cs, .agg ds => sameL cs ds
  | _, _ => false
def sameL : List D → List D → Bool
  | [], [] => true
  | d :: ds, e :: es => same d e && sameL ds es
  | _, _ => false
end
mutual
theorem same_eq : ∀ (a b : D), same a b = true → a = b
  | .v x, b, h => by cases b <;> simp [same] at h; rw [vsame_eq h]
  | .sh n cs, b, h => by
    cases b <;> simp [same] at h
    obtain ⟨h1, h2⟩ := h
    rw [h1, sameL_eq _ _ h2]
  | .emp, b, h => by cases b <;> simp [same] at h; rfl
  | .agg cs, b, h => by cases b <;> simp [same] at h; rw [sameL_eq _ _ h]
  | .undef, b, h | .yld, b, h | .y _, b, h | .ow _ _ _, b, h | .sl _ _ _ _, b, h | .ptr _ _, b, h | .shp _ _, b, h | .fn _ _, b, h | .tup _, b, h => by cases b <;> simp [same] at h
theorem sameL_eq : ∀ (a b : List D), sameL a b = true → a = b
  | [], b, h => by cases b <;> simp [sameL] at h; rfl
  | d :: ds, b, h => by
    cases b <;> simp [sameL] at h
    rw [same_eq _ _ h.1, sameL_eq _ _ h.2]
end
def revs : List (Int × D) :=
  [(0, .v (.slice Option.none 0 0)), (1, .v (.slice Option.none 0 0)), (2, .v (.slice Option.none 0 0)), (3, .v (.slice Option.none 0 0)), (4, .v (.slice Option.none 0 0)), (5, .v (.slice Option.none 0 0)), (6, .v (.slice Option.none 0 0)), (7, .v (.slice Option.none 0 0)),
   (1, .sh 1 [u32 0]), (1, .sh 2 [u32 0, u32 1]), (1, .sh 3 [u32 0, u32 1, u32 2]), (1, .sh 4 [u32 0, u32 1, u32 2, u32 3]), (1, .sh 5 [u32 0, u32 1, u32 2, u32 3, u32 4]), (1, .sh 6 [u32 0, u32 1, u32 2, u32 3, u32 4, u32 5]), (1, .sh 7 [u32 0, u32 1, u32 2, u32 3, u32 4, u32 5, u32 6]), (1, .sh 8 [u32 0, u32 1, u32 2, u32 3, u32 4, u32 5, u32 6, u32 7]), (0, .emp), (1, .emp), (2, .emp), (3, .emp), (4, .emp), (5, .emp), (6, .emp), (7, .emp)]
def isRev (t : Int) (rev : D) : List (Int × D) → Bool
  | [] => false
  | p :: l => (decide (p.1 = t) && same p.2 rev) || isRev t rev l
def known (d : D) : Bool := match d with
  | .agg (.v (.int .u32 t) :: cs) => match cs[37]? with
    | some rev => isRev t rev revs && sameL (.v (.int .u32 t) :: cs) (partD t rev)
    | Option.none => false
  | _ => false

def u8 (i : Int) : D := .v (.int .u8 i)
def X0 : FuncId → Option (List D → Option D) := fun _ => Option.none
theorem hX0 : ∀ f g, X0 f = some g → ∀ args res, g args = some res → Go.Dam.CallsD Tryz.prog f args res := fun f g h => by cases h

theorem part0 : Go.Dam.CallsD Tryz.prog 16 [.agg (partD 0 (.v (.slice Option.none 0 0)))] (i64 0) := FN_calls hX0 100000 20 16 _ _ (by kernel_rfl)

theorem part1 : Go.Dam.CallsD Tryz.prog 16 [.agg (partD 1 (.v (.slice Option.none 0 0)))] (i64 0) := FN_calls hX0 100000 20 16 _ _ (by kernel_rfl)

theorem part2 : Go.Dam.CallsD Tryz.prog 16 [.agg (partD 2 (.v (.slice Option.none 0 0)))] (i64 0) := FN_calls hX0 100000 20 16 _ _ (by kernel_rfl)

theorem part3 : Go.Dam.CallsD Tryz.prog 16 [.agg (partD 3 (.v (.slice Option.none 0 0)))] (i64 0) := FN_calls hX0 100000 20 16 _ _ (by kernel_rfl)

theorem part4 : Go.Dam.CallsD Tryz.prog 16 [.agg (partD 4 (.v (.slice Option.none 0 0)))] (i64 0) := FN_calls hX0 100000 20 16 _ _ (by kernel_rfl)

theorem part5 : Go.Dam.CallsD Tryz.prog 16 [.agg (partD 5 (.v (.slice Option.none 0 0)))] (i64 0) := FN_calls hX0 100000 20 16 _ _ (by kernel_rfl)

theorem part6 : Go.Dam.CallsD Tryz.prog 16 [.agg (partD 6 (.v (.slice Option.none 0 0)))] (i64 0) := FN_calls hX0 100000 20 16 _ _ (by kernel_rfl)

theorem part7 : Go.Dam.CallsD Tryz.prog 16 [.agg (partD 7 (.v (.slice Option.none 0 0)))] (i64 0) := FN_calls hX0 100000 20 16 _ _ (by kernel_rfl)

theorem part8 : Go.Dam.CallsD Tryz.prog 16 [.agg (partD 1 (.sh 1 [u32 0]))] (i64 0) := FN_calls hX0 100000 20 16 _ _ (by kernel_rfl)

theorem part9 : Go.Dam.CallsD Tryz.prog 16 [.agg (partD 1 (.sh 2 [u32 0, u32 1]))] (i64 0) := FN_calls hX0 100000 20 16 _ _ (by kernel_rfl)

theorem part10 : Go.Dam.CallsD Tryz.prog 16 [.agg (partD 1 (.sh 3 [u32 0, u32 1, u32 2]))] (i64 0) := FN_calls hX0 100000 20 16 _ _ (by kernel_rfl)

theorem part11 : Go.Dam.CallsD Tryz.prog 16 [.agg (partD 1 (.sh 4 [u32 0, u32 1, u32 2, u32 3]))] (i64 0) := FN_calls hX0 100000 20 16 _ _ (by kernel_rfl)

theorem part12 : Go.Dam.CallsD Tryz.prog 16 [.agg (partD 1 (.sh 5 [u32 0, u32 1, u32 2, u32 3, u32 4]))] (i64 0) := FN_calls hX0 100000 20 16 _ _ (by kernel_rfl)

theorem part13 : Go.Dam.CallsD Tryz.prog 16 [.agg (partD 1 (.sh 6 [u32 0, u32 1, u32 2, u32 3, u32 4, u32 5]))] (i64 0) := FN_calls hX0 100000 20 16 _ _ (by kernel_rfl)

theorem part14 : Go.Dam.CallsD Tryz.prog 16 [.agg (partD 1 (.sh 7 [u32 0, u32 1, u32 2, u32 3, u32 4, u32 5, u32 6]))] (i64 0) := FN_calls hX0 100000 20 16 _ _ (by kernel_rfl)

theorem part15 : Go.Dam.CallsD Tryz.prog 16 [.agg (partD 1 (.sh 8 [u32 0, u32 1, u32 2, u32 3, u32 4, u32 5, u32 6, u32 7]))] (i64 0) := FN_calls hX0 100000 20 16 _ _ (by kernel_rfl)

theorem part16 : Go.Dam.CallsD Tryz.prog 16 [.agg (partD 0 (.emp))] (i64 0) := FN_calls hX0 100000 20 16 _ _ (by kernel_rfl)

theorem part17 : Go.Dam.CallsD Tryz.prog 16 [.agg (partD 1 (.emp))] (i64 0) := FN_calls hX0 100000 20 16 _ _ (by kernel_rfl)

theorem part18 : Go.Dam.CallsD Tryz.prog 16 [.agg (partD 2 (.emp))] (i64 0) := FN_calls hX0 100000 20 16 _ _ (by kernel_rfl)

theorem part19 : Go.Dam.CallsD Tryz.prog 16 [.agg (partD 3 (.emp))] (i64 0) := FN_calls hX0 100000 20 16 _ _ (by kernel_rfl)

theorem part20 : Go.Dam.CallsD Tryz.prog 16 [.agg (partD 4 (.emp))] (i64 0) := FN_calls hX0 100000 20 16 _ _ (by kernel_rfl)

theorem part21 : Go.Dam.CallsD Tryz.prog 16 [.agg (partD 5 (.emp))] (i64 0) := FN_calls hX0 100000 20 16 _ _ (by kernel_rfl)

theorem part22 : Go.Dam.CallsD Tryz.prog 16 [.agg (partD 6 (.emp))] (i64 0) := FN_calls hX0 100000 20 16 _ _ (by kernel_rfl)

theorem part23 : Go.Dam.CallsD Tryz.prog 16 [.agg (partD 7 (.emp))] (i64 0) := FN_calls hX0 100000 20 16 _ _ (by kernel_rfl)

theorem parts : ∀ p ∈ revs, Go.Dam.CallsD Tryz.prog 16 [.agg (partD p.1 p.2)] (i64 0) := by
  intro p hp
  simp only [revs, List.mem_cons, List.not_mem_nil, or_false] at hp
  rcases hp with rfl | rfl | rfl | rfl | rfl | rfl | rfl | rfl | rfl | rfl | rfl | rfl | rfl | rfl | rfl | rfl | rfl | rfl | rfl | rfl | rfl | rfl | rfl | rfl
  · exact part0
  · exact part1
  · exact part2
  · exact part3
  · exact part4
  · exact part5
  · exact part6
  · exact part7
  · exact part8
  · exact part9
  · exact part10
  · exact part11
  · exact part12
  · exact part13
  · exact part14
  · exact part15
  · exact part16
  · exact part17
  · exact part18
  · exact part19
  · exact part20
  · exact part21
  · exact part22
  · exact part23

theorem isRev_spec {t : Int} {rev : D} : ∀ {l : List (Int × D)}, isRev t rev l = true → (t, rev) ∈ l
  | [], h => by cases h
  | p :: l, h => by
    simp only [isRev, Bool.or_eq_true, Bool.and_eq_true, decide_eq_true_eq] at h
    rcases h with ⟨h1, h2⟩ | h
    · obtain ⟨a, b⟩ := p
      simp only at h1 h2
      rw [← h1, ← same_eq _ _ h2]
      exact List.mem_cons_self
    · exact List.mem_cons_of_mem _ (isRev_spec h)
theorem known_spec {d : D} (h : known d = true) : Go.Dam.CallsD Tryz.prog 16 [d] (i64 0) := by
  unfold known at h
  split at h
  next t cs =>
    split at h
    next rev _ =>
      simp only [Bool.and_eq_true] at h
      rw [sameL_eq _ _ h.2]
      exact parts _ (isRev_spec h.1)
    · cases h
  · cases h
def tellC : List D → Option D
  | [d] => bif known d then some (i64 0) else FN Tryz.prog X0 100000 20 16 [d]
  | _ => Option.none
theorem tellC_calls {args : List D} {res : D} (h : tellC args = some res) : Go.Dam.CallsD Tryz.prog 16 args res := by
  unfold tellC at h
  split at h
  next d =>
    cases hk : known d with
    | true => rw [hk] at h; cases h; exact known_spec hk
    | false => rw [hk] at h; exact FN_calls hX0 100000 20 16 _ _ h
  · cases h
def X2 : FuncId → Option (List D → Option D) := fun f => bif Nat.beq f 16 then some tellC else Option.none
theorem hX2 : ∀ f g, X2 f = some g → ∀ args res, g args = some res → Go.Dam.CallsD Tryz.prog f args res := by
  intro f g h args res hr
  unfold X2 at h
  cases hb : Nat.beq f 16 with
  | false => rw [hb] at h; cases h
  | true =>
    rw [hb] at h
    have := Nat.eq_of_beq_eq_true hb
    subst this
    cases h
    exact tellC_calls hr


end
end Go.Proofs.YtoagadalegkloaaGreat.adminNames
