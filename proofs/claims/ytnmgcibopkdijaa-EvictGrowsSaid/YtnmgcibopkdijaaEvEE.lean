/- The functions of the folder evict: what they compute. No condition. -/
import Derived.Test.YtnmgcibopkdijaaDamEB
import Derived.Maps.RangeWalk
import Derived.Maps.OwnOps
import Derived.Maps.OwnSet
import Derived.Maps.AppendAt
import Derived.WalkKit
import Derived.Test.YtnmgcibopkdijaaProg
import Derived.RangeFuncBox
import Derived.RangeFuncLeaves
import Derived.Shelf.Abstract
import Derived.OwnWalkIn
import Derived.TacticsInMore
import Derived.LoopNIn
import Derived.LoopIn
import Derived.Maps.OwnIn
import Derived.Shelf.SlicesE.Delete
set_option linter.unusedSectionVars false
set_option linter.unusedVariables false
set_option linter.unusedSimpArgs false
section
namespace EvS
open Go Go.Proofs Go.RowKit Go.Maps
set_option maxRecDepth 100000
set_option linter.unusedVariables false
set_option linter.unusedSimpArgs false
theorem law50 : Keyed Try.prog 50 := int_keyed Try.underlying50
theorem zero3 (w : World) : (zeroValue 3).run Try.prog w = .ok (.int .i64 0) w := by kernel_rfl
/-- What a map of last uses reads as. -/
def KD {H : Type} (D : DataW H) (L : List Int) (f : Int → Int) : Prop :=
  IsMap D ∧ (∀ x, Maps.has D (.int .u32 x) = decide (x ∈ L)) ∧ ∀ x ∈ L, ∀ z, D.atKey (.int .u32 x) z = .lit (.int .i64 (f x))
theorem KD.start {H : Type} (f : Int → Int) : KD (H := H) (.map []) [] f := ⟨⟨_, rfl⟩, fun x => by simp [Maps.has], fun x h => by simp at h⟩
theorem KD.put {H : Type} {D : DataW H} {us : List Int} (h : KD D (lru us) (lastI us)) (k : Int) : KD (D.put (.int .u32 k) (.lit (.int .i64 (us.length : Int)))) (lru (us ++ [k])) (lastI (us ++ [k])) := by
  obtain ⟨h1, h2, h3⟩ := h
  refine ⟨h1.put _ _, fun x => ?_, fun x hx z => ?_⟩
  · by_cases e : x = k
    · subst e
      rw [has_put_same h1 (show WideAt.IsKeyLit (.int .u32 x) from trivial), lru_snoc]
      simp [ins]
    · rw [has_put_other (fun c => e (by simpa using c)), h2, lru_snoc]
      simp [mem_ins, e]
  · rw [lastI_snoc]
    by_cases e : x = k
    · subst e
      rw [atKey_put_same h1 (show WideAt.IsKeyLit (.int .u32 x) from trivial), if_pos rfl]
    · rw [atKey_put_other (fun c => e (by simpa using c)), if_neg e]
      rw [lru_snoc, mem_ins] at hx
      exact h3 x (hx.resolve_left e) z
set_option maxHeartbeats 1000000 in
theorem since_any {H : Type} (at_ : Int) (Bx b n : Nat) (D : DataW H) (L : List Int) (f : Int → Int) (w : World) (hc : w.cell? ⟨Bx, 0, none⟩ = some (.map (some b))) (hown : w.ownsMap Try.prog 50 (plainElem Try.prog 3) b n D)
    (hD : KD D L f) (hn : L.Nodup) (hl : L.length ≤ 1000) :
    Calls Try.prog 32 #[.int .i64 at_, .pointer (some ⟨Bx, 0, none⟩)] w fun e w' => e = .returned (.int .i64 ((L.countP fun k => decide (at_ < f k) : Nat) : Int)) ∧ w.grownBy w' none := by
  obtain ⟨hD1, hD2, hD3⟩ := hD
  go_enter Try.func32, Try.ntmps32
  go_wp2_with (first
    | (at_range; refine wpList_range_own _ rfl _ 68 rfl 50 3 law50 Try.underlying68 _ b n _ rfl hown ?_; intro w0 hrg0 hg0 hs0)
    | go_in)
  go_frame
  go_loopw [4, 6] (fun c _ wr => ∃ (left : Lit → Bool) (cnt : Nat), wr.ranges Try.prog 50 (plainElem Try.prog 3) b w.heap.size n D left cnt ∧ w.grownBy wr none ∧ (∀ x, left (.int .u32 x) = true → x ∈ L) ∧
      c = .int .i64 ((cntV L f at_ fun x => left (.int .u32 x) : Nat) : Int))
    (fun _ _ wr => wr.rangeLeft b w.heap.size)
  case atStart =>
    refine ⟨_, _, hrg0, hg0, fun x hx => by rw [hD2] at hx; simpa using hx, ?_⟩
    rw [cnt_start]
    · rfl
    · intro k hk; rw [hD2]; simpa using hk
  case round =>
    obtain ⟨left, cnt, hrg, hgw, hlL, rfl⟩ := hrel
    go_wp2_with (first
      | (at_next; refine wpList_next_ranges_ii _ rfl _ rfl 50 3 .u32 .i64 law50 Try.underlying50 Try.underlying3 b w.heap.size n _ _ _ rfl hrg ?_ ?_)
      | go_in)
    · intro _ hl0
      go_wp2
      go_ret
      rw [cnt_end (fun k => hl0 _)]
      exact ⟨rfl, hgw⟩
    · intro x c w1 cnt1 hwx hwc hlx hat hrg1 hlt hg1 hs1 hen
      have hgw1 := hgw.andThen hg1 (fun j hj => by cases hj; exact Or.inl (Nat.le_refl _))
      have hxL := hlL x hlx
      have hcf : c = f x := by
        have := hat (.lit (.int .i64 0)); rw [hD3 x hxL] at this
        simpa using this.symm
      subst hcf
      have hst := cnt_step (f := f) (a := at_) (left := fun x => left (.int .u32 x)) hn hxL hlx
      have hle := cnt_le (L := L) (f := f) (a := at_) (left := fun x => left (.int .u32 x))
      have hlf : (fun z : Int => left (.int .u32 z) && !(Lit.int .u32 z).sameKey (.int .u32 x)) = fun z => left (.int .u32 z) && !decide (z = x) := by
        funext z; simp [Lit.sameKey]
      go_wp2
      · go_roundw
        case rel =>
          refine ⟨_, _, hrg1, hgw1, fun z hz => hlL z (by simp only [Bool.and_eq_true] at hz; exact hz.1), ?_⟩
          have hg : at_ < f x := by assumption
          rw [hlf, hst, if_pos hg]
          go_num
        case measure => rw [hrg1.left_eq, hrg.left_eq]; exact hlt
      · go_roundw
        case rel =>
          refine ⟨_, _, hrg1, hgw1, fun z hz => hlL z (by simp only [Bool.and_eq_true] at hz; exact hz.1), ?_⟩
          have hg : f x ≤ at_ := by assumption
          rw [hlf, hst, if_neg (by omega)]
          rfl
        case measure => rw [hrg1.left_eq, hrg.left_eq]; exact hlt
theorem Try.info3x : (Try.prog.info? 3).map (fun i => (i.zero, i.size, i.bytes)) = some (some (.int .i64 0), 1, 8) := by kernel_rfl
theorem take_snoc (us : List Int) (k : Nat) (h : k < us.length) : us.take (k + 1) = us.take k ++ [us.getD k 0] := by
  rw [List.take_add_one, List.getElem?_eq_getElem h, List.getD_eq_getElem?_getD, List.getElem?_eq_getElem h]; rfl
theorem wf_getD {us : List Int} (h : ∀ x ∈ us, (Lit.int .u32 x).wf = true) (k : Nat) : (Lit.int .u32 (us.getD k 0)).wf = true := by
  rw [List.getD_eq_getElem?_getD]
  by_cases e : k < us.length
  · rw [List.getElem?_eq_getElem e]; exact h _ (List.getElem_mem e)
  · rw [List.getElem?_eq_none (by omega)]; rfl
theorem row_ne' {w : World} {base e size n : Nat} {v : Value} {xs : List Value} (h : w.ownsRow base e size v n xs) {b : Nat} (hb : b < base) : some b ≠ v.ownBlock := fun e1 => by
  have := (h.lt b e1.symm).1
  omega
set_option maxHeartbeats 4000000 in
theorem reaches_any (b off len cap : Nat) (us : List Int) (w : World) (hl : len ≤ us.length) (hn : len ≤ 200) (hb : b < w.heap.size)
    (hc : ∀ j, j < len → w.cell? ⟨b, off + j, none⟩ = some (.int .u32 (us.getD j 0))) (hw : ∀ x ∈ us, (Lit.int .u32 x).wf = true) :
    Calls Try.prog 26 #[.slice (some ⟨b, off, none⟩) len cap] w fun e w' => ∃ v, e = .returned v ∧ w'.ownsRow (w.heap.size + 2) 3 1 v len ((reachL (us.take len)).map (Value.int .i64)) ∧ Below w.heap.size w w' := by
  have hmm := @run_makeMap Try.prog
  obtain ⟨i0, hi, hz0, hz1, hz2⟩ := info_parts Try.info3x
  go_enter Try.func26, Try.ntmps26
  go_wp2
  go_loopw [5, 14] (fun v i wr => ∃ (k : Nat) (D : DataW Unit), k ≤ len ∧ i = .int .i64 k ∧ KD D (lru (us.take k)) (lastI (us.take k)) ∧ wr.ownsMap Try.prog 50 (plainElem Try.prog 3) w.heap.size k D ∧
      wr.ownsRow (w.heap.size + 2) 3 1 v k ((reachL (us.take k)).map (Value.int .i64)) ∧ wr.cell? ⟨w.heap.size + 1, 0, none⟩ = some (.map (some w.heap.size)) ∧ Below w.heap.size w wr ∧ w.heap.size + 2 ≤ wr.heap.size)
    (fun _ i _ => len - (intOf i).toNat)
  case atStart =>
    refine ⟨0, .map [], Nat.zero_le _, rfl, KD.start _, (World.ownsMap_made _ _ _ _).alloc _, World.ownsRow_nil _ _ _ _, by simp, ((Below.refl _ _).alloc (Nat.le_refl _) _).alloc (by simp) _, by simp⟩
  case round =>
    obtain ⟨k, D, hk, rfl, hKD, hown, hrow, hbox, hnx, hws⟩ := hrel
    have hcx : k < len → wr.cell? ⟨b, off + k, none⟩ = some (.int .u32 (us.getD k 0)) := fun h => (hnx.cell (by exact hb)).trans (hc k h)
    have hkey : keyOf Try.prog 50 (.int .u32 (us.getD k 0)) = some (.int .u32 (us.getD k 0)) := keyOf_int_mk Try.underlying50 (wf_getD hw k)
    have hwk : ∀ k : Nat, k ≤ 300 → (Lit.int .i64 (k : Int)).wf = true := fun k h => WalkArith.wf_i64 (by omega)
    have hlr : (lru (us.take k)).length ≤ 1000 := by have := lru_le (us.take k); rw [List.length_take] at this; omega
    go_wp2_with (first
      | (at_lookup; refine wpList_lookup_own_ok_int _ rfl _ _ 68 rfl 50 3 .i64 law50 Try.underlying68 Try.underlying3 (zero3 _) w.heap.size k _ rfl hown _ _ rfl hkey ?_; intro c hat hwc)
      | (go_at_call 32; refine (since_any (H := Unit) _ (w.heap.size + 1) w.heap.size k D (lru (us.take k)) (lastI (us.take k)) wr hbox hown hKD (lru_nodup _) hlr).mono ?_; rintro e w1 ⟨rfl, hg1⟩)
      | (at_builtin; refine wpList_append_own _ rfl _ _ 33 rfl (w.heap.size + 2) 3 i0 (.int .i64 0) 1 8 Try.underlying33 hi hz0 hz1 hz2 rfl (by decide) _ _ _ rfl ((hrow.kept hg1 (by cases hv : Value.ownBlock _ <;> simp)).alloc _) ⟨w1.heap.size, 0, none⟩ 1 1 [.int .i64 _] rfl rfl (cell_one_new _ _ _) (ints_oneCell .i64 [_]) (by unfold maxLen; omega) (by omega) (by have := hg1.size; simp at this ⊢; omega) ?_; intro v' w2 hown' hgrow2 hnil2
         have hbox2 := hgrow2.cell ((World.grownBy_alloc w1 (.cells #[.int .i64 _] 3) none).cell (hg1.cell hbox (by simp)) (by simp)) (row_ne' hrow (by simp))
         have hown2 := ((hown.kept hg1 (by simp)).alloc (.cells #[.int .i64 _] 3)).kept hgrow2 (row_ne' hrow (by simp)))
      | (at_builtin; refine wpList_append_own _ rfl _ _ 33 rfl (w.heap.size + 2) 3 i0 (.int .i64 0) 1 8 Try.underlying33 hi hz0 hz1 hz2 rfl (by decide) _ _ _ rfl (hrow.alloc _) ⟨wr.heap.size, 0, none⟩ 1 1 [.int .i64 (-1)] rfl rfl (cell_one_new _ _ _) (ints_oneCell .i64 [-1]) (by unfold maxLen; omega) (by omega) (by simp; omega) ?_; intro v' w2 hown' hgrow2 hnil2
         have hbox2 := hgrow2.cell ((World.grownBy_alloc wr (.cells #[.int .i64 (-1)] 3) none).cell hbox (by simp)) (row_ne' hrow (by simp))
         have hown2 := (hown.alloc (.cells #[.int .i64 (-1)] 3)).kept hgrow2 (row_ne' hrow (by simp)))
      | (at_mapUpdate; refine wpList_mapUpdate_own _ rfl _ _ _ 68 rfl 50 3 law50 Try.underlying68 _ w.heap.size k _ rfl hown2 (by unfold maxLen; omega) _ _ _ rfl rfl hkey _ [] (plainElem_int Try.underlying3 (hwk k (by omega))) ?_; intro w3 hown3 hgrow3)
      | go_in)
    · have hlt : k < len := by assumption
      have hhas : Maps.has D (.int .u32 (us[k]?.getD 0)) = true := by assumption
      rw [← List.getD_eq_getElem?_getD, hKD.2.1] at hhas
      have hmem : us.getD k 0 ∈ lru (us.take k) := by simpa using hhas
      have hcl : c = lastI (us.take k) (us.getD k 0) := by
        have := hat; rw [hKD.2.2 _ hmem] at this
        simpa using this.symm
      have hr3 := (hown'.kept hgrow3 (.inr (row_ne' hown' (by omega)).symm))
      have s1 := hg1.size
      have s2 := hgrow2.size
      have s3 := hgrow3.size
      simp at s2
      have htk : (us.take k).length = k := by rw [List.length_take]; omega
      have hput := hKD.put (us.getD k 0)
      rw [htk] at hput
      go_roundw
      case rel =>
        refine ⟨k + 1, _, by omega, by go_num, by rw [take_snoc us k (by omega)]; exact hput, hown3, ?_, hgrow3.cell hbox2 (by simp), ?_, by omega⟩
        · rw [take_snoc us k (by omega), reachL_snoc, List.map_append, ← rc_count (mem_lru.1 hmem), ← hcl]
          exact hr3
        · have n1 := hnx.grown hg1 hnx.size (fun j hj => by cases hj)
          have n2 := (n1.alloc (by omega) (.cells #[.int .i64 _] 3)).grown hgrow2 (by simp; omega) (fun j hj => by have := (hrow.lt j hj).1; omega)
          exact n2.grown hgrow3 (by omega) (fun j hj => by cases hj; exact Nat.le_refl _)
      case measure => simp [intOf]; omega
    · have hlt : k < len := by assumption
      have hhas : Maps.has D (.int .u32 (us[k]?.getD 0)) = false := by assumption
      rw [← List.getD_eq_getElem?_getD, hKD.2.1] at hhas
      have hmem : us.getD k 0 ∉ us.take k := by simpa [mem_lru] using hhas
      have hr3 := (hown'.kept hgrow3 (.inr (row_ne' hown' (by omega)).symm))
      have s2 := hgrow2.size
      have s3 := hgrow3.size
      simp at s2
      have htk : (us.take k).length = k := by rw [List.length_take]; omega
      have hput := hKD.put (us.getD k 0)
      rw [htk] at hput
      go_roundw
      case rel =>
        refine ⟨k + 1, _, by omega, by go_num, by rw [take_snoc us k (by omega)]; exact hput, hown3, ?_, hgrow3.cell hbox2 (by simp), ?_, by omega⟩
        · rw [take_snoc us k (by omega), reachL_snoc, List.map_append]
          have : rc (us.take k) (us.getD k 0) = -1 := by unfold rc; rw [if_neg hmem]
          rw [this]
          exact hr3
        · have n2 := (hnx.alloc (by omega) (.cells #[.int .i64 (-1)] 3)).grown hgrow2 (by simp; omega) (fun j hj => by have := (hrow.lt j hj).1; omega)
          exact n2.grown hgrow3 (by omega) (fun j hj => by cases hj; exact Nat.le_refl _)
      case measure => simp [intOf]; omega
    · have : k = len := by omega
      subst this
      go_ret
      exact ⟨_, rfl, hrow, hnx⟩
set_option maxHeartbeats 1000000 in
theorem reaches_none (a : Option Addr) (cap : Nat) (w : World) : Calls Try.prog 26 #[.slice a 0 cap] w fun e w' => e = .returned (.slice none 0 0) ∧ Below w.heap.size w w' := by
  have hmm := @run_makeMap Try.prog
  go_enter Try.func26, Try.ntmps26
  go_wp2
  refine wp_loop_rounds 1 ?_
  rw [rounds_succ]
  go_wp2
  go_ret
  exact ⟨rfl, ((Below.refl _ _).alloc (Nat.le_refl _) _).alloc (by simp) _⟩
open Go.Dam in
/-- Keys in their range. -/
def okU (us : List Int) : Prop := ∀ x ∈ us, (Lit.int .u32 x).wf = true
section
open Go.Dam
variable [Glo]
theorem rc_ok (us : List Int) (h : us.length ≤ 200 ∧ okU us) : CallsD Try.prog 26 [.rc [.ints .u32 us]] (.oc [.ints .i64 (reachL us)]) := by
  obtain ⟨hn, hw⟩ := h
  intro w A vs hv low glo
  simp only [RepL] at hv
  obtain ⟨u, xs, rfl, hu, rfl⟩ := hv
  obtain ⟨o, cp, rfl, hcp, hx⟩ := open_ri hu
  by_cases e0 : us.length = 0
  · have : us = [] := List.length_eq_zero_iff.1 e0
    subst this
    refine (reaches_none o cp w).mono ?_
    rintro e w' ⟨rfl, hB⟩
    refine ⟨_, A, [none], rfl, ?_, ⟨fun ad h => by simp at h, by simp⟩, fun k h => h, fun k h => Nat.lt_of_lt_of_le (low k h) hB.size, fun k h _ => h, hB⟩
    simp only [RepO]
    exact ⟨none, 0, rfl, .inl ⟨rfl, rfl, rfl, trivial⟩⟩
  · obtain ⟨b, off, rfl, hb, hc⟩ := hx e0
    refine (reaches_any b off us.length cp us w (Nat.le_refl _) hn (low b hb) hc hw).mono ?_
    rintro e w' ⟨v, rfl, hown, hB⟩
    rw [List.take_length] at hown
    obtain ⟨bl, h1, h2⟩ := repO_own (A := A) (cols := [.ints .i64 (reachL us)]) (by simp) (by simpa [rowLen0, Col0.len, reachL_len] using hown) (rowCells0_one_ints _ _)
    exact ⟨v, A, bl, rfl, h1, h2.fresh (by omega) low, fun k h => h, fun k h => Nat.lt_of_lt_of_le (low k h) hB.size, fun k h _ => h, hB⟩
end
end EvS
end

section
namespace EvS
open Go Go.Proofs Go.RowKit Go.Maps Go.Shelf
set_option maxRecDepth 100000
set_option linter.unusedVariables false
set_option linter.unusedSimpArgs false
attribute [local go_sem] Oper.semAt_some
/-- A key in its range. -/
abbrev U32 := { x : Int // (Lit.int .u32 x).wf = true }
def U0 : U32 := ⟨0, rfl⟩
/-- What has come when k rounds are over. -/
def upto {α : Type} (f : Nat → α) (k : Nat) : List α := (List.range k).map f
theorem upto_succ {α : Type} (f : Nat → α) (k : Nat) : upto f (k + 1) = upto f k ++ [f k] := by simp [upto, List.range_succ]
theorem upto_length {α : Type} (f : Nat → α) (k : Nat) : (upto f k).length = k := by simp [upto]
/-- What a round keeps: what lay below a number, and one more block. -/
def KeepB (n₀ Bs : Nat) (W W' : World) : Prop := Below n₀ W W' ∧ W'.heap[Bs]? = W.heap[Bs]?
theorem KeepB.trans {n₀ Bs : Nat} {A B C : World} (h : KeepB n₀ Bs A B) (k : KeepB n₀ Bs B C) : KeepB n₀ Bs A C := ⟨h.1.trans k.1, k.2.trans h.2⟩
theorem KeepB.put {n₀ Bs m : Nat} (hn : n₀ ≤ m) (hB : Bs < m) (W : World) (l : Nat) (o o' : Obj) (hl : m ≤ l) (hb : W.heap[l]? = some o) (h1 : o.isCells = false) (h2 : o.isWalk = false) : KeepB n₀ Bs W (W.putObj l o') :=
  ⟨(Below.refl n₀ W).grown (grownBy_putObj' W l o') (by have := (Array.getElem?_eq_some_iff.1 hb).1; omega) (fun k e => by cases e; omega), World.putObj_heap_other (by omega)⟩
/-- The j-th use from behind, with its index. -/
def backF (len : Nat) (us : List U32) (j : Nat) : Nat × U32 := (len - 1 - j, us.getD (len - 1 - j) U0)
set_option maxHeartbeats 2000000 in
theorem back1_in (F : Fence) (n : Nat) (h : F.fn 31) (hro : F.round = none) (hn : 1 ≤ n) (l Bs n₀ b off len cap : Nat) (us : List U32) (hreach : len * 8 ≤ 140737488351232) (hb : b < n₀) (J Jx : List (Nat × U32) → World → Prop)
    (hY : ∀ pre x W, J pre W → pre.length < len → YieldAt F (n - 1) Try.prog l #[.int .i64 (x.1 : Int), .int .u32 x.2.1] W fun e W' =>
      (e = .returned (.bool true) ∧ J (pre ++ [x]) W' ∧ KeepB n₀ Bs W W') ∨ (e = .returned (.bool false) ∧ Jx (pre ++ [x]) W'))
    (W : World) (hBs : W.cell? ⟨Bs, 0, none⟩ = some (.slice (some ⟨b, off, none⟩) len cap)) (hc : ∀ j, j < len → W.cell? ⟨b, off + j, none⟩ = some (.int .u32 (us.getD j U0).1)) (h0 : J [] W) :
    CallsIn F n Try.prog 31 #[.func (.yield l) #[] #[], .pointer (some ⟨Bs, 0, none⟩)] W fun e W' => (∃ v, e = .returned v) ∧
      ((∃ ys, ys = upto (backF len us) len ∧ J ys W') ∨ (∃ pre, (∃ k, k ≤ len ∧ pre = upto (backF len us) k) ∧ Jx pre W')) := by
  refine callsIn_of_wp Try.func31 rfl h ?_ hro
  simp only [Try.ntmps31, List.size_toArray, List.length_cons, List.length_nil, Nat.reduceAdd, Nat.reduceSub, Array.replicate_succ, Array.replicate_zero, List.push_toArray, List.append_toArray, List.nil_append, List.cons_append]
  gi_wp2
  gi_loopw [3] (fun i wr => ∃ k : Nat, k ≤ len ∧ i = .int .i64 ((len : Int) - 1 - k) ∧ J (upto (backF len us) k) wr ∧ KeepB n₀ Bs W wr)
    (fun i _ => (intOf i + 1).toNat)
  case atStart => exact ⟨0, Nat.zero_le _, by go_num, h0, Below.refl _ _, rfl⟩
  case round =>
    obtain ⟨k, hk, rfl, hJs, hnx⟩ := hrel
    by_cases hlt : k < len
    · obtain ⟨m, hm⟩ : ∃ m : Nat, m + k + 1 = len := ⟨len - 1 - k, by omega⟩
      have hi : ((len : Int) - 1 - k) = (m : Int) := by omega
      rw [hi]
      have hcx : wr.cell? ⟨b, off + m, none⟩ = some (.int .u32 (us.getD m U0).1) := (hnx.1.cell (p := ⟨b, off + m, none⟩) hb).trans (hc m (by omega))
      have hbx : wr.cell? ⟨Bs, 0, none⟩ = some (.slice (some ⟨b, off, none⟩) len cap) := (World.cell?_of_block (a := ⟨Bs, 0, none⟩) hnx.2).trans hBs
      have hbf : backF len us k = (m, us.getD m U0) := by unfold backF; rw [show len - 1 - k = m by omega]
      obtain ⟨fn, tmps, assign, body, hy, hR⟩ := hY _ (m, us.getD m U0) wr hJs (by rw [upto_length]; exact hlt)
      dsimp only at hy
      generalize us.getD m U0 = um at *
      have hml : m < len := by omega
      gi_wp2
      refine hR.mono ?_
      rintro e W3 (⟨rfl, hJ3, hk3⟩ | ⟨rfl, hJx3⟩)
      · gi_wp2
        go_roundw
        case rel => exact ⟨k + 1, by omega, by go_num, by rw [upto_succ, hbf]; exact hJ3, hnx.trans hk3⟩
        case measure => simp [intOf]
      · gi_wp2
        refine bodyPost_ret (results_none rfl _ _ _) rfl ?_
        exact ⟨⟨_, rfl⟩, .inr ⟨_, ⟨k + 1, by omega, by rw [upto_succ, hbf]⟩, hJx3⟩⟩
    · obtain rfl : k = len := by omega
      have hi : ((k : Int) - 1 - k) = -1 := by omega
      rw [hi]
      gi_wp2
      go_end0
      exact ⟨⟨_, rfl⟩, .inl ⟨_, rfl, hJs⟩⟩
set_option maxHeartbeats 1000000 in
theorem back1_nil_in (F : Fence) (n : Nat) (h : F.fn 31) (hro : F.round = none) (l Bs : Nat) (a : Option Addr) (cap : Nat) (J : List (Nat × U32) → World → Prop) (W : World) (hBs : W.cell? ⟨Bs, 0, none⟩ = some (.slice a 0 cap)) (h0 : J [] W) :
    CallsIn F n Try.prog 31 #[.func (.yield l) #[] #[], .pointer (some ⟨Bs, 0, none⟩)] W fun e W' => (∃ v, e = .returned v) ∧ J [] W' := by
  refine callsIn_of_wp Try.func31 rfl h ?_ hro
  simp only [Try.ntmps31, List.size_toArray, List.length_cons, List.length_nil, Nat.reduceAdd, Nat.reduceSub, Array.replicate_succ, Array.replicate_zero, List.push_toArray, List.append_toArray, List.nil_append, List.cons_append]
  gi_wp2
  gi_loopw [3] (fun i wr => i = .int .i64 (-1) ∧ J [] wr) (fun _ _ => 0)
  case atStart => exact ⟨by go_num, h0⟩
  case round =>
    obtain ⟨rfl, hJs⟩ := hrel
    gi_wp2
    go_end0
    exact ⟨⟨_, rfl⟩, hJs⟩
set_option maxHeartbeats 1000000 in
theorem back_in (F : Fence) (n : Nat) (h : F.fn 22) (hro : F.round = none) (a : Option Addr) (len cap : Nat) (w : World) :
    CallsIn F n Try.prog 22 #[.slice a len cap] w fun e w' => e = .returned (.func (.func 31) #[] #[.pointer (some ⟨w.heap.size, 0, none⟩)]) ∧ w' = w.alloc (.cells #[.slice a len cap] 22) := by
  refine callsIn_of_wp Try.func22 rfl h ?_ hro
  simp only [Try.ntmps22, List.size_toArray, List.length_cons, List.length_nil, Nat.reduceAdd, Nat.reduceSub, Array.replicate_succ, Array.replicate_zero, List.push_toArray, List.append_toArray, List.nil_append, List.cons_append]
  gi_wp2
  go_ret
  exact ⟨rfl, rfl⟩
/-- A slice of keys. -/
def Keys (n₀ : Nat) (W : World) (a : Option Addr) (len : Nat) (us : List U32) : Prop := len = 0 ∨ ∃ b off, a = some ⟨b, off, none⟩ ∧ b < n₀ ∧ ∀ j, j < len → W.cell? ⟨b, off + j, none⟩ = some (.int .u32 (us.getD j U0).1)
theorem back_stops (F : Fence) (n : Nat) (h : F.fn 31) (hro : F.round = none) (hn : 1 ≤ n) (Bs n₀ len cap : Nat) (a : Option Addr) (us : List U32) (hreach : len * 8 ≤ 140737488351232) (w : World) (hBs : Bs < w.heap.size) (hn₀ : n₀ ≤ w.heap.size)
    (hc : w.cell? ⟨Bs, 0, none⟩ = some (.slice a len cap)) (hI : Keys n₀ w a len us) :
    SeqStopsK F n Try.prog 31 #[.pointer (some ⟨Bs, 0, none⟩)] (fun x : Nat × U32 => #[Value.int .i64 (x.1 : Int), Value.int .u32 x.2.1]) (KeepB n₀ Bs) (fun ys => ys = upto (backF len us) len)
      (fun pre => ∃ k, k ≤ len ∧ pre = upto (backF len us) k) len w := fun l J Jx W hW _ _ hY h0 => by
  have hc' := (hW.cell (p := ⟨Bs, 0, none⟩) (by exact hBs)).trans hc
  rcases hI with rfl | ⟨b, off, rfl, hb, hcs⟩
  · exact (back1_nil_in F n h hro l Bs a cap J W hc' h0).mono fun e W' ⟨he, hj⟩ => ⟨he, .inl ⟨_, rfl, hj⟩⟩
  · exact back1_in F n h hro hn l Bs n₀ b off len cap us hreach hb J Jx hY W hc' (fun j hj => ((hW.cell (p := ⟨b, off + j, none⟩) (by exact Nat.lt_of_lt_of_le hb hn₀)).trans (hcs j hj))) h0
def chkV (c : Int) (len : Nat) : Int := if c < 1 ∨ 8 < c then 2 else if 60 < len then 4 else 0
set_option maxHeartbeats 1000000 in
theorem chk_in (F : Fence) (n : Nat) (h : F.fn 21) (hro : F.round = none) (c : Int) (a : Option Addr) (len cap : Nat) (w : World) :
    CallsIn F n Try.prog 21 #[.int .i64 c, .slice a len cap] w fun e w' => e = .returned (.int .i64 (chkV c len)) ∧ w' = w := by
  refine callsIn_of_wp Try.func21 rfl h ?_ hro
  simp only [Try.ntmps21, List.size_toArray, List.length_cons, List.length_nil, Nat.reduceAdd, Nat.reduceSub, Array.replicate_succ, Array.replicate_zero, List.push_toArray, List.append_toArray, List.nil_append, List.cons_append]
  gi_wp2
  all_goals
    go_ret
    refine ⟨?_, rfl⟩
    simp only [chkV]
    repeat' split
    all_goals first | rfl | (exfalso; omega)
theorem zero4 (w : World) : (zeroValue 4).run Try.prog w = .ok (.bool false) w := by kernel_rfl
/-- A look-up in a map of truth values. -/
theorem wpListIn_lookup_own_bool {H : Type} {F : Fence} {nF : Nat} {P : Program} (w : World) {ops : Array Oper} {rest : List Oper} {o : Oper} {a : Act} {Q : Exit → Act → World → Prop}
    (hg : o.guard = none) (m x : Operand) (t : TypeId) (hop : o.op = Op.lookup t m x false)
    (k e : TypeId) (K : Keyed P k) (ht : P.underlying t = some (.map k e)) (he : P.underlying e = some .bool) (hz : (zeroValue e).run P w = .ok (.bool false) w) (b n : Nat) (D : DataW H)
    (hm : a.eval m = .map (some b)) (hown : w.ownsMap P k (plainElem P e) b n D) (key : Value) (kl : Lit) (hx : a.eval x = key) (hkey : keyOf P k key = some kl)
    (hK : ∀ c : Bool, D.atKey kl (.lit (.bool false)) = .lit (.bool c) → wpListIn F nF P ops Q rest (a.put o.dst (.bool c)) w) :
    wpListIn F nF P ops Q (o :: rest) a w := by
  refine wpListIn_plain hg fun K' hK' => ?_
  obtain ⟨v, ps, hrun, hv⟩ := hown.lookup K ht hz (plainElem_bool he false) hkey
  obtain ⟨c, rfl, hat⟩ : ∃ c, v = .bool c ∧ D.atKey kl (.lit (.bool false)) = .lit (.bool c) := by
    unfold plainElem at hv
    rw [he] at hv
    cases v <;> simp at hv
    exact ⟨_, rfl, hv.1.symm⟩
  unfold Oper.wpIn
  refine ⟨by simp [Oper.about, hop], ?_⟩
  rw [Oper.semAt_plain F _ _ (by rw [hop]; intro c hc'; cases hc')]
  simp [execOp, hop, hm, hx, hrun, Result.andThen]
  exact hK' _ _ (hK c hat)
/-- The keys that were seen. -/
def SD {H : Type} (D : DataW H) (pre : List Int) : Prop := IsMap D ∧ ∀ x, D.atKey (.int .u32 x) (.lit (.bool false)) = .lit (.bool (decide (x ∈ pre)))
theorem SD.start {H : Type} : SD (H := H) (.map []) [] := ⟨⟨_, rfl⟩, fun x => by simp [DataW.atKey]⟩
theorem SD.put {H : Type} {D : DataW H} {pre : List Int} (h : SD D pre) (k : Int) : SD (D.put (.int .u32 k) (.lit (.bool true))) (pre ++ [k]) := by
  refine ⟨h.1.put _ _, fun x => ?_⟩
  by_cases e : x = k
  · subst e; rw [atKey_put_same h.1 (show WideAt.IsKeyLit (.int .u32 x) from trivial)]; simp
  · rw [atKey_put_other (fun c => e (by simpa using c)), h.2]; simp [e]
theorem row_ne2 {w : World} {base e size n : Nat} {v : Value} {xs : List Value} (h : w.ownsRow base e size v n xs) {b : Nat} (hb : b < base) : some b ≠ v.ownBlock := fun e1 => by
  have := (h.lt b e1.symm).1
  omega
theorem row_shape {w : World} {base e size n : Nat} {v : Value} {xs : List Value} (h : w.ownsRow base e size v n xs) : ∃ o cap, v = .slice o n cap := by
  rcases h.2 with ⟨rfl, rfl⟩ | ⟨g, cap, _, rfl, _⟩
  · exact ⟨_, _, rfl⟩
  · exact ⟨_, _, rfl⟩
theorem row_weak {w : World} {base base' e size n : Nat} {v : Value} {xs : List Value} (h : w.ownsRow base e size v n xs) (hb : base' ≤ base) : w.ownsRow base' e size v n xs := by
  refine ⟨h.1, ?_⟩
  rcases h.2 with h | ⟨g, cap, cur, h1, h2, h3⟩
  · exact .inl h
  · exact .inr ⟨g, cap, cur, h1, Nat.le_trans hb h2, h3⟩
def keysOf (pre : List (Nat × U32)) : List Int := pre.map fun p => p.2.1
theorem Try.info50x : (Try.prog.info? 50).map (fun i => (i.zero, i.size, i.bytes)) = some (some (.int .u32 0), 1, 4) := by kernel_rfl
set_option maxHeartbeats 2000000 in
theorem order_bad (F : Fence) (n : Nat) (h6 : F.fn 6) (h21 : F.fn 21) (hro : F.round = none) (hn : 3 ≤ n) (c : Int) (a : Option Addr) (len cap : Nat) (w : World) (hb : chkV c len ≠ 0) :
    CallsIn F n Try.prog 6 #[.int .i64 c, .slice a len cap] w fun e W' => e = .returned (.tuple #[.slice none 0 0, .int .i64 (chkV c len)]) ∧ Below w.heap.size w W' := by
  refine callsIn_of_wp Try.func6 rfl h6 ?_ hro
  simp only [Try.ntmps6, List.size_toArray, List.length_cons, List.length_nil, Nat.reduceAdd, Nat.reduceSub, Array.replicate_succ, Array.replicate_zero, List.push_toArray, List.append_toArray, List.nil_append, List.cons_append]
  have h1 : 1 ≤ n := by omega
  generalize hv : chkV c len = e0 at *
  gi_wp2_with (gi_at_call 21; refine (chk_in F (n - 1) h21 hro c a len cap _).mono ?_; rintro e w' ⟨rfl, rfl⟩)
  go_ret2
  exact ⟨rfl, (Below.refl _ _).alloc (Nat.le_refl _) _⟩
theorem lru_back (us : List U32) (len : Nat) (h : len = us.length) : dd (keysOf (upto (backF len us) len)) = lru (us.map fun u => u.1) := by
  unfold lru
  congr 1
  apply List.ext_getElem?
  intro i
  subst h
  by_cases e : i < us.length
  · rw [List.getElem?_reverse (by simpa using e)]
    simp [keysOf, upto, backF, e, List.getD_eq_getElem?_getD]
    rw [List.getElem?_eq_getElem (by omega)]; rfl
  · rw [List.getElem?_eq_none (by simp [keysOf, upto]; omega), List.getElem?_eq_none (by simp; omega)]
theorem keysOf_snoc (pre : List (Nat × U32)) (x : Nat × U32) : keysOf (pre ++ [x]) = keysOf pre ++ [x.2.1] := by simp [keysOf]
set_option maxHeartbeats 4000000 in
theorem order_in (F : Fence) (n : Nat) (h6 : F.fn 6) (h21 : F.fn 21) (h22 : F.fn 22) (h31 : F.fn 31) (hro : F.round = none) (hn : 3 ≤ n) (c : Nat) (a : Option Addr) (len cap : Nat) (us : List U32) (w : World) (hb : chkV c len = 0)
    (hlen : len = us.length) (hI : Keys w.heap.size w a len us) :
    CallsIn F n Try.prog 6 #[.int .i64 c, .slice a len cap] w fun e W' => ∃ v, e = .returned (.tuple #[v, .int .i64 0]) ∧
      W'.ownsRow w.heap.size 50 1 v (lruN c (us.map fun u => u.1)).length ((lruN c (us.map fun u => u.1)).map (Value.int .u32)) ∧ Below w.heap.size w W' := by
  have hl60 : len ≤ 60 := by unfold chkV at hb; repeat' split at hb; all_goals omega
  have hfin := lru_back us len hlen
  have h1 : 1 ≤ n := by omega
  have hmm := @run_makeMap Try.prog
  obtain ⟨i0, hi, hz0, hz1, hz2⟩ := info_parts Try.info50x
  refine callsIn_of_wp_marks Try.func6 rfl h6 ?_ hro
  simp only [Try.ntmps6, List.size_toArray, List.length_cons, List.length_nil, Nat.reduceAdd, Nat.reduceSub, Array.replicate_succ, Array.replicate_zero, List.push_toArray, List.append_toArray, List.nil_append, List.cons_append]
  clear hlen
  gi_wp2_with (first | (gi_at_call 21; refine (chk_in F (n - 1) h21 hro c a len cap _).mono ?_; rw [hb]; rintro e w' ⟨rfl, rfl⟩) | (gi_at_call 22; refine (back_in F (n - 1) h22 hro _ _ _ _).mono ?_; rintro e w' ⟨rfl, rfl⟩))
  have bC := Boxed.new w 3 (.int .i64 c)
  have bS := Boxed.new ((w.alloc (.cells #[.int .i64 c] 3)).alloc (.map #[] 0)) 55 (.map (some (w.heap.size + 1)))
  have bO := Boxed.new (((w.alloc (.cells #[.int .i64 c] 3)).alloc (.map #[] 0)).alloc (.cells #[.map (some (w.heap.size + 1))] 55)) 22 (.slice none 0 0)
  have bN := Boxed.new ((((w.alloc (.cells #[.int .i64 c] 3)).alloc (.map #[] 0)).alloc (.cells #[.map (some (w.heap.size + 1))] 55)).alloc (.cells #[.slice none 0 0] 22)) 22 (.slice a len cap)
  have hm0 := World.ownsMap_made (H := Unit) (w.alloc (.cells #[.int .i64 c] 3)) Try.prog 50 (plainElem Try.prog 4)
  simp only [World.size_alloc] at bS bO bN hm0
  have hB0 : Below w.heap.size w (((((w.alloc (.cells #[.int .i64 c] 3)).alloc (.map #[] 0)).alloc (.cells #[.map (some (w.heap.size + 1))] 55)).alloc (.cells #[.slice none 0 0] 22)).alloc (.cells #[.slice a len cap] 22)) :=
    (((((Below.refl _ w).alloc (Nat.le_refl _) _).alloc (by simp) _).alloc (by simp; omega) _).alloc (by simp; omega) _).alloc (by simp; omega) _
  have hI' : Keys w.heap.size (((((w.alloc (.cells #[.int .i64 c] 3)).alloc (.map #[] 0)).alloc (.cells #[.map (some (w.heap.size + 1))] 55)).alloc (.cells #[.slice none 0 0] 22)).alloc (.cells #[.slice a len cap] 22)) a len us := by
    rcases hI with h | ⟨b, off, h1, h2, h3⟩
    · exact .inl h
    · exact .inr ⟨b, off, h1, h2, fun j hj => (hB0.cell (p := ⟨b, off + j, none⟩) h2).trans (h3 j hj)⟩
  refine wpIn_rangeFunc_ownG hro h1 (gf := 31) (lb := #[.pointer (some ⟨w.heap.size + 1 + 1 + 1 + 1, 0, none⟩)]) rfl h31 (enters_of Try.func31 (by kernel_rfl) rfl)
    (back_stops F (n - 1) h31 hro (by omega) (w.heap.size + 1 + 1 + 1 + 1) w.heap.size len cap a us (by omega) _ (by simp) (by simp; omega) bN.cell hI') KeepB.trans (KeepB.put (by simp; omega) (by simp)) (Below.refl _ _) (fun _ => rfl)
    (fun pre W => (W.cell? ⟨w.heap.size, 0, none⟩ = some (.int .i64 c) ∧ W.cell? ⟨w.heap.size + 1 + 1, 0, none⟩ = some (.map (some (w.heap.size + 1))) ∧
        (∃ D : DataW Unit, SD D (keysOf pre) ∧ W.ownsMap Try.prog 50 (plainElem Try.prog 4) (w.heap.size + 1) pre.length D) ∧
        (∃ v, Boxed W (w.heap.size + 1 + 1 + 1) 22 v ∧ W.ownsRow (w.heap.size + 5) 50 1 v ((dd (keysOf pre)).take c).length (((dd (keysOf pre)).take c).map (Value.int .u32)) ∧ True) ∧ w.heap.size + 5 ≤ W.heap.size) ∧ Below w.heap.size w W)
    (fun _ _ _ => False)
    (OwnFrom.and (fun s A B row hs hg hr => ⟨cell_kept hs.1 hg (fun r e => (hr r e).2), cell_kept hs.2.1 hg (fun r e => (hr r e).2), (by
        obtain ⟨D, h1, h2⟩ := hs.2.2.1
        exact ⟨D, h1, h2.kept hg (fun e => by have := (hr _ e.symm).1; simp at this; omega)⟩),
        holdsRow_own (w.heap.size + 5) (w.heap.size + 1 + 1 + 1) 22 50 1 (fun pre => ((dd (keysOf pre)).take c).length) (fun pre => ((dd (keysOf pre)).take c).map (Value.int .u32)) (fun _ _ => True) s A B row hs.2.2.2.1 hg (fun r e => (hr r e).2), Nat.le_trans hs.2.2.2.2 hg.size⟩)
      (ownFrom_below (Nat.le_refl _) (by simp; omega)))
    (fun _ _ _ _ _ hs _ _ => hs)
    ⟨⟨((((bC.alloc _).alloc _).alloc _).alloc _).cell, ((bS.alloc _).alloc _).cell, ⟨.map [], SD.start, ((hm0.alloc _).alloc _).alloc _⟩, ⟨_, bO.alloc _, by simpa [keysOf, dd] using World.ownsRow_nil _ _ _ _, trivial⟩, by simp⟩, hB0⟩
    (fun x => { tmps := #[.int .i64 c, .slice a len cap, .pointer (some ⟨w.heap.size, 0, none⟩), undef, .slice none 0 0, .int .i64 0, .int .i64 0, .pointer (some ⟨w.heap.size + 1 + 1, 0, none⟩), .pointer (some ⟨w.heap.size + 1 + 1 + 1, 0, none⟩), undef, .int .u32 x.2.1,
      .int .i64 c, .slice a len cap, .int .i64 0, .int .i64 0, .bool false, undef, .map (some (w.heap.size + 1)), .slice a len cap, .func (.func 31) #[] #[.pointer (some ⟨w.heap.size + 1 + 1 + 1 + 1, 0, none⟩)], .int .i64 (x.1 : Int), .int .u32 x.2.1,
      undef, undef, undef, undef, undef, undef, undef, undef, undef, undef, undef, undef, undef, undef, undef, undef, undef], defers := [] }) ?assign ?body ?done ?stop
  case assign =>
    intro l x W K hK
    gi_wp2
    exact hK
  case body =>
    rintro l pre x W ⟨⟨hc, hs, ⟨D, hD, hown⟩, ⟨v, hv, hrow, _⟩, hs5⟩, hB⟩ hlt
    have hcv := hv.cell
    have hll : ((dd (keysOf pre)).take c).length ≤ 60 := by
      rw [List.length_take]
      have h2 : ∀ r : List Int, (dd r).length ≤ r.length := fun r => by have := lru_le r.reverse; simpa [lru] using this
      have := h2 (keysOf pre)
      simp only [keysOf, List.length_map] at this
      simp only [keysOf]
      omega
    have hkey : keyOf Try.prog 50 (.int .u32 x.2.1) = some (.int .u32 x.2.1) := Maps.keyOf_int_mk Try.underlying50 x.2.2
    have hsz := hB.size
    obtain ⟨L, hL1, hL2⟩ : ∃ L, L ≤ ((dd (keysOf pre)).take c).length ∧ ((dd (keysOf pre)).take c).length ≤ L := ⟨_, Nat.le_refl _, Nat.le_refl _⟩
    rw [show ((dd (keysOf pre)).take c).length = L by omega] at hrow
    have hlenv : ∀ wx : World, (Builtin.len_ #[22] 3 #[v]).run Try.prog wx = .ok (.int .i64 (L : Int)) wx := fun wx => by
      obtain ⟨o1, cp1, rfl⟩ := row_shape hrow
      simp [Builtin.len_, go_sem]
    have hrowW : W.ownsRow w.heap.size 50 1 v L (((dd (keysOf pre)).take c).map (Value.int .u32)) := row_weak hrow (by omega)
    gi_wp2_with (first
      | (gi_at_lookup; refine wpListIn_lookup_own_bool _ rfl _ _ 55 rfl 50 4 (Maps.int_keyed Try.underlying50) Try.underlying55 Try.underlying4 (zero4 _) (w.heap.size + 1) pre.length _ rfl hown _ _ rfl hkey ?_; intro sn hat)
      | (gi_at_builtin; refine wpListIn_append_own _ rfl _ _ 22 rfl (w.heap.size + 5) 50 i0 (.int .u32 0) 1 4 Try.underlying22 hi hz0 hz1 hz2 rfl (by decide) _ _ _ rfl (hrow.alloc _) ⟨W.heap.size, 0, none⟩ 1 1 [.int .u32 x.2.1] rfl rfl (cell_one_new _ _ _) (by simp [Value.oneCell']) (by unfold maxLen; omega) (by omega) (by simp; omega) ?_; intro v' w1 hown' hgrow _; obtain ⟨g', cap', rfl⟩ := ownsRow_succ hown'; obtain ⟨hv1, hv2, hr2, hk2, hb2⟩ := hv.appended (by decide) hrowW hsz (by omega) (row_weak hown' (by omega)) hgrow; have hc1 := hv1.cell; have hf1 := hv1.frozen
         have hs1 := hgrow.cell ((World.grownBy_alloc W _ none).cell hs (by simp)) (row_ne2 hrow (by simp))
         have hsA := (grownBy_setCell' w1 (w.heap.size + 1 + 1 + 1) (.slice (some ⟨g', 0, none⟩) (L + 1) cap')).cell hs1 (by simp)
         have hownA := ((hown.alloc _).kept hgrow (row_ne2 hrow (by simp))).kept (grownBy_setCell' w1 (w.heap.size + 1 + 1 + 1) (.slice (some ⟨g', 0, none⟩) (L + 1) cap')) (by simp))
      | (gi_at_mapUpdate; refine wpListIn_mapUpdate_own _ rfl _ _ _ 55 rfl 50 4 (Maps.int_keyed Try.underlying50) Try.underlying55 _ (w.heap.size + 1) pre.length _ rfl hownA (by unfold maxLen; omega) _ _ _ rfl rfl hkey _ [] (plainElem_bool Try.underlying4 true) ?_; intro w2 hown2 hgrow2)
      | (gi_at_mapUpdate; refine wpListIn_mapUpdate_own _ rfl _ _ _ 55 rfl 50 4 (Maps.int_keyed Try.underlying50) Try.underlying55 _ (w.heap.size + 1) pre.length _ rfl hown (by unfold maxLen; omega) _ _ _ rfl rfl hkey _ [] (plainElem_bool Try.underlying4 true) ?_; intro w2 hown2 hgrow2))
    · have hsn : sn = true := by assumption
      have hin : x.2.1 ∈ keysOf pre := by rw [hD.2, hsn] at hat; simpa using hat
      have hst := ord_step c (keysOf pre) x.2.1
      rw [if_neg (fun q => q.1 hin)] at hst
      refine ⟨KeepsFrom.of_grownBy hgrow2 (fun j e => by cases e; simp; try omega), ⟨(Below.refl _ W).grown hgrow2 hsz (fun k e => by cases e; omega), hgrow2.block _ (by omega) (by simp; omega)⟩,
        ⟨hgrow2.cell hc (by simp; try omega), hgrow2.cell hs (by simp; try omega), ⟨_, by rw [keysOf_snoc]; exact hD.put _, by rw [List.length_append]; exact hown2⟩, ⟨v, hv.kept hgrow2 (by simp; try omega), ?_, trivial⟩, Nat.le_trans hs5 hgrow2.size⟩, hB.grown hgrow2 hsz (fun k e => by cases e; omega)⟩
      rw [keysOf_snoc, hst, show ((dd (keysOf pre)).take c).length = L by omega]
      exact hrow.kept hgrow2 (.inr (row_ne2 hrow (by omega)).symm)
    · have hsn : sn = false := Bool.eq_false_iff.2 (by assumption)
      have hin : x.2.1 ∉ keysOf pre := by rw [hD.2, hsn] at hat; simpa using hat
      have hLc : L < c := by assumption
      have hst := ord_step c (keysOf pre) x.2.1
      rw [if_pos ⟨hin, by omega⟩] at hst
      have hrA := hown'.kept (grownBy_setCell' w1 (w.heap.size + 1 + 1 + 1) (.slice (some ⟨g', 0, none⟩) (L + 1) cap')) (.inr (row_ne2 hown' (by omega)).symm)
      have s1 := hgrow.size
      simp only [World.size_alloc] at s1
      have s2 := (grownBy_setCell' w1 (w.heap.size + 1 + 1 + 1) (.slice (some ⟨g', 0, none⟩) (L + 1) cap')).size
      have hcA := (grownBy_setCell' w1 (w.heap.size + 1 + 1 + 1) (.slice (some ⟨g', 0, none⟩) (L + 1) cap')).cell (hgrow.cell ((World.grownBy_alloc W _ none).cell hc (by simp)) (row_ne2 hrow (by simp))) (by simp; try omega)
      have hblk : ∀ k, k = w.heap.size + 1 + 1 + 1 + 1 → w2.heap[k]? = W.heap[k]? := fun k hk => by
        rw [hgrow2.block k (by omega) (by simp; try omega), (grownBy_setCell' w1 (w.heap.size + 1 + 1 + 1) _).block k (by omega) (by simp; try omega), hgrow.block k (by simp; try omega) (row_ne2 hrow (by omega)), (World.grownBy_alloc W _ none).block k (by omega) (by simp)]
      refine ⟨(hk2.from _).trans (KeepsFrom.of_grownBy hgrow2 (fun j e => by cases e; simp; try omega)), ⟨hb2.grown hgrow2 (by omega) (fun k e => by cases e; omega), hblk _ rfl⟩,
        ⟨hgrow2.cell hcA (by simp; try omega), hgrow2.cell hsA (by simp; try omega), ⟨_, by rw [keysOf_snoc]; exact hD.put _, by rw [List.length_append]; exact hown2⟩, ⟨_, hv2.kept hgrow2 (by simp; try omega), ?_, trivial⟩, by have := hgrow2.size; omega⟩, (hB.trans hb2).grown hgrow2 (by omega) (fun k e => by cases e; omega)⟩
      rw [keysOf_snoc, hst, List.length_append, List.length_singleton, List.map_append, show ((dd (keysOf pre)).take c).length = L by omega]
      exact hrA.kept hgrow2 (.inr (row_ne2 hrA (by omega)).symm)
    · have hsn : sn = false := Bool.eq_false_iff.2 (by assumption)
      have hin : x.2.1 ∉ keysOf pre := by rw [hD.2, hsn] at hat; simpa using hat
      have hLc : ¬ L < c := by omega
      have hst := ord_step c (keysOf pre) x.2.1
      rw [if_neg (fun q => hLc (by omega))] at hst
      refine ⟨KeepsFrom.of_grownBy hgrow2 (fun j e => by cases e; simp; try omega), ⟨(Below.refl _ W).grown hgrow2 hsz (fun k e => by cases e; omega), hgrow2.block _ (by omega) (by simp; omega)⟩,
        ⟨hgrow2.cell hc (by simp; try omega), hgrow2.cell hs (by simp; try omega), ⟨_, by rw [keysOf_snoc]; exact hD.put _, by rw [List.length_append]; exact hown2⟩, ⟨v, hv.kept hgrow2 (by simp; try omega), ?_, trivial⟩, Nat.le_trans hs5 hgrow2.size⟩, hB.grown hgrow2 hsz (fun k e => by cases e; omega)⟩
      rw [keysOf_snoc, hst, show ((dd (keysOf pre)).take c).length = L by omega]
      exact hrow.kept hgrow2 (.inr (row_ne2 hrow (by omega)).symm)
  case done =>
    rintro D ys W hD rfl ⟨⟨_, _, _, ⟨v, hv, hrow, _⟩, _⟩, hB⟩ hK
    have hcv := hv.cell
    rw [hfin] at hrow
    gi_wp2
    refine ⟨by simp, .inl ⟨_, _, rfl, run_takeDeferred hK, ?_⟩⟩
    refine ⟨_, results_tmp2 rfl _ _ _, v, rfl, row_weak (ownsRow_putObj hrow _ hK rfl) (by omega), hB.trans (belowK_b (w := w) (Nat.le_refl _) W D _ _ (by simp at hD; omega) hK rfl rfl)⟩
  case stop =>
    rintro D c pre W _ _ h _
    exact h.elim
end EvS
end

section
namespace Go.Proofs
open Go.Shelf Go.RowKit Go.Sort
def EvS.delR : Go.Shelf.Ren := ⟨fun | 45 => 25 | n => n, fun | 23 => 50 | n => n, fun n => n⟩
theorem EvS.del : SlLaysE.n45 Try.prog EvS.delR where
  mixed := by kernel_rfl
  f45 := ⟨"slices.Delete[[]uint32,uint32]", by decide, Try.func25.trans (congrArg some (by kernel_rfl))⟩
  t0 := Try.underlying0
  a0 := Try.isAgg0
  z0 := Try.sizeOf0
  v0 := Try.zeroValue0
  t3 := Try.underlying3
  a3 := Try.isAgg3
  z3 := Try.sizeOf3
  v3 := Try.zeroValue3
  t4 := Try.underlying4
  a4 := Try.isAgg4
  z4 := Try.sizeOf4
  v4 := Try.zeroValue4
  t22 := Try.underlying22
  a22 := Try.isAgg22
  z22 := Try.sizeOf22
  v22 := Try.zeroValue22
  a23 := Try.isAgg50
  z23 := Try.sizeOf50
end Go.Proofs
namespace EvS
open Go Go.Proofs Go.RowKit Go.Sort
set_option maxRecDepth 100000
set_option linter.unusedVariables false
set_option linter.unusedSimpArgs false
theorem idx_first {k : Int} : ∀ {xs : List Int} {j : Nat}, xs[j]? = some k → k ∉ xs.take j → xs.idxOf k = j
  | [], j, h, _ => by simp at h
  | x :: xs, 0, h, _ => by simp at h; subst h; simp
  | x :: xs, j + 1, h, hn => by
    simp only [List.take_succ_cons, List.mem_cons, not_or] at hn
    have : (x == k) = false := by simp [Ne.symm hn.1]
    rw [List.idxOf_cons, this, cond_false, idx_first (by simpa using h) hn.2]
def ixU (xs : List Int) (k : Int) : Int := if k ∈ xs then (xs.idxOf k : Int) else -1
set_option maxHeartbeats 1000000 in
theorem index_any (b off len cap : Nat) (xs : List Int) (k : Int) (w : World) (hl : len ≤ xs.length) (hl2 : xs.length ≤ len) (hn : len ≤ 200) (hc : ∀ j, j < len → w.cell? ⟨b, off + j, none⟩ = some (.int .u32 (xs.getD j 0))) :
    Calls Try.prog 24 #[.slice (some ⟨b, off, none⟩) len cap, .int .u32 k] w fun e w' => e = .returned (.int .i64 (ixU xs k)) ∧ w' = w := by
  go_enter Try.func24, Try.ntmps24
  go_wp2
  go_loopw [8] (fun i wr => ∃ j : Nat, j ≤ len ∧ i = .int .i64 j ∧ wr = w ∧ k ∉ xs.take j)
    (fun i _ => len - (intOf i).toNat)
  case atStart => exact ⟨0, Nat.zero_le _, rfl, rfl, by simp⟩
  case round =>
    obtain ⟨j, hj, rfl, rfl, hno⟩ := hrel
    have hcx : j < len → wr.cell? ⟨b, off + j, none⟩ = some (.int .u32 (xs.getD j 0)) := hc j
    go_wp2
    · have hlt : j < len := by assumption
      have he : k = xs.getD j 0 := by rw [List.getD_eq_getElem?_getD]; first | assumption | (symm; assumption) | (have h := (by assumption : (k == xs[j]?.getD 0) = true); simpa using h)
      have hx : xs[j]? = some k := by rw [he, List.getD_eq_getElem?_getD, List.getElem?_eq_getElem (by omega)]; rfl
      have hv : ixU xs k = (j : Int) := by unfold ixU; rw [if_pos (List.mem_of_getElem? hx), idx_first hx hno]
      go_ret
      exact ⟨by rw [hv]; rfl, rfl⟩
    · have hlt : j < len := by assumption
      have he : k ≠ xs.getD j 0 := by rw [List.getD_eq_getElem?_getD]; first | assumption | (have h := (by assumption : (k == xs[j]?.getD 0) = false); simpa using h)
      go_roundw
      case rel =>
        refine ⟨j + 1, by omega, by go_num, trivial, ?_⟩
        rw [List.take_add_one, List.getElem?_eq_getElem (by omega)]
        simp only [Option.toList, List.mem_append, List.mem_singleton, not_or]
        refine ⟨hno, ?_⟩
        rw [List.getD_eq_getElem?_getD, List.getElem?_eq_getElem (by omega)] at he
        exact he
      case measure => simp [intOf]; omega
    · have : j = len := by omega
      subst this
      rw [List.take_of_length_le (by omega)] at hno
      have hv : ixU xs k = -1 := by unfold ixU; rw [if_neg hno]
      go_ret
      exact ⟨by rw [hv]; rfl, rfl⟩
set_option maxHeartbeats 1000000 in
theorem index_none (a : Option Addr) (cap : Nat) (k : Int) (w : World) : Calls Try.prog 24 #[.slice a 0 cap, .int .u32 k] w fun e w' => e = .returned (.int .i64 (-1)) ∧ w' = w := by
  go_enter Try.func24, Try.ntmps24
  go_wp2
  refine wp_loop_rounds 1 ?_
  rw [rounds_succ]
  go_wp2
  go_ret
  exact ⟨rfl, rfl⟩
/-- A slice of keys that the call owns, wherever in its block it begins. -/
def nowAt (w : World) (base : Nat) (v : Value) (xs : List Int) : Prop :=
  (v = .slice none 0 0 ∧ xs = []) ∨ ∃ g off cap cur, v = .slice (some ⟨g, off, none⟩) xs.length cap ∧ base ≤ g ∧ w.heap[g]? = some (.cells cur 50 (0, 0)) ∧ xs.length ≤ cap ∧ cap ≤ maxLen ∧ off + cap ≤ cur.size ∧
    ∀ j, j < xs.length → cur[off + j]? = some (.int .u32 (xs.getD j 0))
theorem nowAt_nil (w : World) (base : Nat) : nowAt w base (.slice none 0 0) [] := .inl ⟨rfl, rfl⟩
theorem nowAt.lt {w : World} {base : Nat} {v : Value} {xs : List Int} (h : nowAt w base v xs) : ∀ k, v.ownBlock = some k → base ≤ k ∧ ∃ cur, w.heap[k]? = some (.cells cur 50 (0, 0)) := by
  intro k hk
  rcases h with ⟨rfl, _⟩ | ⟨g, off, cap, cur, rfl, hb, hg, _⟩
  · simp [Value.ownBlock] at hk
  · simp [Value.ownBlock] at hk; subst hk; exact ⟨hb, cur, hg⟩
theorem nowAt.kept {w w' : World} {base : Nat} {v : Value} {xs : List Int} {row : Option Nat} (h : nowAt w base v xs) (hg : w.grownBy w' row) (hne : ∀ k, v.ownBlock = some k → some k ≠ row) : nowAt w' base v xs := by
  rcases h with h | ⟨g, off, cap, cur, rfl, hb, hgg, h⟩
  · exact .inl h
  · refine .inr ⟨g, off, cap, cur, rfl, hb, ?_, h⟩
    rw [hg.block g (Array.getElem?_eq_some_iff.1 hgg).1 (hne g rfl)]; exact hgg
theorem nowAt_of_own {w : World} {base : Nat} {v : Value} {xs : List Int} {n : Nat} (h : w.ownsRow base 50 1 v n (xs.map (Value.int .u32))) : nowAt w base v xs := by
  obtain ⟨h0, h1⟩ := h
  have hn : xs.length = n := by simpa using h0
  subst hn
  rcases h1 with ⟨rfl, hz⟩ | ⟨g, cap, cur, rfl, hb, hg, hl, hc, hs, ht⟩
  · exact .inl ⟨rfl, List.length_eq_zero_iff.1 hz⟩
  · refine .inr ⟨g, 0, cap, cur, rfl, hb, hg, hl, hc, by omega, fun j hj => ?_⟩
    have : (cur.toList.take (xs.length * 1))[j]? = some (.int .u32 (xs.getD j 0)) := by
      rw [ht, List.getElem?_map, List.getElem?_eq_getElem hj, List.getD_eq_getElem?_getD, List.getElem?_eq_getElem hj]; rfl
    rw [List.getElem?_take, if_pos (by omega)] at this
    simpa using this
section
variable {P : Program} (w : World)
theorem run_append_room' (t ty e : TypeId) (i : TypeInfo) (ht : P.underlying t = some (.slice e)) (hi : P.info? e = some i) (hs1 : i.size = 1)
    (g off sLen sCap : Nat) (cur : Array Value) (hg : w.heap[g]? = some (.cells cur e (0, 0)))
    (a : Addr) (m c : Nat) (news : List Value) (hl : news.length = m * i.size) (hnews : ∀ j u, news[j]? = some u → w.cell? (a.add j) = some u) (h1 : ∀ u ∈ news, u.oneCell' = true)
    (hroom : sLen + m ≤ sCap) (hfit : off + sLen + news.length ≤ cur.size) :
    (Builtin.append_ #[t, t] ty #[.slice (some ⟨g, off, none⟩) sLen sCap, .slice (some a) m c]).run P w =
      .ok (.slice (some ⟨g, off, none⟩) (sLen + m) sCap) (w.setRow g (cur.toList.take (off + sLen) ++ news ++ cur.toList.drop (off + sLen + news.length)).toArray) := by
  have hf := run_firstCells_some (P := P) w i.size m a m c news hl hnews
  have hst := run_storeCells_at P g (off + sLen) e news 0 cur w hg (by simpa using hfit) h1
  simp only [Nat.add_zero] at hst
  rw [hs1] at hf
  simp [Builtin.append_, run_underlying ht, Go.sizeOf, typeInfo, hi, Builtin.lenOf, hroom, hs1, hf, Addr.add_lit, hst]
end
theorem Try.info50y : (Try.prog.info? 50).map (fun i => (i.zero, i.size, i.bytes)) = some (some (.int .u32 0), 1, 4) := by kernel_rfl
theorem now_append {w : World} {base : Nat} {v : Value} {xs : List Int} (ty : TypeId) (h : nowAt w base v xs) (hbase : base ≤ w.heap.size) (hx : xs.length ≤ 1000) (a : Addr) (k : Int) (hk : w.cell? (a.add 0) = some (.int .u32 k)) :
    ∃ v' w', (Builtin.append_ #[22, 22] ty #[v, .slice (some a) 1 1]).run Try.prog w = .ok v' w' ∧ nowAt w' base v' (xs ++ [k]) ∧ w.grownBy w' v.ownBlock := by
  obtain ⟨i0, hi, hz0, hz1, hz2⟩ := info_parts Try.info50y
  have hnews : ∀ j u, [Value.int .u32 k][j]? = some u → w.cell? (a.add j) = some u := fun j u hu => by
    cases j with
    | zero => simp at hu; subst hu; exact hk
    | succ j => simp at hu
  rcases h with ⟨rfl, rfl⟩ | ⟨g, off, cap, cur, rfl, hb, hg, hl, hc, hs, hcell⟩
  · obtain ⟨v', w', h1, h2, h3, _⟩ := run_append_own (P := Try.prog) w base 22 ty 50 i0 (.int .u32 0) 1 4 Try.underlying22 hi hz0 hz1 hz2 rfl (by decide) (.slice none 0 0) 0 [] (World.ownsRow_nil _ _ _ _) a 1 1 [.int .u32 k] rfl hnews (by simp [Value.oneCell']) (by decide) (by decide) hbase
    exact ⟨v', w', h1, nowAt_of_own (xs := [k]) (n := 1) h2, h3⟩
  · rcases Nat.lt_or_ge cap (xs.length + 1) with hlt | hge
    · have holds : ∀ j u, (xs.map (Value.int .u32))[j]? = some u → w.cell? ((⟨g, off, none⟩ : Addr).add j) = some u := fun j u hu => by
        rw [List.getElem?_map, Option.map_eq_some_iff] at hu
        obtain ⟨x, hx, rfl⟩ := hu
        have hj := (List.getElem?_eq_some_iff.1 hx).1
        rw [Addr.add_lit]
        have := hcell j hj
        rw [List.getD_eq_getElem?_getD, hx] at this
        rw [cell_of_row w g (off + j) cur 50 (0, 0) hg]
        exact this
      have hcm : grownCap w (xs.length + 1) cap 50 ≤ maxLen := grownCap_le_maxLen w (xs.length + 1) cap 50 (by unfold maxLen; omega)
      have hge := grownCap_ge w (xs.length + 1) cap 50
      have hr := run_append_grow (P := Try.prog) w 22 ty 50 i0 (.int .u32 0) Try.underlying22 hi hz0 ⟨g, off, none⟩ xs.length cap (xs.map (Value.int .u32)) (by simp [hz1]) holds a 1 1 [.int .u32 k] (by simp [hz1]) hnews hlt (by omega) (growslice_fits (by omega) (by rw [hz2]; omega))
      refine ⟨_, _, hr, ?_, ⟨rfl, rfl, rfl, by simp, fun k hk h => (World.grownBy_alloc w.drew _ _).block k hk h⟩⟩
      refine .inr ⟨w.heap.size, 0, _, _, by rw [List.length_append, List.length_singleton], hbase, heap_alloc_new w.drew _, by rw [List.length_append, List.length_singleton]; exact hge, hcm, ?_, fun j hj => ?_⟩
      · simp only [Array.size_append, List.size_toArray, size_zeroCells, List.length_map, List.length_singleton]
        have : (Value.cells (.int .u32 0)).size = 1 := rfl
        rw [this]; omega
      · rw [List.length_append, List.length_singleton] at hj
        rw [Nat.zero_add, Array.getElem?_append_left (by simp; omega)]
        rcases Nat.lt_or_ge j xs.length with q | q
        · rw [Array.getElem?_append_left (by simpa using q)]
          simp [List.getD_eq_getElem?_getD, List.getElem?_append_left q, List.getElem?_eq_getElem q]
        · obtain rfl : j = xs.length := by omega
          rw [Array.getElem?_append_right (by simp)]
          simp [List.getD_eq_getElem?_getD]
    · have hr := run_append_room' (P := Try.prog) w 22 ty 50 i0 Try.underlying22 hi hz1 g off xs.length cap cur hg a 1 1 [.int .u32 k] (by simp [hz1]) hnews (by simp [Value.oneCell']) hge (by simp; omega)
      refine ⟨_, _, hr, ?_, ⟨rfl, rfl, rfl, by simp, fun k _ hk => setRow_other w g k _ (fun e => hk (by simp [Value.ownBlock, e]))⟩⟩
      refine .inr ⟨g, off, cap, _, by rw [List.length_append, List.length_singleton], hb, setRow_heap w g cur _ 50 _ hg, by rw [List.length_append, List.length_singleton]; exact hge, hc, ?_, fun j hj => ?_⟩
      · simp; omega
      · rw [List.length_append, List.length_singleton] at hj
        rcases Nat.lt_or_ge j xs.length with q | q
        · have := hcell j q
          simp only [List.getElem?_toArray, List.append_assoc]
          rw [List.getElem?_append_left (by simp; omega), List.getElem?_take, if_pos (by omega)]
          simp only [Array.getElem?_toList, this]
          simp [List.getD_eq_getElem?_getD, List.getElem?_append_left q]
        · obtain rfl : j = xs.length := by omega
          simp only [List.getElem?_toArray, List.append_assoc]
          rw [List.getElem?_append_right (by simp; omega)]
          have : (cur.toList.take (off + xs.length)).length = off + xs.length := by simp; omega
          rw [this]
          simp [List.getD_eq_getElem?_getD]
theorem drop_idx {k : Int} : ∀ {xs : List Int}, xs.Nodup → k ∈ xs → xs.take (xs.idxOf k) ++ xs.drop (xs.idxOf k + 1) = xs.filter (fun x => x != k)
  | [], _, h => by simp at h
  | x :: xs, hn, h => by
    rw [List.nodup_cons] at hn
    rw [List.idxOf_cons]
    by_cases e : x = k
    · subst e
      simp only [beq_self_eq_true, cond_true, List.take_zero, List.nil_append, Nat.zero_add, List.drop_succ_cons, List.drop_zero, List.filter_cons, bne_self_eq_false, Bool.false_eq_true, if_false]
      rw [filter_self hn.1]
    · have h' : k ∈ xs := by simpa [Ne.symm e] using h
      have : (x == k) = false := by simp [e]
      rw [this, cond_false]
      simp only [List.take_succ_cons, List.drop_succ_cons, List.cons_append, List.filter_cons, bne_iff_ne, ne_eq, e, not_false_eq_true, if_true]
      rw [drop_idx hn.2 h']
theorem zero50 (w : World) : (zeroValue 50).run Try.prog w = .ok (.int .u32 0) w := by kernel_rfl
theorem putRow_at {enc : Int → Value} {w : World} {blk off q : Nat} {d : Array Int} {cur : Array Value} {T : TypeId} (hg : w.heap[blk]? = some (.cells cur T (0, 0))) :
    (putRow enc (Sort.ahead w q) blk off d).heap[blk]? = some (.cells (putCells enc off d cur) T (0, 0)) ∧ w.grownBy (putRow enc (Sort.ahead w q) blk off d) (some blk) := by
  have hlt : blk < w.heap.size := (Array.getElem?_eq_some_iff.1 hg).1
  refine ⟨?_, ⟨rfl, rfl, rfl, by simp [putRow, mapBlock, Sort.ahead], fun k _ hk => ?_⟩⟩
  · simp only [putRow, mapBlock, Sort.ahead, Array.getElem?_modify, if_true, hg, Option.map_some, onCells]
  · have : blk ≠ k := fun e => hk (by rw [e])
    simp [putRow, mapBlock, Sort.ahead, Array.getElem?_modify, this]
theorem putCells_get {enc : Int → Value} {off : Nat} {d : Array Int} {c : Array Value} {j : Nat} (hj : j < d.size) (hc : off + j < c.size) : (putCells enc off d c)[off + j]? = some (enc (d[j]!)) := by
  unfold putCells
  rw [Array.getElem?_mapIdx, Array.getElem?_eq_getElem hc, Option.map_some]
  rw [if_pos ⟨by omega, by omega⟩, Nat.add_sub_cancel_left]
theorem now_delete {w : World} {base : Nat} {v : Value} {xs : List Int} (h : nowAt w base v xs) (i : Nat) (hi : i < xs.length) :
    Calls Try.prog 25 #[v, .int .i64 (i : Int), .int .i64 ((i : Int) + 1)] w fun e w' => ∃ v', e = .returned v' ∧ nowAt w' base v' (xs.take i ++ xs.drop (i + 1)) ∧ w.grownBy w' v.ownBlock ∧ v'.ownBlock = v.ownBlock := by
  rcases h with ⟨rfl, rfl⟩ | ⟨g, off, cap, cur, rfl, hb, hg, hl, hc, hs, hcell⟩
  · simp at hi
  · obtain ⟨i0, h0, hz0, hz1, hz2⟩ := info_parts Try.info50y
    have hH : Holds (Value.int .u32) w g off xs.toArray := fun j hj => by
      have hj' : j < xs.length := by simpa using hj
      constructor
      · rw [cell_of_row w g (off + j) cur 50 (0, 0) hg, hcell j hj']
        simp [List.getD_eq_getElem?_getD, hj']
      · simp [World.frozen?, hg]
    have hd := AnyE.slices_Delete EvS.del (Value.int .u32) (fun x => rfl) 0 zero50 i0 h0 hz1 g off cap i (i + 1) xs.toArray w hH (by simpa using hl) (by unfold maxLen at hc; omega) (by omega) (by simp; omega)
    have e1 : ((i : Int) + 1) = ((i + 1 : Nat) : Int) := by omega
    rw [e1]
    refine Calls.mono (show Calls Try.prog 25 #[.slice (some ⟨g, off, none⟩) xs.length cap, .int .i64 ((i : Nat) : Int), .int .i64 ((i + 1 : Nat) : Int)] w _ from hd) ?_
    rintro e w' ⟨rfl, q, rfl⟩
    obtain ⟨p1, p2⟩ := putRow_at (enc := Value.int .u32) (off := off) (q := q) (d := (xs.toArray.toList.take i ++ xs.toArray.toList.drop (i + 1) ++ List.replicate (i + 1 - i) 0).toArray) hg
    have hlen : (xs.take i ++ xs.drop (i + 1)).length = xs.length - (i + 1 - i) := by simp; omega
    have hcs : (putCells (Value.int .u32) off (xs.toArray.toList.take i ++ xs.toArray.toList.drop (i + 1) ++ List.replicate (i + 1 - i) 0).toArray cur).size = cur.size := by simp [putCells]
    have hget : ∀ j, j < (xs.take i ++ xs.drop (i + 1)).length → (putCells (Value.int .u32) off (xs.toArray.toList.take i ++ xs.toArray.toList.drop (i + 1) ++ List.replicate (i + 1 - i) 0).toArray cur)[off + j]? = some (.int .u32 ((xs.take i ++ xs.drop (i + 1)).getD j 0)) := fun j hj => by
      have hj2 := hj
      rw [hlen] at hj2
      rw [putCells_get (by simp; omega) (by omega)]
      congr 2
      rw [getElem!_pos _ j (by simp; omega)]
      simp only [List.getElem_toArray]
      rw [List.getElem_append_left hj, List.getD_eq_getElem?_getD, List.getElem?_eq_getElem hj]; rfl
    refine ⟨_, rfl, .inr ⟨g, off, cap, _, ?_, hb, p1, by rw [hlen]; omega, hc, by rw [hcs]; exact hs, hget⟩, p2, rfl⟩
    rw [hlen]; rfl
end EvS
end
