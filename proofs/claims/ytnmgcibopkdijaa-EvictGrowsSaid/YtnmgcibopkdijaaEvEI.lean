/- The functions of the folder evict: what they compute. No condition. -/
import Derived.Test.YtnmgcibopkdijaaEvEE
import Derived.Test.YtnmgcibopkdijaaDamEB
import Derived.KernelRfl
set_option linter.unusedSectionVars false
set_option linter.unusedVariables false
set_option linter.unusedSimpArgs false
section
namespace EvS
open Go Go.Proofs Go.RowKit Go.Sort
set_option maxRecDepth 100000
set_option linter.unusedVariables false
set_option linter.unusedSimpArgs false
theorem wpList_append_now (w : World) {ops : Array Oper} {rest : List Oper} {o : Oper} {a : Act} {Q : Exit → Act → World → Prop} (hgd : o.guard = none) (s x : Operand)
    (ho : o.op = .call { callee := .builtin .append, args := #[s, x], argTypes := #[22, 22] }) (base : Nat) (v : Value) (xs : List Int) (hs : a.eval s = v) (hnow : nowAt w base v xs) (hbase : base ≤ w.heap.size) (hl : xs.length ≤ 1000)
    (ad : Addr) (k : Int) (hx : a.eval x = .slice (some ad) 1 1) (hk : w.cell? (ad.add 0) = some (.int .u32 k))
    (h : ∀ v' w', nowAt w' base v' (xs ++ [k]) → w.grownBy w' v.ownBlock → wpList Try.prog ops Q rest (a.put o.dst v') w') : wpList Try.prog ops Q (o :: rest) a w := by
  refine wpList_plain hgd fun K hK => ?_
  obtain ⟨v', w', hr, h2, h3⟩ := now_append o.type hnow hbase hl ad k hk
  unfold Oper.wp execOp
  simp only [ho, resolve, invoke, builtin, Sem.run_bind, Sem.run_pure, Result.andThen_ok, List.map_toArray, List.map_cons, List.map_nil, hs, hx, hr]
  exact hK _ _ (h v' w' h2 h3)
theorem now_index {w : World} {base : Nat} {v : Value} {xs : List Int} (h : nowAt w base v xs) (hn : xs.length ≤ 200) (k : Int) : Calls Try.prog 24 #[v, .int .u32 k] w fun e w' => e = .returned (.int .i64 (ixU xs k)) ∧ w' = w := by
  rcases h with ⟨rfl, rfl⟩ | ⟨g, off, cap, cur, rfl, hb, hg, hl, hc, hs, hcell⟩
  · exact index_none none 0 k w
  · exact index_any g off xs.length cap xs k w (Nat.le_refl _) (Nat.le_refl _) hn fun j hj => by rw [cell_of_row w g (off + j) cur 50 (0, 0) hg]; exact hcell j hj
theorem now_len {w : World} {base : Nat} {v : Value} {xs : List Int} (h : nowAt w base v xs) (wx : World) : (Builtin.len_ #[22] 3 #[v]).run Try.prog wx = .ok (.int .i64 (xs.length : Int)) wx := by
  rcases h with ⟨rfl, rfl⟩ | ⟨g, off, cap, cur, rfl, _⟩ <;> simp [Builtin.len_, go_sem]
theorem cell_two_new (w : World) (u v : Value) (t : TypeId) : ∀ (j : Nat) (x : Value), [u, v][j]? = some x → (w.alloc (.cells #[u, v] t)).cell? ((⟨w.heap.size, 0, none⟩ : Addr).add j) = some x := by
  intro j x h
  have hn : (w.alloc (.cells #[u, v] t)).heap[w.heap.size]? = some (.cells #[u, v] t (0, 0)) := World.alloc_heap_new w _
  rw [Addr.add_lit]
  simp only [World.cell?, hn, Nat.zero_add]
  simpa using h
/-- The evictions, as cells. -/
def gv (c : Nat) (us : List Int) : List Value := ((evU c us).zip (evK c us)).flatMap fun p => [.int .i64 p.1, .int .u32 p.2]
theorem gv_snoc (c : Nat) (us : List Int) (k : Int) : gv c (us ++ [k]) = gv c us ++ if gone c us k then [.int .i64 (us.length : Int), .int .u32 ((lruN c us).getD (c - 1) 0)] else [] := by
  unfold gv
  rw [evU_snoc, evK_snoc, List.zip_append (ev_len c us), List.flatMap_append]
  split <;> simp
theorem Try.info52x : (Try.prog.info? 52).map (fun i => (i.zero, i.size, i.bytes)) = some (some (.agg #[.int .i64 0, .int .u32 0]), 2, 16) := by kernel_rfl
/-- What becomes of the slice of keys. -/
theorem now_hit {c : Nat} {us : List Int} {k : Int} (m : k ∈ lruN c us) : (lruN c us).reverse.filter (fun x => x != k) ++ [k] = (lruN c (us ++ [k])).reverse := by
  rw [lruN_snoc]
  have h1 := ins_length (k := k) (lruN_nodup c us)
  rw [if_pos m] at h1
  have h2 := lruN_len c us
  rw [List.take_of_length_le (by omega)]
  simp [ins, List.filter_reverse]
theorem now_room {c : Nat} {us : List Int} {k : Int} (m : k ∉ lruN c us) (h : (lruN c us).length < c) : (lruN c us).reverse ++ [k] = (lruN c (us ++ [k])).reverse := by
  rw [lruN_snoc]
  have h1 := ins_length (k := k) (lruN_nodup c us)
  rw [if_neg m] at h1
  rw [List.take_of_length_le (by omega)]
  simp only [ins, filter_self m, List.reverse_cons]
theorem now_full {c : Nat} {us : List Int} {k : Int} (m : k ∉ lruN c us) (h : (lruN c us).length = c) (hc : 1 ≤ c) : (lruN c us).reverse.drop 1 ++ [k] = (lruN c (us ++ [k])).reverse := by
  rw [lruN_snoc]
  simp only [ins, filter_self m]
  obtain ⟨d, rfl⟩ : ∃ d, c = d + 1 := ⟨c - 1, by omega⟩
  rw [List.take_succ_cons, List.reverse_cons, List.drop_reverse, h, Nat.add_sub_cancel]
theorem now_first {c : Nat} {us : List Int} (h : (lruN c us).length = c) (hc : 1 ≤ c) : (lruN c us).reverse.getD 0 0 = (lruN c us).getD (c - 1) 0 := by
  rw [List.getD_eq_getElem?_getD, List.getD_eq_getElem?_getD, List.getElem?_reverse (by omega), h]; rfl
theorem now_tail1 {w : World} {base g off c : Nat} {xs : List Int} (hc : c = 1) (hx : xs.length = c) (h : nowAt w base (.slice (some ⟨g, off, none⟩) c 1) xs) : nowAt w base (.slice (some ⟨g, off, none⟩) (c - 1) 0) (xs.drop 1) := by
  rcases h with ⟨h, _⟩ | ⟨g', off', cap, cur, e, hb, hg, hl, hc', hs, hcell⟩
  · cases h
  · cases e
    refine .inr ⟨g, off, 0, cur, by rw [List.length_drop, hx], hb, hg, by rw [List.length_drop, hx]; omega, by decide, by omega, fun j hj => ?_⟩
    rw [List.length_drop, hx] at hj; omega
theorem now_tail2 {w : World} {base g off c cp : Nat} {xs : List Int} (hx : xs.length = c) (hc : 1 ≤ c) (h : nowAt w base (.slice (some ⟨g, off, none⟩) c cp) xs) : nowAt w base (.slice (some ⟨g, off + 1, none⟩) (c - 1) (cp - 1)) (xs.drop 1) := by
  rcases h with ⟨h, _⟩ | ⟨g', off', cap, cur, e, hb, hg, hl, hc', hs, hcell⟩
  · cases h
  · cases e
    refine .inr ⟨g, off + 1, cp - 1, cur, by rw [List.length_drop, hx], hb, hg, by rw [List.length_drop, hx]; omega, by omega, by omega, fun j hj => ?_⟩
    rw [List.length_drop, hx] at hj
    have := hcell (j + 1) (by omega)
    rw [show off + 1 + j = off + (j + 1) by omega, this]
    simp [List.getD_eq_getElem?_getD, Nat.add_comm 1 j]
theorem row_now {w : World} {base base' n : Nat} {v u : Value} {xs : List Value} {ks : List Int} (h : w.ownsRow base 52 2 v n xs) (k : nowAt w base' u ks) : v.ownBlock = none ∨ v.ownBlock ≠ u.ownBlock := by
  rcases h.2 with ⟨rfl, _⟩ | ⟨g, cap, cur, rfl, _, hg, _⟩
  · exact .inl rfl
  · refine .inr fun e => ?_
    obtain ⟨_, cur', hg'⟩ := k.lt g (by rw [← e]; rfl)
    rw [hg] at hg'
    simp at hg'
theorem take_snoc' (us : List Int) (k : Nat) (h : k < us.length) : us.take (k + 1) = us.take k ++ [us.getD k 0] := by
  rw [List.take_add_one, List.getElem?_eq_getElem h, List.getD_eq_getElem?_getD, List.getElem?_eq_getElem h]; rfl
def chkV' (c : Int) (len : Nat) : Int := if c < 1 ∨ 8 < c then 2 else if 60 < len then 4 else 0
set_option maxHeartbeats 1000000 in
theorem chk_any (c : Int) (a : Option Addr) (len cap : Nat) (w : World) :
    Calls Try.prog 21 #[.int .i64 c, .slice a len cap] w fun e w' => e = .returned (.int .i64 (chkV' c len)) ∧ w' = w := by
  go_enter Try.func21, Try.ntmps21
  go_wp2
  all_goals
    go_ret
    refine ⟨?_, rfl⟩
    simp only [chkV']
    repeat' split
    all_goals first | rfl | (exfalso; omega)
set_option maxHeartbeats 2000000 in
theorem evicted_bad (c : Int) (a : Option Addr) (len cap : Nat) (w : World) (hb : chkV' c len ≠ 0) :
    Calls Try.prog 8 #[.int .i64 c, .slice a len cap] w fun e w' => e = .returned (.tuple #[.slice none 0 0, .int .i64 (chkV' c len)]) ∧ w' = w := by
  go_enter Try.func8, Try.ntmps8
  generalize hv : chkV' c len = e0 at *
  go_wp2_with (first | (go_at_call 21; refine (chk_any c a len cap _).mono ?_; rintro e w' ⟨rfl, rfl⟩) | go_in)
  go_ret2
  exact ⟨rfl, rfl⟩
set_option maxHeartbeats 4000000 in
theorem evicted_any (c : Nat) (b off len cap : Nat) (us : List Int) (w : World) (hck : chkV' c len = 0) (hl : len ≤ us.length) (hb : b < w.heap.size)
    (hc : ∀ j, j < len → w.cell? ⟨b, off + j, none⟩ = some (.int .u32 (us.getD j 0))) (hw : ∀ x ∈ us, (Lit.int .u32 x).wf = true) :
    Calls Try.prog 8 #[.int .i64 c, .slice (some ⟨b, off, none⟩) len cap] w fun e w' => ∃ v, e = .returned (.tuple #[v, .int .i64 0]) ∧
      w'.ownsRow w.heap.size 52 2 v (evU c (us.take len)).length (gv c (us.take len)) ∧ Below w.heap.size w w' := by
  have hb8 : 1 ≤ c ∧ c ≤ 8 ∧ len ≤ 60 := by unfold chkV' at hck; repeat' split at hck; all_goals omega
  obtain ⟨hc1, hc8, hn⟩ := hb8
  obtain ⟨i0, hi, hz0, hz1, hz2⟩ := info_parts Try.info52x
  go_enter Try.func8, Try.ntmps8
  go_wp2_with (first | (go_at_call 21; refine (chk_any c _ len cap _).mono ?_; rw [hck]; rintro e w' ⟨rfl, hw'⟩; rw [hw']; clear hw' w') | go_in)
  go_loopw [7, 8, 20] (fun v7 v8 i wr => ∃ k : Nat, k ≤ len ∧ i = .int .i64 k ∧ nowAt wr w.heap.size v7 (lruN c (us.take k)).reverse ∧
      wr.ownsRow w.heap.size 52 2 v8 (evU c (us.take k)).length (gv c (us.take k)) ∧ Below w.heap.size w wr)
    (fun _ _ i _ => len - (intOf i).toNat)
  case atStart => exact ⟨0, Nat.zero_le _, rfl, by simpa [lruN, lru, dd] using nowAt_nil w w.heap.size, by simpa [evU, gv, evK] using World.ownsRow_nil w w.heap.size 52 2, Below.refl _ _⟩
  case round =>
    obtain ⟨k, hk, rfl, hnow, hrow, hnx⟩ := hrel
    have hcx : k < len → wr.cell? ⟨b, off + k, none⟩ = some (.int .u32 (us.getD k 0)) := fun h => (hnx.cell (by exact hb)).trans (hc k h)
    have hsz := hnx.size
    have hle : (lruN c (us.take k)).reverse.length ≤ 8 := by rw [List.length_reverse]; have := lruN_len c (us.take k); omega
    have hix := fun x => now_index hnow (by omega) x
    have hlenv := now_len hnow
    have hnd : (lruN c (us.take k)).reverse.Nodup := List.pairwise_reverse.2 ((lruN_nodup c _).imp Ne.symm)
    have hevl : (evU c (us.take k)).length ≤ 60 := by
      have := ev_count c (us.take k)
      rw [List.length_take] at this; omega
    by_cases m : us.getD k 0 ∈ (lruN c (us.take k)).reverse
    · -- a hit
      have hixv : ixU (lruN c (us.take k)).reverse (us.getD k 0) = (((lruN c (us.take k)).reverse.idxOf (us.getD k 0) : Nat) : Int) := by unfold ixU; rw [if_pos m]
      have hil : (lruN c (us.take k)).reverse.idxOf (us.getD k 0) < (lruN c (us.take k)).reverse.length := List.idxOf_lt_length_iff.2 m
      have hdr := drop_idx hnd m
      have hdel := now_delete hnow _ hil
      rw [hdr] at hdel
      have hm' : us.getD k 0 ∈ lruN c (us.take k) := by simpa using m
      have hnext := now_hit hm'
      have hfl := List.length_filter_le (fun x => x != us.getD k 0) (lruN c (us.take k)).reverse
      have hg : gone c (us.take k) (us.getD k 0) = false := by unfold gone; simp only [decide_eq_false_iff_not, not_and]; exact fun q => absurd hm' q
      obtain ⟨j, hj⟩ : ∃ j, j = (lruN c (us.take k)).reverse.idxOf (us.getD k 0) := ⟨_, rfl⟩
      rw [← hj] at hixv hdel hil
      clear hj hdr
      have hix' := hix (us.getD k 0)
      rw [hixv] at hix'
      go_wp2_with (first
        | (go_at_call 24; refine hix'.mono ?_; rintro e w' ⟨rfl, hw'⟩; rw [hw']; clear hw' w')
        | (go_at_call 25; refine hdel.mono ?_; rintro e w1 ⟨v1, rfl, hnow1, hg1, hv1⟩)
        | (at_builtin; refine wpList_append_now _ rfl _ _ rfl w.heap.size _ _ rfl (hnow1.kept (World.grownBy_alloc w1 _ none) (by simp)) (by have := hg1.size; simp; omega) (by omega) ⟨w1.heap.size, 0, none⟩ (us.getD k 0) rfl (cell_one_new _ _ _ 0 _ rfl) ?_; intro v2 w2 hnow2 hg2)
        | go_in)
      · have hlt : k < len := by assumption
        have s1 := hg1.size
        have s2 := hg2.size
        simp only [World.size_alloc] at s2
        have hr1 := (hrow.kept hg1 (row_now hrow hnow)).alloc (.cells #[.int .u32 (us.getD k 0)] 50)
        have hr2 := hr1.kept hg2 (row_now hr1 (hnow1.kept (World.grownBy_alloc w1 _ none) (by simp)))
        go_roundw
        case rel =>
          refine ⟨k + 1, by omega, by go_num, by rw [take_snoc' us k (by omega), ← hnext]; exact hnow2, ?_, ?_⟩
          · rw [take_snoc' us k (by omega), evU_snoc, gv_snoc, hg]
            simpa using hr2
          · have n1 := hnx.grown hg1 hsz (fun j hj => (hnow.lt j hj).1)
            exact (n1.alloc (by omega) (.cells #[.int .u32 (us.getD k 0)] 50)).grown hg2 (by simp; omega) (fun j hj => (hnow1.lt j hj).1)
        case measure => simp [intOf]; omega
      · have : k = len := by omega
        subst this
        go_ret2
        exact ⟨_, rfl, hrow, hnx⟩
    · have hixv : ixU (lruN c (us.take k)).reverse (us.getD k 0) = -1 := by unfold ixU; rw [if_neg m]
      have hix' := hix (us.getD k 0)
      rw [hixv] at hix'
      have hm' : us.getD k 0 ∉ lruN c (us.take k) := by simpa using m
      by_cases hfull : (lruN c (us.take k)).length = c
      · have hnext := now_full hm' hfull hc1
        have hfst := now_first hfull hc1
        have hg : gone c (us.take k) (us.getD k 0) = true := by unfold gone; simp only [decide_eq_true_eq]; exact ⟨hm', hfull⟩
        have hfl' : (lruN c (us.take k)).reverse.length = c := by rw [List.length_reverse]; exact hfull
        obtain ⟨x0, hx0⟩ : ∃ x0, x0 = (lruN c (us.take k)).reverse.getD 0 0 := ⟨_, rfl⟩
        have hnow0 := hnow
        rcases hnow with ⟨rfl, hn0⟩ | ⟨g, off, cp, cur, rfl, hbg, hgg, hlg, hcg, hsg, hcell⟩
        · rw [hn0] at hfl'; simp at hfl'; omega
        · rw [hfl'] at hlenv hix' hnow0 hlg hcell ⊢
          have hc0 : wr.cell? ⟨g, off, none⟩ = some (.int .u32 x0) := by
            have := hcell 0 (by omega)
            rw [Nat.add_zero] at this
            rw [cell_of_row wr g off cur 50 (0, 0) hgg, this, hx0]
          rw [← hx0] at hfst
          have hfA : x0 ≤ (lruN c (us.take k)).getD (c - 1) 0 := by rw [hfst]; exact Int.le_refl _
          have hfB : (lruN c (us.take k)).getD (c - 1) 0 ≤ x0 := by rw [hfst]; exact Int.le_refl _
          clear hx0 hfst
          have hgne : ∀ q, some g = some q → some q ≠ u8.ownBlock := fun q e => by
            cases e
            rcases row_now hrow hnow0 with h | h
            · rw [h]; simp
            · exact fun e2 => h e2.symm
          by_cases hcp : cp = 1
          · subst hcp
            have hnowT := now_tail1 (by omega) hfl' hnow0
            clear hlg
            go_wp2_with (first
              | (go_at_call 24; refine hix'.mono ?_; rintro e w' ⟨rfl, hw'⟩; rw [hw']; clear hw' w')
              | (at_builtin; refine wpList_append_own _ rfl _ _ 28 rfl w.heap.size 52 i0 (.agg #[.int .i64 0, .int .u32 0]) 2 16 Try.underlying28 hi hz0 hz1 hz2 rfl (by decide) _ _ _ rfl (hrow.alloc _) ⟨wr.heap.size, 0, none⟩ 1 1 [.int .i64 (k : Int), .int .u32 x0] rfl rfl (cell_two_new _ _ _ _) (by simp [Value.oneCell']) (by unfold maxLen; omega) (by omega) (by simp; omega) ?_; intro v8 w1 hrow1 hg1 _
                 have hnow0 := hnowT.kept (World.grownBy_alloc wr (.cells #[.int .i64 (k : Int), .int .u32 x0] 52) none) (by simp)
                 have hnow1 := hnow0.kept hg1 (by exact hgne))
              | (at_builtin; refine wpList_append_now _ rfl _ _ rfl w.heap.size _ _ rfl (hnow1.kept (World.grownBy_alloc w1 _ none) (by simp)) (by have := hg1.size; simp at this ⊢; omega) (by rw [List.length_drop]; omega) ⟨w1.heap.size, 0, none⟩ (us.getD k 0) rfl (cell_one_new _ _ _ 0 _ rfl) ?_; intro v2 w2 hnow2 hg2)
              | go_in)
            · have hlt : k < len := by assumption
              have s1 := hg1.size
              have s2 := hg2.size
              simp only [World.size_alloc] at s1 s2
              have hr1 := hrow1.alloc (.cells #[.int .u32 (us.getD k 0)] 50)
              have hr2 := hr1.kept hg2 (row_now hr1 (hnow1.kept (World.grownBy_alloc w1 _ none) (by simp)))
              go_roundw
              case rel =>
                refine ⟨k + 1, by omega, by go_num, by rw [take_snoc' us k (by omega), ← hnext]; exact hnow2, ?_, ?_⟩
                · rw [take_snoc' us k (by omega), evU_snoc, gv_snoc, hg, if_pos rfl, if_pos rfl, List.length_append, List.length_singleton, List.length_take, Nat.min_eq_left (by omega), show (lruN c (us.take k)).getD (c - 1) 0 = x0 by omega]
                  exact hr2
                · have n1 := (hnx.alloc hsz (.cells #[.int .i64 (k : Int), .int .u32 x0] 52)).grown hg1 (by simp; omega) (fun j hj => (hrow.lt j hj).1)
                  exact (n1.alloc (by omega) (.cells #[.int .u32 (us.getD k 0)] 50)).grown hg2 (by simp; omega) (fun j hj => (hnow1.lt j hj).1)
              case measure => simp [intOf]; omega
            · have : k = len := by omega
              subst this
              go_ret2
              exact ⟨_, rfl, hrow, hnx⟩
          · have hnowT := now_tail2 hfl' hc1 hnow0
            go_wp2_with (first
              | (go_at_call 24; refine hix'.mono ?_; rintro e w' ⟨rfl, hw'⟩; rw [hw']; clear hw' w')
              | (at_builtin; refine wpList_append_own _ rfl _ _ 28 rfl w.heap.size 52 i0 (.agg #[.int .i64 0, .int .u32 0]) 2 16 Try.underlying28 hi hz0 hz1 hz2 rfl (by decide) _ _ _ rfl (hrow.alloc _) ⟨wr.heap.size, 0, none⟩ 1 1 [.int .i64 (k : Int), .int .u32 x0] rfl rfl (cell_two_new _ _ _ _) (by simp [Value.oneCell']) (by unfold maxLen; omega) (by omega) (by simp; omega) ?_; intro v8 w1 hrow1 hg1 _
                 have hnow1 := (hnowT.kept (World.grownBy_alloc wr _ none) (by simp)).kept hg1 hgne)
              | (at_builtin; refine wpList_append_now _ rfl _ _ rfl w.heap.size _ _ rfl (hnow1.kept (World.grownBy_alloc w1 _ none) (by simp)) (by have := hg1.size; simp at this ⊢; omega) (by rw [List.length_drop]; omega) ⟨w1.heap.size, 0, none⟩ (us.getD k 0) rfl (cell_one_new _ _ _ 0 _ rfl) ?_; intro v2 w2 hnow2 hg2)
              | go_in)
            · have hlt : k < len := by assumption
              have s1 := hg1.size
              have s2 := hg2.size
              simp only [World.size_alloc] at s1 s2
              have hr1 := hrow1.alloc (.cells #[.int .u32 (us.getD k 0)] 50)
              have hr2 := hr1.kept hg2 (row_now hr1 (hnow1.kept (World.grownBy_alloc w1 _ none) (by simp)))
              go_roundw
              case rel =>
                refine ⟨k + 1, by omega, by go_num, by rw [take_snoc' us k (by omega), ← hnext]; exact hnow2, ?_, ?_⟩
                · rw [take_snoc' us k (by omega), evU_snoc, gv_snoc, hg, if_pos rfl, if_pos rfl, List.length_append, List.length_singleton, List.length_take, Nat.min_eq_left (by omega), show (lruN c (us.take k)).getD (c - 1) 0 = x0 by omega]
                  exact hr2
                · have n1 := (hnx.alloc hsz (.cells #[.int .i64 (k : Int), .int .u32 x0] 52)).grown hg1 (by simp; omega) (fun j hj => (hrow.lt j hj).1)
                  exact (n1.alloc (by omega) (.cells #[.int .u32 (us.getD k 0)] 50)).grown hg2 (by simp; omega) (fun j hj => (hnow1.lt j hj).1)
              case measure => simp [intOf]; omega
            · have : k = len := by omega
              subst this
              go_ret2
              exact ⟨_, rfl, hrow, hnx⟩
      · have hroom : (lruN c (us.take k)).length < c := by have := lruN_len c (us.take k); omega
        have hnext := now_room hm' hroom
        have hg : gone c (us.take k) (us.getD k 0) = false := by unfold gone; simp only [decide_eq_false_iff_not, not_and]; exact fun _ => hfull
        have hroom' : (lruN c (us.take k)).reverse.length < c := by rw [List.length_reverse]; exact hroom
        obtain ⟨L, hL1, hL2⟩ : ∃ L, L ≤ (lruN c (us.take k)).reverse.length ∧ (lruN c (us.take k)).reverse.length ≤ L := ⟨_, Nat.le_refl _, Nat.le_refl _⟩
        rw [show (lruN c (us.take k)).reverse.length = L by omega] at hlenv
        have hLc : ¬ (L : Int) = c := by omega
        have hLc' : ¬ L = c := by omega
        go_wp2_with (first
          | (go_at_call 24; refine hix'.mono ?_; rintro e w' ⟨rfl, hw'⟩; rw [hw']; clear hw' w')
          | (at_builtin; refine wpList_append_now _ rfl _ _ rfl w.heap.size _ _ rfl (hnow.kept (World.grownBy_alloc wr _ none) (by simp)) (by simp; omega) (by omega) ⟨wr.heap.size, 0, none⟩ (us.getD k 0) rfl (cell_one_new _ _ _ 0 _ rfl) ?_; intro v2 w2 hnow2 hg2)
          | go_in)
        · have hlt : k < len := by assumption
          have s2 := hg2.size
          simp only [World.size_alloc] at s2
          have hr1 := hrow.alloc (.cells #[.int .u32 (us.getD k 0)] 50)
          have hr2 := hr1.kept hg2 (row_now hr1 (hnow.kept (World.grownBy_alloc wr _ none) (by simp)))
          go_roundw
          case rel =>
            refine ⟨k + 1, by omega, by go_num, by rw [take_snoc' us k (by omega), ← hnext]; exact hnow2, ?_, ?_⟩
            · rw [take_snoc' us k (by omega), evU_snoc, gv_snoc, hg]
              simpa using hr2
            · exact (hnx.alloc hsz (.cells #[.int .u32 (us.getD k 0)] 50)).grown hg2 (by simp; omega) (fun j hj => (hnow.lt j hj).1)
          case measure => simp [intOf]; omega
        · have : k = len := by omega
          subst this
          go_ret2
          exact ⟨_, rfl, hrow, hnx⟩
set_option maxHeartbeats 1000000 in
theorem evicted_none (c : Nat) (a : Option Addr) (cap : Nat) (w : World) (hck : chkV' c 0 = 0) : Calls Try.prog 8 #[.int .i64 c, .slice a 0 cap] w fun e w' => e = .returned (.tuple #[.slice none 0 0, .int .i64 0]) ∧ w' = w := by
  go_enter Try.func8, Try.ntmps8
  go_wp2_with (first | (go_at_call 21; refine (chk_any c _ 0 cap _).mono ?_; rw [hck]; rintro e w' ⟨rfl, hw'⟩; rw [hw']; clear hw' w') | go_in)
  refine wp_loop_rounds 1 ?_
  rw [rounds_succ]
  go_wp2
  go_ret2
  exact ⟨rfl, rfl⟩
end EvS
end

section
namespace EvS
open Go Go.Dam Go.Proofs Go.RowKit Go.Shelf
set_option maxRecDepth 100000
set_option linter.unusedVariables false
set_option linter.unusedSimpArgs false
set_option linter.unusedSectionVars false
/-! The walks, as contracts. -/
def orderL (c : Int) (us : List Int) : List Int := if chkV c us.length = 0 then lruN c.toNat us else []
def evUL (c : Int) (us : List Int) : List Int := if chkV c us.length = 0 then evU c.toNat us else []
def evKL (c : Int) (us : List Int) : List Int := if chkV c us.length = 0 then evK c.toNat us else []
theorem chk_pos {c : Int} {n : Nat} (h : chkV c n = 0) : 1 ≤ c ∧ c ≤ 8 ∧ n ≤ 60 := by unfold chkV at h; repeat' split at h; all_goals omega
theorem u32s {us : List Int} (h : okU us) : ∃ vs : List U32, vs.map (fun u => u.1) = us := by
  induction us with
  | nil => exact ⟨[], rfl⟩
  | cons x us ih =>
    obtain ⟨vs, h1⟩ := ih fun y hy => h y (by simp [hy])
    exact ⟨⟨x, h x (by simp)⟩ :: vs, by simp [h1]⟩
theorem gv_cols [Glo] (c : Nat) (us : List Int) : rowCells0 [.ints .i64 (evU c us), .ints .u32 (evK c us)] = (gv c us).map D.v := by
  unfold gv
  have hl := ev_len c us
  generalize evU c us = xs at *
  generalize evK c us = ys at *
  apply List.ext_getElem?
  intro m
  rw [rc0_get]
  simp only [rowLen0, Col0.len, List.length_cons, List.length_nil, Nat.zero_add]
  induction xs generalizing ys m with
  | nil =>
    cases ys with
    | nil => simp
    | cons y ys => simp at hl
  | cons x xs ih =>
    cases ys with
    | nil => simp at hl
    | cons y ys =>
      have hl' : xs.length = ys.length := by simpa using hl
      match m with
      | 0 => simp [Col0.val]
      | 1 => simp [Col0.val]; omega
      | m + 2 =>
        have h2 := ih ys hl' m
        simp only [List.zip_cons_cons, List.flatMap_cons, List.map_append, List.map_cons, List.map_nil, List.cons_append, List.nil_append, List.getElem?_cons_succ]
        rw [← h2]
        have e1 : (m + 2) % 2 = m % 2 := by omega
        have e2 : (m + 2) / 2 = m / 2 + 1 := by omega
        rw [e1, e2]
        have e3 : (m + 1 + 1 < (x :: xs).length * (1 + 1)) ↔ m < xs.length * (1 + 1) := by simp; omega
        by_cases c : m < xs.length * (1 + 1)
        · rw [if_pos c, if_pos (e3.2 c)]
          rcases Nat.mod_two_eq_zero_or_one m with e | e <;> simp [e, Col0.val]
        · rw [if_neg c, if_neg (fun q => c (e3.1 q))]
section
variable [Glo]
theorem or_ok (c : Int) (us : List Int) (h : us.length ≤ 200 ∧ okU us) : CallsD Try.prog 6 [.v (.int .i64 c), .rc [.ints .u32 us]] (.tup [.oc [.ints .u32 (orderL c us)], .v (.int .i64 (chkV c us.length))]) := by
  obtain ⟨hn, hw⟩ := h
  intro w A vs hv low glo
  simp only [RepL] at hv
  obtain ⟨u0, xs0, rfl, hu0, u, xs, rfl, hu, rfl⟩ := hv
  simp only [RepS] at hu0; subst hu0
  obtain ⟨o, cp, rfl, hcp, hx⟩ := open_ri hu
  unfold orderL
  by_cases e0 : chkV c us.length = 0
  · rw [if_pos e0, e0]
    obtain ⟨h1, h2, h3⟩ := chk_pos e0
    obtain ⟨cn, rfl⟩ := Int.eq_ofNat_of_zero_le (by omega : 0 ≤ c)
    obtain ⟨vs, hvs⟩ := u32s hw
    have hl : us.length = vs.length := by rw [← hvs]; simp
    refine (callsIn_wide.1 (order_in Fence.wide 3 trivial trivial trivial trivial rfl (by decide) cn o us.length cp vs w e0 hl ?_)).mono ?_
    · by_cases ez : us.length = 0
      · exact .inl ez
      · obtain ⟨b, off, rfl, hb, hc⟩ := hx ez
        refine .inr ⟨b, off, rfl, low b hb, fun j hj => ?_⟩
        rw [hc j hj, ← hvs]
        have : j < vs.length := by omega
        simp [List.getD_eq_getElem?_getD, this]
    · rintro e w' ⟨v, rfl, hown, hB⟩
      rw [hvs] at hown
      obtain ⟨bl, r1, r2⟩ := repO_own (A := A) (cols := [.ints .u32 (lruN cn us)]) (by simp) (by simpa [rowLen0, Col0.len] using hown) (rowCells0_one_ints _ _)
      refine ⟨_, A, bl, rfl, ?_, r2.fresh (Nat.le_refl _) low, fun k h => h, fun k h => Nat.lt_of_lt_of_le (low k h) hB.size, fun k h _ => h, hB⟩
      simp only [RepO, RepOs, RepS]
      exact ⟨[v, .int .i64 0], rfl, v, _, bl, [], rfl, by simp, r1, _, _, [], [], rfl, by simp, ⟨rfl, rfl⟩, rfl, rfl⟩
  · rw [if_neg e0]
    refine (callsIn_wide.1 (order_bad Fence.wide 3 trivial trivial rfl (by decide) c o us.length cp w e0)).mono ?_
    rintro e w' ⟨rfl, hB⟩
    refine ⟨_, A, [none], rfl, ?_, ⟨fun ad h => by simp at h, by simp⟩, fun k h => h, fun k h => Nat.lt_of_lt_of_le (low k h) hB.size, fun k h _ => h, hB⟩
    simp only [RepO, RepOs, RepS]
    exact ⟨[.slice none 0 0, .int .i64 (chkV c us.length)], rfl, _, _, [none], [], rfl, by simp, ⟨none, 0, rfl, .inl ⟨rfl, rfl, rfl, rfl⟩⟩, _, _, [], [], rfl, by simp, ⟨rfl, rfl⟩, rfl, rfl⟩
theorem ev_ok (c : Int) (us : List Int) (h : us.length ≤ 200 ∧ okU us) : CallsD Try.prog 8 [.v (.int .i64 c), .rc [.ints .u32 us]] (.tup [.oc [.ints .i64 (evUL c us), .ints .u32 (evKL c us)], .v (.int .i64 (chkV c us.length))]) := by
  obtain ⟨hn, hw⟩ := h
  intro w A vs hv low glo
  simp only [RepL] at hv
  obtain ⟨u0, xs0, rfl, hu0, u, xs, rfl, hu, rfl⟩ := hv
  simp only [RepS] at hu0; subst hu0
  obtain ⟨o, cp, rfl, hcp, hx⟩ := open_ri hu
  unfold evUL evKL
  have finish : ∀ (v : Value) (w' : World) (c : Nat) (us : List Int), w'.ownsRow w.heap.size 52 2 v (evU c us).length (gv c us) → RowKit.Below w.heap.size w w' →
      ∃ v0 A' bl, Ending.returned (.tuple #[v, .int .i64 0]) = .returned v0 ∧ RepO w' A' (.tup [.oc [.ints .i64 (evU c us), .ints .u32 (evK c us)], .v (.int .i64 0)]) v0 bl ∧ Fresh w' A' w.heap.size bl ∧ (∀ k, A k → A' k) ∧ (∀ k, A' k → k < w'.heap.size) ∧ (∀ k, A' k → k < w.heap.size → A k) ∧ RowKit.Below w.heap.size w w' := by
    intro v w' c us hown hB
    obtain ⟨bl, r1, r2⟩ := repO_own (A := A) (cols := [.ints .i64 (evU c us), .ints .u32 (evK c us)]) (by simp) (by simpa [rowLen0, Col0.len] using hown) (gv_cols _ _)
    refine ⟨_, A, bl, rfl, ?_, r2.fresh (Nat.le_refl _) low, fun k h => h, fun k h => Nat.lt_of_lt_of_le (low k h) hB.size, fun k h _ => h, hB⟩
    simp only [RepO, RepOs, RepS]
    exact ⟨[v, .int .i64 0], rfl, v, _, bl, [], rfl, by simp, r1, _, _, [], [], rfl, by simp, ⟨rfl, rfl⟩, rfl, rfl⟩
  by_cases e0 : chkV c us.length = 0
  · rw [if_pos e0, if_pos e0, e0]
    obtain ⟨h1, h2, h3⟩ := chk_pos e0
    obtain ⟨cn, rfl⟩ := Int.eq_ofNat_of_zero_le (by omega : 0 ≤ c)
    by_cases ez : us.length = 0
    · obtain rfl : us = [] := List.length_eq_zero_iff.1 ez
      refine (evicted_none cn o cp w e0).mono ?_
      rintro e w' ⟨rfl, hw'⟩
      rw [hw']
      exact finish _ w cn [] (World.ownsRow_nil _ _ _ _) (.refl _ _)
    · obtain ⟨b, off, rfl, hb, hc⟩ := hx ez
      refine (evicted_any cn b off us.length cp us w e0 (Nat.le_refl _) (low b hb) hc hw).mono ?_
      rintro e w' ⟨v, rfl, hown, hB⟩
      rw [List.take_length] at hown
      exact finish v w' cn us hown hB
  · rw [if_neg e0, if_neg e0]
    refine (evicted_bad c o us.length cp w e0).mono ?_
    rintro e w' ⟨rfl, hw'⟩
    rw [hw']
    refine ⟨_, A, [none], rfl, ?_, ⟨fun ad h => by simp at h, by simp⟩, fun k h => h, low, fun k h _ => h, .refl _ _⟩
    simp only [RepO, RepOs, RepS]
    exact ⟨[.slice none 0 0, .int .i64 (chkV c us.length)], rfl, _, _, [none], [], rfl, by simp, ⟨none, 0, rfl, .inl ⟨rfl, rfl, rfl, rfl⟩⟩, _, _, [], [], rfl, by simp, ⟨rfl, rfl⟩, rfl, rfl⟩
end
end EvS
end

section
namespace EvS
open Go Go.Dam Go.Proofs
set_option maxRecDepth 1000000
set_option linter.unusedVariables false
set_option linter.unusedSectionVars false
set_option linter.unusedSimpArgs false
@[reducible] def G0 : Glo := ⟨fun _ => [], fun _ => false⟩
attribute [instance] G0
abbrev i64 (n : Int) : D := .v (.int .i64 n)
abbrev u32 (n : Int) : D := .v (.int .u32 n)
abbrev bo (b : Bool) : D := .v (.bool b)
abbrev ri (xs : List Int) : D := .rc [.ints .i64 xs]
abbrev ru (xs : List Int) : D := .rc [.ints .u32 xs]
abbrev rg (xs ks : List Int) : D := .rc [.ints .i64 xs, .ints .u32 ks]
abbrev oi (xs : List Int) : D := .oc [.ints .i64 xs]
abbrev ou (xs : List Int) : D := .oc [.ints .u32 xs]
abbrev og (xs ks : List Int) : D := .oc [.ints .i64 xs, .ints .u32 ks]
def okX (us : List Int) : Prop := us.length ≤ 200 ∧ okU us
def orC : List D → Option (D × List Prop)
  | [.v (.int .i64 c), .rc [.ints .u32 us]] => some ((.tup [ou (orderL c us), i64 (chkV c us.length)]), [okX us])
  | _ => none
theorem orC_ok (args res l) (h : orC args = some (res, l)) (hl : AllP l) : CallsD Try.prog 6 args res := by
  unfold orC at h; split at h
  · simp only [Option.some.injEq, Prod.mk.injEq] at h
    obtain ⟨rfl, rfl⟩ := h; obtain ⟨h0, _⟩ := hl
    exact or_ok _ _ h0
  · cases h
def evC : List D → Option (D × List Prop)
  | [.v (.int .i64 c), .rc [.ints .u32 us]] => some ((.tup [og (evUL c us) (evKL c us), i64 (chkV c us.length)]), [okX us])
  | _ => none
theorem evC_ok (args res l) (h : evC args = some (res, l)) (hl : AllP l) : CallsD Try.prog 8 args res := by
  unfold evC at h; split at h
  · simp only [Option.some.injEq, Prod.mk.injEq] at h
    obtain ⟨rfl, rfl⟩ := h; obtain ⟨h0, _⟩ := hl
    exact ev_ok _ _ h0
  · cases h
def rcC : List D → Option (D × List Prop)
  | [.rc [.ints .u32 us]] => some (oi (reachL us), [okX us])
  | _ => none
theorem rcC_ok (args res l) (h : rcC args = some (res, l)) (hl : AllP l) : CallsD Try.prog 26 args res := by
  unfold rcC at h; split at h
  · simp only [Option.some.injEq, Prod.mk.injEq] at h
    obtain ⟨rfl, rfl⟩ := h; obtain ⟨h0, _⟩ := hl
    exact rc_ok _ h0
  · cases h
def X0 : Contracts := addCon 6 (.call orC) (addCon 8 (.call evC) (addCon 26 (.call rcC) noCon))
theorem hX0 : ConOK Try.prog X0 := addCall_ok orC_ok (addCall_ok evC_ok (addCall_ok rcC_ok noCon_ok))
theorem succL {i n : Nat} (h : i < n) (hn : n ≤ 200) : opI .add .i64 (i : Int) 1 = ((i + 1 : Nat) : Int) := by
  rw [opI_add, wrap_i64_of (by omega) (by omega)]; omega
theorem succL' {i n : Nat} (h : i < n) (hn : n ≤ 300) : opI .add .i64 (i : Int) 1 = ((i + 1 : Nat) : Int) := by
  rw [opI_add, wrap_i64_of (by omega) (by omega)]; omega
theorem natLt {i n : Nat} (h : i < n) : decide (0 ≤ (i : Int)) = true ∧ decide ((i : Int) < (n : Int)) = true := by simp; exact h
/-- The first number that is right, or -1. -/
def findI (p : Nat → Bool) : Nat → Nat → Int
  | 0, _ => -1
  | d + 1, i => if p i then (i : Int) else findI p d (i + 1)
theorem findI_none {p : Nat → Bool} : ∀ (d i : Nat), (∀ j, i ≤ j → j < i + d → p j = false) → findI p d i = -1
  | 0, _, _ => rfl
  | d + 1, i, h => by
    simp only [findI, h i (Nat.le_refl _) (by omega)]
    exact findI_none d (i + 1) fun j a b => h j (by omega) (by omega)
theorem findI_some {p : Nat → Bool} : ∀ (d i j : Nat), i ≤ j → j < i + d → p j = true → (∀ k, i ≤ k → k < j → p k = false) → findI p d i = (j : Int)
  | 0, i, j, _, h, _, _ => by omega
  | d + 1, i, j, h0, h1, h2, h3 => by
    by_cases e : p i = true
    · have : i = j := by
        rcases Nat.eq_or_lt_of_le h0 with q | q
        · exact q
        · rw [h3 i (Nat.le_refl _) q] at e; cases e
      subst this; simp only [findI, e, if_true]
    · simp only [findI, e]
      have : i ≠ j := fun q => by rw [q] at e; exact e h2
      exact findI_some d (i + 1) j (by omega) (by omega) h2 fun k a b => h3 k (by omega) b
theorem findI_lt {p : Nat → Bool} : ∀ (d i : Nat), findI p d i < 0 ↔ ∀ j, i ≤ j → j < i + d → p j = false
  | 0, i => ⟨fun _ j a b => by omega, fun _ => by simp [findI]⟩
  | d + 1, i => by
    by_cases e : p i = true
    · simp only [findI, e, if_true]
      exact ⟨fun h => by omega, fun h => by rw [h i (Nat.le_refl _) (by omega)] at e; cases e⟩
    · simp only [findI, e]
      refine (findI_lt d (i + 1)).trans ⟨fun h j a b => ?_, fun h j a b => h j (by omega) (by omega)⟩
      rcases Nat.eq_or_lt_of_le a with q | q
      · rw [← q]; simpa using e
      · exact h j q (by omega)
theorem mem_findI (xs : List Int) (n : Int) : decide (n ∈ xs) = !decide (findI (fun i => xs.getD i 0 == n) xs.length 0 < 0) := by
  rw [Bool.eq_iff_iff]
  simp only [decide_eq_true_eq, Bool.not_eq_true', decide_eq_false_iff_not, findI_lt]
  constructor
  · intro h q
    obtain ⟨i, hi, e⟩ := List.getElem_of_mem h
    have := q i (by omega) (by omega)
    simp [List.getD_eq_getElem?_getD, List.getElem?_eq_getElem hi, e] at this
  · intro h
    apply Classical.byContradiction
    intro c
    apply h
    intro j _ hj
    simp only [Nat.zero_add] at hj
    simp only [List.getD_eq_getElem?_getD, List.getElem?_eq_getElem hj, Option.getD_some, beq_eq_false_iff_ne]
    rintro rfl
    exact c (List.getElem_mem hj)
def inB (xs : List Int) (n : Int) : Bool := decide (n ∈ xs)
def eqB (xs ys : List Int) : Bool := decide (xs = ys)
/-- A loop that looks for the first number that is right. -/
theorem look_for {b : Code} (T : Nat → Cs) (n : Nat) (p : Nat → Bool) (C : Int → Prop)
    (hgo : ∀ i, i < n → p i = false → ∀ (σ : St) (e : Ex), Runs Try.prog (CallsD Try.prog) (.rounds b) (T (i + 1)).abs e σ → Runs Try.prog (CallsD Try.prog) (.rounds b) (T i).abs e σ)
    (hno : (∀ (σ : St) (e : Ex), Runs Try.prog (CallsD Try.prog) (.rounds b) (T n).abs e σ → Runs Try.prog (CallsD Try.prog) (.rounds b) (T 0).abs e σ) → C (-1))
    (hye : ∀ j, j < n → p j = true → (∀ (σ : St) (e : Ex), Runs Try.prog (CallsD Try.prog) (.rounds b) (T j).abs e σ → Runs Try.prog (CallsD Try.prog) (.rounds b) (T 0).abs e σ) → C j) : C (findI p n 0) := by
  by_cases h : ∃ j, 0 ≤ j ∧ j < n ∧ ¬ p j = false
  · obtain ⟨j, _, h1, h2, h3, h4⟩ := scan_first T n (fun i => p i = false) (fun i a c σ e r => hgo i a c σ e r) n 0 (by omega) h
    rw [findI_some n 0 j (by omega) (by omega) (by simpa using h2) (fun k a c => h3 k a c)]
    exact hye j h1 (by simpa using h2) fun σ e r => h4 σ e r
  · have hf : ∀ j, j < n → p j = false := fun j a => by
      cases e : p j with
      | false => rfl
      | true => exact absurd ⟨j, by omega, a, by simp [e]⟩ h
    rw [findI_none n 0 fun j _ a => hf j (by omega)]
    exact hno fun σ e r => scan_all T n (fun i => p i = false) (fun i a c σ e r => hgo i a c σ e r) r n 0 (by omega) fun j _ a => hf j a
noncomputable def haT (xs : List Int) (n : Int) (o : Bool) (i : Int) : Cs := ⟨TT.of [(0, ru xs), (1, u32 n), (4, bo o), (5, i64 i)], 18, [], [], none, 0⟩
noncomputable def smT (xs ys : List Int) (o : Bool) (i : Int) : Cs := ⟨TT.of [(0, ru xs), (1, ru ys), (4, bo o), (5, i64 i)], 26, [], [], none, 0⟩
noncomputable def siT (xs ys : List Int) (o : Bool) (i : Int) : Cs := ⟨TT.of [(0, ri xs), (1, ri ys), (4, bo o), (5, i64 i)], 26, [], [], none, 0⟩
noncomputable def usT (l : List Int) (m k : Int) (n : Nat) (i : Int) (xs : List Int) : Cs := ⟨TT.of [(0, ru l), (1, i64 m), (2, u32 k), (6, D.v (Value.slice none 0 0)), (7, u32 0), (8, bo false), (9, D.sl 384 0 n ⟨1, 0⟩), (10, i64 i)], 44, [], [(384, BX.row [Col0.ints .u32 xs] false)], none, 0⟩
noncomputable def sgT (xs ks ys ls : List Int) (o : Bool) (i : Int) : Cs := ⟨TT.of [(0, rg xs ks), (1, rg ys ls), (4, bo o), (5, i64 i)], 26, [], [], none, 0⟩
end EvS
end

section
namespace EvS
open Go Go.Proofs Go.RowKit
set_option maxRecDepth 100000
set_option linter.unusedVariables false
set_option linter.unusedSimpArgs false
theorem run_lenv {w : World} {base e : Nat} {v : Value} {n : Nat} {xs : List Value} (h : w.ownsRow base e 1 v n xs) (wx : World) : (Builtin.len_ #[22] 3 #[v]).run Try.prog wx = .ok (.int .i64 (n : Int)) wx := by
  rcases h.2 with ⟨rfl, rfl⟩ | ⟨g, cap, _, rfl, _⟩ <;> simp [Builtin.len_, go_sem]
def Hide (p : Prop) : Prop := p
/-- What 'used' hands back. -/
def usedPost (c : Nat) (L : List Int) (w : World) (e : Ending) (w' : World) : Prop := ∃ v n kk, e = .returned (.tuple #[v, .int .u32 kk, .bool (decide (c < L.length))]) ∧
      w'.ownsRow w.heap.size 50 1 v n ((L.take c).map (Value.int .u32)) ∧ n = (L.take c).length ∧ kk = (if c < L.length then L.getD c 0 else 0) ∧ Below w.heap.size w w'
set_option maxHeartbeats 4000000 in
theorem used_any (c : Nat) (k : Int) (b off len cap : Nat) (l : List Int) (w : World) (hl : len ≤ l.length) (hn : len ≤ 200) (hc200 : c ≤ 200) (hb : b < w.heap.size)
    (hc : ∀ j, j < len → w.cell? ⟨b, off + j, none⟩ = some (.int .u32 (l.getD j 0))) :
    Calls Try.prog 23 #[.slice (some ⟨b, off, none⟩) len cap, .int .i64 c, .int .u32 k] w fun e w' => usedPost c (ins k (l.take len)) w e w' := by
  obtain ⟨i0, hi, hz0, hz1, hz2⟩ := info_parts Try.info50y
  go_enter Try.func23, Try.ntmps23
  go_wp2
  go_loopw [9, 10] (fun v i wr => ∃ j n : Nat, j ≤ len ∧ i = .int .i64 j ∧ n ≤ (ins k (l.take j)).length ∧ (ins k (l.take j)).length ≤ n ∧ wr.ownsRow w.heap.size 50 1 v n ((ins k (l.take j)).map (Value.int .u32)) ∧ Below w.heap.size w wr)
    (fun _ i _ => len - (intOf i).toNat)
  case atStart =>
    refine ⟨0, 1, Nat.zero_le _, rfl, by simp [ins], by simp [ins], ?_, (Below.refl _ _).alloc (Nat.le_refl _) _⟩
    refine ⟨by simp [ins], .inr ⟨w.heap.size, 1, #[.int .u32 k], rfl, Nat.le_refl _, heap_alloc_new w _, Nat.le_refl _, by decide, rfl, by simp [ins]⟩⟩
  case round =>
    obtain ⟨j, n, hj, rfl, hn1, hn2, hrow, hnx⟩ := hrel
    have hcx : j < len → wr.cell? ⟨b, off + j, none⟩ = some (.int .u32 (l.getD j 0)) := fun h => (hnx.cell (by exact hb)).trans (hc j h)
    have hsz := hnx.size
    have hlf : (ins k (l.take j)).length ≤ 201 := by
      unfold ins
      have := List.length_filter_le (fun x => x != k) (l.take j)
      rw [List.length_take] at this
      simp only [List.length_cons]; omega
    by_cases hlt : j < len
    · have hcx' := hcx hlt
      have htk := take_snoc' l j (by omega)
      go_wp2_with (first
        | (at_builtin; refine wpList_append_own _ rfl _ _ 22 rfl w.heap.size 50 i0 (.int .u32 0) 1 4 Try.underlying22 hi hz0 hz1 hz2 rfl (by decide) _ _ _ rfl (hrow.alloc _) ⟨wr.heap.size, 0, none⟩ 1 1 [.int .u32 (l.getD j 0)] rfl rfl (cell_one_new _ _ _) (by simp [Value.oneCell']) (by unfold maxLen; omega) (by omega) (by simp; omega) ?_; intro v1 w1 hrow1 hg1 _)
        | go_in)
      · have hne : l.getD j 0 ≠ k := by
          rw [List.getD_eq_getElem?_getD]
          have h : (l[j]?.getD 0 != k) = true := by assumption
          simpa using h
        have hins : ins k (l.take (j + 1)) = ins k (l.take j) ++ [l.getD j 0] := by
          rw [htk]
          unfold ins
          rw [List.filter_append, List.filter_cons, if_pos (by rw [bne_iff_ne]; exact hne)]
          rfl
        go_roundw
        case rel =>
          refine ⟨j + 1, n + 1, by omega, by go_num, by rw [hins]; simp; omega, by rw [hins]; simp; omega, by rw [hins, List.map_append]; exact hrow1, (hnx.alloc hsz _).grown hg1 (by simp; omega) (fun q hq => (hrow.lt q hq).1)⟩
        case measure => simp [intOf]; omega
      · have hne : l.getD j 0 = k := by
          rw [List.getD_eq_getElem?_getD]
          have h : (l[j]?.getD 0 != k) = false := by assumption
          simpa using h
        have hins : ins k (l.take (j + 1)) = ins k (l.take j) := by
          rw [htk]
          unfold ins
          rw [List.filter_append, List.filter_cons, if_neg (by rw [bne_iff_ne]; exact fun q => q hne)]
          simp
        go_roundw
        case rel =>
          refine ⟨j + 1, n, by omega, by go_num, by rw [hins]; exact hn1, by rw [hins]; exact hn2, by rw [hins]; exact hrow, hnx⟩
        case measure => simp [intOf]; omega
    · obtain rfl : j = len := by omega
      have hpos : 1 ≤ (ins k (l.take j)).length := by simp [ins]
      obtain ⟨L, hL⟩ : ∃ L, ins k (l.take j) = L := ⟨_, rfl⟩
      rw [hL] at hn1 hn2 hrow hlf hpos
      rcases hrow.2 with ⟨rfl, hz⟩ | ⟨g, cp, cur, rfl, hbg, hgg, hcp, hcm, hcs, htk⟩
      · omega
      · have hcell : c < n → wr.cell? ⟨g, c, none⟩ = some (.int .u32 (L.getD c 0)) := fun h => by
          rw [cell_of_row wr g c cur 50 (0, 0) hgg]
          have : (cur.toList.take (n * 1))[c]? = some (.int .u32 (L.getD c 0)) := by
            rw [htk, List.getElem?_map, List.getElem?_eq_getElem (by omega), List.getD_eq_getElem?_getD, List.getElem?_eq_getElem (by omega)]; rfl
          rw [List.getElem?_take, if_pos (by omega)] at this
          simpa using this
        have hfin : ∀ (m : Nat), m ≤ n → m = (L.take c).length → wr.ownsRow w.heap.size 50 1 (.slice (some ⟨g, 0, none⟩) m cp) m ((L.take c).map (Value.int .u32)) := fun m hm hmc => by
          refine ⟨by simp; rw [hmc]; simp, .inr ⟨g, cp, cur, rfl, hbg, hgg, by omega, hcm, hcs, ?_⟩⟩
          have : cur.toList.take (m * 1) = (cur.toList.take (n * 1)).take m := by rw [List.take_take]; congr 1; omega
          rw [this, htk, ← List.map_take]
          congr 1
          rw [hmc, List.length_take, ← List.take_take, List.take_of_length_le (l := L) (Nat.le_refl _)]
        have hL' : Hide (ins k (l.take j) = L) := hL
        clear hgg htk hcs hL
        by_cases hcn : c < n
        · have hcell' := hcell hcn
          have hdc : decide (c < L.length) = true := by simp; omega
          have hlt' : (L.take c).length = c := by rw [List.length_take]; omega
          have hf := hfin c (by omega) hlt'.symm
          clear hfin hcell
          go_wp2
          go_region
          go_wp2
          go_ret3
          have hL2 : ins k (l.take j) = L := hL'
          subst hL2
          exact ⟨_, c, (ins k (l.take j)).getD c 0, by rw [hdc]; rfl, hf.drew, hlt'.symm, by rw [if_pos (by omega)], hnx.drew⟩
        · have hdc : decide (c < L.length) = false := by simp; omega
          have hlt' : (L.take c).length = n := by rw [List.length_take]; omega
          have hf := hfin n (by omega) hlt'.symm
          clear hfin hcell
          go_wp2
          go_ret3
          have hL2 : ins k (l.take j) = L := hL'
          subst hL2
          exact ⟨_, n, 0, by rw [hdc]; rfl, hf, hlt'.symm, by rw [if_neg (by omega)], hnx⟩
set_option maxHeartbeats 4000000 in
theorem used_none (c : Nat) (k : Int) (a : Option Addr) (cap : Nat) (w : World) :
    Calls Try.prog 23 #[.slice a 0 cap, .int .i64 c, .int .u32 k] w fun e w' => usedPost c [k] w e w' := by
  have hown : ∀ m, m ≤ 1 → m = ([k].take c).length → (w.alloc (.cells #[.int .u32 k] 50)).ownsRow w.heap.size 50 1 (.slice (some ⟨w.heap.size, 0, none⟩) m 1) m (([k].take c).map (Value.int .u32)) := fun m hm hmc =>
    ⟨by simp; rw [hmc]; simp, .inr ⟨w.heap.size, 1, #[.int .u32 k], rfl, Nat.le_refl _, heap_alloc_new w _, hm, by decide, rfl, by cases c <;> simp_all⟩⟩
  have hB : Below w.heap.size w (w.alloc (.cells #[.int .u32 k] 50)) := (Below.refl _ _).alloc (Nat.le_refl _) _
  have hcell : (w.alloc (.cells #[.int .u32 k] 50)).cell? ⟨w.heap.size, 0, none⟩ = some (.int .u32 k) := by simp
  by_cases h0 : c = 0
  · subst h0
    have h1 := hown 0 (by omega) rfl
    go_enter Try.func23, Try.ntmps23
    go_wp2
    refine wp_loop_rounds 1 ?_
    rw [rounds_succ]
    go_wp2
    go_region
    go_wp2
    go_ret3
    exact ⟨_, 0, k, rfl, h1.drew, rfl, rfl, hB.drew⟩
  · have hc1 : 1 ≤ c := by omega
    have hlen : ([k].take c).length = 1 := by rw [List.length_take]; simp; omega
    have h1 := hown 1 (by omega) hlen.symm
    have hd : decide (c < [k].length) = false := by simp; omega
    clear hown
    go_enter Try.func23, Try.ntmps23
    go_wp2
    refine wp_loop_rounds 1 ?_
    rw [rounds_succ]
    go_wp2
    go_ret3
    exact ⟨_, 1, 0, by rw [hd]; rfl, h1, hlen.symm, by rw [if_neg (by simp; omega)], hB⟩
end EvS
end
