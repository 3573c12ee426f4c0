/- What the functions compute, and the law. No condition. -/
import Derived.Test.YtakcfkmfiamliaaTaVG
import Derived.Test.YtakcfkmfiamliaaRows
set_option linter.unusedSectionVars false
set_option linter.unusedVariables false
set_option linter.unusedSimpArgs false
section
namespace TableS
open Go Go.Dam Go.Proofs
set_option maxRecDepth 1000000
theorem put_twS {T : Tb} (w : twS T) (i : Nat) (b r p v q a : Int) : twS (T.put i b r p v q a) := by
 obtain ⟨h1, ⟨k1, k2, k3, k4, k5, k6⟩, h3, h4, h5, h6, h7⟩ := w
 refine ⟨h1, ⟨?_, ?_, ?_, ?_, ?_, ?_⟩, h3, h4, h5, h6, h7⟩ <;> simp only [Tb.put, List.length_set] <;> omega
theorem seT_twS {T : Tb} (w : twS T) (k b r p v q a : Int) : twS (seT T k b r p v q a) := by
 unfold seT; split
 ·exact put_twS w _ _ _ _ _ _ _
 ·exact t0_twS
theorem drX_twS {T : Tb} (ho : okT T) {k : Int} (hk : inU k) : twS (drX T k) := by
 unfold drX; split
 ·next c =>
  obtain ⟨L, F, v⟩ := tc_inv ho c.1
  rcases inv_pl v hk with ⟨i, ep, hi, hu, ek⟩ | ⟨ep, _⟩
  ·rw [ep, Int.toNat_natCast]; exact okT_twS (okT_without ho v hk hi hu ek)
  ·omega
 ·exact t0_twS
theorem lmV_twS {T : Tb} (w : twS T) (b r p a : Int) : twS (lmV T b r p a) := by
 unfold lmV; split
 ·obtain ⟨h1, ⟨k1, k2, k3, k4, k5, k6⟩, h3, h4, h5, h6, h7⟩ := w
  refine ⟨h1, ⟨?_, ?_, ?_, ?_, ?_, ?_⟩, h3, h4, h5, h6, h7⟩ <;> simp only [Tb.lim, upd_len] <;> omega
 ·exact t0_twS
theorem ls0_p0 (T : Tb) (k b r p v q t b2 r2 p2 a : Int) : fnX Try.prog (X29) 100000 [.d true] 4 [T.d, u32 k, D.agg [i64 b, i64 r, i64 p, i64 v, i64 q, u64 t], D.agg [i64 b2, i64 r2, i64 p2], u64 a] = some (bo true, [T.great = true]) := by kernel_rfl
theorem ls0_calls (T : Tb) (k b r p v q t b2 r2 p2 a : Int) (res : D)
 (e0 : (T.great) = true)
 (h0 : (True) ∧ res = bo true) : CallsD Try.prog 4 [T.d, u32 k, D.agg [i64 b, i64 r, i64 p, i64 v, i64 q, u64 t], D.agg [i64 b2, i64 r2, i64 p2], u64 a] res := by
 obtain ⟨_, kr⟩ := h0
 exact of_path (hX29) (ls0_p0 T k b r p v q t b2 r2 p2 a) ⟨e0, trivial⟩ kr
theorem ls_p0 (T : Tb) (k b r p v q t b2 r2 p2 a : Int) : fnX Try.prog (X29) 100000 [.d false, .d true, .c 1, .d true, .c 4, .d true, .c 4, .d true, .c 4, .d true, .c 1] 4 [T.d, u32 k, D.agg [i64 b, i64 r, i64 p, i64 v, i64 q, u64 t], D.agg [i64 b2, i64 r2, i64 p2], u64 a] = some (bo true, [rowLen0 [.ints .u32 T.ks] = rowLen0 [.ints .u32 T.ks], rowLen0 [.ints .i64 T.x1, .ints .i64 T.x2, .ints .i64 T.x3, .ints .i64 T.x4, .ints .i64 T.x5, .ints .u64 T.x6] = rowLen0 [.ints .i64 T.x1, .ints .i64 T.x2, .ints .i64 T.x3, .ints .i64 T.x4, .ints .i64 T.x5, .ints .u64 T.x6], rowLen0 [.ints .i64 T.nx] = rowLen0 [.ints .i64 T.nx], rowLen0 [.bools T.us] = rowLen0 [.bools T.us], rowLen0 [.ints .u32 T.kx, .ints .i64 T.px, .bools T.ux] = rowLen0 [.ints .u32 T.kx, .ints .i64 T.px, .bools T.ux], rowLen0 [.ints .i64 T.ps] = rowLen0 [.ints .i64 T.ps], rowLen0 [.ints .i64 T.no] = rowLen0 [.ints .i64 T.no], T = T, twS T, cmpI .eql (lmE T b2 r2 p2) (lmE T b2 r2 p2) = true, rowLen0 [.ints .u32 (lmV T b2 r2 p2 a).ks] = rowLen0 [.ints .u32 (lmV T b2 r2 p2 a).ks], rowLen0 [.ints .i64 (lmV T b2 r2 p2 a).x1, .ints .i64 (lmV T b2 r2 p2 a).x2, .ints .i64 (lmV T b2 r2 p2 a).x3, .ints .i64 (lmV T b2 r2 p2 a).x4, .ints .i64 (lmV T b2 r2 p2 a).x5, .ints .u64 (lmV T b2 r2 p2 a).x6] = rowLen0 [.ints .i64 (lmV T b2 r2 p2 a).x1, .ints .i64 (lmV T b2 r2 p2 a).x2, .ints .i64 (lmV T b2 r2 p2 a).x3, .ints .i64 (lmV T b2 r2 p2 a).x4, .ints .i64 (lmV T b2 r2 p2 a).x5, .ints .u64 (lmV T b2 r2 p2 a).x6], rowLen0 [.ints .i64 (lmV T b2 r2 p2 a).nx] = rowLen0 [.ints .i64 (lmV T b2 r2 p2 a).nx], rowLen0 [.bools (lmV T b2 r2 p2 a).us] = rowLen0 [.bools (lmV T b2 r2 p2 a).us], rowLen0 [.ints .u32 (lmV T b2 r2 p2 a).kx, .ints .i64 (lmV T b2 r2 p2 a).px, .bools (lmV T b2 r2 p2 a).ux] = rowLen0 [.ints .u32 (lmV T b2 r2 p2 a).kx, .ints .i64 (lmV T b2 r2 p2 a).px, .bools (lmV T b2 r2 p2 a).ux], rowLen0 [.ints .i64 (lmV T b2 r2 p2 a).ps] = rowLen0 [.ints .i64 (lmV T b2 r2 p2 a).ps], rowLen0 [.ints .i64 (lmV T b2 r2 p2 a).no] = rowLen0 [.ints .i64 (lmV T b2 r2 p2 a).no], rowLen0 [.ints .u32 (lmV T b2 r2 p2 a).ks] = rowLen0 [.ints .u32 (lmV T b2 r2 p2 a).ks], rowLen0 [.ints .i64 (lmV T b2 r2 p2 a).x1, .ints .i64 (lmV T b2 r2 p2 a).x2, .ints .i64 (lmV T b2 r2 p2 a).x3, .ints .i64 (lmV T b2 r2 p2 a).x4, .ints .i64 (lmV T b2 r2 p2 a).x5, .ints .u64 (lmV T b2 r2 p2 a).x6] = rowLen0 [.ints .i64 (lmV T b2 r2 p2 a).x1, .ints .i64 (lmV T b2 r2 p2 a).x2, .ints .i64 (lmV T b2 r2 p2 a).x3, .ints .i64 (lmV T b2 r2 p2 a).x4, .ints .i64 (lmV T b2 r2 p2 a).x5, .ints .u64 (lmV T b2 r2 p2 a).x6], rowLen0 [.ints .i64 (lmV T b2 r2 p2 a).nx] = rowLen0 [.ints .i64 (lmV T b2 r2 p2 a).nx], rowLen0 [.bools (lmV T b2 r2 p2 a).us] = rowLen0 [.bools (lmV T b2 r2 p2 a).us], rowLen0 [.ints .u32 (lmV T b2 r2 p2 a).kx, .ints .i64 (lmV T b2 r2 p2 a).px, .bools (lmV T b2 r2 p2 a).ux] = rowLen0 [.ints .u32 (lmV T b2 r2 p2 a).kx, .ints .i64 (lmV T b2 r2 p2 a).px, .bools (lmV T b2 r2 p2 a).ux], rowLen0 [.ints .i64 (lmV T b2 r2 p2 a).ps] = rowLen0 [.ints .i64 (lmV T b2 r2 p2 a).ps], rowLen0 [.ints .i64 (lmV T b2 r2 p2 a).no] = rowLen0 [.ints .i64 (lmV T b2 r2 p2 a).no], (lmV T b2 r2 p2 a) = (lmV T b2 r2 p2 a), twS (lmV T b2 r2 p2 a), cmpI .eql (drE T k) (drE T k) = true, rowLen0 [.ints .u32 (drX T k).ks] = rowLen0 [.ints .u32 (drX T k).ks], rowLen0 [.ints .i64 (drX T k).x1, .ints .i64 (drX T k).x2, .ints .i64 (drX T k).x3, .ints .i64 (drX T k).x4, .ints .i64 (drX T k).x5, .ints .u64 (drX T k).x6] = rowLen0 [.ints .i64 (drX T k).x1, .ints .i64 (drX T k).x2, .ints .i64 (drX T k).x3, .ints .i64 (drX T k).x4, .ints .i64 (drX T k).x5, .ints .u64 (drX T k).x6], rowLen0 [.ints .i64 (drX T k).nx] = rowLen0 [.ints .i64 (drX T k).nx], rowLen0 [.bools (drX T k).us] = rowLen0 [.bools (drX T k).us], rowLen0 [.ints .u32 (drX T k).kx, .ints .i64 (drX T k).px, .bools (drX T k).ux] = rowLen0 [.ints .u32 (drX T k).kx, .ints .i64 (drX T k).px, .bools (drX T k).ux], rowLen0 [.ints .i64 (drX T k).ps] = rowLen0 [.ints .i64 (drX T k).ps], rowLen0 [.ints .i64 (drX T k).no] = rowLen0 [.ints .i64 (drX T k).no], rowLen0 [.ints .u32 (drX T k).ks] = rowLen0 [.ints .u32 (drX T k).ks], rowLen0 [.ints .i64 (drX T k).x1, .ints .i64 (drX T k).x2, .ints .i64 (drX T k).x3, .ints .i64 (drX T k).x4, .ints .i64 (drX T k).x5, .ints .u64 (drX T k).x6] = rowLen0 [.ints .i64 (drX T k).x1, .ints .i64 (drX T k).x2, .ints .i64 (drX T k).x3, .ints .i64 (drX T k).x4, .ints .i64 (drX T k).x5, .ints .u64 (drX T k).x6], rowLen0 [.ints .i64 (drX T k).nx] = rowLen0 [.ints .i64 (drX T k).nx], rowLen0 [.bools (drX T k).us] = rowLen0 [.bools (drX T k).us], rowLen0 [.ints .u32 (drX T k).kx, .ints .i64 (drX T k).px, .bools (drX T k).ux] = rowLen0 [.ints .u32 (drX T k).kx, .ints .i64 (drX T k).px, .bools (drX T k).ux], rowLen0 [.ints .i64 (drX T k).ps] = rowLen0 [.ints .i64 (drX T k).ps], rowLen0 [.ints .i64 (drX T k).no] = rowLen0 [.ints .i64 (drX T k).no], (drX T k) = (drX T k), twS (drX T k), cmpI .eql (seE T k b r p v q) (seE T k b r p v q) = true, rowLen0 [.ints .u32 (seT T k b r p v q t).ks] = rowLen0 [.ints .u32 (seT T k b r p v q t).ks], rowLen0 [.ints .i64 (seT T k b r p v q t).x1, .ints .i64 (seT T k b r p v q t).x2, .ints .i64 (seT T k b r p v q t).x3, .ints .i64 (seT T k b r p v q t).x4, .ints .i64 (seT T k b r p v q t).x5, .ints .u64 (seT T k b r p v q t).x6] = rowLen0 [.ints .i64 (seT T k b r p v q t).x1, .ints .i64 (seT T k b r p v q t).x2, .ints .i64 (seT T k b r p v q t).x3, .ints .i64 (seT T k b r p v q t).x4, .ints .i64 (seT T k b r p v q t).x5, .ints .u64 (seT T k b r p v q t).x6], rowLen0 [.ints .i64 (seT T k b r p v q t).nx] = rowLen0 [.ints .i64 (seT T k b r p v q t).nx], rowLen0 [.bools (seT T k b r p v q t).us] = rowLen0 [.bools (seT T k b r p v q t).us], rowLen0 [.ints .u32 (seT T k b r p v q t).kx, .ints .i64 (seT T k b r p v q t).px, .bools (seT T k b r p v q t).ux] = rowLen0 [.ints .u32 (seT T k b r p v q t).kx, .ints .i64 (seT T k b r p v q t).px, .bools (seT T k b r p v q t).ux], rowLen0 [.ints .i64 (seT T k b r p v q t).ps] = rowLen0 [.ints .i64 (seT T k b r p v q t).ps], rowLen0 [.ints .i64 (seT T k b r p v q t).no] = rowLen0 [.ints .i64 (seT T k b r p v q t).no], rowLen0 [.ints .u32 (seT T k b r p v q t).ks] = rowLen0 [.ints .u32 (seT T k b r p v q t).ks], rowLen0 [.ints .i64 (seT T k b r p v q t).x1, .ints .i64 (seT T k b r p v q t).x2, .ints .i64 (seT T k b r p v q t).x3, .ints .i64 (seT T k b r p v q t).x4, .ints .i64 (seT T k b r p v q t).x5, .ints .u64 (seT T k b r p v q t).x6] = rowLen0 [.ints .i64 (seT T k b r p v q t).x1, .ints .i64 (seT T k b r p v q t).x2, .ints .i64 (seT T k b r p v q t).x3, .ints .i64 (seT T k b r p v q t).x4, .ints .i64 (seT T k b r p v q t).x5, .ints .u64 (seT T k b r p v q t).x6], rowLen0 [.ints .i64 (seT T k b r p v q t).nx] = rowLen0 [.ints .i64 (seT T k b r p v q t).nx], rowLen0 [.bools (seT T k b r p v q t).us] = rowLen0 [.bools (seT T k b r p v q t).us], rowLen0 [.ints .u32 (seT T k b r p v q t).kx, .ints .i64 (seT T k b r p v q t).px, .bools (seT T k b r p v q t).ux] = rowLen0 [.ints .u32 (seT T k b r p v q t).kx, .ints .i64 (seT T k b r p v q t).px, .bools (seT T k b r p v q t).ux], rowLen0 [.ints .i64 (seT T k b r p v q t).ps] = rowLen0 [.ints .i64 (seT T k b r p v q t).ps], rowLen0 [.ints .i64 (seT T k b r p v q t).no] = rowLen0 [.ints .i64 (seT T k b r p v q t).no], (seT T k b r p v q t) = (seT T k b r p v q t), twS (seT T k b r p v q t), cmpI .eql (gtE T k) (gtE T k) = true, (gtN T k T.x1 == gtN T k T.x1 && (gtN T k T.x2 == gtN T k T.x2 && (gtN T k T.x3 == gtN T k T.x3 && true)) && (gtN T k T.x4 == gtN T k T.x4 && (gtN T k T.x5 == gtN T k T.x5 && (gtN T k T.x6 == gtN T k T.x6 && true)))) = true, lmS T a, rowLen0 [.ints .u32 T.ks] = rowLen0 [.ints .u32 T.ks], rowLen0 [.ints .i64 T.x1, .ints .i64 T.x2, .ints .i64 T.x3, .ints .i64 T.x4, .ints .i64 T.x5, .ints .u64 T.x6] = rowLen0 [.ints .i64 T.x1, .ints .i64 T.x2, .ints .i64 T.x3, .ints .i64 T.x4, .ints .i64 T.x5, .ints .u64 T.x6], rowLen0 [.ints .i64 T.nx] = rowLen0 [.ints .i64 T.nx], rowLen0 [.bools T.us] = rowLen0 [.bools T.us], rowLen0 [.ints .u32 T.kx, .ints .i64 T.px, .bools T.ux] = rowLen0 [.ints .u32 T.kx, .ints .i64 T.px, .bools T.ux], rowLen0 [.ints .i64 T.ps] = rowLen0 [.ints .i64 T.ps], rowLen0 [.ints .i64 T.no] = rowLen0 [.ints .i64 T.no], lmS T a, okT T ∧ inU k, rowLen0 [.ints .u32 T.ks] = rowLen0 [.ints .u32 T.ks], rowLen0 [.ints .i64 T.x1, .ints .i64 T.x2, .ints .i64 T.x3, .ints .i64 T.x4, .ints .i64 T.x5, .ints .u64 T.x6] = rowLen0 [.ints .i64 T.x1, .ints .i64 T.x2, .ints .i64 T.x3, .ints .i64 T.x4, .ints .i64 T.x5, .ints .u64 T.x6], rowLen0 [.ints .i64 T.nx] = rowLen0 [.ints .i64 T.nx], rowLen0 [.bools T.us] = rowLen0 [.bools T.us], rowLen0 [.ints .u32 T.kx, .ints .i64 T.px, .bools T.ux] = rowLen0 [.ints .u32 T.kx, .ints .i64 T.px, .bools T.ux], rowLen0 [.ints .i64 T.ps] = rowLen0 [.ints .i64 T.ps], rowLen0 [.ints .i64 T.no] = rowLen0 [.ints .i64 T.no], okT T ∧ inU k, okT T ∧ inU k ∧ in64 v, rowLen0 [.ints .u32 T.ks] = rowLen0 [.ints .u32 T.ks], rowLen0 [.ints .i64 T.x1, .ints .i64 T.x2, .ints .i64 T.x3, .ints .i64 T.x4, .ints .i64 T.x5, .ints .u64 T.x6] = rowLen0 [.ints .i64 T.x1, .ints .i64 T.x2, .ints .i64 T.x3, .ints .i64 T.x4, .ints .i64 T.x5, .ints .u64 T.x6], rowLen0 [.ints .i64 T.nx] = rowLen0 [.ints .i64 T.nx], rowLen0 [.bools T.us] = rowLen0 [.bools T.us], rowLen0 [.ints .u32 T.kx, .ints .i64 T.px, .bools T.ux] = rowLen0 [.ints .u32 T.kx, .ints .i64 T.px, .bools T.ux], rowLen0 [.ints .i64 T.ps] = rowLen0 [.ints .i64 T.ps], rowLen0 [.ints .i64 T.no] = rowLen0 [.ints .i64 T.no], okT T ∧ inU k ∧ in64 v, okT T ∧ inU k, rowLen0 [.ints .u32 T.ks] = rowLen0 [.ints .u32 T.ks], rowLen0 [.ints .i64 T.x1, .ints .i64 T.x2, .ints .i64 T.x3, .ints .i64 T.x4, .ints .i64 T.x5, .ints .u64 T.x6] = rowLen0 [.ints .i64 T.x1, .ints .i64 T.x2, .ints .i64 T.x3, .ints .i64 T.x4, .ints .i64 T.x5, .ints .u64 T.x6], rowLen0 [.ints .i64 T.nx] = rowLen0 [.ints .i64 T.nx], rowLen0 [.bools T.us] = rowLen0 [.bools T.us], rowLen0 [.ints .u32 T.kx, .ints .i64 T.px, .bools T.ux] = rowLen0 [.ints .u32 T.kx, .ints .i64 T.px, .bools T.ux], rowLen0 [.ints .i64 T.ps] = rowLen0 [.ints .i64 T.ps], rowLen0 [.ints .i64 T.no] = rowLen0 [.ints .i64 T.no], okT T ∧ inU k, twS T, T.great = false]) := by kernel_rfl
theorem ls_calls (T : Tb) (k b r p v q t b2 r2 p2 a : Int) (res : D)
 (e0 : (T.great) = false)
 (e1 : (gtN T k T.x1 == gtN T k T.x1 && (gtN T k T.x2 == gtN T k T.x2 && (gtN T k T.x3 == gtN T k T.x3 && true)) && (gtN T k T.x4 == gtN T k T.x4 && (gtN T k T.x5 == gtN T k T.x5 && (gtN T k T.x6 == gtN T k T.x6 && true)))) = true)
 (e2 : (cmpI .eql (gtE T k) (gtE T k)) = true)
 (e3 : (cmpI .eql (seE T k b r p v q) (seE T k b r p v q)) = true)
 (e4 : (cmpI .eql (drE T k) (drE T k)) = true)
 (e5 : (cmpI .eql (lmE T b2 r2 p2) (lmE T b2 r2 p2)) = true)
 (h0 : ((T = T) ∧ (twS T) ∧ ((lmV T b2 r2 p2 a) = (lmV T b2 r2 p2 a)) ∧ (twS (lmV T b2 r2 p2 a)) ∧ ((drX T k) = (drX T k)) ∧ (twS (drX T k)) ∧ ((seT T k b r p v q t) = (seT T k b r p v q t)) ∧ (twS (seT T k b r p v q t)) ∧ (lmS T a) ∧ (lmS T a) ∧ (okT T ∧ inU k) ∧ (okT T ∧ inU k) ∧ (okT T ∧ inU k ∧ in64 v) ∧ (okT T ∧ inU k ∧ in64 v) ∧ (okT T ∧ inU k) ∧ (okT T ∧ inU k) ∧ (twS T) ∧ True) ∧ res = bo true) : CallsD Try.prog 4 [T.d, u32 k, D.agg [i64 b, i64 r, i64 p, i64 v, i64 q, u64 t], D.agg [i64 b2, i64 r2, i64 p2], u64 a] res := by
 obtain ⟨⟨k0, k1, k2, k3, k4, k5, k6, k7, k8, k9, k10, k11, k12, k13, k14, k15, k16, _⟩, kr⟩ := h0
 exact of_path (hX29) (ls_p0 T k b r p v q t b2 r2 p2 a) ⟨rfl, rfl, rfl, rfl, rfl, rfl, rfl, k0, k1, e5, rfl, rfl, rfl, rfl, rfl, rfl, rfl, rfl, rfl, rfl, rfl, rfl, rfl, rfl, k2, k3, e4, rfl, rfl, rfl, rfl, rfl, rfl, rfl, rfl, rfl, rfl, rfl, rfl, rfl, rfl, k4, k5, e3, rfl, rfl, rfl, rfl, rfl, rfl, rfl, rfl, rfl, rfl, rfl, rfl, rfl, rfl, k6, k7, e2, e1, k8, rfl, rfl, rfl, rfl, rfl, rfl, rfl, k9, k10, rfl, rfl, rfl, rfl, rfl, rfl, rfl, k11, k12, rfl, rfl, rfl, rfl, rfl, rfl, rfl, k13, k14, rfl, rfl, rfl, rfl, rfl, rfl, rfl, k15, k16, e0, trivial⟩ kr
theorem sets_ok (T : Tb) (k b r p v q t b2 r2 p2 a : Int) (hh : okW T ∧ inU k ∧ (in64 b ∧ in64 r ∧ in64 p ∧ in64 v ∧ in64 q ∧ inQ t) ∧ (in64 b2 ∧ in64 r2 ∧ in64 p2) ∧ inQ a) :
  CallsD Try.prog 4 [T.d, u32 k, .agg [i64 b, i64 r, i64 p, i64 v, i64 q, u64 t], .agg [i64 b2, i64 r2, i64 p2], u64 a] (bo true) := by
 obtain ⟨hw, hk, ⟨_, _, _, hv, _⟩, _, ha⟩ := hh
 cases f0 : T.great with
 | true => exact ls0_calls T k b r p v q t b2 r2 p2 a _ f0 ⟨trivial, rfl⟩
 | false =>
  have ho := okT_of hw f0
  have w := okT_twS ho
  have h6 : lmS T a := ⟨ho, by obtain ⟨_, _, _, _, _, _, _, _, _, _, h6⟩ := hw; exact h6, ha⟩
  exact ls_calls T k b r p v q t b2 r2 p2 a _ f0 (by simp) (by rw [eql_t]) (by rw [eql_t]) (by rw [eql_t]) (by rw [eql_t])
   ⟨⟨rfl, w, rfl, lmV_twS w _ _ _ _, rfl, drX_twS ho hk, rfl, seT_twS w _ _ _ _ _ _ _, h6, h6, ⟨ho, hk⟩, ⟨ho, hk⟩, ⟨ho, hk, hv⟩, ⟨ho, hk, hv⟩, ⟨ho, hk⟩, ⟨ho, hk⟩, w, trivial⟩, rfl⟩
end TableS
end

section
namespace Go.Proofs.Ytakcfkmfiamliaa.tableSets
open Go.ChangeShapes Go.WideShapes Go.ChangeAt Go.RowKit Go.Dam _root_.TableS
set_option maxRecDepth 100000
theorem walk (W : World) (v0 v1 v2 v3 v4 : Value) (l0 : List Value) (n1 : Int) (f2 : Nat → Int) (f3 : Nat → Int) (n4 : Int) (h0 : v0 = .agg l0.toArray) (w0 : FFits W tKinds l0) (h1 : v1 = .int .u32 n1) (w1 : (Lit.int .u32 n1).wf = true) (h2 : v2 = .agg (mkVal bKinds f2).toArray) (w2 : ∀ j k, bKinds[j]? = some k → (Lit.int k (f2 j)).wf = true) (h3 : v3 = .agg (mkVal lKinds f3).toArray) (w3 : ∀ j k, lKinds[j]? = some k → (Lit.int k (f3 j)).wf = true) (h4 : v4 = .int .u64 n4) (w4 : (Lit.int .u64 n4).wf = true) :
  Calls Try.prog 4 #[v0, v1, v2, v3, v4] W (fun e W' => e = .returned (.bool true) ∧ Below W.heap.size W W') := by
 obtain ⟨T0, t0, r0⟩ := table_in w0
 subst h0; subst h1; subst h2; subst h3; subst h4
 refine (sets_ok T0 n1 (f2 0) (f2 1) (f2 2) (f2 3) (f2 4) (f2 5) (f3 0) (f3 1) (f3 2) n4 ⟨t0, Go.Dam.wf_u32 w1, ⟨TableS.wf_i64 (w2 0 .i64 rfl), TableS.wf_i64 (w2 1 .i64 rfl), TableS.wf_i64 (w2 2 .i64 rfl), TableS.wf_i64 (w2 3 .i64 rfl), TableS.wf_i64 (w2 4 .i64 rfl), TableS.wf_u64 (w2 5 .u64 rfl)⟩, ⟨TableS.wf_i64 (w3 0 .i64 rfl), TableS.wf_i64 (w3 1 .i64 rfl), TableS.wf_i64 (w3 2 .i64 rfl)⟩, TableS.wf_u64 w4⟩ W (fun k => k < W.heap.size) [_, _, _, _, _] ?_ (fun _ h => h) (fun g h => absurd rfl h)).mono ?_
 ·exact ⟨_, _, rfl, r0, ⟨_, _, rfl, rfl, ⟨_, _, rfl, rep_nums _ _, ⟨_, _, rfl, rep_nums _ _, ⟨_, _, rfl, rfl, rfl⟩⟩⟩⟩⟩
 ·rintro e w' ⟨v, A', bl, rfl, hr, _, _, _, _, hb⟩
  have hv : v = .bool true := by
   simp only [RepO, RepS] at hr
   exact hr.1
  exact ⟨by rw [hv], hb⟩
theorem own : ownKnob Try.prog.godebug = none := by kernel_rfl
theorem laidOut : laidOutB Try.prog = true := by kernel_rfl
theorem lifted (os : Os) (started : os.Started) (H : Type) (enc : TypeId × Value → H) :
  ReturnsInHanded {} Try.checked os 4 .any (Rows.tableSetsSpec.pre6 enc Try.prog Try.f4 Rows.tableSetsRow.domain false) (Rows.tableSetsSpec.post enc Try.prog Try.f4 false true false false) := by
 refine returnsInHanded_of_change_sized (C := Try.checked) own started (by kernel_rfl) Try.func4
  (ChangeSpec.witness6 (enc := enc) (C := Try.checked) false ⟨#[], #[.agg #[.int .i64 0, .slice none 0 0, .slice none 0 0, .slice none 0 0, .slice none 0 0, .int .i64 0, .slice none 0 0, .slice none 0 0, .slice none 0 0, .int .i64 0, .int .i64 0], .int .u32 0, .agg #[.int .i64 0, .int .i64 0, .int .i64 0, .int .i64 0, .int .i64 0, .int .u64 0], .agg #[.int .i64 0, .int .i64 0, .int .i64 0], .int .u64 0], []⟩ 8 (by kernel_rfl) (by kernel_rfl) (by kernel_rfl) (by kernel_rfl)) ?_
 intro W base args ds gs before hval0 hW hcnd hsz0 _
 have hval : ∀ (j : Nat) t v, Try.f4.params[j]? = some t → args[j]? = some v → Value.okWide Try.prog W .any base t v := hval0
 have hW' := hW
 obtain ⟨p, q, hA0, hV, rfl, hfz, hnd⟩ := hW
 have hA : DataW.TrodAll enc Try.prog W 0 (fun _ => true) true Try.f4.params.toList args.toList ds p := hA0
 rw [Try.params4] at hA hval
 obtain ⟨v0, vs0, d0, ds0, p0, q0, hargs, rfl, rfl, h0, r0⟩ := trodAll_cons hA
 obtain ⟨v1, vs1, d1, ds1, p1, q1, rfl, rfl, rfl, h1, r1⟩ := trodAll_cons r0
 obtain ⟨v2, vs2, d2, ds2, p2, q2, rfl, rfl, rfl, h2, r2⟩ := trodAll_cons r1
 obtain ⟨v3, vs3, d3, ds3, p3, q3, rfl, rfl, rfl, h3, r3⟩ := trodAll_cons r2
 obtain ⟨v4, vs4, d4, ds4, p4, q4, rfl, rfl, rfl, h4, r4⟩ := trodAll_cons r3
 obtain ⟨rfl, rfl, rfl⟩ := trodAll_nil r4
 obtain rfl : args = #[v0, v1, v2, v3, v4] := by cases args; simp_all
 obtain ⟨rfl, rfl⟩ := trodVars_none hV
 have lt : ∀ {t : TypeId} {v : Value} {d : DataW H} {ps : List MemPlace}, DataW.Trod enc Try.prog W 0 (fun _ => true) true t v d ps → ∀ x ∈ ps, x.block < W.heap.size := fun h => by
  obtain ⟨m, hm⟩ := h; exact DataW.trod_lt m _ _ _ hm
 obtain ⟨l0, e0, w0⟩ := open_flat (n := 5) (ks := tKinds) (by kernel_rfl) (by rw [Try.underlying32]) (hval 0 32 v0 rfl rfl) h0
 obtain ⟨n1, e1, _, _, w1⟩ := open_int (k := .u32) Try.underlying33 (hval 1 33 v1 rfl rfl) h1
 obtain ⟨f2, e2, w2⟩ := open_ints (n := 5) (ks := bKinds) (by kernel_rfl) (by rw [Try.underlying58]) (hval 2 58 v2 rfl rfl) h2
 obtain ⟨f3, e3, w3⟩ := open_ints (n := 5) (ks := lKinds) (by kernel_rfl) (by rw [Try.underlying35]) (hval 3 35 v3 rfl rfl) h3
 obtain ⟨n4, e4, _, _, w4⟩ := open_int (k := .u64) Try.underlying36 (hval 4 36 v4 rfl rfl) h4
 clear hA0 hval0 hsz0
 refine (walk W v0 v1 v2 v3 v4 l0 n1 f2 f3 n4 e0 w0 e1 w1 e2 w2 e3 w3 e4 w4).mono fun e W' ⟨he, bel⟩ => ?_
 subst he
 exact ⟨_, rfl, _, _, _, [], _, [], hW', trodAll_mk1 (shut_bool Try.underlying4 _),
  (trodAll_cons_mk (Below.trod laidOut (by kernel_rfl) (of_decide_eq_true (by kernel_rfl)) h0 bel (lt h0)) (trodAll_cons_mk (Below.trod laidOut (by kernel_rfl) (of_decide_eq_true (by kernel_rfl)) h1 bel (lt h1)) (trodAll_cons_mk (Below.trod laidOut (by kernel_rfl) (of_decide_eq_true (by kernel_rfl)) h2 bel (lt h2)) (trodAll_cons_mk (Below.trod laidOut (by kernel_rfl) (of_decide_eq_true (by kernel_rfl)) h3 bel (lt h3)) (trodAll_cons_mk (Below.trod laidOut (by kernel_rfl) (of_decide_eq_true (by kernel_rfl)) h4 bel (lt h4)) trodAll_mk0))))), rfl, bel.frame _, fun h => by cases h⟩
theorem over : Rows.tableSetsRow.holds Try.pinned (OpenSpec.ofChange Rows.tableSetsSpec) :=
 OpenClaim.holds_of_wide 4 Try.f4 rfl rfl rfl rfl rfl rfl rfl ⟨rfl, rfl, rfl, rfl, rfl⟩ rfl rfl rfl rfl rfl (by kernel_rfl) Try.func4 (by kernel_rfl)
  (of_decide_eq_true (by kernel_rfl)) (by unfold Func.isWrapper; first | (rw [if_pos (by decide +kernel)]; kernel_rfl) | (rw [if_neg (by decide +kernel)]; exact ⟨rfl, rfl⟩))
  (fun os started H enc _ => lifted os started H enc)
theorem proved : Rows.TableSetsSaid := over
#print axioms proved
end Go.Proofs.Ytakcfkmfiamliaa.tableSets
namespace Go.Proofs.Ytakcfkmfiamliaa
theorem tableSets_holds : Rows.TableSetsSaid := tableSets.proved
end Go.Proofs.Ytakcfkmfiamliaa
end
