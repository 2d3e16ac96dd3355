/- The region of the reference's Mix in which four words are exchanged for their quarter, in whatever order. -/
import Derived.Test.YtobbjhbjjhnicaaRefQuarter
import Derived.Test.YtobbjhbjjhnicaaOrders
namespace Go.Proofs.Ytobbjhbjjhnicaa
open Go.RowKit
set_option linter.unusedVariables false
set_option maxRecDepth 100000 in
set_option maxHeartbeats 4000000 in
theorem refMix_region (H g i0 i1 i2 i3 : Nat) (f : Nat → UInt32) (u0 u2 u3 u5 u6 u7 u8 u9 u10 u11 u12 u13 u14 u15 u16 u17 u18 u19 u20 u21 u22 u23 u24 u25 u26 u27 u28 u29 u30 u31 u32 u33 u34 u35 u36 u37 u38 u39 u40 u41 u42 u43 u44 u45 u46 u47 u48 u49 u50 u51 u52 u53 u54 u55 u56 u57 u58 u59 u60 u61 u62 u63 u64 u65 u66 u67 u68 u69 u70 : Value) (w : World) (Q : Exit → Act → World → Prop) (hQp : ∀ ch (a : Act) d v w, Q (.panic ch) (a.put d v) w → Q (.panic ch) a w)
    (b0 : (i0 : Int) < 8) (b1 : (i1 : Int) < 8) (b2 : (i2 : Int) < 8) (b3 : (i3 : Int) < 8)
    (n01 : i1 ≠ i0) (n02 : i2 ≠ i0) (n12 : i2 ≠ i1) (n03 : i3 ≠ i0) (n13 : i3 ≠ i1) (n23 : i3 ≠ i2) (hgH : H ≠ g)
    (c0 : w.cell? ⟨g, 0, none⟩ = some (.int .i64 (i0 : Int))) (d0 : w.cell? ⟨H, i0, none⟩ = some (u32v (f i0))) (z0 : w.frozen? ⟨H, i0, none⟩ = false)
    (c1 : w.cell? ⟨g, 1, none⟩ = some (.int .i64 (i1 : Int))) (d1 : w.cell? ⟨H, i1, none⟩ = some (u32v (f i1))) (z1 : w.frozen? ⟨H, i1, none⟩ = false)
    (c2 : w.cell? ⟨g, 2, none⟩ = some (.int .i64 (i2 : Int))) (d2 : w.cell? ⟨H, i2, none⟩ = some (u32v (f i2))) (z2 : w.frozen? ⟨H, i2, none⟩ = false)
    (c3 : w.cell? ⟨g, 3, none⟩ = some (.int .i64 (i3 : Int))) (d3 : w.cell? ⟨H, i3, none⟩ = some (u32v (f i3))) (z3 : w.frozen? ⟨H, i3, none⟩ = false)
    (hQ : ∀ v15 v16 v17 v18 v19 v20 v21 v22 v23 v24 v25 v26 v27 v28 v29 v30 v31 v32 v33 v34 v35 v36 v37 v38 v39 v40 v41 v42 v43 v44 v45 v46 v47 v48 v49 v50 v51 v52 v53 v54 v55 v56 : Value, Q .normal ⟨#[u0, .pointer (some ⟨H, 0, none⟩), u2, u3, .slice (some ⟨g, 0, none⟩) 4 4, u5, u6, u7, u8, u9, u10, u11, u12, u13, u14, v15, v16, v17, v18, v19, v20, v21, v22, v23, v24, v25, v26, v27, v28, v29, v30, v31, v32, v33, v34, v35, v36, v37, v38, v39, v40, v41, v42, v43, v44, v45, v46, v47, v48, v49, v50, v51, v52, v53, v54, v55, v56, u57, u58, u59, u60, u61, u62, u63, u64, u65, u66, u67, u68, u69, u70], []⟩ ((((w.drew.setCell ⟨H, i0, none⟩ (u32v (PL.quarter (f i0) (f i1) (f i2) (f i3)).1)).setCell ⟨H, i1, none⟩ (u32v (PL.quarter (f i0) (f i1) (f i2) (f i3)).2.1)).setCell ⟨H, i2, none⟩ (u32v (PL.quarter (f i0) (f i1) (f i2) (f i3)).2.2.1)).setCell ⟨H, i3, none⟩ (u32v (PL.quarter (f i0) (f i1) (f i2) (f i3)).2.2.2))) :
    (regionOf Try.f16 5).wp Try.prog Q ⟨#[u0, .pointer (some ⟨H, 0, none⟩), u2, u3, .slice (some ⟨g, 0, none⟩) 4 4, u5, u6, u7, u8, u9, u10, u11, u12, u13, u14, u15, u16, u17, u18, u19, u20, u21, u22, u23, u24, u25, u26, u27, u28, u29, u30, u31, u32, u33, u34, u35, u36, u37, u38, u39, u40, u41, u42, u43, u44, u45, u46, u47, u48, u49, u50, u51, u52, u53, u54, u55, u56, u57, u58, u59, u60, u61, u62, u63, u64, u65, u66, u67, u68, u69, u70], []⟩ w := by
  have p0 : (0 : Int) ≤ (i0 : Int) := by omega
  have p1 : (0 : Int) ≤ (i1 : Int) := by omega
  have p2 : (0 : Int) ≤ (i2 : Int) := by omega
  have p3 : (0 : Int) ≤ (i3 : Int) := by omega
  have HQ := Lib.hid hQ
  clear hQ
  conv => arg 2; whnf
  refine wp_region_plan (a1 := ⟨#[u0, .pointer (some ⟨H, 0, none⟩), u2, u3, .slice (some ⟨g, 0, none⟩) 4 4, u5, u6, u7, u8, u9, u10, u11, u12, u13, u14, u15, .slice (some ⟨g, 0, none⟩) 4 4, .pointer (some ⟨g, 0, none⟩), .int .i64 (i0 : Int), .slice (some ⟨g, 0, none⟩) 4 4, .pointer (some ⟨g, 1, none⟩), .int .i64 (i1 : Int), .slice (some ⟨g, 0, none⟩) 4 4, .pointer (some ⟨g, 2, none⟩), .int .i64 (i2 : Int), .slice (some ⟨g, 0, none⟩) 4 4, .pointer (some ⟨g, 3, none⟩), .int .i64 (i3 : Int), .slice (some ⟨g, 0, none⟩) 4 4, .pointer (some ⟨g, 0, none⟩), .int .i64 (i0 : Int), .pointer (some ⟨H, i0, none⟩), u32, .slice (some ⟨g, 0, none⟩) 4 4, .pointer (some ⟨g, 1, none⟩), .int .i64 (i1 : Int), .pointer (some ⟨H, i1, none⟩), u37, .slice (some ⟨g, 0, none⟩) 4 4, .pointer (some ⟨g, 2, none⟩), .int .i64 (i2 : Int), .pointer (some ⟨H, i2, none⟩), u42, .slice (some ⟨g, 0, none⟩) 4 4, .pointer (some ⟨g, 3, none⟩), .int .i64 (i3 : Int), .pointer (some ⟨H, i3, none⟩), u47, u48, u49, u50, u51, u52, u53, u54, u55, u56, u57, u58, u59, u60, u61, u62, u63, u64, u65, u66, u67, u68, u69, u70], []⟩) (a2 := ⟨#[u0, .pointer (some ⟨H, 0, none⟩), u2, u3, .slice (some ⟨g, 0, none⟩) 4 4, u5, u6, u7, u8, u9, u10, u11, u12, u13, u14, u15, .slice (some ⟨g, 0, none⟩) 4 4, .pointer (some ⟨g, 0, none⟩), .int .i64 (i0 : Int), .slice (some ⟨g, 0, none⟩) 4 4, .pointer (some ⟨g, 1, none⟩), .int .i64 (i1 : Int), .slice (some ⟨g, 0, none⟩) 4 4, .pointer (some ⟨g, 2, none⟩), .int .i64 (i2 : Int), .slice (some ⟨g, 0, none⟩) 4 4, .pointer (some ⟨g, 3, none⟩), .int .i64 (i3 : Int), .slice (some ⟨g, 0, none⟩) 4 4, .pointer (some ⟨g, 0, none⟩), .int .i64 (i0 : Int), .pointer (some ⟨H, i0, none⟩), u32v (f i0), .slice (some ⟨g, 0, none⟩) 4 4, .pointer (some ⟨g, 1, none⟩), .int .i64 (i1 : Int), .pointer (some ⟨H, i1, none⟩), u32v (f i1), .slice (some ⟨g, 0, none⟩) 4 4, .pointer (some ⟨g, 2, none⟩), .int .i64 (i2 : Int), .pointer (some ⟨H, i2, none⟩), u32v (f i2), .slice (some ⟨g, 0, none⟩) 4 4, .pointer (some ⟨g, 3, none⟩), .int .i64 (i3 : Int), .pointer (some ⟨H, i3, none⟩), u32v (f i3), u48, u49, u50, u51, u52, u53, u54, u55, u56, u57, u58, u59, u60, u61, u62, u63, u64, u65, u66, u67, u68, u69, u70], []⟩) (a3 := ⟨#[u0, .pointer (some ⟨H, 0, none⟩), u2, u3, .slice (some ⟨g, 0, none⟩) 4 4, u5, u6, u7, u8, u9, u10, u11, u12, u13, u14, .tuple #[u32v (PL.quarter (f i0) (f i1) (f i2) (f i3)).1, u32v (PL.quarter (f i0) (f i1) (f i2) (f i3)).2.1, u32v (PL.quarter (f i0) (f i1) (f i2) (f i3)).2.2.1, u32v (PL.quarter (f i0) (f i1) (f i2) (f i3)).2.2.2], .slice (some ⟨g, 0, none⟩) 4 4, .pointer (some ⟨g, 0, none⟩), .int .i64 (i0 : Int), .slice (some ⟨g, 0, none⟩) 4 4, .pointer (some ⟨g, 1, none⟩), .int .i64 (i1 : Int), .slice (some ⟨g, 0, none⟩) 4 4, .pointer (some ⟨g, 2, none⟩), .int .i64 (i2 : Int), .slice (some ⟨g, 0, none⟩) 4 4, .pointer (some ⟨g, 3, none⟩), .int .i64 (i3 : Int), .slice (some ⟨g, 0, none⟩) 4 4, .pointer (some ⟨g, 0, none⟩), .int .i64 (i0 : Int), .pointer (some ⟨H, i0, none⟩), u32v (f i0), .slice (some ⟨g, 0, none⟩) 4 4, .pointer (some ⟨g, 1, none⟩), .int .i64 (i1 : Int), .pointer (some ⟨H, i1, none⟩), u32v (f i1), .slice (some ⟨g, 0, none⟩) 4 4, .pointer (some ⟨g, 2, none⟩), .int .i64 (i2 : Int), .pointer (some ⟨H, i2, none⟩), u32v (f i2), .slice (some ⟨g, 0, none⟩) 4 4, .pointer (some ⟨g, 3, none⟩), .int .i64 (i3 : Int), .pointer (some ⟨H, i3, none⟩), u32v (f i3), .tuple #[u32v (PL.quarter (f i0) (f i1) (f i2) (f i3)).1, u32v (PL.quarter (f i0) (f i1) (f i2) (f i3)).2.1, u32v (PL.quarter (f i0) (f i1) (f i2) (f i3)).2.2.1, u32v (PL.quarter (f i0) (f i1) (f i2) (f i3)).2.2.2], u32v (PL.quarter (f i0) (f i1) (f i2) (f i3)).1, u32v (PL.quarter (f i0) (f i1) (f i2) (f i3)).2.1, u32v (PL.quarter (f i0) (f i1) (f i2) (f i3)).2.2.1, u32v (PL.quarter (f i0) (f i1) (f i2) (f i3)).2.2.2, .pointer (some ⟨H, i0, none⟩), u54, u55, u56, u57, u58, u59, u60, u61, u62, u63, u64, u65, u66, u67, u68, u69, u70], []⟩) (fun w' => w'.cell? ⟨g, 0, none⟩ = some (.int .i64 (i0 : Int)) ∧ w'.cell? ⟨g, 1, none⟩ = some (.int .i64 (i1 : Int)) ∧ w'.cell? ⟨g, 2, none⟩ = some (.int .i64 (i2 : Int)) ∧ w'.cell? ⟨g, 3, none⟩ = some (.int .i64 (i3 : Int)))
    (fun w' => w'.cell? ⟨H, i0, none⟩ = some (u32v (f i0)) ∧ w'.cell? ⟨H, i1, none⟩ = some (u32v (f i1)) ∧ w'.cell? ⟨H, i2, none⟩ = some (u32v (f i2)) ∧ w'.cell? ⟨H, i3, none⟩ = some (u32v (f i3))) 39 71 [0, 1, 2, 3, 4, 5, 6, 7, 8, 9, 10, 11, 12, 13, 14, 15, 17, 18, 19, 20, 22, 23, 24, 25, 27, 28, 29, 30] [16, 21, 26, 31] [32, 33, 34, 35, 36, 37, 38] [39, 40, 41, 42, 43, 44, 45] (by kernel_rfl) (by kernel_rfl) rfl rfl rfl hQp ⟨c0, c1, c2, c3⟩ ⟨d0, d1, d2, d3⟩ ?hA ?hB ?hC ?hT
  case hA =>
    rintro w' ⟨e0, e1, e2, e3⟩
    clear c0 c1 c2 c3 d0 d1 d2 d3 HQ hQp
    iterate 28 (refine stillI_step rfl rfl (fun K hK => ?_); go_simp; refine hK _ ?_; clear hK K)
    exact stillI_nil rfl
  case hB =>
    rintro w' ⟨e0, e1, e2, e3⟩ ⟨g0, g1, g2, g3⟩
    clear c0 c1 c2 c3 d0 d1 d2 d3 HQ hQp
    iterate 4 (refine stillI_step rfl rfl (fun K hK => ?_); go_simp; refine hK _ ?_; clear hK K)
    exact stillI_nil rfl
  case hC =>
    rintro w' ⟨e0, e1, e2, e3⟩
    clear c0 c1 c2 c3 d0 d1 d2 d3 HQ hQp
    refine stillI_step rfl rfl (fun K hK => ?_)
    go_simp
    refine ⟨_, (refQuarter_any _ _ _ _ _).mono (fun _ _ h => ⟨h.1, h.2.symm⟩), hK _ ?_⟩
    clear hK K
    iterate 6 (refine stillI_step rfl rfl (fun K hK => ?_); go_simp; refine hK _ ?_; clear hK K)
    exact stillI_nil rfl
  case hT =>
    iterate 7 (refine tail_step rfl rfl (fun K hK => ?_); go_wp2; refine hK.out _ _ (by go_keep) ?_; clear hK K)
    exact tail_nil (HQ.out _ _ _ _ _ _ _ _ _ _ _ _ _ _ _ _ _ _ _ _ _ _ _ _ _ _ _ _ _ _ _ _ _ _ _ _ _ _ _ _ _ _)
end Go.Proofs.Ytobbjhbjjhnicaa
