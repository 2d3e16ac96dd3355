/- The walks of lane.Quarter, its inverse, and the reference's Quarter: each computes the plain quarter. -/
import Derived.Test.YtobbjhbjjhnicaaRot
namespace Go.Proofs.Ytobbjhbjjhnicaa
open Go.RowKit
theorem results_tmp4 {fn : Func} {t u v x : Tmp} (h : fn.results = #[.tmp t, .tmp u, .tmp v, .tmp x]) (tmps : Array Value) (P : Program) (w : World) :
    (results fn tmps).run P w = .ok (.tuple #[tmps.getD t undef, tmps.getD u undef, tmps.getD v undef, tmps.getD x undef]) w := by simp [results, h]

set_option maxRecDepth 100000 in
set_option maxHeartbeats 2000000 in
theorem quarter_any (a b c d : UInt32) (w : World) :
    Calls Try.prog 12 #[u32v a, u32v b, u32v c, u32v d] w fun e w' => e = .returned (.tuple #[u32v (PL.quarter a b c d).1, u32v (PL.quarter a b c d).2.1, u32v (PL.quarter a b c d).2.2.1, u32v (PL.quarter a b c d).2.2.2]) ∧ w = w' := by
  have ea := W_add
  have eb := W_add'
  have es := W_sub
  have et := W_sub'
  have ex := W_xor
  go_enter Try.func12, Try.ntmps12
  go_wp2_with fail
  refine (rot_any _ _ 16 _ (by decide)).mono ?_
  rintro e w' ⟨rfl, rfl⟩
  go_wp2_with fail
  refine (rot_any _ _ 12 _ (by decide)).mono ?_
  rintro e w' ⟨rfl, rfl⟩
  go_wp2_with fail
  refine (rot_any _ _ 8 _ (by decide)).mono ?_
  rintro e w' ⟨rfl, rfl⟩
  go_wp2_with fail
  refine (rot_any _ _ 7 _ (by decide)).mono ?_
  rintro e w' ⟨rfl, rfl⟩
  go_wp2_with fail
  refine bodyPost_ret (results_tmp4 rfl _ _ _) rfl ?_
  exact ⟨rfl, rfl⟩

end Go.Proofs.Ytobbjhbjjhnicaa
