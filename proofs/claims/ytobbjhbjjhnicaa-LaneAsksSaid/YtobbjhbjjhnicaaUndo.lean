/- The walk of lane.undo. -/
import Derived.Test.YtobbjhbjjhnicaaQuarter
namespace Go.Proofs.Ytobbjhbjjhnicaa
open Go.RowKit
set_option maxRecDepth 100000 in
set_option maxHeartbeats 2000000 in
theorem undo_any (a b c d : UInt32) (w : World) :
    Calls Try.prog 37 #[u32v a, u32v b, u32v c, u32v d] w fun e w' => e = .returned (.tuple #[u32v (PL.undoQ a b c d).1, u32v (PL.undoQ a b c d).2.1, u32v (PL.undoQ a b c d).2.2.1, u32v (PL.undoQ a b c d).2.2.2]) ∧ w = w' := by
  have ea := W_add
  have eb := W_add'
  have es := W_sub
  have et := W_sub'
  have ex := W_xor
  go_enter Try.func37, Try.ntmps37
  go_wp2_with fail
  refine (rot_any _ _ 25 _ (by decide)).mono ?_
  rintro e w' ⟨rfl, rfl⟩
  go_wp2_with fail
  refine (rot_any _ _ 24 _ (by decide)).mono ?_
  rintro e w' ⟨rfl, rfl⟩
  go_wp2_with fail
  refine (rot_any _ _ 20 _ (by decide)).mono ?_
  rintro e w' ⟨rfl, rfl⟩
  go_wp2_with fail
  refine (rot_any _ _ 16 _ (by decide)).mono ?_
  rintro e w' ⟨rfl, rfl⟩
  go_wp2_with fail
  refine bodyPost_ret (results_tmp4 rfl _ _ _) rfl ?_
  exact ⟨rfl, rfl⟩
end Go.Proofs.Ytobbjhbjjhnicaa
