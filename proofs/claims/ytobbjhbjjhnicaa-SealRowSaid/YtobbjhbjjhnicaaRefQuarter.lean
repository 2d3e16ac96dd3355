/- The walks of the reference's left and Quarter: the plain quarter again. -/
import Derived.Test.YtobbjhbjjhnicaaQuarter
namespace Go.Proofs.Ytobbjhbjjhnicaa
open Go.RowKit
set_option linter.unusedVariables false
set_option maxRecDepth 100000 in
set_option maxHeartbeats 1000000 in
theorem left_any (x : UInt32) (s : Int) (n : UInt32) (w : World) (h : (s = 16 ∧ n = 16) ∨ (s = 12 ∧ n = 12) ∨ (s = 8 ∧ n = 8) ∨ (s = 7 ∧ n = 7)) :
    Calls Try.prog 34 #[u32v x, .int .u64 s] w fun e w' => e = .returned (u32v (PL.rotl x n)) ∧ w = w' := by
  have hx := W_bd x
  rcases h with ⟨rfl, rfl⟩ | ⟨rfl, rfl⟩ | ⟨rfl, rfl⟩ | ⟨rfl, rfl⟩
  · go_enter Try.func34, Try.ntmps34
    go_wp2
    go_ret
    exact ⟨ret_int (rot_val x 16 _ _ (x.toNat * 65536 % 4294967296) (x.toNat / 65536) (by unfold W; omega) (by unfold W; omega) (by decide) (by decide) rfl rfl), rfl⟩
  · go_enter Try.func34, Try.ntmps34
    go_wp2
    go_ret
    exact ⟨ret_int (rot_val x 12 _ _ (x.toNat * 4096 % 4294967296) (x.toNat / 1048576) (by unfold W; omega) (by unfold W; omega) (by decide) (by decide) rfl rfl), rfl⟩
  · go_enter Try.func34, Try.ntmps34
    go_wp2
    go_ret
    exact ⟨ret_int (rot_val x 8 _ _ (x.toNat * 256 % 4294967296) (x.toNat / 16777216) (by unfold W; omega) (by unfold W; omega) (by decide) (by decide) rfl rfl), rfl⟩
  · go_enter Try.func34, Try.ntmps34
    go_wp2
    go_ret
    exact ⟨ret_int (rot_val x 7 _ _ (x.toNat * 128 % 4294967296) (x.toNat / 33554432) (by unfold W; omega) (by unfold W; omega) (by decide) (by decide) rfl rfl), rfl⟩
set_option maxRecDepth 100000 in
set_option maxHeartbeats 2000000 in
theorem refQuarter_any (a b c d : UInt32) (w : World) :
    Calls Try.prog 14 #[u32v a, u32v b, u32v c, u32v d] w fun e w' => e = .returned (.tuple #[u32v (PL.quarter a b c d).1, u32v (PL.quarter a b c d).2.1, u32v (PL.quarter a b c d).2.2.1, u32v (PL.quarter a b c d).2.2.2]) ∧ w = w' := by
  have ea := W_add
  have eb := W_add'
  have es := W_sub
  have et := W_sub'
  have ex := W_xor
  go_enter Try.func14, Try.ntmps14
  go_wp2_with fail
  refine (left_any _ _ 16 _ (by decide)).mono ?_
  rintro e w' ⟨rfl, rfl⟩
  go_wp2_with fail
  refine (left_any _ _ 12 _ (by decide)).mono ?_
  rintro e w' ⟨rfl, rfl⟩
  go_wp2_with fail
  refine (left_any _ _ 8 _ (by decide)).mono ?_
  rintro e w' ⟨rfl, rfl⟩
  go_wp2_with fail
  refine (left_any _ _ 7 _ (by decide)).mono ?_
  rintro e w' ⟨rfl, rfl⟩
  go_wp2_with fail
  refine bodyPost_ret (results_tmp4 rfl _ _ _) rfl ?_
  exact ⟨rfl, rfl⟩
end Go.Proofs.Ytobbjhbjjhnicaa
