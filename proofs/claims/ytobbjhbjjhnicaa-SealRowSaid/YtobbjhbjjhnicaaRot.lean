/- The walks of bits.RotateLeft32, lane.Quarter, its inverse, and the reference's Quarter: each computes the plain quarter. -/
import Derived.Test.YtobbjhbjjhnicaaProg
import Derived.Test.YtobbjhbjjhnicaaWords
import Derived.Test.YtobbjhbjjhnicaaPlainKey
namespace Go.Proofs.Ytobbjhbjjhnicaa
open Go.RowKit
/-- A word of 32 bits as the machine holds it. -/
def W (x : UInt32) : Int := (x.toNat : Int)
abbrev u32v (x : UInt32) : Value := .int .u32 (W x)
theorem W_bd (x : UInt32) : 0 ≤ W x ∧ W x ≤ 4294967295 := by
  have := x.toNat_lt
  unfold W; omega
theorem W_inj {x y : UInt32} (h : W x = W y) : x = y := by
  unfold W at h
  exact UInt32.toNat_inj.1 (by omega)
theorem W_of (n : Int) (h : 0 ≤ n ∧ n ≤ 4294967295) : W (UInt32.ofNat n.toNat) = n := by
  unfold W
  rw [UInt32.toNat_ofNat']
  omega
theorem W_add (x y : UInt32) : IntKind.u32.wrap (W x + W y) = W (x + y) := by
  unfold W
  rw [IntKind.wrap_u32, UInt32.toNat_add]; omega
theorem W_add' (x y : UInt32) : (W x + W y) % 4294967296 = W (x + y) := by
  unfold W
  rw [UInt32.toNat_add]; omega
theorem W_sub (x y : UInt32) : IntKind.u32.wrap (W x - W y) = W (x - y) := by
  unfold W
  have hx := x.toNat_lt
  have hy := y.toNat_lt
  rw [IntKind.wrap_u32, UInt32.toNat_sub]; omega
theorem W_sub' (x y : UInt32) : (W x - W y) % 4294967296 = W (x - y) := by
  unfold W
  have hx := x.toNat_lt
  have hy := y.toNat_lt
  rw [UInt32.toNat_sub]; omega
theorem W_xor (x y : UInt32) : bits .xor .u32 (W x) (W y) = W (x ^^^ y) := by
  unfold W
  rw [u32_xor_nat _ _ x.toNat_lt y.toNat_lt, UInt32.toNat_xor]
/-- What a rotation comes to. -/
theorem rot_val (x n : UInt32) (a b : Int) (A B : Nat) (hA : a = A) (hB : b = B) (hn : 0 < n.toNat) (hn' : n.toNat < 32) (ea : A = x.toNat * 2 ^ n.toNat % 4294967296) (eb : B = x.toNat / 2 ^ (32 - n.toNat)) :
    bits .or .u32 a b = W (PL.rotl x n) := by
  unfold W
  have hx := x.toNat_lt
  have hlt : B < 4294967296 := by
    rw [eb]; exact Nat.lt_of_le_of_lt (Nat.div_le_self _ _) hx
  subst hA hB
  rw [u32_or_nat _ _ (by rw [ea]; exact Nat.mod_lt _ (by decide)) hlt]
  unfold PL.rotl
  rw [UInt32.toNat_or, UInt32.toNat_shiftLeft, UInt32.toNat_shiftRight]
  have e1 : (32 - n).toNat = 32 - n.toNat := by rw [UInt32.toNat_sub]; simp; omega
  rw [e1, Nat.mod_eq_of_lt hn', Nat.mod_eq_of_lt (by omega : 32 - n.toNat < 32), Nat.shiftLeft_eq, Nat.shiftRight_eq_div_pow, ea, eb]

set_option maxRecDepth 100000 in
set_option maxHeartbeats 1000000 in
theorem rot_any (x : UInt32) (s : Int) (n : UInt32) (w : World) (h : (s = 16 ∧ n = 16) ∨ (s = 12 ∧ n = 12) ∨ (s = 8 ∧ n = 8) ∨ (s = 7 ∧ n = 7) ∨ (s = -7 ∧ n = 25) ∨ (s = -8 ∧ n = 24) ∨ (s = -12 ∧ n = 20) ∨ (s = -16 ∧ n = 16)) :
    Calls Try.prog 33 #[u32v x, .int .i64 s] w fun e w' => e = .returned (u32v (PL.rotl x n)) ∧ w = w' := by
  have hx := W_bd x
  rcases h with ⟨rfl, rfl⟩ | ⟨rfl, rfl⟩ | ⟨rfl, rfl⟩ | ⟨rfl, rfl⟩ | ⟨rfl, rfl⟩ | ⟨rfl, rfl⟩ | ⟨rfl, rfl⟩ | ⟨rfl, rfl⟩
  · have e0 : IntKind.u64.wrap (16) = 16 := by decide
    have e1 : bits .and .u64 16 31 = 16 := by decide
    go_enter Try.func33, Try.ntmps33
    go_wp2
    go_ret
    exact ⟨ret_int (rot_val x 16 _ _ (x.toNat * 65536 % 4294967296) (x.toNat / 65536) (by unfold W; omega) (by unfold W; omega) (by decide) (by decide) rfl rfl), rfl⟩
  · have e0 : IntKind.u64.wrap (12) = 12 := by decide
    have e1 : bits .and .u64 12 31 = 12 := by decide
    go_enter Try.func33, Try.ntmps33
    go_wp2
    go_ret
    exact ⟨ret_int (rot_val x 12 _ _ (x.toNat * 4096 % 4294967296) (x.toNat / 1048576) (by unfold W; omega) (by unfold W; omega) (by decide) (by decide) rfl rfl), rfl⟩
  · have e0 : IntKind.u64.wrap (8) = 8 := by decide
    have e1 : bits .and .u64 8 31 = 8 := by decide
    go_enter Try.func33, Try.ntmps33
    go_wp2
    go_ret
    exact ⟨ret_int (rot_val x 8 _ _ (x.toNat * 256 % 4294967296) (x.toNat / 16777216) (by unfold W; omega) (by unfold W; omega) (by decide) (by decide) rfl rfl), rfl⟩
  · have e0 : IntKind.u64.wrap (7) = 7 := by decide
    have e1 : bits .and .u64 7 31 = 7 := by decide
    go_enter Try.func33, Try.ntmps33
    go_wp2
    go_ret
    exact ⟨ret_int (rot_val x 7 _ _ (x.toNat * 128 % 4294967296) (x.toNat / 33554432) (by unfold W; omega) (by unfold W; omega) (by decide) (by decide) rfl rfl), rfl⟩
  · have e0 : IntKind.u64.wrap (-7) = 18446744073709551609 := by decide
    have e1 : bits .and .u64 18446744073709551609 31 = 25 := by decide
    go_enter Try.func33, Try.ntmps33
    go_wp2
    go_ret
    exact ⟨ret_int (rot_val x 25 _ _ (x.toNat * 33554432 % 4294967296) (x.toNat / 128) (by unfold W; omega) (by unfold W; omega) (by decide) (by decide) rfl rfl), rfl⟩
  · have e0 : IntKind.u64.wrap (-8) = 18446744073709551608 := by decide
    have e1 : bits .and .u64 18446744073709551608 31 = 24 := by decide
    go_enter Try.func33, Try.ntmps33
    go_wp2
    go_ret
    exact ⟨ret_int (rot_val x 24 _ _ (x.toNat * 16777216 % 4294967296) (x.toNat / 256) (by unfold W; omega) (by unfold W; omega) (by decide) (by decide) rfl rfl), rfl⟩
  · have e0 : IntKind.u64.wrap (-12) = 18446744073709551604 := by decide
    have e1 : bits .and .u64 18446744073709551604 31 = 20 := by decide
    go_enter Try.func33, Try.ntmps33
    go_wp2
    go_ret
    exact ⟨ret_int (rot_val x 20 _ _ (x.toNat * 1048576 % 4294967296) (x.toNat / 4096) (by unfold W; omega) (by unfold W; omega) (by decide) (by decide) rfl rfl), rfl⟩
  · have e0 : IntKind.u64.wrap (-16) = 18446744073709551600 := by decide
    have e1 : bits .and .u64 18446744073709551600 31 = 16 := by decide
    go_enter Try.func33, Try.ntmps33
    go_wp2
    go_ret
    exact ⟨ret_int (rot_val x 16 _ _ (x.toNat * 65536 % 4294967296) (x.toNat / 65536) (by unfold W; omega) (by unfold W; omega) (by decide) (by decide) rfl rfl), rfl⟩
end Go.Proofs.Ytobbjhbjjhnicaa
