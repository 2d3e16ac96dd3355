/- Plain: keys of salts that differ differ. -/
import Derived.Test.YtbmccgiffplpjaaPlainOf
namespace Go.Proofs.Ytbmccgiffplpjaa
set_option linter.unusedVariables false
theorem keyRound_inj {n : Nat} {k m : PL.K8} (h : keyRound n k = keyRound n m) : k = m := by
  apply PL.mix_inj
  unfold keyRound at h
  generalize PL.mix k = a at *
  generalize PL.mix m = b at *
  obtain ⟨a0, a1, a2, a3, a4, a5, a6, a7⟩ := a
  obtain ⟨b0, b1, b2, b3, b4, b5, b6, b7⟩ := b
  simp only [PL.K8.mk.injEq] at h ⊢
  obtain ⟨h0, h1, h2, h3, h4, h5, h6, h7⟩ := h
  refine ⟨h0, h1, h2, h3, h4, h5, h6, ?_⟩
  rw [← PL.xor_back a7 (UInt32.ofNat n), h7, PL.xor_back]
theorem keyTo_inj : ∀ (n : Nat) (k m : PL.K8), keyTo n k = keyTo n m → k = m
  | 0, _, _, h => h
  | n + 1, k, m, h => keyTo_inj n k m (keyRound_inj h)
theorem salt_low (x y : UInt8) : (x.toUInt32 ||| y.toUInt32 <<< 8).toUInt8 = x := by
  apply UInt8.toNat_inj.1
  rw [UInt32.toNat_toUInt8, UInt32.toNat_or, UInt32.toNat_shiftLeft, UInt8.toNat_toUInt32, UInt8.toNat_toUInt32, Nat.shiftLeft_eq]
  rw [show (8 : UInt32).toNat % 32 = 8 from rfl, Nat.or_mod_two_pow]
  have hx := x.toNat_lt
  have hy := y.toNat_lt
  rw [Nat.mod_eq_of_lt hx, show y.toNat * 2 ^ 8 % 2 ^ 32 % 2 ^ 8 = 0 by omega, Nat.or_zero]
theorem saltWord_inj {f g : Nat → UInt8} {i : Nat} (h : saltWord f i = saltWord g i) : f i = g i := by
  unfold saltWord at h
  have := congrArg UInt32.toUInt8 h
  rwa [salt_low, salt_low] at this
theorem initWord_inj {l : List UInt8} {f g : Nat → UInt8} {i : Nat} (h : initWord l f i = initWord l g i) : f i = g i := by
  apply saltWord_inj
  unfold initWord at h
  generalize sumW (UInt32.ofNat (i + 2)) (UInt32.ofNat i) l = x at h
  have : x ^^^ (x ^^^ saltWord f i) = x ^^^ (x ^^^ saltWord g i) := by rw [h]
  rwa [← UInt32.xor_assoc, ← UInt32.xor_assoc, UInt32.xor_self, UInt32.zero_xor, UInt32.zero_xor] at this
theorem keyInit_inj {l : List UInt8} {f g : Nat → UInt8} (h : keyInit l f = keyInit l g) (i : Nat) (hi : i < 8) : f i = g i := by
  simp only [keyInit, PL.K8.mk.injEq] at h
  obtain ⟨h0, h1, h2, h3, h4, h5, h6, h7⟩ := h
  match i, hi with
  | 0, _ => exact initWord_inj h0
  | 1, _ => exact initWord_inj h1
  | 2, _ => exact initWord_inj h2
  | 3, _ => exact initWord_inj h3
  | 4, _ => exact initWord_inj h4
  | 5, _ => exact initWord_inj h5
  | 6, _ => exact initWord_inj h6
  | 7, _ => exact initWord_inj h7
theorem keyOf_inj {l : List UInt8} {f g : Nat → UInt8} {n : Nat} (h : keyOf l f n = keyOf l g n) (i : Nat) (hi : i < 8) : f i = g i := keyInit_inj (keyTo_inj n _ _ h) i hi
end Go.Proofs.Ytbmccgiffplpjaa
