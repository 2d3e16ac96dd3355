/- The key of a password, in plain words: chapter 16. -/
import Derived.Test.YtbmccgiffplpjaaOf
namespace Go.Proofs.Ytbmccgiffplpjaa
open Go.RowKit
set_option linter.unusedVariables false
def saltWord (f : Nat → UInt8) (i : Nat) : UInt32 := (f i).toUInt32 ||| ((f ((i + 1) % 8)).toUInt32 <<< 8)
def initWord (l : List UInt8) (f : Nat → UInt8) (i : Nat) : UInt32 := sumW (UInt32.ofNat (i + 2)) (UInt32.ofNat i) l ^^^ saltWord f i
def keyInit (l : List UInt8) (f : Nat → UInt8) : PL.K8 := ⟨initWord l f 0, initWord l f 1, initWord l f 2, initWord l f 3, initWord l f 4, initWord l f 5, initWord l f 6, initWord l f 7⟩
def keyRound (n : Nat) (k : PL.K8) : PL.K8 := { PL.mix k with k7 := (PL.mix k).k7 ^^^ UInt32.ofNat n }
def keyTo : Nat → PL.K8 → PL.K8
  | 0, k => k
  | n + 1, k => keyRound (n + 1) (keyTo n k)
def keyOf (l : List UInt8) (f : Nat → UInt8) (n : Nat) : PL.K8 := keyTo n (keyInit l f)
/-- The key's cells when the first i words are there. -/
def initCells (l : List UInt8) (f : Nat → UInt8) (i : Nat) : Array Value :=
  #[u32v (if 0 < i then initWord l f 0 else 0), u32v (if 1 < i then initWord l f 1 else 0), u32v (if 2 < i then initWord l f 2 else 0), u32v (if 3 < i then initWord l f 3 else 0),
    u32v (if 4 < i then initWord l f 4 else 0), u32v (if 5 < i then initWord l f 5 else 0), u32v (if 6 < i then initWord l f 6 else 0), u32v (if 7 < i then initWord l f 7 else 0)]
theorem initCells_all (l : List UInt8) (f : Nat → UInt8) : initCells l f 8 = keyCells (keyInit l f) := rfl
theorem initCells_zero (l : List UInt8) (f : Nat → UInt8) : initCells l f 0 = zeros8 := rfl
theorem initCells_at (l : List UInt8) (f : Nat → UInt8) (i : Nat) (h : i < 8) : (initCells l f i)[i]? = some (.int .u32 0) := by
  match i, h with
  | 0, _ => rfl
  | 1, _ => rfl
  | 2, _ => rfl
  | 3, _ => rfl
  | 4, _ => rfl
  | 5, _ => rfl
  | 6, _ => rfl
  | 7, _ => rfl
theorem initCells_set (l : List UInt8) (f : Nat → UInt8) (i : Nat) (h : i < 8) : (initCells l f i).setIfInBounds i (u32v (initWord l f i)) = initCells l f (i + 1) := by
  match i, h with
  | 0, _ => rfl
  | 1, _ => rfl
  | 2, _ => rfl
  | 3, _ => rfl
  | 4, _ => rfl
  | 5, _ => rfl
  | 6, _ => rfl
  | 7, _ => rfl
/-- The salt's word as the machine reckons it. -/
theorem W_salt (x y : UInt8) : bits .or .u32 ((x.toNat : Int)) ((y.toNat : Int) * 256) = W (x.toUInt32 ||| (y.toUInt32 <<< 8)) := by
  have hx := x.toNat_lt
  have hy := y.toNat_lt
  have e : (y.toNat : Int) * 256 = ((y.toNat * 256 : Nat) : Int) := by simp
  rw [e, u32_or_nat _ _ (by omega) (by omega)]
  unfold W
  rw [UInt32.toNat_or, UInt32.toNat_shiftLeft, UInt8.toNat_toUInt32, UInt8.toNat_toUInt32, Nat.shiftLeft_eq]
  have : y.toNat * 2 ^ ((8 : UInt32).toNat % 32) % 2 ^ 32 = y.toNat * 256 := by
    rw [show (8 : UInt32).toNat % 32 = 8 from rfl]
    omega
  rw [this]
theorem W_nat (n : Nat) (h : n < 4294967296) : W (UInt32.ofNat n) = (n : Int) := by
  unfold W
  rw [UInt32.toNat_ofNat']
  omega
end Go.Proofs.Ytbmccgiffplpjaa
