/- The walk of tag.Same: equal just if all eight bytes are. -/
import Derived.Test.YtobbjhbjjhnicaaOf
import Derived.Test.YtobbjhbjjhnicaaArrEq
namespace Go.Proofs.Ytobbjhbjjhnicaa
open Go.RowKit
def sameB (f g : Nat → UInt8) : Bool := (List.range 8).all fun i => f i == g i
theorem byteCells_get (f : Nat → UInt8) (i : Nat) (h : i < 8) : (byteCells f)[i]? = some (.int .u8 ((f i).toNat : Int)) := by
  match i, h with
  | 0, _ => rfl
  | 1, _ => rfl
  | 2, _ => rfl
  | 3, _ => rfl
  | 4, _ => rfl
  | 5, _ => rfl
  | 6, _ => rfl
  | 7, _ => rfl
theorem info_u8 : (Try.prog.info? 5).isSome = true := by kernel_rfl
theorem eq_bytes (f g : Nat → UInt8) (w : World) : (Op.equalIn 10000 73 (.agg (byteCells f)) (.agg (byteCells g))).run Try.prog w = .ok (sameB f g) w := by
  obtain ⟨i, hi⟩ := Option.isSome_iff_exists.1 info_u8
  rw [equal_ints w 9998 73 5 8 .u8 i Try.underlying73 hi (by kernel_rfl) Try.underlying5 _ _ (fun i => ((f i).toNat : Int)) (fun i => ((g i).toNat : Int)) (byteCells_get f) (byteCells_get g)]
  congr 2
  funext i
  rw [Bool.eq_iff_iff]
  simp only [beq_iff_eq, Int.natCast_inj, UInt8.toNat_inj]
set_option maxRecDepth 100000 in
set_option maxHeartbeats 1000000 in
theorem same_any (f g : Nat → UInt8) (w : World) :
    Calls Try.prog 41 #[.agg (byteCells f), .agg (byteCells g)] w fun e w' => e = .returned (.bool (sameB f g)) ∧ Below w.heap.size w w' := by
  have he := eq_bytes f g
  go_enter Try.func41, Try.ntmps41
  go_wp2
  go_ret
  exact ⟨rfl, ((Below.refl _ _).alloc (Nat.le_refl _) _).alloc (by simp) _⟩
theorem sameB_self (f : Nat → UInt8) : sameB f f = true := by simp [sameB]
theorem same_self (f : Nat → UInt8) (w : World) :
    Calls Try.prog 41 #[.agg (byteCells f), .agg (byteCells f)] w fun e w' => e = .returned (.bool true) ∧ Below w.heap.size w w' := by
  have := same_any f f w
  rwa [sameB_self] at this
end Go.Proofs.Ytobbjhbjjhnicaa
