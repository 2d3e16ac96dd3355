/- Two keys compared: equal just if all their words are. -/
import Derived.Test.YtobbjhbjjhnicaaKeyCells
import Derived.Test.YtobbjhbjjhnicaaArrEq
namespace Go.Proofs.Ytobbjhbjjhnicaa
open Go.RowKit
set_option linter.unusedVariables false
def sameK (k m : PL.K8) : Bool := (List.range 8).all fun i => k.get i == m.get i
theorem info_u32 : (Try.prog.info? 22).isSome = true := by kernel_rfl
theorem eq_keys (k m : PL.K8) (w : World) : (Op.equalIn 10000 31 (.agg (keyCells k)) (.agg (keyCells m))).run Try.prog w = .ok (sameK k m) w := by
  obtain ⟨i, hi⟩ := Option.isSome_iff_exists.1 info_u32
  rw [equal_ints w 9998 31 22 8 .u32 i Try.underlying31 hi (by kernel_rfl) Try.underlying22 _ _ (fun i => W (k.get i)) (fun i => W (m.get i)) (keyCells_get k) (keyCells_get m)]
  congr 2
  funext i
  rw [Bool.eq_iff_iff]
  simp only [beq_iff_eq]
  exact ⟨W_inj, fun h => by rw [h]⟩
theorem sameK_eq (k m : PL.K8) : sameK k m = true ↔ k = m := by
  constructor
  · intro h
    simp only [sameK, List.all_eq_true, List.mem_range, beq_iff_eq] at h
    obtain ⟨a0, a1, a2, a3, a4, a5, a6, a7⟩ := k
    obtain ⟨b0, b1, b2, b3, b4, b5, b6, b7⟩ := m
    have h0 := h 0 (by omega)
    have h1 := h 1 (by omega)
    have h2 := h 2 (by omega)
    have h3 := h 3 (by omega)
    have h4 := h 4 (by omega)
    have h5 := h 5 (by omega)
    have h6 := h 6 (by omega)
    have h7 := h 7 (by omega)
    simp only [PL.K8.get] at h0 h1 h2 h3 h4 h5 h6 h7
    subst h0 h1 h2 h3 h4 h5 h6 h7
    rfl
  · rintro rfl
    simp [sameK]
end Go.Proofs.Ytobbjhbjjhnicaa
