/- Parts of a slice of bytes: b[i:j], b[i:], b[:j], as equations for a walk. -/
import Derived.Test.YtobbjhbjjhnicaaAppend
namespace Go.Proofs.Ytobbjhbjjhnicaa
open Go.RowKit
set_option linter.unusedVariables false
/-- Where b[i:..] lies; m is what bounds it. -/
def cutA (A : Option Addr) (i m : Nat) : Option Addr := if m = i then A else A.map (·.add i)
theorem cutA_zero (A : Option Addr) (m : Nat) : cutA A 0 m = A := by
  unfold cutA
  split
  · rfl
  · cases A <;> simp [Addr.add]
theorem cutA_none {A : Option Addr} {i m : Nat} (h : cutA A i m = none) : A = none := by
  unfold cutA at h
  split at h
  · exact h
  · cases A
    · rfl
    · cases h
theorem Bytes.part {w : World} {B n : Nat} {A : Option Addr} {l : List UInt8} (h : Bytes w B A n l) {i j m : Nat} (hij : i ≤ j) (hj : j ≤ n) (hm : j ≤ m) : Bytes w B (cutA A i m) (j - i) ((l.drop i).take (j - i)) := by
  have hl := h.1
  refine ⟨by simp; omega, fun hn => ?_⟩
  obtain ⟨b, off, e, hb, hc⟩ := h.2 (by omega)
  refine ⟨b, off + i, ?_, hb, fun k c hk => ?_⟩
  · unfold cutA
    rw [if_neg (by omega), e]
    simp [Addr.add_mid]
  · rw [List.getElem?_take] at hk
    split at hk
    · rw [List.getElem?_drop] at hk
      have := hc (i + k) c hk
      rw [Nat.add_assoc]
      exact this
    · cases hk
section
variable {P : Program} {t e : TypeId}
theorem byte_elem (hr : ByteRow P t e) : P.underlying t = some (.slice (P.elem t)) ∧ P.elem t = e := by
  have h : P.elem t = e := by simp [Program.elem, hr.1]
  exact ⟨by rw [h]; exact hr.1, h⟩
theorem byte_size (hr : ByteRow P t e) (w : World) : (sizeOf (P.elem t)).run P w = .ok 1 w := by
  obtain ⟨ht, i, hi, hz, hsi, hby⟩ := hr
  have h : P.elem t = e := by simp [Program.elem, ht]
  rw [h]
  simp [sizeOf, typeInfo, hi, hsi]
theorem run_part (hr : ByteRow P t e) (A : Option Addr) (n c i j : Nat) (hij : i ≤ j) (hj : j ≤ c) (w : World) :
    (Instr.slice t (.slice A n c) (some (.int .i64 (i : Int))) (some (.int .i64 (j : Int))) none).run P w = .ok (.slice (cutA A i c) (j - i) (c - i)) w := by
  rw [run_slice_lh w t A n c (byte_elem hr).1 .i64 .i64 (i : Int) (j : Int) (by omega) (by omega) (by omega), byte_size hr]
  simp [Result.andThen, sliced, cutA]
theorem run_front (hr : ByteRow P t e) (A : Option Addr) (n c j : Nat) (hj : j ≤ c) (w : World) :
    (Instr.slice t (.slice A n c) none (some (.int .i64 (j : Int))) none).run P w = .ok (.slice A j c) w := by
  rw [run_slice_h w t A n c (byte_elem hr).1 .i64 (j : Int) (by omega) (by omega), byte_size hr]
  have := cutA_zero A c
  unfold cutA at this
  simp [Result.andThen, sliced]
  simpa using this
theorem run_rest (hr : ByteRow P t e) (A : Option Addr) (n c i : Nat) (hi : i ≤ n) (w : World) :
    (Instr.slice t (.slice A n c) (some (.int .i64 (i : Int))) none none).run P w = .ok (.slice (cutA A i c) (n - i) (c - i)) w := by
  rw [run_slice_l w t A n c (byte_elem hr).1 .i64 (i : Int) (by omega) (by omega), byte_size hr]
  simp [Result.andThen, sliced, cutA]
theorem run_part_at (hr : ByteRow P t e) (A : Option Addr) (n c i j : Nat) (hij : i ≤ j) (hj : j ≤ c) (w : World) :
    (Instr.sliceAt t (.slice A n c) (some (.int .i64 (i : Int))) (some (.int .i64 (j : Int))) none).run P w = .ok (.slice (cutA A i c) (j - i) (c - i)) w := by
  rw [run_sliceAt_slice _ _ _ _ _ _ (byte_elem hr).1, run_part hr A n c i j hij hj]
theorem run_front_at (hr : ByteRow P t e) (A : Option Addr) (n c j : Nat) (hj : j ≤ c) (w : World) :
    (Instr.sliceAt t (.slice A n c) none (some (.int .i64 (j : Int))) none).run P w = .ok (.slice A j c) w := by
  rw [run_sliceAt_slice _ _ _ _ _ _ (byte_elem hr).1, run_front hr A n c j hj]
theorem run_rest_at (hr : ByteRow P t e) (A : Option Addr) (n c i : Nat) (hi : i ≤ n) (w : World) :
    (Instr.sliceAt t (.slice A n c) (some (.int .i64 (i : Int))) none none).run P w = .ok (.slice (cutA A i c) (n - i) (c - i)) w := by
  rw [run_sliceAt_slice _ _ _ _ _ _ (byte_elem hr).1, run_rest hr A n c i hi]
end
end Go.Proofs.Ytobbjhbjjhnicaa
