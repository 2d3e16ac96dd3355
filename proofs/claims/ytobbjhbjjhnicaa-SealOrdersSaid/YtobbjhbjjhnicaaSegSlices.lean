/- Parts of a slice of segments. -/
import Derived.Test.YtobbjhbjjhnicaaSegs
import Derived.Test.YtobbjhbjjhnicaaSlices
namespace Go.Proofs.Ytobbjhbjjhnicaa
open Go.RowKit
set_option linter.unusedVariables false
def cut4 (A : Option Addr) (i m : Nat) : Option Addr := if m = i then A else A.map (·.add (i * 4))
theorem cut4_none {A : Option Addr} {i m : Nat} (h : cut4 A i m = none) : A = none := by
  unfold cut4 at h
  split at h
  · exact h
  · cases A
    · rfl
    · cases h
theorem seg_elem : Try.prog.underlying 43 = some (.slice (Try.prog.elem 43)) ∧ Try.prog.elem 43 = 50 := by
  have h : Try.prog.elem 43 = 50 := by simp [Program.elem, Try.underlying43]
  exact ⟨by rw [h]; exact Try.underlying43, h⟩
theorem seg_size (w : World) : (sizeOf (Try.prog.elem 43)).run Try.prog w = .ok 4 w := by
  obtain ⟨ht, i, z, hi, hz, hzs, hsi, hby⟩ := row_seg
  rw [seg_elem.2]
  simp [sizeOf, typeInfo, hi, hsi]
theorem run_segs_front (A : Option Addr) (n c j : Nat) (hj : j ≤ c) (w : World) :
    (Instr.slice 43 (.slice A n c) none (some (.int .i64 (j : Int))) none).run Try.prog w = .ok (.slice A j c) w := by
  rw [run_slice_h w _ A n c seg_elem.1 .i64 (j : Int) (by omega) (by omega), seg_size]
  have : (if c = 0 then A else A.map (·.add (0 * 4))) = A := by
    split
    · rfl
    · cases A <;> simp [Addr.add]
  simp [Result.andThen, sliced] at this ⊢
  exact this
theorem run_segs_rest (A : Option Addr) (n c i : Nat) (hi : i ≤ n) (w : World) :
    (Instr.slice 43 (.slice A n c) (some (.int .i64 (i : Int))) none none).run Try.prog w = .ok (.slice (cut4 A i c) (n - i) (c - i)) w := by
  rw [run_slice_l w _ A n c seg_elem.1 .i64 (i : Int) (by omega) (by omega), seg_size]
  simp [Result.andThen, sliced, cut4]
theorem run_segs_front_at (A : Option Addr) (n c j : Nat) (hj : j ≤ c) (w : World) :
    (Instr.sliceAt 43 (.slice A n c) none (some (.int .i64 (j : Int))) none).run Try.prog w = .ok (.slice A j c) w := by
  rw [run_sliceAt_slice _ _ _ _ _ _ seg_elem.1, run_segs_front A n c j hj]
theorem run_segs_rest_at (A : Option Addr) (n c i : Nat) (hi : i ≤ n) (w : World) :
    (Instr.sliceAt 43 (.slice A n c) (some (.int .i64 (i : Int))) none none).run Try.prog w = .ok (.slice (cut4 A i c) (n - i) (c - i)) w := by
  rw [run_sliceAt_slice _ _ _ _ _ _ seg_elem.1, run_segs_rest A n c i hi]
theorem segRow_take : ∀ (l : List SegV) (j i : Nat) (u : Value), (segRow (l.take j))[i]? = some u → (segRow l)[i]? = some u := by
  intro l j i u h
  obtain ⟨k, r, x, rfl, hr, hx, hu⟩ := segRow_get _ i u h
  have hx' : l[k]? = some x := by
    rw [List.getElem?_take] at hx
    split at hx
    · exact hx
    · cases hx
  obtain ⟨h0, h1, h2, h3⟩ := segRow_at l k x hx'
  match r, hr, hu with
  | 0, _, hu => rw [← hu]; exact h0
  | 1, _, hu => rw [← hu]; exact h1
  | 2, _, hu => rw [← hu]; exact h2
  | 3, _, hu => rw [← hu]; exact h3
theorem segRow_drop : ∀ (l : List SegV) (j i : Nat) (u : Value), (segRow (l.drop j))[i]? = some u → (segRow l)[j * 4 + i]? = some u := by
  intro l j i u h
  obtain ⟨k, r, x, rfl, hr, hx, hu⟩ := segRow_get _ i u h
  rw [List.getElem?_drop] at hx
  obtain ⟨h0, h1, h2, h3⟩ := segRow_at l (j + k) x hx
  match r, hr, hu with
  | 0, _, hu => rw [← hu, show j * 4 + (k * 4 + 0) = (j + k) * 4 by omega]; exact h0
  | 1, _, hu => rw [← hu, show j * 4 + (k * 4 + 1) = (j + k) * 4 + 1 by omega]; exact h1
  | 2, _, hu => rw [← hu, show j * 4 + (k * 4 + 2) = (j + k) * 4 + 2 by omega]; exact h2
  | 3, _, hu => rw [← hu, show j * 4 + (k * 4 + 3) = (j + k) * 4 + 3 by omega]; exact h3
section
variable {w : World} {B n : Nat} {A : Option Addr} {l : List SegV}
theorem Segs.front (h : Segs w B A n l) {j : Nat} (hj : j ≤ n) : Segs w B A j (l.take j) := by
  refine ⟨by rw [List.length_take, h.1]; omega, fun hn => ?_⟩
  obtain ⟨b, off, e, hb, hc⟩ := h.2 (by omega)
  exact ⟨b, off, e, hb, fun i u hi => hc i u (segRow_take l j i u hi)⟩
theorem Segs.rest (h : Segs w B A n l) {i c : Nat} (hi : i ≤ n) (hc : n ≤ c) : Segs w B (cut4 A i c) (n - i) (l.drop i) := by
  refine ⟨by rw [List.length_drop, h.1], fun hn => ?_⟩
  obtain ⟨b, off, e, hb, hcc⟩ := h.2 (by omega)
  refine ⟨b, off + i * 4, ?_, hb, fun k u hk => ?_⟩
  · unfold cut4
    rw [if_neg (by omega), e]
    simp [Addr.add_mid]
  · rw [Nat.add_assoc]
    exact hcc _ u (segRow_drop l i k u hk)
end
theorem OwnS.empty_ (w : World) (e : TypeId) (c : Array Value) (hc : c.size = 0) : OwnS (w.alloc (.cells c 50)) w.heap.size (.slice (some ⟨w.heap.size, 0, none⟩) 0 0) [] := by
  refine ⟨rfl, .inr ⟨w.heap.size, 0, c, rfl, Nat.le_refl _, heap_alloc_new w _, Nat.le_refl _, Nat.zero_le _, by rw [hc], by simp [segRow]⟩⟩
theorem Segs.two {w : World} {g B : Nat} {e : TypeId} {x y : SegV} (h : Blk w g e #[.int .i64 x.seg.kind, .int .i64 x.seg.place, .bool x.seg.last, .slice x.A x.n x.c, .int .i64 y.seg.kind, .int .i64 y.seg.place, .bool y.seg.last, .slice y.A y.n y.c]) (hg : g < B) : Segs w B (some ⟨g, 0, none⟩) 2 [x, y] := by
  refine ⟨rfl, fun _ => ⟨g, 0, rfl, hg, fun i u hu => ?_⟩⟩
  rw [Nat.zero_add, h.cell i]
  match i, hu with
  | 0, hu => exact hu
  | 1, hu => exact hu
  | 2, hu => exact hu
  | 3, hu => exact hu
  | 4, hu => exact hu
  | 5, hu => exact hu
  | 6, hu => exact hu
  | 7, hu => exact hu
end Go.Proofs.Ytobbjhbjjhnicaa
