/- Bytes that lie from the start of a block of their own. -/
import Derived.Test.YtobbjhbjjhnicaaSlices
import Derived.Test.YtobbjhbjjhnicaaMake
import Derived.Test.YtobbjhbjjhnicaaByteRow
namespace Go.Proofs.Ytobbjhbjjhnicaa
open Go.RowKit
set_option linter.unusedVariables false
def Lies (w : World) (g : Nat) (l : List UInt8) : Prop := ∃ cs : Array Value, Blk w g 5 cs ∧ ∀ (j : Nat) (c : UInt8), l[j]? = some c → cs[j]? = some (u8v c)
theorem Lies.lt {w : World} {g : Nat} {l : List UInt8} (h : Lies w g l) : g < w.heap.size := by
  obtain ⟨cs, h, _⟩ := h
  exact h.lt
theorem Lies.cell {w : World} {g : Nat} {l : List UInt8} (h : Lies w g l) {j : Nat} {c : UInt8} (hj : l[j]? = some c) : w.cell? ⟨g, j, none⟩ = some (u8v c) := by
  obtain ⟨cs, h, h2⟩ := h
  rw [h.cell]
  exact h2 j c hj
theorem Lies.frozen {w : World} {g : Nat} {l : List UInt8} (h : Lies w g l) (j : Nat) : w.frozen? ⟨g, j, none⟩ = false := by
  obtain ⟨cs, h, h2⟩ := h
  exact h.frozen j
theorem Lies.below {w w' : World} {g B : Nat} {l : List UInt8} (h : Lies w g l) (hb : Below B w w') (hg : g < B) : Lies w' g l := by
  obtain ⟨cs, h, h2⟩ := h
  exact ⟨cs, h.below hb hg, h2⟩
theorem Lies.alloc {w : World} {g : Nat} {l : List UInt8} (h : Lies w g l) (o : Obj) : Lies (w.alloc o) g l := by
  obtain ⟨cs, h, h2⟩ := h
  exact ⟨cs, h.alloc o, h2⟩
theorem Lies.far {w : World} {g : Nat} {l : List UInt8} (h : Lies w g l) {p : Addr} (hp : g ≠ p.block) (u : Value) : Lies (w.setCell p u) g l := by
  obtain ⟨cs, h, h2⟩ := h
  exact ⟨cs, h.far hp u, h2⟩
theorem Lies.set_ {w : World} {g : Nat} {l : List UInt8} (h : Lies w g l) (j : Nat) (c : UInt8) : Lies (w.setCell ⟨g, j, none⟩ (u8v c)) g (l.set j c) := by
  obtain ⟨cs, h, h2⟩ := h
  refine ⟨_, h.set_ j (u8v c), fun i d hi => ?_⟩
  rw [List.getElem?_set] at hi
  rw [Array.getElem?_setIfInBounds]
  by_cases hij : j = i
  · subst hij
    rw [if_pos rfl] at hi ⊢
    split at hi
    · rename_i hl
      injection hi with hi
      subst hi
      have := h2 j _ (List.getElem?_eq_getElem hl)
      rw [if_pos (Array.getElem?_eq_some_iff.1 this).1]
    · cases hi
  · rw [if_neg hij] at hi ⊢
    exact h2 i d hi
theorem Lies.bytes {w : World} {g n B : Nat} {l : List UInt8} (h : Lies w g l) (hn : l.length = n) (hB : g < B) : Bytes w B (some ⟨g, 0, none⟩) n l := by
  refine ⟨hn, fun _ => ⟨g, 0, rfl, hB, fun i c hi => ?_⟩⟩
  rw [Nat.zero_add]
  exact h.cell hi
theorem Lies.take {w : World} {g : Nat} {l : List UInt8} (h : Lies w g l) (n : Nat) : Lies w g (l.take n) := by
  obtain ⟨cs, h, h2⟩ := h
  refine ⟨cs, h, fun i d hi => ?_⟩
  rw [List.getElem?_take] at hi
  split at hi
  · exact h2 i d hi
  · cases hi
/-- A row of bytes of one's own, laid out. -/
theorem Own.lies {w : World} {base g n c : Nat} {l : List UInt8} (h : Own 5 w base (.slice (some ⟨g, 0, none⟩) n c) l) : Lies w g l ∧ l.length = n ∧ base ≤ g ∧ n ≤ c := by
  unfold Own at h
  rcases h.2 with ⟨h', _⟩ | ⟨g', cap', cur, h', hb, hg, hnc, hcm, hcs, htake⟩
  · simp at h'
  · simp only [Value.slice.injEq, Option.some.injEq, Addr.mk.injEq, and_true] at h'
    obtain ⟨rfl, rfl, rfl⟩ := h'
    refine ⟨⟨cur, hg, fun j d hj => ?_⟩, rfl, hb, hnc⟩
    rw [Nat.mul_one] at htake
    have hj' : j < l.length := (List.getElem?_eq_some_iff.1 hj).1
    have e : (cur.toList.take l.length)[j]? = some (u8v d) := by rw [htake, List.getElem?_map, hj]; rfl
    rw [List.getElem?_take, if_pos hj', Array.getElem?_toList] at e
    exact e
theorem run_three {P : Program} {t e : TypeId} (hr : ByteRow P t e) (A : Option Addr) (n c j : Nat) (hj : j ≤ c) (w : World) :
    (Instr.slice t (.slice A n c) none (some (.int .i64 (j : Int))) (some (.int .i64 (j : Int)))).run P w = .ok (.slice A j j) w := by
  rw [run_slice_hm w t A n c (byte_elem hr).1 .i64 .i64 (j : Int) (j : Int) (by omega) (by omega) (by omega), byte_size hr]
  have := cutA_zero A j
  unfold cutA at this
  simp [Result.andThen, sliced]
  simpa using this
theorem run_three_at {P : Program} {t e : TypeId} (hr : ByteRow P t e) (A : Option Addr) (n c j : Nat) (hj : j ≤ c) (w : World) :
    (Instr.sliceAt t (.slice A n c) none (some (.int .i64 (j : Int))) (some (.int .i64 (j : Int)))).run P w = .ok (.slice A j j) w := by
  rw [run_sliceAt_slice _ _ _ _ _ _ (byte_elem hr).1, run_three hr A n c j hj]
end Go.Proofs.Ytobbjhbjjhnicaa
