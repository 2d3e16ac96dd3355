/- A string turned into a slice of bytes. -/
import Derived.Test.YtbmccgiffplpjaaConv
namespace Go.Proofs.Ytbmccgiffplpjaa
open Go.RowKit
theorem conv_string {P : Program} (w : World) {src dst e : TypeId} (hs : P.underlying src = some .string) (hd : P.underlying dst = some (.slice e)) (he : P.underlying e = some (.int .u8)) (s : ByteArray) :
    ∃ A c w', (convert src dst (.string s)).run P w = .ok (.slice A s.size c) w' ∧ Bytes w' w'.heap.size A s.size s.data.toList ∧ Below w.heap.size w w' ∧ (A = none → c = 0) := by
  refine ⟨_, _, _, run_bytes_of_string w src dst e s hs hd he, ⟨by rw [Array.length_toList]; rfl, fun _ => ⟨w.heap.size, 0, rfl, ?_, fun i c hi => ?_⟩⟩, ?_, fun h => by cases h⟩
  · rw [World.size_alloc]
    show w.heap.size < w.heap.size + 1
    omega
  · have hj : i < s.data.size := by
      have := (List.getElem?_eq_some_iff.1 hi).1
      simpa using this
    rw [Nat.zero_add, cell_of_row _ w.heap.size i _ _ _ (heap_alloc_new w.drew _), bytesRow_at s _ i hj]
    have : s.data[i] = c := by
      rw [List.getElem?_eq_getElem (by simpa using hj)] at hi
      injection hi with hi
    rw [this]
  · exact (Below.refl _ _).drew.alloc (Nat.le_refl _) _
theorem wp_conv_string {P : Program} {w : World} {o : Oper} {a : Act} {K : Act → World → Prop} {Q : Exit → Act → World → Prop} (src dst e : TypeId) (x : Operand) (hs : P.underlying src = some .string) (hd : P.underlying dst = some (.slice e)) (he : P.underlying e = some (.int .u8))
    (ho : o.op = .convert src dst x) (s : ByteArray) (hx : a.eval x = .string s)
    (h : ∀ A c w', Bytes w' w'.heap.size A s.size s.data.toList → Below w.heap.size w w' → (A = none → c = 0) → K (a.put o.dst (.slice A s.size c)) w') : o.wp P a w K Q := by
  obtain ⟨A, c, w', hrun, hb, hw, hn⟩ := conv_string w hs hd he s
  unfold Oper.wp execOp
  simp only [ho, hx, Sem.run_bind, hrun, Result.andThen_ok, Sem.run_pure]
  exact h A c w' hb hw hn
end Go.Proofs.Ytbmccgiffplpjaa
