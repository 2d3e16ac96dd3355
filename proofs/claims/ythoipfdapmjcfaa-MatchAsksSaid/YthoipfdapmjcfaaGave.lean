/- A slice of bytes that a call gives, of its own. -/
import Derived.Test.YthoipfdapmjcfaaByteRow
namespace Go.Proofs.Ythoipfdapmjcfaa
open Go.RowKit
set_option linter.unusedVariables false
/-- A call gave a slice of its own that holds l; nothing that was there has changed. -/
def Gave (w : World) (l : List UInt8) (e : Ending) (w' : World) : Prop := ∃ v, e = .returned v ∧ Own 5 w' w.heap.size v l ∧ Below w.heap.size w w'
/-- The shape of what owns, its length a letter. -/
theorem Own.form_n {w : World} {e : TypeId} {base : Nat} {v : Value} {l : List UInt8} (h : Own e w base v l) : ∃ A n c, v = .slice A n c ∧ Bytes w w.heap.size A n l ∧ n ≤ c ∧ (A = none → c = 0) := by
  obtain ⟨A, c, h1, h2, h3, h4, _⟩ := h.form
  exact ⟨A, _, c, h1, h2, h3, h4⟩
theorem below_grown_own {w0 w w' : World} {v : Value} {l : List UInt8} {e : TypeId} (hb : Below w0.heap.size w0 w) (ho : Own e w w0.heap.size v l) (hg : w.grownBy w' v.ownBlock) : Below w0.heap.size w0 w' := by
  refine hb.grown hg hb.size (fun g h => ?_)
  obtain ⟨A, c, _, _, _, _, h2⟩ := ho.form
  exact h2 g h
theorem blk_bytes2 (w : World) (t : TypeId) (x y : UInt8) : Bytes (w.alloc (.cells #[u8v x, u8v y] t)) (w.heap.size + 1) (some ⟨w.heap.size, 0, none⟩) 2 [x, y] := by
  refine ⟨rfl, fun _ => ⟨w.heap.size, 0, rfl, Nat.lt_succ_self _, fun i c hi => ?_⟩⟩
  rw [Nat.zero_add, (Blk.new w t #[u8v x, u8v y]).cell]
  match i, hi with
  | 0, hi => cases hi; rfl
  | 1, hi => cases hi; rfl
theorem nat_byte {q : Nat} (h : q < 256) : Value.int .u8 (q : Int) = u8v (UInt8.ofNat q) := by
  unfold u8v
  rw [UInt8.toNat_ofNat']
  congr 1
  omega
theorem one_nat (w : World) (t : TypeId) (q : Nat) (h : q < 256) : Bytes (w.alloc (.cells #[.int .u8 (q : Int)] t)) (w.heap.size + 1) (some ⟨w.heap.size, 0, none⟩) 1 [UInt8.ofNat q] := by
  rw [nat_byte h]
  exact one_bytes w t _
end Go.Proofs.Ythoipfdapmjcfaa
