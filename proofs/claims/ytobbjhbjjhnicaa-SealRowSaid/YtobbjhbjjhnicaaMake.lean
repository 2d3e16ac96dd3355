/- make([]byte, n), make([]byte, n, c): the new slice and where it lies. -/
import Derived.Test.YtobbjhbjjhnicaaAppend
import Derived.Laws.MakeOwn
namespace Go.Proofs.Ytobbjhbjjhnicaa
open Go.RowKit
set_option linter.unusedVariables false
/-- n bytes, all zero, as the machine holds them. -/
def zeroRow (n : Nat) : Array Value := madeCells #[.int .u8 0] n
theorem zeroRow_size (n : Nat) : (zeroRow n).size = n := size_madeCells _ n
theorem zeroRow_get (n i : Nat) (h : i < n) : (zeroRow n)[i]? = some (u8v 0) := by
  have hm : i % 1 = 0 := Nat.mod_one i
  simp [zeroRow, madeCells, h, hm]
theorem zeroRow_eq (n : Nat) : zeroRow n = ((List.replicate n (0 : UInt8)).map u8v).toArray := by
  apply Array.ext
  · simp [zeroRow_size]
  · intro i h1 h2
    have := zeroRow_get n i (by simpa [zeroRow_size] using h1)
    rw [Array.getElem?_eq_getElem h1] at this
    injection this with this
    rw [this]
    simp
section
variable {P : Program} {t e : TypeId} {w : World}
theorem run_make_bytes (hr : ByteRow P t e) (w : World) (n c : Nat) (kl kc : IntKind) (hn : n ≤ c) (hc : c ≤ 1000000000000) :
    (Instr.makeSlice t (.int kl (n : Int)) (.int kc (c : Int))).run P w = .ok (.slice (some ⟨w.heap.size, 0, none⟩) n c) (w.alloc (.cells (zeroRow c) e)) := by
  obtain ⟨ht, i, hi, hz, hsi, hby⟩ := hr
  have hr := run_make (P := P) w t e i _ ht hi hz kl kc n c (by omega) (by omega) (by rw [hby]; omega) (by omega)
  rw [hsi, Nat.mul_one] at hr
  exact hr
theorem wp_make_bytes {o : Oper} {a : Act} {K : Act → World → Prop} {Q : Exit → Act → World → Prop} (hr : ByteRow P t e) (x y : Operand) (ho : o.op = .makeSlice t x y) (n c : Nat) (kl kc : IntKind)
    (hx : a.eval x = .int kl (n : Int)) (hy : a.eval y = .int kc (c : Int)) (hn : n ≤ c) (hc : c ≤ 1000000000000)
    (h : K (a.put o.dst (.slice (some ⟨w.heap.size, 0, none⟩) n c)) (w.alloc (.cells (zeroRow c) e))) : o.wp P a w K Q := by
  unfold Oper.wp execOp
  simp only [ho, hx, hy, Sem.run_bind, run_make_bytes hr w n c kl kc hn hc, Result.andThen_ok, Sem.run_pure]
  exact h
theorem made_bytes (w : World) (t : TypeId) (n c : Nat) (h : n ≤ c) : Bytes (w.alloc (.cells (zeroRow c) t)) (w.heap.size + 1) (some ⟨w.heap.size, 0, none⟩) n (List.replicate n 0) := by
  refine ⟨by simp, fun _ => ⟨w.heap.size, 0, rfl, Nat.lt_succ_self _, fun i x hi => ?_⟩⟩
  have hi' : i < n := by simpa using (List.getElem?_eq_some_iff.1 hi).1
  have hc : x = 0 := (List.mem_replicate.1 (List.mem_of_getElem? hi)).2
  subst hc
  rw [Nat.zero_add, (Blk.new w t (zeroRow c)).cell i, zeroRow_get c i (by omega)]
theorem own_made (w : World) (e : TypeId) (c : Nat) (hc : c ≤ 1000000000000) : Own e (w.alloc (.cells (zeroRow c) e)) w.heap.size (.slice (some ⟨w.heap.size, 0, none⟩) 0 c) [] :=
  World.ownsRow_made w _ c (Nat.le_refl _) (by unfold maxLen; omega) (by rw [zeroRow_size, Nat.mul_one])
end
end Go.Proofs.Ytobbjhbjjhnicaa
