/- key.Of outside its bounds; key.Check. -/
import Derived.Test.YtbmccgiffplpjaaKeyOf
namespace Go.Proofs.Ytbmccgiffplpjaa
open Go.RowKit
set_option linter.unusedVariables false
def K0 : PL.K8 := ⟨0, 0, 0, 0, 0, 0, 0, 0⟩
set_option maxRecDepth 100000 in
set_option maxHeartbeats 4000000 in
theorem keyOf_no (s : ByteArray) (f : Nat → UInt8) (R : Int) (w : World) (hm : s.size ≤ 9223372036854775807) (h : 100 < (s.size : Int) ∨ R < 1 ∨ 1000 < R) :
    Calls Try.prog 19 #[.string s, .agg (byteCells f), .int .i64 R] w fun e w' => e = .returned (.tuple #[.agg (keyCells K0), .int .i64 1]) ∧ Below w.heap.size w w' := by
  have hb : Below w.heap.size w ((w.alloc (Obj.cells (byteCells f) 26)).alloc (Obj.cells (keyCells K0) 28)) := ((Below.refl _ _).alloc (Nat.le_refl _) _).alloc (by simp) _
  by_cases h1 : 100 < (s.size : Int)
  · go_enter Try.func19, Try.ntmps19
    go_wp2
    go_step3
    go_wp2
    rw [Exit.noGoto_ret]
    exact bodyPost_ret (v := .tuple #[.agg (keyCells K0), .int .i64 1]) (by simp [results, Try.results19, go_sem]; exact ⟨rfl, rfl, rfl, rfl, rfl, rfl, rfl, rfl⟩) rfl ⟨rfl, hb⟩
  · by_cases h2 : R < 1
    · go_enter Try.func19, Try.ntmps19
      go_wp2
      go_step3
      go_wp2
      rw [Exit.noGoto_ret]
      exact bodyPost_ret (v := .tuple #[.agg (keyCells K0), .int .i64 1]) (by simp [results, Try.results19, go_sem]; exact ⟨rfl, rfl, rfl, rfl, rfl, rfl, rfl, rfl⟩) rfl ⟨rfl, hb⟩
    · have h3 : 1000 < R := by omega
      go_enter Try.func19, Try.ntmps19
      go_wp2
      go_step3
      go_wp2
      rw [Exit.noGoto_ret]
      exact bodyPost_ret (v := .tuple #[.agg (keyCells K0), .int .i64 1]) (by simp [results, Try.results19, go_sem]; exact ⟨rfl, rfl, rfl, rfl, rfl, rfl, rfl, rfl⟩) rfl ⟨rfl, hb⟩
set_option maxRecDepth 100000 in
set_option maxHeartbeats 4000000 in
theorem check_any (k : PL.K8) (w : World) :
    Calls Try.prog 21 #[.agg (keyCells k)] w fun e w' => e = .returned (.agg (byteCells (tagOf k (-1) []))) ∧ Below w.heap.size w w' := by
  have hR0 : Blk ((w.alloc (Obj.cells (keyCells k) 28)).alloc (Obj.cells (byteCells fun _ => 0) 26)) (w.heap.size + 1) 26 (byteCells fun _ => 0) := by
    have := Blk.new (w.alloc (Obj.cells (keyCells k) 28)) 26 (byteCells fun _ => 0)
    rw [World.size_alloc] at this
    exact this
  have hW0 : Below w.heap.size w ((w.alloc (Obj.cells (keyCells k) 28)).alloc (Obj.cells (byteCells fun _ => 0) 26)) := ((Below.refl _ _).alloc (Nat.le_refl _) _).alloc (by simp) _
  have HR0 := Lib.hid hR0
  clear hR0
  go_enter Try.func21, Try.ntmps21
  go_wp2_with fail
  refine (of_any k (-1) none 0 0 0 [] _ Bytes.empty (Nat.zero_le _) (by omega)).mono ?_
  rintro e w1 ⟨rfl, hb1⟩
  have hR1 := HR0.out.below (w' := w1) hb1 HR0.out.lt
  have hW1 : Below w.heap.size w w1 := hW0.trans (hb1.mono hW0.size)
  clear HR0 hW0 hb1
  go_wp2_with (refine wpList_store_blk rfl 26 (.tmp 2) (.tmp 4) rfl (w.heap.size + 1) (byteCells (tagOf k (-1) [])) rfl rfl 26 _ hR1 rfl (by kernel_rfl) (byte_one _) ?_; intro w2 hB2 hg2 hs2)
  exact bodyPost_ret (results_cell_row rfl _ _ (w.heap.size + 1) 26 _ (0, 0) _ rfl hB2 Try.underlying26 rfl (by kernel_rfl)) rfl ⟨rfl, hW1.grown hg2 (by have := hW1.size; omega) (by intro g hg; injection hg with hg; omega)⟩
end Go.Proofs.Ytbmccgiffplpjaa
