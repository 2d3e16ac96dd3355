/- lane.words, and the cells of a key. -/
import Derived.Test.YtobbjhbjjhnicaaQuarter
namespace Go.Proofs.Ytobbjhbjjhnicaa
open Go.RowKit
def wordsCells : Array Value := #[.int .i64 0, .int .i64 2, .int .i64 4, .int .i64 6, .int .i64 1, .int .i64 3, .int .i64 5, .int .i64 7, .int .i64 0, .int .i64 3, .int .i64 4, .int .i64 7, .int .i64 1, .int .i64 2, .int .i64 5, .int .i64 6]
set_option maxRecDepth 100000 in
set_option maxHeartbeats 1000000 in
theorem words_any (w : World) :
    Calls Try.prog 35 #[] w fun e w' => e = .returned (.agg wordsCells) ∧ Below w.heap.size w w' := by
  go_enter Try.func35, Try.ntmps35
  go_wp2
  exact bodyPost_ret (v := .agg wordsCells) (by simp [results, Try.results35, go_sem, wordsCells]) rfl ⟨rfl, (Below.refl _ _).alloc (Nat.le_refl _) _⟩
abbrev keyCells (k : PL.K8) : Array Value := #[u32v k.k0, u32v k.k1, u32v k.k2, u32v k.k3, u32v k.k4, u32v k.k5, u32v k.k6, u32v k.k7]
def zeros8 : Array Value := #[.int .u32 0, .int .u32 0, .int .u32 0, .int .u32 0, .int .u32 0, .int .u32 0, .int .u32 0, .int .u32 0]
theorem ix57_0 (w : World) : (Instr.index 67 (.agg wordsCells) (.int .i64 0)).run Try.prog w = .ok (.agg #[.int .i64 0, .int .i64 2, .int .i64 4, .int .i64 6]) w := by kernel_rfl
theorem ix57_1 (w : World) : (Instr.index 67 (.agg wordsCells) (.int .i64 1)).run Try.prog w = .ok (.agg #[.int .i64 1, .int .i64 3, .int .i64 5, .int .i64 7]) w := by kernel_rfl
theorem ix57_2 (w : World) : (Instr.index 67 (.agg wordsCells) (.int .i64 2)).run Try.prog w = .ok (.agg #[.int .i64 0, .int .i64 3, .int .i64 4, .int .i64 7]) w := by kernel_rfl
theorem ix57_3 (w : World) : (Instr.index 67 (.agg wordsCells) (.int .i64 3)).run Try.prog w = .ok (.agg #[.int .i64 1, .int .i64 2, .int .i64 5, .int .i64 6]) w := by kernel_rfl
theorem ix57 (n : Nat) (w : World) : (Instr.index 67 (.agg wordsCells) (.int .i64 ((n : Int) % 4))).run Try.prog w =
    .ok (.agg #[.int .i64 (PL.row0 n : Int), .int .i64 (PL.row1 n : Int), .int .i64 (PL.row2 n : Int), .int .i64 (PL.row3 n : Int)]) w := by
  rcases PL.res4 n with h | h | h | h
  · rw [show (n : Int) % 4 = 0 by omega, ix57_0]; simp [PL.row0, PL.row1, PL.row2, PL.row3, h]
  · rw [show (n : Int) % 4 = 1 by omega, ix57_1]; simp [PL.row0, PL.row1, PL.row2, PL.row3, h]
  · rw [show (n : Int) % 4 = 2 by omega, ix57_2]; simp [PL.row0, PL.row1, PL.row2, PL.row3, h]
  · rw [show (n : Int) % 4 = 3 by omega, ix57_3]; simp [PL.row0, PL.row1, PL.row2, PL.row3, h]
/-- Cell i of a key's block. -/
theorem keyCells_get (k : PL.K8) (i : Nat) (h : i < 8) : (keyCells k)[i]? = some (u32v (k.get i)) := by
  match i, h with
  | 0, _ => rfl
  | 1, _ => rfl
  | 2, _ => rfl
  | 3, _ => rfl
  | 4, _ => rfl
  | 5, _ => rfl
  | 6, _ => rfl
  | 7, _ => rfl
def setFour (cs : Array Value) (n : Nat) (q : UInt32 × UInt32 × UInt32 × UInt32) : Array Value :=
  (((cs.setIfInBounds (PL.row0 n) (u32v q.1)).setIfInBounds (PL.row1 n) (u32v q.2.1)).setIfInBounds (PL.row2 n) (u32v q.2.2.1)).setIfInBounds (PL.row3 n) (u32v q.2.2.2)
theorem step_cells (k : PL.K8) (n : Nat) : setFour (keyCells k) n (PL.quarter (k.get (PL.row0 n)) (k.get (PL.row1 n)) (k.get (PL.row2 n)) (k.get (PL.row3 n))) = keyCells (k.step n) := by
  rcases PL.res4 n with h | h | h | h <;> simp [setFour, PL.row0, PL.row1, PL.row2, PL.row3, h, PL.K8.get, PL.K8.step]
theorem unstep_cells (k : PL.K8) (n : Nat) : setFour (keyCells k) n (PL.undoQ (k.get (PL.row0 n)) (k.get (PL.row1 n)) (k.get (PL.row2 n)) (k.get (PL.row3 n))) = keyCells (k.unstep n) := by
  rcases PL.res4 n with h | h | h | h <;> simp [setFour, PL.row0, PL.row1, PL.row2, PL.row3, h, PL.K8.get, PL.K8.unstep]
theorem blk_four {w : World} {H t n : Nat} {cs : Array Value} (q : UInt32 × UInt32 × UInt32 × UInt32) (h : Blk w H t cs) :
    Blk ((((w.drew.setCell ⟨H, PL.row0 n, none⟩ (u32v q.1)).setCell ⟨H, PL.row1 n, none⟩ (u32v q.2.1)).setCell ⟨H, PL.row2 n, none⟩ (u32v q.2.2.1)).setCell ⟨H, PL.row3 n, none⟩ (u32v q.2.2.2)) H t (setFour cs n q) :=
  (((h.drew.set_ _ _).set_ _ _).set_ _ _).set_ _ _
theorem blk_four_far {w : World} {H G t n : Nat} {cs : Array Value} (q : UInt32 × UInt32 × UInt32 × UInt32) (hne : G ≠ H) (h : Blk w G t cs) :
    Blk ((((w.drew.setCell ⟨H, PL.row0 n, none⟩ (u32v q.1)).setCell ⟨H, PL.row1 n, none⟩ (u32v q.2.1)).setCell ⟨H, PL.row2 n, none⟩ (u32v q.2.2.1)).setCell ⟨H, PL.row3 n, none⟩ (u32v q.2.2.2)) G t cs :=
  (((h.drew.far hne _).far hne _).far hne _).far hne _
theorem below_four {w0 w : World} {H B n : Nat} (q : UInt32 × UInt32 × UInt32 × UInt32) (hne : B ≤ H) (h : Below B w0 w) :
    Below B w0 ((((w.drew.setCell ⟨H, PL.row0 n, none⟩ (u32v q.1)).setCell ⟨H, PL.row1 n, none⟩ (u32v q.2.1)).setCell ⟨H, PL.row2 n, none⟩ (u32v q.2.2.1)).setCell ⟨H, PL.row3 n, none⟩ (u32v q.2.2.2)) :=
  (((h.drew.setCell hne _).setCell hne _).setCell hne _).setCell hne _
/-- The key's cells when its first i words have been raised. -/
def plusCells (k : PL.K8) (i : Nat) : Array Value :=
  #[u32v (if 0 < i then k.k0 + 1 else k.k0), u32v (if 1 < i then k.k1 + 2 else k.k1), u32v (if 2 < i then k.k2 + 3 else k.k2), u32v (if 3 < i then k.k3 + 4 else k.k3),
    u32v (if 4 < i then k.k4 + 5 else k.k4), u32v (if 5 < i then k.k5 + 6 else k.k5), u32v (if 6 < i then k.k6 + 7 else k.k6), u32v (if 7 < i then k.k7 + 8 else k.k7)]
theorem plusCells_zero (k : PL.K8) : plusCells k 0 = keyCells k := rfl
theorem plusCells_all (k : PL.K8) : plusCells k 8 = keyCells k.plus := rfl
theorem plusCells_at (k : PL.K8) (i : Nat) (h : i < 8) : (plusCells k i)[i]? = some (u32v (k.get i)) := by
  match i, h with
  | 0, _ => rfl
  | 1, _ => rfl
  | 2, _ => rfl
  | 3, _ => rfl
  | 4, _ => rfl
  | 5, _ => rfl
  | 6, _ => rfl
  | 7, _ => rfl
theorem plusCells_set (k : PL.K8) (i : Nat) (h : i < 8) : (plusCells k i).setIfInBounds i (u32v (k.get i + UInt32.ofNat (i + 1))) = plusCells k (i + 1) := by
  match i, h with
  | 0, _ => rfl
  | 1, _ => rfl
  | 2, _ => rfl
  | 3, _ => rfl
  | 4, _ => rfl
  | 5, _ => rfl
  | 6, _ => rfl
  | 7, _ => rfl
end Go.Proofs.Ytobbjhbjjhnicaa
