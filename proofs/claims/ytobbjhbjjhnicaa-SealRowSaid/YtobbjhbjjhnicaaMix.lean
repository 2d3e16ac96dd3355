/- The walk of lane.Mix. -/
import Derived.Test.YtobbjhbjjhnicaaKeyCells
import Derived.Test.YtobbjhbjjhnicaaMixRegion
namespace Go.Proofs.Ytobbjhbjjhnicaa
open Go.RowKit
set_option maxRecDepth 100000 in
set_option maxHeartbeats 4000000 in
theorem mix_any (k : PL.K8) (w : World) :
    Calls Try.prog 15 #[.agg (keyCells k)] w fun e w' => e = .returned (.agg (keyCells (PL.mix k))) ∧ Below w.heap.size w w' := by
  go_enter Try.func15, Try.ntmps15
  go_wp2
  refine wp_scope_back 0 (fun m a' w' => ∃ (n : Nat) (K : PL.K8), m = 16 - n ∧ n ≤ 16 ∧ Hid (K = PL.mixTo n k) ∧ Below w.heap.size w w' ∧ Hid (Blk w' w.heap.size 31 (keyCells K)) ∧ Hid (Blk w' (w.heap.size + 1) 31 zeros8) ∧ ∃ u : Nat → Value, a' = ⟨#[u 0, .pointer (some ⟨w.heap.size, 0, none⟩), .pointer (some ⟨w.heap.size + 1, 0, none⟩), .int .i64 (n : Int), u 4, u 5, u 6, u 7, u 8, u 9, u 10, u 11, u 12, u 13, u 14, u 15, u 16, u 17, u 18, u 19, u 20, u 21, u 22, u 23, u 24, u 25, u 26, u 27, u 28, u 29, u 30, u 31, u 32, u 33, u 34, u 35, u 36, u 37, u 38, u 39, u 40, u 41, u 42, u 43, u 44, u 45, u 46, u 47, u 48, u 49, u 50, u 51, u 52, u 53, u 54, u 55, u 56, u 57, u 58, u 59, u 60], []⟩) rfl ?_ ?_
  · intro HL
    go_wp2
    go_step3
    go_step
    go_step
    have hz := Blk.new (w.alloc (Obj.cells (keyCells k) 31)) 31 zeros8
    rw [World.size_alloc] at hz
    exact HL.out 16 _ _ ⟨0, k, rfl, Nat.zero_le _, rfl, ((Below.refl _ _).alloc (Nat.le_refl _) _).alloc (by simp) _, (Blk.new _ _ _).alloc _, hz, ⟨slot [_, undef, undef, undef, _, _, _, _, _, _, _, _, _, _, _, _, _, _, _, _, _, _, _, _, _, _, _, _, _, _, _, _, _, _, _, _, _, _, _, _, _, _, _, _, _, _, _, _, _, _, _, _, _, _, _, _, _, _, _, _, _], rfl⟩⟩
  · rintro m a' w' ⟨n, K, rfl, hn, HK, hb, HB1, HB2, ⟨u, rfl⟩⟩
    by_cases hlt : n < 16
    · have h57 := ix57 n
      go_wp2_with (go_at_call 35; refine (words_any _).mono ?_; rintro e w1 ⟨rfl, hb1⟩)
      clear h57
      have hB := (HB1.out.below hb1 HB1.out.lt).alloc (Obj.cells #[.int .i64 (PL.row0 n : Int), .int .i64 (PL.row1 n : Int), .int .i64 (PL.row2 n : Int), .int .i64 (PL.row3 n : Int)] 66)
      have hZ := (HB2.out.below hb1 HB2.out.lt).alloc (Obj.cells #[.int .i64 (PL.row0 n : Int), .int .i64 (PL.row1 n : Int), .int .i64 (PL.row2 n : Int), .int .i64 (PL.row3 n : Int)] 66)
      have hG := Blk.new w1 66 #[.int .i64 (PL.row0 n : Int), .int .i64 (PL.row1 n : Int), .int .i64 (PL.row2 n : Int), .int .i64 (PL.row3 n : Int)]
      have hbb := (hb.trans (hb1.mono hb.size)).alloc (by have := hb1.size; have := hb.size; omega) (Obj.cells #[.int .i64 (PL.row0 n : Int), .int .i64 (PL.row1 n : Int), .int .i64 (PL.row2 n : Int), .int .i64 (PL.row3 n : Int)] 66)
      have hne : w.heap.size ≠ w1.heap.size := by have := HB1.out.lt; have := hb1.size; omega
      clear HB1 HB2 hb1 hb
      generalize w1.alloc (Obj.cells #[.int .i64 (PL.row0 n : Int), .int .i64 (PL.row1 n : Int), .int .i64 (PL.row2 n : Int), .int .i64 (PL.row3 n : Int)] 66) = w2 at *
      generalize w1.heap.size = g at *
      obtain ⟨⟨r0, r1, r2, r3⟩, m1, m2, m3, m4, m5, m6⟩ := PL.row_facts n
      refine mix_region w.heap.size g (PL.row0 n) (PL.row1 n) (PL.row2 n) (PL.row3 n) K.get _ _ _ _ _ _ _ _ _ _ _ _ _ _ _ _ _ _ _ _ _ _ _ _ _ _ _ _ _ _ _ _ _ _ _ _ _ _ _ _ _ _ _ _ _ _ _ _ _ _ _ _ _ _ _ _ _ _ _ w2 _ (fun _ _ d _ _ h => by cases d <;> exact h) (by omega) (by omega) (by omega) (by omega) m1 m2 m3 m4 m5 m6 hne
        (by rw [hG.cell]; rfl) (by rw [hB.cell]; exact keyCells_get _ _ r0) (hB.frozen _) (by rw [hG.cell]; rfl) (by rw [hB.cell]; exact keyCells_get _ _ r1) (hB.frozen _) (by rw [hG.cell]; rfl) (by rw [hB.cell]; exact keyCells_get _ _ r2) (hB.frozen _) (by rw [hG.cell]; rfl) (by rw [hB.cell]; exact keyCells_get _ _ r3) (hB.frozen _) ?_
      intro v12 v13 v14 v15 v16 v17 v18 v19 v20 v21 v22 v23 v24 v25 v26 v27 v28 v29 v30 v31 v32 v33 v34 v35 v36 v37 v38 v39 v40 v41 v42 v43 v44 v45
      have hB' := blk_four (n := n) (PL.quarter (K.get (PL.row0 n)) (K.get (PL.row1 n)) (K.get (PL.row2 n)) (K.get (PL.row3 n))) hB
      have hZ' := blk_four_far (n := n) (H := w.heap.size) (PL.quarter (K.get (PL.row0 n)) (K.get (PL.row1 n)) (K.get (PL.row2 n)) (K.get (PL.row3 n))) (by omega) hZ
      have hbb' := below_four (n := n) (H := w.heap.size) (PL.quarter (K.get (PL.row0 n)) (K.get (PL.row1 n)) (K.get (PL.row2 n)) (K.get (PL.row3 n))) (Nat.le_refl _) hbb
      rw [step_cells] at hB'
      have HB' := Lib.hid hB'
      have HZ' := Lib.hid hZ'
      clear hB hZ hG hbb hB' hZ' r0 r1 r2 r3 m1 m2 m3 m4 m5 m6 hne
      generalize (((w2.drew.setCell ⟨w.heap.size, PL.row0 n, none⟩ _).setCell ⟨w.heap.size, PL.row1 n, none⟩ _).setCell ⟨w.heap.size, PL.row2 n, none⟩ _).setCell ⟨w.heap.size, PL.row3 n, none⟩ _ = w3 at *
      go_wp2
      go_step3
      simp only [Exit.then]
      refine jump_back (m' := 16 - (n + 1)) ?_ ?_
      · omega
      refine ⟨n + 1, K.step n, rfl, hlt, ?_, hbb', HB', HZ', ⟨slot [_, undef, undef, undef, _, _, _, _, _, _, _, _, _, _, _, _, _, _, _, _, _, _, _, _, _, _, _, _, _, _, _, _, _, _, _, _, _, _, _, _, _, _, _, _, _, _, _, _, _, _, _, _, _, _, _, _, _, _, _, _, _], rfl⟩⟩
      show K.step n = _
      rw [HK.out]
      rfl
    · obtain rfl : n = 16 := by omega
      go_wp2
      go_loopw [48] (fun i wr => ∃ j : Nat, j ≤ 8 ∧ i = .int .i64 j ∧ Below w.heap.size w wr ∧ Hid (Blk wr w.heap.size 31 (plusCells K j)) ∧ Hid (Blk wr (w.heap.size + 1) 31 zeros8)) (fun i _ => 8 - (intOf i).toNat)
      case atStart => exact ⟨0, Nat.zero_le _, rfl, hb, HB1, HB2⟩
      case round =>
        obtain ⟨j, hj, rfl, hbr, HC, HD⟩ := hrel
        by_cases hlt2 : j < 8
        · have hcj : wr.cell? ⟨w.heap.size, j, none⟩ = some (u32v (K.get j)) := by rw [HC.out.cell]; exact plusCells_at _ _ hlt2
          have hfj : wr.frozen? ⟨w.heap.size, j, none⟩ = false := HC.out.frozen _
          go_wp2
          have ev : (W (K.get j) + ((j : Int) + 1)) % 4294967296 = W (K.get j + UInt32.ofNat (j + 1)) := by
            rw [← W_add', show W (UInt32.ofNat (j + 1)) = (j : Int) + 1 from by unfold W; rw [UInt32.toNat_ofNat']; omega]
          rw [ev]
          have hB := HC.out.set_ j (u32v (K.get j + UInt32.ofNat (j + 1)))
          rw [plusCells_set _ _ hlt2] at hB
          go_roundw
          case rel => exact ⟨j + 1, hlt2, by go_num, hbr.setCell (Nat.le_refl _) _, hB, HD.out.far (by show w.heap.size + 1 ≠ w.heap.size; omega) _⟩
          case measure => simp [intOf]; omega
        · obtain rfl : j = 8 := by omega
          have hB := HC.out
          rw [plusCells_all] at hB
          have c0 := hB.cell 0
          have c1 := hB.cell 1
          have c2 := hB.cell 2
          have c3 := hB.cell 3
          have c4 := hB.cell 4
          have c5 := hB.cell 5
          have c6 := hB.cell 6
          have c7 := hB.cell 7
          have z0 : wr.cell? ⟨w.heap.size + 1, 0, none⟩ = some (.int .u32 0) := HD.out.cell 0
          have z1 : wr.cell? ⟨w.heap.size + 1, 1, none⟩ = some (.int .u32 0) := HD.out.cell 1
          have z2 : wr.cell? ⟨w.heap.size + 1, 2, none⟩ = some (.int .u32 0) := HD.out.cell 2
          have z3 : wr.cell? ⟨w.heap.size + 1, 3, none⟩ = some (.int .u32 0) := HD.out.cell 3
          have z4 : wr.cell? ⟨w.heap.size + 1, 4, none⟩ = some (.int .u32 0) := HD.out.cell 4
          have z5 : wr.cell? ⟨w.heap.size + 1, 5, none⟩ = some (.int .u32 0) := HD.out.cell 5
          have z6 : wr.cell? ⟨w.heap.size + 1, 6, none⟩ = some (.int .u32 0) := HD.out.cell 6
          have z7 : wr.cell? ⟨w.heap.size + 1, 7, none⟩ = some (.int .u32 0) := HD.out.cell 7
          have zf := HD.out.frozen
          clear HC hB
          go_wp2
          refine jump_ret ?_
          have hk : PL.mix k = K.plus := by unfold PL.mix; rw [← HK.out]
          exact bodyPost_ret (v := .agg (keyCells K.plus)) (by simp [results, Try.results15, go_sem, z0, z1, z2, z3, z4, z5, z6, z7]) rfl
            ⟨by rw [hk], (((((((hbr.setCell (Nat.le_succ _) _).setCell (Nat.le_succ _) _).setCell (Nat.le_succ _) _).setCell (Nat.le_succ _) _).setCell (Nat.le_succ _) _).setCell (Nat.le_succ _) _).setCell (Nat.le_succ _) _).setCell (Nat.le_succ _) _⟩
end Go.Proofs.Ytobbjhbjjhnicaa
