/- The walks of the reference's rows and Mix: the plain mix again. -/
import Derived.Test.YtobbjhbjjhnicaaKeyCells
import Derived.Test.YtobbjhbjjhnicaaRefMixRegion
namespace Go.Proofs.Ytobbjhbjjhnicaa
open Go.RowKit
set_option linter.unusedVariables false
abbrev ints4 (a b c d : Nat) : Array Value := #[.int .i64 (a : Int), .int .i64 (b : Int), .int .i64 (c : Int), .int .i64 (d : Int)]
/-- What rows leaves: a slice of four slices, from block H on. -/
def RowsAt (w : World) (H : Nat) : Prop :=
  Blk w H 3 (ints4 0 2 4 6) ∧ Blk w (H + 1) 3 (ints4 1 3 5 7) ∧ Blk w (H + 2) 3 (ints4 0 3 4 7) ∧ Blk w (H + 3) 3 (ints4 1 2 5 6) ∧
  Blk w (H + 4) 46 #[.slice (some ⟨H, 0, none⟩) 4 4, .slice (some ⟨H + 1, 0, none⟩) 4 4, .slice (some ⟨H + 2, 0, none⟩) 4 4, .slice (some ⟨H + 3, 0, none⟩) 4 4]
theorem RowsAt.below {w w' : World} {H B : Nat} (h : RowsAt w H) (hb : Below B w w') (hlt : H + 4 < B) : RowsAt w' H :=
  ⟨h.1.below hb (by omega), h.2.1.below hb (by omega), h.2.2.1.below hb (by omega), h.2.2.2.1.below hb (by omega), h.2.2.2.2.below hb hlt⟩
theorem RowsAt.slot {w : World} {H : Nat} (h : RowsAt w H) (n : Nat) : w.cell? ⟨H + 4, n % 4, none⟩ = some (.slice (some ⟨H + n % 4, 0, none⟩) 4 4) := by
  rcases PL.res4 n with e | e | e | e <;> rw [e, h.2.2.2.2.cell] <;> rfl
theorem RowsAt.row {w : World} {H : Nat} (h : RowsAt w H) (n : Nat) : Blk w (H + n % 4) 3 (ints4 (PL.row0 n) (PL.row1 n) (PL.row2 n) (PL.row3 n)) := by
  rcases PL.res4 n with e | e | e | e <;> simp only [PL.row0, PL.row1, PL.row2, PL.row3, e]
  · exact h.1
  · exact h.2.1
  · exact h.2.2.1
  · exact h.2.2.2.1
theorem rows_at (w : World) : RowsAt (((((w.alloc (.cells (ints4 0 2 4 6) 3)).alloc (.cells (ints4 1 3 5 7) 3)).alloc (.cells (ints4 0 3 4 7) 3)).alloc (.cells (ints4 1 2 5 6) 3)).alloc
    (.cells #[.slice (some ⟨w.heap.size, 0, none⟩) 4 4, .slice (some ⟨w.heap.size + 1, 0, none⟩) 4 4, .slice (some ⟨w.heap.size + 2, 0, none⟩) 4 4, .slice (some ⟨w.heap.size + 3, 0, none⟩) 4 4] 46)) w.heap.size := by
  have h0 := Blk.new w 3 (ints4 0 2 4 6)
  have h1 := Blk.new (w.alloc (.cells (ints4 0 2 4 6) 3)) 3 (ints4 1 3 5 7)
  have h2 := Blk.new ((w.alloc (.cells (ints4 0 2 4 6) 3)).alloc (.cells (ints4 1 3 5 7) 3)) 3 (ints4 0 3 4 7)
  have h3 := Blk.new (((w.alloc (.cells (ints4 0 2 4 6) 3)).alloc (.cells (ints4 1 3 5 7) 3)).alloc (.cells (ints4 0 3 4 7) 3)) 3 (ints4 1 2 5 6)
  have h4 := Blk.new ((((w.alloc (.cells (ints4 0 2 4 6) 3)).alloc (.cells (ints4 1 3 5 7) 3)).alloc (.cells (ints4 0 3 4 7) 3)).alloc (.cells (ints4 1 2 5 6) 3)) 46
    #[.slice (some ⟨w.heap.size, 0, none⟩) 4 4, .slice (some ⟨w.heap.size + 1, 0, none⟩) 4 4, .slice (some ⟨w.heap.size + 2, 0, none⟩) 4 4, .slice (some ⟨w.heap.size + 3, 0, none⟩) 4 4]
  simp only [World.size_alloc] at h1 h2 h3 h4
  exact ⟨(((h0.alloc _).alloc _).alloc _).alloc _, ((h1.alloc _).alloc _).alloc _, (h2.alloc _).alloc _, h3.alloc _, h4⟩
set_option maxRecDepth 100000 in
set_option maxHeartbeats 1000000 in
theorem rows_any (w : World) :
    Calls Try.prog 36 #[] w fun e w' => e = .returned (.slice (some ⟨w.heap.size + 4, 0, none⟩) 4 4) ∧ Hid (RowsAt w' w.heap.size) ∧ Below w.heap.size w w' ∧ w.heap.size + 4 < w'.heap.size := by
  go_enter Try.func36, Try.ntmps36
  go_wp2
  go_ret
  exact ⟨rfl, rows_at w, (((((Below.refl _ _).alloc (Nat.le_refl _) _).alloc (by simp) _).alloc (by simp only [World.size_alloc]; omega) _).alloc (by simp only [World.size_alloc]; omega) _).alloc (by simp only [World.size_alloc]; omega) _, by simp only [World.size_alloc]; omega⟩
theorem key_one' (k : PL.K8) : (keyCells k).all (·.oneCell') = true := by simp [Value.oneCell']
set_option maxRecDepth 100000 in
set_option maxHeartbeats 4000000 in
theorem refMix_any (k : PL.K8) (w : World) :
    Calls Try.prog 16 #[.agg (keyCells k)] w fun e w' => e = .returned (.agg (keyCells (PL.mix k))) ∧ Below w.heap.size w w' := by
  go_enter Try.func16, Try.ntmps16
  go_wp2
  have hz := Blk.new (w.alloc (Obj.cells (keyCells k) 33)) 33 zeros8
  rw [World.size_alloc] at hz
  have HZ0 := Lib.hid hz
  clear hz
  go_loopw [3] (fun i wr => ∃ (n : Nat) (K : PL.K8), n ≤ 16 ∧ i = .int .i64 n ∧ Hid (K = PL.mixTo n k) ∧ Below w.heap.size w wr ∧ Hid (Blk wr w.heap.size 33 (keyCells K)) ∧ Hid (Blk wr (w.heap.size + 1) 33 zeros8)) (fun i _ => 16 - (intOf i).toNat)
  case atStart => exact ⟨0, k, Nat.zero_le _, rfl, rfl, ((Below.refl _ _).alloc (Nat.le_refl _) _).alloc (by simp) _, (Blk.new _ _ _).alloc _, HZ0.out⟩
  case round =>
    clear HZ0
    obtain ⟨n, K, hn, rfl, HK, hb, HB1, HB2⟩ := hrel
    by_cases hlt : n < 16
    · have hm4 : n % 4 < 4 := Nat.mod_lt _ (by decide)
      go_wp2_with (go_at_call 36; refine (rows_any _).mono ?_; rintro e w1 ⟨rfl, HR, hb1, hs1⟩; have hslot := HR.out.slot n)
      clear hslot hm4
      have hG := HR.out.row n
      have hB := HB1.out.below hb1 HB1.out.lt
      have hZ := HB2.out.below hb1 HB2.out.lt
      have hbb := hb.trans (hb1.mono hb.size)
      have hne : w.heap.size ≠ wr.heap.size + n % 4 := by have := HB1.out.lt; omega
      clear HB1 HB2 hb1 hb HR hs1
      generalize wr.heap.size + n % 4 = g at *
      obtain ⟨⟨r0, r1, r2, r3⟩, m1, m2, m3, m4, m5, m6⟩ := PL.row_facts n
      refine refMix_region w.heap.size g (PL.row0 n) (PL.row1 n) (PL.row2 n) (PL.row3 n) K.get _ _ _ _ _ _ _ _ _ _ _ _ _ _ _ _ _ _ _ _ _ _ _ _ _ _ _ _ _ _ _ _ _ _ _ _ _ _ _ _ _ _ _ _ _ _ _ _ _ _ _ _ _ _ _ _ _ _ _ _ _ _ _ _ _ _ _ _ _ w1 _ (fun _ _ d _ _ h => by cases d <;> exact h) (by omega) (by omega) (by omega) (by omega) m1 m2 m3 m4 m5 m6 hne
        (by rw [hG.cell]; rfl) (by rw [hB.cell]; exact keyCells_get _ _ r0) (hB.frozen _) (by rw [hG.cell]; rfl) (by rw [hB.cell]; exact keyCells_get _ _ r1) (hB.frozen _) (by rw [hG.cell]; rfl) (by rw [hB.cell]; exact keyCells_get _ _ r2) (hB.frozen _) (by rw [hG.cell]; rfl) (by rw [hB.cell]; exact keyCells_get _ _ r3) (hB.frozen _) ?_
      intro v15 v16 v17 v18 v19 v20 v21 v22 v23 v24 v25 v26 v27 v28 v29 v30 v31 v32 v33 v34 v35 v36 v37 v38 v39 v40 v41 v42 v43 v44 v45 v46 v47 v48 v49 v50 v51 v52 v53 v54 v55 v56
      have hB' := blk_four (n := n) (PL.quarter (K.get (PL.row0 n)) (K.get (PL.row1 n)) (K.get (PL.row2 n)) (K.get (PL.row3 n))) hB
      have hZ' := blk_four_far (n := n) (H := w.heap.size) (PL.quarter (K.get (PL.row0 n)) (K.get (PL.row1 n)) (K.get (PL.row2 n)) (K.get (PL.row3 n))) (by omega) hZ
      have hbb' := below_four (n := n) (H := w.heap.size) (PL.quarter (K.get (PL.row0 n)) (K.get (PL.row1 n)) (K.get (PL.row2 n)) (K.get (PL.row3 n))) (Nat.le_refl _) hbb
      rw [step_cells] at hB'
      have HB' := Lib.hid hB'
      have HZ' := Lib.hid hZ'
      clear hB hZ hG hbb hB' hZ' r0 r1 r2 r3 m1 m2 m3 m4 m5 m6 hne
      generalize (((w1.drew.setCell ⟨w.heap.size, PL.row0 n, none⟩ _).setCell ⟨w.heap.size, PL.row1 n, none⟩ _).setCell ⟨w.heap.size, PL.row2 n, none⟩ _).setCell ⟨w.heap.size, PL.row3 n, none⟩ _ = w3 at *
      go_wp2
      go_roundw
      case rel => exact ⟨n + 1, K.step n, hlt, by go_num, (by show K.step n = _; rw [HK.out]; rfl), hbb', HB', HZ'⟩
      case measure => simp [intOf]; omega
    · obtain rfl : n = 16 := by omega
      go_wp2
      go_loopw [5] (fun i wx => ∃ j : Nat, j ≤ 8 ∧ i = .int .i64 j ∧ Below w.heap.size w wx ∧ Hid (Blk wx w.heap.size 33 (plusCells K j)) ∧ Hid (Blk wx (w.heap.size + 1) 33 zeros8)) (fun i _ => 8 - (intOf i).toNat)
      case atStart => exact ⟨0, Nat.zero_le _, rfl, hb, HB1, HB2⟩
      case round =>
        obtain ⟨j, hj, rfl, hbr, HC, HD⟩ := hrel
        by_cases hlt2 : j < 8
        · have hcj : wr.cell? ⟨w.heap.size, j, none⟩ = some (u32v (K.get j)) := by rw [HC.out.cell]; exact plusCells_at _ _ hlt2
          have hfj : wr.frozen? ⟨w.heap.size, j, none⟩ = false := HC.out.frozen _
          go_wp2
          have ev : (W (K.get j) + (j : Int) + 1) % 4294967296 = W (K.get j + UInt32.ofNat (j + 1)) := by
            have h1 : W (UInt32.ofNat (j + 1)) = (j : Int) + 1 := by unfold W; rw [UInt32.toNat_ofNat']; omega
            rw [← W_add', h1]
            omega
          rw [ev]
          have hB := HC.out.set_ j (u32v (K.get j + UInt32.ofNat (j + 1)))
          rw [plusCells_set _ _ hlt2] at hB
          go_roundw
          case rel => exact ⟨j + 1, hlt2, by go_num, hbr.setCell (Nat.le_refl _) _, hB, HD.out.far (by show w.heap.size + 1 ≠ w.heap.size; omega) _⟩
          case measure => simp [intOf]; omega
        · obtain rfl : j = 8 := by omega
          have hB := HC.out
          rw [plusCells_all] at hB
          go_wp2_with (first
            | (refine wpList_load_row rfl 33 (.tmp 1) rfl w.heap.size rfl 33 _ (0, 0) _ hB Try.underlying33 rfl (by kernel_rfl) ?_)
            | (refine wpList_store_blk rfl 33 (.tmp 2) (.tmp 70) rfl (w.heap.size + 1) (keyCells K.plus) rfl rfl 33 _ HD.out rfl (by kernel_rfl) (key_one' _) ?_; intro w2 hB2 hg2 hs2))
          have hk : PL.mix k = K.plus := by unfold PL.mix; rw [← HK.out]
          exact bodyPost_ret (results_cell_row rfl _ _ (w.heap.size + 1) 33 _ (0, 0) _ rfl hB2 Try.underlying33 rfl (by kernel_rfl)) rfl ⟨by rw [hk], hbr.grown hg2 (by have := hbr.size; omega) (by intro g hg; injection hg with hg; omega)⟩
end Go.Proofs.Ytobbjhbjjhnicaa
