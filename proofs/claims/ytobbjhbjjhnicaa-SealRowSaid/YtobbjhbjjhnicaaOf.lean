/- The walk of tag.Of: the eight bytes of the two sums. -/
import Derived.Test.YtobbjhbjjhnicaaSum
import Derived.Test.YtobbjhbjjhnicaaMix
namespace Go.Proofs.Ytobbjhbjjhnicaa
open Go.RowKit
/-- A place as a word: its lowest 32 bits. -/
def placeWord (p : Int) : UInt32 := UInt32.ofNat (p % 4294967296).toNat
def K8x (k : PL.K8) (p : UInt32) : PL.K8 := { k with k2 := k.k2 ^^^ p }
theorem W_place (p : Int) : p % 4294967296 = W (placeWord p) := by
  unfold placeWord
  rw [W_of _ (by omega)]
def sumW (r s : UInt32) (l : List UInt8) : UInt32 := UInt32.ofNat (PL.sumOf r.toNat s.toNat l)
theorem W_sum (r s : UInt32) (l : List UInt8) : ((PL.sumOf (W r).toNat (W s).toNat l : Nat) : Int) = W (sumW r s l) := by
  have h := PL.sumOf_lt r.toNat s.toNat l
  unfold sumW W
  rw [UInt32.toNat_ofNat']
  simp only [Int.toNat_natCast]
  simp only [PL.Prm] at h
  omega
/-- Byte j of a tag: of the first sum, or of the second, the lowest first. -/
def tagByte (s0 s1 : UInt32) : Nat → UInt8
  | 0 => s0.toUInt8
  | 1 => (s0 >>> 8).toUInt8
  | 2 => (s0 >>> 16).toUInt8
  | 3 => (s0 >>> 24).toUInt8
  | 4 => s1.toUInt8
  | 5 => (s1 >>> 8).toUInt8
  | 6 => (s1 >>> 16).toUInt8
  | _ => (s1 >>> 24).toUInt8
def tagTo (s0 s1 : UInt32) (i : Nat) : Array Value :=
  #[u8v (if 0 < i then tagByte s0 s1 0 else 0), u8v (if 1 < i then tagByte s0 s1 1 else 0), u8v (if 2 < i then tagByte s0 s1 2 else 0), u8v (if 3 < i then tagByte s0 s1 3 else 0),
    u8v (if 4 < i then tagByte s0 s1 4 else 0), u8v (if 5 < i then tagByte s0 s1 5 else 0), u8v (if 6 < i then tagByte s0 s1 6 else 0), u8v (if 7 < i then tagByte s0 s1 7 else 0)]
abbrev byteCells (f : Nat → UInt8) : Array Value := #[u8v (f 0), u8v (f 1), u8v (f 2), u8v (f 3), u8v (f 4), u8v (f 5), u8v (f 6), u8v (f 7)]
theorem tagTo_all (s0 s1 : UInt32) : tagTo s0 s1 8 = byteCells (tagByte s0 s1) := rfl
theorem W_byte0 (s : UInt32) : W s % (256 : Int) = ((s.toUInt8).toNat : Int) := by
  unfold W; simp
theorem W_byte1 (s : UInt32) : W s / (256 : Int) % (256 : Int) = (((s >>> 8).toUInt8).toNat : Int) := by
  unfold W; simp [Nat.shiftRight_eq_div_pow]
theorem W_byte2 (s : UInt32) : W s / (65536 : Int) % (256 : Int) = (((s >>> 16).toUInt8).toNat : Int) := by
  unfold W; simp [Nat.shiftRight_eq_div_pow]
theorem W_byte3 (s : UInt32) : W s / (16777216 : Int) % (256 : Int) = (((s >>> 24).toUInt8).toNat : Int) := by
  unfold W; simp [Nat.shiftRight_eq_div_pow]
theorem key_one (k : PL.K8) : (keyCells k).all (·.oneCell') = true := by simp [Value.oneCell']
theorem byte_one (f : Nat → UInt8) : (byteCells f).all (·.oneCell') = true := by simp [Value.oneCell', u8v]
def tagSums (k : PL.K8) (p : Int) (l : List UInt8) : UInt32 × UInt32 :=
  (sumW (PL.mix (K8x k (placeWord p))).k0 (PL.mix (K8x k (placeWord p))).k1 l, sumW (PL.mix (K8x k (placeWord p))).k2 (PL.mix (K8x k (placeWord p))).k3 l)
def tagOf (k : PL.K8) (p : Int) (l : List UInt8) : Nat → UInt8 := tagByte (tagSums k p l).1 (tagSums k p l).2
set_option maxRecDepth 100000 in
set_option maxHeartbeats 4000000 in
theorem of_any (k : PL.K8) (p : Int) (A : Option Addr) (n c B : Nat) (l : List UInt8) (w : World) (hb : Bytes w B A n l) (hB : B ≤ w.heap.size) (hn : n ≤ 1000000000000) :
    Calls Try.prog 39 #[.agg (keyCells k), .int .i64 p, .slice A n c] w fun e w' => e = .returned (.agg (byteCells (tagOf k p l))) ∧ Below w.heap.size w w' := by
  have HB := Lib.hid hb
  clear hb
  go_enter Try.func39, Try.ntmps39
  go_wp2
  refine wp_scope_back 0 (fun m a' w' => ∃ i g h : Nat, m = 8 - i ∧ i ≤ 8 ∧ w.heap.size + 1 < g ∧ g < h ∧ Below w.heap.size w w' ∧ Hid (Blk w' g 80 #[u32v (tagSums k p l).1, u32v (tagSums k p l).2]) ∧
    Hid (Blk w' h 73 (tagTo (tagSums k p l).1 (tagSums k p l).2 i)) ∧ Hid (Blk w' (w.heap.size + 1) 73 (byteCells fun _ => 0)) ∧ ∃ u : Nat → Value, a' = ⟨#[u 0, u 1, u 2, u 3, u 4, u 5, .pointer (some ⟨w.heap.size + 1, 0, none⟩), .pointer (some ⟨g, 0, none⟩), .pointer (some ⟨h, 0, none⟩), .int .i64 (i : Int), u 10, u 11, u 12, u 13, u 14, u 15, u 16, u 17, u 18, u 19, u 20, u 21, u 22, u 23, u 24, u 25, u 26, u 27, u 28, u 29, u 30, u 31, u 32, u 33, u 34, u 35, u 36, u 37, u 38, u 39, u 40, u 41, u 42, u 43, u 44, u 45, u 46], []⟩) rfl ?_ ?_
  · intro HL
    have ep := W_place
    have ex := W_xor
    go_wp2_with fail
    have hA0 : Blk ((w.alloc (Obj.cells (keyCells (K8x k (placeWord p))) 31)).alloc (Obj.cells (byteCells fun _ => 0) 73)) w.heap.size 31 (keyCells (K8x k (placeWord p))) := (Blk.new _ _ _).alloc _
    have hR0 : Blk ((w.alloc (Obj.cells (keyCells (K8x k (placeWord p))) 31)).alloc (Obj.cells (byteCells fun _ => 0) 73)) (w.heap.size + 1) 73 (byteCells fun _ => 0) := by
      have := Blk.new (w.alloc (Obj.cells (keyCells (K8x k (placeWord p))) 31)) 73 (byteCells fun _ => 0)
      rw [World.size_alloc] at this
      exact this
    have hW0 : Below w.heap.size w ((w.alloc (Obj.cells (keyCells (K8x k (placeWord p))) 31)).alloc (Obj.cells (byteCells fun _ => 0) 73)) := ((Below.refl _ _).alloc (Nat.le_refl _) _).alloc (by simp) _
    refine (mix_any (K8x k (placeWord p)) _).mono ?_
    rintro e w1 ⟨rfl, hb1⟩
    have hA1 := hA0.below hb1 hA0.lt
    have HR1 := Lib.hid (hR0.below hb1 hR0.lt)
    have hW1 := hW0.trans (hb1.mono (by simp only [World.size_alloc]; omega))
    clear hA0 hR0 hW0 hb1
    go_wp2_with (refine wpList_store_blk rfl 31 (.tmp 3) (.tmp 17) rfl w.heap.size (keyCells (PL.mix (K8x k (placeWord p)))) rfl rfl 31 _ hA1 rfl (by kernel_rfl) (key_one _) ?_; intro w2 hB2 hg2 hs2)
    have hW2 := hW1.grown hg2 (by have := hW1.size; omega) (by intro g hg; injection hg with hg; omega)
    have HR2 := Lib.hid (HR1.out.grown hg2 (by simp))
    have HB2 := Lib.hid ((HB.out.more hB).below hW2)
    have d0 : w2.cell? ⟨w.heap.size, 0, none⟩ = some (u32v (PL.mix (K8x k (placeWord p))).k0) := hB2.cell 0
    have d1 : w2.cell? ⟨w.heap.size, 1, none⟩ = some (u32v (PL.mix (K8x k (placeWord p))).k1) := hB2.cell 1
    have d2 : w2.cell? ⟨w.heap.size, 2, none⟩ = some (u32v (PL.mix (K8x k (placeWord p))).k2) := hB2.cell 2
    have d3 : w2.cell? ⟨w.heap.size, 3, none⟩ = some (u32v (PL.mix (K8x k (placeWord p))).k3) := hB2.cell 3
    have hlt2 : w.heap.size + 1 < w2.heap.size := HR2.out.lt
    clear hA1 HR1 hW1 hg2 hs2 hB2
    have hS : (tagSums k p l).1 = sumW (PL.mix (K8x k (placeWord p))).k0 (PL.mix (K8x k (placeWord p))).k1 l ∧ (tagSums k p l).2 = sumW (PL.mix (K8x k (placeWord p))).k2 (PL.mix (K8x k (placeWord p))).k3 l := ⟨rfl, rfl⟩
    have HS := Lib.hid hS
    clear hS
    generalize PL.mix (K8x k (placeWord p)) = M at *
    refine wp_region_first (fun w' => w'.cell? ⟨w.heap.size, 0, none⟩ = some (u32v M.k0) ∧ w'.cell? ⟨w.heap.size, 1, none⟩ = some (u32v M.k1) ∧ w'.cell? ⟨w.heap.size, 2, none⟩ = some (u32v M.k2) ∧ w'.cell? ⟨w.heap.size, 3, none⟩ = some (u32v M.k3) ∧ Bytes w' w.heap.size A n l)
      13 47 [0, 1, 2, 3, 4, 5, 6, 7, 8, 9, 10, 11, 12] [13, 14] (by kernel_rfl) (by kernel_rfl) rfl (fun _ _ d _ _ h => by cases d <;> exact h) ⟨d0, d1, d2, d3, HB2.out⟩ ?_
    apply Exists.intro
    refine ⟨?hA, ?hs, ?hT⟩
    case hA =>
      rintro w' ⟨e0, e1, e2, e3, hbb⟩
      have HBB := Lib.hid hbb
      have b0 := W_bd M.k0
      have b1 := W_bd M.k1
      have b2 := W_bd M.k2
      have b3 := W_bd M.k3
      clear hbb
      iterate 5 (refine stillI_step rfl rfl (fun K hK => ?_); go_simp; refine hK _ ?_; clear hK K)
      refine stillI_step rfl rfl (fun K hK => ?_)
      go_simp
      refine ⟨_, (sum_any _ _ A n c w.heap.size l w' b0.1 b0.2 b1.1 b1.2 HBB.out hn).mono (fun _ _ h => ⟨h.1, h.2.symm⟩), hK _ ?_⟩
      clear hK K
      iterate 5 (refine stillI_step rfl rfl (fun K hK => ?_); go_simp; refine hK _ ?_; clear hK K)
      refine stillI_step rfl rfl (fun K hK => ?_)
      go_simp
      refine ⟨_, (sum_any _ _ A n c w.heap.size l w' b2.1 b2.2 b3.1 b3.2 HBB.out hn).mono (fun _ _ h => ⟨h.1, h.2.symm⟩), hK _ ?_⟩
      clear hK K
      iterate 1 (refine stillI_step rfl rfl (fun K hK => ?_); go_simp; refine hK _ ?_; clear hK K)
      exact stillI_nil rfl
    case hs => rfl
    case hT =>
      refine tail_step rfl rfl (fun K hK => ?_)
      go_wp2
      refine hK.out _ _ ⟨alloc_cell (w := w2) _ d0, alloc_cell (w := w2) _ d1, alloc_cell (w := w2) _ d2, alloc_cell (w := w2) _ d3, (HB2.out.drew).alloc (by show w.heap.size ≤ w2.heap.size; omega) _⟩ ?_
      clear hK K
      refine tail_step rfl rfl (fun K hK => ?_)
      go_wp2
      rw [W_sum, W_sum, ← HS.out.1, ← HS.out.2]
      refine hK.out _ _ ⟨alloc_cell (w := w2) _ d0, alloc_cell (w := w2) _ d1, alloc_cell (w := w2) _ d2, alloc_cell (w := w2) _ d3, (HB2.out.drew).alloc (by show w.heap.size ≤ w2.heap.size; omega) _⟩ ?_
      clear hK K
      refine tail_nil ?_
      have hG3 := Blk.new w2 80 #[u32v (tagSums k p l).1, u32v (tagSums k p l).2]
      have hR3 := HR2.out.alloc (Obj.cells #[u32v (tagSums k p l).1, u32v (tagSums k p l).2] 80)
      have hW3 := hW2.alloc (by omega) (Obj.cells #[u32v (tagSums k p l).1, u32v (tagSums k p l).2] 80)
      clear d0 d1 d2 d3 HB2 hW2 HR2
      have hsz3 : (w2.alloc (Obj.cells #[u32v (tagSums k p l).1, u32v (tagSums k p l).2] 80)).heap.size = w2.heap.size + 1 := World.size_alloc _ _
      have HG3 := Lib.hid hG3
      have HR3 := Lib.hid hR3
      have hgs : w2.heap.size < (w2.alloc (Obj.cells #[u32v (tagSums k p l).1, u32v (tagSums k p l).2] 80)).heap.size := by omega
      clear hG3 hR3 hsz3
      generalize w2.alloc (Obj.cells #[u32v (tagSums k p l).1, u32v (tagSums k p l).2] 80) = w3 at *
      generalize w2.heap.size = g at *
      go_wp2
      go_step3
      go_step
      go_step
      exact HL.out 8 _ _ ⟨0, g, w3.heap.size, rfl, Nat.zero_le _, hlt2, hgs, (hW3.alloc (Nat.le_of_lt (by omega)) _).drew, (HG3.out.alloc _).drew, (Blk.new _ _ _).drew, (HR3.out.alloc _).drew, ⟨slot [_, _, _, _, _, _, undef, undef, undef, undef, _, _, _, _, _, _, _, _, _, _, _, _, _, _, _, _, _, _, _, _, _, _, _, _, _, _, _, _, _, _, _, _, _, _, _, _, _], rfl⟩⟩
  · rintro m a' w' ⟨i, g, h, rfl, hi, hg, hgh, hbw, HG, HH, HR, ⟨u, rfl⟩⟩
    by_cases hlt : i < 8
    · have cg0 : w'.cell? ⟨g, 0, none⟩ = some (u32v (tagSums k p l).1) := HG.out.cell 0
      have cg1 : w'.cell? ⟨g, 1, none⟩ = some (u32v (tagSums k p l).2) := HG.out.cell 1
      have hfh := HH.out.frozen
      have hch := HH.out.cell
      have hi8 : i = 0 ∨ i = 1 ∨ i = 2 ∨ i = 3 ∨ i = 4 ∨ i = 5 ∨ i = 6 ∨ i = 7 := by omega
      rcases hi8 with rfl | rfl | rfl | rfl | rfl | rfl | rfl | rfl
      · have hc0 := hch 0
        simp [tagTo] at hc0
        go_wp2
        go_step3
        rw [W_byte0]
        refine jump_back (m' := 8 - 1) ?_ ?_
        · omega
        have hB := HH.out.set_ 0 (u8v (tagByte (tagSums k p l).1 (tagSums k p l).2 0))
        exact ⟨1, g, h, rfl, by omega, hg, hgh, hbw.setCell (by show w.heap.size ≤ h; omega) _, HG.out.far (by show g ≠ h; omega) _, hB, HR.out.far (by show w.heap.size + 1 ≠ h; omega) _, ⟨slot [_, _, _, _, _, _, undef, undef, undef, undef, _, _, _, _, _, _, _, _, _, _, _, _, _, _, _, _, _, _, _, _, _, _, _, _, _, _, _, _, _, _, _, _, _, _, _, _, _], rfl⟩⟩
      · have hc1 := hch 1
        simp [tagTo] at hc1
        go_wp2
        go_step3
        rw [W_byte1]
        refine jump_back (m' := 8 - 2) ?_ ?_
        · omega
        have hB := HH.out.set_ 1 (u8v (tagByte (tagSums k p l).1 (tagSums k p l).2 1))
        exact ⟨2, g, h, rfl, by omega, hg, hgh, hbw.setCell (by show w.heap.size ≤ h; omega) _, HG.out.far (by show g ≠ h; omega) _, hB, HR.out.far (by show w.heap.size + 1 ≠ h; omega) _, ⟨slot [_, _, _, _, _, _, undef, undef, undef, undef, _, _, _, _, _, _, _, _, _, _, _, _, _, _, _, _, _, _, _, _, _, _, _, _, _, _, _, _, _, _, _, _, _, _, _, _, _], rfl⟩⟩
      · have hc2 := hch 2
        simp [tagTo] at hc2
        go_wp2
        go_step3
        rw [W_byte2]
        refine jump_back (m' := 8 - 3) ?_ ?_
        · omega
        have hB := HH.out.set_ 2 (u8v (tagByte (tagSums k p l).1 (tagSums k p l).2 2))
        exact ⟨3, g, h, rfl, by omega, hg, hgh, hbw.setCell (by show w.heap.size ≤ h; omega) _, HG.out.far (by show g ≠ h; omega) _, hB, HR.out.far (by show w.heap.size + 1 ≠ h; omega) _, ⟨slot [_, _, _, _, _, _, undef, undef, undef, undef, _, _, _, _, _, _, _, _, _, _, _, _, _, _, _, _, _, _, _, _, _, _, _, _, _, _, _, _, _, _, _, _, _, _, _, _, _], rfl⟩⟩
      · have hc3 := hch 3
        simp [tagTo] at hc3
        go_wp2
        go_step3
        rw [W_byte3]
        refine jump_back (m' := 8 - 4) ?_ ?_
        · omega
        have hB := HH.out.set_ 3 (u8v (tagByte (tagSums k p l).1 (tagSums k p l).2 3))
        exact ⟨4, g, h, rfl, by omega, hg, hgh, hbw.setCell (by show w.heap.size ≤ h; omega) _, HG.out.far (by show g ≠ h; omega) _, hB, HR.out.far (by show w.heap.size + 1 ≠ h; omega) _, ⟨slot [_, _, _, _, _, _, undef, undef, undef, undef, _, _, _, _, _, _, _, _, _, _, _, _, _, _, _, _, _, _, _, _, _, _, _, _, _, _, _, _, _, _, _, _, _, _, _, _, _], rfl⟩⟩
      · have hc4 := hch 4
        simp [tagTo] at hc4
        go_wp2
        go_step3
        rw [W_byte0]
        refine jump_back (m' := 8 - 5) ?_ ?_
        · omega
        have hB := HH.out.set_ 4 (u8v (tagByte (tagSums k p l).1 (tagSums k p l).2 4))
        exact ⟨5, g, h, rfl, by omega, hg, hgh, hbw.setCell (by show w.heap.size ≤ h; omega) _, HG.out.far (by show g ≠ h; omega) _, hB, HR.out.far (by show w.heap.size + 1 ≠ h; omega) _, ⟨slot [_, _, _, _, _, _, undef, undef, undef, undef, _, _, _, _, _, _, _, _, _, _, _, _, _, _, _, _, _, _, _, _, _, _, _, _, _, _, _, _, _, _, _, _, _, _, _, _, _], rfl⟩⟩
      · have hc5 := hch 5
        simp [tagTo] at hc5
        go_wp2
        go_step3
        rw [W_byte1]
        refine jump_back (m' := 8 - 6) ?_ ?_
        · omega
        have hB := HH.out.set_ 5 (u8v (tagByte (tagSums k p l).1 (tagSums k p l).2 5))
        exact ⟨6, g, h, rfl, by omega, hg, hgh, hbw.setCell (by show w.heap.size ≤ h; omega) _, HG.out.far (by show g ≠ h; omega) _, hB, HR.out.far (by show w.heap.size + 1 ≠ h; omega) _, ⟨slot [_, _, _, _, _, _, undef, undef, undef, undef, _, _, _, _, _, _, _, _, _, _, _, _, _, _, _, _, _, _, _, _, _, _, _, _, _, _, _, _, _, _, _, _, _, _, _, _, _], rfl⟩⟩
      · have hc6 := hch 6
        simp [tagTo] at hc6
        go_wp2
        go_step3
        rw [W_byte2]
        refine jump_back (m' := 8 - 7) ?_ ?_
        · omega
        have hB := HH.out.set_ 6 (u8v (tagByte (tagSums k p l).1 (tagSums k p l).2 6))
        exact ⟨7, g, h, rfl, by omega, hg, hgh, hbw.setCell (by show w.heap.size ≤ h; omega) _, HG.out.far (by show g ≠ h; omega) _, hB, HR.out.far (by show w.heap.size + 1 ≠ h; omega) _, ⟨slot [_, _, _, _, _, _, undef, undef, undef, undef, _, _, _, _, _, _, _, _, _, _, _, _, _, _, _, _, _, _, _, _, _, _, _, _, _, _, _, _, _, _, _, _, _, _, _, _, _], rfl⟩⟩
      · have hc7 := hch 7
        simp [tagTo] at hc7
        go_wp2
        go_step3
        rw [W_byte3]
        refine jump_back (m' := 8 - 8) ?_ ?_
        · omega
        have hB := HH.out.set_ 7 (u8v (tagByte (tagSums k p l).1 (tagSums k p l).2 7))
        exact ⟨8, g, h, rfl, by omega, hg, hgh, hbw.setCell (by show w.heap.size ≤ h; omega) _, HG.out.far (by show g ≠ h; omega) _, hB, HR.out.far (by show w.heap.size + 1 ≠ h; omega) _, ⟨slot [_, _, _, _, _, _, undef, undef, undef, undef, _, _, _, _, _, _, _, _, _, _, _, _, _, _, _, _, _, _, _, _, _, _, _, _, _, _, _, _, _, _, _, _, _, _, _, _, _], rfl⟩⟩
    · obtain rfl : i = 8 := by omega
      have hH := HH.out
      rw [tagTo_all] at hH
      go_wp2_with (first
        | (refine wpList_load_row rfl 73 (.tmp 8) rfl h rfl 73 _ (0, 0) _ hH Try.underlying73 rfl (by kernel_rfl) ?_)
        | (refine wpList_store_blk rfl 73 (.tmp 6) (.tmp 33) rfl (w.heap.size + 1) (byteCells (tagByte (tagSums k p l).1 (tagSums k p l).2)) rfl rfl 73 _ HR.out rfl (by kernel_rfl) (byte_one _) ?_; intro w2 hB2 hg2 hs2))
      refine jump_ret ?_
      exact bodyPost_ret (results_cell_row rfl _ _ (w.heap.size + 1) 73 _ (0, 0) _ rfl hB2 Try.underlying73 rfl (by kernel_rfl)) rfl ⟨rfl, hbw.grown hg2 (by have := hbw.size; omega) (by intro g hg; injection hg with hg; omega)⟩
end Go.Proofs.Ytobbjhbjjhnicaa
