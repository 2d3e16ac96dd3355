/- The walk of lane.Stream. -/
import Derived.Test.YtobbjhbjjhnicaaOf
import Derived.Test.YtobbjhbjjhnicaaLies
import Derived.Test.YtobbjhbjjhnicaaPlainLane
import Derived.Test.YtobbjhbjjhnicaaNumPut
namespace Go.Proofs.Ytobbjhbjjhnicaa
open Go.RowKit
set_option linter.unusedVariables false
theorem blk_bytes4 (w : World) (t : TypeId) (x y z u : UInt8) : Bytes (w.alloc (.cells #[u8v x, u8v y, u8v z, u8v u] t)) (w.heap.size + 1) (some ⟨w.heap.size, 0, none⟩) 4 [x, y, z, u] := by
  refine ⟨rfl, fun _ => ⟨w.heap.size, 0, rfl, Nat.lt_succ_self _, fun i c hi => ?_⟩⟩
  rw [Nat.zero_add, (Blk.new w t _).cell i]
  match i, hi with
  | 0, hi => simp at hi; subst hi; rfl
  | 1, hi => simp at hi; subst hi; rfl
  | 2, hi => simp at hi; subst hi; rfl
  | 3, hi => simp at hi; subst hi; rfl
theorem ix_key0 (k : PL.K8) (w : World) : (Instr.index 31 (.agg (keyCells k)) (.int .i64 0)).run Try.prog w = .ok (u32v k.k0) w := by kernel_rfl
theorem ix_key1 (k : PL.K8) (w : World) : (Instr.index 31 (.agg (keyCells k)) (.int .i64 1)).run Try.prog w = .ok (u32v k.k1) w := by kernel_rfl
theorem ix_key2 (k : PL.K8) (w : World) : (Instr.index 31 (.agg (keyCells k)) (.int .i64 2)).run Try.prog w = .ok (u32v k.k2) w := by kernel_rfl
theorem ix_key3 (k : PL.K8) (w : World) : (Instr.index 31 (.agg (keyCells k)) (.int .i64 3)).run Try.prog w = .ok (u32v k.k3) w := by kernel_rfl
theorem ix_key4 (k : PL.K8) (w : World) : (Instr.index 31 (.agg (keyCells k)) (.int .i64 4)).run Try.prog w = .ok (u32v k.k4) w := by kernel_rfl
theorem ix_key5 (k : PL.K8) (w : World) : (Instr.index 31 (.agg (keyCells k)) (.int .i64 5)).run Try.prog w = .ok (u32v k.k5) w := by kernel_rfl
theorem ix_key6 (k : PL.K8) (w : World) : (Instr.index 31 (.agg (keyCells k)) (.int .i64 6)).run Try.prog w = .ok (u32v k.k6) w := by kernel_rfl
theorem ix_key7 (k : PL.K8) (w : World) : (Instr.index 31 (.agg (keyCells k)) (.int .i64 7)).run Try.prog w = .ok (u32v k.k7) w := by kernel_rfl
theorem ix_key (k : PL.K8) (i : Nat) (h : i < 8) (w : World) : (Instr.index 31 (.agg (keyCells k)) (.int .i64 (i : Int))).run Try.prog w = .ok (u32v (k.get i)) w := by
  match i, h with
  | 0, _ => exact ix_key0 k w
  | 1, _ => exact ix_key1 k w
  | 2, _ => exact ix_key2 k w
  | 3, _ => exact ix_key3 k w
  | 4, _ => exact ix_key4 k w
  | 5, _ => exact ix_key5 k w
  | 6, _ => exact ix_key6 k w
  | 7, _ => exact ix_key7 k w
theorem key_loads {w' : World} {H t : Nat} {k : PL.K8} (h : Blk w' H t (keyCells k)) : w'.cell? ⟨H, 0, none⟩ = some (u32v k.k0) ∧ w'.cell? ⟨H, 1, none⟩ = some (u32v k.k1) ∧ w'.cell? ⟨H, 2, none⟩ = some (u32v k.k2) ∧ w'.cell? ⟨H, 3, none⟩ = some (u32v k.k3) ∧
    w'.cell? ⟨H, 4, none⟩ = some (u32v k.k4) ∧ w'.cell? ⟨H, 5, none⟩ = some (u32v k.k5) ∧ w'.cell? ⟨H, 6, none⟩ = some (u32v k.k6) ∧ w'.cell? ⟨H, 7, none⟩ = some (u32v k.k7) :=
  ⟨h.cell 0, h.cell 1, h.cell 2, h.cell 3, h.cell 4, h.cell 5, h.cell 6, h.cell 7⟩
theorem Own.lt_base {w : World} {base : Nat} {e : TypeId} {v : Value} {l : List UInt8} (h : Own e w base v l) : ∀ g, v.ownBlock = some g → base ≤ g := fun g hg => (World.ownsRow.lt h g hg).1
theorem W_next (c : Nat) (h : c ≤ 10000) : (W (UInt32.ofNat c) + 1) % 4294967296 = W (UInt32.ofNat (c + 1)) := by
  unfold W
  rw [UInt32.toNat_ofNat', UInt32.toNat_ofNat']
  omega
/-- What lane.Stream gives: bytes of their own. -/
def Streamed (w : World) (n : Nat) (l : List UInt8) (e : Ending) (w' : World) : Prop := ∃ g, e = .returned (.slice (some ⟨g, 0, none⟩) n n) ∧ w.heap.size ≤ g ∧ Lies w' g l ∧ Below w.heap.size w w'
theorem stream_bad (k : PL.K8) (p n : Int) (w : World) (hn : n < 0) :
    Calls Try.prog 17 #[.agg (keyCells k), .int .i64 p, .int .i64 n] w fun e w' => e = .returned (.slice none 0 0) ∧ Below w.heap.size w w' := by
  go_enter Try.func17, Try.ntmps17
  go_wp2
  refine wp_scope_back 0 (fun m a' w' => False) rfl ?_ ?_
  · intro HL
    go_wp2
    refine jump_ret ?_
    go_ret
    exact ⟨rfl, (Below.refl _ _).alloc (Nat.le_refl _) _⟩
  · intro m a' w' h
    exact h.elim
set_option maxRecDepth 100000 in
set_option maxHeartbeats 4000000 in
theorem stream_any (k : PL.K8) (p : Int) (n : Nat) (w : World) (hn : n ≤ 100000) :
    Calls Try.prog 17 #[.agg (keyCells k), .int .i64 p, .int .i64 (n : Int)] w (Streamed w n (PL.stream k (placeWord p) n)) := by
  go_enter Try.func17, Try.ntmps17
  go_wp2
  refine wp_scope_back 0 (fun z a' w' => ∃ (c g m q : Nat), z = n + 32 - 32 * c ∧ 32 * c < n + 32 ∧ m = 32 * c ∧ Hid (Own 5 w' (w.heap.size + 1) (.slice (some ⟨g, 0, none⟩) m q) (PL.groups k (placeWord p) c)) ∧ Hid (Blk w' w.heap.size 31 (keyCells k)) ∧ Below w.heap.size w w' ∧ ∃ u : Nat → Value, a' = ⟨#[u 0, .int .i64 p, .int .i64 (n : Int), .pointer (some ⟨w.heap.size, 0, none⟩), u 4, u 5, .slice none 0 0, .slice (some ⟨g, 0, none⟩) m q, u32v (UInt32.ofNat c), u 9, u 10, u 11, u 12, u 13, u 14, u 15, u 16, u 17, u 18, u 19, u 20, u 21, u 22, u 23, u 24, u 25, u 26, u 27, u 28, u 29, u 30, u 31, u 32, u 33, u 34, u 35, u 36, u 37, u 38, u 39, u 40, u 41, u 42, u 43, u 44, u 45, u 46, u 47, u 48, u 49, u 50, u 51, u 52, u 53, u 54, u 55, u 56, u 57, u 58, u 59, u 60, u 61, u 62, u 63, u 64, u 65, u 66, u 67, u 68, u 69], []⟩) rfl ?_ ?_
  · intro HL
    have hmk : (Instr.makeSlice 30 (.int .i64 0) (.int .i64 ((n : Int) + 32))).run Try.prog (w.alloc (Obj.cells (keyCells k) 31)) = .ok (.slice (some ⟨w.heap.size + 1, 0, none⟩) 0 (n + 32)) ((w.alloc (Obj.cells (keyCells k) 31)).alloc (.cells (zeroRow (n + 32)) 5)) := by
      have h := run_make_bytes row_u8 (w.alloc (Obj.cells (keyCells k) 31)) 0 (n + 32) .i64 .i64 (by omega) (by omega)
      rw [World.size_alloc] at h
      exact h
    have hO := own_made (w.alloc (Obj.cells (keyCells k) 31)) 5 (n + 32) (by omega)
    rw [World.size_alloc] at hO
    have HO := Lib.hid hO
    clear hO
    have HB := Lib.hid ((Blk.new w 31 (keyCells k)).alloc (Obj.cells (zeroRow (n + 32)) 5))
    have hW : Below w.heap.size w ((w.alloc (Obj.cells (keyCells k) 31)).alloc (Obj.cells (zeroRow (n + 32)) 5)) := ((Below.refl _ _).alloc (Nat.le_refl _) _).alloc (by simp) _
    go_wp2
    go_step3
    go_step
    go_step
    exact HL.out _ _ _ ⟨0, w.heap.size + 1, 0, n + 32, rfl, by omega, rfl, HO, HB, hW, ⟨slot [_, undef, undef, undef, _, _, undef, undef, undef, _, _, _, _, _, _, _, _, _, _, _, _, _, _, _, _, _, _, _, _, _, _, _, _, _, _, _, _, _, _, _, _, _, _, _, _, _, _, _, _, _, _, _, _, _, _, _, _, _, _, _, _, _, _, _, _, _, _, _, _, _], rfl⟩⟩
  · rintro z a' w' ⟨c, g, m, q, rfl, hc, rfl, HO, HB, hW, ⟨u, rfl⟩⟩
    by_cases hlt : n ≤ 32 * c
    · obtain ⟨hL, hlen, hgb, hq⟩ := HO.out.lies
      have h3 := run_three_at (t := 30) row_u8 (some ⟨g, 0, none⟩) (32 * c) q n (by omega)
      have ht : ((32 * c : Nat) : Int) ≥ (n : Int) := by omega
      have hL2 := hL.take n
      rw [PL.stream_eq k (placeWord p) hlt] at hL2
      have HL2 := Lib.hid hL2
      clear hL2 hL
      go_wp2
      refine jump_ret ?_
      go_ret
      exact ⟨g, rfl, by omega, HL2.out, hW⟩
    · have hle := hW.size
      have ht : ¬ (((32 * c : Nat) : Int) ≥ (n : Int)) := by omega
      obtain ⟨c0, c1, c2, c3, c4, c5, c6, c7⟩ := key_loads HB.out
      have ep := W_place
      have ex := W_xor
      go_wp2_with fail
      have hA0 := Lib.hid (Blk.new w' 31 (keyCells (k.over (placeWord p) (UInt32.ofNat c))))
      have HB0 := Lib.hid (HB.out.alloc (Obj.cells (keyCells (k.over (placeWord p) (UInt32.ofNat c))) 31))
      have HO0 := Lib.hid (HO.out.alloc (Obj.cells (keyCells (k.over (placeWord p) (UInt32.ofNat c))) 31))
      have hW0 := hW.alloc hW.size (Obj.cells (keyCells (k.over (placeWord p) (UInt32.ofNat c))) 31)
      refine (mix_any (k.over (placeWord p) (UInt32.ofNat c)) _).mono ?_
      rintro e w1 ⟨rfl, hb1⟩
      have hlt9 := hA0.out.lt
      have hA1 := hA0.out.below hb1 hlt9
      have hBl := HB.out.lt
      have HB1 := Lib.hid (HB0.out.below hb1 HB0.out.lt)
      have HO1 := Lib.hid (HO0.out.below hb1 HO0.out.lt)
      have hOl : ∀ g', some g = some g' → g' < w'.heap.size := HO.out.lt
      have hgl : g < w'.heap.size := hOl g rfl
      have hW1 := hW0.trans (hb1.mono hW0.size)
      have hne9 : w.heap.size ≠ w'.heap.size := by omega
      have hneg : g ≠ w'.heap.size := by omega
      clear hA0 HB0 HO0 hW0 hb1 c0 c1 c2 c3 c4 c5 c6 c7 HB HO hOl
      obtain ⟨M, hM⟩ : ∃ M, M = PL.mix (k.over (placeWord p) (UInt32.ofNat c)) := ⟨_, rfl⟩
      rw [← hM]
      have HM := Lib.hid hM
      clear hM
      go_wp2_with (refine wpList_store_blk rfl 31 (.tmp 9) (.tmp 42) rfl w'.heap.size (keyCells M) rfl rfl 31 _ hA1 rfl (by kernel_rfl) (key_one _) ?_; intro w2 hB2 hg2 hs2; obtain ⟨m0, m1, m2, m3, m4, m5, m6, m7⟩ := key_loads hB2)
      have HB2 := Lib.hid (HB1.out.grown hg2 (by simpa using hne9))
      have HO2 : Hid (Own 5 w2 (w.heap.size + 1) (.slice (some ⟨g, 0, none⟩) (32 * c) q) (PL.groups k (placeWord p) c)) := World.ownsRow.kept HO1.out hg2 (.inr (by simpa [Value.ownBlock] using hneg))
      have hW2 := hW1.grown hg2 hW1.size (by intro g' hg'; injection hg' with hg'; omega)
      clear hB2 hg2 hs2 hA1 HB1 HO1 hW1 m0 m1 m2 m3 m4 m5 m6 m7
      clear ep ex
      have hix := ix_key M
      go_loopw [7, 44] (fun v i wr => ∃ (j : Nat), j ≤ 8 ∧ i = .int .i64 j ∧ Hid (Own 5 wr (w.heap.size + 1) v (PL.groups k (placeWord p) c ++ PL.wordsTo M k j)) ∧ Hid (Blk wr w.heap.size 31 (keyCells k)) ∧ Below w.heap.size w wr) (fun _ i _ => 8 - (intOf i).toNat)
      case atStart => exact ⟨0, Nat.zero_le _, rfl, by rw [PL.wordsTo, List.append_nil]; exact HO2, HB2, hW2⟩
      case round =>
        obtain ⟨j, hj, rfl, HO, HB, hW⟩ := hrel
        have hlen : (PL.groups k (placeWord p) c ++ PL.wordsTo M k j).length = 32 * c + 4 * j := by rw [List.length_append, PL.groups_len, PL.wordsTo_len]
        have HLn := Lib.hid hlen
        clear hlen
        have hsz := hW.size
        by_cases hlt2 : j < 8
        · have hixj := hix j hlt2
          clear hix
          have hcj : wr.cell? ⟨w.heap.size, j, none⟩ = some (u32v (k.get j)) := by rw [HB.out.cell]; exact keyCells_get _ _ hlt2
          obtain ⟨s, hs⟩ : ∃ s, s = M.get j + k.get j := ⟨_, rfl⟩
          have ea : (W (M.get j) + W (k.get j)) % 4294967296 = W s := by rw [hs]; exact W_add' _ _
          have HS := Lib.hid hs
          clear hs
          have HX : Hid (Bytes (wr.alloc (.cells #[.int .u8 (W s % 256), .int .u8 (W s / 256 % 256), .int .u8 (W s / 65536 % 256), .int .u8 (W s / 16777216)] 5)) (wr.heap.size + 1) (some ⟨wr.heap.size, 0, none⟩) 4 (PL.four s)) := by
            show Bytes _ _ _ _ _
            rw [show W s / 16777216 = W s / 16777216 % 256 from by have := W_bd s; omega, W_byte0, W_byte1, W_byte2, W_byte3]
            exact blk_bytes4 wr _ _ _ _ _
          go_wp2_with (refine wpList_of_wp rfl (fun K hK => wp_append_bytes (.tmp 53) (.tmp 65) 30 row_u8 rfl (PL.four s) rfl (HO.out.alloc _) (wr.heap.size + 1) (some ⟨wr.heap.size, 0, none⟩) 4 4 rfl HX.out (fun h => by cases h) (by rw [HLn.out]; omega) (by rw [World.size_alloc]; have := HB.out.lt; omega) ?_); intro v1 w3 hO3 hg3 hd3; refine hK _ _ ?_; clear hK K)
          go_roundw
          case rel =>
            refine ⟨j + 1, hlt2, by go_num, ?_, ?_, ?_⟩
            · show Own _ _ _ _ _
              have e : PL.groups k (placeWord p) c ++ PL.wordsTo M k (j + 1) = (PL.groups k (placeWord p) c ++ PL.wordsTo M k j) ++ PL.four s := by rw [PL.wordsTo, HS.out, List.append_assoc]
              rw [e]
              exact hO3
            · exact (HB.out.alloc _).grown hg3 (by intro h; have := HO.out.lt_base _ h.symm; omega)
            · exact (hW.alloc hW.size _).grown hg3 (by rw [World.size_alloc]; omega) (by intro g' hg'; have := HO.out.lt_base _ hg'; omega)
          case measure => simp [intOf]; omega
        · obtain rfl : j = 8 := by omega
          obtain ⟨g2, q2, hv, hgb, hgl2⟩ := World.ownsRow.form HO.out (by rw [HLn.out]; omega)
          rw [HLn.out] at hv
          have HNx := Lib.hid (W_next c (by omega))
          have HO3 : Hid (Own 5 wr (w.heap.size + 1) (.slice (some ⟨g2, 0, none⟩) (32 * c + 4 * 8) q2) (PL.groups k (placeWord p) (c + 1))) := by
            show Own _ _ _ _ _
            rw [← hv, PL.groups, ← HM.out]
            exact HO.out
          clear HO hix
          subst hv
          go_wp2
          go_step3
          rw [HNx.out]
          refine jump_back (m' := n + 32 - 32 * (c + 1)) ?_ ?_
          · omega
          exact ⟨c + 1, g2, 32 * c + 4 * 8, q2, rfl, by omega, by omega, HO3, HB, hW, ⟨slot [_, undef, undef, undef, _, _, undef, undef, undef, _, _, _, _, _, _, _, _, _, _, _, _, _, _, _, _, _, _, _, _, _, _, _, _, _, _, _, _, _, _, _, _, _, _, _, _, _, _, _, _, _, _, _, _, _, _, _, _, _, _, _, _, _, _, _, _, _, _, _, _, _], rfl⟩⟩
end Go.Proofs.Ytobbjhbjjhnicaa
