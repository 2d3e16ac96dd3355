/- The walk of LaneBack: what is mixed comes back, what is turned twice is as it was. -/
import Derived.Test.YtobbjhbjjhnicaaTold14
namespace Go.Proofs.Ytobbjhbjjhnicaa
open Go.RowKit
set_option linter.unusedVariables false
set_option maxRecDepth 100000 in
set_option maxHeartbeats 4000000 in
theorem laneBack (k : PL.K8) (p : Int) (A : Option Addr) (n c : Nat) (l : List UInt8) (w : World) (hb : Bytes w w.heap.size A n l) (hn : n ≤ 200) :
    Calls Try.prog 5 #[.agg (keyCells k), .int .i64 p, .slice A n c] w fun e w' => e = .returned (.bool true) ∧ Below w.heap.size w w' := by
  have HB := Lib.hid hb
  have HL := Lib.hid hb.len
  clear hb
  have h2 : ¬ (200 < (n : Int)) := by omega
  go_enter Try.func5, Try.ntmps5
  go_wp2
  have HK : Hid (Blk ((w.alloc (Obj.cells (keyCells k) 29)).alloc (Obj.cells (keyCells k) 31)) (w.heap.size + 1) 31 (keyCells k)) := by
    have := Blk.new (w.alloc (Obj.cells (keyCells k) 29)) 31 (keyCells k)
    rwa [World.size_alloc] at this
  have hW : Below w.heap.size w ((w.alloc (Obj.cells (keyCells k) 29)).alloc (Obj.cells (keyCells k) 31)) := ((Below.refl _ _).alloc (Nat.le_refl _) _).alloc (by simp) _
  generalize (w.alloc (Obj.cells (keyCells k) 29)).alloc (Obj.cells (keyCells k) 31) = wR at *
  have hle := hW.size
  refine wp_region_seq (fun w' => Below wR.heap.size wR w') [(true, 0), (true, 1), (false, 2), (false, 5), (true, 3), (true, 4), (true, 6), (true, 7), (true, 8), (false, 9), (false, 12), (true, 10), (true, 11), (true, 13), (true, 14), (true, 15), (false, 16), (false, 17), (false, 18), (false, 19), (false, 20), (false, 24), (false, 25), (true, 21), (true, 22), (true, 23), (true, 26), (true, 27), (true, 28)]
    (by kernel_rfl) (by kernel_rfl) (fun _ _ d _ _ h => by cases d <;> exact h) (Below.refl _ _).drew ?_
  have hS0 : Below wR.heap.size wR wR.drew := (Below.refl _ _).drew
  generalize wR.drew = w1 at *
  refine plan_force rfl rfl (fun K hK => ?_)
  go_wp2_with fail
  refine (told14 _).mono ?_
  rintro e w2 ⟨rfl, hb2⟩
  have hS2 := hS0.trans (hb2.mono hS0.size)
  clear hS0 hb2
  go_wp2
  refine hK.out _ _ hS2 ?_; clear hK K
  refine plan_force rfl rfl (fun K hK => ?_); go_wp2; refine hK.out _ _ hS2 ?_; clear hK K
  iterate 2 (apply plan_take rfl rfl rfl rfl; (intro w' hS K hK; obtain ⟨c0, c1, c2, c3, c4, c5, c6, c7⟩ := key_loads (HK.out.below hS HK.out.lt); clear hS; go_simp; exact hK))
  refine plan_force rfl rfl (fun K hK => ?_)
  go_wp2_with fail
  refine (mix_any k _).mono ?_
  rintro e w3 ⟨rfl, hb3⟩
  have hS3 := hS2.trans (hb3.mono hS2.size)
  clear hS2 hb3
  go_wp2
  refine hK.out _ _ hS3 ?_; clear hK K
  refine plan_force rfl rfl (fun K hK => ?_)
  go_wp2_with fail
  refine (back_any (PL.mix k) _).mono ?_
  rw [PL.back_mix]
  rintro e w4 ⟨rfl, hb4⟩
  have hS4 := hS3.trans (hb4.mono hS3.size)
  clear hS3 hb4
  go_wp2
  refine hK.out _ _ hS4 ?_; clear hK K
  have hek := eq_keys k k
  rw [(sameK_eq k k).2 rfl] at hek
  iterate 1 (refine plan_force rfl rfl (fun K hK => ?_); go_wp2; refine hK.out _ _ hS4 ?_; clear hK K)
  clear hek
  iterate 2 (refine plan_force rfl rfl (fun K hK => ?_); go_wp2; refine hK.out _ _ hS4 ?_; clear hK K)
  iterate 2 (apply plan_take rfl rfl rfl rfl; (intro w' hS K hK; obtain ⟨c0, c1, c2, c3, c4, c5, c6, c7⟩ := key_loads (HK.out.below hS HK.out.lt); clear hS; go_simp; exact hK))
  refine plan_force rfl rfl (fun K hK => ?_)
  go_wp2_with fail
  refine (back_any k _).mono ?_
  rintro e w5 ⟨rfl, hb5⟩
  have hS5 := hS4.trans (hb5.mono hS4.size)
  clear hS4 hb5
  go_wp2
  refine hK.out _ _ hS5 ?_; clear hK K
  refine plan_force rfl rfl (fun K hK => ?_)
  go_wp2_with fail
  refine (mix_any (PL.back k) _).mono ?_
  rw [PL.mix_back]
  rintro e w6 ⟨rfl, hb6⟩
  have hS6 := hS5.trans (hb6.mono hS5.size)
  clear hS5 hb6
  go_wp2
  refine hK.out _ _ hS6 ?_; clear hK K
  have hek := eq_keys k k
  rw [(sameK_eq k k).2 rfl] at hek
  iterate 1 (refine plan_force rfl rfl (fun K hK => ?_); go_wp2; refine hK.out _ _ hS6 ?_; clear hK K)
  clear hek
  iterate 2 (refine plan_force rfl rfl (fun K hK => ?_); go_wp2; refine hK.out _ _ hS6 ?_; clear hK K)
  have HC : Hid (∀ w', Below wR.heap.size wR w' → (convert 30 9 (.slice A n c)).run Try.prog w' = .ok (.string ⟨l.toArray⟩) w') := fun w' hS => conv_bytes conv_u8 c (((HB.out.below hW).more hle).below hS)
  iterate 7 (apply plan_take rfl rfl rfl rfl; (intro w' hS K hK; obtain ⟨c0, c1, c2, c3, c4, c5, c6, c7⟩ := key_loads (HK.out.below hS HK.out.lt); have hcv := HC.out w' hS; clear hS; go_simp; exact hK))
  refine plan_force rfl rfl (fun K hK => ?_)
  go_wp2_with fail
  refine (xor_any k p A n c wR.heap.size l _ (((HB.out.below hW).more hle).below hS6) hS6.size (by omega)).mono ?_
  rintro e w7 ⟨g7, rfl, hg7, hL7, hb7⟩
  have hS7 := hS6.trans (hb7.mono hS6.size)
  have HL7 := Lib.hid hL7
  clear hS6 hb7 hL7
  go_wp2
  refine hK.out _ _ hS7 ?_; clear hK K
  refine plan_force rfl rfl (fun K hK => ?_)
  go_wp2_with fail
  have hsl : (PL.stream k (placeWord p) n).length = l.length := by rw [PL.stream_len, HL.out]
  refine (xor_any k p (some ⟨g7, 0, none⟩) n n w7.heap.size _ _ (HL7.out.bytes (by rw [PL.xorTo_len hsl, HL.out]) HL7.out.lt) (Nat.le_refl _) (by omega)).mono ?_
  rw [PL.xorTo_twice hsl]
  clear hsl
  rintro e w8 ⟨g8, rfl, hg8, hL8, hb8⟩
  have hS8 := hS7.trans (hb8.mono hS7.size)
  have HL8 := Lib.hid hL8
  clear hS7 hb8 hL8 HL7
  go_wp2
  refine hK.out _ _ hS8 ?_; clear hK K
  have hcv : (convert 30 9 (.slice (some ⟨g8, 0, none⟩) n n)).run Try.prog w8 = .ok (.string ⟨l.toArray⟩) w8 := conv_bytes conv_u8 n (HL8.out.bytes HL.out HL8.out.lt)
  refine plan_force rfl rfl (fun K hK => ?_); go_wp2; refine hK.out _ _ hS8 ?_; clear hK K
  clear hcv
  iterate 3 (refine plan_force rfl rfl (fun K hK => ?_); go_wp2; refine hK.out _ _ hS8 ?_; clear hK K)
  refine plan_nil ?_
  go_wp2
  go_ret
  exact ⟨rfl, hW.trans (hS8.mono hle)⟩
theorem walkLaneBack (k : PL.K8) (p : Int) (A : Option Addr) (n c : Nat) (l : List UInt8) (w : World) (hp : (Lit.int .i64 p).wf = true) (hb : Bytes w w.heap.size A n l) (hc : n ≤ c) (hm : c ≤ maxLen) (hz : A = none → n = 0 ∧ c = 0) :
    Calls Try.prog 5 #[.agg (keyCells k), .int .i64 p, .slice A n c] w fun e w' => e = .returned (.bool true) ∧ Below w.heap.size w w' := by
  by_cases hn : n ≤ 200
  · exact laneBack k p A n c l w hb hn
  · have hb1 : Below w.heap.size w (w.alloc (Obj.cells (keyCells k) 29)) := (Below.refl _ _).alloc (Nat.le_refl _) _
    unfold maxLen at hm
    clear hz hb
    have h2 : 200 < (n : Int) := by omega
    go_enter Try.func5, Try.ntmps5
    go_wp2_with (go_at_call 13; refine (told14 _).mono ?_; rintro e w2 ⟨rfl, hb2⟩)
    go_ret
    exact ⟨rfl, hb1.trans (hb2.mono hb1.size)⟩
end Go.Proofs.Ytobbjhbjjhnicaa
