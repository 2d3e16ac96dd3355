/- The walk of steamerlaw14.told: it returns true. -/
import Derived.Test.YtobbjhbjjhnicaaXor
import Derived.Test.YtobbjhbjjhnicaaBack
import Derived.Test.YtobbjhbjjhnicaaKeyEq
namespace Go.Proofs.Ytobbjhbjjhnicaa
open Go.RowKit
set_option linter.unusedVariables false
namespace T14
theorem q1 (w : World) : Calls Try.prog 12 #[.int .u32 286331153, .int .u32 16909060, .int .u32 2609737539, .int .u32 19088743] w fun e w' => e = .returned (.tuple #[.int .u32 3928658676, .int .u32 3407673550, .int .u32 1166100270, .int .u32 1484899515]) ∧ w = w' := by
  have h := quarter_any 286331153 16909060 2609737539 19088743 w
  have e : PL.quarter 286331153 16909060 2609737539 19088743 = (3928658676, 3407673550, 1166100270, 1484899515) := by decide +kernel
  rw [e] at h
  exact h
def K : PL.K8 := ⟨1, 2, 3, 0, 0, 0, 0, 0⟩
end T14
set_option maxRecDepth 100000 in
set_option maxHeartbeats 4000000 in
theorem told14 (w : World) : Calls Try.prog 13 #[] w fun e w' => e = .returned (.bool true) ∧ Below w.heap.size w w' := by
  go_enter Try.func13, Try.ntmps13
  go_wp2_with fail
  refine (T14.q1 _).mono ?_
  rintro e w' ⟨rfl, rfl⟩
  go_wp2
  have e0 : w.alloc (Obj.cells #[.int .u32 1, .int .u32 2, .int .u32 3, .int .u32 0, .int .u32 0, .int .u32 0, .int .u32 0, .int .u32 0] 31) = (w.alloc (Obj.cells (keyCells T14.K) 31)) := rfl
  have HS := Lib.hid (Blk.new w 31 (keyCells T14.K))
  have hb : Below w.heap.size w (w.alloc (Obj.cells (keyCells T14.K) 31)) := (Below.refl _ _).alloc (Nat.le_refl _) _
  rw [e0]
  clear e0
  generalize w.alloc (Obj.cells (keyCells T14.K) 31) = w1 at *
  refine wp_region_seq (fun w' => Blk w' w.heap.size 31 (keyCells T14.K)) [(true, 0), (true, 1), (true, 2), (true, 3), (true, 4), (true, 5), (true, 6), (true, 7), (true, 8), (true, 9), (true, 10), (true, 11), (true, 12), (true, 13), (true, 14), (false, 15), (false, 18), (true, 16), (true, 17), (true, 19), (true, 20), (true, 21), (true, 22), (true, 23), (true, 24), (true, 25), (true, 26), (true, 27), (true, 28), (true, 29), (true, 30), (true, 31), (true, 32), (true, 33), (true, 34), (true, 35), (true, 36), (true, 37), (true, 38), (true, 39)]
    (by kernel_rfl) (by kernel_rfl) (fun _ _ d _ _ h => by cases d <;> exact h) HS.out ?_
  have HS1 : Hid (Blk w1.drew w.heap.size 31 (keyCells T14.K)) := HS
  have hb1 := hb.drew
  clear HS hb
  generalize w1.drew = w2 at *
  iterate 15 (refine plan_force rfl rfl (fun K hK => ?_); go_wp2; refine hK.out _ _ HS1.out ?_; clear hK K)
  iterate 2 (apply plan_take rfl rfl rfl rfl; (intro w' hS K hK; obtain ⟨c0, c1, c2, c3, c4, c5, c6, c7⟩ := key_loads hS; go_simp; exact hK))
  refine plan_force rfl rfl (fun K hK => ?_)
  go_wp2_with fail
  refine (mix_any T14.K _).mono ?_
  rintro e w3 ⟨rfl, hb3⟩
  have HS3 := Lib.hid (HS1.out.below hb3 HS1.out.lt)
  have hW3 := hb1.trans (hb3.mono hb1.size)
  clear HS1 hb1 hb3
  go_wp2
  refine hK.out _ _ HS3.out ?_; clear hK K
  refine plan_force rfl rfl (fun K hK => ?_)
  go_wp2_with fail
  refine (back_any (PL.mix T14.K) _).mono ?_
  rw [PL.back_mix]
  rintro e w4 ⟨rfl, hb4⟩
  have HS4 := Lib.hid (HS3.out.below hb4 HS3.out.lt)
  have hW4 := hW3.trans (hb4.mono hW3.size)
  clear HS3 hW3 hb4
  go_wp2
  refine hK.out _ _ HS4.out ?_; clear hK K
  have hek := eq_keys T14.K T14.K
  rw [(sameK_eq T14.K T14.K).2 rfl] at hek
  iterate 1 (refine plan_force rfl rfl (fun K hK => ?_); go_wp2; refine hK.out _ _ HS4.out ?_; clear hK K)
  clear hek
  iterate 2 (refine plan_force rfl rfl (fun K hK => ?_); go_wp2; refine hK.out _ _ HS4.out ?_; clear hK K)
  obtain ⟨c0, c1, c2, c3, c4, c5, c6, c7⟩ := key_loads HS4.out
  refine plan_force rfl rfl (fun K hK => ?_); go_wp2; refine hK.out _ _ HS4.out ?_; clear hK K
  clear c0 c1 c2 c3 c4 c5 c6 c7
  refine plan_force rfl rfl (fun K hK => ?_)
  go_wp2_with fail
  refine (stream_any T14.K 0 5 _ (by omega)).mono ?_
  rintro e w5 ⟨g5, rfl, hg5, _, hb5⟩
  have HS5 := Lib.hid (HS4.out.below hb5 HS4.out.lt)
  have hW5 := hW4.trans (hb5.mono hW4.size)
  clear HS4 hW4 hb5
  go_wp2
  refine hK.out _ _ HS5.out ?_; clear hK K
  iterate 4 (refine plan_force rfl rfl (fun K hK => ?_); go_wp2; refine hK.out _ _ HS5.out ?_; clear hK K)
  obtain ⟨c0, c1, c2, c3, c4, c5, c6, c7⟩ := key_loads HS5.out
  refine plan_force rfl rfl (fun K hK => ?_); go_wp2; refine hK.out _ _ HS5.out ?_; clear hK K
  clear c0 c1 c2 c3 c4 c5 c6 c7
  refine plan_force rfl rfl (fun K hK => ?_)
  go_wp2_with fail
  refine (stream_bad T14.K 0 (-1) _ (by omega)).mono ?_
  rintro e w6 ⟨rfl, hb6⟩
  have HS6 := Lib.hid (HS5.out.below hb6 HS5.out.lt)
  have hW6 := hW5.trans (hb6.mono hW5.size)
  clear HS5 hW5 hb6
  go_wp2
  refine hK.out _ _ HS6.out ?_; clear hK K
  iterate 4 (refine plan_force rfl rfl (fun K hK => ?_); go_wp2; refine hK.out _ _ HS6.out ?_; clear hK K)
  obtain ⟨c0, c1, c2, c3, c4, c5, c6, c7⟩ := key_loads HS6.out
  refine plan_force rfl rfl (fun K hK => ?_); go_wp2; refine hK.out _ _ HS6.out ?_; clear hK K
  clear c0 c1 c2 c3 c4 c5 c6 c7
  refine plan_force rfl rfl (fun K hK => ?_)
  go_wp2_with fail
  refine (xor_any T14.K 0 none 0 0 0 [] _ Bytes.empty (Nat.zero_le _) (by omega)).mono ?_
  rintro e w7 ⟨g7, rfl, hg7, _, hb7⟩
  have HS7 := Lib.hid (HS6.out.below hb7 HS6.out.lt)
  have hW7 := hW6.trans (hb7.mono hW6.size)
  clear HS6 hW6 hb7
  go_wp2
  refine hK.out _ _ HS7.out ?_; clear hK K
  iterate 4 (refine plan_force rfl rfl (fun K hK => ?_); go_wp2; refine hK.out _ _ HS7.out ?_; clear hK K)
  refine plan_nil ?_
  go_wp2
  go_ret
  exact ⟨rfl, hW7⟩
end Go.Proofs.Ytobbjhbjjhnicaa
