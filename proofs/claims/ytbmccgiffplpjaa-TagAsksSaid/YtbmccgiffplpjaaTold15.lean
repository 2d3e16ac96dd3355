/- The walk of steamerlaw15.told: it returns true. -/
import Derived.Test.YtbmccgiffplpjaaSame
namespace Go.Proofs.Ytbmccgiffplpjaa
open Go.RowKit
namespace T15
theorem s1 (w : World) : Calls Try.prog 14 #[.int .u32 0, .int .u32 0, .slice none 0 0] w fun e w' => e = .returned (.int .u32 0) ∧ w = w' := by
  have h := sum_any 0 0 none 0 0 0 [] w (by omega) (by omega) (by omega) (by omega) Bytes.empty (by omega)
  have e : PL.sumOf (0 : Int).toNat (0 : Int).toNat [] = 0 := by decide
  rw [e] at h
  exact h
theorem s2 (w : World) : Calls Try.prog 14 #[.int .u32 0, .int .u32 5, .slice none 0 0] w fun e w' => e = .returned (.int .u32 5) ∧ w = w' := by
  have h := sum_any 0 5 none 0 0 0 [] w (by omega) (by omega) (by omega) (by omega) Bytes.empty (by omega)
  have e : PL.sumOf (0 : Int).toNat (5 : Int).toNat [] = 5 := by decide
  rw [e] at h
  exact h
theorem s3 (A : Option Addr) (B c : Nat) (w : World) (hb : Bytes w B A 1 [9]) : Calls Try.prog 14 #[.int .u32 1, .int .u32 0, .slice A 1 c] w fun e w' => e = .returned (.int .u32 21) ∧ w = w' := by
  have h := sum_any 1 0 A 1 c B [9] w (by omega) (by omega) (by omega) (by omega) hb (by omega)
  have e : PL.sumOf (1 : Int).toNat (0 : Int).toNat [9] = 21 := by decide
  rw [e] at h
  exact h
def K5 : PL.K8 := ⟨5, 0, 0, 0, 0, 0, 0, 0⟩
theorem nine (w : World) (t : TypeId) : Bytes (w.alloc (.cells #[.int .u8 9] t)) (w.heap.size + 1) (some ⟨w.heap.size, 0, none⟩) 1 [9] := by
  refine ⟨rfl, fun _ => ⟨w.heap.size, 0, rfl, by omega, fun i c hi => ?_⟩⟩
  match i, hi with
  | 0, hi =>
    simp at hi
    subst hi
    exact (Blk.new w t #[.int .u8 9]).cell 0
end T15
set_option maxRecDepth 100000 in
set_option maxHeartbeats 4000000 in
theorem told15 (w : World) : Calls Try.prog 12 #[] w fun e w' => e = .returned (.bool true) ∧ Below w.heap.size w w' := by
  go_enter Try.func12, Try.ntmps12
  go_wp2
  have hS : Blk (w.alloc (Obj.cells (keyCells T15.K5) 28)) w.heap.size 28 (keyCells T15.K5) := Blk.new _ _ _
  have hb : Below w.heap.size w (w.alloc (Obj.cells (keyCells T15.K5) 28)) := (Below.refl _ _).alloc (Nat.le_refl _) _
  have HS := Lib.hid hS
  clear hS
  refine wp_region_seq (fun w' => Blk w' w.heap.size 28 (keyCells T15.K5)) [(true, 0), (true, 1), (true, 2), (true, 3), (true, 4), (true, 5), (true, 6), (true, 7), (true, 8), (true, 9), (true, 10), (true, 11), (false, 12), (false, 14), (true, 13), (true, 15), (true, 16), (true, 17), (true, 18), (true, 19), (true, 20)]
    (by kernel_rfl) (by kernel_rfl) (fun _ _ d _ _ h => by cases d <;> exact h) HS.out ?_
  have e0 : (w.alloc (Obj.cells (keyCells T15.K5) 28)) = w.alloc (Obj.cells #[.int .u32 5, .int .u32 0, .int .u32 0, .int .u32 0, .int .u32 0, .int .u32 0, .int .u32 0, .int .u32 0] 28) := rfl
  rw [← e0]
  clear e0
  generalize w.alloc (Obj.cells (keyCells T15.K5) 28) = w1 at *
  refine plan_force rfl rfl (fun K hK => ?_)
  go_wp2_with (go_at_call 14; refine (T15.s1 _).mono ?_; rintro e w' ⟨rfl, rfl⟩)
  refine hK.out _ _ HS.out ?_; clear hK K
  iterate 2 (refine plan_force rfl rfl (fun K hK => ?_); go_wp2; refine hK.out _ _ HS.out ?_; clear hK K)
  refine plan_force rfl rfl (fun K hK => ?_)
  go_wp2_with (go_at_call 14; refine (T15.s2 _).mono ?_; rintro e w' ⟨rfl, rfl⟩)
  refine hK.out _ _ HS.out ?_; clear hK K
  iterate 3 (refine plan_force rfl rfl (fun K hK => ?_); go_wp2; refine hK.out _ _ HS.out ?_; clear hK K)
  refine plan_force rfl rfl (fun K hK => ?_)
  go_wp2
  have HS2 := Lib.hid (HS.out.alloc (Obj.cells #[.int .u8 9] 5))
  have hb2 := hb.alloc hb.size (Obj.cells #[.int .u8 9] 5)
  have H9 := Lib.hid (T15.nine w1 5)
  clear HS hb
  generalize w1.alloc (Obj.cells #[.int .u8 9] 5) = w2 at *
  refine hK.out _ _ HS2.out ?_; clear hK K
  refine plan_force rfl rfl (fun K hK => ?_)
  go_wp2_with (go_at_call 14; refine (T15.s3 _ _ _ _ (by exact H9.out)).mono ?_; rintro e w' ⟨rfl, rfl⟩)
  refine hK.out _ _ HS2.out ?_; clear hK K
  iterate 3 (refine plan_force rfl rfl (fun K hK => ?_); go_wp2; refine hK.out _ _ HS2.out ?_; clear hK K)
  iterate 2 (apply plan_take rfl rfl rfl rfl; (intro w' hS K hK; have c0 : w'.cell? ⟨w.heap.size, 0, none⟩ = some (.int .u32 5) := hS.cell 0; have c1 : w'.cell? ⟨w.heap.size, 1, none⟩ = some (.int .u32 0) := hS.cell 1; have c2 : w'.cell? ⟨w.heap.size, 2, none⟩ = some (.int .u32 0) := hS.cell 2; have c3 : w'.cell? ⟨w.heap.size, 3, none⟩ = some (.int .u32 0) := hS.cell 3; have c4 : w'.cell? ⟨w.heap.size, 4, none⟩ = some (.int .u32 0) := hS.cell 4; have c5 : w'.cell? ⟨w.heap.size, 5, none⟩ = some (.int .u32 0) := hS.cell 5; have c6 : w'.cell? ⟨w.heap.size, 6, none⟩ = some (.int .u32 0) := hS.cell 6; have c7 : w'.cell? ⟨w.heap.size, 7, none⟩ = some (.int .u32 0) := hS.cell 7; go_simp; exact hK))
  refine plan_force rfl rfl (fun K hK => ?_)
  go_wp2_with fail
  refine (of_any T15.K5 1 none 0 0 0 [] _ Bytes.empty (Nat.zero_le _) (by omega)).mono ?_
  rintro e w3 ⟨rfl, hb3⟩
  have HS3 := Lib.hid (HS2.out.drew.below hb3 HS2.out.lt)
  have hbb3 : Below w.heap.size w w3 := hb2.drew.trans (hb3.mono hb2.size)
  clear HS2 hb2 hb3 H9
  go_wp2
  refine hK.out _ _ HS3.out ?_; clear hK K
  refine plan_force rfl rfl (fun K hK => ?_)
  go_wp2_with fail
  refine (of_any T15.K5 1 none 0 0 0 [] _ Bytes.empty (Nat.zero_le _) (by omega)).mono ?_
  rintro e w4 ⟨rfl, hb4⟩
  have HS4 := Lib.hid (HS3.out.below hb4 HS3.out.lt)
  have hbb4 := hbb3.trans (hb4.mono hbb3.size)
  clear HS3 hbb3 hb4
  go_wp2
  refine hK.out _ _ HS4.out ?_; clear hK K
  refine plan_force rfl rfl (fun K hK => ?_)
  go_wp2_with fail
  refine (same_self _ _).mono ?_
  rintro e w5 ⟨rfl, hb5⟩
  have HS5 := Lib.hid (HS4.out.below hb5 HS4.out.lt)
  have hbb5 := hbb4.trans (hb5.mono hbb4.size)
  clear HS4 hbb4 hb5
  go_wp2
  refine hK.out _ _ HS5.out ?_; clear hK K
  iterate 4 (refine plan_force rfl rfl (fun K hK => ?_); go_wp2; refine hK.out _ _ HS5.out ?_; clear hK K)
  refine plan_nil ?_
  go_wp2
  go_ret
  exact ⟨rfl, hbb5⟩
end Go.Proofs.Ytbmccgiffplpjaa
