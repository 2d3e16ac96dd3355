/- The walk of the reference's Best. -/
import Derived.Test.YthoipfdapmjcfaaStronger
import Derived.Test.YthoipfdapmjcfaaPlanC
import Derived.Test.YthoipfdapmjcfaaPass
import Derived.Test.YthoipfdapmjcfaaMatchBest
namespace Go.Proofs.Ythoipfdapmjcfaa
open Go.RowKit
set_option linter.unusedVariables false
theorem ix_string (b : ByteArray) (j : Nat) (h : j < b.size) : ∃ y : UInt8, b.data.toList[j]? = some y ∧ ∀ w : World, (Instr.index 9 (.string b) (.int .i64 (j : Int))).run Try.prog w = .ok (.int .u8 (y.toNat : Int)) w := by
  have h2 : j < b.data.toList.length := by rw [Array.length_toList]; exact h
  refine ⟨b.data.toList[j], List.getElem?_eq_getElem h2, fun w => ?_⟩
  rw [run_index_string w 9 b .i64 (j : Int) Try.underlying9, dif_pos ⟨by omega, by omega⟩]
  rfl
theorem refF_step (l : List UInt8) (a k : Nat) : PM.refF l a (k + 1) = if (PM.refF l a k).2 < PM.run l a (k + 1) then (k + 1, PM.run l a (k + 1)) else PM.refF l a k := rfl
theorem refF_le (l : List UInt8) (a : Nat) : ∀ k, (PM.refF l a k).2 ≤ 66
  | 0 => Nat.zero_le _
  | k + 1 => by
    rw [refF_step]
    have h1 := PM.run_le l a (k + 1)
    unfold PM.cap at h1
    split
    · show PM.run l a (k + 1) ≤ 66
      omega
    · exact refF_le l a k
set_option maxRecDepth 100000 in
set_option maxHeartbeats 4000000 in
theorem refBest_out (b : ByteArray) (k : Nat) (w : World) (h : b.size ≤ k) (hn : b.size ≤ 1000000) :
    Calls Try.prog 11 #[.string b, .int .i64 (k : Int)] w fun e w' => e = .returned (.tuple #[.int .i64 0, .int .i64 0]) ∧ Below w.heap.size w w' := by
  have t1 : ¬ (k : Int) < (b.size : Int) := by omega
  by_cases h1 : k < 1
  · have h0 : ¬ (1 : Int) ≤ (k : Int) := by omega
    go_enter Try.func11, Try.ntmps11
    go_wp2_with fail
    go_loopw [6, 7, 8] (fun u v i wr => u = .int .i64 0 ∧ v = .int .i64 0 ∧ i = .int .i64 1 ∧ wr = w) (fun _ _ _ _ => 0)
    case atStart => exact ⟨rfl, rfl, rfl, rfl⟩
    case round =>
      obtain ⟨rfl, rfl, rfl, rfl⟩ := hrel
      go_wp2_with fail
      go_ret2
      exact ⟨rfl, Below.refl _ _⟩
  · have h0 : (1 : Int) ≤ (k : Int) := by omega
    go_enter Try.func11, Try.ntmps11
    go_wp2_with fail
    go_loopw [6, 7, 8] (fun u v i wr => u = .int .i64 0 ∧ v = .int .i64 0 ∧ i = .int .i64 1 ∧ wr = w) (fun _ _ _ _ => 0)
    case atStart => exact ⟨rfl, rfl, rfl, rfl⟩
    case round =>
      obtain ⟨rfl, rfl, rfl, rfl⟩ := hrel
      go_wp2_with fail
      go_ret2
      exact ⟨rfl, Below.refl _ _⟩
set_option maxRecDepth 100000 in
set_option maxHeartbeats 8000000 in
theorem refBest_any (b : ByteArray) (n a : Nat) (w : World) (hbn : b.size = n) (hn1 : n ≤ 1000000) (ha2 : a < n) :
    Calls Try.prog 11 #[.string b, .int .i64 (a : Int)] w fun e w' => e = .returned (.tuple #[.int .i64 ((PM.best b.data.toList a).1 : Int), .int .i64 ((PM.best b.data.toList a).2 : Int)]) ∧ Below w.heap.size w w' := by
  have HBest := Lib.hid (PM.best_ref b.data.toList a)
  have HL : Hid (b.data.toList.length = n) := by show _ = _; rw [Array.length_toList]; exact hbn
  have HCap : Hid (PM.cap b.data.toList a = min 66 (n - a)) := by show _ = _; unfold PM.cap; rw [HL.out]
  have HSt := refF_step b.data.toList a
  have HLe := Lib.hid (refF_le b.data.toList a)
  obtain ⟨f, hf⟩ : ∃ f, f = PM.far a := ⟨_, rfl⟩
  rw [← hf] at HBest
  have hf1 : f ≤ a := by rw [hf]; unfold PM.far; omega
  have hf2 : f ≤ 1024 := by rw [hf]; unfold PM.far; omega
  have hf3 : f = a ∨ f = 1024 := by rw [hf]; unfold PM.far; omega
  clear hf
  have hx := fun j (h : j < n) => ix_string b j (by rw [hbn]; exact h)
  have HX := Lib.hid hx
  clear hx
  have HSt := Lib.hid HSt
  go_enter Try.func11, Try.ntmps11
  go_wp2_with fail
  go_loopw [6, 7, 8] (fun u v i wr => ∃ (k x y : Nat), k ≤ f ∧ y ≤ 66 ∧ i = .int .i64 ((k : Int) + 1) ∧ u = .int .i64 x ∧ v = .int .i64 y ∧ Hid ((x, y) = PM.refF b.data.toList a k) ∧ Below w.heap.size w wr) (fun _ _ i _ => f + 1 - (intOf i).toNat)
  case atStart => exact ⟨0, 0, 0, Nat.zero_le _, Nat.zero_le _, rfl, rfl, rfl, rfl, Below.refl _ _⟩
  case round =>
    obtain ⟨k, x, y, hk, hy, rfl, rfl, rfl, HXY, hW⟩ := hrel
    by_cases hkf : k < f
    · have tk1 : (k : Int) + 1 ≤ 1024 := by omega
      have tk2 : (k : Int) + 1 ≤ (a : Int) := by omega
      have tan : (a : Int) < (n : Int) := by omega
      go_wp2_with fail
      go_loopw [9] (fun i wq => ∃ (j : Nat), j ≤ 66 ∧ a + j ≤ n ∧ i = .int .i64 j ∧ Hid (∀ i, i < j → b.data.toList[a + i]? = b.data.toList[a + i - (k + 1)]?) ∧ Below w.heap.size w wq) (fun i _ => 66 - (intOf i).toNat)
      case atStart => exact ⟨0, by omega, by omega, rfl, fun i hi => by omega, hW⟩
      case round =>
        clear hW
        obtain ⟨j, hj, haj, rfl, HE, hW⟩ := hrel
        have hW5 := hW.drew
        by_cases hj66 : j < 66
        · have tj66 : (j : Int) < 66 := by omega
          obtain ⟨s, hs⟩ : ∃ s, s = a + j := ⟨_, rfl⟩
          have es1 : (a : Int) + (j : Int) = (s : Int) := by omega
          have js : IntKind.i64.wrap (s : Int) = (s : Int) := IntWalk.i64_in _ (by omega)
          by_cases hsn : s < n
          · have tsn : (s : Int) < (n : Int) := by omega
            obtain ⟨r, hr⟩ : ∃ r, r = a + j - (k + 1) := ⟨_, rfl⟩
            have er1 : (s : Int) - ((k : Int) + 1) = (r : Int) := by omega
            have jr : IntKind.i64.wrap (r : Int) = (r : Int) := IntWalk.i64_in _ (by omega)
            have hrn : r < n := by omega
            obtain ⟨p1, g1, hc1⟩ := HX.out s hsn
            obtain ⟨p2, g2, hc2⟩ := HX.out r hrn
            have HQ := Lib.hid hs
            have HR := Lib.hid hr
            have G1 := Lib.hid g1
            have G2 := Lib.hid g2
            clear hs hr g1 g2
            go_wp2
            by_cases hxy : p1 = p2
            · subst hxy
              refine (wp_region_seq (fun x => x = wr.drew) [(true, 0), (true, 1), (true, 2), (false, 3), (false, 4), (false, 5), (true, 6), (true, 7), (true, 8), (true, 9), (true, 10), (false, 11), (false, 12), (false, 13), (false, 14), (false, 15), (false, 16), (false, 17), (false, 18), (false, 19), (true, 20), (true, 21), (true, 22), (true, 23), (true, 24)]
                (by kernel_rfl) (by kernel_rfl) (fun _ _ d _ _ h => by cases d <;> exact h) rfl ?_)
              generalize wr.drew = w5 at *
              iterate 3 (refine plan_force rfl rfl (fun K hK => ?_); go_wp2; refine hK.out _ _ rfl ?_; clear hK K)
              iterate 3 (apply plan_take rfl rfl rfl rfl; (intro w' hS K hK; subst hS; go_simp; exact hK))
              iterate 5 (refine plan_force rfl rfl (fun K hK => ?_); go_wp2; refine hK.out _ _ rfl ?_; clear hK K)
              iterate 9 (apply plan_take rfl rfl rfl rfl; (intro w' hS K hK; subst hS; go_simp; exact hK))
              iterate 5 (refine plan_force rfl rfl (fun K hK => ?_); go_wp2; refine hK.out _ _ rfl ?_; clear hK K)
              refine plan_nil ?_
              go_wp2_with fail
              go_roundw
              case rel =>
                first
                  | refine ⟨j + 1, by omega, by omega, by go_num, fun i hi => ?_, hW5⟩
                  | refine ⟨j + 1, by omega, by omega, by omega, fun i hi => ?_⟩
                rcases Nat.eq_or_lt_of_le (Nat.le_of_lt_succ hi) with rfl | hi'
                · rw [← HR.out, ← HQ.out, G1.out, G2.out]
                · exact HE.out i hi'
              case measure => simp [intOf]; omega
            · have hne : ((p1.toNat : Int) == (p2.toNat : Int)) = false := by
                rw [beq_eq_false_iff_ne]
                intro h
                exact hxy (UInt8.toNat_inj.1 (by omega))
              have HRun : Hid (j = PM.run b.data.toList a (k + 1)) := PM.run_eq ⟨by rw [HCap.out]; omega, HE.out, fun _ => by
                rw [← HR.out, ← HQ.out, G1.out, G2.out]
                intro h
                injection h with h
                exact hxy h⟩
              refine (wp_region_seq (fun x => x = wr.drew) [(true, 0), (true, 1), (true, 2), (false, 3), (false, 4), (false, 5), (true, 6), (true, 7), (true, 8), (true, 9), (true, 10), (false, 11), (false, 12), (false, 13), (false, 14), (false, 15), (false, 16), (false, 17), (false, 18), (false, 19), (true, 20), (true, 21), (true, 22), (true, 23), (true, 24)]
                (by kernel_rfl) (by kernel_rfl) (fun _ _ d _ _ h => by cases d <;> exact h) rfl ?_)
              generalize wr.drew = w5 at *
              iterate 3 (refine plan_force rfl rfl (fun K hK => ?_); go_wp2; refine hK.out _ _ rfl ?_; clear hK K)
              iterate 3 (apply plan_take rfl rfl rfl rfl; (intro w' hS K hK; subst hS; go_simp; exact hK))
              iterate 5 (refine plan_force rfl rfl (fun K hK => ?_); go_wp2; refine hK.out _ _ rfl ?_; clear hK K)
              iterate 9 (apply plan_take rfl rfl rfl rfl; (intro w' hS K hK; subst hS; go_simp; exact hK))
              iterate 5 (refine plan_force rfl rfl (fun K hK => ?_); go_wp2; refine hK.out _ _ rfl ?_; clear hK K)
              refine plan_nil ?_
              clear hne HQ HR G1 G2 hc1 hc2 jr er1
              have hst := HSt.out k
              rw [← HXY.out, ← HRun.out] at hst
              clear HRun
              by_cases hyj : y < j
              · rw [if_pos hyj] at hst
                have HS2 : Hid ((k + 1, j) = PM.refF b.data.toList a (k + 1)) := hst.symm
                have tyj : (y : Int) < (j : Int) := by omega
                clear hst
                go_wp2_with fail
                go_roundw
                case rel => first | exact ⟨k + 1, k + 1, j, by omega, by omega, by go_num, by go_num, by go_num, HS2, hW5⟩
                case measure => simp [intOf]; omega
              · rw [if_neg hyj] at hst
                have HS2 : Hid ((x, y) = PM.refF b.data.toList a (k + 1)) := hst.symm
                have tyj : ¬ (y : Int) < (j : Int) := by omega
                clear hst
                go_wp2_with fail
                go_roundw
                case rel => first | exact ⟨k + 1, x, y, by omega, hy, by go_num, by go_num, by go_num, HS2, hW5⟩
                case measure => simp [intOf]; omega
          · have tsn : decide (s < n) = false := decide_eq_false hsn
            have HRun : Hid (j = PM.run b.data.toList a (k + 1)) := PM.run_eq ⟨by rw [HCap.out]; omega, HE.out, fun h => by rw [HCap.out] at h; omega⟩
            clear hs
            go_wp2
            refine (wp_region_seq (fun x => x = wr.drew) [(true, 0), (true, 1), (true, 2), (false, 3), (false, 4), (false, 5), (true, 6), (true, 7), (true, 8), (true, 9), (true, 10), (false, 11), (false, 12), (false, 13), (false, 14), (false, 15), (false, 16), (false, 17), (false, 18), (false, 19), (true, 20), (true, 21), (true, 22), (true, 23), (true, 24)]
              (by kernel_rfl) (by kernel_rfl) (fun _ _ d _ _ h => by cases d <;> exact h) rfl ?_)
            generalize wr.drew = w5 at *
            iterate 3 (refine plan_force rfl rfl (fun K hK => ?_); go_wp2; refine hK.out _ _ rfl ?_; clear hK K)
            iterate 3 (apply plan_take rfl rfl rfl rfl; (intro w' hS K hK; subst hS; go_simp; exact hK))
            iterate 5 (refine plan_force rfl rfl (fun K hK => ?_); go_wp2; refine hK.out _ _ rfl ?_; clear hK K)
            iterate 9 (apply plan_drop rfl rfl rfl rfl; (intro K hK; go_simp; exact hK))
            iterate 4 (apply plan_pass (S := fun x => x = w5) rfl rfl rfl; (intro K hK; go_simp; exact hK))
            iterate 1 (refine plan_force rfl rfl (fun K hK => ?_); go_wp2; refine hK.out _ _ rfl ?_; clear hK K)
            refine plan_nil ?_
            have hst := HSt.out k
            rw [← HXY.out, ← HRun.out] at hst
            clear HRun
            by_cases hyj : y < j
            · rw [if_pos hyj] at hst
              have HS2 : Hid ((k + 1, j) = PM.refF b.data.toList a (k + 1)) := hst.symm
              have tyj : (y : Int) < (j : Int) := by omega
              clear hst
              go_wp2_with fail
              go_roundw
              case rel => first | exact ⟨k + 1, k + 1, j, by omega, by omega, by go_num, by go_num, by go_num, HS2, hW5⟩
              case measure => simp [intOf]; omega
            · rw [if_neg hyj] at hst
              have HS2 : Hid ((x, y) = PM.refF b.data.toList a (k + 1)) := hst.symm
              have tyj : ¬ (y : Int) < (j : Int) := by omega
              clear hst
              go_wp2_with fail
              go_roundw
              case rel => first | exact ⟨k + 1, x, y, by omega, hy, by go_num, by go_num, by go_num, HS2, hW5⟩
              case measure => simp [intOf]; omega
        · have tj66 : decide ((j : Int) < 66) = false := decide_eq_false (by omega)
          have HRun : Hid (j = PM.run b.data.toList a (k + 1)) := PM.run_eq ⟨by rw [HCap.out]; omega, HE.out, fun h => by rw [HCap.out] at h; omega⟩
          go_wp2
          refine (wp_region_seq (fun x => x = wr.drew) [(true, 0), (true, 1), (true, 2), (false, 3), (false, 4), (false, 5), (true, 6), (true, 7), (true, 8), (true, 9), (true, 10), (false, 11), (false, 12), (false, 13), (false, 14), (false, 15), (false, 16), (false, 17), (false, 18), (false, 19), (true, 20), (true, 21), (true, 22), (true, 23), (true, 24)]
            (by kernel_rfl) (by kernel_rfl) (fun _ _ d _ _ h => by cases d <;> exact h) rfl ?_)
          generalize wr.drew = w5 at *
          iterate 3 (refine plan_force rfl rfl (fun K hK => ?_); go_wp2; refine hK.out _ _ rfl ?_; clear hK K)
          iterate 3 (apply plan_drop rfl rfl rfl rfl; (intro K hK; go_simp; exact hK))
          iterate 3 (apply plan_pass (S := fun x => x = w5) rfl rfl rfl; (intro K hK; go_simp; exact hK))
          iterate 2 (refine plan_force rfl rfl (fun K hK => ?_); go_wp2; refine hK.out _ _ rfl ?_; clear hK K)
          iterate 9 (apply plan_drop rfl rfl rfl rfl; (intro K hK; go_simp; exact hK))
          iterate 4 (apply plan_pass (S := fun x => x = w5) rfl rfl rfl; (intro K hK; go_simp; exact hK))
          iterate 1 (refine plan_force rfl rfl (fun K hK => ?_); go_wp2; refine hK.out _ _ rfl ?_; clear hK K)
          refine plan_nil ?_
          have hst := HSt.out k
          rw [← HXY.out, ← HRun.out] at hst
          clear HRun
          by_cases hyj : y < j
          · rw [if_pos hyj] at hst
            have HS2 : Hid ((k + 1, j) = PM.refF b.data.toList a (k + 1)) := hst.symm
            have tyj : (y : Int) < (j : Int) := by omega
            clear hst
            go_wp2_with fail
            go_roundw
            case rel => first | exact ⟨k + 1, k + 1, j, by omega, by omega, by go_num, by go_num, by go_num, HS2, hW5⟩
            case measure => simp [intOf]; omega
          · rw [if_neg hyj] at hst
            have HS2 : Hid ((x, y) = PM.refF b.data.toList a (k + 1)) := hst.symm
            have tyj : ¬ (y : Int) < (j : Int) := by omega
            clear hst
            go_wp2_with fail
            go_roundw
            case rel => first | exact ⟨k + 1, x, y, by omega, hy, by go_num, by go_num, by go_num, HS2, hW5⟩
            case measure => simp [intOf]; omega
    · obtain rfl : k = f := by omega
      have hbest := HBest.out
      rw [← HXY.out] at hbest
      have HB := Lib.hid hbest
      clear hbest HBest
      by_cases hk1024 : k = 1024
      · have tk1 : ¬ (k : Int) + 1 ≤ 1024 := by omega
        by_cases hy3 : y < 3
        · have t3 : (y : Int) < 3 := by omega
          go_wp2_with fail
          go_ret2
          rw [HB.out, if_pos hy3]
          exact ⟨rfl, hW⟩
        · have t3 : ¬ (y : Int) < 3 := by omega
          go_wp2_with fail
          go_ret2
          rw [HB.out, if_neg hy3]
          exact ⟨rfl, hW⟩
      · have tk1 : (k : Int) + 1 ≤ 1024 := by omega
        have tk2 : ¬ (k : Int) + 1 ≤ (a : Int) := by omega
        by_cases hy3 : y < 3
        · have t3 : (y : Int) < 3 := by omega
          go_wp2_with fail
          go_ret2
          rw [HB.out, if_pos hy3]
          exact ⟨rfl, hW⟩
        · have t3 : ¬ (y : Int) < 3 := by omega
          go_wp2_with fail
          go_ret2
          rw [HB.out, if_neg hy3]
          exact ⟨rfl, hW⟩
end Go.Proofs.Ythoipfdapmjcfaa
