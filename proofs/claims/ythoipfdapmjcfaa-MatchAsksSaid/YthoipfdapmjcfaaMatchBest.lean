/- The walks of match.equal and match.Best. -/
import Derived.Test.YthoipfdapmjcfaaStronger
import Derived.Test.YthoipfdapmjcfaaPlanC
import Derived.Test.YthoipfdapmjcfaaPass
import Derived.Test.YthoipfdapmjcfaaGave
import Derived.Test.YthoipfdapmjcfaaPlainMatch
namespace Go.Proofs.Ythoipfdapmjcfaa
open Go.RowKit
set_option linter.unusedVariables false
theorem Bytes.pick {w : World} {B n k : Nat} {A : Option Addr} {l : List UInt8} (h : Bytes w B A n l) (hk : k < n) : ∃ (b off : Nat) (x : UInt8), A = some ⟨b, off, none⟩ ∧ b < B ∧ l[k]? = some x ∧ w.cell? ⟨b, off + k, none⟩ = some (.int .u8 (x.toNat : Int)) := by
  obtain ⟨b, off, hl, h1, h2, h3⟩ := h.at_ hk
  exact ⟨b, off, l[k], h1, h2, List.getElem?_eq_getElem hl, h3⟩
set_option maxRecDepth 100000 in
set_option maxHeartbeats 4000000 in
theorem equal_any (A : Option Addr) (n c B : Nat) (l : List UInt8) (a b : Nat) (w : World) (hl : Bytes w B A n l) (hn : n ≤ 1000000) (ha : a < n) (hb : 1 ≤ b) (hba : b ≤ a) (m : Nat) (hm : m = PM.cap l a) :
    Calls Try.prog 19 #[.slice A n c, .int .i64 (a : Int), .int .i64 (b : Int), .int .i64 (m : Int)] w fun e w' => e = .returned (.int .i64 (PM.run l a b : Int)) ∧ Below w.heap.size w w' := by
  have hlen := hl.len
  have hm2 : a + m ≤ n := by rw [hm]; unfold PM.cap; omega
  have HMe := Lib.hid hm
  have HLen := Lib.hid hlen
  clear hm hlen
  go_enter Try.func19, Try.ntmps19
  go_wp2
  refine wp_scope_back 0 (fun z a' w' => ∃ (j : Nat), z = m - j ∧ j ≤ m ∧ Hid (∀ i, i < j → l[a + i]? = l[a + i - b]?) ∧ Hid (Bytes w' B A n l) ∧ Below w.heap.size w w' ∧ ∃ u : Nat → Value, a' = ⟨#[.slice A n c, .int .i64 (a : Int), .int .i64 (b : Int), .int .i64 (m : Int), u 4, u 5, u 6, u 7, .int .i64 0, .int .i64 (j : Int), u 10, u 11, u 12, u 13, u 14, u 15, u 16, u 17, u 18, u 19, u 20, u 21, u 22, u 23, u 24, u 25, u 26, u 27, u 28, u 29, u 30, u 31, u 32], []⟩) rfl ?_ ?_
  · intro HL
    go_wp2
    go_step3
    go_step
    go_step
    exact HL.out _ _ _ ⟨0, rfl, Nat.zero_le _, fun i hi => by omega, hl, Below.refl _ _, ⟨slot [undef, undef, undef, undef, _, _, _, _, undef, undef, _, _, _, _, _, _, _, _, _, _, _, _, _, _, _, _, _, _, _, _, _, _, _], rfl⟩⟩
  · rintro z a' w' ⟨j, rfl, hj, HE, HB, hW, ⟨u, rfl⟩⟩
    by_cases hlt : j < m
    · obtain ⟨q, hq⟩ : ∃ q, q = a + j := ⟨_, rfl⟩
      obtain ⟨r, hr⟩ : ∃ r, r = a + j - b := ⟨_, rfl⟩
      have eq1 : (a : Int) + (j : Int) = (q : Int) := by omega
      have er1 : (q : Int) - (b : Int) = (r : Int) := by omega
      have hqn : q < n := by omega
      have hrn : r < n := by omega
      have ht : (j : Int) < (m : Int) := by omega
      obtain ⟨blk, off, x, hA, _, g1, hc1⟩ := HB.out.pick hqn
      obtain ⟨_, _, y, hA2, _, g2, hc2⟩ := HB.out.pick hrn
      subst hA
      cases hA2
      have HQ := Lib.hid hq
      have HR := Lib.hid hr
      have G1 := Lib.hid g1
      have G2 := Lib.hid g2
      clear hq hr g1 g2
      have d1 : w'.drew.cell? ⟨blk, off + q, none⟩ = some (.int .u8 (x.toNat : Int)) := hc1
      have d2 : w'.drew.cell? ⟨blk, off + r, none⟩ = some (.int .u8 (y.toNat : Int)) := hc2
      clear hc1 hc2
      have HB1 : Hid (Bytes w'.drew B (some ⟨blk, off, none⟩) n l) := HB.out.drew
      have hW1 := hW.drew
      have jq : IntKind.i64.wrap (q : Int) = (q : Int) := IntWalk.i64_in _ (by omega)
      have jr : IntKind.i64.wrap (r : Int) = (r : Int) := IntWalk.i64_in _ (by omega)
      go_wp2
      by_cases hxy : x = y
      · subst hxy
        refine (wp_region_seq (fun x => x = w'.drew) [(false, 0), (true, 1), (true, 2), (true, 3), (false, 4), (false, 5), (false, 6), (false, 7), (false, 8), (false, 9), (false, 10), (false, 11), (false, 12), (false, 13), (true, 14), (true, 15), (true, 16), (true, 17), (true, 18), (true, 19)]
          (by kernel_rfl) (by kernel_rfl) (fun _ _ d _ _ h => by cases d <;> exact h) rfl ?_)
        generalize w'.drew = w1 at *
        apply plan_take rfl rfl rfl rfl; (intro w' hS K hK; subst hS; go_simp; exact hK)
        iterate 3 (refine plan_force rfl rfl (fun K hK => ?_); go_wp2; refine hK.out _ _ rfl ?_; clear hK K)
        iterate 10 (apply plan_take rfl rfl rfl rfl; (intro w' hS K hK; subst hS; go_simp; exact hK))
        iterate 6 (refine plan_force rfl rfl (fun K hK => ?_); go_wp2; refine hK.out _ _ rfl ?_; clear hK K)
        refine plan_nil ?_
        go_wp2
        go_step3
        simp only [Exit.then]
        refine jump_back (m' := m - (j + 1)) ?_ ?_
        · omega
        refine ⟨j + 1, rfl, hlt, fun i hi => ?_, HB1, hW1, ⟨slot [undef, undef, undef, undef, _, _, _, _, undef, undef, _, _, _, _, _, _, _, _, _, _, _, _, _, _, _, _, _, _, _, _, _, _, _], rfl⟩⟩
        rcases Nat.eq_or_lt_of_le (Nat.le_of_lt_succ hi) with rfl | hi'
        · rw [← HR.out, ← HQ.out, G1.out, G2.out]
        · exact HE.out i hi'
      · have hne : ((x.toNat : Int) == (y.toNat : Int)) = false := by
          rw [beq_eq_false_iff_ne]
          intro h
          exact hxy (UInt8.toNat_inj.1 (by omega))
        refine (wp_region_seq (fun x => x = w'.drew) [(false, 0), (true, 1), (true, 2), (true, 3), (false, 4), (false, 5), (false, 6), (false, 7), (false, 8), (false, 9), (false, 10), (false, 11), (false, 12), (false, 13), (true, 14), (true, 15), (true, 16), (true, 17), (true, 18), (true, 19)]
          (by kernel_rfl) (by kernel_rfl) (fun _ _ d _ _ h => by cases d <;> exact h) rfl ?_)
        generalize w'.drew = w1 at *
        apply plan_take rfl rfl rfl rfl; (intro w' hS K hK; subst hS; go_simp; exact hK)
        iterate 3 (refine plan_force rfl rfl (fun K hK => ?_); go_wp2; refine hK.out _ _ rfl ?_; clear hK K)
        iterate 10 (apply plan_take rfl rfl rfl rfl; (intro w' hS K hK; subst hS; go_simp; exact hK))
        iterate 6 (refine plan_force rfl rfl (fun K hK => ?_); go_wp2; refine hK.out _ _ rfl ?_; clear hK K)
        refine plan_nil ?_
        go_wp2
        refine jump_ret ?_
        go_ret
        refine ⟨?_, hW1⟩
        have hR : j = PM.run l a b := PM.run_eq ⟨by rw [← HMe.out]; omega, HE.out, fun _ => by
          rw [← HR.out, ← HQ.out, G1.out, G2.out]
          intro h
          injection h with h
          exact hxy h⟩
        rw [← hR]
        rfl
    · obtain rfl : j = m := by omega
      have ht : ¬ (j : Int) < (j : Int) := by omega
      have hW1 := hW.drew
      go_wp2
      refine (wp_region_seq (fun x => x = w'.drew) [(false, 0), (true, 1), (true, 2), (true, 3), (false, 4), (false, 5), (false, 6), (false, 7), (false, 8), (false, 9), (false, 10), (false, 11), (false, 12), (false, 13), (true, 14), (true, 15), (true, 16), (true, 17), (true, 18), (true, 19)]
          (by kernel_rfl) (by kernel_rfl) (fun _ _ d _ _ h => by cases d <;> exact h) rfl ?_)
      generalize w'.drew = w1 at *
      apply plan_take rfl rfl rfl rfl; (intro w' hS K hK; subst hS; go_simp; exact hK)
      iterate 3 (refine plan_force rfl rfl (fun K hK => ?_); go_wp2; refine hK.out _ _ rfl ?_; clear hK K)
      iterate 10 (apply plan_drop rfl rfl rfl rfl; (intro K hK; go_simp; exact hK))
      iterate 5 (apply plan_pass (S := fun x => x = w1) rfl rfl rfl; (intro K hK; go_simp; exact hK))
      refine plan_force rfl rfl (fun K hK => ?_); go_wp2; refine hK.out _ _ rfl ?_; clear hK K
      refine plan_nil ?_
      go_wp2
      refine jump_ret ?_
      go_ret
      refine ⟨?_, hW1⟩
      have hR : j = PM.run l a b := PM.run_eq ⟨by rw [← HMe.out]; omega, HE.out, fun h => by rw [← HMe.out] at h; omega⟩
      rw [← hR]
      rfl
set_option maxRecDepth 100000 in
set_option maxHeartbeats 4000000 in
theorem best_out (A : Option Addr) (n c : Nat) (k : Int) (w : World) (h : k < 0 ∨ (n : Int) ≤ k) :
    Calls Try.prog 10 #[.slice A n c, .int .i64 k] w fun e w' => e = .returned (.tuple #[.int .i64 0, .int .i64 0]) ∧ Below w.heap.size w w' := by
  obtain h1 | ⟨h1, h2⟩ : k < 0 ∨ ¬ k < 0 ∧ (n : Int) ≤ k := by omega
  all_goals
    clear h
    go_enter Try.func10, Try.ntmps10
    go_wp2
    refine wp_scope_back 0 (fun m a' w' => False) rfl ?_ ?_
    · intro HL
      go_wp2
      refine jump_ret ?_
      go_ret2
      exact ⟨rfl, Below.refl _ _⟩
    · intro m a' w' h
      exact h.elim
set_option maxRecDepth 100000 in
set_option maxHeartbeats 4000000 in
theorem best_any (A : Option Addr) (n c B : Nat) (l : List UInt8) (a : Nat) (w : World) (hl : Bytes w B A n l) (hB : B ≤ w.heap.size) (hn : n ≤ 1000000) (ha : a < n) :
    Calls Try.prog 10 #[.slice A n c, .int .i64 (a : Int)] w fun e w' => e = .returned (.tuple #[.int .i64 ((PM.best l a).1 : Int), .int .i64 ((PM.best l a).2 : Int)]) ∧ Below w.heap.size w w' := by
  have hlen := hl.len
  obtain ⟨m, hm⟩ : ∃ m, m = PM.cap l a := ⟨_, rfl⟩
  obtain ⟨f, hf⟩ : ∃ f, f = PM.far a := ⟨_, rfl⟩
  have hm1 : m ≤ 66 := by rw [hm]; unfold PM.cap; omega
  have hf1 : f ≤ a := by rw [hf]; unfold PM.far; omega
  have em : (if (n : Int) - (a : Int) < 66 then (n : Int) - (a : Int) else 66) = (m : Int) := by rw [hm]; unfold PM.cap; split <;> omega
  have ef : (if (a : Int) < 1024 then (a : Int) else 1024) = (f : Int) := by rw [hf]; unfold PM.far; split <;> omega
  have HL0 := Lib.hid hl
  have HM := Lib.hid hm
  have HF := Lib.hid hf
  have HLen := Lib.hid hlen
  have t1 : ¬ (n : Int) ≤ (a : Int) := by omega
  clear hl hm hf hlen
  go_enter Try.func10, Try.ntmps10
  go_wp2
  refine wp_scope_back 0 (fun z a' w' => ∃ (k x y : Nat), z = f + 1 - k ∧ 1 ≤ k ∧ k ≤ f + 1 ∧ y ≤ 66 ∧ x ≤ a ∧ Hid (PM.bestF l a (k - 1) = (x, y)) ∧ Hid (Below w.heap.size w w') ∧ ∃ u : Nat → Value, a' = ⟨#[.slice A n c, .int .i64 (a : Int), u 2, u 3, .int .i64 0, .int .i64 0, .int .i64 (m : Int), .int .i64 (f : Int), .int .i64 (x : Int), .int .i64 (y : Int), .int .i64 (k : Int), u 11, u 12, u 13, u 14, u 15, u 16, u 17, u 18, u 19, u 20, u 21, u 22, u 23, u 24, u 25, u 26, u 27, u 28, u 29, u 30, u 31, u 32, u 33, u 34, u 35, u 36, u 37, u 38, u 39, u 40, u 41, u 42, u 43, u 44, u 45, u 46, u 47, u 48, u 49, u 50], []⟩) rfl ?_ ?_
  · intro HJ
    go_wp2
    go_step3
    go_step
    go_step
    exact HJ.out _ _ _ ⟨1, 0, 2, rfl, Nat.le_refl _, by omega, by omega, by omega, rfl, Below.refl _ _, ⟨slot [undef, undef, _, _, undef, undef, undef, undef, undef, undef, undef, _, _, _, _, _, _, _, _, _, _, _, _, _, _, _, _, _, _, _, _, _, _, _, _, _, _, _, _, _, _, _, _, _, _, _, _, _, _, _, _], rfl⟩⟩
  · rintro z a' w' ⟨k, x, y, rfl, hk1, hk2, hy, hx, HE, HW, ⟨u, rfl⟩⟩
    have HB : Hid (Bytes w' B A n l) := HL0.out.below (HW.out.mono hB)
    by_cases h1 : k ≤ f
    · have t2 : (k : Int) ≤ (f : Int) := by omega
      by_cases h2 : y < m
      · have t3 : (y : Int) < (m : Int) := by omega
        go_wp2_with fail
        (with_reducible refine (equal_any A n c B l a k w' HB.out hn ha hk1 (by omega) m HM.out).mono ?_)
        rintro e w1 ⟨rfl, hb1⟩
        have HW1 : Hid (Below w.heap.size w w1) := HW.out.trans (hb1.mono HW.out.size)
        clear hb1 HB HW
        have hr := PM.run_le l a k
        rw [← HM.out] at hr
        obtain ⟨r, her⟩ : ∃ r, r = PM.run l a k := ⟨_, rfl⟩
        rw [← her] at hr
        rw [← her]
        have HR := Lib.hid her
        clear her
        by_cases h3 : y < r
        · have t4 : (y : Int) < (r : Int) := by omega
          go_wp2
          go_step3
          simp only [Exit.then]
          refine jump_back (m' := f + 1 - (k + 1)) ?_ ?_
          · omega
          refine ⟨k + 1, k, r, rfl, by omega, by omega, by omega, by omega, ?_, HW1, ⟨slot [undef, undef, _, _, undef, undef, undef, undef, undef, undef, undef, _, _, _, _, _, _, _, _, _, _, _, _, _, _, _, _, _, _, _, _, _, _, _, _, _, _, _, _, _, _, _, _, _, _, _, _, _, _, _, _], rfl⟩⟩
          show PM.bestF l a k = _
          obtain ⟨k', rfl⟩ : ∃ k', k = k' + 1 := ⟨k - 1, by omega⟩
          rw [PM.bestF]
          have he := HE.out
          rw [Nat.add_sub_cancel] at he
          rw [he, ← HR.out, if_pos h3]
        · have t4 : ¬ (y : Int) < (r : Int) := by omega
          go_wp2
          go_step3
          simp only [Exit.then]
          refine jump_back (m' := f + 1 - (k + 1)) ?_ ?_
          · omega
          refine ⟨k + 1, x, y, rfl, by omega, by omega, hy, hx, ?_, HW1, ⟨slot [undef, undef, _, _, undef, undef, undef, undef, undef, undef, undef, _, _, _, _, _, _, _, _, _, _, _, _, _, _, _, _, _, _, _, _, _, _, _, _, _, _, _, _, _, _, _, _, _, _, _, _, _, _, _, _], rfl⟩⟩
          show PM.bestF l a k = _
          obtain ⟨k', rfl⟩ : ∃ k', k = k' + 1 := ⟨k - 1, by omega⟩
          rw [PM.bestF]
          have he := HE.out
          rw [Nat.add_sub_cancel] at he
          rw [he, ← HR.out, if_neg h3]
      · have t3 : ¬ (y : Int) < (m : Int) := by omega
        have hb : PM.bestF l a f = (x, y) := by
          have := PM.bestF_stop l a (k - 1) (by rw [HE.out, ← HM.out]; show m ≤ y; omega) (f - (k - 1))
          rw [show k - 1 + (f - (k - 1)) = f from by omega] at this
          rw [this, HE.out]
        have HBf := Lib.hid hb
        clear hb HE
        by_cases h4 : x = 0
        · subst h4
          go_wp2
          refine jump_ret ?_
          go_ret2
          refine ⟨?_, HW.out⟩
          unfold PM.best
          rw [← HF.out, HBf.out]
          rfl
        · have t5 : ((x : Int) == 0) = false := by rw [beq_eq_false_iff_ne]; omega
          go_wp2
          refine jump_ret ?_
          go_ret2
          refine ⟨?_, HW.out⟩
          unfold PM.best
          rw [← HF.out, HBf.out, if_neg (by exact h4)]
          rfl
    · have t2 : ¬ (k : Int) ≤ (f : Int) := by omega
      have hb : PM.bestF l a f = (x, y) := by rw [← HE.out, show k - 1 = f from by omega]
      have HBf := Lib.hid hb
      clear hb HE
      by_cases h4 : x = 0
      · subst h4
        go_wp2
        refine jump_ret ?_
        go_ret2
        refine ⟨?_, HW.out⟩
        unfold PM.best
        rw [← HF.out, HBf.out]
        rfl
      · have t5 : ((x : Int) == 0) = false := by rw [beq_eq_false_iff_ne]; omega
        go_wp2
        refine jump_ret ?_
        go_ret2
        refine ⟨?_, HW.out⟩
        unfold PM.best
        rw [← HF.out, HBf.out, if_neg (by exact h4)]
        rfl
end Go.Proofs.Ythoipfdapmjcfaa
