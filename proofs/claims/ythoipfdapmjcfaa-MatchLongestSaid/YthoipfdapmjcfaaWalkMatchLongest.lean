/- The walk of MatchLongest. -/
import Derived.Test.YthoipfdapmjcfaaTold11
import Derived.Test.YthoipfdapmjcfaaPlainMatch2
import Derived.Test.YthoipfdapmjcfaaText
namespace Go.Proofs.Ythoipfdapmjcfaa
open Go.RowKit
set_option linter.unusedVariables false
namespace ML
theorem at_eq (k : Int) (n : Nat) (hn : 0 < n) (hn2 : n ≤ 1000000) : ∃ a : Nat, wrap64 ((IntKind.u64.wrap k).tmod (n : Int)) = (a : Int) ∧ a < n := by
  obtain ⟨U, hU, _⟩ := TX.nat_of k
  have h := Nat.mod_lt U hn
  refine ⟨U % n, ?_, h⟩
  rw [hU, TX.tmod_nat]
  generalize U % n = y at *
  exact IntWalk.wrap64_in _ ⟨by omega, by omega⟩
/-- What the law asks of each distance. -/
theorem best_says (l : List UInt8) (a d : Nat) (h1 : 1 ≤ d) (h2 : d ≤ a) (ha : a ≤ 1024) :
    ¬ ((PM.best l a).2 < PM.run l a d ∧ 3 ≤ PM.run l a d) ∧ ¬ (3 ≤ PM.run l a d ∧ PM.run l a d = (PM.best l a).2 ∧ d < (PM.best l a).1) ∧ ¬ (d = (PM.best l a).1 ∧ PM.run l a d ≠ (PM.best l a).2) := by
  have hf : PM.far a = a := by unfold PM.far; omega
  rcases PM.best_is l a with ⟨e, h⟩ | ⟨g1, g2, g3, g4, g5, g6⟩
  · rw [hf] at h
    have := h d h1 h2
    rw [e]
    refine ⟨?_, ?_, ?_⟩ <;> simp only <;> omega
  · rw [hf] at g2 g5
    have q1 := g5 d h1 h2
    refine ⟨by omega, fun ⟨_, e, hlt⟩ => ?_, fun ⟨e, hne⟩ => ?_⟩
    · have := g6 d h1 hlt
      omega
    · rw [e] at hne
      exact hne g4
theorem best_zero (l : List UInt8) (a : Nat) : ((PM.best l a).2 = 0 ∧ (PM.best l a).1 = 0) ∨ ((PM.best l a).2 ≠ 0 ∧ (PM.best l a).1 ≠ 0) := by
  rcases PM.best_is l a with ⟨e, h⟩ | ⟨g1, g2, g3, g4, g5, g6⟩
  · rw [e]
    exact .inl ⟨rfl, rfl⟩
  · exact .inr ⟨by omega, by omega⟩
theorem best_far (l : List UInt8) (a : Nat) : (PM.best l a).1 ≤ a := by
  rcases PM.best_is l a with ⟨e, h⟩ | ⟨g1, g2, g3, g4, g5, g6⟩
  · rw [e]
    exact Nat.zero_le _
  · unfold PM.far at g2
    omega
end ML
set_option maxRecDepth 100000 in
set_option maxHeartbeats 8000000 in
theorem walkMatchLongest (A : Option Addr) (n c : Nat) (l : List Int) (q : Int) (w : World) (hl : Ints w w.heap.size A n l) (hc : n ≤ c) (hm : c ≤ maxLen) (hz : A = none → n = 0 ∧ c = 0) (hq : (Lit.int .i64 q).wf = true) :
    Calls Try.prog 5 #[.slice A n c, .int .i64 q] w fun e w' => e = .returned (.bool true) ∧ Below w.heap.size w w' := by
  have KT := Lib.hid (text_any A n c w.heap.size l 400 w hl (Nat.le_refl _) hc hm (by omega))
  clear hl hc hm hz hq
  go_enter Try.func5, Try.ntmps5
  go_wp2_with fail
  refine KT.out.mono ?_
  clear KT
  rintro e w1 ⟨A1, n1, c1, t, rfl, hB1, hn1, hc1, hz1, hW1⟩
  have HB1 := Lib.hid hB1
  have HL1 := Lib.hid hB1.len
  clear hB1 hz1
  by_cases h0 : n1 = 0
  · subst h0
    go_wp2_with fail
    (with_reducible refine (told11 _).mono ?_)
    rintro e w2 ⟨rfl, hb2⟩
    have hW2 := hW1.trans (hb2.mono hW1.size)
    go_wp2_with fail
    go_ret
    exact ⟨rfl, hW2⟩
  · have t0 : ((n1 : Int) == 0) = false := by rw [beq_eq_false_iff_ne]; omega
    have jn : IntKind.u64.wrap (n1 : Int) = (n1 : Int) := IntWalk.u64_in _ (by omega)
    obtain ⟨a, ha, ha2⟩ := ML.at_eq q n1 (by omega) (by omega)
    have KB := Lib.hid (best_any A1 n1 c1 w1.heap.size t a w1 HB1.out (Nat.le_refl _) (by omega) ha2)
    go_wp2_with fail
    (with_reducible refine KB.out.mono ?_)
    clear KB
    rintro e w2 ⟨rfl, hb2⟩
    have hW2 := hW1.trans (hb2.mono hW1.size)
    have hcap := PM.best_cap t a
    have HCap : Hid (PM.cap t a = min 66 (n1 - a)) := by show _ = _; unfold PM.cap; rw [HL1.out]
    have hfar := ML.best_far t a
    have HZ := Lib.hid (ML.best_zero t a)
    have HP := Lib.hid (fun d h1 h2 => ML.best_says t a d h1 h2 (by omega))
    rw [HCap.out] at hcap
    generalize (PM.best t a).1 = x at *
    generalize (PM.best t a).2 = y at *
    have hy1 : y ≤ 66 := by omega
    have hy2 : a + y ≤ n1 := by omega
    have ty0 : decide ((y : Int) < 0) = false := decide_eq_false (by omega)
    have ty1 : decide ((66 : Int) < (y : Int)) = false := decide_eq_false (by omega)
    have ty2 : decide ((n1 : Int) < (a : Int) + (y : Int)) = false := decide_eq_false (by omega)
    have tx0 : decide ((x : Int) < 0) = false := decide_eq_false (by omega)
    have tx1 : decide (a < x) = false := decide_eq_false (by omega)
    clear hcap jn
    go_wp2_with fail
    clear ty0 ty1 ty2 tx0 tx1 ha
    go_loopw [9] (fun i wr => ∃ (d : Nat), 1 ≤ d ∧ d ≤ a + 1 ∧ i = .int .i64 d ∧ Below w1.heap.size w1 wr ∧ Below w.heap.size w wr) (fun i _ => a + 1 - (intOf i).toNat)
    case atStart => exact ⟨1, Nat.le_refl _, by omega, rfl, hb2, hW2⟩
    case round =>
      clear hb2 hW2 hW1
      obtain ⟨d, hd1, hd2, rfl, hb, hW⟩ := hrel
      by_cases hda : d ≤ a
      · have tda : (d : Int) ≤ (a : Int) := by omega
        go_wp2_with fail
        go_loopw [10] (fun i wq => ∃ (j : Nat), j ≤ 66 ∧ a + j ≤ n1 ∧ i = .int .i64 j ∧ Hid (∀ i, i < j → t[a + i]? = t[a + i - d]?) ∧ Below w1.heap.size w1 wq ∧ Below w.heap.size w wq) (fun i _ => 66 - (intOf i).toNat)
        case atStart => exact ⟨0, by omega, by omega, rfl, fun i hi => by omega, hb, hW⟩
        case round =>
          clear hb hW
          obtain ⟨j, hj, haj, rfl, HE, hb, hW⟩ := hrel
          have hb5 := hb.drew
          have hW5 := hW.drew
          by_cases hj66 : j < 66
          · have tj66 : (j : Int) < 66 := by omega
            obtain ⟨s, hs⟩ : ∃ s, s = a + j := ⟨_, rfl⟩
            have es1 : (a : Int) + (j : Int) = (s : Int) := by omega
            have js : IntKind.i64.wrap (s : Int) = (s : Int) := IntWalk.i64_in _ (by omega)
            by_cases hsn : s < n1
            · have tsn : (s : Int) < (n1 : Int) := by omega
              obtain ⟨r, hr⟩ : ∃ r, r = a + j - d := ⟨_, rfl⟩
              have er1 : (s : Int) - (d : Int) = (r : Int) := by omega
              have jr : IntKind.i64.wrap (r : Int) = (r : Int) := IntWalk.i64_in _ (by omega)
              have hrn : r < n1 := by omega
              obtain ⟨blk, off, p1, hA, _, g1, hc1⟩ := (HB1.out.below hb5).pick hsn
              obtain ⟨_, _, p2, hA2, _, g2, hc2⟩ := (HB1.out.below hb5).pick hrn
              subst hA
              cases hA2
              have HQ := Lib.hid hs
              have HR := Lib.hid hr
              have G1 := Lib.hid g1
              have G2 := Lib.hid g2
              clear hs hr g1 g2
              go_wp2
              by_cases hxy : p1 = p2
              · subst hxy
                refine (wp_region_seq (fun x => x = wr.drew) [(true, 0), (true, 1), (true, 2), (false, 3), (false, 4), (false, 5), (true, 6), (true, 7), (true, 8), (true, 9), (true, 10), (false, 11), (false, 12), (false, 13), (false, 14), (false, 15), (false, 16), (false, 17), (false, 18), (false, 19), (false, 20), (true, 21), (true, 22), (true, 23), (true, 24), (true, 25), (true, 26)]
                  (by kernel_rfl) (by kernel_rfl) (fun _ _ d _ _ h => by cases d <;> exact h) rfl ?_)
                generalize wr.drew = w5 at *
                iterate 3 (refine plan_force rfl rfl (fun K hK => ?_); go_wp2; refine hK.out _ _ rfl ?_; clear hK K)
                iterate 3 (apply plan_take rfl rfl rfl rfl; (intro w' hS K hK; subst hS; go_simp; exact hK))
                iterate 5 (refine plan_force rfl rfl (fun K hK => ?_); go_wp2; refine hK.out _ _ rfl ?_; clear hK K)
                iterate 10 (apply plan_take rfl rfl rfl rfl; (intro w' hS K hK; subst hS; go_simp; exact hK))
                iterate 6 (refine plan_force rfl rfl (fun K hK => ?_); go_wp2; refine hK.out _ _ rfl ?_; clear hK K)
                refine plan_nil ?_
                go_wp2_with fail
                go_roundw
                case rel =>
                  first
                    | refine ⟨j + 1, by omega, by omega, by go_num, fun i hi => ?_, hb5, hW5⟩
                    | refine ⟨_, _, _, _, _, _, _, _, _, _, _, _, _, _, _, _, _, _, _, _, _, _, _, _, _, _, _, _, _, _, ⟨j + 1, by omega, by omega, by go_num, fun i hi => ?_, hb5, hW5⟩, rfl⟩
                  rcases Nat.eq_or_lt_of_le (Nat.le_of_lt_succ hi) with rfl | hi'
                  · rw [← HR.out, ← HQ.out, G1.out, G2.out]
                  · exact HE.out i hi'
                case measure => simp [intOf]; omega
              · have hne : ((p1.toNat : Int) == (p2.toNat : Int)) = false := by
                  rw [beq_eq_false_iff_ne]
                  intro h
                  exact hxy (UInt8.toNat_inj.1 (by omega))
                have HRun : Hid (j = PM.run t a d) := PM.run_eq ⟨by rw [HCap.out]; omega, HE.out, fun _ => by
                  rw [← HR.out, ← HQ.out, G1.out, G2.out]
                  intro h
                  injection h with h
                  exact hxy h⟩
                refine (wp_region_seq (fun x => x = wr.drew) [(true, 0), (true, 1), (true, 2), (false, 3), (false, 4), (false, 5), (true, 6), (true, 7), (true, 8), (true, 9), (true, 10), (false, 11), (false, 12), (false, 13), (false, 14), (false, 15), (false, 16), (false, 17), (false, 18), (false, 19), (false, 20), (true, 21), (true, 22), (true, 23), (true, 24), (true, 25), (true, 26)]
                  (by kernel_rfl) (by kernel_rfl) (fun _ _ d _ _ h => by cases d <;> exact h) rfl ?_)
                generalize wr.drew = w5 at *
                iterate 3 (refine plan_force rfl rfl (fun K hK => ?_); go_wp2; refine hK.out _ _ rfl ?_; clear hK K)
                iterate 3 (apply plan_take rfl rfl rfl rfl; (intro w' hS K hK; subst hS; go_simp; exact hK))
                iterate 5 (refine plan_force rfl rfl (fun K hK => ?_); go_wp2; refine hK.out _ _ rfl ?_; clear hK K)
                iterate 10 (apply plan_take rfl rfl rfl rfl; (intro w' hS K hK; subst hS; go_simp; exact hK))
                iterate 6 (refine plan_force rfl rfl (fun K hK => ?_); go_wp2; refine hK.out _ _ rfl ?_; clear hK K)
                refine plan_nil ?_
                clear hne HQ HR G1 G2 hc1 hc2 jr er1
                have hP := HP.out d hd1 hda
                rw [← HRun.out] at hP
                obtain ⟨P1, P2, P3⟩ := hP
                clear HRun
                have key : (y < j ∧ j < 3 ∧ d ≠ x) ∨ (¬ y < j ∧ j < 3 ∧ d = x ∧ j = y) ∨ (¬ y < j ∧ j < 3 ∧ d ≠ x) ∨ (3 ≤ j ∧ j = y ∧ d = x) ∨ (3 ≤ j ∧ j = y ∧ ¬ d < x ∧ d ≠ x) ∨ (¬ y < j ∧ 3 ≤ j ∧ j ≠ y ∧ d ≠ x) := by omega
                clear P1 P2 P3
                rcases key with ⟨c1, c2, c3⟩ | ⟨c1, c2, rfl, rfl⟩ | ⟨c1, c2, c3⟩ | ⟨c1, rfl, rfl⟩ | ⟨c1, rfl, c2, c3⟩ | ⟨c1, c2, c3, c4⟩
                · have ty : (y : Int) < (j : Int) := by omega
                  have t3 : ¬ (3 : Int) ≤ (j : Int) := by omega
                  have tx : ((d : Int) == (x : Int)) = false := by rw [beq_eq_false_iff_ne]; omega
                  go_wp2_with fail
                  go_roundw
                  case rel => first | exact ⟨d + 1, by omega, by omega, by go_num, hb5, hW5⟩ | exact ⟨d + 1, by omega, by omega, by omega⟩
                  case measure => simp [intOf]; omega
                · have ty : ¬ (j : Int) < (j : Int) := by omega
                  have t3 : ¬ (3 : Int) ≤ (j : Int) := by omega
                  go_wp2_with fail
                  go_roundw
                  case rel => first | exact ⟨d + 1, by omega, by omega, by go_num, hb5, hW5⟩ | exact ⟨d + 1, by omega, by omega, by omega⟩
                  case measure => simp [intOf]; omega
                · have ty : ¬ (y : Int) < (j : Int) := by omega
                  have t3 : ¬ (3 : Int) ≤ (j : Int) := by omega
                  have tx : ((d : Int) == (x : Int)) = false := by rw [beq_eq_false_iff_ne]; omega
                  go_wp2_with fail
                  go_roundw
                  case rel => first | exact ⟨d + 1, by omega, by omega, by go_num, hb5, hW5⟩ | exact ⟨d + 1, by omega, by omega, by omega⟩
                  case measure => simp [intOf]; omega
                · have ty : ¬ (j : Int) < (j : Int) := by omega
                  have t3 : (3 : Int) ≤ (j : Int) := by omega
                  have td : ¬ (d : Int) < (d : Int) := by omega
                  go_wp2_with fail
                  go_roundw
                  case rel => first | exact ⟨d + 1, by omega, by omega, by go_num, hb5, hW5⟩ | exact ⟨d + 1, by omega, by omega, by omega⟩
                  case measure => simp [intOf]; omega
                · have ty : ¬ (j : Int) < (j : Int) := by omega
                  have t3 : (3 : Int) ≤ (j : Int) := by omega
                  have td : ¬ (d : Int) < (x : Int) := by omega
                  have tx : ((d : Int) == (x : Int)) = false := by rw [beq_eq_false_iff_ne]; omega
                  go_wp2_with fail
                  go_roundw
                  case rel => first | exact ⟨d + 1, by omega, by omega, by go_num, hb5, hW5⟩ | exact ⟨d + 1, by omega, by omega, by omega⟩
                  case measure => simp [intOf]; omega
                · have ty : ¬ (y : Int) < (j : Int) := by omega
                  have t3 : (3 : Int) ≤ (j : Int) := by omega
                  have tj : ((j : Int) == (y : Int)) = false := by rw [beq_eq_false_iff_ne]; omega
                  have tx : ((d : Int) == (x : Int)) = false := by rw [beq_eq_false_iff_ne]; omega
                  go_wp2_with fail
                  go_roundw
                  case rel => first | exact ⟨d + 1, by omega, by omega, by go_num, hb5, hW5⟩ | exact ⟨d + 1, by omega, by omega, by omega⟩
                  case measure => simp [intOf]; omega
            · have tsn : decide (s < n1) = false := decide_eq_false hsn
              have HRun : Hid (j = PM.run t a d) := PM.run_eq ⟨by rw [HCap.out]; omega, HE.out, fun h => by rw [HCap.out] at h; omega⟩
              clear hs
              go_wp2
              refine (wp_region_seq (fun x => x = wr.drew) [(true, 0), (true, 1), (true, 2), (false, 3), (false, 4), (false, 5), (true, 6), (true, 7), (true, 8), (true, 9), (true, 10), (false, 11), (false, 12), (false, 13), (false, 14), (false, 15), (false, 16), (false, 17), (false, 18), (false, 19), (false, 20), (true, 21), (true, 22), (true, 23), (true, 24), (true, 25), (true, 26)]
                (by kernel_rfl) (by kernel_rfl) (fun _ _ d _ _ h => by cases d <;> exact h) rfl ?_)
              generalize wr.drew = w5 at *
              iterate 3 (refine plan_force rfl rfl (fun K hK => ?_); go_wp2; refine hK.out _ _ rfl ?_; clear hK K)
              iterate 3 (apply plan_take rfl rfl rfl rfl; (intro w' hS K hK; subst hS; go_simp; exact hK))
              iterate 5 (refine plan_force rfl rfl (fun K hK => ?_); go_wp2; refine hK.out _ _ rfl ?_; clear hK K)
              iterate 10 (apply plan_drop rfl rfl rfl rfl; (intro K hK; go_simp; exact hK))
              iterate 5 (apply plan_pass (S := fun x => x = w5) rfl rfl rfl; (intro K hK; go_simp; exact hK))
              iterate 1 (refine plan_force rfl rfl (fun K hK => ?_); go_wp2; refine hK.out _ _ rfl ?_; clear hK K)
              refine plan_nil ?_
              have hP := HP.out d hd1 hda
              rw [← HRun.out] at hP
              obtain ⟨P1, P2, P3⟩ := hP
              clear HRun
              have key : (y < j ∧ j < 3 ∧ d ≠ x) ∨ (¬ y < j ∧ j < 3 ∧ d = x ∧ j = y) ∨ (¬ y < j ∧ j < 3 ∧ d ≠ x) ∨ (3 ≤ j ∧ j = y ∧ d = x) ∨ (3 ≤ j ∧ j = y ∧ ¬ d < x ∧ d ≠ x) ∨ (¬ y < j ∧ 3 ≤ j ∧ j ≠ y ∧ d ≠ x) := by omega
              clear P1 P2 P3
              rcases key with ⟨c1, c2, c3⟩ | ⟨c1, c2, rfl, rfl⟩ | ⟨c1, c2, c3⟩ | ⟨c1, rfl, rfl⟩ | ⟨c1, rfl, c2, c3⟩ | ⟨c1, c2, c3, c4⟩
              · have ty : (y : Int) < (j : Int) := by omega
                have t3 : ¬ (3 : Int) ≤ (j : Int) := by omega
                have tx : ((d : Int) == (x : Int)) = false := by rw [beq_eq_false_iff_ne]; omega
                go_wp2_with fail
                go_roundw
                case rel => first | exact ⟨d + 1, by omega, by omega, by go_num, hb5, hW5⟩ | exact ⟨d + 1, by omega, by omega, by omega⟩
                case measure => simp [intOf]; omega
              · have ty : ¬ (j : Int) < (j : Int) := by omega
                have t3 : ¬ (3 : Int) ≤ (j : Int) := by omega
                go_wp2_with fail
                go_roundw
                case rel => first | exact ⟨d + 1, by omega, by omega, by go_num, hb5, hW5⟩ | exact ⟨d + 1, by omega, by omega, by omega⟩
                case measure => simp [intOf]; omega
              · have ty : ¬ (y : Int) < (j : Int) := by omega
                have t3 : ¬ (3 : Int) ≤ (j : Int) := by omega
                have tx : ((d : Int) == (x : Int)) = false := by rw [beq_eq_false_iff_ne]; omega
                go_wp2_with fail
                go_roundw
                case rel => first | exact ⟨d + 1, by omega, by omega, by go_num, hb5, hW5⟩ | exact ⟨d + 1, by omega, by omega, by omega⟩
                case measure => simp [intOf]; omega
              · have ty : ¬ (j : Int) < (j : Int) := by omega
                have t3 : (3 : Int) ≤ (j : Int) := by omega
                have td : ¬ (d : Int) < (d : Int) := by omega
                go_wp2_with fail
                go_roundw
                case rel => first | exact ⟨d + 1, by omega, by omega, by go_num, hb5, hW5⟩ | exact ⟨d + 1, by omega, by omega, by omega⟩
                case measure => simp [intOf]; omega
              · have ty : ¬ (j : Int) < (j : Int) := by omega
                have t3 : (3 : Int) ≤ (j : Int) := by omega
                have td : ¬ (d : Int) < (x : Int) := by omega
                have tx : ((d : Int) == (x : Int)) = false := by rw [beq_eq_false_iff_ne]; omega
                go_wp2_with fail
                go_roundw
                case rel => first | exact ⟨d + 1, by omega, by omega, by go_num, hb5, hW5⟩ | exact ⟨d + 1, by omega, by omega, by omega⟩
                case measure => simp [intOf]; omega
              · have ty : ¬ (y : Int) < (j : Int) := by omega
                have t3 : (3 : Int) ≤ (j : Int) := by omega
                have tj : ((j : Int) == (y : Int)) = false := by rw [beq_eq_false_iff_ne]; omega
                have tx : ((d : Int) == (x : Int)) = false := by rw [beq_eq_false_iff_ne]; omega
                go_wp2_with fail
                go_roundw
                case rel => first | exact ⟨d + 1, by omega, by omega, by go_num, hb5, hW5⟩ | exact ⟨d + 1, by omega, by omega, by omega⟩
                case measure => simp [intOf]; omega
          · have tj66 : decide ((j : Int) < 66) = false := decide_eq_false (by omega)
            have HRun : Hid (j = PM.run t a d) := PM.run_eq ⟨by rw [HCap.out]; omega, HE.out, fun h => by rw [HCap.out] at h; omega⟩
            go_wp2
            refine (wp_region_seq (fun x => x = wr.drew) [(true, 0), (true, 1), (true, 2), (false, 3), (false, 4), (false, 5), (true, 6), (true, 7), (true, 8), (true, 9), (true, 10), (false, 11), (false, 12), (false, 13), (false, 14), (false, 15), (false, 16), (false, 17), (false, 18), (false, 19), (false, 20), (true, 21), (true, 22), (true, 23), (true, 24), (true, 25), (true, 26)]
              (by kernel_rfl) (by kernel_rfl) (fun _ _ d _ _ h => by cases d <;> exact h) rfl ?_)
            generalize wr.drew = w5 at *
            iterate 3 (refine plan_force rfl rfl (fun K hK => ?_); go_wp2; refine hK.out _ _ rfl ?_; clear hK K)
            iterate 3 (apply plan_drop rfl rfl rfl rfl; (intro K hK; go_simp; exact hK))
            iterate 3 (apply plan_pass (S := fun x => x = w5) rfl rfl rfl; (intro K hK; go_simp; exact hK))
            iterate 2 (refine plan_force rfl rfl (fun K hK => ?_); go_wp2; refine hK.out _ _ rfl ?_; clear hK K)
            iterate 10 (apply plan_drop rfl rfl rfl rfl; (intro K hK; go_simp; exact hK))
            iterate 5 (apply plan_pass (S := fun x => x = w5) rfl rfl rfl; (intro K hK; go_simp; exact hK))
            iterate 1 (refine plan_force rfl rfl (fun K hK => ?_); go_wp2; refine hK.out _ _ rfl ?_; clear hK K)
            refine plan_nil ?_
            have hP := HP.out d hd1 hda
            rw [← HRun.out] at hP
            obtain ⟨P1, P2, P3⟩ := hP
            clear HRun
            have key : (y < j ∧ j < 3 ∧ d ≠ x) ∨ (¬ y < j ∧ j < 3 ∧ d = x ∧ j = y) ∨ (¬ y < j ∧ j < 3 ∧ d ≠ x) ∨ (3 ≤ j ∧ j = y ∧ d = x) ∨ (3 ≤ j ∧ j = y ∧ ¬ d < x ∧ d ≠ x) ∨ (¬ y < j ∧ 3 ≤ j ∧ j ≠ y ∧ d ≠ x) := by omega
            clear P1 P2 P3
            rcases key with ⟨c1, c2, c3⟩ | ⟨c1, c2, rfl, rfl⟩ | ⟨c1, c2, c3⟩ | ⟨c1, rfl, rfl⟩ | ⟨c1, rfl, c2, c3⟩ | ⟨c1, c2, c3, c4⟩
            · have ty : (y : Int) < (j : Int) := by omega
              have t3 : ¬ (3 : Int) ≤ (j : Int) := by omega
              have tx : ((d : Int) == (x : Int)) = false := by rw [beq_eq_false_iff_ne]; omega
              go_wp2_with fail
              go_roundw
              case rel => first | exact ⟨d + 1, by omega, by omega, by go_num, hb5, hW5⟩ | exact ⟨d + 1, by omega, by omega, by omega⟩
              case measure => simp [intOf]; omega
            · have ty : ¬ (j : Int) < (j : Int) := by omega
              have t3 : ¬ (3 : Int) ≤ (j : Int) := by omega
              go_wp2_with fail
              go_roundw
              case rel => first | exact ⟨d + 1, by omega, by omega, by go_num, hb5, hW5⟩ | exact ⟨d + 1, by omega, by omega, by omega⟩
              case measure => simp [intOf]; omega
            · have ty : ¬ (y : Int) < (j : Int) := by omega
              have t3 : ¬ (3 : Int) ≤ (j : Int) := by omega
              have tx : ((d : Int) == (x : Int)) = false := by rw [beq_eq_false_iff_ne]; omega
              go_wp2_with fail
              go_roundw
              case rel => first | exact ⟨d + 1, by omega, by omega, by go_num, hb5, hW5⟩ | exact ⟨d + 1, by omega, by omega, by omega⟩
              case measure => simp [intOf]; omega
            · have ty : ¬ (j : Int) < (j : Int) := by omega
              have t3 : (3 : Int) ≤ (j : Int) := by omega
              have td : ¬ (d : Int) < (d : Int) := by omega
              go_wp2_with fail
              go_roundw
              case rel => first | exact ⟨d + 1, by omega, by omega, by go_num, hb5, hW5⟩ | exact ⟨d + 1, by omega, by omega, by omega⟩
              case measure => simp [intOf]; omega
            · have ty : ¬ (j : Int) < (j : Int) := by omega
              have t3 : (3 : Int) ≤ (j : Int) := by omega
              have td : ¬ (d : Int) < (x : Int) := by omega
              have tx : ((d : Int) == (x : Int)) = false := by rw [beq_eq_false_iff_ne]; omega
              go_wp2_with fail
              go_roundw
              case rel => first | exact ⟨d + 1, by omega, by omega, by go_num, hb5, hW5⟩ | exact ⟨d + 1, by omega, by omega, by omega⟩
              case measure => simp [intOf]; omega
            · have ty : ¬ (y : Int) < (j : Int) := by omega
              have t3 : (3 : Int) ≤ (j : Int) := by omega
              have tj : ((j : Int) == (y : Int)) = false := by rw [beq_eq_false_iff_ne]; omega
              have tx : ((d : Int) == (x : Int)) = false := by rw [beq_eq_false_iff_ne]; omega
              go_wp2_with fail
              go_roundw
              case rel => first | exact ⟨d + 1, by omega, by omega, by go_num, hb5, hW5⟩ | exact ⟨d + 1, by omega, by omega, by omega⟩
              case measure => simp [intOf]; omega
      · have tda : ¬ (d : Int) ≤ (a : Int) := by omega
        go_wp2_with fail
        (with_reducible refine (told11 _).mono ?_)
        rintro e w6 ⟨rfl, hb6⟩
        have hW6 := hW.trans (hb6.mono hW.size)
        rcases HZ.out with ⟨h1, h2⟩ | ⟨h1, h2⟩
        · subst h1 h2
          go_wp2_with fail
          go_ret
          exact ⟨rfl, hW6⟩
        · have z1 : ((y : Int) == 0) = false := by rw [beq_eq_false_iff_ne]; omega
          have z2 : ((x : Int) == 0) = false := by rw [beq_eq_false_iff_ne]; omega
          go_wp2_with fail
          go_ret
          exact ⟨rfl, hW6⟩
end Go.Proofs.Ythoipfdapmjcfaa
