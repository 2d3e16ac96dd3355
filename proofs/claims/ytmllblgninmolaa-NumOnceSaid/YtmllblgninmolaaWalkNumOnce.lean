/- The walk of NumOnce. -/
import Derived.Test.YtmllblgninmolaaTold9
import Derived.Test.YtmllblgninmolaaPass
namespace Go.Proofs.Ytmllblgninmolaa
open Go.RowKit
set_option linter.unusedVariables false
theorem getRes_cases (l : List UInt8) : (∃ v k, getRes l 0 = (v, k, 0) ∧ 1 ≤ k ∧ k ≤ l.length ∧ l.take k = PN.enc v ∧ v < PN.M64) ∨ getRes l 0 = (0, 0, 3) := by
  unfold getRes
  rw [List.drop_zero]
  cases h : PN.dec true 0 1 l with
  | none => exact .inr rfl
  | some p =>
    obtain ⟨v, k⟩ := p
    obtain ⟨m, h1, h2, h3, h4, _, h6⟩ := PN.dec_only l true 0 1 v k h
    have : v = m := by omega
    subst this
    exact .inl ⟨v, k, by simp [resOf], h3, h4, h2, h6⟩
set_option maxRecDepth 100000 in
set_option maxHeartbeats 4000000 in
theorem numOnce (A : Option Addr) (n c : Nat) (l : List UInt8) (x y : Nat) (w : World) (hb : Bytes w w.heap.size A n l) (hc : n ≤ c) (hm : c ≤ 9223372036854775807) (hx : x < PN.M64) (hy : y < PN.M64) :
    Calls Try.prog 4 #[.slice A n c, .int .u64 (x : Int), .int .u64 (y : Int)] w fun e w' => e = .returned (.bool true) ∧ Below w.heap.size w w' := by
  have HB := Lib.hid hb
  clear hb
  by_cases hlt : (30 : Int) < (n : Int)
  · go_enter Try.func4, Try.ntmps4
    go_wp2_with (go_at_call 9; refine (told9 _).mono ?_; rintro e w2 ⟨rfl, hb2⟩)
    go_ret
    exact ⟨rfl, hb2⟩
  · obtain ⟨a, b, ha, hbm, hab, hxy⟩ : ∃ a b : Nat, a < PN.M64 ∧ b < PN.M64 ∧ Hid ((PN.enc a).length ≤ (PN.enc b).length) ∧ ((y : Int) < (x : Int) ∧ Hid (a = y ∧ b = x) ∨ ¬ (y : Int) < (x : Int) ∧ Hid (a = x ∧ b = y)) := by
      by_cases h : y < x
      · exact ⟨y, x, hy, hx, PN.enc_mono y x (by omega), .inl ⟨by omega, rfl, rfl⟩⟩
      · exact ⟨x, y, hx, hy, PN.enc_mono x y (by omega), .inr ⟨by omega, rfl, rfl⟩⟩
    have hget := numGet A n c w.heap.size 0 l w HB.out (by omega) (by omega)
    have HA := Lib.hid ha
    have HBm := Lib.hid hbm
    have HLb := Lib.hid (PN.enc_len64 b hbm)
    clear ha hbm
    rcases getRes_cases l with ⟨v, k, hr, k1, k2, hk, hv⟩ | hr
    · rw [hr] at hget
      rw [HB.out.len] at k2
      have hget' : Calls Try.prog 11 #[.slice A n c, .int .i64 0] w fun e w' => e = .returned (.tuple #[.int .u64 (v : Int), .int .i64 (k : Int), .int .i64 0]) ∧ w = w' := hget
      have HG := Lib.hid hget'
      have HK := Lib.hid hk
      clear hget hget' hr hk
      have HV := Lib.hid hv
      clear hv
      have k3 : ¬ (k : Int) < 1 := by omega
      have k4 : ¬ (n : Int) < (k : Int) := by omega
      have k5 := decide_eq_false k3
      have k6 := decide_eq_false k4
      have k7 : decide (n < k) = false := decide_eq_false (by omega)
      go_enter Try.func4, Try.ntmps4
      go_wp2_with fail
      refine HG.out.mono ?_
      rintro e w1 ⟨rfl, rfl⟩
      clear HG
      go_wp2_with fail
      refine wp_region_seq (fun w' => Below w.heap.size w w') [(true, 0), (true, 1), (true, 2), (true, 3), (true, 4), (true, 5), (false, 6), (true, 7), (true, 8), (true, 9), (true, 10), (true, 11), (false, 12), (false, 15), (false, 16), (false, 17), (false, 18), (true, 13), (true, 14), (true, 19), (true, 20), (true, 21)]
        (by kernel_rfl) (by kernel_rfl) (fun _ _ d _ _ h => by cases d <;> exact h) (Below.refl _ _).drew ?_
      have hS0 : Below w.heap.size w w.drew := (Below.refl _ _).drew
      generalize w.drew = w2 at *
      iterate 6 (refine plan_force rfl rfl (fun K hK => ?_); go_wp2_with fail; refine hK.out _ _ hS0 ?_; clear hK K)
      apply plan_take rfl rfl rfl rfl
      · intro w' hS K hK; clear hS; go_simp; exact hK
      iterate 5 (refine plan_force rfl rfl (fun K hK => ?_); go_wp2_with fail; refine hK.out _ _ hS0 ?_; clear hK K)
      iterate 5 (apply plan_take rfl rfl rfl rfl; (intro w' hS K hK; have hs := run_front_at row_u8 A n c k (by omega) w'; have hcv := conv_bytes conv_u8 c ((HB.out.below hS).part (i := 0) (j := k) (m := c) (by omega) (by omega) (by omega)); rw [cutA_zero, Nat.sub_zero, List.drop_zero, HK.out] at hcv; clear hS; go_simp; exact hK))
      refine plan_force rfl rfl (fun K hK => ?_)
      go_wp2_with fail
      refine (numPut v HV.out _).mono ?_
      rintro e w3 ⟨v3, rfl, hO3, hb3⟩
      obtain ⟨A3, n3, c3, rfl, hB3, _, _⟩ := hO3.form_n
      have hS3 := hS0.trans (hb3.mono hS0.size)
      clear hb3 hO3 hS0
      have hcv3 := conv_bytes conv_u8 c3 hB3
      clear hB3
      go_wp2_with fail
      refine hK.out _ _ hS3 ?_; clear hK K
      refine plan_force rfl rfl (fun K hK => ?_); go_wp2_with fail; refine hK.out _ _ hS3 ?_; clear hK K
      clear hcv3
      iterate 3 (refine plan_force rfl rfl (fun K hK => ?_); go_wp2_with fail; refine hK.out _ _ hS3 ?_; clear hK K)
      refine plan_nil ?_
      clear k3 k4 k5 k6 k7 HK HB HV
      rcases hxy with ⟨hlt2, HE⟩ | ⟨hlt2, HE⟩
      all_goals
        obtain ⟨rfl, rfl⟩ := HE.out
        clear HE
        go_wp2_with fail
        (with_reducible refine (told9 _).mono ?_)
        rintro e w5 ⟨rfl, hb5⟩
        have hS5 := hS3.trans (hb5.mono hS3.size)
        clear hb5
        go_wp2_with fail
        (with_reducible refine (numPut _ HA.out _).mono ?_)
        rintro e w6 ⟨v6, rfl, hO6, hb6⟩
        obtain ⟨A6, n6, c6, rfl, hB6, _, _⟩ := hO6.form_n
        have HN6 := Lib.hid hB6.len
        have hS6 := hS5.trans (hb6.mono hS5.size)
        clear hO6 hB6 hb6 hS5
        go_wp2_with fail
        (with_reducible refine (numPut _ HBm.out _).mono ?_)
        rintro e w7 ⟨v7, rfl, hO7, hb7⟩
        obtain ⟨A7, n7, c7, rfl, hB7, _, _⟩ := hO7.form_n
        have HN7 := Lib.hid hB7.len
        have hS7 := hS6.trans (hb7.mono hS6.size)
        clear hO7 hB7 hb7 hS6
        have d1 : n6 ≤ n7 := by rw [← HN6.out, ← HN7.out]; exact hab.out
        have d2 := decide_eq_true d1
        go_wp2_with fail
        (with_reducible refine (numPut _ HBm.out _).mono ?_)
        rintro e w8 ⟨v8, rfl, hO8, hb8⟩
        obtain ⟨A8, n8, c8, rfl, hB8, _, _⟩ := hO8.form_n
        have d3 : n8 ≤ 18 := by rw [← hB8.len]; have := HLb.out; omega
        have d4 := decide_eq_true d3
        have d5 : decide ((n8 : Int) ≤ 18) = true := decide_eq_true (by omega)
        have hS8 := hS7.trans (hb8.mono hS7.size)
        clear hO8 hB8 hb8 hS7
        go_wp2_with fail
        go_ret
        exact ⟨rfl, hS8⟩
    · rw [hr] at hget
      have hget' : Calls Try.prog 11 #[.slice A n c, .int .i64 0] w fun e w' => e = .returned (.tuple #[.int .u64 0, .int .i64 0, .int .i64 3]) ∧ w = w' := hget
      have HG := Lib.hid hget'
      clear hget hget' hr
      go_enter Try.func4, Try.ntmps4
      go_wp2_with fail
      refine HG.out.mono ?_
      rintro e w1 ⟨rfl, rfl⟩
      clear HG
      go_wp2_with fail
      refine wp_region_seq (fun w' => Below w.heap.size w w') [(true, 0), (true, 1), (true, 2), (true, 3), (true, 4), (true, 5), (false, 6), (true, 7), (true, 8), (true, 9), (true, 10), (true, 11), (false, 12), (false, 15), (false, 16), (false, 17), (false, 18), (true, 13), (true, 14), (true, 19), (true, 20), (true, 21)]
        (by kernel_rfl) (by kernel_rfl) (fun _ _ d _ _ h => by cases d <;> exact h) (Below.refl _ _).drew ?_
      have hS0 : Below w.heap.size w w.drew := (Below.refl _ _).drew
      generalize w.drew = w2 at *
      iterate 3 (refine plan_force rfl rfl (fun K hK => ?_); go_wp2_with fail; refine hK.out _ _ hS0 ?_; clear hK K)
      iterate 3 (apply plan_pass rfl rfl hS0; (intro K hK; go_simp; exact hK))
      (apply plan_drop rfl rfl rfl rfl; (intro K hK; go_simp; exact hK))
      iterate 5 (apply plan_pass rfl rfl hS0; (intro K hK; go_simp; exact hK))
      iterate 5 (apply plan_drop rfl rfl rfl rfl; (intro K hK; go_simp; exact hK))
      iterate 4 (apply plan_pass rfl rfl hS0; (intro K hK; go_simp; exact hK))
      refine plan_force rfl rfl (fun K hK => ?_); go_wp2_with fail; refine hK.out _ _ hS0 ?_; clear hK K
      refine plan_nil ?_
      rcases hxy with ⟨hlt2, HE⟩ | ⟨hlt2, HE⟩
      all_goals
        obtain ⟨rfl, rfl⟩ := HE.out
        clear HE
        go_wp2_with fail
        (with_reducible refine (told9 _).mono ?_)
        rintro e w5 ⟨rfl, hb5⟩
        have hS5 := hS0.trans (hb5.mono hS0.size)
        clear hb5
        go_wp2_with fail
        (with_reducible refine (numPut _ HA.out _).mono ?_)
        rintro e w6 ⟨v6, rfl, hO6, hb6⟩
        obtain ⟨A6, n6, c6, rfl, hB6, _, _⟩ := hO6.form_n
        have HN6 := Lib.hid hB6.len
        have hS6 := hS5.trans (hb6.mono hS5.size)
        clear hO6 hB6 hb6 hS5
        go_wp2_with fail
        (with_reducible refine (numPut _ HBm.out _).mono ?_)
        rintro e w7 ⟨v7, rfl, hO7, hb7⟩
        obtain ⟨A7, n7, c7, rfl, hB7, _, _⟩ := hO7.form_n
        have HN7 := Lib.hid hB7.len
        have hS7 := hS6.trans (hb7.mono hS6.size)
        clear hO7 hB7 hb7 hS6
        have d1 : n6 ≤ n7 := by rw [← HN6.out, ← HN7.out]; exact hab.out
        have d2 := decide_eq_true d1
        go_wp2_with fail
        (with_reducible refine (numPut _ HBm.out _).mono ?_)
        rintro e w8 ⟨v8, rfl, hO8, hb8⟩
        obtain ⟨A8, n8, c8, rfl, hB8, _, _⟩ := hO8.form_n
        have d3 : n8 ≤ 18 := by rw [← hB8.len]; have := HLb.out; omega
        have d4 := decide_eq_true d3
        have d5 : decide ((n8 : Int) ≤ 18) = true := decide_eq_true (by omega)
        have hS8 := hS7.trans (hb8.mono hS7.size)
        clear hO8 hB8 hb8 hS7
        go_wp2_with fail
        go_ret
        exact ⟨rfl, hS8⟩
theorem walkNumOnce (A : Option Addr) (n c : Nat) (l : List UInt8) (x y : Int) (w : World) (hb : Bytes w w.heap.size A n l) (hc : n ≤ c) (hm : c ≤ maxLen) (hz : A = none → n = 0 ∧ c = 0) (hx : (Lit.int .u64 x).wf = true) (hy : (Lit.int .u64 y).wf = true) :
    Calls Try.prog 4 #[.slice A n c, .int .u64 x, .int .u64 y] w fun e w' => e = .returned (.bool true) ∧ Below w.heap.size w w' := by
  unfold maxLen at hm
  have h1 := bounds_u64 hx
  have h2 := bounds_u64 hy
  have e1 : ((x.toNat : Nat) : Int) = x := by omega
  have e2 : ((y.toNat : Nat) : Int) = y := by omega
  have := numOnce A n c l x.toNat y.toNat w hb hc (by omega) (by unfold PN.M64; omega) (by unfold PN.M64; omega)
  rw [e1, e2] at this
  exact this
end Go.Proofs.Ytmllblgninmolaa
