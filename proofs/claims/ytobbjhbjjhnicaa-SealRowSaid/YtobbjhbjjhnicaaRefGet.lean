/- The walks of the references' Get, runs and num. -/
import Derived.Test.YtobbjhbjjhnicaaPlainSeal
namespace Go.Proofs.Ytobbjhbjjhnicaa
open Go.RowKit
set_option linter.unusedVariables false
theorem str_at (b : ByteArray) (j : Nat) (h : j < b.size) : ∃ y : UInt8, b.data.toList[j]? = some y ∧ ∀ w : World, (Instr.index 9 (.string b) (.int .i64 (j : Int))).run Try.prog w = .ok (.int .u8 (y.toNat : Int)) w := by
  have h2 : j < b.data.toList.length := by rw [Array.length_toList]; exact h
  refine ⟨b.data.toList[j], List.getElem?_eq_getElem h2, fun w => ?_⟩
  rw [run_index_string w 9 b .i64 (j : Int) Try.underlying9, dif_pos ⟨by omega, by omega⟩]
  rfl
theorem drop_str {l : List UInt8} {i : Nat} {x : UInt8} (h : l[i]? = some x) : l.drop i = x :: l.drop (i + 1) := by
  obtain ⟨hi, rfl⟩ := List.getElem?_eq_some_iff.1 h
  exact List.drop_eq_getElem_cons hi
namespace RG
theorem pow_le {j : Nat} (hj : j ≤ 8) : 0 < 250 ^ j ∧ 250 ^ j ≤ 15258789062500000000 := by
  refine ⟨Nat.pow_pos (by decide), ?_⟩
  have := Nat.pow_le_pow_right (n := 250) (by decide) hj
  exact Nat.le_trans this (by decide)
theorem pow_lt {j : Nat} (hj : j ≤ 7) : 250 ^ j * 250 ≤ 15258789062500000000 := by
  have := (pow_le (j := j + 1) (by omega)).2
  rwa [Nat.pow_succ] at this
theorem mul_lt {j x s c : Nat} (hx : x = 250 ^ j) (hj : j ≤ 7) (hc : c < 250) (hs : s < x) : x * c ≤ 15258789062500000000 ∧ s + x * c < x * 250 ∧ x * 250 ≤ 15258789062500000000 := by
  have h1 := pow_lt hj
  rw [← hx] at h1
  have h2 : x * c ≤ x * 249 := Nat.mul_le_mul_left x (by omega)
  omega
theorem pair {f : Bool} {j x s : Nat} {b c : UInt8} (hx : x = 250 ^ j) (hj : j ≤ 7) (hb : b.toNat = 250) (hc : c.toNat < 250) (hs : s < x) (r : List UInt8) :
    PN.dec f s x (b :: c :: r) = (PN.dec false (s + x * c.toNat) (x * 250) r).map fun p => (p.1, p.2 + 2) := by
  obtain ⟨h1, h2, h3⟩ := mul_lt hx hj hc hs
  have h4 := (pow_le (j := j) (by omega)).1
  rw [← hx] at h4
  rw [PN.dec_pair hb hc, Nat.mul_comm c.toNat x, if_neg (by unfold PN.M64; omega), PN.up, if_pos (by unfold PN.M64; omega)]
theorem pair_far {f : Bool} {x s : Nat} {b c : UInt8} (hx : x = 250 ^ 8) (hb : b.toNat = 250) (hc : c.toNat < 250) (r : List UInt8) : PN.dec f s x (b :: c :: r) = none := by
  rw [PN.dec_pair hb hc]
  split
  · rfl
  · rw [PN.up, if_neg (by unfold PN.M64; rw [hx]; decide), PN.dec_zero]
    rfl
theorem last {j x s d : Nat} {f : Bool} (hx : x = 250 ^ j) (hj : j ≤ 8) (hs : s < x) (hd : d < 250) (hf : f = true → s = 0 ∧ x = 1) :
    PN.fin f s x d = if f = false ∧ (d = 0 ∨ (18446744073709551615 - s) / x < d) then none else some (s + x * d, 1) := by
  obtain ⟨h1, h2⟩ := pow_le hj
  rw [← hx] at h1 h2
  have h3 : (18446744073709551615 - s) / x < d ↔ 18446744073709551615 - s < d * x := Nat.div_lt_iff_lt_mul h1
  unfold PN.fin PN.M64
  rw [Nat.mul_comm x d]
  cases f
  · by_cases h : d = 0 ∨ (18446744073709551615 - s) / x < d
    · refine (if_pos ?_).trans (if_pos ⟨rfl, h⟩).symm
      rcases h with h | h
      · exact .inr (.inr (.inr ⟨h, rfl⟩))
      · rw [h3] at h
        exact .inr (.inr (.inl (by omega)))
    · refine (if_neg ?_).trans (if_neg (fun e => h e.2)).symm
      rintro (e | e | e | e)
      · omega
      · exact h (.inr (h3.2 (by omega)))
      · exact h (.inr (h3.2 (by omega)))
      · exact h (.inl e.1)
  · obtain ⟨rfl, rfl⟩ := hf rfl
    refine (if_neg ?_).trans (if_neg (fun e => by cases e.1)).symm
    rintro (e | e | e | e)
    · omega
    · omega
    · omega
    · cases e.2
theorem res_map (t i : Nat) (o : Option (Nat × Nat)) : resOf t i (o.map fun p => (p.1, p.2 + 2)) = resOf t (i + 2) o := by
  cases o with
  | none => rfl
  | some p =>
    obtain ⟨v, k⟩ := p
    show (v, i + (k + 2), 0) = (v, i + 2 + k, 0)
    rw [show i + (k + 2) = i + 2 + k by omega]
end RG
set_option maxRecDepth 100000 in
set_option maxHeartbeats 8000000 in
theorem refGet (b : ByteArray) (n t : Nat) (w : World) (hn : b.size = n) (hn2 : n ≤ 1000000000) (ht : t ≤ n) :
    Calls Try.prog 46 #[.string b, .int .i64 (t : Int)] w fun e w' => e = .returned (.tuple #[.int .u64 ((getRes b.data.toList t).1 : Int), .int .i64 ((getRes b.data.toList t).2.1 : Int), .int .i64 ((getRes b.data.toList t).2.2 : Int)]) ∧ w = w' := by
  have t0 : ¬ (t : Int) < 0 := by omega
  have t1 : ¬ (n : Int) < (t : Int) := by omega
  obtain ⟨R, hR⟩ : ∃ R, R = getRes b.data.toList t := ⟨_, rfl⟩
  rw [← hR]
  have HR := Lib.hid hR
  have hlen : b.data.toList.length = n := by rw [Array.length_toList]; exact hn
  have HLn := Lib.hid hlen
  clear hR hlen
  go_enter Try.func46, Try.ntmps46
  go_wp2
  go_loopw [7, 8, 9] (fun u v q wr => ∃ (s x i j : Nat), u = .int .u64 (s : Int) ∧ v = .int .u64 (x : Int) ∧ q = .int .i64 (i : Int) ∧ i = t + 2 * j ∧ i ≤ n ∧ j ≤ 8 ∧ s < x ∧ x ≤ 15258789062500000000 ∧ Hid (x = 250 ^ j) ∧ Hid (j = 0 → s = 0 ∧ x = 1) ∧ Hid (R = resOf t i (PN.dec (decide (i = t)) s x (b.data.toList.drop i))) ∧ w = wr) (fun _ _ q _ => n - (intOf q).toNat)
  case atStart => exact ⟨0, 1, t, 0, rfl, rfl, rfl, rfl, ht, by omega, by omega, by omega, rfl, fun _ => ⟨rfl, rfl⟩, by show _ = _; rw [HR.out]; simp [getRes], by first | rfl | trivial⟩
  case round =>
    obtain ⟨s, x, i, j, rfl, rfl, rfl, hi, hin, hj, hs, hx, HX, HF, HD, rfl⟩ := hrel
    have HI := Lib.hid hi
    have hit : t ≤ i := by omega
    clear hi HR
    by_cases hlt : i < n
    · have tl : (i : Int) < (n : Int) := by omega
      have tl2 : ¬ (n : Int) ≤ (i : Int) := by omega
      obtain ⟨y, hy, hiy⟩ := str_at b i (by omega)
      have hd := drop_str hy
      by_cases hy250 : y.toNat = 250
      · have ty : ((y.toNat : Int) == 250) = true := by rw [beq_iff_eq]; omega
        by_cases hlt1 : i + 1 < n
        · have tl3 : ¬ (n : Int) ≤ (i : Int) + 1 := by omega
          obtain ⟨z, hz, hiz⟩ := str_at b (i + 1) (by omega)
          have hd2 := drop_str hz
          have hiz : ∀ w : World, (Instr.index 9 (.string b) (.int .i64 ((i : Int) + 1))).run Try.prog w = .ok (.int .u8 (z.toNat : Int)) w := fun w => by
            have := hiz w
            rwa [show ((i + 1 : Nat) : Int) = (i : Int) + 1 by omega] at this
          by_cases hz250 : z.toNat < 250
          · have tz : ¬ (249 : Int) < (z.toNat : Int) := by omega
            by_cases hj8 : j = 8
            · have t16 : (16 : Int) ≤ (i : Int) - (t : Int) := by have := HI.out; omega
              have HE : Hid (R = (0, t, 3)) := by
                show _ = _
                rw [HD.out, hd, hd2, RG.pair_far (by rw [← hj8]; exact HX.out) hy250 hz250]
                rfl
              clear hy hz hd hd2 HD HX HF
              go_wp2
              go_ret3
              exact ⟨by rw [HE.out]; rfl, by first | rfl | trivial⟩
            · have t16 : ¬ (16 : Int) ≤ (i : Int) - (t : Int) := by have := HI.out; omega
              obtain ⟨h1, h2, h3⟩ := RG.mul_lt HX.out (by omega) hz250 hs
              have hpair := RG.pair (f := decide (i = t)) HX.out (by omega) hy250 hz250 hs (b.data.toList.drop (i + 1 + 1))
              obtain ⟨m, hm⟩ : ∃ m, m = x * z.toNat := ⟨_, rfl⟩
              rw [← hm] at h1 h2 hpair
              have jm : IntKind.u64.wrap ((x : Int) * (z.toNat : Int)) = (m : Int) := by
                rw [show (x : Int) * (z.toNat : Int) = (m : Int) by rw [hm]; simp]
                exact IntWalk.u64_in _ (by omega)
              have js : IntKind.u64.wrap ((s : Int) + (m : Int)) = ((s + m : Nat) : Int) := by
                rw [IntWalk.u64_in _ (by omega)]
                omega
              have jx : IntKind.u64.wrap ((x : Int) * 250) = ((x * 250 : Nat) : Int) := by
                rw [IntWalk.u64_in _ (by omega)]
                omega
              have HD2 : Hid (R = resOf t (i + 2) (PN.dec (decide (i + 2 = t)) (s + m) (x * 250) (b.data.toList.drop (i + 2)))) := by
                show _ = _
                rw [HD.out, hd, hd2, hpair, RG.res_map, decide_eq_false (show ¬ i + 2 = t by omega)]
              have HX2 : Hid (x * 250 = 250 ^ (j + 1)) := by show _ = _; rw [HX.out, Nat.pow_succ]
              clear hy hz hd hd2 HD HX HF hpair hm
              obtain ⟨s2, hs2⟩ : ∃ s2, s2 = s + m := ⟨_, rfl⟩
              obtain ⟨x2, hx2⟩ : ∃ x2, x2 = x * 250 := ⟨_, rfl⟩
              rw [← hs2] at js h2 HD2
              rw [← hx2] at jx h2 h3 HD2 HX2
              have HS2 := Lib.hid hs2
              have HXX := Lib.hid hx2
              clear hs2 hx2
              go_wp2
              go_roundw
              case rel => exact ⟨s2, x2, i + 2, j + 1, rfl, rfl, by go_num, by have := HI.out; omega, by omega, by omega, h2, h3, HX2, fun h => by omega, HD2, by first | rfl | trivial⟩
              case measure => simp [intOf]; omega
          · have tz : (249 : Int) < (z.toNat : Int) := by omega
            have HE : Hid (R = (0, t, 3)) := by
              show _ = _
              rw [HD.out, hd, PN.dec_bad (by omega)]
              · rfl
              · intro c hc h
                rw [hd2] at hc
                simp at hc
                subst hc
                omega
            clear hy hz hd hd2 HD HX HF
            go_wp2
            go_ret3
            exact ⟨by rw [HE.out]; rfl, by first | rfl | trivial⟩
        · have tl3 : (n : Int) ≤ (i : Int) + 1 := by omega
          have HE : Hid (R = (0, t, 3)) := by
            show _ = _
            rw [HD.out, hd, PN.dec_bad (by omega)]
            · rfl
            · intro c hc h
              rw [List.drop_eq_nil_of_le (by rw [HLn.out]; omega)] at hc
              cases hc
          clear hy hd HD HX HF
          go_wp2
          go_ret3
          exact ⟨by rw [HE.out]; rfl, by first | rfl | trivial⟩
      · have ty : ((y.toNat : Int) == 250) = false := by rw [beq_eq_false_iff_ne]; omega
        by_cases hy2 : y.toNat < 250
        · have ty2 : ¬ (249 : Int) < (y.toNat : Int) := by omega
          have hfin := RG.last (d := y.toNat) (f := decide (i = t)) HX.out hj hs hy2 (fun h => HF.out (by have := HI.out; have := of_decide_eq_true h; omega))
          have HD2 : Hid (R = resOf t i (PN.fin (decide (i = t)) s x y.toNat)) := by show _ = _; rw [HD.out, hd, PN.dec_last hy2]
          have HFin := Lib.hid hfin
          have HF0 := HF
          clear hy hd HD HX HF hfin
          by_cases hti : t < i
          · have tti : (t : Int) < (i : Int) := by omega
            have tne : decide (i = t) = false := decide_eq_false (by omega)
            have hfin := HFin.out
            rw [tne] at hfin
            have hd2 := HD2.out
            rw [tne] at hd2
            have HI2 := Lib.hid hti
            clear tne
            by_cases hy0 : y.toNat = 0
            · have ty0 : ((y.toNat : Int) == 0) = true := by rw [beq_iff_eq]; omega
              have HE : Hid (R = (0, t, 3)) := by
                show _ = _
                rw [hd2, hfin, if_pos ⟨rfl, .inl hy0⟩]
                rfl
              clear hfin hd2 hy0
              go_wp2
              go_ret3
              exact ⟨by rw [HE.out]; rfl, by first | rfl | trivial⟩
            · have ty0 : ((y.toNat : Int) == 0) = false := by rw [beq_eq_false_iff_ne]; omega
              have hdiv : (18446744073709551615 - (s : Int)) / (x : Int) = (((18446744073709551615 - s) / x : Nat) : Int) := by
                rw [Int.natCast_ediv, show ((18446744073709551615 - s : Nat) : Int) = 18446744073709551615 - (s : Int) by omega]
              by_cases hq : (18446744073709551615 - s) / x < y.toNat
              · have tq : (18446744073709551615 - (s : Int)) / (x : Int) < (y.toNat : Int) := by rw [hdiv]; omega
                have HE : Hid (R = (0, t, 3)) := by
                  show _ = _
                  rw [hd2, hfin, if_pos ⟨rfl, .inr hq⟩]
                  rfl
                clear hfin hd2 hy0 hdiv hq
                go_wp2
                go_ret3
                exact ⟨by rw [HE.out]; rfl, by first | rfl | trivial⟩
              · have tq : ¬ (18446744073709551615 - (s : Int)) / (x : Int) < (y.toNat : Int) := by rw [hdiv]; omega
                obtain ⟨m, hm⟩ : ∃ m, m = x * y.toNat := ⟨_, rfl⟩
                have hmb : m ≤ 18446744073709551615 - s := by
                  have h1 : y.toNat ≤ (18446744073709551615 - s) / x := by omega
                  have h2 := Nat.mul_le_of_le_div x _ _ h1
                  rw [hm, Nat.mul_comm]
                  exact h2
                have jm : IntKind.u64.wrap ((x : Int) * (y.toNat : Int)) = (m : Int) := by
                  rw [show (x : Int) * (y.toNat : Int) = (m : Int) by rw [hm]; simp]
                  exact IntWalk.u64_in _ (by omega)
                have js : IntKind.u64.wrap ((s : Int) + (m : Int)) = ((s + m : Nat) : Int) := by
                  rw [IntWalk.u64_in _ (by omega)]
                  omega
                have HE : Hid (R = (s + m, i + 1, 0)) := by
                  show _ = _
                  rw [hd2, hfin, if_neg (by rintro ⟨_, h | h⟩; exact hy0 h; exact hq h), hm]
                  rfl
                obtain ⟨s2, hs2⟩ : ∃ s2, s2 = s + m := ⟨_, rfl⟩
                rw [← hs2] at js HE
                clear hfin hd2 hy0 hdiv hq hm hs2 hmb
                go_wp2
                go_ret3
                exact ⟨by rw [HE.out]; rfl, by first | rfl | trivial⟩
          · obtain rfl : i = t := by omega
            have tti : ¬ (i : Int) < (i : Int) := by omega
            obtain ⟨rfl, rfl⟩ := HF0.out (by have := HI.out; omega)
            have hfin := HFin.out
            rw [decide_eq_true rfl, if_neg (by simp)] at hfin
            have hd2 := HD2.out
            rw [decide_eq_true rfl, hfin] at hd2
            have HE : Hid (R = (y.toNat, i + 1, 0)) := by
              show _ = _
              rw [hd2]
              show (0 + 1 * y.toNat, i + 1, 0) = _
              rw [Nat.one_mul, Nat.zero_add]
            have hy9 : (y.toNat : Int) < 250 := by omega
            clear hfin hd2 hy2 HF0
            go_wp2
            go_ret3
            exact ⟨by rw [HE.out]; rfl, by first | rfl | trivial⟩
        · have ty2 : (249 : Int) < (y.toNat : Int) := by omega
          have HE : Hid (R = (0, t, 3)) := by
            show _ = _
            rw [HD.out, hd, PN.dec_bad hy2]
            · rfl
            · intro c hc h
              omega
          clear hy hd HD HX HF
          go_wp2
          go_ret3
          exact ⟨by rw [HE.out]; rfl, by first | rfl | trivial⟩
    · have tl : ¬ (i : Int) < (n : Int) := by omega
      have tl2 : (n : Int) ≤ (i : Int) := by omega
      have HE : Hid (R = (0, t, 3)) := by
        show _ = _
        rw [HD.out, List.drop_eq_nil_of_le (by rw [HLn.out]; omega)]
        rfl
      clear HD HX HF
      go_wp2
      go_ret3
      exact ⟨by rw [HE.out]; rfl, by first | rfl | trivial⟩
set_option maxRecDepth 100000 in
set_option maxHeartbeats 8000000 in
theorem refRuns (b : ByteArray) (n t : Nat) (w : World) (hn : b.size = n) (hn2 : n ≤ 1000000000) (ht : t ≤ n) :
    Calls Try.prog 47 #[.string b, .int .i64 (t : Int)] w fun e w' => e = .returned (.bool (PS.runs 8 (b.data.toList.drop t))) ∧ w = w' := by
  obtain ⟨R, hR⟩ : ∃ R, R = PS.runs 8 (b.data.toList.drop t) := ⟨_, rfl⟩
  rw [← hR]
  have HR := Lib.hid hR
  have hlen : b.data.toList.length = n := by rw [Array.length_toList]; exact hn
  have HLn := Lib.hid hlen
  clear hR hlen
  go_enter Try.func47, Try.ntmps47
  go_wp2
  go_loopw [5] (fun q wr => ∃ (i p : Nat), q = .int .i64 (i : Int) ∧ p ≤ 8 ∧ i = t + 2 * (8 - p) ∧ i ≤ n + 1 ∧ Hid (R = PS.runs p (b.data.toList.drop i)) ∧ w = wr) (fun q _ => n + 1 - (intOf q).toNat)
  case atStart => exact ⟨t, 8, rfl, Nat.le_refl _, rfl, by omega, HR, by first | rfl | trivial⟩
  case round =>
    obtain ⟨i, p, rfl, hp, hi, hin, HD, rfl⟩ := hrel
    have HI := Lib.hid hi
    have hit : t ≤ i := by omega
    clear hi HR
    by_cases hlt : i < n
    · have tl : (i : Int) < (n : Int) := by omega
      have tl2 : ¬ (n : Int) ≤ (i : Int) := by omega
      obtain ⟨y, hy, hiy⟩ := str_at b i (by omega)
      have hd := drop_str hy
      by_cases hy250 : y.toNat = 250
      · have ty : ((y.toNat : Int) == 250) = true := by rw [beq_iff_eq]; omega
        by_cases hlt1 : i + 1 < n
        · have tl3 : (i : Int) + 1 < (n : Int) := by omega
          obtain ⟨z, hz, hiz⟩ := str_at b (i + 1) (by omega)
          have hd2 := drop_str hz
          have hiz : ∀ w : World, (Instr.index 9 (.string b) (.int .i64 ((i : Int) + 1))).run Try.prog w = .ok (.int .u8 (z.toNat : Int)) w := fun w => by
            have := hiz w
            rwa [show ((i + 1 : Nat) : Int) = (i : Int) + 1 by omega] at this
          by_cases hz250 : z.toNat < 250
          · have tz : ¬ (249 : Int) < (z.toNat : Int) := by omega
            rcases p with _ | p
            · have t16 : (16 : Int) ≤ (i : Int) - (t : Int) := by have := HI.out; omega
              have HE : Hid (R = false) := by
                show _ = _
                rw [HD.out, hd]
                rfl
              clear hy hz hd hd2 HD
              go_wp2
              go_ret
              exact ⟨by rw [HE.out]; rfl, by first | rfl | trivial⟩
            · have t16 : ¬ (16 : Int) ≤ (i : Int) - (t : Int) := by have := HI.out; omega
              have HD2 : Hid (R = PS.runs p (b.data.toList.drop (i + 2))) := by
                show _ = _
                rw [HD.out, hd, hd2]
                show (decide (y.toNat = 250) && decide (z.toNat < 250) && PS.runs p _) = _
                rw [decide_eq_true hy250, decide_eq_true hz250]
                rfl
              clear hy hz hd hd2 HD
              go_wp2
              go_roundw
              case rel => exact ⟨i + 2, p, by go_num, by omega, by have := HI.out; omega, by omega, HD2, by first | rfl | trivial⟩
              case measure => simp [intOf]; omega
          · have tz : (249 : Int) < (z.toNat : Int) := by omega
            have HE : Hid (R = false) := by
              show _ = _
              rw [HD.out, hd, hd2]
              rcases p with _ | p
              · rfl
              · show (decide (y.toNat = 250) && decide (z.toNat < 250) && PS.runs p _) = _
                rw [decide_eq_false hz250, Bool.and_false, Bool.false_and]
            clear hy hz hd hd2 HD
            go_wp2
            go_ret
            exact ⟨by rw [HE.out]; rfl, by first | rfl | trivial⟩
        · have tl3 : ¬ (i : Int) + 1 < (n : Int) := by omega
          have hnil : b.data.toList.drop (i + 1) = [] := List.drop_eq_nil_of_le (by rw [HLn.out]; omega)
          rcases p with _ | p
          · have t16 : (16 : Int) ≤ (i : Int) - (t : Int) := by have := HI.out; omega
            have HE : Hid (R = false) := by
              show _ = _
              rw [HD.out, hd]
              rfl
            clear hy hd HD hnil
            go_wp2
            go_ret
            exact ⟨by rw [HE.out]; rfl, by first | rfl | trivial⟩
          · have t16 : ¬ (16 : Int) ≤ (i : Int) - (t : Int) := by have := HI.out; omega
            have HD2 : Hid (R = PS.runs p (b.data.toList.drop (i + 2))) := by
              show _ = _
              rw [HD.out, hd, hnil, List.drop_eq_nil_of_le (by rw [HLn.out]; omega)]
              show decide (y.toNat = 250) = _
              rw [decide_eq_true hy250]
              cases p <;> rfl
            clear hy hd HD hnil
            go_wp2
            go_roundw
            case rel => exact ⟨i + 2, p, by go_num, by omega, by have := HI.out; omega, by omega, HD2, by first | rfl | trivial⟩
            case measure => simp [intOf]; omega
      · have ty : ((y.toNat : Int) == 250) = false := by rw [beq_eq_false_iff_ne]; omega
        have HE : Hid (R = false) := by
          show _ = _
          rw [HD.out, hd]
          rcases p with _ | p
          · rfl
          · generalize b.data.toList.drop (i + 1) = r
            cases r with
            | nil => exact decide_eq_false hy250
            | cons c r => show (decide (y.toNat = 250) && _ && _) = false; rw [decide_eq_false hy250]; rfl
        clear hy hd HD
        go_wp2
        go_ret
        exact ⟨by rw [HE.out]; rfl, by first | rfl | trivial⟩
    · have tl : ¬ (i : Int) < (n : Int) := by omega
      have tl2 : (n : Int) ≤ (i : Int) := by omega
      have HE : Hid (R = true) := by
        show _ = _
        rw [HD.out, List.drop_eq_nil_of_le (by rw [HLn.out]; omega)]
        cases p <;> rfl
      clear HD
      go_wp2
      go_ret
      exact ⟨by rw [HE.out]; rfl, by first | rfl | trivial⟩
set_option maxRecDepth 100000 in
set_option maxHeartbeats 8000000 in
theorem refNum (b : ByteArray) (n t m : Nat) (s m2 : Int) (w : World) (hn : b.size = n) (hn2 : n ≤ 1000000000) (ht : t ≤ n) (hm : m ≤ 1048576) (hs : s = (t : Int)) (hm2 : m2 = (m : Int)) :
    Calls Try.prog 42 #[.string b, .int .i64 s, .int .u64 m2] w fun e w' => e = .returned (.tuple #[.int .i64 ((PS.number b.data.toList t m).1 : Int), .int .i64 ((PS.number b.data.toList t m).2.1 : Int), .int .i64 ((PS.number b.data.toList t m).2.2 : Int)]) ∧ w = w' := by
  subst hs hm2
  have KG := Lib.hid (fun w => refGet b n t w hn hn2 ht)
  have KR := Lib.hid (fun w => refRuns b n t w hn hn2 ht)
  have hnum : PS.number b.data.toList t m = if PS.runs 8 (b.data.toList.drop t) = true then (0, t, 5) else if (getRes b.data.toList t).2.2 ≠ 0 ∨ m < (getRes b.data.toList t).1 then (0, t, 3) else ((getRes b.data.toList t).1, (getRes b.data.toList t).2.1, 0) := rfl
  have hrd : PS.runs 8 (b.data.toList.drop t) = true → (getRes b.data.toList t).2.2 ≠ 0 := by
    intro h
    unfold getRes
    rw [PS.runs_dec 8 _ true 0 1 h]
    simp [resOf]
  generalize PS.number b.data.toList t m = N at *
  generalize getRes b.data.toList t = G at *
  generalize PS.runs 8 (b.data.toList.drop t) = R at *
  obtain ⟨v, e, cd⟩ := G
  simp only at hnum hrd
  have HNum := Lib.hid hnum
  have HRd := Lib.hid hrd
  clear hnum hrd
  go_enter Try.func42, Try.ntmps42
  go_wp2_with fail
  (with_reducible refine (KG.out w).mono ?_)
  rintro e w1 ⟨rfl, rfl⟩
  by_cases hcd : cd = 0
  · subst hcd
    have hR : R = false := by
      cases R
      · rfl
      · exact absurd rfl (HRd.out rfl)
    subst hR
    have hnum := HNum.out
    rw [if_neg (by simp)] at hnum
    by_cases hmv : m < v
    · have HN := Lib.hid (hnum.trans (if_pos (.inr hmv)))
      have tmv : (m : Int) < (v : Int) := by omega
      clear hnum HNum HRd
      go_wp2_with fail
      go_ret3
      exact ⟨by rw [HN.out]; rfl, by first | rfl | trivial⟩
    · have HN := Lib.hid (hnum.trans (if_neg (by rintro (h | h); exact h rfl; exact hmv h)))
      have tmv : ¬ (m : Int) < (v : Int) := by omega
      have jv : wrap64 (v : Int) = (v : Int) := IntWalk.wrap64_in _ ⟨by omega, by omega⟩
      clear hnum HNum HRd
      go_wp2_with fail
      go_ret3
      exact ⟨by rw [HN.out]; rfl, by first | rfl | trivial⟩
  · have tcd : ((cd : Int) != 0) = true := by simp; omega
    have hnum := HNum.out
    cases R
    · rw [if_neg (by simp), if_pos (.inl hcd)] at hnum
      have HN := Lib.hid hnum
      clear hnum HNum HRd
      go_wp2_with fail
      (with_reducible refine (KR.out w).mono ?_)
      rintro e w1 ⟨rfl, rfl⟩
      go_wp2_with fail
      go_ret3
      exact ⟨by rw [HN.out]; rfl, by first | rfl | trivial⟩
    · rw [if_pos rfl] at hnum
      have HN := Lib.hid hnum
      clear hnum HNum HRd
      go_wp2_with fail
      (with_reducible refine (KR.out w).mono ?_)
      rintro e w1 ⟨rfl, rfl⟩
      go_wp2_with fail
      go_ret3
      exact ⟨by rw [HN.out]; rfl, by first | rfl | trivial⟩
end Go.Proofs.Ytobbjhbjjhnicaa
