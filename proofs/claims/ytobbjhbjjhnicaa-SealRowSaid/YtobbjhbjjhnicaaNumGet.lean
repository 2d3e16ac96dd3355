/- The walk of num.Get: the number at an index. -/
import Derived.Test.YtobbjhbjjhnicaaNumDigit
import Derived.Test.YtobbjhbjjhnicaaBits64
import Derived.Test.YtobbjhbjjhnicaaPlainNum
namespace Go.Proofs.Ytobbjhbjjhnicaa
open Go.RowKit
set_option linter.unusedVariables false
def resOf (at_ i : Nat) : Option (Nat × Nat) → Nat × Nat × Nat
  | some (v, k) => (v, i + k, 0)
  | none => (0, at_, 3)
/-- What Get gives at an index that is no index too far. -/
def getRes (l : List UInt8) (at_ : Nat) : Nat × Nat × Nat := resOf at_ at_ (PN.dec true 0 1 (l.drop at_))
theorem digit_cases (l : List UInt8) (i : Nat) : (digitAt l i = (0, i, false) ∧ ∀ f n u, PN.dec f n u (l.drop i) = none) ∨
    (∃ d, d < 250 ∧ digitAt l i = (d, i + 1, true) ∧ i + 1 ≤ l.length ∧ ∀ f n u, PN.dec f n u (l.drop i) = PN.fin f n u d) ∨
    (∃ d, d < 250 ∧ digitAt l i = (d, i + 2, true) ∧ i + 2 ≤ l.length ∧ ∀ f n u, PN.dec f n u (l.drop i) = if u = 0 ∨ PN.M64 ≤ d * u ∨ PN.M64 ≤ n + d * u then none else (PN.dec false (n + d * u) (PN.up u) (l.drop (i + 2))).map fun p => (p.1, p.2 + 2)) := by
  by_cases h : i < l.length
  · have h0 : l[i]? = some l[i] := List.getElem?_eq_getElem h
    have hd : l.drop i = l[i] :: l.drop (i + 1) := List.drop_eq_getElem_cons h
    rw [hd]
    by_cases h1 : l[i].toNat < 250
    · exact .inr (.inl ⟨l[i].toNat, h1, by unfold digitAt; rw [h0]; simp only; rw [if_pos h1], h, fun f n u => PN.dec_last h1 _⟩)
    · by_cases h2 : i + 1 < l.length
      · have h3 : l[i + 1]? = some l[i + 1] := List.getElem?_eq_getElem h2
        have hd2 : l.drop (i + 1) = l[i + 1] :: l.drop (i + 2) := List.drop_eq_getElem_cons h2
        rw [hd2]
        by_cases h4 : l[i].toNat = 250 ∧ l[i + 1].toNat < 250
        · exact .inr (.inr ⟨l[i + 1].toNat, h4.2, by unfold digitAt; rw [h0]; simp only; rw [if_neg h1, h3]; simp only; rw [if_pos h4], h2, fun f n u => PN.dec_pair h4.1 h4.2 _⟩)
        · exact .inl ⟨by unfold digitAt; rw [h0]; simp only; rw [if_neg h1, h3]; simp only; rw [if_neg h4], fun f n u => PN.dec_bad h1 _ (fun c hc => by have hc' : some l[i + 1] = some c := hc; injection hc' with hc'; rw [← hc']; exact h4)⟩
      · have h3 : l[i + 1]? = none := List.getElem?_eq_none (by omega)
        have hd2 : l.drop (i + 1) = [] := List.drop_eq_nil_of_le (by omega)
        rw [hd2]
        exact .inl ⟨by unfold digitAt; rw [h0]; simp only; rw [if_neg h1, h3], fun f n u => PN.dec_bad h1 _ (fun c hc => by cases hc)⟩
  · have h0 : l[i]? = none := List.getElem?_eq_none (by omega)
    have hd : l.drop i = [] := List.drop_eq_nil_of_le (by omega)
    rw [hd]
    exact .inl ⟨by unfold digitAt; rw [h0], fun f n u => rfl⟩
theorem eq0_true {x : Nat} (h : x = 0) : ((x : Int) == 0) = true := by simp [h]
theorem eq0_false {x : Nat} (h : ¬ x = 0) : ((x : Int) == 0) = false := by simp [h]
theorem ne0_true {x : Nat} (h : ¬ x = 0) : ((x : Int) != 0) = true := by simp [h]
theorem ne0_false {x : Nat} (h : x = 0) : ((x : Int) != 0) = false := by simp [h]
theorem div0 {x : Nat} (h : x / 18446744073709551616 = 0) : x % 18446744073709551616 = x ∧ x < 18446744073709551616 := by omega
set_option maxRecDepth 100000 in
set_option maxHeartbeats 4000000 in
theorem numGet (A : Option Addr) (n c B t : Nat) (l : List UInt8) (w : World) (hb : Bytes w B A n l) (hn : n ≤ 1000000000000) (ht : t ≤ n) :
    Calls Try.prog 45 #[.slice A n c, .int .i64 (t : Int)] w fun e w' => e = .returned (.tuple #[.int .u64 ((getRes l t).1 : Int), .int .i64 ((getRes l t).2.1 : Int), .int .i64 ((getRes l t).2.2 : Int)]) ∧ w = w' := by
  have HB := Lib.hid hb
  have HL := Lib.hid hb.len
  clear hb
  have t0 : ¬ (t : Int) < 0 := by omega
  have t1 : ¬ (n : Int) < (t : Int) := by omega
  obtain ⟨R, hR⟩ : ∃ R, R = getRes l t := ⟨_, rfl⟩
  rw [← hR]
  have HR := Lib.hid hR
  clear hR
  go_enter Try.func45, Try.ntmps45
  go_wp2
  refine wp_scope_back 0 (fun m a' w' => w' = w ∧ ∃ (i s x : Nat), m = n - i ∧ t ≤ i ∧ i ≤ n ∧ s < 18446744073709551616 ∧ x < 18446744073709551616 ∧ Hid (R = resOf t i (PN.dec (decide (i = t)) s x (l.drop i))) ∧ ∃ u : Nat → Value, a' = ⟨#[.slice A n c, .int .i64 (t : Int), u 2, u 3, .int .u64 0, .int .i64 0, .int .i64 0, .int .u64 (s : Int), .int .u64 (x : Int), .int .i64 (i : Int), u 10, u 11, u 12, u 13, u 14, u 15, u 16, u 17, u 18, u 19, u 20, u 21, u 22, u 23, u 24, u 25, u 26, u 27, u 28, u 29, u 30, u 31, u 32, u 33, u 34, u 35, u 36, u 37, u 38, u 39, u 40, u 41, u 42, u 43, u 44, u 45, u 46, u 47, u 48, u 49, u 50, u 51, u 52, u 53, u 54, u 55, u 56, u 57, u 58, u 59, u 60, u 61, u 62, u 63, u 64, u 65, u 66, u 67, u 68, u 69, u 70, u 71, u 72, u 73, u 74, u 75, u 76, u 77, u 78, u 79, u 80, u 81, u 82, u 83, u 84, u 85, u 86, u 87, u 88, u 89], []⟩) rfl ?_ ?_
  · intro HJ
    go_wp2
    go_step3
    go_step
    go_step
    exact HJ.out (n - t) _ _ ⟨rfl, t, 0, 1, rfl, Nat.le_refl _, ht, by decide, by decide, (by show _ = _; rw [HR.out]; simp [getRes]), ⟨slot [undef, undef, _, _, undef, undef, undef, undef, undef, undef, _, _, _, _, _, _, _, _, _, _, _, _, _, _, _, _, _, _, _, _, _, _, _, _, _, _, _, _, _, _, _, _, _, _, _, _, _, _, _, _, _, _, _, _, _, _, _, _, _, _, _, _, _, _, _, _, _, _, _, _, _, _, _, _, _, _, _, _, _, _, _, _, _, _, _, _, _, _, _, _], rfl⟩⟩
  · rintro m a' w' ⟨rfl, i, s, x, rfl, hti, hin, hs, hx, HD, ⟨u, rfl⟩⟩
    have hadd : ∀ (y : Nat) (w : World), (callFunc 52 #[.int .u64 (s : Int), .int .u64 (y : Int), .int .u64 0]).run Try.prog w = .ok (.value (.tuple #[.int .u64 (((s + y) % 18446744073709551616 : Nat) : Int), .int .u64 (((s + y) / 18446744073709551616 : Nat) : Int)])) w := fun y w => add64_run s y w
    have hdig := digit_any A n c B i l w' HB.out hn hin
    rcases digit_cases l i with ⟨hd, hf⟩ | ⟨d, hd9, hd, hil, hf⟩ | ⟨d, hd9, hd, hil, hf⟩
    · rw [hd] at hdig
      have hm : Calls Try.prog 51 #[.int .u64 0, .int .u64 (x : Int)] w' fun e w1 => e = .returned (.tuple #[.int .u64 0, .int .u64 0]) ∧ w' = w1 := by
        have := mul64_any 0 x (by decide) hx w'
        rw [Nat.zero_mul] at this
        exact this
      have hadd0 : ∀ (w : World), (callFunc 52 #[.int .u64 (s : Int), .int .u64 0, .int .u64 0]).run Try.prog w = .ok (.value (.tuple #[.int .u64 (((s + 0) % 18446744073709551616 : Nat) : Int), .int .u64 (((s + 0) / 18446744073709551616 : Nat) : Int)])) w := fun w => hadd 0 w
      have HF : Hid (R = (0, t, 3)) := by show _ = _; rw [HD.out, hf]; rfl
      have HDig := Lib.hid hdig
      have HM := Lib.hid hm
      clear hd hf HD hdig hm hadd
      go_wp2_with (first | (go_at_call 50; refine HDig.out.mono ?_; rintro e w1 ⟨rfl, rfl⟩) | (go_at_call 51; refine HM.out.mono ?_; rintro e w1 ⟨rfl, rfl⟩))
      refine jump_ret ?_
      go_ret3
      exact ⟨by rw [HF.out]; rfl, rfl⟩
    · have hdig1 : Calls Try.prog 50 #[.slice A n c, .int .i64 (i : Int)] w' fun e w1 => e = .returned (.tuple #[.int .u64 (d : Int), .int .i64 ((i : Int) + 1), .bool true]) ∧ w' = w1 := by
        rw [hd] at hdig
        exact hdig
      have hm := mul64_any d x (by omega) hx w'
      obtain ⟨hi, hhi⟩ : ∃ y, y = d * x / 18446744073709551616 := ⟨_, rfl⟩
      obtain ⟨lo, hlo⟩ : ∃ y, y = d * x % 18446744073709551616 := ⟨_, rfl⟩
      rw [← hhi, ← hlo] at hm
      have hadd0 := hadd lo
      obtain ⟨ca, hca⟩ : ∃ y, y = (s + lo) / 18446744073709551616 := ⟨_, rfl⟩
      obtain ⟨su, hsu⟩ : ∃ y, y = (s + lo) % 18446744073709551616 := ⟨_, rfl⟩
      rw [← hca, ← hsu] at hadd0
      rw [hf] at HD
      have HDig := Lib.hid hdig1
      have HM := Lib.hid hm
      clear hd hf hdig hdig1 hm hadd
      have hfin : (x = 0 ∨ hi ≠ 0 ∨ ca ≠ 0 ∨ (d = 0 ∧ t < i)) → R = (0, t, 3) := by
        intro h
        rw [HD.out, PN.fin, if_pos]
        · rfl
        · unfold PN.M64
          simp only [decide_eq_false_iff_not]
          omega
      have hfin2 : ¬ (x = 0 ∨ hi ≠ 0 ∨ ca ≠ 0 ∨ (d = 0 ∧ t < i)) → R = (su, i + 1, 0) := by
        intro h
        rw [HD.out, PN.fin, if_neg]
        · show (s + d * x, i + 1, 0) = _
          congr 1
          omega
        · unfold PN.M64
          simp only [decide_eq_false_iff_not]
          omega
      have hcase : (((x : Int) == 0) = true ∧ Hid (R = (0, t, 3))) ∨ (((x : Int) == 0) = false ∧ ((hi : Int) != 0) = true ∧ Hid (R = (0, t, 3))) ∨ (((x : Int) == 0) = false ∧ ((hi : Int) != 0) = false ∧ ((ca : Int) != 0) = true ∧ Hid (R = (0, t, 3))) ∨
          (((x : Int) == 0) = false ∧ ((hi : Int) != 0) = false ∧ ((ca : Int) != 0) = false ∧ ((d : Int) == 0) = true ∧ (t : Int) < (i : Int) ∧ Hid (R = (0, t, 3))) ∨
          (((x : Int) == 0) = false ∧ ((hi : Int) != 0) = false ∧ ((ca : Int) != 0) = false ∧ ((d : Int) == 0) = true ∧ ¬ (t : Int) < (i : Int) ∧ Hid (R = (su, i + 1, 0))) ∨
          (((x : Int) == 0) = false ∧ ((hi : Int) != 0) = false ∧ ((ca : Int) != 0) = false ∧ ((d : Int) == 0) = false ∧ Hid (R = (su, i + 1, 0))) := by
        by_cases h1 : x = 0
        · exact .inl ⟨eq0_true h1, hfin (.inl h1)⟩
        by_cases h2 : hi = 0
        · by_cases h3 : ca = 0
          · by_cases h4 : d = 0
            · by_cases h5 : t < i
              · exact .inr (.inr (.inr (.inl ⟨eq0_false h1, ne0_false h2, ne0_false h3, eq0_true h4, by omega, hfin (.inr (.inr (.inr ⟨h4, h5⟩)))⟩)))
              · exact .inr (.inr (.inr (.inr (.inl ⟨eq0_false h1, ne0_false h2, ne0_false h3, eq0_true h4, by omega, hfin2 (by omega)⟩))))
            · exact .inr (.inr (.inr (.inr (.inr ⟨eq0_false h1, ne0_false h2, ne0_false h3, eq0_false h4, hfin2 (by omega)⟩))))
          · exact .inr (.inr (.inl ⟨eq0_false h1, ne0_false h2, ne0_true h3, hfin (.inr (.inr (.inl h3)))⟩))
        · exact .inr (.inl ⟨eq0_false h1, ne0_true h2, hfin (.inr (.inl h2))⟩)
      clear hfin hfin2 hhi hlo hca hsu HD
      rcases hcase with ⟨b1, HF⟩ | ⟨b1, b2, HF⟩ | ⟨b1, b2, b3, HF⟩ | ⟨b1, b2, b3, b4, b5, HF⟩ | ⟨b1, b2, b3, b4, b5, HF⟩ | ⟨b1, b2, b3, b4, HF⟩
      all_goals
        go_wp2_with (first | (go_at_call 50; ((with_reducible refine HDig.out.mono ?_); rintro e w1 ⟨rfl, rfl⟩)) | (go_at_call 51; ((with_reducible refine HM.out.mono ?_); rintro e w1 ⟨rfl, rfl⟩)))
        refine jump_ret ?_
        go_ret3
        exact ⟨by rw [HF.out]; rfl, rfl⟩
    · have hdig1 : Calls Try.prog 50 #[.slice A n c, .int .i64 (i : Int)] w' fun e w1 => e = .returned (.tuple #[.int .u64 (d : Int), .int .i64 ((i : Int) + 2), .bool true]) ∧ w' = w1 := by
        rw [hd] at hdig
        exact hdig
      have hin2 : i + 2 ≤ n := by have := HL.out; omega
      have hm := mul64_any d x (by omega) hx w'
      have hm2 := mul64_any x 250 hx (by omega) w'
      obtain ⟨hi, hhi⟩ : ∃ y, y = d * x / 18446744073709551616 := ⟨_, rfl⟩
      obtain ⟨lo, hlo⟩ : ∃ y, y = d * x % 18446744073709551616 := ⟨_, rfl⟩
      obtain ⟨ha, hha⟩ : ∃ y, y = x * 250 / 18446744073709551616 := ⟨_, rfl⟩
      obtain ⟨la, hla⟩ : ∃ y, y = x * 250 % 18446744073709551616 := ⟨_, rfl⟩
      rw [← hhi, ← hlo] at hm
      rw [← hha, ← hla] at hm2
      have hm2' : Calls Try.prog 51 #[.int .u64 (x : Int), .int .u64 250] w' fun e w1 => e = .returned (.tuple #[.int .u64 (ha : Int), .int .u64 (la : Int)]) ∧ w' = w1 := hm2
      have hadd0 := hadd lo
      obtain ⟨ca, hca⟩ : ∃ y, y = (s + lo) / 18446744073709551616 := ⟨_, rfl⟩
      obtain ⟨su, hsu⟩ : ∃ y, y = (s + lo) % 18446744073709551616 := ⟨_, rfl⟩
      rw [← hca, ← hsu] at hadd0
      rw [hf] at HD
      have HDig := Lib.hid hdig1
      have HM := Lib.hid hm
      have HM2 := Lib.hid hm2'
      clear hd hf hdig hdig1 hm hm2 hm2' hadd
      have hfin : (x = 0 ∨ hi ≠ 0 ∨ ca ≠ 0) → R = (0, t, 3) := by
        intro h
        rw [HD.out, if_pos]
        · rfl
        · unfold PN.M64
          omega
      have hres : ∀ o : Option (Nat × Nat), resOf t i (o.map fun p => (p.1, p.2 + 2)) = resOf t (i + 2) o := by
        intro o
        rcases o with _ | ⟨v, k⟩
        · rfl
        · show (v, i + (k + 2), 0) = (v, i + 2 + k, 0)
          congr 2
          omega
      have hfin2 : ¬ (x = 0 ∨ hi ≠ 0 ∨ ca ≠ 0) → ∀ x2, x2 = PN.up x → R = resOf t (i + 2) (PN.dec (decide (i + 2 = t)) su x2 (l.drop (i + 2))) := by
        intro h x2 hx2
        rw [HD.out, if_neg]
        · rw [hres, hx2, decide_eq_false (by omega)]
          congr 3
          omega
        · unfold PN.M64
          omega
      have hcase : (((x : Int) == 0) = true ∧ Hid (R = (0, t, 3))) ∨ (((x : Int) == 0) = false ∧ ((hi : Int) != 0) = true ∧ Hid (R = (0, t, 3))) ∨ (((x : Int) == 0) = false ∧ ((hi : Int) != 0) = false ∧ ((ca : Int) != 0) = true ∧ Hid (R = (0, t, 3))) ∨
          (((x : Int) == 0) = false ∧ ((hi : Int) != 0) = false ∧ ((ca : Int) != 0) = false ∧ ((ha : Int) != 0) = true ∧ Hid (R = resOf t (i + 2) (PN.dec (decide (i + 2 = t)) su 0 (l.drop (i + 2))))) ∨
          (((x : Int) == 0) = false ∧ ((hi : Int) != 0) = false ∧ ((ca : Int) != 0) = false ∧ ((ha : Int) != 0) = false ∧ Hid (R = resOf t (i + 2) (PN.dec (decide (i + 2 = t)) su la (l.drop (i + 2))))) := by
        by_cases h1 : x = 0
        · exact .inl ⟨eq0_true h1, hfin (.inl h1)⟩
        by_cases h2 : hi = 0
        · by_cases h3 : ca = 0
          · by_cases h4 : ha = 0
            · refine .inr (.inr (.inr (.inr ⟨eq0_false h1, ne0_false h2, ne0_false h3, ne0_false h4, hfin2 (by omega) _ ?_⟩)))
              unfold PN.up PN.M64
              rw [if_pos (by omega)]
              omega
            · refine .inr (.inr (.inr (.inl ⟨eq0_false h1, ne0_false h2, ne0_false h3, ne0_true h4, hfin2 (by omega) _ ?_⟩)))
              unfold PN.up PN.M64
              rw [if_neg (by omega)]
          · exact .inr (.inr (.inl ⟨eq0_false h1, ne0_false h2, ne0_true h3, hfin (.inr (.inr h3))⟩))
        · exact .inr (.inl ⟨eq0_false h1, ne0_true h2, hfin (.inr (.inl h2))⟩)
      have hla2 : la < 18446744073709551616 := by omega
      have hsu2 : su < 18446744073709551616 := by omega
      have j1 : (((i : Int) + 2) == ((i : Int) + 1)) = false := by simp
      clear hfin hfin2 hhi hlo hca hsu HD hha hla hres
      rcases hcase with ⟨b1, HF⟩ | ⟨b1, b2, HF⟩ | ⟨b1, b2, b3, HF⟩ | ⟨b1, b2, b3, b4, HF⟩ | ⟨b1, b2, b3, b4, HF⟩
      · go_wp2_with (first | (go_at_call 50; ((with_reducible refine HDig.out.mono ?_); rintro e w1 ⟨rfl, rfl⟩)) | (go_at_call 51; ((with_reducible refine HM.out.mono ?_); rintro e w1 ⟨rfl, rfl⟩)))
        refine jump_ret ?_
        go_ret3
        exact ⟨by rw [HF.out]; rfl, rfl⟩
      · go_wp2_with (first | (go_at_call 50; ((with_reducible refine HDig.out.mono ?_); rintro e w1 ⟨rfl, rfl⟩)) | (go_at_call 51; ((with_reducible refine HM.out.mono ?_); rintro e w1 ⟨rfl, rfl⟩)))
        refine jump_ret ?_
        go_ret3
        exact ⟨by rw [HF.out]; rfl, rfl⟩
      · go_wp2_with (first | (go_at_call 50; ((with_reducible refine HDig.out.mono ?_); rintro e w1 ⟨rfl, rfl⟩)) | (go_at_call 51; ((with_reducible refine HM.out.mono ?_); rintro e w1 ⟨rfl, rfl⟩)))
        refine jump_ret ?_
        go_ret3
        exact ⟨by rw [HF.out]; rfl, rfl⟩
      · go_wp2_with (first | (go_at_call 50; ((with_reducible refine HDig.out.mono ?_); rintro e w1 ⟨rfl, rfl⟩)) | (go_at_call 51; (first | ((with_reducible refine HM.out.mono ?_); rintro e w1 ⟨rfl, rfl⟩) | ((with_reducible refine HM2.out.mono ?_); rintro e w1 ⟨rfl, rfl⟩))))
        go_step3
        refine jump_back (m' := n - (i + 2)) ?_ ?_
        · omega
        exact ⟨rfl, i + 2, su, 0, rfl, by omega, hin2, hsu2, by decide, HF, ⟨slot [undef, undef, _, _, undef, undef, undef, undef, undef, undef, _, _, _, _, _, _, _, _, _, _, _, _, _, _, _, _, _, _, _, _, _, _, _, _, _, _, _, _, _, _, _, _, _, _, _, _, _, _, _, _, _, _, _, _, _, _, _, _, _, _, _, _, _, _, _, _, _, _, _, _, _, _, _, _, _, _, _, _, _, _, _, _, _, _, _, _, _, _, _, _], rfl⟩⟩
      · go_wp2_with (first | (go_at_call 50; ((with_reducible refine HDig.out.mono ?_); rintro e w1 ⟨rfl, rfl⟩)) | (go_at_call 51; (first | ((with_reducible refine HM.out.mono ?_); rintro e w1 ⟨rfl, rfl⟩) | ((with_reducible refine HM2.out.mono ?_); rintro e w1 ⟨rfl, rfl⟩))))
        go_step3
        refine jump_back (m' := n - (i + 2)) ?_ ?_
        · omega
        exact ⟨rfl, i + 2, su, la, rfl, by omega, hin2, hsu2, hla2, HF, ⟨slot [undef, undef, _, _, undef, undef, undef, undef, undef, undef, _, _, _, _, _, _, _, _, _, _, _, _, _, _, _, _, _, _, _, _, _, _, _, _, _, _, _, _, _, _, _, _, _, _, _, _, _, _, _, _, _, _, _, _, _, _, _, _, _, _, _, _, _, _, _, _, _, _, _, _, _, _, _, _, _, _, _, _, _, _, _, _, _, _, _, _, _, _, _, _], rfl⟩⟩
set_option maxRecDepth 100000 in
set_option maxHeartbeats 1000000 in
theorem numGet_far (A : Option Addr) (n c : Nat) (t : Int) (w : World) (hn : n ≤ 1000000000000) (ht : t < 0 ∨ (n : Int) < t) :
    Calls Try.prog 45 #[.slice A n c, .int .i64 t] w fun e w' => e = .returned (.tuple #[.int .u64 0, .int .i64 t, .int .i64 2]) ∧ w = w' := by
  obtain h1 | ⟨h1, h2⟩ : t < 0 ∨ ¬ t < 0 ∧ (n : Int) < t := by omega
  all_goals
    clear ht
    go_enter Try.func45, Try.ntmps45
    go_wp2
    go_step3
    go_wp2
    rw [Exit.noGoto_ret]
    go_ret3
    exact ⟨rfl, rfl⟩
end Go.Proofs.Ytobbjhbjjhnicaa
