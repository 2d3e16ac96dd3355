/- The walk of seal.number. -/
import Derived.Test.YtobbjhbjjhnicaaPlainSeal
namespace Go.Proofs.Ytobbjhbjjhnicaa
open Go.RowKit
set_option linter.unusedVariables false
theorem Bytes.pick {w : World} {B n k : Nat} {A : Option Addr} {l : List UInt8} (h : Bytes w B A n l) (hk : k < n) : ∃ (b off : Nat) (x : UInt8), A = some ⟨b, off, none⟩ ∧ b < B ∧ l[k]? = some x ∧ w.cell? ⟨b, off + k, none⟩ = some (.int .u8 (x.toNat : Int)) := by
  obtain ⟨b, off, hl, h1, h2, h3⟩ := h.at_ hk
  exact ⟨b, off, l[k], h1, h2, List.getElem?_eq_getElem hl, h3⟩
theorem drop_at {l : List UInt8} {i : Nat} {x : UInt8} (h : l[i]? = some x) : l.drop i = x :: l.drop (i + 1) := by
  obtain ⟨hi, rfl⟩ := List.getElem?_eq_some_iff.1 h
  exact List.drop_eq_getElem_cons hi
set_option maxRecDepth 100000 in
set_option maxHeartbeats 4000000 in
theorem number_any (A : Option Addr) (n c B t m : Nat) (l : List UInt8) (w : World) (hb : Bytes w B A n l) (hn : n ≤ 1000000000) (ht : t ≤ n) (hm : m ≤ 1048576) :
    Calls Try.prog 40 #[.slice A n c, .int .i64 (t : Int), .int .u64 (m : Int)] w fun e w' => e = .returned (.tuple #[.int .i64 ((PS.number l t m).1 : Int), .int .i64 ((PS.number l t m).2.1 : Int), .int .i64 ((PS.number l t m).2.2 : Int)]) ∧ w = w' := by
  have HB := Lib.hid hb
  have HLen := Lib.hid hb.len
  have kg := numGet A n c B t l w hb (by omega) ht
  have KG := Lib.hid kg
  clear hb kg
  have HNum : Hid (PS.number l t m = if PS.runs 8 (l.drop t) = true then (0, t, 5) else if (getRes l t).2.2 ≠ 0 ∨ m < (getRes l t).1 then (0, t, 3) else ((getRes l t).1, (getRes l t).2.1, 0)) := rfl
  go_enter Try.func40, Try.ntmps40
  go_wp2
  refine wp_scope_back 0 (fun z a' w' => w = w' ∧ ∃ (i p : Nat), p = z ∧ p ≤ 8 ∧ i = t + 2 * (8 - p) ∧ i ≤ n + 1 ∧ Hid (PS.runs 8 (l.drop t) = PS.runs p (l.drop i)) ∧ ∃ u : Nat → Value, a' = ⟨#[.slice A n c, .int .i64 (t : Int), .int .u64 (m : Int), u 3, u 4, u 5, .int .i64 0, .int .i64 0, .int .i64 0, .int .i64 (i : Int), u 10, u 11, u 12, u 13, u 14, u 15, u 16, u 17, u 18, u 19, u 20, u 21, u 22, u 23, u 24, u 25, u 26, u 27, u 28, u 29, u 30, u 31, u 32, u 33, u 34, u 35, u 36, u 37, u 38, u 39, u 40, u 41, u 42, u 43, u 44, u 45, u 46, u 47, u 48, u 49, u 50, u 51, u 52, u 53, u 54, u 55, u 56, u 57, u 58, u 59, u 60, u 61, u 62, u 63, u 64], []⟩) rfl ?_ ?_
  · intro HL
    go_wp2
    go_step3
    go_step
    go_step
    exact HL.out _ _ _ ⟨rfl, t, 8, rfl, Nat.le_refl _, rfl, by omega, rfl, ⟨slot [undef, undef, undef, _, _, _, undef, undef, undef, undef, _, _, _, _, _, _, _, _, _, _, _, _, _, _, _, _, _, _, _, _, _, _, _, _, _, _, _, _, _, _, _, _, _, _, _, _, _, _, _, _, _, _, _, _, _, _, _, _, _, _, _, _, _, _, _], rfl⟩⟩
  · rintro z a' w' ⟨rfl, i, p, rfl, hp, hi, hin, HR, ⟨u, rfl⟩⟩
    have HI := Lib.hid hi
    by_cases hge : n ≤ i
    · have tge : (n : Int) ≤ (i : Int) := by omega
      clear hi
      go_wp2
      refine jump_ret ?_
      go_ret3
      rw [HNum.out, HR.out, List.drop_eq_nil_of_le (by rw [HLen.out]; omega), if_pos (by cases p <;> rfl)]
      exact ⟨rfl, rfl⟩
    · have hlt : i < n := by omega
      have tge : ¬ (n : Int) ≤ (i : Int) := by omega
      obtain ⟨blk, off, x, hA, _, hx, hc1⟩ := HB.out.pick hlt
      subst hA
      have hd := drop_at hx
      by_cases hx250 : x.toNat = 250
      · have tx : ((x.toNat : Int) == 250) = true := by rw [beq_iff_eq]; omega
        rcases p with _ | p
        · have hit : (i : Int) - (t : Int) = 16 := by omega
          have HF : Hid (PS.runs 8 (l.drop t) = false) := by show _ = _; rw [HR.out, hd]; rfl
          clear hi hd hx HR
          have hnum := HNum.out
          rw [HF.out, if_neg (by simp)] at hnum
          have KG1 := KG
          generalize getRes l t = G at *
          obtain ⟨v, e, cd⟩ := G
          simp only at hnum
          by_cases hcd : cd = 0
          · subst hcd
            by_cases hmv : m < v
            · have HN := Lib.hid (hnum.trans (if_pos (.inr hmv)))
              have tmv : (m : Int) < (v : Int) := by omega
              clear hnum
              go_wp2_with fail
              (with_reducible refine KG.out.mono ?_)
              rintro e w1 ⟨rfl, rfl⟩
              go_wp2_with fail
              refine jump_ret ?_
              go_ret3
              exact ⟨by rw [HN.out]; rfl, rfl⟩
            · have HN := Lib.hid (hnum.trans (if_neg (by rintro (h | h); exact h rfl; exact hmv h)))
              have tmv : ¬ (m : Int) < (v : Int) := by omega
              have jv : wrap64 (v : Int) = (v : Int) := IntWalk.wrap64_in _ ⟨by omega, by omega⟩
              clear hnum
              go_wp2_with fail
              (with_reducible refine KG.out.mono ?_)
              rintro e w1 ⟨rfl, rfl⟩
              go_wp2_with fail
              refine jump_ret ?_
              go_ret3
              exact ⟨by rw [HN.out]; rfl, rfl⟩
          · have HN := Lib.hid (hnum.trans (if_pos (.inl hcd)))
            have tcd : ((cd : Int) != 0) = true := ne0_true hcd
            clear hnum
            go_wp2_with fail
            (with_reducible refine KG.out.mono ?_)
            rintro e w1 ⟨rfl, rfl⟩
            go_wp2_with fail
            refine jump_ret ?_
            go_ret3
            exact ⟨by rw [HN.out]; rfl, rfl⟩
        · have hit : (i : Int) - (t : Int) < 16 := by omega
          by_cases hi1 : i + 1 = n
          · have te : ((i : Int) + 1 == (n : Int)) = true := by rw [beq_iff_eq]; omega
            have HR2 : Hid (PS.runs 8 (l.drop t) = PS.runs p (l.drop (i + 2))) := by
              show _ = _
              rw [HR.out, hd, List.drop_eq_nil_of_le (by rw [HLen.out]; omega), List.drop_eq_nil_of_le (by rw [HLen.out]; omega)]
              show decide (x.toNat = 250) = _
              rw [hx250]
              cases p <;> rfl
            clear hi hd hx HR
            go_wp2
            go_step3
            simp only [Exit.then]
            refine jump_back (m' := p) ?_ ?_
            · omega
            exact ⟨rfl, i + 2, p, rfl, by omega, by have := HI.out; omega, by omega, HR2, ⟨slot [undef, undef, undef, _, _, _, undef, undef, undef, undef, _, _, _, _, _, _, _, _, _, _, _, _, _, _, _, _, _, _, _, _, _, _, _, _, _, _, _, _, _, _, _, _, _, _, _, _, _, _, _, _, _, _, _, _, _, _, _, _, _, _, _, _, _, _, _], rfl⟩⟩
          · have hlt1 : i + 1 < n := by omega
            have te : ((i : Int) + 1 == (n : Int)) = false := by rw [beq_eq_false_iff_ne]; omega
            obtain ⟨_, _, y, hA, _, hy, hc2⟩ := HB.out.pick hlt1
            cases hA
            have hd2 := drop_at hy
            have hrr : PS.runs 8 (l.drop t) = (decide (x.toNat = 250) && decide (y.toNat < 250) && PS.runs p (l.drop (i + 2))) := by rw [HR.out, hd, hd2]; rfl
            have hc3 : w.cell? ⟨blk, off + (i + 1), none⟩ = some (.int .u8 (y.toNat : Int)) := hc2
            by_cases hy250 : y.toNat < 250
            · have ty : (y.toNat : Int) < 250 := by omega
              have HR2 : Hid (PS.runs 8 (l.drop t) = PS.runs p (l.drop (i + 2))) := by
                show _ = _
                rw [hrr, decide_eq_true hx250, decide_eq_true hy250]
                rfl
              clear hi hd hx HR hd2 hy hrr
              go_wp2
              go_step3
              simp only [Exit.then]
              refine jump_back (m' := p) ?_ ?_
              · omega
              exact ⟨rfl, i + 2, p, rfl, by omega, by have := HI.out; omega, by omega, HR2, ⟨slot [undef, undef, undef, _, _, _, undef, undef, undef, undef, _, _, _, _, _, _, _, _, _, _, _, _, _, _, _, _, _, _, _, _, _, _, _, _, _, _, _, _, _, _, _, _, _, _, _, _, _, _, _, _, _, _, _, _, _, _, _, _, _, _, _, _, _, _, _], rfl⟩⟩
            · have ty : ¬ (y.toNat : Int) < 250 := by omega
              have HF : Hid (PS.runs 8 (l.drop t) = false) := by
                show _ = _
                rw [hrr, decide_eq_false hy250, Bool.and_false, Bool.false_and]
              clear hi hd hx HR hd2 hy hrr
              have hnum := HNum.out
              rw [HF.out, if_neg (by simp)] at hnum
              have KG1 := KG
              generalize getRes l t = G at *
              obtain ⟨v, e, cd⟩ := G
              simp only at hnum
              by_cases hcd : cd = 0
              · subst hcd
                by_cases hmv : m < v
                · have HN := Lib.hid (hnum.trans (if_pos (.inr hmv)))
                  have tmv : (m : Int) < (v : Int) := by omega
                  clear hnum
                  go_wp2_with fail
                  (with_reducible refine KG.out.mono ?_)
                  rintro e w1 ⟨rfl, rfl⟩
                  go_wp2_with fail
                  refine jump_ret ?_
                  go_ret3
                  exact ⟨by rw [HN.out]; rfl, rfl⟩
                · have HN := Lib.hid (hnum.trans (if_neg (by rintro (h | h); exact h rfl; exact hmv h)))
                  have tmv : ¬ (m : Int) < (v : Int) := by omega
                  have jv : wrap64 (v : Int) = (v : Int) := IntWalk.wrap64_in _ ⟨by omega, by omega⟩
                  clear hnum
                  go_wp2_with fail
                  (with_reducible refine KG.out.mono ?_)
                  rintro e w1 ⟨rfl, rfl⟩
                  go_wp2_with fail
                  refine jump_ret ?_
                  go_ret3
                  exact ⟨by rw [HN.out]; rfl, rfl⟩
              · have HN := Lib.hid (hnum.trans (if_pos (.inl hcd)))
                have tcd : ((cd : Int) != 0) = true := ne0_true hcd
                clear hnum
                go_wp2_with fail
                (with_reducible refine KG.out.mono ?_)
                rintro e w1 ⟨rfl, rfl⟩
                go_wp2_with fail
                refine jump_ret ?_
                go_ret3
                exact ⟨by rw [HN.out]; rfl, rfl⟩
      · have tx : ((x.toNat : Int) == 250) = false := by rw [beq_eq_false_iff_ne]; omega
        have HF : Hid (PS.runs 8 (l.drop t) = false) := by
          show _ = _
          rw [HR.out, hd]
          rcases p with _ | p
          · rfl
          · generalize l.drop (i + 1) = r
            cases r with
            | nil => exact decide_eq_false hx250
            | cons y r => show (decide (x.toNat = 250) && _ && _) = false; rw [decide_eq_false hx250]; rfl
        clear hi hd hx HR
        have hnum := HNum.out
        rw [HF.out, if_neg (by simp)] at hnum
        have KG1 := KG
        generalize getRes l t = G at *
        obtain ⟨v, e, cd⟩ := G
        simp only at hnum
        by_cases hcd : cd = 0
        · subst hcd
          by_cases hmv : m < v
          · have HN := Lib.hid (hnum.trans (if_pos (.inr hmv)))
            have tmv : (m : Int) < (v : Int) := by omega
            clear hnum
            go_wp2_with fail
            (with_reducible refine KG.out.mono ?_)
            rintro e w1 ⟨rfl, rfl⟩
            go_wp2_with fail
            refine jump_ret ?_
            go_ret3
            exact ⟨by rw [HN.out]; rfl, rfl⟩
          · have HN := Lib.hid (hnum.trans (if_neg (by rintro (h | h); exact h rfl; exact hmv h)))
            have tmv : ¬ (m : Int) < (v : Int) := by omega
            have jv : wrap64 (v : Int) = (v : Int) := IntWalk.wrap64_in _ ⟨by omega, by omega⟩
            clear hnum
            go_wp2_with fail
            (with_reducible refine KG.out.mono ?_)
            rintro e w1 ⟨rfl, rfl⟩
            go_wp2_with fail
            refine jump_ret ?_
            go_ret3
            exact ⟨by rw [HN.out]; rfl, rfl⟩
        · have HN := Lib.hid (hnum.trans (if_pos (.inl hcd)))
          have tcd : ((cd : Int) != 0) = true := ne0_true hcd
          clear hnum
          go_wp2_with fail
          (with_reducible refine KG.out.mono ?_)
          rintro e w1 ⟨rfl, rfl⟩
          go_wp2_with fail
          refine jump_ret ?_
          go_ret3
          exact ⟨by rw [HN.out]; rfl, rfl⟩
end Go.Proofs.Ytobbjhbjjhnicaa
