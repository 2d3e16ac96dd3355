/- The walk of MatchBack. -/
import Derived.Test.YthoipfdapmjcfaaTold11
import Derived.Test.YthoipfdapmjcfaaPlainMatch2
import Derived.Test.YthoipfdapmjcfaaText
namespace Go.Proofs.Ythoipfdapmjcfaa
open Go.RowKit
set_option linter.unusedVariables false
set_option maxRecDepth 100000 in
set_option maxHeartbeats 4000000 in
theorem walkMatchBack (A : Option Addr) (n c : Nat) (l : List Int) (w : World) (hl : Ints w w.heap.size A n l) (hc : n ≤ c) (hm : c ≤ maxLen) (hz : A = none → n = 0 ∧ c = 0) :
    Calls Try.prog 4 #[.slice A n c] w fun e w' => e = .returned (.bool true) ∧ Below w.heap.size w w' := by
  have KT := Lib.hid (text_any A n c w.heap.size l 1500 w hl (Nat.le_refl _) hc hm (by omega))
  clear hl hc hm hz
  go_enter Try.func4, Try.ntmps4
  go_wp2_with fail
  refine KT.out.mono ?_
  clear KT
  rintro e w1 ⟨A1, n1, c1, t, rfl, hB1, hn1, hc1, hz1, hW1⟩
  have HB1 := Lib.hid hB1
  have HL1 := Lib.hid hB1.len
  clear hB1
  by_cases h0 : n1 = 0
  · subst h0
    go_wp2_with fail
    (with_reducible refine (told11 _).mono ?_)
    rintro e w2 ⟨rfl, hb2⟩
    have hW2 := hW1.trans (hb2.mono hW1.size)
    go_wp2_with fail
    go_ret
    exact ⟨rfl, hW2⟩
  · have t0 : ((n1 : Int) == 0) = false := by rw [beq_eq_false_iff_ne]; omega
    go_wp2_with fail
    (with_reducible refine (all_any A1 n1 c1 w1.heap.size t w1 HB1.out (Nat.le_refl _) (by omega)).mono ?_)
    rintro e w2 ⟨v, rfl, hO, hb2⟩
    have hW2 := hW1.trans (hb2.mono hW1.size)
    have HB2 := Lib.hid (HB1.out.below hb2)
    have hs12 := hb2.size
    have hpe := PM.pos_end t
    have hpl := PM.toks_len t
    have hps := PM.toks_some t
    have hple := PM.pos_le t
    have hpc := fun x (h : x < (PM.toks t).length) => PM.longAt_cap t _ (PM.pos_lt t x h)
    have hlen0 : 0 < (PM.toks t).length := by
      rcases Nat.eq_zero_or_pos (PM.toks t).length with h | h
      · rw [h, HL1.out] at hpe
        exact absurd hpe.symm h0
      · exact h
    have hj1 := PM.join_toks t (n1 : Int) (by rw [HL1.out]; omega)
    have hj2 := PM.join_less t ((n1 - 1 : Nat) : Int) (by rw [HL1.out]; omega) (by omega)
    rw [HL1.out] at hpe hpl hple hpc
    obtain ⟨p, hp⟩ : ∃ p, p = (PM.toks t).length := ⟨_, rfl⟩
    rw [← hp] at hpe hpl hps hple hpc hlen0
    obtain ⟨g, cp, rfl, hT, hg1, hg2⟩ := hO.form_at p hp.symm hlen0
    have HT := Lib.hid hT
    have HPE := Lib.hid hpe
    have HPS := Lib.hid hps
    have HPC := Lib.hid hpc
    have HJ1 := Lib.hid hj1
    have HJ2 := Lib.hid hj2
    clear hO hT hb2 hpe hps hpc hj1 hj2 hple HB1 hW1 hp
    go_wp2_with fail
    go_loopw [5, 6] (fun s i wr => ∃ (x a : Nat), x ≤ p ∧ a ≤ n1 ∧ i = .int .i64 x ∧ s = .int .i64 a ∧ Hid (a = PM.posAt t x) ∧ Below w2.heap.size w2 wr ∧ Below w.heap.size w wr) (fun _ i _ => p - (intOf i).toNat)
    case atStart => exact ⟨0, 0, Nat.zero_le _, Nat.zero_le _, rfl, rfl, rfl, Below.refl _ _, hW2⟩
    case round =>
      clear hW2
      obtain ⟨x, a, hx, ha, rfl, rfl, HA, hb, hW⟩ := hrel
      by_cases hlt : x < p
      · obtain ⟨_, _, t1, hA1, _, hgt, k0, k1, k2⟩ := (HT.out.below hb).pick hlt
        cases hA1
        rw [Nat.zero_add] at k0 k1 k2
        have hs1 := HPS.out x hlt
        rw [hs1] at hgt
        injection hgt with hgt
        have hmay := PM.tok_may t (PM.posAt t x)
        have hback := PM.tok_back t (PM.posAt t x)
        have hlong := PM.tok_long t (PM.posAt t x)
        have hcap := HPC.out x hlt
        have hnx : PM.posAt t (x + 1) = PM.posAt t x + PM.longAt t (PM.posAt t x) := rfl
        rw [hgt] at hmay hback hlong
        rw [← HA.out] at hback hlong hcap hnx
        obtain ⟨y0, y1, y2⟩ := t1
        obtain ⟨L, hL⟩ : ∃ L, L = PM.longAt t a := ⟨_, rfl⟩
        rw [← hL] at hlong hcap hnx
        simp only at hback hlong k0 k1 k2
        have HN := Lib.hid hnx
        have HMay := Lib.hid hmay
        have ez : (if y2 < 1 then 1 else y2) = (L : Int) := by split <;> omega
        have ez2 : (if 1 < y2 then y2 else 1) = (L : Int) := by split <;> omega
        have ez3 : (if 1 > y2 then 1 else y2) = (L : Int) := by split <;> omega
        have tb : ¬ (a : Int) < y1 := by omega
        clear hs1 hgt hnx hL hmay hlong
        go_wp2_with fail
        (with_reducible refine (may_any y0 y1 y2 wr).mono ?_)
        rw [HMay.out]
        rintro e w3 ⟨rfl, hb3⟩
        have k13 := (hb3.cell (p := ⟨g, x * 3 + 1, none⟩) (World.block_lt_of_cell? _ _ k1)).trans k1
        have k23 := (hb3.cell (p := ⟨g, x * 3 + 2, none⟩) (World.block_lt_of_cell? _ _ k2)).trans k2
        have hbb := hb.trans (hb3.mono hb.size)
        have hWW := hW.trans (hb3.mono hW.size)
        clear k0 k1 k2 hb hW hb3
        go_wp2_with fail
        go_roundw
        case rel => exact ⟨x + 1, a + L, hlt, hcap, by go_num, by go_num, HN.out.symm, hbb, hWW⟩
        case measure => simp [intOf]; omega
      · obtain rfl : x = p := by omega
        have ha2 := HA.out
        rw [HPE.out] at ha2
        subst ha2
        have kj := join_any (some ⟨g, 0, none⟩) x cp w2.heap.size (PM.toks t) (a : Int) a wr (HT.out.below hb) hb.size (by omega) (by omega) (by omega)
        rw [HJ1.out] at kj
        have KJ := Lib.hid kj
        clear kj
        go_wp2_with fail
        (with_reducible refine KJ.out.mono ?_)
        clear KJ
        rintro e w3 ⟨v3, rfl, hO3, hb3⟩
        obtain ⟨A3, n3, c3, rfl, hB3, _, hz3⟩ := hO3.form_n
        have HB3 := Lib.hid hB3
        have hbb := hb.trans (hb3.mono hb.size)
        have hWW := hW.trans (hb3.mono hW.size)
        clear hO3 hB3 hb3 hb hW
        obtain ⟨a', rfl⟩ : ∃ a', a = a' + 1 := ⟨a - 1, by omega⟩
        have e1 : ((a' + 1 : Nat) : Int) - 1 = (a' : Int) := by omega
        have kj := join_any (some ⟨g, 0, none⟩) x cp w2.heap.size (PM.toks t) (a' : Int) a' w3 (HT.out.below hbb) hbb.size (by omega) (by omega) (by omega)
        have hj2 := HJ2.out
        rw [Nat.add_sub_cancel] at hj2
        rw [hj2] at kj
        have KJ := Lib.hid kj
        clear kj hj2
        go_wp2_with fail
        (with_reducible refine KJ.out.mono ?_)
        clear KJ
        rintro e w4 ⟨v4, rfl, _, hb4⟩
        have HB4 := Lib.hid (HB3.out.below hb4)
        have hb24 := hbb.trans (hb4.mono hbb.size)
        have hW4 := hWW.trans (hb4.mono hWW.size)
        have hs4 := hb4.size
        clear hb4 hbb hWW HB3
        go_wp2_with fail
        (with_reducible refine (told11 _).mono ?_)
        rintro e w5 ⟨rfl, hb5⟩
        have hc1 := conv_bytes conv_u8 c3 (HB4.out.below (hb5.mono (Nat.le_trans (Nat.le_refl _) hs4)))
        have hc2 := conv_bytes conv_u8 c1 (HB2.out.below ((hb24.trans (hb5.mono hb24.size)).mono hs12))
        have hW5 := hW4.trans (hb5.mono hW4.size)
        clear hb5 hb24 hW4 HB4
        go_wp2_with fail
        go_ret
        exact ⟨rfl, hW5⟩
end Go.Proofs.Ythoipfdapmjcfaa
