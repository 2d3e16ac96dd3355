/- The walk of MatchAsks. -/
import Derived.Test.YthoipfdapmjcfaaTold11
import Derived.Test.YthoipfdapmjcfaaText
import Derived.Test.YthoipfdapmjcfaaRefToks
import Derived.Test.YthoipfdapmjcfaaRefJoin
import Derived.Test.YthoipfdapmjcfaaMatchOf
import Derived.Test.YthoipfdapmjcfaaPlainMatch2
namespace Go.Proofs.Ythoipfdapmjcfaa
open Go.RowKit
set_option linter.unusedVariables false
namespace MA
/-- The best match at any number. -/
def bestAt (l : List UInt8) (k : Int) : Nat × Nat := if 0 ≤ k ∧ k < (l.length : Int) then PM.best l k.toNat else (0, 0)
theorem best_at (A : Option Addr) (n c B : Nat) (l : List UInt8) (k : Int) (w : World) (hl : Bytes w B A n l) (hB : B ≤ w.heap.size) (hn : n ≤ 1000000) :
    Calls Try.prog 10 #[.slice A n c, .int .i64 k] w fun e w' => e = .returned (.tuple #[.int .i64 ((bestAt l k).1 : Int), .int .i64 ((bestAt l k).2 : Int)]) ∧ Below w.heap.size w w' := by
  have hlen := hl.len
  unfold bestAt
  by_cases h : 0 ≤ k ∧ k < (l.length : Int)
  · rw [if_pos h]
    obtain ⟨a, rfl⟩ : ∃ a : Nat, k = (a : Int) := ⟨k.toNat, by omega⟩
    rw [Int.toNat_natCast]
    exact best_any A n c B l a w hl hB hn (by omega)
  · rw [if_neg h]
    exact best_out A n c k w (by omega)
theorem refBest_at (l : List UInt8) (n : Nat) (k : Int) (w : World) (hk : 0 ≤ k) (hl : l.length = n) (hn : n ≤ 1000000) :
    Calls Try.prog 11 #[.string ⟨l.toArray⟩, .int .i64 k] w fun e w' => e = .returned (.tuple #[.int .i64 ((bestAt l k).1 : Int), .int .i64 ((bestAt l k).2 : Int)]) ∧ Below w.heap.size w w' := by
  have hs : (⟨l.toArray⟩ : ByteArray).size = n := by rw [← hl]; exact List.size_toArray
  obtain ⟨a, rfl⟩ : ∃ a : Nat, k = (a : Int) := ⟨k.toNat, by omega⟩
  unfold bestAt
  by_cases h : 0 ≤ (a : Int) ∧ (a : Int) < (l.length : Int)
  · rw [if_pos h, Int.toNat_natCast]
    exact refBest_any ⟨l.toArray⟩ n a w hs hn (by omega)
  · rw [if_neg h]
    exact refBest_out ⟨l.toArray⟩ a w (by rw [hs]; omega) (by rw [hs]; exact hn)
theorem bestAt_neg (l : List UInt8) (k : Int) (h : ¬ 0 ≤ k) : bestAt l k = (0, 0) := by
  unfold bestAt
  rw [if_neg (by omega)]
theorem refToks_at (l : List UInt8) (n : Nat) (w : World) (hl : l.length = n) (hn : n ≤ 1000000) :
    Calls Try.prog 13 #[.string ⟨l.toArray⟩] w (GaveT 35 w (PM.toks l)) :=
  refToks_any ⟨l.toArray⟩ n w (by rw [← hl]; exact List.size_toArray) hn
end MA
set_option maxRecDepth 100000 in
set_option maxHeartbeats 8000000 in
theorem matchAsks (A0 : Option Addr) (n0 c0 : Nat) (l0 : List Int) (A1 : Option Addr) (n1 c1 : Nat) (l1 : List UInt8) (at_ : Int) (A3 : Option Addr) (n3 c3 : Nat) (ts : List PM.Tok) (q : Int) (w : World)
    (hl0 : Ints w w.heap.size A0 n0 l0) (hc0 : n0 ≤ c0) (hm0 : c0 ≤ maxLen) (hl1 : Bytes w w.heap.size A1 n1 l1) (hc1 : n1 ≤ c1) (hz1 : A1 = none → c1 = 0) (hl3 : Toks w w.heap.size A3 n3 ts) (h200 : n1 ≤ 200) (h30 : n3 ≤ 30) :
    Calls Try.prog 3 #[.slice A0 n0 c0, .slice A1 n1 c1, .int .i64 at_, .slice A3 n3 c3, .int .i64 q] w fun e w' => e = .returned (.bool true) ∧ Below w.heap.size w w' := by
  have t200 : ¬ (200 : Int) < (n1 : Int) := by omega
  have t30 : ¬ (30 : Int) < (n3 : Int) := by omega
  have KT := Lib.hid (text_any A0 n0 c0 w.heap.size l0 1500 w hl0 (Nat.le_refl _) hc0 hm0 (by omega))
  obtain ⟨M, hM⟩ : ∃ M : Int, M = min q 5000 := ⟨_, rfl⟩
  obtain ⟨m, hm⟩ : ∃ m : Nat, max M 0 = (m : Int) := ⟨(max M 0).toNat, by omega⟩
  have hm5 : m ≤ 5000 := by omega
  have em1 : (if q < 5000 then q else 5000) = M := by split <;> omega
  have em2 : (if 5000 < q then 5000 else q) = M := by split <;> omega
  have HM := Lib.hid hm
  have HL1 := Lib.hid hl1
  have HL3 := Lib.hid hl3
  have HN3 := Lib.hid hl3.len
  clear hl0 hc0 hm0 hl1 hl3 hM hm
  go_enter Try.func3, Try.ntmps3
  go_wp2_with fail
  refine KT.out.mono ?_
  clear KT em1 em2
  rintro e w1 ⟨At, nt, ct, lt, rfl, hBt, hnt, hct, hzt, hW1⟩
  have HBt := Lib.hid hBt
  clear hBt
  go_wp2_with fail
  go_loopw [12, 13] (fun v i wr => ∃ (r : Nat) (Ab : Option Addr) (nb cb : Nat) (lb : List UInt8), v = .slice Ab nb cb ∧ i = .int .i64 r ∧ r ≤ 2 ∧ nb ≤ 1500 ∧ nb ≤ cb ∧ Hid (Bytes wr wr.heap.size Ab nb lb) ∧ Below w.heap.size w wr) (fun _ i _ => 2 - (intOf i).toNat)
  case atStart => exact ⟨0, At, nt, ct, lt, rfl, rfl, by omega, hnt, hct, HBt, hW1⟩
  case round =>
    clear HBt hW1
    obtain ⟨r, A, n, c, l, rfl, rfl, hr2, hn, hnc, HB, hW⟩ := hrel
    by_cases hlt : r < 2
    · have tr : (r : Int) < 2 := by omega
      have HLn := Lib.hid HB.out.len
      go_wp2_with fail
      (with_reducible refine (MA.best_at A n c wr.heap.size l at_ wr HB.out (Nat.le_refl _) (by omega)).mono ?_)
      rintro e w2 ⟨rfl, hb2⟩
      have HB2 := Lib.hid (HB.out.below hb2)
      have hs2 := hb2.size
      have hW2 := hW.trans (hb2.mono hW.size)
      have hcv2 := conv_bytes conv_u8 c HB2.out
      have HBA := Lib.hid (MA.bestAt_neg l at_)
      have KR := Lib.hid (fun w h => MA.refBest_at l n at_ w h HLn.out (by omega))
      generalize MA.bestAt l at_ = xy at *
      obtain ⟨x, y⟩ := xy
      clear hb2 hW HB
      have key : ∃ w3 : World, True := ⟨w2, trivial⟩
      clear key
      by_cases hat : 0 ≤ at_
      · go_wp2_with fail
        (with_reducible refine (KR.out w2 hat).mono ?_)
        rintro e w3 ⟨rfl, hb3⟩
        have HB3 := Lib.hid (HB2.out.below (hb3.mono hs2))
        have hs3 := Nat.le_trans hs2 hb3.size
        have hW3 := hW2.trans (hb3.mono hW2.size)
        clear hb3 hW2 HB2 hcv2 KR HBA
        have HB4 := Lib.hid HB3.out.drew
        have hs4 : wr.heap.size ≤ w3.drew.heap.size := hs3
        have hW4 := hW3.drew
        go_wp2
        refine (wp_region_seq (fun x => Below w3.drew.heap.size w3.drew x) [(false, 0), (false, 2), (false, 3), (true, 1), (true, 4), (true, 5), (true, 6)]
          (by kernel_rfl) (by kernel_rfl) (fun _ _ d _ _ h => by cases d <;> exact h) (Below.refl _ _) ?_)
        clear HB3 hW3 hs3
        generalize w3.drew = w4 at *
        generalize wr.heap.size = B at *
        iterate 3 (apply plan_take rfl rfl rfl rfl; (intro w' hS K hK; have hcv := conv_bytes conv_u8 c (HB4.out.below (hS.mono hs4)); clear hS; go_simp; exact hK))
        refine plan_force rfl rfl (fun K hK => ?_)
        go_wp2_with fail
        (with_reducible refine (all_any A n c B l w4 HB4.out hs4 (by omega)).mono ?_)
        rintro e w5 ⟨v5, rfl, hO5, hb5⟩
        obtain ⟨Ap, np, cp, rfl, hTp, _, _⟩ := hO5.form
        have HTp := Lib.hid hTp
        clear hO5 hTp
        go_wp2
        refine hK.out _ _ hb5 ?_
        clear hK K
        refine plan_force rfl rfl (fun K hK => ?_)
        go_wp2_with fail
        (with_reducible refine (MA.refToks_at l n w5 HLn.out (by omega)).mono ?_)
        rintro e w6 ⟨v6, rfl, hO6, hb6⟩
        obtain ⟨Aq, nq, cq, rfl, hTq, _, _⟩ := hO6.form
        have hnq : nq = np := by rw [← hTq.len, HTp.out.len]
        subst hnq
        have HTq := Lib.hid hTq
        have HTp6 := Lib.hid (HTp.out.below hb6)
        have hS6 := hb5.trans (hb6.mono hb5.size)
        have hs56 := hb6.size
        have hnp : nq ≤ 1500 := by rw [← hTq.len]; have := PM.toks_len l; have := HLn.out; omega
        clear hO6 hTq hb6 hb5 HTp
        go_wp2
        refine hK.out _ _ hS6 ?_
        clear hK K
        iterate 2 (refine plan_force rfl rfl (fun K hK => ?_); go_wp2; refine hK.out _ _ hS6 ?_; clear hK K)
        refine plan_nil ?_
        have hW6 := hW4.trans (hS6.mono hW4.size)
        clear hS6 hW4 HB4
        go_wp2_with fail
        go_loopw [20] (fun i wq => ∃ (z : Nat), i = .int .i64 z ∧ z ≤ nq ∧ Below w6.heap.size w6 wq ∧ Below w.heap.size w wq) (fun i _ => nq - (intOf i).toNat)
        case atStart => exact ⟨0, rfl, Nat.zero_le _, Below.refl _ _, hW6⟩
        case round =>
          clear hW6
          obtain ⟨z, rfl, hz, hb, hW⟩ := hrel
          by_cases hltz : z < nq
          · have tz : (z : Int) < (nq : Int) := by omega
            have hb7 := hb.drew
            have hW7 := hW.drew
            obtain ⟨bp, op, ⟨y0, y1, y2⟩, hAp, _, hgp, k0, k1, k2⟩ := (HTp6.out.below (hb7.mono hs56)).pick hltz
            obtain ⟨bq, oq, tq, hAq, _, hgq, m0, m1, m2⟩ := (HTq.out.below hb7).pick hltz
            rw [hgp] at hgq
            cases hgq
            subst hAp
            subst hAq
            simp only at k0 k1 k2 m0 m1 m2
            clear hgp
            go_wp2
            refine (wp_region_seq (fun x => x = wr.drew) [(false, 0), (false, 1), (false, 2), (false, 3), (false, 4), (false, 5), (true, 6), (true, 7), (true, 8), (true, 9), (true, 10), (true, 11), (false, 12), (false, 13), (false, 14), (false, 15), (false, 16), (false, 17), (true, 18), (true, 19), (true, 20), (true, 21), (true, 22), (true, 23), (true, 24), (false, 25), (false, 26), (false, 27), (false, 28), (false, 29), (false, 30), (true, 31), (true, 32), (true, 33), (true, 34), (true, 35), (true, 36)]
              (by kernel_rfl) (by kernel_rfl) (fun _ _ d _ _ h => by cases d <;> exact h) rfl ?_)
            generalize wr.drew = w7 at *
            iterate 6 (apply plan_take rfl rfl rfl rfl; (intro w' hS K hK; subst hS; go_simp; exact hK))
            iterate 6 (refine plan_force rfl rfl (fun K hK => ?_); go_wp2; refine hK.out _ _ rfl ?_; clear hK K)
            iterate 6 (apply plan_take rfl rfl rfl rfl; (intro w' hS K hK; subst hS; go_simp; exact hK))
            iterate 7 (refine plan_force rfl rfl (fun K hK => ?_); go_wp2; refine hK.out _ _ rfl ?_; clear hK K)
            iterate 6 (apply plan_take rfl rfl rfl rfl; (intro w' hS K hK; subst hS; go_simp; exact hK))
            iterate 6 (refine plan_force rfl rfl (fun K hK => ?_); go_wp2; refine hK.out _ _ rfl ?_; clear hK K)
            refine plan_nil ?_
            go_wp2_with fail
            go_roundw
            case rel => first | exact ⟨z + 1, by go_num, hltz, hb7, hW7⟩ | exact ⟨z + 1, by omega, hltz⟩
            case measure => simp [intOf]; omega
          · obtain rfl : z = nq := by omega
            go_wp2_with fail
            go_roundw
            case rel => exact ⟨r + 1, A1, n1, c1, l1, rfl, by go_num, hlt, by omega, hc1, (HL1.out.below hW).more hW.size, hW⟩
            case measure => simp [intOf]; omega
      · have hz := HBA.out hat
        cases hz
        have HB3 := HB2
        have hs3 := hs2
        have hW3 := hW2
        go_wp2
        obtain ⟨w3, hw3⟩ : ∃ w3, w3 = w2 := ⟨_, rfl⟩
        subst hw3
        clear hW2 HB2 hcv2 KR HBA hs2
        have HB4 := Lib.hid HB3.out.drew
        have hs4 : wr.heap.size ≤ w3.drew.heap.size := hs3
        have hW4 := hW3.drew
        go_wp2
        refine (wp_region_seq (fun x => Below w3.drew.heap.size w3.drew x) [(false, 0), (false, 2), (false, 3), (true, 1), (true, 4), (true, 5), (true, 6)]
          (by kernel_rfl) (by kernel_rfl) (fun _ _ d _ _ h => by cases d <;> exact h) (Below.refl _ _) ?_)
        clear HB3 hW3 hs3
        generalize w3.drew = w4 at *
        generalize wr.heap.size = B at *
        iterate 3 (apply plan_take rfl rfl rfl rfl; (intro w' hS K hK; have hcv := conv_bytes conv_u8 c (HB4.out.below (hS.mono hs4)); clear hS; go_simp; exact hK))
        refine plan_force rfl rfl (fun K hK => ?_)
        go_wp2_with fail
        (with_reducible refine (all_any A n c B l w4 HB4.out hs4 (by omega)).mono ?_)
        rintro e w5 ⟨v5, rfl, hO5, hb5⟩
        obtain ⟨Ap, np, cp, rfl, hTp, _, _⟩ := hO5.form
        have HTp := Lib.hid hTp
        clear hO5 hTp
        go_wp2
        refine hK.out _ _ hb5 ?_
        clear hK K
        refine plan_force rfl rfl (fun K hK => ?_)
        go_wp2_with fail
        (with_reducible refine (MA.refToks_at l n w5 HLn.out (by omega)).mono ?_)
        rintro e w6 ⟨v6, rfl, hO6, hb6⟩
        obtain ⟨Aq, nq, cq, rfl, hTq, _, _⟩ := hO6.form
        have hnq : nq = np := by rw [← hTq.len, HTp.out.len]
        subst hnq
        have HTq := Lib.hid hTq
        have HTp6 := Lib.hid (HTp.out.below hb6)
        have hS6 := hb5.trans (hb6.mono hb5.size)
        have hs56 := hb6.size
        have hnp : nq ≤ 1500 := by rw [← hTq.len]; have := PM.toks_len l; have := HLn.out; omega
        clear hO6 hTq hb6 hb5 HTp
        go_wp2
        refine hK.out _ _ hS6 ?_
        clear hK K
        iterate 2 (refine plan_force rfl rfl (fun K hK => ?_); go_wp2; refine hK.out _ _ hS6 ?_; clear hK K)
        refine plan_nil ?_
        have hW6 := hW4.trans (hS6.mono hW4.size)
        clear hS6 hW4 HB4
        go_wp2_with fail
        go_loopw [20] (fun i wq => ∃ (z : Nat), i = .int .i64 z ∧ z ≤ nq ∧ Below w6.heap.size w6 wq ∧ Below w.heap.size w wq) (fun i _ => nq - (intOf i).toNat)
        case atStart => exact ⟨0, rfl, Nat.zero_le _, Below.refl _ _, hW6⟩
        case round =>
          clear hW6
          obtain ⟨z, rfl, hz, hb, hW⟩ := hrel
          by_cases hltz : z < nq
          · have tz : (z : Int) < (nq : Int) := by omega
            have hb7 := hb.drew
            have hW7 := hW.drew
            obtain ⟨bp, op, ⟨y0, y1, y2⟩, hAp, _, hgp, k0, k1, k2⟩ := (HTp6.out.below (hb7.mono hs56)).pick hltz
            obtain ⟨bq, oq, tq, hAq, _, hgq, m0, m1, m2⟩ := (HTq.out.below hb7).pick hltz
            rw [hgp] at hgq
            cases hgq
            subst hAp
            subst hAq
            simp only at k0 k1 k2 m0 m1 m2
            clear hgp
            go_wp2
            refine (wp_region_seq (fun x => x = wr.drew) [(false, 0), (false, 1), (false, 2), (false, 3), (false, 4), (false, 5), (true, 6), (true, 7), (true, 8), (true, 9), (true, 10), (true, 11), (false, 12), (false, 13), (false, 14), (false, 15), (false, 16), (false, 17), (true, 18), (true, 19), (true, 20), (true, 21), (true, 22), (true, 23), (true, 24), (false, 25), (false, 26), (false, 27), (false, 28), (false, 29), (false, 30), (true, 31), (true, 32), (true, 33), (true, 34), (true, 35), (true, 36)]
              (by kernel_rfl) (by kernel_rfl) (fun _ _ d _ _ h => by cases d <;> exact h) rfl ?_)
            generalize wr.drew = w7 at *
            iterate 6 (apply plan_take rfl rfl rfl rfl; (intro w' hS K hK; subst hS; go_simp; exact hK))
            iterate 6 (refine plan_force rfl rfl (fun K hK => ?_); go_wp2; refine hK.out _ _ rfl ?_; clear hK K)
            iterate 6 (apply plan_take rfl rfl rfl rfl; (intro w' hS K hK; subst hS; go_simp; exact hK))
            iterate 7 (refine plan_force rfl rfl (fun K hK => ?_); go_wp2; refine hK.out _ _ rfl ?_; clear hK K)
            iterate 6 (apply plan_take rfl rfl rfl rfl; (intro w' hS K hK; subst hS; go_simp; exact hK))
            iterate 6 (refine plan_force rfl rfl (fun K hK => ?_); go_wp2; refine hK.out _ _ rfl ?_; clear hK K)
            refine plan_nil ?_
            go_wp2_with fail
            go_roundw
            case rel => first | exact ⟨z + 1, by go_num, hltz, hb7, hW7⟩ | exact ⟨z + 1, by omega, hltz⟩
            case measure => simp [intOf]; omega
          · obtain rfl : z = nq := by omega
            go_wp2_with fail
            go_roundw
            case rel => exact ⟨r + 1, A1, n1, c1, l1, rfl, by go_num, hlt, by omega, hc1, (HL1.out.below hW).more hW.size, hW⟩
            case measure => simp [intOf]; omega
    · obtain rfl : r = 2 := by omega
      rw [show ((2 : Nat) : Int) = 2 from rfl]
      clear HB
      go_wp2_with fail
      go_loopw [21] (fun i wr => ∃ (x : Nat), i = .int .i64 x ∧ x ≤ n3 ∧ Below w.heap.size w wr) (fun i _ => n3 - (intOf i).toNat)
      case atStart => exact ⟨0, rfl, Nat.zero_le _, hW⟩
      case round =>
        clear hW
        obtain ⟨x, rfl, hx, hW⟩ := hrel
        by_cases hlt3 : x < n3
        · have t3 : (x : Int) < (n3 : Int) := by omega
          obtain ⟨blk, off, ⟨y0, y1, y2⟩, hA, hblk, hg, _, _, _⟩ := HL3.out.pick hlt3
          subst hA
          have HC : Hid (∀ w', Below w.heap.size w w' → w'.cell? ⟨blk, off + x * 3, none⟩ = some (.int .i64 y0) ∧ w'.cell? ⟨blk, off + x * 3 + 1, none⟩ = some (.int .i64 y1) ∧ w'.cell? ⟨blk, off + x * 3 + 2, none⟩ = some (.int .i64 y2)) := by
            intro w' hb
            obtain ⟨_, _, t, hA, _, hg2, k0, k1, k2⟩ := (HL3.out.below hb).pick hlt3
            cases hA
            rw [hg] at hg2
            cases hg2
            exact ⟨k0, k1, k2⟩
          obtain ⟨bm, hbm⟩ : ∃ bm, bm = PM.may (y0, y1, y2) := ⟨_, rfl⟩
          have KM1 := Lib.hid (fun w => may_any y0 y1 y2 w)
          have KM2 := Lib.hid (fun w => refMay_any y0 y1 y2 w)
          rw [← hbm] at KM1 KM2
          clear hg hbm
          have hW5 := hW.drew
          go_wp2
          refine (wp_region_seq (fun x => Below w.heap.size w x) [(false, 0), (false, 1), (false, 2), (false, 3), (false, 5), (false, 6), (false, 7), (false, 8), (false, 9), (false, 10), (false, 11), (false, 12), (false, 13), (false, 14), (false, 15), (false, 16), (false, 17), (false, 18), (false, 19), (false, 20), (true, 4), (true, 21), (true, 22)]
            (by kernel_rfl) (by kernel_rfl) (fun _ _ d _ _ h => by cases d <;> exact h) hW5 ?_)
          generalize wr.drew = w5 at *
          iterate 20 (apply plan_take rfl rfl rfl rfl; (intro w' hS K hK; obtain ⟨k0, k1, k2⟩ := HC.out w' hS; clear hS; go_simp; exact hK))
          refine plan_force rfl rfl (fun K hK => ?_)
          go_wp2_with fail
          (with_reducible refine (KM1.out w5).mono ?_)
          rintro e w6 ⟨rfl, hb6⟩
          have hW6 := hW5.trans (hb6.mono hW5.size)
          go_wp2
          refine hK.out _ _ hW6 ?_
          clear hK K
          refine plan_force rfl rfl (fun K hK => ?_)
          go_wp2_with fail
          (with_reducible refine (KM2.out w6).mono ?_)
          rintro e w7 ⟨rfl, hb7⟩
          have hW7 := hW6.trans (hb7.mono hW6.size)
          go_wp2
          refine hK.out _ _ hW7 ?_
          clear hK K
          refine plan_force rfl rfl (fun K hK => ?_); go_wp2; refine hK.out _ _ hW7 ?_; clear hK K
          refine plan_nil ?_
          go_wp2_with fail
          go_roundw
          case rel => first | exact ⟨x + 1, by go_num, hlt3, hW7⟩ | exact ⟨x + 1, by omega, hlt3⟩
          case measure => simp [intOf]; omega
        · obtain rfl : x = n3 := by omega
          have KJ := Lib.hid (join_any A3 x c3 w.heap.size ts M m wr (HL3.out.below hW) hW.size (by omega) HM.out (by omega))
          have KJ2 := Lib.hid (fun A n c B w (h : Toks w B A n ts) (hB : B ≤ w.heap.size) (hn : n ≤ 30) => refJoin_any A n c B ts M m w h hB (by omega) HM.out (by omega))
          generalize PM.join ts (m : Int) [] = R at *
          obtain ⟨rb, re⟩ := R
          go_wp2_with fail
          (with_reducible refine KJ.out.mono ?_)
          clear KJ
          rintro e w2 ⟨v2, rfl, hO2, hb2⟩
          obtain ⟨A5, n5, c5, rfl, hB5, _, _⟩ := hO2.form_n
          have HB5 := Lib.hid hB5
          have hW2 := hW.trans (hb2.mono hW.size)
          clear hO2 hB5 hW hb2
          go_wp2_with fail
          (with_reducible refine (of_any A3 x c3 w.heap.size ts w2 (HL3.out.below hW2) hW2.size (by omega)).mono ?_)
          rintro e w4 ⟨v4, rfl, hO4, hb4⟩
          obtain ⟨A6, n6, c6, rfl, hT6, _, _⟩ := hO4.form
          have hn6 : n6 = x := by rw [← hT6.len, HN3.out]
          subst hn6
          have HT6 := Lib.hid hT6
          have HB6 := Lib.hid (HB5.out.below hb4)
          have hW4 := hW2.trans (hb4.mono hW2.size)
          have hs24 := hb4.size
          clear hO4 hT6 hb4 hW2 HB5
          go_wp2_with fail
          (with_reducible refine (KJ2.out A6 n6 c6 w4.heap.size w4 HT6.out (Nat.le_refl _) (by omega)).mono ?_)
          clear KJ2
          rintro e w5 ⟨rfl, hb5⟩
          have HB7 := Lib.hid (HB6.out.below (hb5.mono hs24))
          have hW5 := hW4.trans (hb5.mono hW4.size)
          have hs25 := Nat.le_trans hs24 hb5.size
          clear hb5 hW4 HB6 HT6
          go_wp2_with fail
          (with_reducible refine (told11 _).mono ?_)
          rintro e w6 ⟨rfl, hb6⟩
          have hcv := conv_bytes conv_u8 c5 (HB7.out.below (hb6.mono hs25))
          have hW6 := hW5.trans (hb6.mono hW5.size)
          clear hb6 hW5 HB7
          go_wp2_with fail
          go_ret
          exact ⟨rfl, hW6⟩
set_option maxRecDepth 100000 in
set_option maxHeartbeats 1000000 in
theorem walkMatchAsks (A0 : Option Addr) (n0 c0 : Nat) (l0 : List Int) (A1 : Option Addr) (n1 c1 : Nat) (l1 : List UInt8) (at_ : Int) (A3 : Option Addr) (n3 c3 : Nat) (ts : List PM.Tok) (q : Int) (w : World)
    (hl0 : Ints w w.heap.size A0 n0 l0) (hc0 : n0 ≤ c0) (hm0 : c0 ≤ maxLen) (hz0 : A0 = none → n0 = 0 ∧ c0 = 0) (hl1 : Bytes w w.heap.size A1 n1 l1) (hc1 : n1 ≤ c1) (hm1 : c1 ≤ maxLen) (hz1 : A1 = none → n1 = 0 ∧ c1 = 0)
    (hat : (Lit.int .i64 at_).wf = true) (hl3 : Toks w w.heap.size A3 n3 ts) (hc3 : n3 ≤ c3) (hm3 : c3 ≤ maxLen) (hz3 : A3 = none → n3 = 0 ∧ c3 = 0) (hq : (Lit.int .i64 q).wf = true) :
    Calls Try.prog 3 #[.slice A0 n0 c0, .slice A1 n1 c1, .int .i64 at_, .slice A3 n3 c3, .int .i64 q] w fun e w' => e = .returned (.bool true) ∧ Below w.heap.size w w' := by
  by_cases h1 : n1 ≤ 200
  · by_cases h2 : n3 ≤ 30
    · exact matchAsks A0 n0 c0 l0 A1 n1 c1 l1 at_ A3 n3 c3 ts q w hl0 hc0 hm0 hl1 hc1 (fun h => (hz1 h).2) hl3 h1 h2
    · have t1 : ¬ (200 : Int) < (n1 : Int) := by omega
      have t2 : (30 : Int) < (n3 : Int) := by omega
      unfold maxLen at hm0 hm1 hm3
      clear hl0 hl1 hl3 hz0 hz1 hz3 hat hq h1 h2
      go_enter Try.func3, Try.ntmps3
      go_wp2_with (go_at_call 8; refine (told11 _).mono ?_; rintro e w2 ⟨rfl, hb2⟩)
      go_ret
      exact ⟨rfl, hb2⟩
  · have t1 : (200 : Int) < (n1 : Int) := by omega
    unfold maxLen at hm0 hm1 hm3
    clear hl0 hl1 hl3 hz0 hz1 hz3 hat hq h1
    go_enter Try.func3, Try.ntmps3
    go_wp2_with (go_at_call 8; refine (told11 _).mono ?_; rintro e w2 ⟨rfl, hb2⟩)
    go_ret
    exact ⟨rfl, hb2⟩
end Go.Proofs.Ythoipfdapmjcfaa
