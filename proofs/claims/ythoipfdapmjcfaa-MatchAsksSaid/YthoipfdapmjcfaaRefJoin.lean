/- The walk of the reference's Join. -/
import Derived.Test.YthoipfdapmjcfaaRefMay
import Derived.Test.YthoipfdapmjcfaaMatchJoin
namespace Go.Proofs.Ythoipfdapmjcfaa
open Go.RowKit
set_option linter.unusedVariables false
/-- What the reference's Join gives. -/
def JoinedS (w : World) (r : List UInt8 × Int) (e : Ending) (w' : World) : Prop := e = .returned (.tuple #[.string ⟨r.1.toArray⟩, .int .i64 r.2]) ∧ Below w.heap.size w w'
set_option maxRecDepth 100000 in
set_option maxHeartbeats 8000000 in
theorem refJoin_any (A : Option Addr) (n c B : Nat) (ts : List PM.Tok) (M : Int) (m : Nat) (w : World) (hl : Toks w B A n ts) (hB : B ≤ w.heap.size) (hn : n ≤ 1000000) (hm : max M 0 = (m : Int)) (hm2 : m ≤ 1000000) :
    Calls Try.prog 17 #[.slice A n c, .int .i64 M] w (JoinedS w (PM.join ts (m : Int) [])) := by
  have HL0 := Lib.hid hl
  have HLen := Lib.hid hl.len
  clear hl
  have em : (if M < 0 then 0 else M) = (m : Int) := by split <;> omega
  have em2 : (if 0 < M then M else 0) = (m : Int) := by split <;> omega
  have em3 : (if 0 > M then 0 else M) = (m : Int) := by split <;> omega
  clear hm
  go_enter Try.func17, Try.ntmps17
  go_wp2_with fail
  go_loopw [6, 7] (fun v i w' => ∃ (k : Nat) (v0 : Value) (acc : List UInt8), v0 = v ∧ k ≤ n ∧ acc.length ≤ m ∧ i = .int .i64 k ∧ Hid (PM.join (ts.drop k) (m : Int) acc = PM.join ts (m : Int) []) ∧ Hid (Own 5 w' w.heap.size v0 acc) ∧ Below w.heap.size w w') (fun _ i _ => n - (intOf i).toNat)
  case atStart => exact ⟨0, _, [], rfl, Nat.zero_le _, Nat.zero_le _, rfl, rfl, Own.nil_, Below.refl _ _⟩
  case round =>
    obtain ⟨i, v0, acc, rfl, hi, hacc, rfl, HE, HO, hW⟩ := hrel
    obtain ⟨A1, n1, c1, hv, hB1, hnc, hnil⟩ := HO.out.form_n
    have hn1 := hB1.len
    subst hv
    by_cases h0 : i = n
    · subst h0
      have hcv := conv_bytes conv_u8 c1 hB1
      clear hB1
      go_wp2_with fail
      go_ret2
      have := HE.out
      rw [List.drop_eq_nil_of_le (by rw [HLen.out]; omega), join_nil] at this
      rw [← this]
      exact ⟨rfl, hW⟩
    · have hin : i < n := by omega
      have tin : (i : Int) < (n : Int) := by omega
      have hsz := hW.size
      clear hB1 hnil
      have HT : Hid (Toks wr B A n ts) := HL0.out.below (hW.mono hB)
      obtain ⟨blk, off, ⟨x, y, k⟩, hA, hblk, hgt, k0, k1, k2⟩ := HT.out.pick hin
      subst hA
      have HGt := Lib.hid (drop_cons hgt)
      have HEi := HE.out
      rw [HGt.out] at HEi
      have HE1 := Lib.hid HEi
      have HN1 := Lib.hid hn1
      clear hgt HEi HE HGt
      go_wp2_with fail
      (with_reducible refine (refMay_any x y k _).mono ?_)
      rintro e w1 ⟨rfl, hb1⟩
      have hs8 : wr.heap.size < (wr.alloc (Obj.cells (tokCells (x, y, k)) 35)).heap.size := by rw [World.size_alloc]; omega
      have HT8 : Hid (Blk w1 wr.heap.size 35 (tokCells (x, y, k))) := (Blk.new wr 35 (tokCells (x, y, k))).below hb1 hs8
      have HO1 : Hid (Own 5 w1 w.heap.size (.slice A1 n1 c1) acc) := (HO.out.alloc _).below hb1 (HO.out.alloc _).lt
      have HNe : Hid (∀ g, (Value.slice A1 n1 c1).ownBlock = some g → g ≠ wr.heap.size) := fun g hg => by have := HO.out.lt g hg; omega
      have hW1 : Below w.heap.size w w1 := (hW.alloc hW.size _).trans (hb1.mono (by rw [World.size_alloc]; omega))
      have hsz1 := hW1.size
      have d0 : w1.cell? ⟨wr.heap.size, 0, none⟩ = some (.int .i64 x) := HT8.out.cell 0
      have d1 : w1.cell? ⟨wr.heap.size, 1, none⟩ = some (.int .i64 y) := HT8.out.cell 1
      have d2 : w1.cell? ⟨wr.heap.size, 2, none⟩ = some (.int .i64 k) := HT8.out.cell 2
      have hg1 : wr.heap.size < w1.heap.size := HT8.out.lt
      clear hb1 hs8 HO hW HT k0 k1 k2
      generalize wr.heap.size = g8 at *
      generalize hmay : PM.may (x, y, k) = bm
      have HMay := Lib.hid hmay
      clear hmay
      cases bm
      · go_wp2_with fail
        go_ret2
        rw [← HE1.out, join_bad HMay.out]
        exact ⟨rfl, hW1⟩
      · rcases may_shape HMay.out with ⟨b, j, rfl, rfl, rfl, hb1, hb2, hj1, hj2⟩ | ⟨q, hq, rfl, rfl, rfl⟩
        · have t3 : ¬ (j : Int) < 1 := by omega
          by_cases h2 : n1 < b
          · have t2 : (n1 : Int) < (b : Int) := by omega
            go_wp2_with fail
            go_ret2
            rw [← HE1.out, join_far HMay.out (by show (b : Int) > _; rw [HN1.out]; exact t2)]
            exact ⟨rfl, hW1⟩
          · have t2 : ¬ (n1 : Int) < (b : Int) := by omega
            have hf : ¬ ((-1, (b : Int), (j : Int)) : PM.Tok).2.1 > acc.length := by show ¬ (b : Int) > _; rw [HN1.out]; exact t2
            have HF := Lib.hid hf
            clear hf
            by_cases h3 : m < n1 + j
            · have t4 : (m : Int) < (n1 : Int) + (j : Int) := by omega
              go_wp2_with fail
              go_ret2
              rw [← HE1.out, join_full (acc := acc) HMay.out (Int.not_lt.2 HF.out) (by show max (j : Int) 1 > _; rw [HN1.out]; omega)]
              exact ⟨rfl, hW1⟩
            · have t4 : ¬ (m : Int) < (n1 : Int) + (j : Int) := by omega
              have HSt : Hid (PM.join ts (m : Int) [] = PM.join (ts.drop (i + 1)) (m : Int) (PM.copyGo j b acc)) := by
                show _ = _
                rw [← HE1.out, join_step (acc := acc) HMay.out HF.out (by show ¬ max (j : Int) 1 > _; rw [HN1.out]; omega)]
                rfl
              go_wp2_with fail
              go_loopw [6, 9] (fun v s w' => ∃ (r : Nat) (v1 : Value) (acc1 : List UInt8), v1 = v ∧ r ≤ j ∧ acc1.length = n1 + r ∧ s = .int .i64 r ∧ Hid (PM.copyGo (j - r) b acc1 = PM.copyGo j b acc) ∧ Hid (Own 5 w' w.heap.size v1 acc1) ∧ Hid (∀ g, v1.ownBlock = some g → g ≠ g8) ∧ Hid (Blk w' g8 35 (tokCells (-1, (b : Int), (j : Int)))) ∧ Below w.heap.size w w') (fun _ s _ => j - (intOf s).toNat)
              case atStart => exact ⟨0, _, acc, rfl, Nat.zero_le _, HN1.out, rfl, rfl, HO1, HNe, HT8, hW1⟩
              case round =>
                clear HO1 HNe HT8 hW1 d0 d1 d2 hsz1 hsz hnc
                obtain ⟨r, v1, acc1, rfl, hr, hal, rfl, HC, HO, HNe, HT8, hW⟩ := hrel
                obtain ⟨A2, n2, c2, hv, hB2, hnc, _⟩ := HO.out.form_n
                have hn2 := hB2.len
                subst hv
                have d1 : wr.cell? ⟨g8, 1, none⟩ = some (.int .i64 (b : Int)) := HT8.out.cell 1
                have d2 : wr.cell? ⟨g8, 2, none⟩ = some (.int .i64 (j : Int)) := HT8.out.cell 2
                have hsz1 := hW.size
                by_cases hrj : r < j
                · have trj : (r : Int) < (j : Int) := by omega
                  obtain ⟨p, hp⟩ : ∃ p, p = n2 - b := ⟨_, rfl⟩
                  have ep : (n2 : Int) - (b : Int) = (p : Int) := by omega
                  have jp : IntKind.i64.wrap (p : Int) = (p : Int) := IntWalk.i64_in _ (by omega)
                  have hpn : p < n2 := by omega
                  obtain ⟨bk, of, u, hA2, _, gu, hcu⟩ := hB2.pick hpn
                  subst hA2
                  have HGu := Lib.hid gu
                  have HP := Lib.hid hp
                  have HN2 := Lib.hid hn2
                  have HAL := Lib.hid hal
                  have hlt8 := HT8.out.lt
                  have hsize : acc1.length + 1 ≤ 1000000000000 := by omega
                  have HSz := Lib.hid hsize
                  clear hB2 gu hp hn2 hal hsize
                  go_wp2_with (refine wpList_of_wp rfl (fun K hK => wp_append_bytes (.tmp 55) (.tmp 64) 23 row_u8 rfl [u] rfl (HO.out.alloc _) _ (some ⟨wr.heap.size, 0, none⟩) 1 1 rfl (one_bytes wr 5 u) (fun h => by cases h) HSz.out (by rw [World.size_alloc]; omega) ?_); intro v3 w3 hO3 hg3 hd3; have HO3 := Lib.hid hO3; have HG3 := Lib.hid hg3; have HD3 := Lib.hid hd3; clear hO3 hg3 hd3; refine hK _ _ ?_; clear hK K)
                  go_roundw
                  case rel =>
                    refine ⟨r + 1, v3, acc1 ++ [u], rfl, hrj, by rw [List.length_append, HAL.out]; simp; omega, by go_num, ?_, HO3, ?_, ?_, ?_⟩
                    · show PM.copyGo (j - (r + 1)) b (acc1 ++ [u]) = _
                      rw [← HC.out, show j - r = (j - (r + 1)) + 1 from by omega, PM.copyGo]
                      congr 3
                      rw [List.getD_eq_getElem?_getD, HN2.out, ← HP.out, HGu.out]
                      rfl
                    · intro g hg
                      rcases HD3.out with h | h
                      · exact HNe.out g (h.symm.trans hg)
                      · rw [h, World.size_alloc] at hg
                        injection hg with hg
                        omega
                    · exact (HT8.out.alloc _).grown HG3.out (by intro h; exact HNe.out _ h.symm rfl)
                    · exact (hW.alloc (by omega) _).grown HG3.out (by rw [World.size_alloc]; omega) HO.out.base_
                  case measure => simp [intOf]; omega
                · obtain rfl : r = j := by omega
                  have hc2 := HC.out
                  rw [Nat.sub_self] at hc2
                  have hc3 : acc1 = PM.copyGo r b acc := hc2
                  have HE2 : Hid (PM.join (ts.drop (i + 1)) (m : Int) acc1 = PM.join ts (m : Int) []) := by show _ = _; rw [hc3, HSt.out]
                  clear hc2 hc3 hB2 hn2
                  go_wp2_with fail
                  go_roundw
                  case rel => exact ⟨i + 1, _, acc1, rfl, hin, by omega, by go_num, HE2, HO, hW⟩
                  case measure => simp [intOf]; omega
        · have t2 : ¬ (n1 : Int) < 0 := by omega
          have hf : ¬ (((q : Int), 0, 0) : PM.Tok).2.1 > acc.length := by show ¬ (0 : Int) > _; rw [HN1.out]; exact t2
          have HF := Lib.hid hf
          clear hf
          by_cases h3 : m < n1 + 1
          · have t4 : (m : Int) < (n1 : Int) + 1 := by omega
            go_wp2_with fail
            go_ret2
            rw [← HE1.out, join_full (acc := acc) HMay.out (Int.not_lt.2 HF.out) (by show max (0 : Int) 1 > _; rw [HN1.out]; omega)]
            exact ⟨rfl, hW1⟩
          · have t4 : ¬ (m : Int) < (n1 : Int) + 1 := by omega
            have t5 : (0 : Int) ≤ (q : Int) := by omega
            have e1 : (q : Int) % 256 = (q : Int) := by omega
            have HX := Lib.hid (one_nat w1 5 q hq)
            have hsize : acc.length + 1 ≤ 1000000000000 := by omega
            have HSz := Lib.hid hsize
            clear hsize
            have HSt : Hid (PM.join (ts.drop (i + 1)) (m : Int) (acc ++ [UInt8.ofNat q]) = PM.join ts (m : Int) []) := by
              show _ = _
              rw [← HE1.out, join_step (acc := acc) HMay.out HF.out (by show ¬ max (0 : Int) 1 > _; rw [HN1.out]; omega)]
              unfold PM.addTok
              rw [if_pos (by show (0 : Int) ≤ (q : Int); omega)]
              rfl
            go_wp2_with (refine wpList_of_wp rfl (fun K hK => wp_append_bytes (.tmp 43) (.tmp 47) 23 row_u8 rfl [UInt8.ofNat q] rfl (HO1.out.alloc _) _ (some ⟨w1.heap.size, 0, none⟩) 1 1 rfl HX.out (fun h => by cases h) HSz.out (by rw [World.size_alloc]; omega) ?_); intro v3 w3 hO3 hg3 hd3; have HO3 := Lib.hid hO3; have HG3 := Lib.hid hg3; clear hO3 hg3 hd3; refine hK _ _ ?_; clear hK K)
            have HT9 := Lib.hid ((HT8.out.alloc (Obj.cells #[.int .u8 (q : Int)] 5)).grown HG3.out (by intro h; exact HNe.out _ h.symm rfl))
            have d2' : w3.cell? ⟨g8, 2, none⟩ = some (.int .i64 0) := HT9.out.cell 2
            have hW3 := (hW1.alloc (by omega) (Obj.cells #[.int .u8 (q : Int)] 5)).grown HG3.out (by rw [World.size_alloc]; omega) HO1.out.base_
            clear d0 d1 d2 HT8 HT9
            go_loopw [6, 9] (fun v s w' => v = v3 ∧ s = .int .i64 0 ∧ w' = w3) (fun _ s _ => 0)
            case atStart => exact ⟨rfl, rfl, rfl⟩
            case round =>
              obtain ⟨rfl, rfl, rfl⟩ := hrel
              go_wp2_with fail
              go_roundw
              case rel => exact ⟨i + 1, _, _, rfl, hin, by rw [List.length_append, HN1.out]; simp; omega, by go_num, HSt, HO3, hW3⟩
              case measure => simp [intOf]; omega
end Go.Proofs.Ythoipfdapmjcfaa
