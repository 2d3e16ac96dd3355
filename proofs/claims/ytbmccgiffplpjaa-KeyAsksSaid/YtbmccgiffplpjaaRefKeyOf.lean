/- The walk of the reference's KeyOf and Check. -/
import Derived.Test.YtbmccgiffplpjaaKeyNo
import Derived.Test.YtbmccgiffplpjaaRefSum
namespace Go.Proofs.Ytbmccgiffplpjaa
open Go.RowKit
set_option linter.unusedVariables false
/-- The salt as a string. -/
def saltStr (f : Nat → UInt8) : ByteArray := ⟨#[f 0, f 1, f 2, f 3, f 4, f 5, f 6, f 7]⟩
theorem saltStr_size (f : Nat → UInt8) : (saltStr f).size = 8 := rfl
theorem saltStr_get (f : Nat → UInt8) (i : Nat) (h : i < 8) : (saltStr f)[i]'(by rw [saltStr_size]; exact h) = f i := by
  match i, h with
  | 0, _ => rfl
  | 1, _ => rfl
  | 2, _ => rfl
  | 3, _ => rfl
  | 4, _ => rfl
  | 5, _ => rfl
  | 6, _ => rfl
  | 7, _ => rfl
theorem ix_salt0 (f : Nat → UInt8) (w : World) : (Instr.index 9 (.string (saltStr f)) (.int .i64 0)).run Try.prog w = .ok (.int .u8 ((f 0).toNat : Int)) w := by kernel_rfl
theorem ix_salt1 (f : Nat → UInt8) (w : World) : (Instr.index 9 (.string (saltStr f)) (.int .i64 1)).run Try.prog w = .ok (.int .u8 ((f 1).toNat : Int)) w := by kernel_rfl
theorem ix_salt2 (f : Nat → UInt8) (w : World) : (Instr.index 9 (.string (saltStr f)) (.int .i64 2)).run Try.prog w = .ok (.int .u8 ((f 2).toNat : Int)) w := by kernel_rfl
theorem ix_salt3 (f : Nat → UInt8) (w : World) : (Instr.index 9 (.string (saltStr f)) (.int .i64 3)).run Try.prog w = .ok (.int .u8 ((f 3).toNat : Int)) w := by kernel_rfl
theorem ix_salt4 (f : Nat → UInt8) (w : World) : (Instr.index 9 (.string (saltStr f)) (.int .i64 4)).run Try.prog w = .ok (.int .u8 ((f 4).toNat : Int)) w := by kernel_rfl
theorem ix_salt5 (f : Nat → UInt8) (w : World) : (Instr.index 9 (.string (saltStr f)) (.int .i64 5)).run Try.prog w = .ok (.int .u8 ((f 5).toNat : Int)) w := by kernel_rfl
theorem ix_salt6 (f : Nat → UInt8) (w : World) : (Instr.index 9 (.string (saltStr f)) (.int .i64 6)).run Try.prog w = .ok (.int .u8 ((f 6).toNat : Int)) w := by kernel_rfl
theorem ix_salt7 (f : Nat → UInt8) (w : World) : (Instr.index 9 (.string (saltStr f)) (.int .i64 7)).run Try.prog w = .ok (.int .u8 ((f 7).toNat : Int)) w := by kernel_rfl
theorem ix_salt (f : Nat → UInt8) (i : Nat) (h : i < 8) (w : World) : (Instr.index 9 (.string (saltStr f)) (.int .i64 (i : Int))).run Try.prog w = .ok (.int .u8 ((f i).toNat : Int)) w := by
  match i, h with
  | 0, _ => exact ix_salt0 f w
  | 1, _ => exact ix_salt1 f w
  | 2, _ => exact ix_salt2 f w
  | 3, _ => exact ix_salt3 f w
  | 4, _ => exact ix_salt4 f w
  | 5, _ => exact ix_salt5 f w
  | 6, _ => exact ix_salt6 f w
  | 7, _ => exact ix_salt7 f w
set_option maxRecDepth 100000 in
set_option maxHeartbeats 4000000 in
theorem refKeyOf_yes (s : ByteArray) (f : Nat → UInt8) (R : Nat) (w : World) (hs : s.size ≤ 100) (hR1 : 1 ≤ R) (hR2 : R ≤ 1000) :
    Calls Try.prog 20 #[.string s, .string (saltStr f), .int .i64 (R : Int)] w fun e w' => e = .returned (.tuple #[.agg (keyCells (keyOf s.data.toList f R)), .int .i64 0]) ∧ Below w.heap.size w w' := by
  have t1 : ¬ (100 < (s.size : Int)) := by omega
  have t2 : ¬ ((R : Int) < 1) := by omega
  have t3 : ¬ (1000 < (R : Int)) := by omega
  have tz : (saltStr f).size = 8 := rfl
  have hZ := (Blk.new w 32 zeros8).alloc (Obj.cells zeros8 32)
  have hN := Blk.new (w.alloc (Obj.cells zeros8 32)) 32 zeros8
  have HZ := Lib.hid hZ
  have HN := Lib.hid hN
  clear hZ hN
  go_enter Try.func20, Try.ntmps20
  go_wp2
  clear tz
  go_loopw [9] (fun i wr => ∃ j : Nat, j ≤ 8 ∧ i = .int .i64 j ∧ Below w.heap.size w wr ∧ Hid (Blk wr w.heap.size 32 zeros8) ∧ Hid (Blk wr (w.heap.size + 1) 32 (initCells s.data.toList f j))) (fun i _ => 8 - (intOf i).toNat)
  case atStart => exact ⟨0, Nat.zero_le _, rfl, ((Below.refl _ _).alloc (Nat.le_refl _) _).alloc (by simp) _, HZ, (by have := HN.out; rw [World.size_alloc] at this; exact this)⟩
  case round =>
    clear HZ HN
    obtain ⟨j, hj, rfl, hbr, HZ, HN⟩ := hrel
    by_cases hlt : j < 8
    · go_wp2
      refine wp_region_seq (fun _ => True) [(false, 0), (false, 1), (false, 2), (false, 3), (false, 4), (false, 5), (false, 6), (false, 8), (false, 9), (false, 10), (false, 11), (false, 12), (false, 13), (false, 14), (false, 15), (false, 16), (false, 17), (false, 18), (false, 19), (true, 7), (true, 20), (true, 21), (true, 22)]
        (by kernel_rfl) (by kernel_rfl) (fun _ _ d _ _ h => by cases d <;> exact h) trivial ?_
      have h2 : Hid (Below w.heap.size w wr.drew ∧ Blk wr.drew w.heap.size 32 zeros8 ∧ Blk wr.drew (w.heap.size + 1) 32 (initCells s.data.toList f j)) := ⟨hbr.drew, HZ.out.drew, HN.out.drew⟩
      clear HZ HN hbr
      generalize wr.drew = w2 at *
      have j5 : (j + 1) % 8 < 8 := by omega
      have i0 := fun w => ix_salt f j hlt w
      have i1 := fun w => ix_salt f ((j + 1) % 8) j5 w
      have jm : ((((j + 1) % 8 : Nat) : Int)) = ((j : Int) + 1) % 8 := by omega
      rw [jm] at i1
      have jw : IntKind.i64.wrap ((j : Int) + 1) = (j : Int) + 1 := IntWalk.i64_in _ (by omega)
      have jt : ((j : Int) + 1).tmod 8 = ((j : Int) + 1) % 8 := Int.tmod_eq_emod_of_nonneg (by omega)
      have ju : IntKind.u32.wrap ((j : Int) + 2) = (j : Int) + 2 := IntWalk.u32_in _ (by omega)
      have jv : IntKind.u32.wrap (j : Int) = (j : Int) := IntWalk.u32_in _ (by omega)
      have jx : IntKind.u32.wrap (((f ((j + 1) % 8)).toNat : Int) * 256) = ((f ((j + 1) % 8)).toNat : Int) * 256 := IntWalk.u32_in _ (by have := (f ((j + 1) % 8)).toNat_lt; omega)
      have jy : IntKind.u32.wrap ((f ((j + 1) % 8)).toNat : Int) = ((f ((j + 1) % 8)).toNat : Int) := IntWalk.u32_in _ (by have := (f ((j + 1) % 8)).toNat_lt; omega)
      have jz : IntKind.u32.wrap ((f j).toNat : Int) = ((f j).toNat : Int) := IntWalk.u32_in _ (by have := (f j).toNat_lt; omega)
      have ws := W_salt (f j) (f ((j + 1) % 8))
      clear jm
      iterate 19 (apply plan_take rfl rfl rfl rfl; (intro w' hS K hK; clear hS; go_simp; exact hK))
      clear jw jt ju jv jx jy jz i0 i1 ws
      refine plan_force rfl rfl (fun K hK => ?_)
      go_wp2_with fail
      refine (refSum_any ((j : Int) + 2) (j : Int) s _ (by omega) (by omega) (by omega) (by omega) (by omega)).mono ?_
      rw [sum_word _ j hlt]
      obtain ⟨sw, hsw⟩ : ∃ sw, sw = sumW (UInt32.ofNat (j + 2)) (UInt32.ofNat j) s.data.toList := ⟨_, rfl⟩
      rw [← hsw]
      have hT : initWord s.data.toList f j = sw ^^^ ((f j).toUInt32 ||| (f ((j + 1) % 8)).toUInt32 <<< 8) := by rw [hsw]; rfl
      have HT := Lib.hid hT
      clear hsw hT
      rintro e w3 ⟨rfl, rfl⟩
      go_wp2
      refine hK.out _ _ trivial ?_; clear hK K
      have wx := W_xor
      refine plan_force rfl rfl (fun K hK => ?_); go_wp2; refine hK.out _ _ trivial ?_; clear hK K
      clear wx
      refine plan_force rfl rfl (fun K hK => ?_); go_wp2; refine hK.out _ _ trivial ?_; clear hK K
      have cz : w2.cell? ⟨w.heap.size + 1, j, none⟩ = some (.int .u32 0) := by rw [h2.out.2.2.cell]; exact initCells_at _ _ _ hlt
      have fz : w2.frozen? ⟨w.heap.size + 1, j, none⟩ = false := h2.out.2.2.frozen j
      refine plan_force rfl rfl (fun K hK => ?_)
      go_wp2
      refine hK.out _ _ trivial ?_; clear hK K
      refine plan_nil ?_
      have hS := h2.out.2.2.set_ j (u32v (initWord s.data.toList f j))
      rw [initCells_set _ _ _ hlt, HT.out] at hS
      have hZ3 := h2.out.2.1.far (p := ⟨w.heap.size + 1, j, none⟩) (by show w.heap.size ≠ w.heap.size + 1; omega) (u32v (sw ^^^ ((f j).toUInt32 ||| (f ((j + 1) % 8)).toUInt32 <<< 8)))
      have hW3 := h2.out.1.setCell (p := ⟨w.heap.size + 1, j, none⟩) (by show w.heap.size ≤ w.heap.size + 1; omega) (u32v (sw ^^^ ((f j).toUInt32 ||| (f ((j + 1) % 8)).toUInt32 <<< 8)))
      have HS := Lib.hid hS
      have HZ3 := Lib.hid hZ3
      clear hS hZ3 cz fz h2
      generalize w2.setCell ⟨w.heap.size + 1, j, none⟩ (u32v (sw ^^^ ((f j).toUInt32 ||| (f ((j + 1) % 8)).toUInt32 <<< 8))) = w3 at *
      go_wp2
      go_roundw
      case rel => exact ⟨j + 1, hlt, by go_num, hW3, HZ3, HS⟩
      case measure => simp [intOf]; omega
    · obtain rfl : j = 8 := by omega
      have hN := HN.out
      rw [initCells_all] at hN
      have HN2 := Lib.hid hN
      clear hN HN
      rw [show ((8 : Nat) : Int) = 8 from rfl]
      go_wp2
      go_loopw [10] (fun i wq => ∃ (n : Nat) (K : PL.K8), 1 ≤ n ∧ n ≤ R + 1 ∧ i = .int .i64 n ∧ Hid (K = keyTo (n - 1) (keyInit s.data.toList f)) ∧ Below w.heap.size w wq ∧ Hid (Blk wq w.heap.size 32 zeros8) ∧ Hid (Blk wq (w.heap.size + 1) 32 (keyCells K))) (fun i _ => R + 1 - (intOf i).toNat)
      case atStart => exact ⟨1, keyInit s.data.toList f, Nat.le_refl _, by omega, rfl, rfl, hbr, HZ, HN2⟩
      case round =>
        clear HZ HN2 hbr
        obtain ⟨n, K, hn1, hn2, rfl, HK, hbr, HZ, HN⟩ := hrel
        by_cases hlt2 : n ≤ R
        · have hN := HN.out
          go_wp2_with (refine wpList_load_row rfl 32 (.tmp 8) rfl (w.heap.size + 1) rfl 32 _ (0, 0) _ hN Try.underlying32 rfl (by kernel_rfl) ?_)
          refine (refMix_any K _).mono ?_
          rintro e w1 ⟨rfl, hb1⟩
          have hB1 := HN.out.below hb1 HN.out.lt
          have HZ1 := Lib.hid (HZ.out.below hb1 HZ.out.lt)
          have hW1 := hbr.trans (hb1.mono hbr.size)
          clear hN HN HZ hbr hb1
          have hk1 : keyRound n K = keyTo n (keyInit s.data.toList f) := by
            obtain ⟨q, rfl⟩ : ∃ q, n = q + 1 := ⟨n - 1, by omega⟩
            rw [HK.out]
            rfl
          have hk2 : keyRound n K = { PL.mix K with k7 := (PL.mix K).k7 ^^^ UInt32.ofNat n } := rfl
          have HK1 := Lib.hid hk1
          have HK2 := Lib.hid hk2
          clear hk1 hk2 HK
          generalize PL.mix K = M at *
          have hxn : bits .xor .u32 (W M.k7) (n : Int) = W (M.k7 ^^^ UInt32.ofNat n) := by rw [← W_xor, W_nat n (by omega)]
          obtain ⟨x7, hx7⟩ : ∃ x, x = M.k7 ^^^ UInt32.ofNat n := ⟨_, rfl⟩
          rw [← hx7] at hxn
          have HX7 := Lib.hid hx7
          clear hx7
          have HK3 : Hid (keyRound n K = { M with k7 := x7 }) := by
            show _ = _
            rw [HX7.out]; exact HK2.out
          clear HK2 HX7
          go_wp2_with (refine wpList_store_blk rfl 32 (.tmp 8) (.tmp 60) rfl (w.heap.size + 1) (keyCells M) rfl rfl 32 _ hB1 rfl (by kernel_rfl) (key_one _) ?_; intro w2 hB2 hg2 hs2; have c7 : w2.cell? ⟨w.heap.size + 1, 7, none⟩ = some (u32v M.k7) := hB2.cell 7; have f7 := hB2.frozen 7; have hB3 : Blk (w2.setCell ⟨w.heap.size + 1, 7, none⟩ (u32v x7)) (w.heap.size + 1) 32 (keyCells { M with k7 := x7 }) := hB2.set_ 7 (u32v x7); have HZ3 : Hid (Blk (w2.setCell ⟨w.heap.size + 1, 7, none⟩ (u32v x7)) w.heap.size 32 zeros8) := (HZ1.out.grown hg2 (by simp)).far (by show w.heap.size ≠ w.heap.size + 1; omega) _; have hW3 : Below w.heap.size w (w2.setCell ⟨w.heap.size + 1, 7, none⟩ (u32v x7)) := (hW1.grown hg2 (by have := hW1.size; omega) (by intro g hg; injection hg with hg; omega)).setCell (by show w.heap.size ≤ w.heap.size + 1; omega) _; clear hB2 hg2 hs2 hW1 HZ1 hB1)
          go_roundw
          case rel => exact ⟨n + 1, { M with k7 := x7 }, by omega, by omega, by go_num, (by show _ = _; rw [← HK3.out]; exact HK1.out), hW3, HZ3, hB3⟩
          case measure => simp [intOf]; omega
        · obtain rfl : n = R + 1 := by omega
          have hN := HN.out
          have hZ := HZ.out
          go_wp2_with (first
            | (refine wpList_load_row rfl 32 (.tmp 8) rfl (w.heap.size + 1) rfl 32 _ (0, 0) _ hN Try.underlying32 rfl (by kernel_rfl) ?_)
            | (refine wpList_store_blk rfl 32 (.tmp 6) (.tmp 67) rfl w.heap.size (keyCells K) rfl rfl 32 _ hZ rfl (by kernel_rfl) (key_one _) ?_; intro w4 hB4 hg4 hs4))
          have hfin : keyOf s.data.toList f R = K := by rw [HK.out]; rfl
          exact bodyPost_ret (two_words rfl _ _ w.heap.size 32 _ (0, 0) _ rfl hB4 Try.underlying32 rfl (by kernel_rfl)) rfl ⟨by rw [hfin]; rfl, hbr.grown hg4 (by have := hbr.size; omega) (by intro g hg; injection hg with hg; omega)⟩
set_option maxRecDepth 100000 in
set_option maxHeartbeats 4000000 in
theorem refKeyOf_no (s : ByteArray) (f : Nat → UInt8) (R : Int) (w : World) (hm : s.size ≤ 9223372036854775807) (h : 100 < (s.size : Int) ∨ R < 1 ∨ 1000 < R) :
    Calls Try.prog 20 #[.string s, .string (saltStr f), .int .i64 R] w fun e w' => e = .returned (.tuple #[.agg (keyCells K0), .int .i64 1]) ∧ Below w.heap.size w w' := by
  have hb : Below w.heap.size w ((w.alloc (Obj.cells (keyCells K0) 32)).alloc (Obj.cells (keyCells K0) 32)) := ((Below.refl _ _).alloc (Nat.le_refl _) _).alloc (by simp) _
  have tz : (saltStr f).size = 8 := rfl
  obtain h1 | ⟨h1, h2⟩ | ⟨h1, h2, h3⟩ : 100 < (s.size : Int) ∨ (¬ 100 < (s.size : Int) ∧ R < 1) ∨ (¬ 100 < (s.size : Int) ∧ ¬ R < 1 ∧ 1000 < R) := by omega
  all_goals
    clear h
    go_enter Try.func20, Try.ntmps20
    go_wp2
    exact bodyPost_ret (v := .tuple #[.agg (keyCells K0), .int .i64 1]) (by simp [results, Try.results20, go_sem]; exact ⟨rfl, rfl, rfl, rfl, rfl, rfl, rfl, rfl⟩) rfl ⟨rfl, hb⟩
set_option maxRecDepth 100000 in
set_option maxHeartbeats 4000000 in
theorem refCheck_any (k : PL.K8) (w : World) :
    Calls Try.prog 22 #[.agg (keyCells k)] w fun e w' => e = .returned (.string (tagStr k (-1) [])) ∧ Below w.heap.size w w' := by
  have hb : Below w.heap.size w (w.alloc (Obj.cells (keyCells k) 32)) := (Below.refl _ _).alloc (Nat.le_refl _) _
  go_enter Try.func22, Try.ntmps22
  go_wp2_with fail
  refine (refTag_any k (-1) ⟨#[]⟩ _ (by decide)).mono ?_
  rintro e w1 ⟨rfl, hb1⟩
  have hW1 : Below w.heap.size w w1 := hb.trans (hb1.mono hb.size)
  go_wp2
  go_ret
  exact ⟨rfl, hW1⟩
end Go.Proofs.Ytbmccgiffplpjaa
