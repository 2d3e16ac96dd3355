/- The walk of key.Of: the key of a password. -/
import Derived.Test.YtbmccgiffplpjaaPlainOf
import Derived.Test.YtbmccgiffplpjaaSame
import Derived.Test.YtbmccgiffplpjaaConvS
namespace Go.Proofs.Ytbmccgiffplpjaa
open Go.RowKit
set_option linter.unusedVariables false
theorem sum_word (l : List UInt8) (j : Nat) (h : j < 8) : ((PL.sumOf ((j : Int) + 2).toNat (j : Int).toNat l : Nat) : Int) = W (sumW (UInt32.ofNat (j + 2)) (UInt32.ofNat j) l) := by
  rw [← W_sum, W_nat _ (by omega), W_nat _ (by omega)]
  have : (((j + 2 : Nat) : Int)) = (j : Int) + 2 := by omega
  rw [this]
theorem two_words {P : Program} {fn : Func} {p : Tmp} {ty : TypeId} {q : Tmp} (h : fn.results = #[.cell p ty, .tmp q]) (tmps : Array Value) (w : World) (g : Nat) (t : TypeId) (cs : Array Value) (fr : Nat × Nat) (d : TypeDesc)
    (hp : tmps.getD p undef = .pointer (some ⟨g, 0, none⟩)) (hg : w.heap[g]? = some (.cells cs t fr))
    (hu : P.underlying ty = some d) (hd : (match d with | .struct _ | .array _ _ => true | _ => false) = true) (hi : (P.info? ty).map (·.size) = some cs.size) :
    (results fn tmps).run P w = .ok (.tuple #[.agg cs, tmps.getD q undef]) w := by
  have hp' : tmps[p]?.getD undef = .pointer (some ⟨g, 0, none⟩) := by simpa using hp
  simp [results, h, hp', asAddr, run_loadVar_row w g t ty cs fr d hg hu hd hi]
set_option maxRecDepth 100000 in
set_option maxHeartbeats 4000000 in
theorem keyOf_yes (s : ByteArray) (f : Nat → UInt8) (R : Nat) (w : World) (hs : s.size ≤ 100) (hR1 : 1 ≤ R) (hR2 : R ≤ 1000) :
    Calls Try.prog 19 #[.string s, .agg (byteCells f), .int .i64 (R : Int)] w fun e w' => e = .returned (.tuple #[.agg (keyCells (keyOf s.data.toList f R)), .int .i64 0]) ∧ Below w.heap.size w w' := by
  have t1 : ¬ (100 < (s.size : Int)) := by omega
  have t2 : ¬ ((R : Int) < 1) := by omega
  have t3 : ¬ (1000 < (R : Int)) := by omega
  go_enter Try.func19, Try.ntmps19
  go_wp2
  refine wp_scope_back 0 (fun m a' w' => ∃ (n : Nat) (K : PL.K8), m = R + 1 - n ∧ 1 ≤ n ∧ n ≤ R ∧ Hid (K = keyTo (n - 1) (keyInit s.data.toList f)) ∧ Below w.heap.size w w' ∧ Hid (Blk w' (w.heap.size + 2) 28 (keyCells K)) ∧ Hid (Blk w' (w.heap.size + 1) 28 zeros8) ∧ ∃ u : Nat → Value, a' = ⟨#[u 0, u 1, .int .i64 (R : Int), u 3, u 4, u 5, .pointer (some ⟨w.heap.size + 1, 0, none⟩), u 7, .pointer (some ⟨w.heap.size + 2, 0, none⟩), u 9, u 10, .int .i64 (n : Int), u 12, u 13, u 14, u 15, u 16, u 17, u 18, u 19, u 20, u 21, u 22, u 23, u 24, u 25, u 26, u 27, u 28, u 29, u 30, u 31, u 32, u 33, u 34, u 35, u 36, u 37, u 38, u 39, u 40, u 41, u 42, u 43, u 44, u 45, u 46, u 47, u 48, u 49, u 50, u 51, u 52, u 53, u 54, u 55, u 56, u 57, u 58, u 59, u 60, u 61, u 62, u 63, u 64], []⟩) rfl ?_ ?_
  · intro HL
    go_wp2
    have hA := ((Blk.new w 26 (byteCells f)).alloc (Obj.cells zeros8 28)).alloc (Obj.cells zeros8 28)
    have hZ := (Blk.new (w.alloc (Obj.cells (byteCells f) 26)) 28 zeros8).alloc (Obj.cells zeros8 28)
    have hN := Blk.new ((w.alloc (Obj.cells (byteCells f) 26)).alloc (Obj.cells zeros8 28)) 28 zeros8
    simp only [World.size_alloc] at hZ hN
    have HA := Lib.hid hA
    have HZ := Lib.hid hZ
    have HN := Lib.hid hN
    clear hA hZ hN
    go_loopw [24] (fun i wr => ∃ j : Nat, j ≤ 8 ∧ i = .int .i64 j ∧ Below w.heap.size w wr ∧ Hid (Blk wr w.heap.size 26 (byteCells f)) ∧ Hid (Blk wr (w.heap.size + 1) 28 zeros8) ∧ Hid (Blk wr (w.heap.size + 2) 28 (initCells s.data.toList f j))) (fun i _ => 8 - (intOf i).toNat)
    case atStart => exact ⟨0, Nat.zero_le _, rfl, (((Below.refl _ _).alloc (Nat.le_refl _) _).alloc (by simp) _).alloc (by simp only [World.size_alloc]; omega) _, HA, HZ, HN⟩
    case round =>
      clear HA HZ HN
      obtain ⟨j, hj, rfl, hbr, HA, HZ, HN⟩ := hrel
      by_cases hlt : j < 8
      · go_wp2
        have j0 : (0 : Int) ≤ (j : Int) := by omega
        have j1 : (j : Int) < 8 := by omega
        have j2 : (0 : Int) ≤ ((j : Int) + 1) % 8 := by omega
        have j3 : ((j : Int) + 1) % 8 < 8 := by omega
        have j4 : (((j : Int) + 1) % 8).toNat = (j + 1) % 8 := by omega
        have j5 : (j + 1) % 8 < 8 := by omega
        have hwr : Hid (Blk wr.drew w.heap.size 26 (byteCells f) ∧ Below w.heap.size w wr.drew ∧ Blk wr.drew (w.heap.size + 1) 28 zeros8 ∧ Blk wr.drew (w.heap.size + 2) 28 (initCells s.data.toList f j)) := ⟨HA.out.drew, hbr.drew, HZ.out.drew, HN.out.drew⟩
        refine wp_region_seq (fun w' => Blk w' w.heap.size 26 (byteCells f)) [(false, 0), (false, 1), (false, 2), (false, 3), (false, 4), (false, 7), (false, 8), (false, 9), (false, 10), (false, 11), (false, 12), (false, 13), (false, 14), (false, 15), (false, 16), (false, 17), (false, 18), (true, 5), (true, 6), (true, 19), (true, 20), (true, 21)]
          (by kernel_rfl) (by kernel_rfl) (fun _ _ d _ _ h => by cases d <;> exact h) hwr.out.1 ?_
        clear HA HZ HN hbr
        generalize wr.drew = w1 at *
        have jw : IntKind.i64.wrap ((j : Int) + 1) = (j : Int) + 1 := IntWalk.i64_in _ (by omega)
        have jt : ((j : Int) + 1).tmod 8 = ((j : Int) + 1) % 8 := Int.tmod_eq_emod_of_nonneg (by omega)
        have ju : IntKind.u32.wrap ((j : Int) + 2) = (j : Int) + 2 := IntWalk.u32_in _ (by omega)
        have jx : IntKind.u32.wrap (((f ((j + 1) % 8)).toNat : Int) * 256) = ((f ((j + 1) % 8)).toNat : Int) * 256 := IntWalk.u32_in _ (by have := (f ((j + 1) % 8)).toNat_lt; omega)
        have jy : IntKind.u32.wrap ((f ((j + 1) % 8)).toNat : Int) = ((f ((j + 1) % 8)).toNat : Int) := IntWalk.u32_in _ (by have := (f ((j + 1) % 8)).toNat_lt; omega)
        have jz : IntKind.u32.wrap ((f j).toNat : Int) = ((f j).toNat : Int) := IntWalk.u32_in _ (by have := (f j).toNat_lt; omega)
        iterate 17 (apply plan_take rfl rfl rfl rfl; (intro w' hS K hK; have c0 : w'.cell? ⟨w.heap.size, j, none⟩ = some (.int .u8 ((f j).toNat : Int)) := (by rw [hS.cell]; exact byteCells_get f j hlt); have c1 : w'.cell? ⟨w.heap.size, (j + 1) % 8, none⟩ = some (.int .u8 ((f ((j + 1) % 8)).toNat : Int)) := (by rw [hS.cell]; exact byteCells_get f _ j5); clear hS; go_simp; exact hK))
        clear jw jt ju jx jy jz
        refine plan_force rfl rfl (fun K hK => ?_)
        refine wp_conv_string 9 24 5 (.tmp 33) Try.underlying9 Try.underlying24 Try.underlying5 rfl s rfl ?_
        intro A c w2 hb2 hw2 _
        have h2 : Hid (Blk w2 w.heap.size 26 (byteCells f) ∧ Below w.heap.size w w2 ∧ Blk w2 (w.heap.size + 1) 28 zeros8 ∧ Blk w2 (w.heap.size + 2) 28 (initCells s.data.toList f j)) :=
          ⟨hwr.out.1.below hw2 hwr.out.1.lt, hwr.out.2.1.trans (hw2.mono hwr.out.2.1.size), hwr.out.2.2.1.below hw2 hwr.out.2.2.1.lt, hwr.out.2.2.2.below hw2 hwr.out.2.2.2.lt⟩
        have HB2 := Lib.hid hb2
        clear hwr hw2 hb2
        refine hK.out _ _ h2.out.1 ?_; clear hK K
        refine plan_force rfl rfl (fun K hK => ?_)
        go_wp2_with fail
        refine (sum_any ((j : Int) + 2) (j : Int) A s.size c w2.heap.size s.data.toList _ (by omega) (by omega) (by omega) (by omega) HB2.out (by omega)).mono ?_
        rw [sum_word _ j hlt]
        obtain ⟨sw, hsw⟩ : ∃ sw, sw = sumW (UInt32.ofNat (j + 2)) (UInt32.ofNat j) s.data.toList := ⟨_, rfl⟩
        rw [← hsw]
        have hT : initWord s.data.toList f j = sw ^^^ ((f j).toUInt32 ||| (f ((j + 1) % 8)).toUInt32 <<< 8) := by rw [hsw]; rfl
        have HT := Lib.hid hT
        clear hsw hT
        rintro e w3 ⟨rfl, rfl⟩
        go_wp2
        refine hK.out _ _ h2.out.1 ?_; clear hK K
        have ws := W_salt (f j) (f ((j + 1) % 8))
        have wx := W_xor
        refine plan_force rfl rfl (fun K hK => ?_); go_wp2; refine hK.out _ _ h2.out.1 ?_; clear hK K
        clear ws wx
        refine plan_force rfl rfl (fun K hK => ?_); go_wp2; refine hK.out _ _ h2.out.1 ?_; clear hK K
        have cz : w2.cell? ⟨w.heap.size + 1 + 1, j, none⟩ = some (.int .u32 0) := by rw [show w.heap.size + 1 + 1 = w.heap.size + 2 from rfl, h2.out.2.2.2.cell]; exact initCells_at _ _ _ hlt
        have fz : w2.frozen? ⟨w.heap.size + 1 + 1, j, none⟩ = false := h2.out.2.2.2.frozen j
        refine plan_force rfl rfl (fun K hK => ?_)
        go_wp2
        have hS := h2.out.2.2.2.set_ j (u32v (initWord s.data.toList f j))
        rw [initCells_set _ _ _ hlt, HT.out] at hS
        have hA3 := h2.out.1.far (p := ⟨w.heap.size + 1 + 1, j, none⟩) (by show w.heap.size ≠ w.heap.size + 1 + 1; omega) (u32v (sw ^^^ ((f j).toUInt32 ||| (f ((j + 1) % 8)).toUInt32 <<< 8)))
        have hZ3 := h2.out.2.2.1.far (p := ⟨w.heap.size + 1 + 1, j, none⟩) (by show w.heap.size + 1 ≠ w.heap.size + 1 + 1; omega) (u32v (sw ^^^ ((f j).toUInt32 ||| (f ((j + 1) % 8)).toUInt32 <<< 8)))
        have hW3 := h2.out.2.1.setCell (p := ⟨w.heap.size + 1 + 1, j, none⟩) (by show w.heap.size ≤ w.heap.size + 1 + 1; omega) (u32v (sw ^^^ ((f j).toUInt32 ||| (f ((j + 1) % 8)).toUInt32 <<< 8)))
        refine hK.out _ _ hA3 ?_; clear hK K
        refine plan_nil ?_
        have HS := Lib.hid hS
        have HA3 := Lib.hid hA3
        have HZ3 := Lib.hid hZ3
        clear hS hA3 hZ3 cz fz h2 HB2
        generalize w2.setCell ⟨w.heap.size + 1 + 1, j, none⟩ (u32v (sw ^^^ ((f j).toUInt32 ||| (f ((j + 1) % 8)).toUInt32 <<< 8))) = w3 at *
        go_wp2
        go_roundw
        case rel => exact ⟨j + 1, hlt, by go_num, hW3, HA3, HZ3, HS⟩
        case measure => simp [intOf]; omega
      · obtain rfl : j = 8 := by omega
        have hN := HN.out
        rw [initCells_all] at hN
        have HN2 := Lib.hid hN
        clear hN HN
        go_wp2
        go_step3
        go_step
        go_step
        exact HL.out R _ _ ⟨1, keyInit s.data.toList f, by omega, Nat.le_refl _, hR1, rfl, hbr, HN2, HZ, ⟨slot [_, _, undef, _, _, _, undef, _, undef, _, _, undef, _, _, _, _, _, _, _, _, _, _, _, _, _, _, _, _, _, _, _, _, _, _, _, _, _, _, _, _, _, _, _, _, _, _, _, _, _, _, _, _, _, _, _, _, _, _, _, _, _, _, _, _, _], rfl⟩⟩
  · rintro m a' w' ⟨n, K, rfl, hn1, hn2, HK, hb, HN, HZ, ⟨u, rfl⟩⟩
    have hB := HN.out
    go_wp2_with (refine wpList_load_row rfl 28 (.tmp 8) rfl (w.heap.size + 2) rfl 28 _ (0, 0) _ hB Try.underlying28 rfl (by kernel_rfl) ?_)
    refine (mix_any K _).mono ?_
    rintro e w1 ⟨rfl, hb1⟩
    have hB1 := HN.out.below hb1 HN.out.lt
    have HZ1 := Lib.hid (HZ.out.below hb1 HZ.out.lt)
    have hW1 := hb.trans (hb1.mono hb.size)
    clear hB HN HZ hb hb1
    have hk1 : keyRound n K = keyTo n (keyInit s.data.toList f) := by
      obtain ⟨q, rfl⟩ : ∃ q, n = q + 1 := ⟨n - 1, by omega⟩
      rw [HK.out]
      rfl
    have hk2 : keyRound n K = { PL.mix K with k7 := (PL.mix K).k7 ^^^ UInt32.ofNat n } := rfl
    have HK1 := Lib.hid hk1
    have HK2 := Lib.hid hk2
    clear hk1 hk2 HK
    generalize PL.mix K = M at *
    have hxn : bits .xor .u32 (W M.k7) (n : Int) = W (M.k7 ^^^ UInt32.ofNat n) := by rw [← W_xor, W_nat n (by omega)]
    obtain ⟨x7, hx7⟩ : ∃ x, x = M.k7 ^^^ UInt32.ofNat n := ⟨_, rfl⟩
    rw [← hx7] at hxn
    have HX7 := Lib.hid hx7
    clear hx7
    have HK3 : Hid (keyRound n K = { M with k7 := x7 }) := by
      show _ = _
      rw [HX7.out]; exact HK2.out
    clear HK2 HX7
    by_cases hnR : n < R
    · go_wp2_with (refine wpList_store_blk rfl 28 (.tmp 8) (.tmp 52) rfl (w.heap.size + 2) (keyCells M) rfl rfl 28 _ hB1 rfl (by kernel_rfl) (key_one _) ?_; intro w2 hB2 hg2 hs2; have c7 : w2.cell? ⟨w.heap.size + 2, 7, none⟩ = some (u32v M.k7) := hB2.cell 7; have f7 := hB2.frozen 7; have hB3 : Blk (w2.setCell ⟨w.heap.size + 2, 7, none⟩ (u32v x7)) (w.heap.size + 2) 28 (keyCells { M with k7 := x7 }) := hB2.set_ 7 (u32v x7); have HZ3 : Hid (Blk (w2.setCell ⟨w.heap.size + 2, 7, none⟩ (u32v x7)) (w.heap.size + 1) 28 zeros8) := (HZ1.out.grown hg2 (by simp)).far (by show w.heap.size + 1 ≠ w.heap.size + 2; omega) _; have hW3 : Below w.heap.size w (w2.setCell ⟨w.heap.size + 2, 7, none⟩ (u32v x7)) := (hW1.grown hg2 (by have := hW1.size; omega) (by intro g hg; injection hg with hg; omega)).setCell (by show w.heap.size ≤ w.heap.size + 2; omega) _; clear hB2 hg2 hs2 hW1 HZ1 hB1)
      go_step3
      simp only [Exit.then]
      refine jump_back (m' := R + 1 - (n + 1)) ?_ ?_
      · omega
      exact ⟨n + 1, { M with k7 := x7 }, rfl, by omega, hnR, (by show _ = _; rw [← HK3.out]; exact HK1.out), hW3, hB3, HZ3, ⟨slot [_, _, undef, _, _, _, undef, _, undef, _, _, undef, _, _, _, _, _, _, _, _, _, _, _, _, _, _, _, _, _, _, _, _, _, _, _, _, _, _, _, _, _, _, _, _, _, _, _, _, _, _, _, _, _, _, _, _, _, _, _, _, _, _, _, _, _], rfl⟩⟩
    · obtain rfl : n = R := by omega
      go_wp2_with (first
        | (refine wpList_store_blk rfl 28 (.tmp 8) (.tmp 52) rfl (w.heap.size + 2) (keyCells M) rfl rfl 28 _ hB1 rfl (by kernel_rfl) (key_one _) ?_; intro w2 hB2 hg2 hs2; have c7 : w2.cell? ⟨w.heap.size + 2, 7, none⟩ = some (u32v M.k7) := hB2.cell 7; have f7 := hB2.frozen 7; have hB3 : Blk (w2.setCell ⟨w.heap.size + 2, 7, none⟩ (u32v x7)) (w.heap.size + 2) 28 (keyCells { M with k7 := x7 }) := hB2.set_ 7 (u32v x7); have HZ3 : Hid (Blk (w2.setCell ⟨w.heap.size + 2, 7, none⟩ (u32v x7)) (w.heap.size + 1) 28 zeros8) := (HZ1.out.grown hg2 (by simp)).far (by show w.heap.size + 1 ≠ w.heap.size + 2; omega) _; have hW3 : Below w.heap.size w (w2.setCell ⟨w.heap.size + 2, 7, none⟩ (u32v x7)) := (hW1.grown hg2 (by have := hW1.size; omega) (by intro g hg; injection hg with hg; omega)).setCell (by show w.heap.size ≤ w.heap.size + 2; omega) _; clear hB2 hg2 hs2 hW1 HZ1 hB1)
        | (refine wpList_load_row rfl 28 (.tmp 8) rfl (w.heap.size + 2) rfl 28 _ (0, 0) _ hB3 Try.underlying28 rfl (by kernel_rfl) ?_)
        | (refine wpList_store_blk rfl 28 (.tmp 6) (.tmp 64) rfl (w.heap.size + 1) (keyCells { M with k7 := x7 }) rfl rfl 28 _ HZ3.out rfl (by kernel_rfl) (key_one _) ?_; intro w4 hB4 hg4 hs4))
      refine jump_ret ?_
      have hfin : keyOf s.data.toList f n = { M with k7 := x7 } := by rw [← HK3.out]; exact HK1.out.symm
      exact bodyPost_ret (two_words rfl _ _ (w.heap.size + 1) 28 _ (0, 0) _ rfl hB4 Try.underlying28 rfl (by kernel_rfl)) rfl ⟨by rw [hfin]; rfl, hW3.grown hg4 (by have := hW3.size; omega) (by intro g hg; injection hg with hg; omega)⟩
end Go.Proofs.Ytbmccgiffplpjaa
