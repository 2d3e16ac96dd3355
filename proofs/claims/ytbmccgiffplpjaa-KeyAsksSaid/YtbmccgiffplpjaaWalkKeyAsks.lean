/- The walk of KeyAsks. -/
import Derived.Test.YtbmccgiffplpjaaTold16
import Derived.Test.YtbmccgiffplpjaaRefKeyOf
namespace Go.Proofs.Ytbmccgiffplpjaa
open Go.RowKit
set_option linter.unusedVariables false
namespace KA
theorem bytes8 {w : World} {g t : Nat} {f : Nat → UInt8} (h : Blk w g t (byteCells f)) : Bytes w (g + 1) (some ⟨g, 0, none⟩) 8 ((List.range 8).map f) := by
  refine ⟨by simp, fun _ => ⟨g, 0, rfl, by omega, fun i c hi => ?_⟩⟩
  rw [Nat.zero_add, h.cell]
  match i, hi with
  | 0, hi => cases hi; rfl
  | 1, hi => cases hi; rfl
  | 2, hi => cases hi; rfl
  | 3, hi => cases hi; rfl
  | 4, hi => cases hi; rfl
  | 5, hi => cases hi; rfl
  | 6, hi => cases hi; rfl
  | 7, hi => cases hi; rfl
  | n + 8, hi =>
    have := (List.getElem?_eq_some_iff.1 hi).1
    simp at this
    omega
theorem conv8 {w : World} {g t : Nat} {f : Nat → UInt8} (h : Blk w g t (byteCells f)) : (convert 24 9 (.slice (some ⟨g, 0, none⟩) 8 8)).run Try.prog w = .ok (.string (saltStr f)) w := conv_bytes T16.convRow 8 (bytes8 h)
theorem cells8 {w' : World} {H t : Nat} {f : Nat → UInt8} (h : Blk w' H t (byteCells f)) : w'.cell? ⟨H, 0, none⟩ = some (u8v (f 0)) ∧ w'.cell? ⟨H, 1, none⟩ = some (u8v (f 1)) ∧ w'.cell? ⟨H, 2, none⟩ = some (u8v (f 2)) ∧ w'.cell? ⟨H, 3, none⟩ = some (u8v (f 3)) ∧
    w'.cell? ⟨H, 4, none⟩ = some (u8v (f 4)) ∧ w'.cell? ⟨H, 5, none⟩ = some (u8v (f 5)) ∧ w'.cell? ⟨H, 6, none⟩ = some (u8v (f 6)) ∧ w'.cell? ⟨H, 7, none⟩ = some (u8v (f 7)) :=
  ⟨h.cell 0, h.cell 1, h.cell 2, h.cell 3, h.cell 4, h.cell 5, h.cell 6, h.cell 7⟩
end KA
set_option maxRecDepth 100000 in
set_option maxHeartbeats 8000000 in
theorem keyAsksAt (s : ByteArray) (f : Nat → UInt8) (r N : Int) (k : PL.K8) (w : World) (KX : PL.K8) (code : Int) (hs : ¬ 120 < (s.size : Int))
    (hcase : (50 < r ∧ r ≤ 1000 ∧ r % 51 = N) ∨ (50 < r ∧ ¬ r ≤ 1000 ∧ r = N) ∨ (¬ 50 < r ∧ r = N))
    (h1 : Hid (∀ w, Calls Try.prog 19 #[.string s, .agg (byteCells f), .int .i64 N] w fun e w' => e = .returned (.tuple #[.agg (keyCells KX), .int .i64 code]) ∧ Below w.heap.size w w'))
    (h2 : Hid (∀ w, Calls Try.prog 20 #[.string s, .string (saltStr f), .int .i64 N] w fun e w' => e = .returned (.tuple #[.agg (keyCells KX), .int .i64 code]) ∧ Below w.heap.size w w')) :
    Calls Try.prog 8 #[.string s, .agg (byteCells f), .int .i64 r, .agg (keyCells k)] w fun e w' => e = .returned (.bool true) ∧ Below w.heap.size w w' := by
  have hS0 : Blk ((w.alloc (Obj.cells (byteCells f) 26)).alloc (Obj.cells (keyCells k) 23)) w.heap.size 26 (byteCells f) := (Blk.new _ _ _).alloc _
  have hK0 : Blk ((w.alloc (Obj.cells (byteCells f) 26)).alloc (Obj.cells (keyCells k) 23)) (w.heap.size + 1) 23 (keyCells k) := by
    have := Blk.new (w.alloc (Obj.cells (byteCells f) 26)) 23 (keyCells k)
    rw [World.size_alloc] at this
    exact this
  have hW0 : Below w.heap.size w ((w.alloc (Obj.cells (byteCells f) 26)).alloc (Obj.cells (keyCells k) 23)) := ((Below.refl _ _).alloc (Nat.le_refl _) _).alloc (by simp) _
  have HS0 := Lib.hid hS0
  have HK0 := Lib.hid hK0
  clear hS0 hK0
  rcases hcase with ⟨r1, r2, rN⟩ | ⟨r1, r2, rfl⟩ | ⟨r1, rfl⟩
  all_goals
    go_enter Try.func8, Try.ntmps8
    go_wp2_with fail
    refine (h1.out _).mono ?_
    rintro e w1 ⟨rfl, hb1⟩
    try clear rN
    have hb1' : Below ((w.alloc (Obj.cells (byteCells f) 26)).alloc (Obj.cells (keyCells k) 23)).heap.size ((w.alloc (Obj.cells (byteCells f) 26)).alloc (Obj.cells (keyCells k) 23)) w1 := hb1
    have hV1 : Below w.heap.size w w1 := hW0.trans (hb1'.mono hW0.size)
    have HS1 := Lib.hid ((HS0.out.below hb1' HS0.out.lt).alloc (Obj.cells (keyCells KX) 28))
    have HK1 := Lib.hid ((HK0.out.below hb1' HK0.out.lt).alloc (Obj.cells (keyCells KX) 28))
    have HA1 := Lib.hid (Blk.new w1 28 (keyCells KX))
    have hW1 := hV1.alloc hV1.size (Obj.cells (keyCells KX) 28)
    clear HS0 HK0 hW0 hb1 hb1' hV1 h1
    have hcv := KA.conv8 HS1.out
    go_wp2_with fail
    refine (h2.out _).mono ?_
    rintro e w2 ⟨rfl, hb2⟩
    clear hcv
    have hb2' : Below (w1.alloc (Obj.cells (keyCells KX) 28)).heap.size (w1.alloc (Obj.cells (keyCells KX) 28)) w2 := hb2
    have hV2 : Below w.heap.size w w2 := hW1.trans (hb2'.mono hW1.size)
    have HK2 := Lib.hid ((HK1.out.below hb2' HK1.out.lt).alloc (Obj.cells (keyCells KX) 32))
    have HA2 := Lib.hid ((HA1.out.below hb2' HA1.out.lt).alloc (Obj.cells (keyCells KX) 32))
    have HB2 := Lib.hid (Blk.new w2 32 (keyCells KX))
    have hW2 := hV2.alloc hV2.size (Obj.cells (keyCells KX) 32)
    clear HS1 HK1 HA1 hW1 hb2 hb2' hV2 h2
    go_wp2
    generalize w1.heap.size = ga at *
    generalize w2.heap.size = gb at *
    generalize w2.alloc (Obj.cells (keyCells KX) 32) = w3 at *
    go_loopw [14] (fun i wr => ∃ j : Nat, j ≤ 8 ∧ i = .int .i64 j ∧ Below w.heap.size w wr ∧ Hid (Blk wr (w.heap.size + 1) 23 (keyCells k)) ∧ Hid (Blk wr ga 28 (keyCells KX)) ∧ Hid (Blk wr gb 32 (keyCells KX))) (fun i _ => 8 - (intOf i).toNat)
    case atStart => exact ⟨0, Nat.zero_le _, rfl, hW2, HK2, HA2, HB2⟩
    case round =>
      clear hW2 HK2 HA2 HB2
      obtain ⟨j, hj, rfl, hW, HK, HA, HB⟩ := hrel
      by_cases hlt : j < 8
      · have j0 : (0 : Int) ≤ (j : Int) := by omega
        have j1 : (j : Int) < 8 := by omega
        go_wp2
        refine wp_region_seq (fun w' => w' = wr.drew) [(false, 0), (false, 1), (false, 2), (true, 3), (true, 4), (true, 5), (true, 6)]
          (by kernel_rfl) (by kernel_rfl) (fun _ _ d _ _ h => by cases d <;> exact h) rfl ?_
        have ca : wr.drew.cell? ⟨ga, j, none⟩ = some (u32v (KX.get j)) := by rw [HA.out.drew.cell]; exact keyCells_get _ _ hlt
        have cb : wr.drew.cell? ⟨gb, j, none⟩ = some (u32v (KX.get j)) := by rw [HB.out.drew.cell]; exact keyCells_get _ _ hlt
        have hW' := hW.drew
        have HK' := Lib.hid HK.out.drew
        have HA' := Lib.hid HA.out.drew
        have HB' := Lib.hid HB.out.drew
        clear hW HK HA HB
        generalize wr.drew = w4 at *
        iterate 3 (apply plan_take rfl rfl rfl rfl; (intro w' hS K hK; subst hS; go_simp; exact hK))
        iterate 4 (refine plan_force rfl rfl (fun K hK => ?_); go_wp2; refine hK.out _ _ rfl ?_; clear hK K)
        refine plan_nil ?_
        go_wp2
        go_roundw
        case rel => exact ⟨j + 1, hlt, by go_num, hW', HK', HA', HB'⟩
        case measure => simp [intOf]; omega
      · obtain rfl : j = 8 := by omega
        rw [show ((8 : Nat) : Int) = 8 from rfl]
        obtain ⟨c0, c1, c2, c3, c4, c5, c6, c7⟩ := T16.load_key HK.out
        go_wp2_with fail
        clear c0 c1 c2 c3 c4 c5 c6 c7
        refine (check_any k _).mono ?_
        rintro e w5 ⟨rfl, hb5⟩
        have hV5 : Below w.heap.size w w5 := hW.trans (hb5.mono hW.size)
        have HK5 := Lib.hid ((HK.out.below hb5 HK.out.lt).alloc (Obj.cells (byteCells (tagOf k (-1) [])) 26))
        have HT5 := Lib.hid (Blk.new w5 26 (byteCells (tagOf k (-1) [])))
        have hW5 := hV5.alloc hV5.size (Obj.cells (byteCells (tagOf k (-1) [])) 26)
        clear hW HK HA HB hb5 hV5
        go_wp2_with fail
        have hle := hW5.size
        refine wp_region_seq (fun w' => Below (w5.alloc (Obj.cells (byteCells (tagOf k (-1) [])) 26)).heap.size (w5.alloc (Obj.cells (byteCells (tagOf k (-1) [])) 26)) w') [(true, 0), (true, 1), (false, 2), (false, 3), (true, 4), (true, 5), (true, 6), (true, 7), (true, 8)]
          (by kernel_rfl) (by kernel_rfl) (fun _ _ d _ _ h => by cases d <;> exact h) (Below.refl _ _).drew ?_
        have hS0 : Below (w5.alloc (Obj.cells (byteCells (tagOf k (-1) [])) 26)).heap.size (w5.alloc (Obj.cells (byteCells (tagOf k (-1) [])) 26)) (w5.alloc (Obj.cells (byteCells (tagOf k (-1) [])) 26)).drew := (Below.refl _ _).drew
        generalize w5.heap.size = gt at *
        generalize w5.alloc (Obj.cells (byteCells (tagOf k (-1) [])) 26) = wR at *
        generalize wR.drew = w6 at *
        refine plan_force rfl rfl (fun K hK => ?_)
        go_wp2_with (go_at_call 18; refine (told16 _).mono ?_; rintro e w7 ⟨rfl, hb7⟩)
        have hS7 := hS0.trans (hb7.mono hS0.size)
        clear hS0 hb7
        refine hK.out _ _ hS7 ?_; clear hK K
        refine plan_force rfl rfl (fun K hK => ?_); go_wp2; refine hK.out _ _ hS7 ?_; clear hK K
        iterate 2 (apply plan_take rfl rfl rfl rfl; (intro w' hS K hK; have hcv := KA.conv8 (HT5.out.below hS HT5.out.lt); clear hS; go_simp; exact hK))
        obtain ⟨c0, c1, c2, c3, c4, c5, c6, c7⟩ := T16.load_key (HK5.out.below hS7 HK5.out.lt)
        refine plan_force rfl rfl (fun K hK => ?_); go_wp2; refine hK.out _ _ hS7 ?_; clear hK K
        clear c0 c1 c2 c3 c4 c5 c6 c7
        refine plan_force rfl rfl (fun K hK => ?_)
        go_wp2_with fail
        refine (refCheck_any k _).mono ?_
        rintro e w8 ⟨rfl, hb8⟩
        have hS8 := hS7.trans (hb8.mono hS7.size)
        clear hS7 hb8
        go_wp2
        refine hK.out _ _ hS8 ?_; clear hK K
        have es : tagStr k (-1) [] = saltStr (tagOf k (-1) []) := rfl
        rw [es]
        clear es
        generalize saltStr (tagOf k (-1) []) = z at *
        iterate 3 (refine plan_force rfl rfl (fun K hK => ?_); go_wp2; refine hK.out _ _ hS8 ?_; clear hK K)
        refine plan_nil ?_
        go_wp2
        go_ret
        exact ⟨rfl, hW5.trans (hS8.mono hle)⟩
set_option maxRecDepth 100000 in
set_option maxHeartbeats 8000000 in
theorem walkKeyAsks (s : ByteArray) (f : Nat → UInt8) (r : Int) (k : PL.K8) (w : World) (hs : s.size ≤ maxLen) (hr : (Lit.int .i64 r).wf = true) :
    Calls Try.prog 8 #[.string s, .agg (byteCells f), .int .i64 r, .agg (keyCells k)] w fun e w' => e = .returned (.bool true) ∧ Below w.heap.size w w' := by
  unfold maxLen at hs
  by_cases hlt : 120 < (s.size : Int)
  · have hb1 : Below w.heap.size w ((w.alloc (Obj.cells (byteCells f) 26)).alloc (Obj.cells (keyCells k) 23)) := ((Below.refl _ _).alloc (Nat.le_refl _) _).alloc (by simp) _
    go_enter Try.func8, Try.ntmps8
    go_wp2_with (go_at_call 18; refine (told16 _).mono ?_; rintro e w2 ⟨rfl, hb2⟩)
    go_ret
    exact ⟨rfl, hb1.trans (hb2.mono hb1.size)⟩
  · obtain ⟨N, hN⟩ : ∃ N : Int, (50 < r ∧ r ≤ 1000 ∧ r % 51 = N) ∨ (50 < r ∧ ¬ r ≤ 1000 ∧ r = N) ∨ (¬ 50 < r ∧ r = N) := by
      by_cases h1 : 50 < r
      · by_cases h2 : r ≤ 1000
        · exact ⟨_, .inl ⟨h1, h2, rfl⟩⟩
        · exact ⟨_, .inr (.inl ⟨h1, h2, rfl⟩)⟩
      · exact ⟨_, .inr (.inr ⟨h1, rfl⟩)⟩
    by_cases hc : (s.size : Int) ≤ 100 ∧ 1 ≤ N ∧ N ≤ 1000
    · obtain ⟨h4, h5, h6⟩ := hc
      have hn : N = ((N.toNat : Nat) : Int) := by omega
      refine keyAsksAt s f r N k w (keyOf s.data.toList f N.toNat) 0 hlt hN (fun w => ?_) (fun w => ?_)
      · have := keyOf_yes s f N.toNat w (by omega) (by omega) (by omega)
        rw [← hn] at this
        exact this
      · have := refKeyOf_yes s f N.toNat w (by omega) (by omega) (by omega)
        rw [← hn] at this
        exact this
    · exact keyAsksAt s f r N k w K0 1 hlt hN (fun w => keyOf_no s f N w (by omega) (by omega)) (fun w => refKeyOf_no s f N w (by omega) (by omega))
end Go.Proofs.Ytbmccgiffplpjaa
