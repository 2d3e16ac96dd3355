/- The walk of KeyRounds. -/
import Derived.Test.YtbmccgiffplpjaaTold16
namespace Go.Proofs.Ytbmccgiffplpjaa
open Go.RowKit
set_option linter.unusedVariables false
theorem round_word (x : UInt32) (R : Nat) (h : R + 1 < 4294967296) : bits .xor .u32 (W x) ((R : Int) + 1) = W (x ^^^ UInt32.ofNat (R + 1)) := by
  have e : (R : Int) + 1 = ((R + 1 : Nat) : Int) := by omega
  rw [e, ← W_nat (R + 1) h, W_xor]
theorem rounds_of (r m : Int) (hm0 : 1 ≤ m) (hm1 : m ≤ 1000) : ∃ R : Nat, 1 ≤ R ∧ (R : Int) ≤ m ∧ wrap64 (1 + wrap64 ((IntKind.u64.wrap r).tmod m)) = (R : Int) := by
  have h0 : 0 ≤ IntKind.u64.wrap r := by rw [IntKind.wrap_u64]; omega
  rw [Int.tmod_eq_emod_of_nonneg h0]
  generalize IntKind.u64.wrap r = q at *
  have h1 := Int.emod_nonneg q (show m ≠ 0 by omega)
  have h2 := Int.emod_lt_of_pos q (show 0 < m by omega)
  generalize q % m = x at *
  refine ⟨(1 + x).toNat, by omega, by omega, ?_⟩
  rw [IntWalk.wrap64_in x (by omega), IntWalk.wrap64_in (1 + x) (by omega)]
  omega
set_option maxRecDepth 100000 in
set_option maxHeartbeats 4000000 in
theorem keyRounds (s : ByteArray) (f : Nat → UInt8) (r : Int) (w : World) (hs : s.size ≤ 9223372036854775807) (hr0 : -9223372036854775808 ≤ r) (hr1 : r ≤ 9223372036854775807) :
    Calls Try.prog 9 #[.string s, .agg (byteCells f), .int .i64 r] w fun e w' => e = .returned (.bool true) ∧ Below w.heap.size w w' := by
  by_cases hlt : 100 < (s.size : Int)
  · go_enter Try.func9, Try.ntmps9
    go_wp2_with (go_at_call 18; refine (told16 _).mono ?_; rintro e w2 ⟨rfl, hb2⟩)
    go_ret
    exact ⟨rfl, ((Below.refl _ _).alloc (Nat.le_refl _) _).trans (hb2.mono (by simp))⟩
  · go_enter Try.func9, Try.ntmps9
    go_wp2_with fail
    obtain ⟨R, hR1, hR2, hR⟩ := rounds_of r 30 (by omega) (by omega)
    rw [hR]
    clear hR
    have hS0 := Blk.new w 26 (byteCells f)
    have hW0 : Below w.heap.size w (w.alloc (Obj.cells (byteCells f) 26)) := (Below.refl _ _).alloc (Nat.le_refl _) _
    refine (keyOf_yes s f R _ (by omega) hR1 (by omega)).mono ?_
    rintro e w1 ⟨rfl, hb1⟩
    have hV1 : Below w.heap.size w w1 := hW0.trans (hb1.mono hW0.size)
    generalize hKA : keyOf s.data.toList f R = KA at *
    obtain ⟨KB, hKB⟩ : ∃ KB, KB = keyRound (R + 1) KA := ⟨_, rfl⟩
    have hk2 : ∀ w : World, Calls Try.prog 19 #[.string s, .agg (byteCells f), .int .i64 ((R + 1 : Nat) : Int)] w fun e w' => e = .returned (.tuple #[.agg (keyCells KB), .int .i64 0]) ∧ Below w.heap.size w w' := by
      intro w
      have h := keyOf_yes s f (R + 1) w (by omega) (by omega) (by omega)
      have e : keyOf s.data.toList f (R + 1) = KB := by rw [hKB, ← hKA]; rfl
      rw [e] at h
      exact h
    have HKB := Lib.hid hKB
    clear hKB
    have HS1 := Lib.hid ((hS0.below (w' := w1) hb1 hS0.lt).alloc (Obj.cells (keyCells KA) 28))
    have HA1 := Lib.hid (Blk.new w1 28 (keyCells KA))
    have hW1 := hV1.alloc hV1.size (Obj.cells (keyCells KA) 28)
    clear hS0 hW0 hb1 hV1
    have c0 : (w1.alloc (Obj.cells (keyCells KA) 28)).cell? ⟨w.heap.size, 0, none⟩ = some (u8v (f 0)) := HS1.out.cell 0
    have c1 : (w1.alloc (Obj.cells (keyCells KA) 28)).cell? ⟨w.heap.size, 1, none⟩ = some (u8v (f 1)) := HS1.out.cell 1
    have c2 : (w1.alloc (Obj.cells (keyCells KA) 28)).cell? ⟨w.heap.size, 2, none⟩ = some (u8v (f 2)) := HS1.out.cell 2
    have c3 : (w1.alloc (Obj.cells (keyCells KA) 28)).cell? ⟨w.heap.size, 3, none⟩ = some (u8v (f 3)) := HS1.out.cell 3
    have c4 : (w1.alloc (Obj.cells (keyCells KA) 28)).cell? ⟨w.heap.size, 4, none⟩ = some (u8v (f 4)) := HS1.out.cell 4
    have c5 : (w1.alloc (Obj.cells (keyCells KA) 28)).cell? ⟨w.heap.size, 5, none⟩ = some (u8v (f 5)) := HS1.out.cell 5
    have c6 : (w1.alloc (Obj.cells (keyCells KA) 28)).cell? ⟨w.heap.size, 6, none⟩ = some (u8v (f 6)) := HS1.out.cell 6
    have c7 : (w1.alloc (Obj.cells (keyCells KA) 28)).cell? ⟨w.heap.size, 7, none⟩ = some (u8v (f 7)) := HS1.out.cell 7
    go_wp2_with fail
    clear c0 c1 c2 c3 c4 c5 c6 c7
    have e1 : ((R : Int) + 1) = ((R + 1 : Nat) : Int) := by omega
    rw [e1]; clear e1
    refine (hk2 _).mono ?_
    rintro e w2 ⟨rfl, hb2⟩
    have hb2' : Below (w1.alloc (Obj.cells (keyCells KA) 28)).heap.size (w1.alloc (Obj.cells (keyCells KA) 28)) w2 := hb2
    have hV2 : Below w.heap.size w w2 := hW1.trans (hb2'.mono hW1.size)
    have HA2 := Lib.hid (HA1.out.below hb2' HA1.out.lt)
    clear HS1 HA1 hW1 hb2 hb2' hKA hk2
    have HA3 := Lib.hid (HA2.out.alloc (Obj.cells (keyCells KB) 28))
    have HB3 := Lib.hid (Blk.new w2 28 (keyCells KB))
    have hW3 := hV2.alloc hV2.size (Obj.cells (keyCells KB) 28)
    clear HA2 hV2
    obtain ⟨c0, c1, c2, c3, c4, c5, c6, c7⟩ := T16.load_key HA3.out
    go_wp2_with fail
    clear c0 c1 c2 c3 c4 c5 c6 c7
    refine (mix_any KA _).mono ?_
    rintro e w4 ⟨rfl, hb4⟩
    have hb4' : Below (w2.alloc (Obj.cells (keyCells KB) 28)).heap.size (w2.alloc (Obj.cells (keyCells KB) 28)) w4 := hb4
    have hV4 : Below w.heap.size w w4 := hW3.trans (hb4'.mono hW3.size)
    have HB4 := Lib.hid (HB3.out.below hb4' HB3.out.lt)
    clear HA3 HB3 hW3 hb4 hb4'
    generalize hM : PL.mix KA = M at *
    have HM := Lib.hid hM
    clear hM
    have HM5 := Lib.hid (Blk.new w4 28 (keyCells M))
    have HB5 := Lib.hid (HB4.out.alloc (Obj.cells (keyCells M) 28))
    have hW5 := hV4.alloc hV4.size (Obj.cells (keyCells M) 28)
    obtain ⟨c0, c1, c2, c3, c4, c5, c6, c7⟩ := T16.load_key HM5.out
    clear c0 c1 c2 c3 c4 c5 c6
    go_wp2_with fail
    clear c7 HM5 HB5 hW5
    have hKB : KB = { M with k7 := M.k7 ^^^ UInt32.ofNat (R + 1) } := by rw [HKB.out, ← HM.out]; rfl
    have hx : bits .xor .u32 (W M.k7) ((R : Int) + 1) = W KB.k7 := by
      rw [hKB]
      exact round_word M.k7 R (by omega)
    have h0 : M.k0 = KB.k0 := by rw [hKB]
    have h1 : M.k1 = KB.k1 := by rw [hKB]
    have h2 : M.k2 = KB.k2 := by rw [hKB]
    have h3 : M.k3 = KB.k3 := by rw [hKB]
    have h4 : M.k4 = KB.k4 := by rw [hKB]
    have h5 : M.k5 = KB.k5 := by rw [hKB]
    have h6 : M.k6 = KB.k6 := by rw [hKB]
    rw [hx, h0, h1, h2, h3, h4, h5, h6]
    clear hx h0 h1 h2 h3 h4 h5 h6 hKB HKB HM
    have HM5 := Lib.hid (Blk.new w4 28 (keyCells KB))
    have HB5 := Lib.hid (HB4.out.alloc (Obj.cells (keyCells KB) 28))
    have hW5 := hV4.alloc hV4.size (Obj.cells (keyCells KB) 28)
    clear HB4 hV4
    refine (told16 _).mono ?_
    rintro e w6 ⟨rfl, hb6⟩
    have hb6' : Below (w4.alloc (Obj.cells (keyCells KB) 28)).heap.size (w4.alloc (Obj.cells (keyCells KB) 28)) w6 := hb6
    have hV6 : Below w.heap.size w w6 := hW5.trans (hb6'.mono hW5.size)
    have HB6 := Lib.hid (HB5.out.below hb6' HB5.out.lt)
    have HM6 := Lib.hid (HM5.out.below hb6' HM5.out.lt)
    clear HB5 HM5 hW5 hb6 hb6'
    obtain ⟨c0, c1, c2, c3, c4, c5, c6, c7⟩ := T16.load_key HB6.out
    obtain ⟨d0, d1, d2, d3, d4, d5, d6, d7⟩ := T16.load_key HM6.out
    have heq : ∀ v : World, (Op.equalIn 10000 28 (.agg (keyCells KB)) (.agg (keyCells KB))).run Try.prog v = .ok true v := by
      intro v
      have := eq_keys KB KB v
      rw [(sameK_eq KB KB).2 rfl] at this
      exact this
    go_wp2_with fail
    go_ret
    exact ⟨rfl, by first | exact hV6 | exact hV6.drew⟩
theorem walkKeyRounds (s : ByteArray) (f : Nat → UInt8) (r : Int) (w : World) (hs : s.size ≤ maxLen) (hr : (Lit.int .i64 r).wf = true) :
    Calls Try.prog 9 #[.string s, .agg (byteCells f), .int .i64 r] w fun e w' => e = .returned (.bool true) ∧ Below w.heap.size w w' := by
  have h := bounds_i64 hr
  unfold maxLen at hs
  exact keyRounds s f r w hs (by omega) (by omega)
end Go.Proofs.Ytbmccgiffplpjaa
