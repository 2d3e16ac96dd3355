/- The walk of KeySalts. -/
import Derived.Test.YtbmccgiffplpjaaWalkKeyRounds
import Derived.Test.YtbmccgiffplpjaaPlainSalt
namespace Go.Proofs.Ytbmccgiffplpjaa
open Go.RowKit
set_option linter.unusedVariables false
namespace KS
theorem u8_xor_v (x y : UInt8) : bits .xor .u8 (x.toNat : Int) (y.toNat : Int) = ((x ^^^ y).toNat : Int) := by
  rw [u8_xor_nat _ _ x.toNat_lt y.toNat_lt, UInt8.toNat_xor]
def turned (f : Nat → UInt8) (i : Nat) (c : UInt8) : Nat → UInt8 := fun j => if j = i then f j ^^^ c else f j
theorem turned_list (f : Nat → UInt8) (i : Nat) (c : UInt8) (h : i < 8) : ([Value.int IntKind.u8 ((f 0).toNat : Int), Value.int IntKind.u8 ((f 1).toNat : Int), Value.int IntKind.u8 ((f 2).toNat : Int), Value.int IntKind.u8 ((f 3).toNat : Int), Value.int IntKind.u8 ((f 4).toNat : Int), Value.int IntKind.u8 ((f 5).toNat : Int), Value.int IntKind.u8 ((f 6).toNat : Int), Value.int IntKind.u8 ((f 7).toNat : Int)].set i (Value.int IntKind.u8 (((f i).toNat ^^^ c.toNat : Nat) : Int))).toArray = byteCells (turned f i c) := by
  rw [← UInt8.toNat_xor]
  match i, h with
  | 0, _ => rfl
  | 1, _ => rfl
  | 2, _ => rfl
  | 3, _ => rfl
  | 4, _ => rfl
  | 5, _ => rfl
  | 6, _ => rfl
  | 7, _ => rfl
theorem same_turned (l : List UInt8) (f : Nat → UInt8) (i : Nat) (c : UInt8) (n : Nat) (h : i < 8) : sameK (keyOf l f n) (keyOf l (turned f i c) n) = decide (c = 0) := by
  rw [Bool.eq_iff_iff, sameK_eq, decide_eq_true_eq]
  constructor
  · intro hh
    have := keyOf_inj hh i h
    unfold turned at this
    rw [if_pos rfl] at this
    have h2 : f i ^^^ (f i ^^^ c) = f i ^^^ f i := by rw [← this]
    rw [← UInt8.xor_assoc, UInt8.xor_self, UInt8.zero_xor] at h2
    exact h2
  · rintro rfl
    have : turned f i 0 = f := by
      funext j
      unfold turned
      split <;> simp
    rw [this]
theorem u8_zero (c : UInt8) : ((c.toNat : Int) == 0) = decide (c = 0) := by
  rw [Bool.eq_iff_iff]
  simp only [beq_iff_eq, decide_eq_true_eq, ← UInt8.toNat_inj, UInt8.toNat_zero]
  omega
theorem cells8 {w' : World} {H t : Nat} {f : Nat → UInt8} (h : Blk w' H t (byteCells f)) : w'.cell? ⟨H, 0, none⟩ = some (u8v (f 0)) ∧ w'.cell? ⟨H, 1, none⟩ = some (u8v (f 1)) ∧ w'.cell? ⟨H, 2, none⟩ = some (u8v (f 2)) ∧ w'.cell? ⟨H, 3, none⟩ = some (u8v (f 3)) ∧
    w'.cell? ⟨H, 4, none⟩ = some (u8v (f 4)) ∧ w'.cell? ⟨H, 5, none⟩ = some (u8v (f 5)) ∧ w'.cell? ⟨H, 6, none⟩ = some (u8v (f 6)) ∧ w'.cell? ⟨H, 7, none⟩ = some (u8v (f 7)) :=
  ⟨h.cell 0, h.cell 1, h.cell 2, h.cell 3, h.cell 4, h.cell 5, h.cell 6, h.cell 7⟩
end KS
set_option maxRecDepth 100000 in
set_option maxHeartbeats 4000000 in
theorem keySalts (s : ByteArray) (f : Nat → UInt8) (p : Int) (c : UInt8) (r : Int) (i : Nat) (w : World) (hs : s.size ≤ 9223372036854775807) (hi : i < 8) (hx : (IntKind.u64.wrap p).tmod 8 = (i : Int)) :
    Calls Try.prog 10 #[.string s, .agg (byteCells f), .int .i64 p, .int .u8 (c.toNat : Int), .int .i64 r] w fun e w' => e = .returned (.bool true) ∧ Below w.heap.size w w' := by
  by_cases hlt : 100 < (s.size : Int)
  · go_enter Try.func10, Try.ntmps10
    go_wp2_with (go_at_call 18; refine (told16 _).mono ?_; rintro e w2 ⟨rfl, hb2⟩)
    go_ret
    exact ⟨rfl, ((Below.refl _ _).alloc (Nat.le_refl _) _).trans (hb2.mono (by simp))⟩
  · have ex := KS.u8_xor_v
    have j0 : (0 : Int) ≤ (i : Int) := by omega
    have j1 : (i : Int) < 8 := by omega
    have ci : ((w.alloc (Obj.cells (byteCells f) 26)).alloc (Obj.cells (byteCells f) 26)).cell? ⟨w.heap.size + 1, i, none⟩ = some (u8v (f i)) := by
      have := (Blk.new (w.alloc (Obj.cells (byteCells f) 26)) 26 (byteCells f)).cell i
      rw [World.size_alloc] at this
      rw [this]
      exact byteCells_get f i hi
    go_enter Try.func10, Try.ntmps10
    go_wp2_with fail
    rw [KS.turned_list f i c hi]
    obtain ⟨R, hR1, hR2, hR⟩ := rounds_of r 10 (by omega) (by omega)
    rw [hR]
    clear hR ex ci hx
    have hA0 : Blk ((w.alloc (Obj.cells (byteCells f) 26)).alloc (Obj.cells (byteCells (KS.turned f i c)) 26)) (w.heap.size + 1) 26 (byteCells (KS.turned f i c)) := by
      have := Blk.new (w.alloc (Obj.cells (byteCells f) 26)) 26 (byteCells (KS.turned f i c))
      rw [World.size_alloc] at this
      exact this
    have hW0 : Below w.heap.size w ((w.alloc (Obj.cells (byteCells f) 26)).alloc (Obj.cells (byteCells (KS.turned f i c)) 26)) := ((Below.refl _ _).alloc (Nat.le_refl _) _).alloc (by simp) _
    refine (keyOf_yes s f R _ (by omega) hR1 (by omega)).mono ?_
    rintro e w1 ⟨rfl, hb1⟩
    have hV1 : Below w.heap.size w w1 := hW0.trans (hb1.mono hW0.size)
    have hsame := KS.same_turned s.data.toList f i c R hi
    have hk2 : ∀ w : World, Calls Try.prog 19 #[.string s, .agg (byteCells (KS.turned f i c)), .int .i64 (R : Int)] w fun e w' => e = .returned (.tuple #[.agg (keyCells (keyOf s.data.toList (KS.turned f i c) R)), .int .i64 0]) ∧ Below w.heap.size w w' := fun w => keyOf_yes s (KS.turned f i c) R w (by omega) hR1 (by omega)
    generalize keyOf s.data.toList f R = KA at *
    generalize keyOf s.data.toList (KS.turned f i c) R = KB at *
    generalize hg : KS.turned f i c = g at *
    clear hg
    have HSame := Lib.hid hsame
    clear hsame
    have HS1 := Lib.hid ((hA0.below (w' := w1) hb1 hA0.lt).alloc (Obj.cells (keyCells KA) 28))
    have HA1 := Lib.hid (Blk.new w1 28 (keyCells KA))
    have hW1 := hV1.alloc hV1.size (Obj.cells (keyCells KA) 28)
    clear hA0 hW0 hb1 hV1 j0 j1
    obtain ⟨c0, c1, c2, c3, c4, c5, c6, c7⟩ := KS.cells8 HS1.out
    go_wp2_with fail
    clear c0 c1 c2 c3 c4 c5 c6 c7
    refine (hk2 _).mono ?_
    rintro e w2 ⟨rfl, hb2⟩
    have hb2' : Below (w1.alloc (Obj.cells (keyCells KA) 28)).heap.size (w1.alloc (Obj.cells (keyCells KA) 28)) w2 := hb2
    have hV2 : Below w.heap.size w w2 := hW1.trans (hb2'.mono hW1.size)
    have HA2 := Lib.hid (HA1.out.below hb2' HA1.out.lt)
    clear HS1 HA1 hW1 hb2 hb2' hk2
    have HA3 := Lib.hid (HA2.out.alloc (Obj.cells (keyCells KB) 28))
    have HB3 := Lib.hid (Blk.new w2 28 (keyCells KB))
    have hW3 := hV2.alloc hV2.size (Obj.cells (keyCells KB) 28)
    clear HA2 hV2
    go_wp2_with fail
    refine (told16 _).mono ?_
    rintro e w6 ⟨rfl, hb6⟩
    have hb6' : Below (w2.alloc (Obj.cells (keyCells KB) 28)).heap.size (w2.alloc (Obj.cells (keyCells KB) 28)) w6 := hb6
    have hV6 : Below w.heap.size w w6 := hW3.trans (hb6'.mono hW3.size)
    have HB6 := Lib.hid (HB3.out.below hb6' HB3.out.lt)
    have HA6 := Lib.hid (HA3.out.below hb6' HA3.out.lt)
    clear HB3 HA3 hW3 hb6 hb6'
    obtain ⟨c0, c1, c2, c3, c4, c5, c6, c7⟩ := T16.load_key HB6.out
    obtain ⟨d0, d1, d2, d3, d4, d5, d6, d7⟩ := T16.load_key HA6.out
    have heq : ∀ v : World, (Op.equalIn 10000 28 (.agg (keyCells KA)) (.agg (keyCells KB))).run Try.prog v = .ok (decide (c = 0)) v := by
      intro v
      have := eq_keys KA KB v
      rw [HSame.out] at this
      exact this
    have ez := KS.u8_zero c
    go_wp2_with fail
    go_ret
    exact ⟨rfl, by first | exact hV6 | exact hV6.drew⟩
theorem walkKeySalts (s : ByteArray) (f : Nat → UInt8) (p c r : Int) (w : World) (hs : s.size ≤ maxLen) (hp : (Lit.int .i64 p).wf = true) (hc : (Lit.int .u8 c).wf = true) (hr : (Lit.int .i64 r).wf = true) :
    Calls Try.prog 10 #[.string s, .agg (byteCells f), .int .i64 p, .int .u8 c, .int .i64 r] w fun e w' => e = .returned (.bool true) ∧ Below w.heap.size w w' := by
  have h1 := bounds_u8 hc
  have h0 : 0 ≤ IntKind.u64.wrap p := by rw [IntKind.wrap_u64]; omega
  have h2 : (IntKind.u64.wrap p).tmod 8 = (((IntKind.u64.wrap p) % 8).toNat : Int) := by rw [Int.tmod_eq_emod_of_nonneg h0]; omega
  unfold maxLen at hs
  have h3 := keySalts s f p (UInt8.ofNat c.toNat) r ((IntKind.u64.wrap p) % 8).toNat w hs (by omega) h2
  have h4 : ((UInt8.ofNat c.toNat).toNat : Int) = c := by rw [UInt8.toNat_ofNat']; omega
  rwa [h4] at h3
end Go.Proofs.Ytbmccgiffplpjaa
