/- The walk of TagSames: Same tells two tags apart that differ in one byte. -/
import Derived.Test.YtbmccgiffplpjaaTold15
namespace Go.Proofs.Ytbmccgiffplpjaa
open Go.RowKit
set_option linter.unusedVariables false
theorem u8_xor_v (x y : UInt8) : bits .xor .u8 (x.toNat : Int) (y.toNat : Int) = ((x ^^^ y).toNat : Int) := by
  rw [u8_xor_nat _ _ x.toNat_lt y.toNat_lt, UInt8.toNat_xor]
def turned (f : Nat → UInt8) (i : Nat) (c : UInt8) : Nat → UInt8 := fun j => if j = i then f j ^^^ c else f j
theorem sameB_turned (f : Nat → UInt8) (i : Nat) (c : UInt8) (h : i < 8) : sameB f (turned f i c) = decide (c = 0) := by
  rw [Bool.eq_iff_iff]
  simp only [sameB, List.all_eq_true, List.mem_range, beq_iff_eq, decide_eq_true_eq, turned]
  constructor
  · intro hh
    have := hh i h
    rw [if_pos rfl] at this
    have h2 : f i ^^^ (f i ^^^ c) = f i ^^^ f i := by rw [← this]
    rw [← UInt8.xor_assoc, UInt8.xor_self, UInt8.zero_xor] at h2
    exact h2
  · rintro rfl j _
    split <;> simp
theorem walk_load_b8 {w' : World} {H t : Nat} {f : Nat → UInt8} (h : Blk w' H t (byteCells f)) : w'.cell? ⟨H, 0, none⟩ = some (u8v (f 0)) ∧ w'.cell? ⟨H, 1, none⟩ = some (u8v (f 1)) ∧ w'.cell? ⟨H, 2, none⟩ = some (u8v (f 2)) ∧ w'.cell? ⟨H, 3, none⟩ = some (u8v (f 3)) ∧
    w'.cell? ⟨H, 4, none⟩ = some (u8v (f 4)) ∧ w'.cell? ⟨H, 5, none⟩ = some (u8v (f 5)) ∧ w'.cell? ⟨H, 6, none⟩ = some (u8v (f 6)) ∧ w'.cell? ⟨H, 7, none⟩ = some (u8v (f 7)) :=
  ⟨h.cell 0, h.cell 1, h.cell 2, h.cell 3, h.cell 4, h.cell 5, h.cell 6, h.cell 7⟩
theorem sameB_comm (f g : Nat → UInt8) : sameB f g = sameB g f := by
  rw [Bool.eq_iff_iff]
  simp only [sameB, List.all_eq_true, List.mem_range, beq_iff_eq]
  exact ⟨fun h j hj => (h j hj).symm, fun h j hj => (h j hj).symm⟩
theorem u8_zero (c : UInt8) : ((c.toNat : Int) == 0) = decide (c = 0) := by
  rw [Bool.eq_iff_iff]
  simp only [beq_iff_eq, decide_eq_true_eq, ← UInt8.toNat_inj, UInt8.toNat_zero]
  omega
set_option maxRecDepth 100000 in
set_option maxHeartbeats 4000000 in
theorem tagSamesAt (i : Nat) (f : Nat → UInt8) (p : Int) (c : UInt8) (w : World) (hi : i < 8) (hx : (IntKind.u64.wrap p).tmod 8 = (i : Int)) :
    Calls Try.prog 5 #[.agg (byteCells f), .int .i64 p, .int .u8 (c.toNat : Int)] w fun e w' => e = .returned (.bool true) ∧ Below w.heap.size w w' := by
  have ex := u8_xor_v
  have ez := u8_zero c
  have s1 := sameB_turned f i c hi
  have i8 : i = 0 ∨ i = 1 ∨ i = 2 ∨ i = 3 ∨ i = 4 ∨ i = 5 ∨ i = 6 ∨ i = 7 := by omega
  rcases i8 with rfl | rfl | rfl | rfl | rfl | rfl | rfl | rfl
  · go_enter Try.func5, Try.ntmps5
    go_wp2_with fail
    rw [← UInt8.toNat_xor]
    have hA1 : Blk ((w.alloc (Obj.cells (byteCells f) 26)).alloc (Obj.cells (byteCells (turned f 0 c)) 26)) w.heap.size 26 (byteCells f) := (Blk.new _ _ _).alloc _
    have hC1 : Blk ((w.alloc (Obj.cells (byteCells f) 26)).alloc (Obj.cells (byteCells (turned f 0 c)) 26)) (w.heap.size + 1) 26 (byteCells (turned f 0 c)) := by
      have := Blk.new (w.alloc (Obj.cells (byteCells f) 26)) 26 (byteCells (turned f 0 c))
      rw [World.size_alloc] at this
      exact this
    have hb1 : Below w.heap.size w ((w.alloc (Obj.cells (byteCells f) 26)).alloc (Obj.cells (byteCells (turned f 0 c)) 26)) := ((Below.refl _ _).alloc (Nat.le_refl _) _).alloc (by simp) _
    refine (told15 _).mono ?_
    rintro e w2 ⟨rfl, hb2⟩
    have hA := hA1.below (w' := w2) hb2 hA1.lt
    have hC := hC1.below (w' := w2) hb2 hC1.lt
    have hbb : Below w.heap.size w w2 := hb1.trans (hb2.mono hb1.size)
    clear hA1 hC1 hb1 hb2 ex hx
    have HA := Lib.hid hA
    have HC := Lib.hid hC
    obtain ⟨c0, c1, c2, c3, c4, c5, c6, c7⟩ := walk_load_b8 hA
    obtain ⟨d0, d1, d2, d3, d4, d5, d6, d7⟩ := walk_load_b8 hC
    clear hA hC
    go_wp2_with fail
    refine (same_any f (turned f 0 c) _).mono ?_
    rw [s1]
    rintro e w3 ⟨rfl, hb3⟩
    clear c0 c1 c2 c3 c4 c5 c6 c7 d0 d1 d2 d3 d4 d5 d6 d7
    obtain ⟨c0, c1, c2, c3, c4, c5, c6, c7⟩ := walk_load_b8 (HA.out.below hb3 HA.out.lt)
    obtain ⟨d0, d1, d2, d3, d4, d5, d6, d7⟩ := walk_load_b8 (HC.out.below hb3 HC.out.lt)
    have hbb3 := hbb.trans (hb3.mono hbb.size)
    clear HA HC hbb hb3
    go_wp2_with fail
    refine (same_any (turned f 0 c) f _).mono ?_
    rw [sameB_comm, s1]
    rintro e w4 ⟨rfl, hb4⟩
    have hbb4 := hbb3.trans (hb4.mono hbb3.size)
    clear c0 c1 c2 c3 c4 c5 c6 c7 d0 d1 d2 d3 d4 d5 d6 d7 hbb3 hb4
    go_wp2_with fail
    go_ret
    exact ⟨rfl, hbb4⟩
  · go_enter Try.func5, Try.ntmps5
    go_wp2_with fail
    rw [← UInt8.toNat_xor]
    have hA1 : Blk ((w.alloc (Obj.cells (byteCells f) 26)).alloc (Obj.cells (byteCells (turned f 1 c)) 26)) w.heap.size 26 (byteCells f) := (Blk.new _ _ _).alloc _
    have hC1 : Blk ((w.alloc (Obj.cells (byteCells f) 26)).alloc (Obj.cells (byteCells (turned f 1 c)) 26)) (w.heap.size + 1) 26 (byteCells (turned f 1 c)) := by
      have := Blk.new (w.alloc (Obj.cells (byteCells f) 26)) 26 (byteCells (turned f 1 c))
      rw [World.size_alloc] at this
      exact this
    have hb1 : Below w.heap.size w ((w.alloc (Obj.cells (byteCells f) 26)).alloc (Obj.cells (byteCells (turned f 1 c)) 26)) := ((Below.refl _ _).alloc (Nat.le_refl _) _).alloc (by simp) _
    refine (told15 _).mono ?_
    rintro e w2 ⟨rfl, hb2⟩
    have hA := hA1.below (w' := w2) hb2 hA1.lt
    have hC := hC1.below (w' := w2) hb2 hC1.lt
    have hbb : Below w.heap.size w w2 := hb1.trans (hb2.mono hb1.size)
    clear hA1 hC1 hb1 hb2 ex hx
    have HA := Lib.hid hA
    have HC := Lib.hid hC
    obtain ⟨c0, c1, c2, c3, c4, c5, c6, c7⟩ := walk_load_b8 hA
    obtain ⟨d0, d1, d2, d3, d4, d5, d6, d7⟩ := walk_load_b8 hC
    clear hA hC
    go_wp2_with fail
    refine (same_any f (turned f 1 c) _).mono ?_
    rw [s1]
    rintro e w3 ⟨rfl, hb3⟩
    clear c0 c1 c2 c3 c4 c5 c6 c7 d0 d1 d2 d3 d4 d5 d6 d7
    obtain ⟨c0, c1, c2, c3, c4, c5, c6, c7⟩ := walk_load_b8 (HA.out.below hb3 HA.out.lt)
    obtain ⟨d0, d1, d2, d3, d4, d5, d6, d7⟩ := walk_load_b8 (HC.out.below hb3 HC.out.lt)
    have hbb3 := hbb.trans (hb3.mono hbb.size)
    clear HA HC hbb hb3
    go_wp2_with fail
    refine (same_any (turned f 1 c) f _).mono ?_
    rw [sameB_comm, s1]
    rintro e w4 ⟨rfl, hb4⟩
    have hbb4 := hbb3.trans (hb4.mono hbb3.size)
    clear c0 c1 c2 c3 c4 c5 c6 c7 d0 d1 d2 d3 d4 d5 d6 d7 hbb3 hb4
    go_wp2_with fail
    go_ret
    exact ⟨rfl, hbb4⟩
  · go_enter Try.func5, Try.ntmps5
    go_wp2_with fail
    rw [← UInt8.toNat_xor]
    have hA1 : Blk ((w.alloc (Obj.cells (byteCells f) 26)).alloc (Obj.cells (byteCells (turned f 2 c)) 26)) w.heap.size 26 (byteCells f) := (Blk.new _ _ _).alloc _
    have hC1 : Blk ((w.alloc (Obj.cells (byteCells f) 26)).alloc (Obj.cells (byteCells (turned f 2 c)) 26)) (w.heap.size + 1) 26 (byteCells (turned f 2 c)) := by
      have := Blk.new (w.alloc (Obj.cells (byteCells f) 26)) 26 (byteCells (turned f 2 c))
      rw [World.size_alloc] at this
      exact this
    have hb1 : Below w.heap.size w ((w.alloc (Obj.cells (byteCells f) 26)).alloc (Obj.cells (byteCells (turned f 2 c)) 26)) := ((Below.refl _ _).alloc (Nat.le_refl _) _).alloc (by simp) _
    refine (told15 _).mono ?_
    rintro e w2 ⟨rfl, hb2⟩
    have hA := hA1.below (w' := w2) hb2 hA1.lt
    have hC := hC1.below (w' := w2) hb2 hC1.lt
    have hbb : Below w.heap.size w w2 := hb1.trans (hb2.mono hb1.size)
    clear hA1 hC1 hb1 hb2 ex hx
    have HA := Lib.hid hA
    have HC := Lib.hid hC
    obtain ⟨c0, c1, c2, c3, c4, c5, c6, c7⟩ := walk_load_b8 hA
    obtain ⟨d0, d1, d2, d3, d4, d5, d6, d7⟩ := walk_load_b8 hC
    clear hA hC
    go_wp2_with fail
    refine (same_any f (turned f 2 c) _).mono ?_
    rw [s1]
    rintro e w3 ⟨rfl, hb3⟩
    clear c0 c1 c2 c3 c4 c5 c6 c7 d0 d1 d2 d3 d4 d5 d6 d7
    obtain ⟨c0, c1, c2, c3, c4, c5, c6, c7⟩ := walk_load_b8 (HA.out.below hb3 HA.out.lt)
    obtain ⟨d0, d1, d2, d3, d4, d5, d6, d7⟩ := walk_load_b8 (HC.out.below hb3 HC.out.lt)
    have hbb3 := hbb.trans (hb3.mono hbb.size)
    clear HA HC hbb hb3
    go_wp2_with fail
    refine (same_any (turned f 2 c) f _).mono ?_
    rw [sameB_comm, s1]
    rintro e w4 ⟨rfl, hb4⟩
    have hbb4 := hbb3.trans (hb4.mono hbb3.size)
    clear c0 c1 c2 c3 c4 c5 c6 c7 d0 d1 d2 d3 d4 d5 d6 d7 hbb3 hb4
    go_wp2_with fail
    go_ret
    exact ⟨rfl, hbb4⟩
  · go_enter Try.func5, Try.ntmps5
    go_wp2_with fail
    rw [← UInt8.toNat_xor]
    have hA1 : Blk ((w.alloc (Obj.cells (byteCells f) 26)).alloc (Obj.cells (byteCells (turned f 3 c)) 26)) w.heap.size 26 (byteCells f) := (Blk.new _ _ _).alloc _
    have hC1 : Blk ((w.alloc (Obj.cells (byteCells f) 26)).alloc (Obj.cells (byteCells (turned f 3 c)) 26)) (w.heap.size + 1) 26 (byteCells (turned f 3 c)) := by
      have := Blk.new (w.alloc (Obj.cells (byteCells f) 26)) 26 (byteCells (turned f 3 c))
      rw [World.size_alloc] at this
      exact this
    have hb1 : Below w.heap.size w ((w.alloc (Obj.cells (byteCells f) 26)).alloc (Obj.cells (byteCells (turned f 3 c)) 26)) := ((Below.refl _ _).alloc (Nat.le_refl _) _).alloc (by simp) _
    refine (told15 _).mono ?_
    rintro e w2 ⟨rfl, hb2⟩
    have hA := hA1.below (w' := w2) hb2 hA1.lt
    have hC := hC1.below (w' := w2) hb2 hC1.lt
    have hbb : Below w.heap.size w w2 := hb1.trans (hb2.mono hb1.size)
    clear hA1 hC1 hb1 hb2 ex hx
    have HA := Lib.hid hA
    have HC := Lib.hid hC
    obtain ⟨c0, c1, c2, c3, c4, c5, c6, c7⟩ := walk_load_b8 hA
    obtain ⟨d0, d1, d2, d3, d4, d5, d6, d7⟩ := walk_load_b8 hC
    clear hA hC
    go_wp2_with fail
    refine (same_any f (turned f 3 c) _).mono ?_
    rw [s1]
    rintro e w3 ⟨rfl, hb3⟩
    clear c0 c1 c2 c3 c4 c5 c6 c7 d0 d1 d2 d3 d4 d5 d6 d7
    obtain ⟨c0, c1, c2, c3, c4, c5, c6, c7⟩ := walk_load_b8 (HA.out.below hb3 HA.out.lt)
    obtain ⟨d0, d1, d2, d3, d4, d5, d6, d7⟩ := walk_load_b8 (HC.out.below hb3 HC.out.lt)
    have hbb3 := hbb.trans (hb3.mono hbb.size)
    clear HA HC hbb hb3
    go_wp2_with fail
    refine (same_any (turned f 3 c) f _).mono ?_
    rw [sameB_comm, s1]
    rintro e w4 ⟨rfl, hb4⟩
    have hbb4 := hbb3.trans (hb4.mono hbb3.size)
    clear c0 c1 c2 c3 c4 c5 c6 c7 d0 d1 d2 d3 d4 d5 d6 d7 hbb3 hb4
    go_wp2_with fail
    go_ret
    exact ⟨rfl, hbb4⟩
  · go_enter Try.func5, Try.ntmps5
    go_wp2_with fail
    rw [← UInt8.toNat_xor]
    have hA1 : Blk ((w.alloc (Obj.cells (byteCells f) 26)).alloc (Obj.cells (byteCells (turned f 4 c)) 26)) w.heap.size 26 (byteCells f) := (Blk.new _ _ _).alloc _
    have hC1 : Blk ((w.alloc (Obj.cells (byteCells f) 26)).alloc (Obj.cells (byteCells (turned f 4 c)) 26)) (w.heap.size + 1) 26 (byteCells (turned f 4 c)) := by
      have := Blk.new (w.alloc (Obj.cells (byteCells f) 26)) 26 (byteCells (turned f 4 c))
      rw [World.size_alloc] at this
      exact this
    have hb1 : Below w.heap.size w ((w.alloc (Obj.cells (byteCells f) 26)).alloc (Obj.cells (byteCells (turned f 4 c)) 26)) := ((Below.refl _ _).alloc (Nat.le_refl _) _).alloc (by simp) _
    refine (told15 _).mono ?_
    rintro e w2 ⟨rfl, hb2⟩
    have hA := hA1.below (w' := w2) hb2 hA1.lt
    have hC := hC1.below (w' := w2) hb2 hC1.lt
    have hbb : Below w.heap.size w w2 := hb1.trans (hb2.mono hb1.size)
    clear hA1 hC1 hb1 hb2 ex hx
    have HA := Lib.hid hA
    have HC := Lib.hid hC
    obtain ⟨c0, c1, c2, c3, c4, c5, c6, c7⟩ := walk_load_b8 hA
    obtain ⟨d0, d1, d2, d3, d4, d5, d6, d7⟩ := walk_load_b8 hC
    clear hA hC
    go_wp2_with fail
    refine (same_any f (turned f 4 c) _).mono ?_
    rw [s1]
    rintro e w3 ⟨rfl, hb3⟩
    clear c0 c1 c2 c3 c4 c5 c6 c7 d0 d1 d2 d3 d4 d5 d6 d7
    obtain ⟨c0, c1, c2, c3, c4, c5, c6, c7⟩ := walk_load_b8 (HA.out.below hb3 HA.out.lt)
    obtain ⟨d0, d1, d2, d3, d4, d5, d6, d7⟩ := walk_load_b8 (HC.out.below hb3 HC.out.lt)
    have hbb3 := hbb.trans (hb3.mono hbb.size)
    clear HA HC hbb hb3
    go_wp2_with fail
    refine (same_any (turned f 4 c) f _).mono ?_
    rw [sameB_comm, s1]
    rintro e w4 ⟨rfl, hb4⟩
    have hbb4 := hbb3.trans (hb4.mono hbb3.size)
    clear c0 c1 c2 c3 c4 c5 c6 c7 d0 d1 d2 d3 d4 d5 d6 d7 hbb3 hb4
    go_wp2_with fail
    go_ret
    exact ⟨rfl, hbb4⟩
  · go_enter Try.func5, Try.ntmps5
    go_wp2_with fail
    rw [← UInt8.toNat_xor]
    have hA1 : Blk ((w.alloc (Obj.cells (byteCells f) 26)).alloc (Obj.cells (byteCells (turned f 5 c)) 26)) w.heap.size 26 (byteCells f) := (Blk.new _ _ _).alloc _
    have hC1 : Blk ((w.alloc (Obj.cells (byteCells f) 26)).alloc (Obj.cells (byteCells (turned f 5 c)) 26)) (w.heap.size + 1) 26 (byteCells (turned f 5 c)) := by
      have := Blk.new (w.alloc (Obj.cells (byteCells f) 26)) 26 (byteCells (turned f 5 c))
      rw [World.size_alloc] at this
      exact this
    have hb1 : Below w.heap.size w ((w.alloc (Obj.cells (byteCells f) 26)).alloc (Obj.cells (byteCells (turned f 5 c)) 26)) := ((Below.refl _ _).alloc (Nat.le_refl _) _).alloc (by simp) _
    refine (told15 _).mono ?_
    rintro e w2 ⟨rfl, hb2⟩
    have hA := hA1.below (w' := w2) hb2 hA1.lt
    have hC := hC1.below (w' := w2) hb2 hC1.lt
    have hbb : Below w.heap.size w w2 := hb1.trans (hb2.mono hb1.size)
    clear hA1 hC1 hb1 hb2 ex hx
    have HA := Lib.hid hA
    have HC := Lib.hid hC
    obtain ⟨c0, c1, c2, c3, c4, c5, c6, c7⟩ := walk_load_b8 hA
    obtain ⟨d0, d1, d2, d3, d4, d5, d6, d7⟩ := walk_load_b8 hC
    clear hA hC
    go_wp2_with fail
    refine (same_any f (turned f 5 c) _).mono ?_
    rw [s1]
    rintro e w3 ⟨rfl, hb3⟩
    clear c0 c1 c2 c3 c4 c5 c6 c7 d0 d1 d2 d3 d4 d5 d6 d7
    obtain ⟨c0, c1, c2, c3, c4, c5, c6, c7⟩ := walk_load_b8 (HA.out.below hb3 HA.out.lt)
    obtain ⟨d0, d1, d2, d3, d4, d5, d6, d7⟩ := walk_load_b8 (HC.out.below hb3 HC.out.lt)
    have hbb3 := hbb.trans (hb3.mono hbb.size)
    clear HA HC hbb hb3
    go_wp2_with fail
    refine (same_any (turned f 5 c) f _).mono ?_
    rw [sameB_comm, s1]
    rintro e w4 ⟨rfl, hb4⟩
    have hbb4 := hbb3.trans (hb4.mono hbb3.size)
    clear c0 c1 c2 c3 c4 c5 c6 c7 d0 d1 d2 d3 d4 d5 d6 d7 hbb3 hb4
    go_wp2_with fail
    go_ret
    exact ⟨rfl, hbb4⟩
  · go_enter Try.func5, Try.ntmps5
    go_wp2_with fail
    rw [← UInt8.toNat_xor]
    have hA1 : Blk ((w.alloc (Obj.cells (byteCells f) 26)).alloc (Obj.cells (byteCells (turned f 6 c)) 26)) w.heap.size 26 (byteCells f) := (Blk.new _ _ _).alloc _
    have hC1 : Blk ((w.alloc (Obj.cells (byteCells f) 26)).alloc (Obj.cells (byteCells (turned f 6 c)) 26)) (w.heap.size + 1) 26 (byteCells (turned f 6 c)) := by
      have := Blk.new (w.alloc (Obj.cells (byteCells f) 26)) 26 (byteCells (turned f 6 c))
      rw [World.size_alloc] at this
      exact this
    have hb1 : Below w.heap.size w ((w.alloc (Obj.cells (byteCells f) 26)).alloc (Obj.cells (byteCells (turned f 6 c)) 26)) := ((Below.refl _ _).alloc (Nat.le_refl _) _).alloc (by simp) _
    refine (told15 _).mono ?_
    rintro e w2 ⟨rfl, hb2⟩
    have hA := hA1.below (w' := w2) hb2 hA1.lt
    have hC := hC1.below (w' := w2) hb2 hC1.lt
    have hbb : Below w.heap.size w w2 := hb1.trans (hb2.mono hb1.size)
    clear hA1 hC1 hb1 hb2 ex hx
    have HA := Lib.hid hA
    have HC := Lib.hid hC
    obtain ⟨c0, c1, c2, c3, c4, c5, c6, c7⟩ := walk_load_b8 hA
    obtain ⟨d0, d1, d2, d3, d4, d5, d6, d7⟩ := walk_load_b8 hC
    clear hA hC
    go_wp2_with fail
    refine (same_any f (turned f 6 c) _).mono ?_
    rw [s1]
    rintro e w3 ⟨rfl, hb3⟩
    clear c0 c1 c2 c3 c4 c5 c6 c7 d0 d1 d2 d3 d4 d5 d6 d7
    obtain ⟨c0, c1, c2, c3, c4, c5, c6, c7⟩ := walk_load_b8 (HA.out.below hb3 HA.out.lt)
    obtain ⟨d0, d1, d2, d3, d4, d5, d6, d7⟩ := walk_load_b8 (HC.out.below hb3 HC.out.lt)
    have hbb3 := hbb.trans (hb3.mono hbb.size)
    clear HA HC hbb hb3
    go_wp2_with fail
    refine (same_any (turned f 6 c) f _).mono ?_
    rw [sameB_comm, s1]
    rintro e w4 ⟨rfl, hb4⟩
    have hbb4 := hbb3.trans (hb4.mono hbb3.size)
    clear c0 c1 c2 c3 c4 c5 c6 c7 d0 d1 d2 d3 d4 d5 d6 d7 hbb3 hb4
    go_wp2_with fail
    go_ret
    exact ⟨rfl, hbb4⟩
  · go_enter Try.func5, Try.ntmps5
    go_wp2_with fail
    rw [← UInt8.toNat_xor]
    have hA1 : Blk ((w.alloc (Obj.cells (byteCells f) 26)).alloc (Obj.cells (byteCells (turned f 7 c)) 26)) w.heap.size 26 (byteCells f) := (Blk.new _ _ _).alloc _
    have hC1 : Blk ((w.alloc (Obj.cells (byteCells f) 26)).alloc (Obj.cells (byteCells (turned f 7 c)) 26)) (w.heap.size + 1) 26 (byteCells (turned f 7 c)) := by
      have := Blk.new (w.alloc (Obj.cells (byteCells f) 26)) 26 (byteCells (turned f 7 c))
      rw [World.size_alloc] at this
      exact this
    have hb1 : Below w.heap.size w ((w.alloc (Obj.cells (byteCells f) 26)).alloc (Obj.cells (byteCells (turned f 7 c)) 26)) := ((Below.refl _ _).alloc (Nat.le_refl _) _).alloc (by simp) _
    refine (told15 _).mono ?_
    rintro e w2 ⟨rfl, hb2⟩
    have hA := hA1.below (w' := w2) hb2 hA1.lt
    have hC := hC1.below (w' := w2) hb2 hC1.lt
    have hbb : Below w.heap.size w w2 := hb1.trans (hb2.mono hb1.size)
    clear hA1 hC1 hb1 hb2 ex hx
    have HA := Lib.hid hA
    have HC := Lib.hid hC
    obtain ⟨c0, c1, c2, c3, c4, c5, c6, c7⟩ := walk_load_b8 hA
    obtain ⟨d0, d1, d2, d3, d4, d5, d6, d7⟩ := walk_load_b8 hC
    clear hA hC
    go_wp2_with fail
    refine (same_any f (turned f 7 c) _).mono ?_
    rw [s1]
    rintro e w3 ⟨rfl, hb3⟩
    clear c0 c1 c2 c3 c4 c5 c6 c7 d0 d1 d2 d3 d4 d5 d6 d7
    obtain ⟨c0, c1, c2, c3, c4, c5, c6, c7⟩ := walk_load_b8 (HA.out.below hb3 HA.out.lt)
    obtain ⟨d0, d1, d2, d3, d4, d5, d6, d7⟩ := walk_load_b8 (HC.out.below hb3 HC.out.lt)
    have hbb3 := hbb.trans (hb3.mono hbb.size)
    clear HA HC hbb hb3
    go_wp2_with fail
    refine (same_any (turned f 7 c) f _).mono ?_
    rw [sameB_comm, s1]
    rintro e w4 ⟨rfl, hb4⟩
    have hbb4 := hbb3.trans (hb4.mono hbb3.size)
    clear c0 c1 c2 c3 c4 c5 c6 c7 d0 d1 d2 d3 d4 d5 d6 d7 hbb3 hb4
    go_wp2_with fail
    go_ret
    exact ⟨rfl, hbb4⟩
theorem walkTagSames (f : Nat → UInt8) (p c : Int) (w : World) (hp : (Lit.int .i64 p).wf = true) (hc : (Lit.int .u8 c).wf = true) :
    Calls Try.prog 5 #[.agg (byteCells f), .int .i64 p, .int .u8 c] w fun e w' => e = .returned (.bool true) ∧ Below w.heap.size w w' := by
  have h1 := bounds_u8 hc
  have h0 : 0 ≤ IntKind.u64.wrap p := wrap_u64_nonneg p
  have h2 : (IntKind.u64.wrap p).tmod 8 = (((IntKind.u64.wrap p) % 8).toNat : Int) := by rw [Int.tmod_eq_emod_of_nonneg h0]; omega
  have h3 := tagSamesAt ((IntKind.u64.wrap p) % 8).toNat f p (UInt8.ofNat c.toNat) w (by omega) h2
  have h4 : ((UInt8.ofNat c.toNat).toNat : Int) = c := by rw [UInt8.toNat_ofNat']; omega
  rwa [h4] at h3
end Go.Proofs.Ytbmccgiffplpjaa
