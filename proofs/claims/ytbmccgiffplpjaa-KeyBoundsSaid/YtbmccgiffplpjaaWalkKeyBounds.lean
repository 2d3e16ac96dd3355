/- The walk of KeyBounds. -/
import Derived.Test.YtbmccgiffplpjaaWalkKeyRounds
import Derived.Test.YtbmccgiffplpjaaMake
import Derived.Test.YtbmccgiffplpjaaByteRow
namespace Go.Proofs.Ytbmccgiffplpjaa
open Go.RowKit
set_option linter.unusedVariables false
namespace KB
def one8 : Nat → UInt8 := fun i => if i = 0 then 1 else 0
def KE : PL.K8 := keyOf [] one8 1
def tab : Nat → Int
  | 0 => -1
  | 1 => 0
  | 2 => 1
  | 3 => 2
  | 4 => 1000
  | _ => 1001
theorem ke (w : World) : Calls Try.prog 19 #[.string ⟨#[]⟩, .agg (byteCells one8), .int .i64 1] w fun e w' => e = .returned (.tuple #[.agg (keyCells KE), .int .i64 0]) ∧ Below w.heap.size w w' :=
  keyOf_yes ⟨#[]⟩ one8 1 w (by decide) (by decide) (by decide)
theorem tab_cell (w : World) (t : TypeId) (j : Nat) (h : j < 6) : (w.alloc (Obj.cells #[.int .i64 (-1), .int .i64 0, .int .i64 1, .int .i64 2, .int .i64 1000, .int .i64 1001] t)).cell? ⟨w.heap.size, j, none⟩ = some (.int .i64 (tab j)) := by
  rw [(Blk.new w t _).cell]
  match j, h with
  | 0, _ => rfl
  | 1, _ => rfl
  | 2, _ => rfl
  | 3, _ => rfl
  | 4, _ => rfl
  | 5, _ => rfl
end KB
set_option maxRecDepth 100000 in
set_option maxHeartbeats 4000000 in
theorem keyBoundsAt (n q r : Int) (k j : Nat) (w : World) (KX : PL.K8) (code : Int) (hk0 : 98 ≤ k) (hk1 : k ≤ 102) (hk : wrap64 (98 + wrap64 ((IntKind.u64.wrap n).tmod 5)) = (k : Int)) (hj : j < 6) (hx : (IntKind.u64.wrap q).tmod 6 = (j : Int))
    (ct : (w.alloc (Obj.cells #[.int .i64 (-1), .int .i64 0, .int .i64 1, .int .i64 2, .int .i64 1000, .int .i64 1001] 3)).cell? ⟨w.heap.size, j, none⟩ = some (.int .i64 r))
    (hcall : Hid (∀ w, Calls Try.prog 19 #[.string ⟨(List.replicate k 0).toArray⟩, .agg (byteCells T16.zero8), .int .i64 r] w fun e w' => e = .returned (.tuple #[.agg (keyCells KX), .int .i64 code]) ∧ Below w.heap.size w w'))
    (hcase : ((k : Int) ≤ 100 ∧ 1 ≤ r ∧ r ≤ 1000 ∧ code = 0) ∨ (code = 1 ∧ KX = K0 ∧ (¬ (k : Int) ≤ 100 ∨ (k : Int) ≤ 100 ∧ ¬ 1 ≤ r ∨ (k : Int) ≤ 100 ∧ 1 ≤ r ∧ ¬ r ≤ 1000))) :
    Calls Try.prog 11 #[.int .i64 n, .int .i64 q] w fun e w' => e = .returned (.bool true) ∧ Below w.heap.size w w' := by
  have j0 : (0 : Int) ≤ (j : Int) := by omega
  have j1 : (j : Int) < 6 := by omega
  have hmk : ∀ w : World, (Instr.makeSlice 24 (.int .i64 (k : Int)) (.int .i64 (k : Int))).run Try.prog w = .ok (.slice (some ⟨w.heap.size, 0, none⟩) k k) (w.alloc (.cells (zeroRow k) 5)) := fun w => run_make_bytes row_u8 w k k .i64 .i64 (Nat.le_refl _) (by omega)
  have hcv : (convert 24 9 (.slice (some ⟨w.heap.size + 1, 0, none⟩) k k)).run Try.prog ((w.alloc (Obj.cells #[.int .i64 (-1), .int .i64 0, .int .i64 1, .int .i64 2, .int .i64 1000, .int .i64 1001] 3)).alloc (.cells (zeroRow k) 5)) = .ok (.string ⟨(List.replicate k 0).toArray⟩) ((w.alloc (Obj.cells #[.int .i64 (-1), .int .i64 0, .int .i64 1, .int .i64 2, .int .i64 1000, .int .i64 1001] 3)).alloc (.cells (zeroRow k) 5)) := by
    have := made_bytes (w.alloc (Obj.cells #[.int .i64 (-1), .int .i64 0, .int .i64 1, .int .i64 2, .int .i64 1000, .int .i64 1001] 3)) 5 k k (Nat.le_refl _)
    rw [World.size_alloc] at this
    exact conv_bytes conv_u8 k this
  have hW0 : Below w.heap.size w ((w.alloc (Obj.cells #[.int .i64 (-1), .int .i64 0, .int .i64 1, .int .i64 2, .int .i64 1000, .int .i64 1001] 3)).alloc (.cells (zeroRow k) 5)) := ((Below.refl _ _).alloc (Nat.le_refl _) _).alloc (by simp) _
  generalize (⟨(List.replicate k 0).toArray⟩ : ByteArray) = z at *
  rcases hcase with ⟨h1, h2, h3, rfl⟩ | ⟨rfl, hX, h1 | ⟨h1, h2⟩ | ⟨h1, h2, h3⟩⟩
  all_goals try (have HX0 := Lib.hid hX; clear hX)
  all_goals try (have h3d : decide (r ≤ 1000) = false := decide_eq_false h3)
  all_goals
    go_enter Try.func11, Try.ntmps11
    go_wp2_with fail
    refine (hcall.out _).mono ?_
    rintro e w1 ⟨rfl, hb1⟩
    have hV1 : Below w.heap.size w w1 := hW0.trans (hb1.mono hW0.size)
    clear hmk hcv hW0 hb1 hx ct hcall
    have HX1 := Lib.hid (Blk.new w1 28 (keyCells KX))
    have hW1 := hV1.alloc hV1.size (Obj.cells (keyCells KX) 28)
    clear hV1
    go_wp2_with fail
    refine (KB.ke _).mono ?_
    rintro e w2 ⟨rfl, hb2⟩
    have hb2' : Below (w1.alloc (Obj.cells (keyCells KX) 28)).heap.size (w1.alloc (Obj.cells (keyCells KX) 28)) w2 := hb2
    have hV2 : Below w.heap.size w w2 := hW1.trans (hb2'.mono hW1.size)
    have HX2 := Lib.hid ((HX1.out.below hb2' HX1.out.lt).alloc (Obj.cells (keyCells KB.KE) 28))
    have HB2 := Lib.hid (Blk.new w2 28 (keyCells KB.KE))
    have hW2 := hV2.alloc hV2.size (Obj.cells (keyCells KB.KE) 28)
    clear HX1 hW1 hb2 hb2' hV2
    go_wp2_with fail
    refine (KB.ke _).mono ?_
    rintro e w3 ⟨rfl, hb3⟩
    have hb3' : Below (w2.alloc (Obj.cells (keyCells KB.KE) 28)).heap.size (w2.alloc (Obj.cells (keyCells KB.KE) 28)) w3 := hb3
    have hV3 : Below w.heap.size w w3 := hW2.trans (hb3'.mono hW2.size)
    have HX3 := Lib.hid ((HX2.out.below hb3' HX2.out.lt).alloc (Obj.cells (keyCells KB.KE) 28))
    have HB3 := Lib.hid ((HB2.out.below hb3' HB2.out.lt).alloc (Obj.cells (keyCells KB.KE) 28))
    have HC3 := Lib.hid (Blk.new w3 28 (keyCells KB.KE))
    have hW3 := hV3.alloc hV3.size (Obj.cells (keyCells KB.KE) 28)
    clear HX2 HB2 hW2 hb3 hb3' hV3
    go_wp2_with fail
    refine (told16 _).mono ?_
    rintro e w4 ⟨rfl, hb4⟩
    have hb4' : Below (w3.alloc (Obj.cells (keyCells KB.KE) 28)).heap.size (w3.alloc (Obj.cells (keyCells KB.KE) 28)) w4 := hb4
    have hV4 : Below w.heap.size w w4 := hW3.trans (hb4'.mono hW3.size)
    have HX4 := Lib.hid (HX3.out.below hb4' HX3.out.lt)
    have HB4 := Lib.hid (HB3.out.below hb4' HB3.out.lt)
    have HC4 := Lib.hid (HC3.out.below hb4' HC3.out.lt)
    clear HX3 HB3 HC3 hW3 hb4 hb4'
    obtain ⟨a0, a1, a2, a3, a4, a5, a6, a7⟩ := T16.load_key HX4.out
    try (
      have hX0 := HX0.out
      clear a0 a1 a2 a3 a4 a5 a6 a7
      obtain ⟨a0, a1, a2, a3, a4, a5, a6, a7⟩ : w4.cell? ⟨w1.heap.size, 0, none⟩ = some (.int .u32 0) ∧ w4.cell? ⟨w1.heap.size, 1, none⟩ = some (.int .u32 0) ∧ w4.cell? ⟨w1.heap.size, 2, none⟩ = some (.int .u32 0) ∧ w4.cell? ⟨w1.heap.size, 3, none⟩ = some (.int .u32 0) ∧ w4.cell? ⟨w1.heap.size, 4, none⟩ = some (.int .u32 0) ∧ w4.cell? ⟨w1.heap.size, 5, none⟩ = some (.int .u32 0) ∧ w4.cell? ⟨w1.heap.size, 6, none⟩ = some (.int .u32 0) ∧ w4.cell? ⟨w1.heap.size, 7, none⟩ = some (.int .u32 0) := by
        have h := HX4.out
        rw [hX0] at h
        exact T16.load_key h
      clear hX0)
    obtain ⟨c0, c1, c2, c3, c4, c5, c6, c7⟩ := T16.load_key HB4.out
    obtain ⟨d0, d1, d2, d3, d4, d5, d6, d7⟩ := T16.load_key HC4.out
    have heq : ∀ v : World, (Op.equalIn 10000 28 (.agg (keyCells KB.KE)) (.agg (keyCells KB.KE))).run Try.prog v = .ok true v := by
      intro v
      have := eq_keys KB.KE KB.KE v
      rw [(sameK_eq KB.KE KB.KE).2 rfl] at this
      exact this
    generalize KB.KE = KE at *
    go_wp2_with fail
    go_ret
    exact ⟨rfl, by first | exact hV4 | exact hV4.drew⟩
theorem walkKeyBounds (n q : Int) (w : World) (hn : (Lit.int .i64 n).wf = true) (hq : (Lit.int .i64 q).wf = true) :
    Calls Try.prog 11 #[.int .i64 n, .int .i64 q] w fun e w' => e = .returned (.bool true) ∧ Below w.heap.size w w' := by
  have h0 : 0 ≤ IntKind.u64.wrap q := by rw [IntKind.wrap_u64]; omega
  have h2 : (IntKind.u64.wrap q).tmod 6 = (((IntKind.u64.wrap q) % 6).toNat : Int) := by rw [Int.tmod_eq_emod_of_nonneg h0]; omega
  have h3 : ((IntKind.u64.wrap q) % 6).toNat < 6 := by omega
  generalize ((IntKind.u64.wrap q) % 6).toNat = j at *
  obtain ⟨k, k0, k1, hk⟩ : ∃ k : Nat, 98 ≤ k ∧ k ≤ 102 ∧ wrap64 (98 + wrap64 ((IntKind.u64.wrap n).tmod 5)) = (k : Int) := by
    have h0 : 0 ≤ IntKind.u64.wrap n := by rw [IntKind.wrap_u64]; omega
    rw [Int.tmod_eq_emod_of_nonneg h0]
    generalize IntKind.u64.wrap n = m at *
    refine ⟨(98 + m % 5).toNat, by omega, by omega, ?_⟩
    rw [IntWalk.wrap64_in (m % 5) (by omega), IntWalk.wrap64_in (98 + m % 5) (by omega)]
    omega
  have ct := KB.tab_cell w 3 j h3
  generalize KB.tab j = r at *
  have hz : (⟨(List.replicate k (0 : UInt8)).toArray⟩ : ByteArray).size = k := by
    show (List.replicate k (0 : UInt8)).toArray.size = k
    simp
  by_cases hc : (k : Int) ≤ 100 ∧ 1 ≤ r ∧ r ≤ 1000
  · obtain ⟨h4, h5, h6⟩ := hc
    have hr : r = ((r.toNat : Nat) : Int) := by omega
    refine keyBoundsAt n q r k j w (keyOf (List.replicate k 0) T16.zero8 r.toNat) 0 k0 k1 hk h3 h2 ct (fun w => ?_) (.inl ⟨h4, h5, h6, rfl⟩)
    have := keyOf_yes ⟨(List.replicate k 0).toArray⟩ T16.zero8 r.toNat w (by omega) (by omega) (by omega)
    rw [← hr] at this
    exact this
  · refine keyBoundsAt n q r k j w K0 1 k0 k1 hk h3 h2 ct (fun w => ?_) (.inr ⟨rfl, rfl, by omega⟩)
    exact keyOf_no ⟨(List.replicate k 0).toArray⟩ T16.zero8 r w (by omega) (by omega)
end Go.Proofs.Ytbmccgiffplpjaa
