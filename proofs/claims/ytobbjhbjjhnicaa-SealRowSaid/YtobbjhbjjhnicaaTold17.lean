/- The walk of steamerlaw17.told: it returns true. -/
import Derived.Test.YtobbjhbjjhnicaaSealAll
import Derived.Lib.SlBytesConst
namespace Go.Proofs.Ytobbjhbjjhnicaa
open Go.RowKit
set_option linter.unusedVariables false
theorem blk_bytes (w : World) (t : TypeId) (fr : Nat × Nat) (l : List UInt8) (cs : Array Value) (hcs : cs = (l.map u8v).toArray) (n : Nat) (hn : l.length = n) : Bytes (w.alloc (.cells cs t fr)) (w.heap.size + 1) (some ⟨w.heap.size, 0, none⟩) n l := by
  refine ⟨hn, fun _ => ⟨w.heap.size, 0, rfl, Nat.lt_succ_self _, fun i c hi => ?_⟩⟩
  rw [Nat.zero_add, World.cell?_alloc_mark, hcs]
  simp [hi]
theorem conv_const (w : World) (C : Array Value) (n c : Nat) : (convert 30 30 (.slice (some ⟨w.heap.size, 0, none⟩) n c)).run Try.prog (w.alloc (.cells C 5)) = .ok (.slice (some ⟨w.heap.size, 0, none⟩) n c) (w.alloc (.cells C 5 (C.size, C.size + 1))) := Lib.run_convert_bytes_const w 30 5 C n c Try.underlying30 Try.underlying5
set_option maxRecDepth 100000 in
set_option maxHeartbeats 4000000 in
theorem sealGet_out (k : PL.K8) (A : Option Addr) (n c : Nat) (t place : Int) (w : World) (ht : t < 0 ∨ (n : Int) < t) :
    Calls Try.prog 30 #[.agg (keyCells k), .slice A n c, .int .i64 t, .int .i64 place] w fun e w' => e = .returned (.tuple #[.agg (segCells zeroV), .int .i64 t, .int .i64 1]) ∧ Below w.heap.size w w' := by
  have hW1 : Below w.heap.size w ((w.alloc (Obj.cells (keyCells k) 31)).alloc (Obj.cells #[.int .i64 0, .int .i64 0, .bool false, .slice none 0 0] 50)) := ((Below.refl _ _).alloc (Nat.le_refl _) _).alloc (by simp) _
  have HS1 : Hid (Blk ((w.alloc (Obj.cells (keyCells k) 31)).alloc (Obj.cells #[.int .i64 0, .int .i64 0, .bool false, .slice none 0 0] 50)) (w.heap.size + 1) 50 #[.int .i64 0, .int .i64 0, .bool false, .slice none 0 0]) := by
    have := Blk.new (w.alloc (Obj.cells (keyCells k) 31)) 50 (segCells zeroV)
    rwa [World.size_alloc] at this
  by_cases h1 : t < 0
  · clear ht
    go_enter Try.func30, Try.ntmps30
    go_wp2
    exact bodyPost_ret (seg_three rfl _ _ (w.heap.size + 1) 50 _ (0, 0) _ rfl HS1.out Try.underlying50 rfl (by kernel_rfl)) rfl ⟨rfl, hW1⟩
  · have h2 : (n : Int) < t := by omega
    clear ht
    go_enter Try.func30, Try.ntmps30
    go_wp2
    exact bodyPost_ret (seg_three rfl _ _ (w.heap.size + 1) 50 _ (0, 0) _ rfl HS1.out Try.underlying50 rfl (by kernel_rfl)) rfl ⟨rfl, hW1⟩
namespace T17
def K9 : PL.K8 := ⟨9, 0, 0, 0, 0, 0, 0, 0⟩
def K08 : PL.K8 := ⟨8, 0, 0, 0, 0, 0, 0, 0⟩
def S : PS.Seg := ⟨1, 0, false, [97, 98]⟩
def B13 : List UInt8 := [1, 0, 2, 229, 120, 34, 229, 60, 46, 252, 12, 91, 28]
theorem put_s : PS.put K9 ⟨(1 : Nat), (0 : Nat), false, [97, 98]⟩ = B13 := by
  have e1 : PN.enc 0 = [0] := by rw [PN.enc_small (by decide)]; rfl
  have e2 : PN.enc 2 = [2] := by rw [PN.enc_small (by decide)]; rfl
  have t0 : PL.xorTo (PL.stream K9 (placeWord 0) 2) [97, 98] = [229, 120] := by decide +kernel
  have t1 : PS.tag K9 0 [1, 0, 2, 229, 120] = [34, 229, 60, 46, 252, 12, 91, 28] := by decide +kernel
  have h : PS.head K9 ⟨(1 : Nat), (0 : Nat), false, [97, 98]⟩ = [1, 0, 2, 229, 120] := by
    show UInt8.ofNat 1 :: (PN.enc 0 ++ (PN.enc 2 ++ PL.xorTo (PL.stream K9 (placeWord 0) 2) [97, 98])) = _
    rw [e1, e2, t0]
    rfl
  unfold PS.put
  rw [h]
  show _ ++ PS.tag K9 0 _ = _
  rw [t1]
  rfl
theorem g1 : PS.get K9 B13 0 0 = (S, 13, 0) := by
  have a : (PS.get K9 B13 0 0).2 = (13, 0) := by decide +kernel
  have b : (PS.get K9 B13 0 0).1.body = [97, 98] := by decide +kernel
  have c : (PS.get K9 B13 0 0).1.kind = 1 := by decide +kernel
  have d : (PS.get K9 B13 0 0).1.place = 0 := by decide +kernel
  have e : (PS.get K9 B13 0 0).1.last = false := by decide +kernel
  generalize PS.get K9 B13 0 0 = r at *
  obtain ⟨⟨k, pl, la, bd⟩, rest⟩ := r
  simp only at a b c d e
  subst a b c d e
  rfl
theorem g2 : (PS.get K9 B13 0 1).2 = (0, 2) := by decide +kernel
theorem g3 : (PS.get K08 B13 0 0).2 = (0, 4) := by decide +kernel
theorem g4 : (PS.get K9 (B13.take 12) 0 0).2 = (0, 5) := by decide +kernel
theorem g5 : (PS.all K9 B13 0).2 = (13, 5) := by decide +kernel
end T17
theorem wp_store_seg {o : Oper} {a : Act} {w : World} {K : Act → World → Prop} {Q : Exit → Act → World → Prop} (x y : Operand) (ho : o.op = .store 50 x y)
    (g : Nat) (s : SegV) (cs : Array Value) (hx : a.eval x = .pointer (some ⟨g, 0, none⟩)) (hy : a.eval y = .agg (segCells s)) (hB : Blk w g 50 cs) (hc : cs.size = 4)
    (h : ∀ w', w.grownBy w' (some g) → K (a.put o.dst undef) w') : o.wp Try.prog a w K Q :=
  wp_store_mid 50 x y ho g 0 (segCells s) hx hy (by have := hB.there_; rw [hc] at this; exact this) (by kernel_rfl) (seg_one _) (h _ (grown_setCells g _ 0 w w (World.grownBy.refl w _)))
/-- A call that leaves what lies below as it was, and gives a segment. -/
theorem got_at {w : World} {r : PS.Seg × Nat × Nat} {x y : Nat} (h : r.2 = (x, y)) {e : Ending} {w' : World} (hg : Got w r e w') :
    ∃ v : SegV, e = .returned (.tuple #[.agg (segCells v), .int .i64 (x : Int), .int .i64 (y : Int)]) ∧ v.seg = r.1 ∧ Bytes w' w'.heap.size v.A v.n v.seg.body ∧ Below w.heap.size w w' := by
  obtain ⟨v, h1, h2, h3, _, _, _, h4⟩ := hg
  refine ⟨v, ?_, h2, h3, h4⟩
  rw [h1, h]
set_option maxRecDepth 100000 in
set_option maxHeartbeats 4000000 in
theorem told17 (w : World) : Calls Try.prog 23 #[] w fun e w' => e = .returned (.bool true) ∧ Below w.heap.size w w' := by
  go_enter Try.func23, Try.ntmps23
  have HK0 : Hid (Blk (w.alloc (Obj.cells #[.int .u32 9, .int .u32 0, .int .u32 0, .int .u32 0, .int .u32 0, .int .u32 0, .int .u32 0, .int .u32 0] 31)) w.heap.size 31 (keyCells T17.K9)) := Blk.new w 31 (keyCells T17.K9)
  have hs0 : (w.alloc (Obj.cells #[.int .u32 9, .int .u32 0, .int .u32 0, .int .u32 0, .int .u32 0, .int .u32 0, .int .u32 0, .int .u32 0] 31)).heap.size = w.heap.size + 1 := by rw [World.size_alloc]
  have hcs : (convert 30 30 (.slice (some ⟨w.heap.size + 1, 0, none⟩) 2 2)).run Try.prog ((w.alloc (Obj.cells #[.int .u32 9, .int .u32 0, .int .u32 0, .int .u32 0, .int .u32 0, .int .u32 0, .int .u32 0, .int .u32 0] 31)).alloc (.cells #[.int .u8 97, .int .u8 98] 5)) = .ok (.slice (some ⟨w.heap.size + 1, 0, none⟩) 2 2) ((w.alloc (Obj.cells #[.int .u32 9, .int .u32 0, .int .u32 0, .int .u32 0, .int .u32 0, .int .u32 0, .int .u32 0, .int .u32 0] 31)).alloc (.cells #[.int .u8 97, .int .u8 98] 5 (2, 3))) := by
    have := conv_const (w.alloc (Obj.cells #[.int .u32 9, .int .u32 0, .int .u32 0, .int .u32 0, .int .u32 0, .int .u32 0, .int .u32 0, .int .u32 0] 31)) #[.int .u8 97, .int .u8 98] 2 2
    rwa [hs0] at this
  have hW0 : Below w.heap.size w ((w.alloc (Obj.cells #[.int .u32 9, .int .u32 0, .int .u32 0, .int .u32 0, .int .u32 0, .int .u32 0, .int .u32 0, .int .u32 0] 31)).alloc (.cells #[.int .u8 97, .int .u8 98] 5 (2, 3))) := ((Below.refl _ _).alloc (Nat.le_refl _) _).alloc (by simp) _
  have HB0 : Hid (Bytes ((w.alloc (Obj.cells #[.int .u32 9, .int .u32 0, .int .u32 0, .int .u32 0, .int .u32 0, .int .u32 0, .int .u32 0, .int .u32 0] 31)).alloc (.cells #[.int .u8 97, .int .u8 98] 5 (2, 3))) (w.heap.size + 2) (some ⟨w.heap.size + 1, 0, none⟩) 2 [97, 98]) := by
    have := blk_bytes (w.alloc (Obj.cells #[.int .u32 9, .int .u32 0, .int .u32 0, .int .u32 0, .int .u32 0, .int .u32 0, .int .u32 0, .int .u32 0] 31)) 5 (2, 3) [97, 98] #[.int .u8 97, .int .u8 98] rfl 2 rfl
    rwa [hs0] at this
  have HK0' := Lib.hid (HK0.out.alloc (.cells #[.int .u8 97, .int .u8 98] 5 (2, 3)))
  go_wp2_with fail
  clear hcs
  have hz0 : ((w.alloc (Obj.cells #[.int .u32 9, .int .u32 0, .int .u32 0, .int .u32 0, .int .u32 0, .int .u32 0, .int .u32 0, .int .u32 0] 31)).alloc (.cells #[.int .u8 97, .int .u8 98] 5 (2, 3))).heap.size = w.heap.size + 2 := by rw [World.size_alloc, hs0]
  generalize (w.alloc (Obj.cells #[.int .u32 9, .int .u32 0, .int .u32 0, .int .u32 0, .int .u32 0, .int .u32 0, .int .u32 0, .int .u32 0] 31)).alloc (.cells #[.int .u8 97, .int .u8 98] 5 (2, 3)) = w0 at *
  clear HK0 hs0
  refine (sealPut_may T17.K9 1 0 2 2 false [97, 98] (some ⟨w.heap.size + 1, 0, none⟩) w0 (by rw [hz0]; exact HB0.out) (by decide +kernel)).mono ?_
  rintro e w1 ⟨v, rfl, hO, hb1⟩
  simp only [T17.put_s] at hO
  obtain ⟨A, n, c, rfl, hB, hc, hz⟩ := hO.form_n
  have hn : n = 13 := hB.len.symm
  subst hn
  have HB1 := Lib.hid hB
  have HK1 := Lib.hid (HK0'.out.below hb1 (by omega))
  have hW1 := hW0.trans (hb1.mono (by omega))
  have hs1 := hb1.size
  clear HB0 HK0' hW0 hO hB hb1 hz0
  obtain ⟨A_, hA_⟩ : ∃ a, a = A := ⟨_, rfl⟩
  clear hA_ A_
  obtain ⟨k0, k1, k2, k3, k4, k5, k6, k7⟩ := key_loads HK1.out
  have hBB : w1.heap.size ≤ w1.heap.size := Nat.le_refl _
  obtain ⟨B, hBd⟩ : ∃ B, B = w1.heap.size := ⟨_, rfl⟩
  rw [← hBd] at HB1
  have hB1 : B ≤ w1.heap.size := by omega
  clear hBd hBB
  go_wp2_with fail
  refine (sealGet_any T17.K9 A 13 c B 0 0 T17.B13 w1 HB1.out hB1 (by omega) hc (by omega)).mono ?_
  rintro e v2 hgot
  obtain ⟨x2, rfl, hx2, hBx2, hb2⟩ := got_at (show (PS.get T17.K9 T17.B13 0 0).2 = (13, 0) by rw [T17.g1]) hgot
  clear hgot k0 k1 k2 k3 k4 k5 k6 k7
  have hR0 : Blk (v2.alloc (Obj.cells #[.int .i64 0, .int .i64 0, .bool false, .slice none 0 0] 50)) v2.heap.size 50 #[.int .i64 0, .int .i64 0, .bool false, .slice none 0 0] := Blk.new v2 _ _
  have HKv := Lib.hid (HK1.out.below hb2 HK1.out.lt)
  have HBv := Lib.hid (HB1.out.below (hb2.mono hB1))
  have hBv : B ≤ v2.heap.size := by have := hb2.size; omega
  have hWv := hW1.trans (hb2.mono hW1.size)
  have hsv : w.heap.size < v2.heap.size := HKv.out.lt
  clear HK1 HB1 hB1 hW1 hb2
  go_wp2_with (refine wpList_store_blk rfl 50 (.tmp 4) (.tmp 35) rfl v2.heap.size (segCells x2) rfl rfl 50 _ hR0 rfl (by kernel_rfl) (seg_one _) ?_; intro w2 hBk2 hg hs; have hb : Below v2.heap.size v2 w2 := ((Below.refl _ _).alloc (Nat.le_refl _) _).grown hg (Nat.le_of_lt hR0.lt) (fun g hg => by (cases hg; omega)); have HK2 := Lib.hid (HKv.out.below hb HKv.out.lt); have HB2 := Lib.hid (HBv.out.below (hb.mono hBv)); have hB2 : B ≤ w2.heap.size := (by have := hb.size; omega); have hW2 := hWv.trans (hb.mono hWv.size); have HX2 := Lib.hid hBk2; have HY2 := Lib.hid (hBx2.below hb); have hY2 : v2.heap.size ≤ w2.heap.size := hb.size; have HBk2 := Lib.hid hBk2; obtain ⟨k0, k1, k2, k3, k4, k5, k6, k7⟩ := key_loads HK2.out; clear hBk2 hg hs hb hR0)
  rw [T17.g1] at hx2
  have hx2' : x2.seg = T17.S := hx2
  obtain ⟨X, hX⟩ : ∃ X, X = v2.heap.size := ⟨_, rfl⟩
  obtain ⟨Y, hY⟩ : ∃ Y, Y = v2.heap.size := ⟨_, rfl⟩
  rw [← hY] at HY2 hY2
  rw [← hX] at HX2
  rw [← hX]
  clear hX hY hx2 hBx2
  go_wp2_with fail
  refine (sealGet_any T17.K9 A 13 c B 0 1 T17.B13 w2 HB2.out hB2 (by omega) hc (by omega)).mono ?_
  rintro e v3 hgot
  obtain ⟨x3, rfl, hx3, hBx3, hb3⟩ := got_at T17.g2 hgot
  clear hgot k0 k1 k2 k3 k4 k5 k6 k7
  have hR0 : Blk (v3.alloc (Obj.cells #[.int .i64 0, .int .i64 0, .bool false, .slice none 0 0] 50)) v3.heap.size 50 #[.int .i64 0, .int .i64 0, .bool false, .slice none 0 0] := Blk.new v3 _ _
  have HKv := Lib.hid (HK2.out.below hb3 HK2.out.lt)
  have HBv := Lib.hid (HB2.out.below (hb3.mono hB2))
  have hBv : B ≤ v3.heap.size := by have := hb3.size; omega
  have hWv := hW2.trans (hb3.mono hW2.size)
  have hsv : w.heap.size < v3.heap.size := HKv.out.lt
  have HXv := Lib.hid (HX2.out.below hb3 HX2.out.lt)
  have HYv := Lib.hid (HY2.out.below (hb3.mono hY2))
  have hYv : Y ≤ v3.heap.size := by have := hb3.size; omega
  clear HK2 HB2 hB2 hW2 hb3
  go_wp2_with (refine wpList_store_blk rfl 50 (.tmp 7) (.tmp 42) rfl v3.heap.size (segCells x3) rfl rfl 50 _ hR0 rfl (by kernel_rfl) (seg_one _) ?_; intro w3 hBk3 hg hs; have hb : Below v3.heap.size v3 w3 := ((Below.refl _ _).alloc (Nat.le_refl _) _).grown hg (Nat.le_of_lt hR0.lt) (fun g hg => by (cases hg; omega)); have HK3 := Lib.hid (HKv.out.below hb HKv.out.lt); have HB3 := Lib.hid (HBv.out.below (hb.mono hBv)); have hB3 : B ≤ w3.heap.size := (by have := hb.size; omega); have hW3 := hWv.trans (hb.mono hWv.size); have HX3 := Lib.hid (HXv.out.below hb HXv.out.lt); have HY3 := Lib.hid (HYv.out.below (hb.mono hYv)); have hY3 : Y ≤ w3.heap.size := (by have := hb.size; omega); have HBk3 := Lib.hid hBk3; obtain ⟨k0, k1, k2, k3, k4, k5, k6, k7⟩ := key_loads HK3.out; clear hBk3 hg hs hb hR0)
  clear hx3 hBx3
  go_wp2_with fail
  refine (sealGet_any T17.K08 A 13 c B 0 0 T17.B13 w3 HB3.out hB3 (by omega) hc (by omega)).mono ?_
  rintro e v4 hgot
  obtain ⟨x4, rfl, hx4, hBx4, hb4⟩ := got_at T17.g3 hgot
  clear hgot k0 k1 k2 k3 k4 k5 k6 k7
  have hR0 : Blk (v4.alloc (Obj.cells #[.int .i64 0, .int .i64 0, .bool false, .slice none 0 0] 50)) v4.heap.size 50 #[.int .i64 0, .int .i64 0, .bool false, .slice none 0 0] := Blk.new v4 _ _
  have HKv := Lib.hid (HK3.out.below hb4 HK3.out.lt)
  have HBv := Lib.hid (HB3.out.below (hb4.mono hB3))
  have hBv : B ≤ v4.heap.size := by have := hb4.size; omega
  have hWv := hW3.trans (hb4.mono hW3.size)
  have hsv : w.heap.size < v4.heap.size := HKv.out.lt
  have HXv := Lib.hid (HX3.out.below hb4 HX3.out.lt)
  have HYv := Lib.hid (HY3.out.below (hb4.mono hY3))
  have hYv : Y ≤ v4.heap.size := by have := hb4.size; omega
  clear HK3 HB3 hB3 hW3 hb4
  go_wp2_with (refine wpList_store_blk rfl 50 (.tmp 10) (.tmp 49) rfl v4.heap.size (segCells x4) rfl rfl 50 _ hR0 rfl (by kernel_rfl) (seg_one _) ?_; intro w4 hBk4 hg hs; have hb : Below v4.heap.size v4 w4 := ((Below.refl _ _).alloc (Nat.le_refl _) _).grown hg (Nat.le_of_lt hR0.lt) (fun g hg => by (cases hg; omega)); have HK4 := Lib.hid (HKv.out.below hb HKv.out.lt); have HB4 := Lib.hid (HBv.out.below (hb.mono hBv)); have hB4 : B ≤ w4.heap.size := (by have := hb.size; omega); have hW4 := hWv.trans (hb.mono hWv.size); have HX4 := Lib.hid (HXv.out.below hb HXv.out.lt); have HY4 := Lib.hid (HYv.out.below (hb.mono hYv)); have hY4 : Y ≤ w4.heap.size := (by have := hb.size; omega); have HBk4 := Lib.hid hBk4; obtain ⟨k0, k1, k2, k3, k4, k5, k6, k7⟩ := key_loads HK4.out; clear hBk4 hg hs hb hR0)
  clear hx4 hBx4
  rename_i K hK
  have fin : ∀ (a' : Act) (w' : World), (∃ u : Nat → Value, a' = ⟨#[u 0, .pointer (some ⟨w.heap.size, 0, none⟩), .slice A 13 c, .int .i64 0, .pointer (some ⟨X, 0, none⟩), .int .i64 13, .int .i64 0, u 7, u 8, .int .i64 2, u 10, u 11, .int .i64 4, u 13, u 14, .int .i64 5, u 16, u 17, u 18, u 19, u 20, u 21, u 22, u 23, u 24, u 25, u 26, u 27, u 28, u 29, u 30, u 31, u 32, u 33, u 34, u 35, u 36, u 37, u 38, u 39, u 40, u 41, u 42, u 43, u 44, u 45, u 46, u 47, u 48, u 49, u 50, u 51, u 52, u 53, u 54, u 55, u 56, u 57, u 58, u 59, u 60, u 61, u 62, u 63, u 64, u 65, u 66, u 67, u 68, u 69, u 70, u 71, u 72, u 73, u 74, u 75, u 76, u 77, u 78, u 79, u 80, u 81, u 82, u 83, u 84, u 85, u 86, u 87, u 88, u 89, u 90, u 91, u 92, u 93, u 94, u 95, u 96, u 97, u 98, u 99, u 100, u 101, u 102, u 103, u 104, u 105, u 106, u 107, u 108, u 109, u 110, u 111, u 112, u 113, u 114, u 115, u 116, u 117, u 118, u 119, u 120, u 121, u 122, u 123, u 124, u 125, u 126, u 127, u 128, u 129, u 130], []⟩) → Below w4.heap.size w4 w' → K a' w' := by
    rintro a' w5 ⟨u, rfl⟩ hb
    refine hK _ _ ?_
    clear hK
    have HK5 := Lib.hid (HK4.out.below hb HK4.out.lt)
    have HB5 := Lib.hid (HB4.out.below (hb.mono hB4))
    have hB5 : B ≤ w5.heap.size := by have := hb.size; omega
    have HX5 := Lib.hid (HX4.out.below hb HX4.out.lt)
    have HY5 := Lib.hid (HY4.out.below (hb.mono hY4))
    have hY5 : Y ≤ w5.heap.size := by have := hb.size; omega
    have hW5 := hW4.trans (hb.mono hW4.size)
    clear HK4 HB4 hB4 HX4 HY4 hY4 hW4 hb k0 k1 k2 k3 k4 k5 k6 k7
    obtain ⟨k0, k1, k2, k3, k4, k5, k6, k7⟩ := key_loads HK5.out
    go_wp2_with fail
    refine (sealAll_any T17.K9 A 13 c B 0 T17.B13 w5 HB5.out hB5 (by omega) hc (by omega)).mono ?_
    rintro e w6 ⟨A6, n6, c6, xs6, rfl, _, _, _, _, hb6⟩
    rw [T17.g5]
    have HK6 := Lib.hid (HK5.out.below hb6 HK5.out.lt)
    have HX6 := Lib.hid (HX5.out.below hb6 HX5.out.lt)
    have HY6 := Lib.hid (HY5.out.below (hb6.mono hY5))
    have hY6 : Y ≤ w6.heap.size := by have := hb6.size; omega
    have hW6 := hW5.trans (hb6.mono hW5.size)
    clear HK5 HB5 hB5 HX5 HY5 hY5 hW5 hb6 k0 k1 k2 k3 k4 k5 k6 k7
    obtain ⟨k0, k1, k2, k3, k4, k5, k6, k7⟩ := key_loads HK6.out
    go_wp2_with fail
    refine (sealGet_out T17.K9 A 13 c 14 0 w6 (.inr (by decide))).mono ?_
    rintro e w7 ⟨rfl, hb7⟩
    have HX7 := Lib.hid (HX6.out.below hb7 HX6.out.lt)
    have HY7 := Lib.hid (HY6.out.below (hb7.mono hY6))
    have hY7 : Y ≤ w7.heap.size := by have := hb7.size; omega
    have hW7 := hW6.trans (hb7.mono hW6.size)
    clear HK6 HX6 HY6 hY6 hW6 hb7 k0 k1 k2 k3 k4 k5 k6 k7
    have hR0 : Blk (w7.alloc (Obj.cells #[.int .i64 0, .int .i64 0, .bool false, .slice none 0 0] 50)) w7.heap.size 50 #[.int .i64 0, .int .i64 0, .bool false, .slice none 0 0] := Blk.new w7 _ _
    obtain ⟨⟨kd, pl, la, bd⟩, Ax, nx, cx⟩ := x2
    simp only at hx2' HY7
    cases hx2'
    have hnx : nx = 2 := HY7.out.len.symm
    subst hnx
    go_wp2_with (refine wpList_store_blk rfl 50 (.tmp 19) (.tmp 74) rfl w7.heap.size (segCells zeroV) rfl rfl 50 _ hR0 rfl (by kernel_rfl) (seg_one _) ?_; intro w8 hBk hg hs; have hb : Below w7.heap.size w7 w8 := ((Below.refl _ _).alloc (Nat.le_refl _) _).grown hg (Nat.le_of_lt hR0.lt) (fun g hg => by (cases hg; omega)); have HX8 := Lib.hid (HX7.out.below hb HX7.out.lt); have HY8 := Lib.hid (HY7.out.below (hb.mono hY7)); have hW8 := hW7.trans (hb.mono hW7.size); have hcv : (convert 30 9 (.slice Ax 2 cx)).run Try.prog w8 = .ok (.string ⟨#[97, 98]⟩) w8 := conv_bytes conv_u8 cx HY8.out; obtain ⟨s0, s1, s2, s3⟩ := seg_cells HX8.out; clear hBk hg hs hb hR0)
    have K1 := sealMay_any ⟨⟨1, 0, false, [97, 98]⟩, Ax, 2, cx⟩ w8 rfl (by show 2 ≤ 1000000000000; decide)
    rw [show PS.may (SegV.seg ⟨⟨1, 0, false, [97, 98]⟩, Ax, 2, cx⟩) = true from by show PS.may ⟨1, 0, false, [97, 98]⟩ = true; decide] at K1
    refine K1.mono ?_
    rintro e w9 ⟨rfl, hb9⟩
    have hW9 := hW8.trans (hb9.mono hW8.size)
    clear K1
    go_wp2_with fail
    have K2 := sealMay_any ⟨⟨3, 0, false, []⟩, none, 0, 0⟩ w9 rfl (by decide)
    rw [show PS.may (SegV.seg ⟨⟨3, 0, false, []⟩, none, 0, 0⟩) = false from by decide] at K2
    refine K2.mono ?_
    rintro e w10 ⟨rfl, hb10⟩
    have hW10 := hW9.trans (hb10.mono hW9.size)
    clear K2
    go_wp2
    go_ret
    exact ⟨rfl, hW10⟩
  have HF := Lib.hid fin
  clear fin hK hW4
  have hrf : ∀ w, (Instr.sliceAt 30 (.slice A 13 c) none (some (.int .i64 12)) none).run Try.prog w = .ok (.slice A 12 c) w := fun w => run_front_at (P := Try.prog) (t := 30) row_u8 A 13 c 12 (by omega) w
  have KG := Lib.hid (fun (w' : World) (h : Below w4.heap.size w4 w') => sealGet_any T17.K9 A 12 c B 0 0 (T17.B13.take 12) w' (by
    have := (HB4.out.below (h.mono hB4)).part (i := 0) (j := 12) (m := c) (by omega) (by omega) (by omega)
    rwa [cutA_zero] at this) (by have := h.size; omega) (by omega) (by omega) (by omega))
  have hS0 : Below w4.heap.size w4 w4.drew := (Below.refl _ _).drew
  clear HB4 HX4 HY4 k0 k1 k2 k3 k4 k5 k6 k7
  refine wp_region_forks (fun x => Below w4.heap.size w4 x) (by kernel_rfl) ?_
  generalize w4.drew = w5 at *
  refine wpAnyG_prefix (S := fun x => Below w4.heap.size w4 x) (by kernel_rfl) (fun _ _ d _ _ h => by cases d <;> exact h) 9 [(false, 0), (false, 1), (false, 2)] _ _ _ (by rfl) (by kernel_rfl) hS0 ?_
  iterate 3 (apply planK_take rfl rfl rfl rfl; (intro w' hS K hK; obtain ⟨k0, k1, k2, k3, k4, k5, k6, k7⟩ := key_loads (HK4.out.below hS HK4.out.lt); clear hS; go_simp; exact hK))
  refine planK_nil (fun _ => ?_)
  have hs0 := hS0.size
  refine wpAnyG_fork (i := 3) (j := 8) (fuel := 8) (by kernel_rfl) rfl rfl rfl rfl (fun K1 h1 => ?_) (fun K1 h1 => ?_)
  · go_wp2_with fail
    refine (KG.out w5 hS0).mono ?_
    rintro e w6 hgot
    obtain ⟨x6, rfl, _, _, hb6⟩ := got_at T17.g4 hgot
    have hS1 := hS0.trans (hb6.mono hS0.size)
    clear hgot
    go_wp2_with fail
    refine h1.out _ _ hS1 (fun _ => ?_)
    clear h1 K1
    refine wpAnyG_plan (S := fun x => Below w4.heap.size w4 x) (by kernel_rfl) (fun _ _ d _ _ h => by cases d <;> exact h) [(false, 4), (false, 5), (false, 6), (false, 7), (true, 8), (true, 9), (true, 10), (true, 11)] _ _ _ (by rfl) (by kernel_rfl) hS1 ?_
    iterate 4 (apply plan_take rfl rfl rfl rfl; (intro w' hS K hK; clear hS; go_simp; exact hK))
    refine plan_force rfl rfl (fun K' hK' => ?_)
    have hS2 := hS1.alloc hS1.size (Obj.cells #[.int .i64 0, .int .i64 0, .bool false, .slice none 0 0] 50)
    have hR0 : Blk (w6.alloc (Obj.cells #[.int .i64 0, .int .i64 0, .bool false, .slice none 0 0] 50)) w6.heap.size 50 #[.int .i64 0, .int .i64 0, .bool false, .slice none 0 0] := Blk.new w6 _ _
    have hz6 := hS1.size
    go_wp2_with fail
    refine hK'.out _ _ hS2 ?_
    clear hK' K'
    refine plan_force rfl rfl (fun K' hK' => ?_)
    refine wp_store_seg (.tmp 13) (.tmp 60) rfl w6.heap.size x6 _ rfl rfl hR0 rfl ?_
    intro w7 hg7
    have hS3 := hS2.grown hg7 hS2.size (fun g hg => by cases hg; omega)
    refine hK'.out _ _ hS3 ?_
    clear hK' K'
    iterate 2 (refine plan_force rfl rfl (fun K hK => ?_); go_wp2_with fail; refine hK.out _ _ hS3 ?_; clear hK K)
    refine plan_nil ?_
    exact HF.out _ _ ⟨slot [_, undef, undef, undef, undef, undef, undef, _, _, undef, _, _, undef, _, _, undef, _, _, _, _, _, _, _, _, _, _, _, _, _, _, _, _, _, _, _, _, _, _, _, _, _, _, _, _, _, _, _, _, _, _, _, _, _, _, _, _, _, _, _, _, _, _, _, _, _, _, _, _, _, _, _, _, _, _, _, _, _, _, _, _, _, _, _, _, _, _, _, _, _, _, _, _, _, _, _, _, _, _, _, _, _, _, _, _, _, _, _, _, _, _, _, _, _, _, _, _, _, _, _, _, _, _, _, _, _, _, _, _, _, _, _], rfl⟩ hS3
  · have hS2 := hS0.alloc hS0.size (Obj.cells #[.int .i64 0, .int .i64 0, .bool false, .slice none 0 0] 50)
    have hR0 : Blk (w5.alloc (Obj.cells #[.int .i64 0, .int .i64 0, .bool false, .slice none 0 0] 50)) w5.heap.size 50 #[.int .i64 0, .int .i64 0, .bool false, .slice none 0 0] := Blk.new w5 _ _
    go_wp2_with fail
    refine h1.out _ _ hS2 (fun _ => ?_)
    clear h1 K1
    refine wpAnyG_plan (S := fun x => Below w4.heap.size w4 x) (by kernel_rfl) (fun _ _ d _ _ h => by cases d <;> exact h) [(true, 3), (true, 4), (false, 5), (false, 6), (false, 7), (true, 9), (true, 10), (true, 11)] _ _ _ (by rfl) (by kernel_rfl) hS2 ?_
    refine plan_force rfl rfl (fun K' hK' => ?_)
    go_wp2_with fail
    refine (KG.out _ hS2).mono ?_
    rintro e w6 hgot
    obtain ⟨x6, rfl, _, _, hb6⟩ := got_at T17.g4 hgot
    have hS3 := hS2.trans (hb6.mono hS2.size)
    have hR1 := hR0.below hb6 hR0.lt
    clear hgot hR0
    go_wp2_with fail
    refine hK'.out _ _ hS3 ?_
    clear hK' K'
    refine plan_force rfl rfl (fun K hK => ?_); go_wp2_with fail; refine hK.out _ _ hS3 ?_; clear hK K
    iterate 3 (apply plan_take rfl rfl rfl rfl; (intro w' hS K hK; clear hS; go_simp; exact hK))
    refine plan_force rfl rfl (fun K' hK' => ?_)
    refine wp_store_seg (.tmp 13) (.tmp 60) rfl w5.heap.size x6 _ rfl rfl hR1 rfl ?_
    intro w7 hg7
    have hS4 := hS3.grown hg7 hS3.size (fun g hg => by cases hg; omega)
    refine hK'.out _ _ hS4 ?_
    clear hK' K'
    iterate 2 (refine plan_force rfl rfl (fun K hK => ?_); go_wp2_with fail; refine hK.out _ _ hS4 ?_; clear hK K)
    refine plan_nil ?_
    exact HF.out _ _ ⟨slot [_, undef, undef, undef, undef, undef, undef, _, _, undef, _, _, undef, _, _, undef, _, _, _, _, _, _, _, _, _, _, _, _, _, _, _, _, _, _, _, _, _, _, _, _, _, _, _, _, _, _, _, _, _, _, _, _, _, _, _, _, _, _, _, _, _, _, _, _, _, _, _, _, _, _, _, _, _, _, _, _, _, _, _, _, _, _, _, _, _, _, _, _, _, _, _, _, _, _, _, _, _, _, _, _, _, _, _, _, _, _, _, _, _, _, _, _, _, _, _, _, _, _, _, _, _, _, _, _, _, _, _, _, _, _, _], rfl⟩ hS4
end Go.Proofs.Ytobbjhbjjhnicaa
