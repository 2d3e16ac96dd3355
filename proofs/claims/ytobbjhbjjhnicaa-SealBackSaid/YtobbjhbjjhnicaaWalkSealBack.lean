/- The walk of SealBack. -/
import Derived.Test.YtobbjhbjjhnicaaSealHelp
import Derived.Test.YtobbjhbjjhnicaaRefOpen
import Derived.Test.YtobbjhbjjhnicaaPlainSeal2
import Derived.Test.YtobbjhbjjhnicaaWalkSealBounds
namespace Go.Proofs.Ytobbjhbjjhnicaa
open Go.RowKit
set_option linter.unusedVariables false
set_option maxRecDepth 100000 in
set_option maxHeartbeats 8000000 in
theorem sealBack (k m : PL.K8) (s : SegV) (A : Option Addr) (n c : Nat) (l : List UInt8) (other : Int) (w : World) (hsb : Bytes w w.heap.size s.A s.n s.seg.body) (hsc : s.n ≤ s.c) (hl : Bytes w w.heap.size A n l) (hc : n ≤ c) (hz : A = none → c = 0) :
    Calls Try.prog 10 #[.agg (keyCells k), .agg (keyCells m), .agg (segCells s), .slice A n c, .int .i64 other] w fun e w' => e = .returned (.bool true) ∧ Below w.heap.size w w' := by
  have told_end : ∀ w1, Below w.heap.size w w1 → Calls Try.prog 23 #[] w1 fun e w' => e = .returned (.bool true) ∧ Below w.heap.size w w' := by
    intro w1 hW
    refine (told17 w1).mono ?_
    rintro e w2 ⟨rfl, hb⟩
    exact ⟨rfl, hW.trans (hb.mono hW.size)⟩
  have hW0 : Below w.heap.size w (((w.alloc (Obj.cells (keyCells k) 29)).alloc (Obj.cells (keyCells m) 29)).alloc (Obj.cells (segCells s) 50)) := (((Below.refl _ _).alloc (Nat.le_refl _) _).alloc (by simp) _).alloc (by simp only [World.size_alloc]; omega) _
  have HK0 : Hid (Blk (((w.alloc (Obj.cells (keyCells k) 29)).alloc (Obj.cells (keyCells m) 29)).alloc (Obj.cells (segCells s) 50)) w.heap.size 29 (keyCells k)) := ((Blk.new w _ _).alloc _).alloc _
  have HM0 : Hid (Blk (((w.alloc (Obj.cells (keyCells k) 29)).alloc (Obj.cells (keyCells m) 29)).alloc (Obj.cells (segCells s) 50)) (w.heap.size + 1) 29 (keyCells m)) := by
    have := (Blk.new (w.alloc (Obj.cells (keyCells k) 29)) 29 (keyCells m)).alloc (Obj.cells (segCells s) 50)
    rwa [World.size_alloc] at this
  have HS0 : Hid (Blk (((w.alloc (Obj.cells (keyCells k) 29)).alloc (Obj.cells (keyCells m) 29)).alloc (Obj.cells (segCells s) 50)) (w.heap.size + 1 + 1) 50 (segCells s)) := by
    have := Blk.new ((w.alloc (Obj.cells (keyCells k) 29)).alloc (Obj.cells (keyCells m) 29)) 50 (segCells s)
    simp only [World.size_alloc] at this
    exact this
  have HSb := Lib.hid (hsb.below hW0)
  have HL := Lib.hid (hl.below hW0)
  have HLn := Lib.hid hl.len
  have hbl := hsb.len
  have Hz := Lib.hid hz
  clear hsb hl hz
  go_enter Try.func10, Try.ntmps10
  by_cases h300 : 300 < s.n
  · have t300 : (300 : Int) < (s.n : Int) := by omega
    go_wp2_with fail
    refine (told_end _ hW0).mono ?_
    rintro e w2 ⟨rfl, hW2⟩
    go_wp2
    go_ret
    exact ⟨rfl, hW2⟩
  have t300 : ¬ (300 : Int) < (s.n : Int) := by omega
  by_cases h9 : 9 < n
  · have t9 : (9 : Int) < (n : Int) := by omega
    go_wp2_with fail
    refine (told_end _ hW0).mono ?_
    rintro e w2 ⟨rfl, hW2⟩
    go_wp2
    go_ret
    exact ⟨rfl, hW2⟩
  have t9 : ¬ (9 : Int) < (n : Int) := by omega
  have HMay := Lib.hid (sealMay_any s (((w.alloc (Obj.cells (keyCells k) 29)).alloc (Obj.cells (keyCells m) 29)).alloc (Obj.cells (segCells s) 50)) hbl (by omega))
  go_wp2_with fail
  refine HMay.out.mono ?_
  rintro e w1 ⟨rfl, hb1⟩
  have HK1 := Lib.hid (HK0.out.below hb1 HK0.out.lt)
  have HM1 := Lib.hid (HM0.out.below hb1 HM0.out.lt)
  have HS1 := Lib.hid (HS0.out.below hb1 HS0.out.lt)
  have hW1 := hW0.trans (hb1.mono hW0.size)
  have HSb1 := Lib.hid (HSb.out.below (hb1.mono hW0.size))
  have HL1 := Lib.hid (HL.out.below (hb1.mono hW0.size))
  clear HK0 HM0 HS0 hW0 hb1 HSb HL HMay
  have hm : PS.may s.seg = true ∨ PS.may s.seg = false := by cases PS.may s.seg <;> simp
  have HBad : Hid (PS.may s.seg = true → (PS.may s.seg = false) → False) := fun h1 h2 => by rw [h1] at h2; cases h2
  rcases hm with hm | hm
  rotate_left
  · rw [hm]
    go_wp2_with fail
    refine (told_end _ hW1).mono ?_
    rintro e w2 ⟨rfl, hW2⟩
    go_wp2
    go_ret
    exact ⟨rfl, hW2⟩
  rw [hm]
  have Hm := Lib.hid hm
  clear hm told_end
  obtain ⟨k0, k1, k2, k3, k4, k5, k6, k7⟩ := key_loads HK1.out
  obtain ⟨s0, s1, s2, s3⟩ := seg_cells HS1.out
  have hz1 : w.heap.size + 3 ≤ w1.heap.size := by have := HS1.out.lt; omega
  go_wp2_with fail
  refine (sealPut_any k s.seg s.n s.c s.A w1 (HSb1.out.more (by omega)) (by omega)).mono ?_
  clear k0 k1 k2 k3 k4 k5 k6 k7 s0 s1 s2 s3
  rintro e w2 ⟨A2, n2, c2, code, rfl, hc2, hz2, hd2, hb2⟩
  have hd3 : code = 0 ∧ Bytes w2 w2.heap.size A2 n2 (PS.put k s.seg) := by
    rcases hd2 with ⟨_, h1, h2⟩ | ⟨h1, _⟩
    · exact ⟨h1, h2⟩
    · exact (HBad.out Hm.out h1).elim
  obtain ⟨rfl, hB2⟩ := hd3
  have HP2 := Lib.hid hB2
  have hn2 : n2 ≤ 350 := by rw [← hB2.len]; have := PS.put_bound k s.seg Hm.out; omega
  have HPl := Lib.hid hB2.len
  have HK2 := Lib.hid (HK1.out.below hb2 HK1.out.lt)
  have HM2 := Lib.hid (HM1.out.below hb2 HM1.out.lt)
  have HS2 := Lib.hid (HS1.out.below hb2 HS1.out.lt)
  have hW2 := hW1.trans (hb2.mono hW1.size)
  have HSb2 := Lib.hid (HSb1.out.below (hb2.mono hW1.size))
  have HL2 := Lib.hid (HL1.out.below (hb2.mono hW1.size))
  have hzz : w.heap.size + 3 ≤ w2.heap.size := by have := hb2.size; omega
  have Hz2 := Lib.hid hz2
  clear hd2 hB2 HK1 HM1 HS1 hW1 HSb1 HL1 hb2 hz1 HBad hz2
  have HO0 := Lib.hid (Own.empty_ w2 5 #[] rfl)
  have hE0 : Below w2.heap.size w2 (w2.alloc (Obj.cells #[] 5)) := (Below.refl _ _).alloc (Nat.le_refl _) _
  have HL3 := Lib.hid ((HL2.out.more (B' := w2.heap.size) (by omega)).below hE0)
  have HP3 := Lib.hid (HP2.out.below hE0)
  have hs3 : (w2.alloc (Obj.cells #[] 5)).heap.size = w2.heap.size + 1 := World.size_alloc _ _
  have Hs3 := Lib.hid hs3
  clear hs3
  go_wp2_with (first
    | (at_builtin; refine wpList_of_wp rfl (fun K hK => wp_append_bytes (.tmp 49) (.tmp 50) 30 row_u8 rfl l rfl HO0.out w2.heap.size A n c rfl HL3.out Hz.out (by (simp only [List.length_nil]; omega)) (by (have := Hs3.out; omega)) ?_); intro v4 w4 hO4 hg4 hd4; have hb4 : Below w2.heap.size w2 w4 := hE0.grown hg4 (by (have := Hs3.out; omega)) (fun g hg => by (cases hg; exact Nat.le_refl _)); have HO4 : Hid (Own 5 w4 w2.heap.size v4 l) := hO4; have HP4 := Lib.hid (HP2.out.below hb4); have hs4 := hb4.size; clear hO4 hg4 hd4 HO0 HL3 HP3; refine hK _ _ ?_; clear hK K)
    | (at_builtin; refine wpList_of_wp rfl (fun K hK => wp_append_bytes (.tmp 51) (.tmp 52) 30 row_u8 rfl (PS.put k s.seg) rfl HO4.out w2.heap.size A2 n2 c2 rfl HP4.out Hz2.out (by (have := HLn.out; omega)) hs4 ?_); intro v5 w5 hO5 hg5 hd5; have hb5 := hb4.grown hg5 hs4 (fun g hg => HO4.out.base_ g hg); have HO5 := Lib.hid hO5; clear hO5 hg5 hd5 HO4 HP4; have HKK := Lib.hid hK; clear hK))
  have HK5 := Lib.hid (HK2.out.below hb5 (by omega))
  have HM5 := Lib.hid (HM2.out.below hb5 (by omega))
  have HS5 := Lib.hid (HS2.out.below hb5 (by omega))
  have hW5 := hW2.trans (hb5.mono hW2.size)
  have HSb5 := Lib.hid (HSb2.out.below (hb5.mono hW2.size))
  have hz5 : w.heap.size + 3 ≤ w5.heap.size := by have := hb5.size; omega
  obtain ⟨A3, n3, c3, rfl, hB3, hc3, _⟩ := HO5.out.form_n
  have HB3 := Lib.hid hB3
  have hn3 : n3 = n + n2 := by rw [← hB3.len, List.length_append, HLn.out, HPl.out]
  have HN3 := Lib.hid hn3
  have hn3b : n3 ≤ 400 := by omega
  have hn3t : n ≤ n3 := by omega
  have hg0 := PS.get_put k l [] s.seg s.seg.place Hm.out (l ++ PS.put k s.seg) (by rw [List.append_nil])
  rw [if_pos rfl, HLn.out, HPl.out, ← hn3] at hg0
  have hg1 : other ≠ s.seg.place → PS.get k (l ++ PS.put k s.seg) n other = (PS.zero, n, 2) := fun h => by
    have := PS.get_put k l [] s.seg other Hm.out (l ++ PS.put k s.seg) (by rw [List.append_nil])
    rw [if_neg (fun e => h e.symm), HLn.out] at this
    exact this
  have hlen3 := hB3.len
  have HG0 := Lib.hid hg0
  have HG1 := Lib.hid hg1
  have HLen3 := Lib.hid hlen3
  clear hB3 hg0 hg1 hlen3 hn3 HO5 HK2 HM2 HS2 hW2 HSb2 HL2 HP2 hb4 hb5 hE0 HPl HLn
  generalize l ++ PS.put k s.seg = bl at *
  refine HKK.out _ _ ?_
  clear HKK
  obtain ⟨B, hBd⟩ : ∃ B, B = w5.heap.size := ⟨_, rfl⟩
  rw [← hBd] at HB3
  have HB5 := HB3
  have hB5 : B ≤ w5.heap.size := by omega
  clear HB3 hBd
  obtain ⟨k0, k1, k2, k3, k4, k5, k6, k7⟩ := key_loads HK5.out
  obtain ⟨q0, q1, q2, q3, q4, q5, q6, q7⟩ := key_loads HM5.out
  obtain ⟨s0, s1, s2, s3⟩ := seg_cells HS5.out
  go_wp2_with fail
  refine (sealGet_any k A3 n3 c3 B n s.seg.place bl w5 HB5.out hB5 (by omega) hc3 hn3t).mono ?_
  rintro e v6 hgot
  obtain ⟨x6, rfl, hx6, hBx6, hb6⟩ := got_at (show (PS.get k bl n s.seg.place).2 = (n3, 0) by rw [HG0.out]) hgot
  clear hgot k0 k1 k2 k3 k4 k5 k6 k7 q0 q1 q2 q3 q4 q5 q6 q7 s0 s1 s2 s3
  have hR0 : Blk (v6.alloc (Obj.cells #[.int .i64 0, .int .i64 0, .bool false, .slice none 0 0] 50)) v6.heap.size 50 #[.int .i64 0, .int .i64 0, .bool false, .slice none 0 0] := Blk.new v6 _ _
  have HKv := Lib.hid (HK5.out.below hb6 HK5.out.lt)
  have HMv := Lib.hid (HM5.out.below hb6 HM5.out.lt)
  have HSv := Lib.hid (HS5.out.below hb6 HS5.out.lt)
  have HSbv := Lib.hid (HSb5.out.below (hb6.mono hW5.size))
  have HBv := Lib.hid (HB5.out.below (hb6.mono hB5))
  have hBv : B ≤ v6.heap.size := by have := hb6.size; omega
  have hWv := hW5.trans (hb6.mono hW5.size)
  have hzv : w.heap.size + 3 ≤ v6.heap.size := by have := hb6.size; omega
  clear HK5 HM5 HS5 HSb5 HB5 hB5 hW5 hb6 hz5
  go_wp2_with (refine wpList_store_blk rfl 50 (.tmp 14) (.tmp 62) rfl v6.heap.size (segCells x6) rfl rfl 50 _ hR0 rfl (by kernel_rfl) (seg_one _) ?_; intro w6 hBk6 hg hs; have hb : Below v6.heap.size v6 w6 := ((Below.refl _ _).alloc (Nat.le_refl _) _).grown hg (Nat.le_of_lt hR0.lt) (fun g hg => by (cases hg; omega)); have HK6 := Lib.hid (HKv.out.below hb HKv.out.lt); have HM6 := Lib.hid (HMv.out.below hb HMv.out.lt); have HS6 := Lib.hid (HSv.out.below hb HSv.out.lt); have HSb6 := Lib.hid (HSbv.out.below (hb.mono hWv.size)); have HB6 := Lib.hid (HBv.out.below (hb.mono hBv)); have hB6 : B ≤ w6.heap.size := (by have := hb.size; omega); have hW6 := hWv.trans (hb.mono hWv.size); have hz6 : w.heap.size + 3 ≤ w6.heap.size := (by have := hb.size; omega); have HX6 := Lib.hid hBk6; have HY6 := Lib.hid (hBx6.below hb); have hY6 : v6.heap.size ≤ w6.heap.size := hb.size; obtain ⟨k0, k1, k2, k3, k4, k5, k6, k7⟩ := key_loads HK6.out; obtain ⟨q0, q1, q2, q3, q4, q5, q6, q7⟩ := key_loads HM6.out; obtain ⟨s0, s1, s2, s3⟩ := seg_cells HS6.out; clear hBk6 hg hs hb hR0)
  rw [HG0.out] at hx6
  have Hx6 := Lib.hid hx6
  obtain ⟨X, hX⟩ : ∃ X, X = v6.heap.size := ⟨_, rfl⟩
  obtain ⟨Y, hY⟩ : ∃ Y, Y = v6.heap.size := ⟨_, rfl⟩
  rw [← hY] at HY6 hY6
  rw [← hX] at HX6
  rw [← hX]
  clear hX hY hx6 hBx6 HKv HMv HSv HSbv HBv hBv hWv hzv
  obtain ⟨a9, e9, h9e⟩ : ∃ a e, (PS.get m bl n s.seg.place).2 = (a, e) := ⟨_, _, rfl⟩
  have H9 := Lib.hid h9e
  clear h9e
  have hop : ∃ (a8 e8 : Nat), (PS.get k bl n other).2 = (a8, e8) ∧ ((other = s.seg.place ∧ e8 = 0) ∨ (other ≠ s.seg.place ∧ a8 = n ∧ e8 = 2)) := by
    by_cases ho : other = s.seg.place
    · exact ⟨n3, 0, by rw [ho, HG0.out], .inl ⟨ho, rfl⟩⟩
    · exact ⟨n, 2, by rw [HG1.out ho], .inr ⟨ho, rfl, rfl⟩⟩
  obtain ⟨a8, e8, h8, hcase⟩ := hop
  have H8 := Lib.hid h8
  have HCase := Lib.hid hcase
  clear h8 hcase HG1 HG0
  go_wp2_with fail
  refine (sealGet_any k A3 n3 c3 B n other bl w6 HB6.out hB6 (by omega) hc3 hn3t).mono ?_
  rintro e v7 hgot
  obtain ⟨x7, rfl, hx7, hBx7, hb7⟩ := got_at H8.out hgot
  clear hgot k0 k1 k2 k3 k4 k5 k6 k7 q0 q1 q2 q3 q4 q5 q6 q7 s0 s1 s2 s3
  have hR0 : Blk (v7.alloc (Obj.cells #[.int .i64 0, .int .i64 0, .bool false, .slice none 0 0] 50)) v7.heap.size 50 #[.int .i64 0, .int .i64 0, .bool false, .slice none 0 0] := Blk.new v7 _ _
  have HKv := Lib.hid (HK6.out.below hb7 HK6.out.lt)
  have HMv := Lib.hid (HM6.out.below hb7 HM6.out.lt)
  have HSv := Lib.hid (HS6.out.below hb7 HS6.out.lt)
  have HSbv := Lib.hid (HSb6.out.below (hb7.mono hW6.size))
  have HBv := Lib.hid (HB6.out.below (hb7.mono hB6))
  have hBv : B ≤ v7.heap.size := by have := hb7.size; omega
  have hWv := hW6.trans (hb7.mono hW6.size)
  have hzv : w.heap.size + 3 ≤ v7.heap.size := by have := hb7.size; omega
  have HXv := Lib.hid (HX6.out.below hb7 HX6.out.lt)
  have HYv := Lib.hid (HY6.out.below (hb7.mono hY6))
  have hYv : Y ≤ v7.heap.size := by have := hb7.size; omega
  clear HK6 HM6 HS6 HSb6 HB6 hB6 hW6 hb7 hz6
  go_wp2_with (refine wpList_store_blk rfl 50 (.tmp 17) (.tmp 72) rfl v7.heap.size (segCells x7) rfl rfl 50 _ hR0 rfl (by kernel_rfl) (seg_one _) ?_; intro w7 hBk7 hg hs; have hb : Below v7.heap.size v7 w7 := ((Below.refl _ _).alloc (Nat.le_refl _) _).grown hg (Nat.le_of_lt hR0.lt) (fun g hg => by (cases hg; omega)); have HK7 := Lib.hid (HKv.out.below hb HKv.out.lt); have HM7 := Lib.hid (HMv.out.below hb HMv.out.lt); have HS7 := Lib.hid (HSv.out.below hb HSv.out.lt); have HSb7 := Lib.hid (HSbv.out.below (hb.mono hWv.size)); have HB7 := Lib.hid (HBv.out.below (hb.mono hBv)); have hB7 : B ≤ w7.heap.size := (by have := hb.size; omega); have hW7 := hWv.trans (hb.mono hWv.size); have hz7 : w.heap.size + 3 ≤ w7.heap.size := (by have := hb.size; omega); have HX7 := Lib.hid (HXv.out.below hb HXv.out.lt); have HY7 := Lib.hid (HYv.out.below (hb.mono hYv)); have hY7 : Y ≤ w7.heap.size := (by have := hb.size; omega); obtain ⟨k0, k1, k2, k3, k4, k5, k6, k7⟩ := key_loads HK7.out; obtain ⟨q0, q1, q2, q3, q4, q5, q6, q7⟩ := key_loads HM7.out; obtain ⟨s0, s1, s2, s3⟩ := seg_cells HS7.out; clear hBk7 hg hs hb hR0)
  clear hx7 hBx7 HKv HMv HSv HSbv HBv hBv hWv hzv HXv HYv hYv
  go_wp2_with fail
  refine (sealGet_any m A3 n3 c3 B n s.seg.place bl w7 HB7.out hB7 (by omega) hc3 hn3t).mono ?_
  rintro e v8 hgot
  obtain ⟨x8, rfl, hx8, hBx8, hb8⟩ := got_at H9.out hgot
  clear hgot k0 k1 k2 k3 k4 k5 k6 k7 q0 q1 q2 q3 q4 q5 q6 q7 s0 s1 s2 s3
  have hR0 : Blk (v8.alloc (Obj.cells #[.int .i64 0, .int .i64 0, .bool false, .slice none 0 0] 50)) v8.heap.size 50 #[.int .i64 0, .int .i64 0, .bool false, .slice none 0 0] := Blk.new v8 _ _
  have HKv := Lib.hid (HK7.out.below hb8 HK7.out.lt)
  have HMv := Lib.hid (HM7.out.below hb8 HM7.out.lt)
  have HSv := Lib.hid (HS7.out.below hb8 HS7.out.lt)
  have HSbv := Lib.hid (HSb7.out.below (hb8.mono hW7.size))
  have HBv := Lib.hid (HB7.out.below (hb8.mono hB7))
  have hBv : B ≤ v8.heap.size := by have := hb8.size; omega
  have hWv := hW7.trans (hb8.mono hW7.size)
  have hzv : w.heap.size + 3 ≤ v8.heap.size := by have := hb8.size; omega
  have HXv := Lib.hid (HX7.out.below hb8 HX7.out.lt)
  have HYv := Lib.hid (HY7.out.below (hb8.mono hY7))
  have hYv : Y ≤ v8.heap.size := by have := hb8.size; omega
  clear HK7 HM7 HS7 HSb7 HB7 hB7 hW7 hb8 hz7
  go_wp2_with (refine wpList_store_blk rfl 50 (.tmp 20) (.tmp 83) rfl v8.heap.size (segCells x8) rfl rfl 50 _ hR0 rfl (by kernel_rfl) (seg_one _) ?_; intro w8 hBk8 hg hs; have hb : Below v8.heap.size v8 w8 := ((Below.refl _ _).alloc (Nat.le_refl _) _).grown hg (Nat.le_of_lt hR0.lt) (fun g hg => by (cases hg; omega)); have HK8 := Lib.hid (HKv.out.below hb HKv.out.lt); have HM8 := Lib.hid (HMv.out.below hb HMv.out.lt); have HS8 := Lib.hid (HSv.out.below hb HSv.out.lt); have HSb8 := Lib.hid (HSbv.out.below (hb.mono hWv.size)); have HB8 := Lib.hid (HBv.out.below (hb.mono hBv)); have hB8 : B ≤ w8.heap.size := (by have := hb.size; omega); have hW8 := hWv.trans (hb.mono hWv.size); have hz8 : w.heap.size + 3 ≤ w8.heap.size := (by have := hb.size; omega); have HX8 := Lib.hid (HXv.out.below hb HXv.out.lt); have HY8 := Lib.hid (HYv.out.below (hb.mono hYv)); have hY8 : Y ≤ w8.heap.size := (by have := hb.size; omega); have hcv : (convert 30 9 (.slice A3 n3 c3)).run Try.prog w8 = .ok (.string ⟨bl.toArray⟩) w8 := conv_bytes conv_u8 c3 HB8.out; obtain ⟨k0, k1, k2, k3, k4, k5, k6, k7⟩ := key_loads HK8.out; obtain ⟨q0, q1, q2, q3, q4, q5, q6, q7⟩ := key_loads HM8.out; obtain ⟨s0, s1, s2, s3⟩ := seg_cells HS8.out; clear hBk8 hg hs hb hR0)
  clear hx8 hBx8 HKv HMv HSv HSbv HBv hBv hWv hzv HXv HYv hYv
  refine (refOpen_any m n3 n s.seg.place bl w8 HLen3.out (by omega) hn3t).mono ?_
  rintro e v9 hgot
  obtain ⟨x9, rfl, hx9, hBx9, hb9⟩ := got_at H9.out hgot
  clear hgot k0 k1 k2 k3 k4 k5 k6 k7 q0 q1 q2 q3 q4 q5 q6 q7 s0 s1 s2 s3 hcv hx9 hBx9
  have hR0 : Blk (v9.alloc (Obj.cells #[.int .i64 0, .int .i64 0, .bool false, .slice none 0 0] 50)) v9.heap.size 50 #[.int .i64 0, .int .i64 0, .bool false, .slice none 0 0] := Blk.new v9 _ _
  have HSv := Lib.hid (HS8.out.below hb9 HS8.out.lt)
  have HSbv := Lib.hid (HSb8.out.below (hb9.mono hW8.size))
  have hWv := hW8.trans (hb9.mono hW8.size)
  have hzv : w.heap.size + 3 ≤ v9.heap.size := by have := hb9.size; omega
  have HXv := Lib.hid (HX8.out.below hb9 HX8.out.lt)
  have HYv := Lib.hid (HY8.out.below (hb9.mono hY8))
  have hYv : Y ≤ v9.heap.size := by have := hb9.size; omega
  clear HK8 HM8 HS8 HSb8 HB8 hB8 hW8 hb9 hz8 HX8 HY8 hY8
  go_wp2_with (refine wpList_store_blk rfl 50 (.tmp 23) (.tmp 95) rfl v9.heap.size (segCells x9) rfl rfl 50 _ hR0 rfl (by kernel_rfl) (seg_one _) ?_; intro w9 hBk9 hg hs; have hb : Below v9.heap.size v9 w9 := ((Below.refl _ _).alloc (Nat.le_refl _) _).grown hg (Nat.le_of_lt hR0.lt) (fun g hg => by (cases hg; omega)); have HS9 := Lib.hid (HSv.out.below hb HSv.out.lt); have HSb9 := Lib.hid (HSbv.out.below (hb.mono hWv.size)); have hW9 := hWv.trans (hb.mono hWv.size); have HX9 := Lib.hid (HXv.out.below hb HXv.out.lt); have HY9 := Lib.hid (HYv.out.below (hb.mono hYv)); have hY9 : Y ≤ w9.heap.size := (by have := hb.size; omega); have hz9 : w.heap.size + 3 ≤ w9.heap.size := (by have := hb.size; omega); clear hBk9 hg hs hb hR0)
  refine (told17 w9).mono ?_
  rintro e w10 ⟨rfl, hb10⟩
  have HS10 := Lib.hid (HS9.out.below hb10 HS9.out.lt)
  have HSb10 := Lib.hid ((HSb9.out.below (hb10.mono hW9.size)).more (B' := w10.heap.size) (by have := hb10.size; omega))
  have HX10 := Lib.hid (HX9.out.below hb10 HX9.out.lt)
  have HY10 := Lib.hid ((HY9.out.below (hb10.mono hY9)).more (B' := w10.heap.size) (by have := hb10.size; omega))
  have hW10 := hW9.trans (hb10.mono hW9.size)
  clear HS9 HSb9 HX9 HY9 hY9 hW9 hz9 hb10 HSv HSbv hWv hzv HXv HYv hYv
  obtain ⟨s0, s1, s2, s3⟩ := seg_cells HS10.out
  obtain ⟨x0, x1, x2, x3⟩ := seg_cells HX10.out
  have KS := Lib.hid (sameSeg_any x6 s w10.heap.size w10 HY10.out HSb10.out (Nat.le_refl _))
  have hss : sameSeg x6.seg s.seg = true := (sameSeg_is _ _).2 Hx6.out
  rw [hss] at KS
  clear hss
  rcases HCase.out with ⟨ho, he8⟩ | ⟨ho, ha8, he8⟩
  · subst he8
    have to : (other == s.seg.place) = true := by rw [beq_iff_eq]; exact ho
    clear ho HCase
    go_wp2_with fail
    refine KS.out.mono ?_
    rintro e w11 ⟨rfl, hb11⟩
    have hW11 := hW10.trans (hb11.mono hW10.size)
    have HS11 := Lib.hid (HS10.out.below hb11 HS10.out.lt)
    obtain ⟨r0, r1, r2, r3⟩ := seg_cells HS11.out
    clear s0 s1 s2 s3 x0 x1 x2 x3
    go_wp2
    go_ret
    exact ⟨rfl, hW11⟩
  · subst he8 ha8
    have to : (other == s.seg.place) = false := by rw [beq_eq_false_iff_ne]; exact ho
    clear ho HCase
    go_wp2_with fail
    refine KS.out.mono ?_
    rintro e w11 ⟨rfl, hb11⟩
    have hW11 := hW10.trans (hb11.mono hW10.size)
    have HS11 := Lib.hid (HS10.out.below hb11 HS10.out.lt)
    obtain ⟨r0, r1, r2, r3⟩ := seg_cells HS11.out
    clear s0 s1 s2 s3 x0 x1 x2 x3
    go_wp2
    go_ret
    exact ⟨rfl, hW11⟩
theorem walkSealBack (k m : PL.K8) (s : SegV) (A : Option Addr) (n c : Nat) (l : List UInt8) (other : Int) (w : World) (hsb : Bytes w w.heap.size s.A s.n s.seg.body) (hsc : s.n ≤ s.c) (hsz : s.A = none → s.c = 0) (hl : Bytes w w.heap.size A n l) (hc : n ≤ c) (hcm : c ≤ maxLen) (hz : A = none → n = 0 ∧ c = 0) (ho : (Lit.int .i64 other).wf = true) :
    Calls Try.prog 10 #[.agg (keyCells k), .agg (keyCells m), .agg (segCells s), .slice A n c, .int .i64 other] w fun e w' => e = .returned (.bool true) ∧ Below w.heap.size w w' :=
  sealBack k m s A n c l other w hsb hsc hl hc (fun h => (hz h).2)
end Go.Proofs.Ytobbjhbjjhnicaa
