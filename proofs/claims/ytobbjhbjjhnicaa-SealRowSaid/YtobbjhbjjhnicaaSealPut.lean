/- The walks of seal.May and seal.Put. -/
import Derived.Test.YtobbjhbjjhnicaaSegs
import Derived.Test.YtobbjhbjjhnicaaFork
import Derived.Test.YtobbjhbjjhnicaaKeyEq
namespace Go.Proofs.Ytobbjhbjjhnicaa
open Go.RowKit
set_option linter.unusedVariables false
set_option maxRecDepth 100000 in
set_option maxHeartbeats 4000000 in
theorem sealMay_any (x : SegV) (w : World) (hn : x.seg.body.length = x.n) (hn2 : x.n ≤ 1000000000000) :
    Calls Try.prog 29 #[.agg (segCells x)] w fun e w' => e = .returned (.bool (PS.may x.seg)) ∧ Below w.heap.size w w' := by
  obtain ⟨⟨kd, pl, la, bd⟩, A, n, c⟩ := x
  simp only at hn hn2
  have hW : Below w.heap.size w (w.alloc (.cells (segCells ⟨⟨kd, pl, la, bd⟩, A, n, c⟩) 50)) := (Below.refl _ _).alloc (Nat.le_refl _) _
  have hv := PS.may_is ⟨kd, pl, la, bd⟩
  simp only at hv
  rw [hn] at hv
  by_cases h1 : 1 ≤ kd
  · by_cases h2 : kd ≤ 3
    · by_cases h3 : 0 ≤ pl
      · by_cases h4 : pl ≤ 1048576
        · by_cases h5 : n ≤ 12100
          · have t5 : (n : Int) ≤ 12100 := by omega
            by_cases h6 : kd = 3
            · subst h6
              cases la
              · rw [Bool.eq_false_iff.2 (show PS.may ⟨3, pl, false, bd⟩ ≠ true from fun h => by have := (hv.1 h).2.2.2.2.2; simp at this)]
                clear hv
                go_enter Try.func29, Try.ntmps29
                go_wp2
                go_ret
                exact ⟨rfl, hW⟩
              · rw [hv.2 ⟨h1, h2, h3, h4, h5, by simp⟩]
                clear hv
                go_enter Try.func29, Try.ntmps29
                go_wp2
                go_ret
                exact ⟨rfl, hW⟩
            · have t6 : (kd == 3) = false := by rw [beq_eq_false_iff_ne]; exact h6
              cases la
              · rw [hv.2 ⟨h1, h2, h3, h4, h5, by simp [h6]⟩]
                clear hv
                go_enter Try.func29, Try.ntmps29
                go_wp2
                go_ret
                exact ⟨rfl, hW⟩
              · rw [Bool.eq_false_iff.2 (show PS.may ⟨kd, pl, true, bd⟩ ≠ true from fun h => by have := (hv.1 h).2.2.2.2.2; simp [h6] at this)]
                clear hv
                go_enter Try.func29, Try.ntmps29
                go_wp2
                go_ret
                exact ⟨rfl, hW⟩
          · have t5 : ¬ (n : Int) ≤ 12100 := by omega
            rw [Bool.eq_false_iff.2 (show PS.may ⟨kd, pl, la, bd⟩ ≠ true from fun h => by have := hv.1 h; omega)]
            clear hv
            go_enter Try.func29, Try.ntmps29
            go_wp2
            go_ret
            exact ⟨rfl, hW⟩
        · rw [Bool.eq_false_iff.2 (show PS.may ⟨kd, pl, la, bd⟩ ≠ true from fun h => by have := hv.1 h; omega)]
          clear hv
          go_enter Try.func29, Try.ntmps29
          go_wp2
          go_ret
          exact ⟨rfl, hW⟩
      · rw [Bool.eq_false_iff.2 (show PS.may ⟨kd, pl, la, bd⟩ ≠ true from fun h => by have := hv.1 h; omega)]
        clear hv
        go_enter Try.func29, Try.ntmps29
        go_wp2
        go_ret
        exact ⟨rfl, hW⟩
    · rw [Bool.eq_false_iff.2 (show PS.may ⟨kd, pl, la, bd⟩ ≠ true from fun h => by have := hv.1 h; omega)]
      clear hv
      go_enter Try.func29, Try.ntmps29
      go_wp2
      go_ret
      exact ⟨rfl, hW⟩
  · rw [Bool.eq_false_iff.2 (show PS.may ⟨kd, pl, la, bd⟩ ≠ true from fun h => by have := hv.1 h; omega)]
    clear hv
    go_enter Try.func29, Try.ntmps29
    go_wp2
    go_ret
    exact ⟨rfl, hW⟩
theorem seal_bytes8 {w : World} {g t : Nat} {f : Nat → UInt8} (h : Blk w g t (byteCells f)) : Bytes w (g + 1) (some ⟨g, 0, none⟩) 8 ((List.range 8).map f) := by
  refine ⟨by simp, fun _ => ⟨g, 0, rfl, Nat.lt_succ_self _, fun i c hi => ?_⟩⟩
  have hi' : i < 8 := by simpa using (List.getElem?_eq_some_iff.1 hi).1
  rw [Nat.zero_add, h.cell i, byteCells_get f i hi']
  have hc : c = f i := by
    rw [List.getElem?_map, List.getElem?_range hi'] at hi
    simp at hi
    exact hi.symm
  rw [hc]
theorem Own.grown_far {w w' : World} {e : TypeId} {base g : Nat} {v : Value} {l : List UInt8} (h : Own e w base v l) (hg : w.grownBy w' (some g)) (hne : v.ownBlock = some g → False) : Own e w' base v l := by
  refine ⟨h.1, ?_⟩
  rcases h.2 with h2 | ⟨g', cap, cur, rfl, h2, h3, h4⟩
  · exact .inl h2
  · refine .inr ⟨g', cap, cur, rfl, h2, (hg.block g' (Array.getElem?_eq_some_iff.1 h3).1 (fun e => hne ?_)).trans h3, h4⟩
    rw [← e]
    rfl
/-- What seal.Put gives. -/
def Sealed (w : World) (r : List UInt8 × Int) (e : Ending) (w' : World) : Prop := ∃ v, e = .returned (.tuple #[v, .int .i64 r.2]) ∧ Own 5 w' w.heap.size v r.1 ∧ Below w.heap.size w w'
theorem Own.base_ {e : TypeId} {w : World} {base : Nat} {v : Value} {l : List UInt8} (h : Own e w base v l) : ∀ g, v.ownBlock = some g → base ≤ g := fun g hg => (World.ownsRow.lt h g hg).1
theorem seg_cells {w : World} {g : Nat} {e : TypeId} {x : SegV} (h : Blk w g e (segCells x)) : w.cell? ⟨g, 0, none⟩ = some (.int .i64 x.seg.kind) ∧ w.cell? ⟨g, 1, none⟩ = some (.int .i64 x.seg.place) ∧ w.cell? ⟨g, 2, none⟩ = some (.bool x.seg.last) ∧ w.cell? ⟨g, 3, none⟩ = some (.slice x.A x.n x.c) := ⟨h.cell 0, h.cell 1, h.cell 2, h.cell 3⟩
set_option maxRecDepth 100000 in
set_option maxHeartbeats 4000000 in
theorem sealPut_may (k : PL.K8) (q p n c : Nat) (la : Bool) (bd : List UInt8) (A : Option Addr) (w : World) (hb : Bytes w w.heap.size A n bd) (hm : PS.may ⟨q, p, la, bd⟩ = true) :
    Calls Try.prog 25 #[.agg (keyCells k), .agg (segCells ⟨⟨q, p, la, bd⟩, A, n, c⟩)] w (Sealed w (PS.put k ⟨q, p, la, bd⟩, 0)) := by
  have hlen := hb.len
  have hmi := (PS.may_is _).1 hm
  simp only at hmi
  rw [hlen] at hmi
  obtain ⟨h1, h2, h3, h4, h5, h6⟩ := hmi
  have hq3 : q ≤ 3 := by omega
  have hp2 : p ≤ 1048576 := by omega
  have HB := Lib.hid hb
  have HLen := Lib.hid hlen
  have KM := sealMay_any ⟨⟨q, p, la, bd⟩, A, n, c⟩ ((w.alloc (Obj.cells (keyCells k) 31)).alloc (Obj.cells (segCells ⟨⟨q, p, la, bd⟩, A, n, c⟩) 50)) hlen (by show n ≤ _; omega)
  simp only at KM
  rw [hm] at KM
  have KM := Lib.hid KM
  clear hb hlen hm h1 h2 h3 h4 h6
  go_enter Try.func25, Try.ntmps25
  go_wp2_with fail
  (with_reducible refine KM.out.mono ?_)
  rintro e w1 ⟨rfl, hb1⟩
  have hW0 : Below w.heap.size w ((w.alloc (Obj.cells (keyCells k) 31)).alloc (Obj.cells (segCells ⟨⟨q, p, la, bd⟩, A, n, c⟩) 50)) := ((Below.refl _ _).alloc (Nat.le_refl _) _).alloc (by simp) _
  have hK0 : Blk ((w.alloc (Obj.cells (keyCells k) 31)).alloc (Obj.cells (segCells ⟨⟨q, p, la, bd⟩, A, n, c⟩) 50)) w.heap.size 31 (keyCells k) := (Blk.new w _ _).alloc _
  have hS0 : Blk ((w.alloc (Obj.cells (keyCells k) 31)).alloc (Obj.cells (segCells ⟨⟨q, p, la, bd⟩, A, n, c⟩) 50)) (w.heap.size + 1) 50 (segCells ⟨⟨q, p, la, bd⟩, A, n, c⟩) := by
    have := Blk.new (w.alloc (Obj.cells (keyCells k) 31)) 50 (segCells ⟨⟨q, p, la, bd⟩, A, n, c⟩)
    rwa [World.size_alloc] at this
  have HK1 := Lib.hid (hK0.below hb1 hK0.lt)
  have HS1 := Lib.hid (hS0.below hb1 hS0.lt)
  have hW1 := hW0.trans (hb1.mono hW0.size)
  have hz1 : w.heap.size + 2 ≤ w1.heap.size := by have := HS1.out.lt; omega
  clear hb1 hW0 hK0 hS0 KM
  go_wp2
  rename_i K hK
  have fin : ∀ (a' : Act) (w' : World) (v : Value), (∃ u : Nat → Value, a' = ⟨#[u 0, u 1, .pointer (some ⟨w.heap.size, 0, none⟩), .pointer (some ⟨w.heap.size + 1, 0, none⟩), .slice none 0 0, .int .i64 0, v, u 7, u 8, u 9, u 10, u 11, u 12, u 13, u 14, u 15, u 16, u 17, u 18, u 19, u 20, u 21, u 22, u 23, u 24, u 25, u 26, u 27, u 28, u 29, u 30, u 31, u 32, u 33, u 34, u 35, u 36, u 37, u 38, u 39, u 40, u 41, u 42], []⟩) → Own 5 w' (w.heap.size + 2) v (UInt8.ofNat q :: PN.enc p) → Below (w.heap.size + 2) w1 w' → K a' w' := by
    rintro a' w' v ⟨u, rfl⟩ hO hb
    refine hK _ _ ?_
    clear hK
    have HK2 := Lib.hid (HK1.out.below hb (by omega))
    have HS2 := Lib.hid (HS1.out.below hb (by omega))
    have hW2 := hW1.trans (hb.mono (by omega))
    have hz2 : w.heap.size + 2 ≤ w'.heap.size := by have := HS2.out.lt; omega
    have HO2 := Lib.hid hO
    have hl2 : (UInt8.ofNat q :: PN.enc p).length ≤ 18 := by have := PN.enc_len64 p (by unfold PN.M64; omega); simp only [List.length_cons]; omega
    have HL2 := Lib.hid hl2
    have HEn := Lib.hid (PN.enc_len64 n (by unfold PN.M64; omega))
    obtain ⟨En, hEn⟩ : ∃ En, En = PN.enc n := ⟨_, rfl⟩
    have KP := Lib.hid (fun w => numPut n (by unfold PN.M64; omega) w)
    rw [← hEn] at HEn KP
    have HEe := Lib.hid hEn
    clear hEn
    obtain ⟨s0, s1, s2, s3⟩ := seg_cells HS2.out
    simp only at s0 s1 s2 s3
    have jn : IntKind.u64.wrap (n : Int) = (n : Int) := IntWalk.u64_in _ (by omega)
    clear hO hb HK1 HS1 hW1 hz1 hl2
    generalize hL2 : UInt8.ofNat q :: PN.enc p = L2 at *
    have HLe2 := Lib.hid hL2
    clear hL2
    go_wp2_with fail
    (with_reducible refine (KP.out w').mono ?_)
    rintro e w2 ⟨v2, rfl, hO3, hb2⟩
    obtain ⟨A2, n2, c2, rfl, hB2, hc2, hzz2⟩ := hO3.form_n
    have HB2 := Lib.hid hB2
    have HE2 := Lib.hid hB2.len
    have HO3 := Lib.hid (HO2.out.below hb2 HO2.out.lt)
    have HK3 := Lib.hid (HK2.out.below hb2 HK2.out.lt)
    have HS3 := Lib.hid (HS2.out.below hb2 HS2.out.lt)
    have hW3 := hW2.trans (hb2.mono hW2.size)
    have hz3 : w.heap.size + 2 ≤ w2.heap.size := by have := hb2.size; omega
    have HZ2 := Lib.hid hzz2
    clear hO3 hB2 hb2 HO2 HK2 HS2 hW2 hz2 s0 s1 s2 s3 hzz2
    rename_i K hK
    show K _ _
    refine hK _ _ ?_
    clear hK K
    refine wpList_of_wp rfl (fun K hK => wp_append_bytes (.tmp 20) (.tmp 25) 30 row_u8 rfl En rfl HO3.out w2.heap.size A2 n2 c2 rfl HB2.out HZ2.out (by have := HL2.out; have := HEn.out; have := HE2.out; omega) hz3 ?_)
    intro v3 w3 hO4 hg4 hd4
    have HO4 := Lib.hid hO4
    have HK4 := Lib.hid (HK3.out.grown hg4 (fun h => by have := HO3.out.base_ _ h.symm; omega))
    have HS4 := Lib.hid (HS3.out.grown hg4 (fun h => by have := HO3.out.base_ _ h.symm; omega))
    have hW4 : Below w.heap.size w w3 := hW3.grown hg4 hW3.size (fun g hg => by have := HO3.out.base_ g hg; omega)
    have hz4 : w.heap.size + 2 ≤ w3.heap.size := by (have := HS4.out.lt; omega)
    obtain ⟨s0, s1, s2, s3⟩ := seg_cells HS4.out
    have s0 : w3.cell? ⟨w.heap.size + 1, 0, none⟩ = some (.int .i64 (q : Int)) := s0
    have s1 : w3.cell? ⟨w.heap.size + 1, 1, none⟩ = some (.int .i64 (p : Int)) := s1
    have s2 : w3.cell? ⟨w.heap.size + 1, 2, none⟩ = some (.bool la) := s2
    have s3 : w3.cell? ⟨w.heap.size + 1, 3, none⟩ = some (.slice A n c) := s3
    obtain ⟨c0, c1, c2, c3, c4, c5, c6, c7⟩ := key_loads HK4.out
    refine hK _ _ ?_
    clear hK K HO3 HK3 HS3 hW3 hz3 hO4 hg4 hd4 HB2 HZ2
    have HLa := Lib.hid (show (L2 ++ En).length ≤ 40 by rw [List.length_append]; have := HL2.out; have := HEn.out; omega)
    generalize hL3 : L2 ++ En = L3 at *
    have HLe3 := Lib.hid hL3
    clear hL3 HL2 HE2 HEn
    go_wp2_with fail
    (with_reducible refine (xor_any k p A n c w.heap.size bd w3 (HB.out.below hW4) (by omega) (by omega)).mono ?_)
    rintro e w4 ⟨g4, rfl, hg4, hL4, hb4⟩
    obtain ⟨X, hX⟩ : ∃ X, X = PL.xorTo (PL.stream k (placeWord p) n) bd := ⟨_, rfl⟩
    rw [← hX] at hL4
    have hXl : X.length = n := by rw [hX, PL.xorTo_len (by rw [PL.stream_len]; exact HLen.out.symm)]; exact HLen.out
    have HX := Lib.hid hX
    have HXl := Lib.hid hXl
    have HB4 := Lib.hid (hL4.bytes hXl (B := w4.heap.size) hL4.lt)
    have HO5 := Lib.hid (HO4.out.below hb4 HO4.out.lt)
    have HK5 := Lib.hid (HK4.out.below hb4 HK4.out.lt)
    have HS5 := Lib.hid (HS4.out.below hb4 HS4.out.lt)
    have hW5 := hW4.trans (hb4.mono hW4.size)
    have hz5 : w.heap.size + 2 ≤ w4.heap.size := by have := HS5.out.lt; omega
    clear hL4 hX hXl HO4 HK4 HS4 hW4 hz4 s0 s1 s2 s3 c0 c1 c2 c3 c4 c5 c6 c7
    rename_i K hK
    show K _ _
    refine hK _ _ ?_
    clear hK K
    refine wpList_of_wp rfl (fun K hK => wp_append_bytes (.tmp 27) (.tmp 33) 30 row_u8 rfl X rfl HO5.out w4.heap.size (some ⟨g4, 0, none⟩) n n rfl HB4.out (fun h => by cases h) (by have := HLa.out; omega) hz5 ?_)
    intro v5 w5 hO6 hg5 hd5
    have HO6 := Lib.hid hO6
    have HK6 := Lib.hid (HK5.out.grown hg5 (fun h => by have := HO5.out.base_ _ h.symm; omega))
    have HS6 := Lib.hid (HS5.out.grown hg5 (fun h => by have := HO5.out.base_ _ h.symm; omega))
    have hW6 : Below w.heap.size w w5 := hW5.grown hg5 hW5.size (fun g hg => by have := HO5.out.base_ g hg; omega)
    have hz6 : w.heap.size + 2 ≤ w5.heap.size := by (have := HS6.out.lt; omega)
    refine hK _ _ ?_
    clear hK K HO5 HK5 HS5 hW5 hz5 hO6 hg5 hd5 HB4 hb4 hg4
    have HLb := Lib.hid (show (L3 ++ X).length ≤ 13000 by rw [List.length_append]; have := HLa.out; have := HXl.out; omega)
    generalize hL5 : L3 ++ X = L5 at *
    have HLe5 := Lib.hid hL5
    clear hL5 HLa HXl
    obtain ⟨A6, n6, c6, rfl, hB6, hcc6, hzz6⟩ := HO6.out.form_n
    have HB6 := Lib.hid hB6
    have HN6 := Lib.hid hB6.len
    have hn6 : n6 ≤ 13000 := by rw [← hB6.len]; exact HLb.out
    clear hB6
    obtain ⟨s0, s1, s2, s3⟩ := seg_cells HS6.out
    have s1 : w5.cell? ⟨w.heap.size + 1, 1, none⟩ = some (.int .i64 (p : Int)) := s1
    clear s0 s2 s3
    obtain ⟨k0, k1, k2, k3, k4, k5, k6, k7⟩ := key_loads HK6.out
    go_wp2_with fail
    (with_reducible refine (of_any k p A6 n6 c6 w5.heap.size L5 w5 HB6.out (Nat.le_refl _) (by omega)).mono ?_)
    rintro e w6 ⟨rfl, hb6⟩
    have HO7 := Lib.hid (HO6.out.below hb6 HO6.out.lt)
    have hW7 := hW6.trans (hb6.mono hW6.size)
    have hz7 : w.heap.size + 2 ≤ w6.heap.size := by have := hb6.size; omega
    have HW7 := Lib.hid hW7
    clear HO6 HK6 HS6 hW6 hz6 s1 k0 k1 k2 k3 k4 k5 k6 k7 hb6 HB6 hzz6 hW7
    have hR0 := Blk.new w6 73 (byteCells fun _ => 0)
    go_wp2_with (first
      | (refine wpList_store_blk rfl 73 (.tmp 7) (.tmp 39) rfl w6.heap.size (byteCells (tagOf k p L5)) rfl rfl 73 _ hR0 rfl (by kernel_rfl) (byte_one _) ?_; intro w7 hB7 hg7 hs7; have HB7 := Lib.hid hB7; have HO8 := Lib.hid ((HO7.out.alloc (Obj.cells (byteCells fun _ => 0) 73)).grown_far hg7 (fun h => by have := HO7.out.lt _ h; omega)))
      | (refine wpList_of_wp rfl (fun K hK => wp_append_bytes (.tmp 40) (.tmp 41) 30 row_u8 rfl (PS.tag k p L5) rfl HO8.out (w6.heap.size + 1) (some ⟨w6.heap.size, 0, none⟩) 8 8 rfl (seal_bytes8 HB7.out) (fun h => by cases h) (by have := HLb.out; omega) (by rw [hs7, World.size_alloc]; omega) ?_); intro v8 w8 hO9 hg9 hd9; refine hK _ _ ?_; clear hK K))
    go_ret2
    have hB8 : Below w.heap.size w w7 := (HW7.out.alloc HW7.out.size (Obj.cells (byteCells fun _ => 0) 73)).grown hg7 (by rw [World.size_alloc]; omega) (fun g hg => by cases hg; omega)
    have hB9 : Below w.heap.size w w8 := hB8.grown hg9 hB8.size (fun g hg => by have := HO7.out.base_ g hg; omega)
    have e : L5 ++ PS.tag k p L5 = PS.put k ⟨q, p, la, bd⟩ := by
      rw [← HLe5.out, ← HLe3.out, ← HLe2.out, HX.out, HEe.out]
      unfold PS.put PS.head
      simp only [Int.toNat_natCast, List.cons_append, List.append_assoc, HLen.out]
    refine ⟨v8, rfl, ?_, hB9⟩
    rw [← e]
    exact hO9.mono (by omega)
  have HF := Lib.hid fin
  clear fin hK
  obtain ⟨s0, s1, s2, s3⟩ := seg_cells HS1.out
  have s0 : w1.cell? ⟨w.heap.size + 1, 0, none⟩ = some (.int .i64 (q : Int)) := s0
  have s1 : w1.cell? ⟨w.heap.size + 1, 1, none⟩ = some (.int .i64 (p : Int)) := s1
  clear s2 s3
  have jq : IntKind.u8.wrap (q : Int) = (q : Int) := IntWalk.u8_in _ (by omega)
  have jp : IntKind.u64.wrap (p : Int) = (p : Int) := IntWalk.u64_in _ (by omega)
  have hS0 : Below w1.heap.size w1 w1.drew := (Below.refl _ _).drew
  refine wp_region_forks (fun x => Below w1.heap.size w1 x) (by kernel_rfl) ?_
  generalize w1.drew = w0 at *
  refine wpAnyG_prefix (S := fun x => Below w1.heap.size w1 x) (by kernel_rfl) (fun _ _ d _ _ h => by cases d <;> exact h) 4 [(false, 0), (false, 1), (false, 2), (false, 4), (false, 5), (false, 6)] _ _ _ (by rfl) (by kernel_rfl) hS0 ?_
  iterate 6 (apply planK_take rfl rfl rfl rfl; (intro w' hS K hK; have s0 := (hS.cell (p := ⟨w.heap.size + 1, 0, none⟩) (by show w.heap.size + 1 < _; omega)).trans s0; have s1 := (hS.cell (p := ⟨w.heap.size + 1, 1, none⟩) (by show w.heap.size + 1 < _; omega)).trans s1; clear hS; go_simp; exact hK))
  refine planK_nil (fun _ => ?_)
  have hs0 := hS0.size
  refine wpAnyG_fork (i := 3) (j := 7) (fuel := 3) (by kernel_rfl) rfl rfl rfl rfl (fun K1 h1 => ?_) (fun K1 h1 => ?_)
  · have hO1 : Own 5 (w0.alloc (.cells #[.int .u8 (q : Int)] 5)) w0.heap.size (.slice (some ⟨w0.heap.size, 0, none⟩) 1 1) [UInt8.ofNat q] := by
      have := Own.one_ w0 5 (UInt8.ofNat q)
      rwa [← nat_byte (show q < 256 by omega)] at this
    have hS1 := hS0.alloc hs0 (Obj.cells #[.int .u8 (q : Int)] 5)
    have hs1 : (w0.alloc (Obj.cells #[.int .u8 (q : Int)] 5)).heap.size = w0.heap.size + 1 := by rw [World.size_alloc]
    go_wp2_with fail
    refine h1.out _ _ hS1 (fun _ => ?_)
    clear h1 K1
    have HO1 := Lib.hid hO1
    clear hO1
    generalize w0.alloc (Obj.cells #[.int .u8 (q : Int)] 5) = v1 at *
    refine wpAnyG_plan (S := fun x => Below w1.heap.size w1 x) (by kernel_rfl) (fun _ _ d _ _ h => by cases d <;> exact h) [(true, 7), (true, 8), (true, 9)] _ _ _ (by rfl) (by kernel_rfl) hS1 ?_
    refine plan_force rfl rfl (fun K' hK' => ?_)
    go_wp2_with fail
    (with_reducible refine (numPut p (by unfold PN.M64; omega) v1).mono ?_)
    rintro e v2 ⟨v, rfl, hO2, hb2⟩
    obtain ⟨A2, n2, c2, rfl, hB2, hc2, hz2⟩ := hO2.form_n
    have HB2 := Lib.hid hB2
    have hl2 : n2 ≤ 17 := by rw [← hB2.len]; exact PN.enc_len64 p (by unfold PN.M64; omega)
    have HO3 := Lib.hid (HO1.out.below hb2 HO1.out.lt)
    have hS2 := hS1.trans (hb2.mono hS1.size)
    have hs2 := hb2.size
    clear hO2 hB2 hb2 HO1
    go_wp2_with fail
    refine hK'.out _ _ hS2 ?_
    clear hK' K'
    refine plan_force rfl rfl (fun K' hK' => ?_)
    refine wp_append_bytes (.tmp 14) (.tmp 18) 30 row_u8 rfl (PN.enc p) rfl (HO3.out.mono (b := w0.heap.size) (Nat.le_refl _)) v2.heap.size A2 n2 c2 rfl HB2.out hz2 (by simp; omega) (by omega) ?_
    intro v5 w5 hO5 hg5 hd5
    have hS5 := hS2.grown hg5 hS2.size (fun g hg => by have := HO3.out.base_ g hg; omega)
    refine hK'.out _ _ hS5 ?_
    clear hK' K'
    refine plan_force rfl rfl (fun K' hK' => ?_)
    go_wp2_with fail
    refine hK'.out _ _ hS5 ?_
    refine plan_nil ?_
    exact HF.out _ _ v5 ⟨slot [_, _, undef, undef, undef, undef, undef, _, _, _, _, _, _, _, _, _, _, _, _, _, _, _, _, _, _, _, _, _, _, _, _, _, _, _, _, _, _, _, _, _, _, _, _], rfl⟩ (hO5.mono (by omega)) (hS5.mono hz1)
  · go_wp2_with fail
    (with_reducible refine (numPut p (by unfold PN.M64; omega) w0).mono ?_)
    rintro e v2 ⟨v, rfl, hO2, hb2⟩
    have HO2 := Lib.hid hO2
    have hS2 := hS0.trans (hb2.mono hs0)
    have hs2 := hb2.size
    clear hO2 hb2
    go_wp2_with fail
    refine h1.out _ _ hS2 (fun _ => ?_)
    clear h1 K1
    refine wpAnyG_plan (S := fun x => Below w1.heap.size w1 x) (by kernel_rfl) (fun _ _ d _ _ h => by cases d <;> exact h) [(true, 3), (true, 8), (true, 9)] _ _ _ (by rfl) (by kernel_rfl) hS2 ?_
    refine plan_force rfl rfl (fun K' hK' => ?_)
    have hO1 : Own 5 (v2.alloc (.cells #[.int .u8 (q : Int)] 5)) v2.heap.size (.slice (some ⟨v2.heap.size, 0, none⟩) 1 1) [UInt8.ofNat q] := by
      have := Own.one_ v2 5 (UInt8.ofNat q)
      rwa [← nat_byte (show q < 256 by omega)] at this
    have HO1 := Lib.hid hO1
    have HO4 := Lib.hid (HO2.out.alloc (Obj.cells #[.int .u8 (q : Int)] 5))
    have hS3 := hS2.alloc hS2.size (Obj.cells #[.int .u8 (q : Int)] 5)
    have hs3 : (v2.alloc (Obj.cells #[.int .u8 (q : Int)] 5)).heap.size = v2.heap.size + 1 := by rw [World.size_alloc]
    clear hO1
    go_wp2_with fail
    refine hK'.out _ _ hS3 ?_
    clear hK' K'
    generalize v2.alloc (Obj.cells #[.int .u8 (q : Int)] 5) = v3 at *
    obtain ⟨A2, n2, c2, rfl, hB2, hc2, hz2⟩ := HO4.out.form_n
    have HB2 := Lib.hid hB2
    have hl2 : n2 ≤ 17 := by rw [← hB2.len]; exact PN.enc_len64 p (by unfold PN.M64; omega)
    clear hB2
    refine plan_force rfl rfl (fun K' hK' => ?_)
    refine wp_append_bytes (.tmp 14) (.tmp 18) 30 row_u8 rfl (PN.enc p) rfl HO1.out v3.heap.size A2 n2 c2 rfl HB2.out hz2 (by simp; omega) (by omega) ?_
    intro v5 w5 hO5 hg5 hd5
    have hS5 := hS3.grown hg5 hS3.size (fun g hg => by have := HO1.out.base_ g hg; omega)
    refine hK'.out _ _ hS5 ?_
    clear hK' K'
    refine plan_force rfl rfl (fun K' hK' => ?_)
    go_wp2_with fail
    refine hK'.out _ _ hS5 ?_
    refine plan_nil ?_
    exact HF.out _ _ v5 ⟨slot [_, _, undef, undef, undef, undef, undef, _, _, _, _, _, _, _, _, _, _, _, _, _, _, _, _, _, _, _, _, _, _, _, _, _, _, _, _, _, _, _, _, _, _, _, _], rfl⟩ (hO5.mono (by omega)) (hS5.mono hz1)
set_option maxRecDepth 100000 in
set_option maxHeartbeats 4000000 in
theorem sealPut_bad (k : PL.K8) (s : PS.Seg) (n c : Nat) (A : Option Addr) (w : World) (hlen : s.body.length = n) (hn : n ≤ 1000000000000) (hm : PS.may s = false) :
    Calls Try.prog 25 #[.agg (keyCells k), .agg (segCells ⟨s, A, n, c⟩)] w fun e w' => e = .returned (.tuple #[.slice none 0 0, .int .i64 1]) ∧ Below w.heap.size w w' := by
  obtain ⟨q, p, la, bd⟩ := s
  have KM := sealMay_any ⟨⟨q, p, la, bd⟩, A, n, c⟩ ((w.alloc (Obj.cells (keyCells k) 31)).alloc (Obj.cells (segCells ⟨⟨q, p, la, bd⟩, A, n, c⟩) 50)) hlen hn
  simp only at KM
  rw [hm] at KM
  have KM := Lib.hid KM
  have hW0 : Below w.heap.size w ((w.alloc (Obj.cells (keyCells k) 31)).alloc (Obj.cells (segCells ⟨⟨q, p, la, bd⟩, A, n, c⟩) 50)) := ((Below.refl _ _).alloc (Nat.le_refl _) _).alloc (by simp) _
  clear hlen hm
  go_enter Try.func25, Try.ntmps25
  go_wp2_with fail
  (with_reducible refine KM.out.mono ?_)
  rintro e w1 ⟨rfl, hb1⟩
  have hW1 := hW0.trans (hb1.mono hW0.size)
  clear hW0 hb1
  go_wp2
  go_ret2
  exact ⟨rfl, hW1⟩
end Go.Proofs.Ytobbjhbjjhnicaa
