/- The walk of LaneKeys: unlike keys are mixed to unlike ones; streams of two keys laid over one another twice are nothing. -/
import Derived.Test.YtobbjhbjjhnicaaTold14
import Derived.Test.YtobbjhbjjhnicaaFork
namespace Go.Proofs.Ytobbjhbjjhnicaa
open Go.RowKit
set_option linter.unusedVariables false
namespace LK
theorem wp_store_key {o : Oper} {a : Act} {w : World} {K : Act → World → Prop} {Q : Exit → Act → World → Prop} (x y : Operand) (ho : o.op = .store 31 x y) (g : Nat) (k : PL.K8) (t : TypeId) (cs : Array Value)
    (hx : a.eval x = .pointer (some ⟨g, 0, none⟩)) (hy : a.eval y = .agg (keyCells k)) (hB : Blk w g t cs) (hc : cs.size = 8)
    (h : ∀ w', Blk w' g t (keyCells k) → w.grownBy w' (some g) → w'.heap.size = w.heap.size → K (a.put o.dst undef) w') : o.wp Try.prog a w K Q :=
  wp_store_mid 31 x y ho g 0 (keyCells k) hx hy (by have := hB.there_; rw [hc] at this; exact this) (by kernel_rfl) (key_one _) (h _ (hB.setCells (keyCells k) (by rw [hc]; rfl)) (grown_setCells g _ 0 w w (World.grownBy.refl w _)) (size_setCells g _ 0 w))
theorem mix_inj (k m : PL.K8) : PL.mix k = PL.mix m ↔ k = m :=
  ⟨fun h => by rw [← PL.back_mix k, h, PL.back_mix], fun h => by rw [h]⟩
theorem same_mix (k m : PL.K8) : sameK (PL.mix k) (PL.mix m) = sameK k m := by
  rw [Bool.eq_iff_iff, sameK_eq, sameK_eq, mix_inj]
end LK
set_option maxRecDepth 100000 in
set_option maxHeartbeats 4000000 in
theorem laneKeys (k m : PL.K8) (p q : Int) (A : Option Addr) (n c : Nat) (l : List UInt8) (w : World) (hb : Bytes w w.heap.size A n l) (hn : n ≤ 100) :
    Calls Try.prog 7 #[.agg (keyCells k), .agg (keyCells m), .int .i64 p, .int .i64 q, .slice A n c] w fun e w' => e = .returned (.bool true) ∧ Below w.heap.size w w' := by
  have HB := Lib.hid hb
  have HL := Lib.hid hb.len
  clear hb
  have h2 : ¬ (100 < (n : Int)) := by omega
  go_enter Try.func7, Try.ntmps7
  go_wp2
  rename_i K hK
  have fin : ∀ (a' : Act) (w' : World) (g1 g2 : Nat), (∃ u : Nat → Value, a' = ⟨#[u 0, u 1, .int .i64 p, .int .i64 q, .slice A n c, u 5, u 6, u 7, u 8, u 9, .bool false, .pointer (some ⟨g1, 0, none⟩), .pointer (some ⟨g2, 0, none⟩), u 13, u 14, u 15, u 16, u 17, u 18, u 19, u 20, u 21, u 22, u 23, u 24, u 25, u 26, u 27, u 28, u 29, u 30, u 31, u 32, u 33, u 34, u 35, u 36, u 37, u 38, u 39, u 40, u 41, u 42, u 43, u 44, u 45, u 46, u 47, u 48, u 49, u 50, u 51, u 52, u 53, u 54, u 55, u 56, u 57, u 58, u 59, u 60, u 61, u 62, u 63, u 64, u 65, u 66], []⟩) → Blk w' g1 31 (keyCells k) → Blk w' g2 31 (keyCells m) → Below w.heap.size w w' → K a' w' := by
    rintro a' wR g1 g2 ⟨u, rfl⟩ hG1 hG2 hW
    refine hK _ _ ?_
    clear hK K
    have HG1 := Lib.hid hG1
    have HG2 := Lib.hid hG2
    clear hG1 hG2
    have hle := hW.size
    have HBR := Lib.hid ((HB.out.below hW).more hle)
    clear HB
    go_wp2_with fail
    have hsl : (PL.stream k (placeWord p) n).length = n := PL.stream_len _ _ _
    have htl : (PL.stream m (placeWord q) n).length = n := PL.stream_len _ _ _
    obtain ⟨s, hs⟩ : ∃ s, s = PL.stream k (placeWord p) n := ⟨_, rfl⟩
    obtain ⟨t, ht⟩ : ∃ t, t = PL.stream m (placeWord q) n := ⟨_, rfl⟩
    rw [← hs] at hsl
    rw [← ht] at htl
    have XK : Hid (∀ (A : Option Addr) (c B : Nat) (b : List UInt8) (w : World), Bytes w B A n b → B ≤ w.heap.size → Calls Try.prog 19 #[.agg (keyCells k), .int .i64 p, .slice A n c] w (Streamed w n (PL.xorTo s b))) := fun A c B b w h1 h2 => by rw [hs]; exact xor_any k p A n c B b w h1 h2 (by omega)
    have XM : Hid (∀ (A : Option Addr) (c B : Nat) (b : List UInt8) (w : World), Bytes w B A n b → B ≤ w.heap.size → Calls Try.prog 19 #[.agg (keyCells m), .int .i64 q, .slice A n c] w (Streamed w n (PL.xorTo t b))) := fun A c B b w h1 h2 => by rw [ht]; exact xor_any m q A n c B b w h1 h2 (by omega)
    clear hs ht
    obtain ⟨x1, hx1⟩ : ∃ x1, x1 = PL.xorTo s l := ⟨_, rfl⟩
    obtain ⟨y1, hy1⟩ : ∃ y1, y1 = PL.xorTo t l := ⟨_, rfl⟩
    obtain ⟨z, hz⟩ : ∃ z, z = PL.xorTo t x1 := ⟨_, rfl⟩
    have hl0 := HL.out
    have x1l : x1.length = n := by rw [hx1, PL.xorTo_len (by omega)]; exact hl0
    have y1l : y1.length = n := by rw [hy1, PL.xorTo_len (by omega)]; exact hl0
    have zl : z.length = n := by rw [hz, PL.xorTo_len (by omega)]; exact x1l
    have hz2 : z = PL.xorTo s y1 := by rw [hz, hx1, hy1, PL.xorTo_swap (by omega) (by omega)]
    have hz3 : x1 = PL.xorTo t z := by rw [hz, PL.xorTo_twice (by omega)]
    have hz4 : l = PL.xorTo s x1 := by rw [hx1, PL.xorTo_twice (by omega)]
    have Q1 := Lib.hid hx1
    have Q2 := Lib.hid hy1
    have Q3 := Lib.hid hz
    have Q4 := Lib.hid hz2
    have Q5 := Lib.hid hz3
    have Q6 := Lib.hid hz4
    have N1 := Lib.hid x1l
    have N2 := Lib.hid y1l
    have N3 := Lib.hid zl
    clear hx1 hy1 hz hz2 hz3 hz4 x1l y1l zl hl0 hsl htl
    refine wp_region_seq (fun w' => Below wR.heap.size wR w') [(false, 0), (false, 1), (false, 2), (false, 3), (true, 4), (true, 5), (true, 6), (true, 7)]
      (by kernel_rfl) (by kernel_rfl) (fun _ _ d _ _ h => by cases d <;> exact h) (Below.refl _ _).drew ?_
    have hS0 : Below wR.heap.size wR wR.drew := (Below.refl _ _).drew
    generalize wR.drew = w0 at *
    iterate 4 (apply plan_take rfl rfl rfl rfl; (intro w' hS K hK; obtain ⟨c0, c1, c2, c3, c4, c5, c6, c7⟩ := key_loads (HG1.out.below hS HG1.out.lt); obtain ⟨d0, d1, d2, d3, d4, d5, d6, d7⟩ := key_loads (HG2.out.below hS HG2.out.lt); clear hS; go_simp; exact hK))
    refine plan_force rfl rfl (fun K hK => ?_); go_wp2_with fail; refine hK.out _ _ hS0 ?_; clear hK K
    refine plan_force rfl rfl (fun K hK => ?_)
    go_wp2_with fail
    (with_reducible refine (XK.out A c wR.heap.size l _ (HBR.out.below hS0) hS0.size).mono ?_)
    rintro e w1 ⟨e1, rfl, he1, hL1, hb1⟩
    have hS1 := hS0.trans (hb1.mono hS0.size)
    rw [← Q1.out] at hL1; have HL1 := Lib.hid hL1; clear hL1
    clear hS0 hb1
    go_wp2_with fail
    refine hK.out _ _ hS1 ?_; clear hK K
    refine plan_force rfl rfl (fun K hK => ?_)
    go_wp2_with fail
    (with_reducible refine (XM.out _ n w1.heap.size x1 _ (HL1.out.bytes N1.out HL1.out.lt) (Nat.le_refl _)).mono ?_)
    rintro e w2 ⟨e2, rfl, he2, hL2, hb2⟩
    have hS2 := hS1.trans (hb2.mono hS1.size)
    rw [← Q3.out] at hL2; have HL2 := Lib.hid hL2; clear hL2 HL1
    clear hS1 hb2
    go_wp2_with fail
    refine hK.out _ _ hS2 ?_; clear hK K
    refine plan_force rfl rfl (fun K hK => ?_); go_wp2_with fail; refine hK.out _ _ hS2 ?_; clear hK K
    refine plan_nil ?_
    go_wp2
    refine wp_region_seq (fun w' => Below wR.heap.size wR w') [(false, 0), (false, 1), (false, 2), (false, 3), (true, 4), (true, 5), (true, 6), (true, 7)]
      (by kernel_rfl) (by kernel_rfl) (fun _ _ d _ _ h => by cases d <;> exact h) hS2.drew ?_
    have hS3 := hS2.drew
    have HL3 : Hid (Lies w2.drew e2 z) := HL2
    clear hS2 HL2
    generalize w2.drew = w3 at *
    iterate 4 (apply plan_take rfl rfl rfl rfl; (intro w' hS K hK; obtain ⟨c0, c1, c2, c3, c4, c5, c6, c7⟩ := key_loads (HG1.out.below hS HG1.out.lt); obtain ⟨d0, d1, d2, d3, d4, d5, d6, d7⟩ := key_loads (HG2.out.below hS HG2.out.lt); clear hS; go_simp; exact hK))
    refine plan_force rfl rfl (fun K hK => ?_); go_wp2_with fail; refine hK.out _ _ hS3 ?_; clear hK K
    refine plan_force rfl rfl (fun K hK => ?_)
    go_wp2_with fail
    (with_reducible refine (XM.out A c wR.heap.size l _ (HBR.out.below hS3) hS3.size).mono ?_)
    rintro e w4 ⟨e4, rfl, he4, hL4, hb4⟩
    have hS4 := hS3.trans (hb4.mono hS3.size)
    have HL3b := Lib.hid (HL3.out.below hb4 HL3.out.lt); clear HL3; rw [← Q2.out] at hL4; have HL4 := Lib.hid hL4; clear hL4
    clear hS3 hb4
    go_wp2_with fail
    refine hK.out _ _ hS4 ?_; clear hK K
    refine plan_force rfl rfl (fun K hK => ?_)
    go_wp2_with fail
    (with_reducible refine (XK.out _ n w4.heap.size y1 _ (HL4.out.bytes N2.out HL4.out.lt) (Nat.le_refl _)).mono ?_)
    rintro e w5 ⟨e5, rfl, he5, hL5, hb5⟩
    have hS5 := hS4.trans (hb5.mono hS4.size)
    have HL3 := Lib.hid (HL3b.out.below hb5 HL3b.out.lt); clear HL3b; rw [← Q4.out] at hL5; have HL5 := Lib.hid hL5; clear hL5 HL4
    clear hS4 hb5
    go_wp2_with fail
    refine hK.out _ _ hS5 ?_; clear hK K
    refine plan_force rfl rfl (fun K hK => ?_); go_wp2_with fail; refine hK.out _ _ hS5 ?_; clear hK K
    refine plan_nil ?_
    go_wp2
    clear he1 he2 he4 he5
    refine wp_region_seq (fun w' => Below wR.heap.size wR w' ∧ Lies w' e2 z ∧ Lies w' e5 z) [(true, 0), (true, 1), (false, 2), (false, 4), (false, 7), (false, 8), (false, 9), (true, 3), (true, 5), (true, 6), (true, 10), (true, 11), (true, 12), (false, 13), (false, 14), (true, 15), (true, 16), (true, 17), (true, 18), (true, 19), (false, 20), (false, 21), (false, 22), (false, 23), (false, 24), (false, 28), (false, 29), (true, 25), (true, 26), (true, 27), (true, 30), (true, 31), (true, 32)]
      (by kernel_rfl) (by kernel_rfl) (fun _ _ d _ _ h => by cases d <;> exact h) ⟨hS5.drew, HL3.out, HL5.out⟩ ?_
    have T0 : Hid (Below wR.heap.size wR w5.drew ∧ Lies w5.drew e2 z ∧ Lies w5.drew e5 z) := ⟨hS5.drew, HL3.out, HL5.out⟩
    have HT : Hid (∀ x y : World, (Below wR.heap.size wR x ∧ Lies x e2 z ∧ Lies x e5 z) → Below x.heap.size x y → Below wR.heap.size wR y ∧ Lies y e2 z ∧ Lies y e5 z) := fun x y h hb => ⟨h.1.trans (hb.mono h.1.size), h.2.1.below hb h.2.1.lt, h.2.2.below hb h.2.2.lt⟩
    clear hS5 HL3 HL5
    generalize w5.drew = v0 at *
    refine plan_force rfl rfl (fun K hK => ?_)
    go_wp2_with fail
    (with_reducible refine (told14 _).mono ?_)
    rintro e v1 ⟨rfl, hb1⟩
    have T1 := Lib.hid (HT.out _ _ T0.out hb1)
    clear T0 hb1
    go_wp2_with fail
    refine hK.out _ _ T1.out ?_; clear hK K
    refine plan_force rfl rfl (fun K hK => ?_); go_wp2_with fail; refine hK.out _ _ T1.out ?_; clear hK K
    iterate 5 (apply plan_take rfl rfl rfl rfl; (intro w' hS K hK; obtain ⟨c0, c1, c2, c3, c4, c5, c6, c7⟩ := key_loads (HG1.out.below hS.1 HG1.out.lt); obtain ⟨d0, d1, d2, d3, d4, d5, d6, d7⟩ := key_loads (HG2.out.below hS.1 HG2.out.lt); have heq := eq_keys k m w'; clear hS; go_simp; exact hK))
    refine plan_force rfl rfl (fun K hK => ?_)
    go_wp2_with fail
    (with_reducible refine (mix_any k _).mono ?_)
    rintro e v2 ⟨rfl, hb2⟩
    have T2 := Lib.hid (HT.out _ _ T1.out hb2)
    clear T1 hb2
    go_wp2_with fail
    refine hK.out _ _ T2.out ?_; clear hK K
    refine plan_force rfl rfl (fun K hK => ?_)
    go_wp2_with fail
    (with_reducible refine (mix_any m _).mono ?_)
    rintro e v3 ⟨rfl, hb3⟩
    have T3 := Lib.hid (HT.out _ _ T2.out hb3)
    clear T2 hb3
    go_wp2_with fail
    refine hK.out _ _ T3.out ?_; clear hK K
    have heq := eq_keys (PL.mix k) (PL.mix m) v3
    rw [LK.same_mix] at heq
    refine plan_force rfl rfl (fun K hK => ?_); go_wp2_with fail; refine hK.out _ _ T3.out ?_; clear hK K
    clear heq
    iterate 3 (refine plan_force rfl rfl (fun K hK => ?_); go_wp2_with fail; refine hK.out _ _ T3.out ?_; clear hK K)
    iterate 2 (apply plan_take rfl rfl rfl rfl; (intro w' hS K hK; have hcv := conv_bytes (P := Try.prog) conv_u8 n (hS.2.1.bytes N3.out hS.2.1.lt); clear hS; go_simp; exact hK))
    refine plan_force rfl rfl (fun K hK => ?_); go_wp2_with fail; refine hK.out _ _ T3.out ?_; clear hK K
    have hcv := conv_bytes (P := Try.prog) conv_u8 n (T3.out.2.2.bytes N3.out T3.out.2.2.lt)
    refine plan_force rfl rfl (fun K hK => ?_); go_wp2_with fail; refine hK.out _ _ T3.out ?_; clear hK K
    clear hcv
    iterate 3 (refine plan_force rfl rfl (fun K hK => ?_); go_wp2_with fail; refine hK.out _ _ T3.out ?_; clear hK K)
    iterate 7 (apply plan_take rfl rfl rfl rfl; (intro w' hS K hK; obtain ⟨c0, c1, c2, c3, c4, c5, c6, c7⟩ := key_loads (HG1.out.below hS.1 HG1.out.lt); obtain ⟨d0, d1, d2, d3, d4, d5, d6, d7⟩ := key_loads (HG2.out.below hS.1 HG2.out.lt); have hcv := conv_bytes (P := Try.prog) conv_u8 c (HBR.out.below hS.1); clear hS; go_simp; exact hK))
    refine plan_force rfl rfl (fun K hK => ?_)
    go_wp2_with fail
    (with_reducible refine (XM.out _ n v3.heap.size z _ (T3.out.2.1.bytes N3.out T3.out.2.1.lt) (Nat.le_refl _)).mono ?_)
    rintro e v4 ⟨f4, rfl, hf4, hL4, hb4⟩
    have T4 := Lib.hid (HT.out _ _ T3.out hb4)
    rw [← Q5.out] at hL4; have HL4 := Lib.hid hL4; clear hL4
    clear T3 hb4
    go_wp2_with fail
    refine hK.out _ _ T4.out ?_; clear hK K
    refine plan_force rfl rfl (fun K hK => ?_)
    go_wp2_with fail
    (with_reducible refine (XK.out _ n v4.heap.size x1 _ (HL4.out.bytes N1.out HL4.out.lt) (Nat.le_refl _)).mono ?_)
    rintro e v5 ⟨f5, rfl, hf5, hL5, hb5⟩
    have T5 := Lib.hid (HT.out _ _ T4.out hb5)
    rw [← Q6.out] at hL5; have HL5 := Lib.hid hL5; clear hL5 HL4
    clear T4 hb5
    go_wp2_with fail
    refine hK.out _ _ T5.out ?_; clear hK K
    have hcv := conv_bytes (P := Try.prog) conv_u8 n (HL5.out.bytes HL.out HL5.out.lt)
    refine plan_force rfl rfl (fun K hK => ?_); go_wp2_with fail; refine hK.out _ _ T5.out ?_; clear hK K
    clear hcv
    iterate 3 (refine plan_force rfl rfl (fun K hK => ?_); go_wp2_with fail; refine hK.out _ _ T5.out ?_; clear hK K)
    refine plan_nil ?_
    go_wp2
    go_ret
    exact ⟨rfl, hW.trans (T5.out.1.mono hle)⟩
  have HF := Lib.hid fin
  clear fin hK
  have HK1 : Hid (Blk ((w.alloc (Obj.cells (keyCells k) 29)).alloc (Obj.cells (keyCells m) 29)) w.heap.size 29 (keyCells k)) := (Blk.new w 29 (keyCells k)).alloc _
  have HK2 : Hid (Blk ((w.alloc (Obj.cells (keyCells k) 29)).alloc (Obj.cells (keyCells m) 29)) (w.heap.size + 1) 29 (keyCells m)) := by
    have := Blk.new (w.alloc (Obj.cells (keyCells k) 29)) 29 (keyCells m)
    rwa [World.size_alloc] at this
  have hWR : Below w.heap.size w ((w.alloc (Obj.cells (keyCells k) 29)).alloc (Obj.cells (keyCells m) 29)) := ((Below.refl _ _).alloc (Nat.le_refl _) _).alloc (by simp) _
  generalize (w.alloc (Obj.cells (keyCells k) 29)).alloc (Obj.cells (keyCells m) 29) = wR at *
  have hS0 : Below wR.heap.size wR wR.drew := (Below.refl _ _).drew
  refine wp_region_forks (fun x => Below wR.heap.size wR x) (by kernel_rfl) ?_
  generalize wR.drew = w0 at *
  refine wpAnyG_prefix (S := fun x => Below wR.heap.size wR x) (by kernel_rfl) (fun _ _ d _ _ h => by cases d <;> exact h) 4 [(false, 0), (false, 1)] _ _ _ (by rfl) (by kernel_rfl) hS0 ?_
  iterate 2 (apply planK_take rfl rfl rfl rfl; (intro w' hS K hK; obtain ⟨c0, c1, c2, c3, c4, c5, c6, c7⟩ := key_loads (HK1.out.below hS HK1.out.lt); obtain ⟨d0, d1, d2, d3, d4, d5, d6, d7⟩ := key_loads (HK2.out.below hS HK2.out.lt); clear hS; go_simp; exact hK))
  refine planK_nil (fun _ => ?_)
  have hs0 := hS0.size
  refine wpAnyG_fork (i := 2) (j := 3) (fuel := 3) (by kernel_rfl) rfl rfl rfl rfl (fun K1 h1 => ?_) (fun K1 h1 => ?_)
  · have hS1 := hS0.alloc hS0.size (Obj.cells #[.int .u32 0, .int .u32 0, .int .u32 0, .int .u32 0, .int .u32 0, .int .u32 0, .int .u32 0, .int .u32 0] 31)
    have hB1 := Blk.new w0 31 #[.int .u32 0, .int .u32 0, .int .u32 0, .int .u32 0, .int .u32 0, .int .u32 0, .int .u32 0, .int .u32 0]
    have hs1 : (w0.alloc (Obj.cells #[.int .u32 0, .int .u32 0, .int .u32 0, .int .u32 0, .int .u32 0, .int .u32 0, .int .u32 0, .int .u32 0] 31)).heap.size = w0.heap.size + 1 := by rw [World.size_alloc]
    go_wp2_with fail
    refine h1.out _ _ hS1 (fun _ => ?_)
    clear h1 K1
    generalize w0.alloc (Obj.cells #[.int .u32 0, .int .u32 0, .int .u32 0, .int .u32 0, .int .u32 0, .int .u32 0, .int .u32 0, .int .u32 0] 31) = v1 at *
    refine wpAnyG_plan (S := fun x => Below wR.heap.size wR x) (by kernel_rfl) (fun _ _ d _ _ h => by cases d <;> exact h) [(true, 3), (true, 4), (true, 5)] _ _ _ (by rfl) (by kernel_rfl) hS1 ?_
    refine plan_force rfl rfl (fun K' hK' => ?_)
    have hS2 := hS1.alloc hS1.size (Obj.cells #[.int .u32 0, .int .u32 0, .int .u32 0, .int .u32 0, .int .u32 0, .int .u32 0, .int .u32 0, .int .u32 0] 31)
    have hB2 := Blk.new v1 31 #[.int .u32 0, .int .u32 0, .int .u32 0, .int .u32 0, .int .u32 0, .int .u32 0, .int .u32 0, .int .u32 0]
    rw [hs1] at hB2
    have hB3 := hB1.alloc (Obj.cells #[.int .u32 0, .int .u32 0, .int .u32 0, .int .u32 0, .int .u32 0, .int .u32 0, .int .u32 0, .int .u32 0] 31)
    go_wp2_with fail
    refine hK'.out _ _ hS2 ?_; clear hK' K'
    generalize v1.alloc (Obj.cells #[.int .u32 0, .int .u32 0, .int .u32 0, .int .u32 0, .int .u32 0, .int .u32 0, .int .u32 0, .int .u32 0] 31) = v2 at *
    refine plan_force rfl rfl (fun K' hK' => ?_)
    refine LK.wp_store_key (.tmp 11) (.tmp 19) rfl (w0.heap.size) k _ _ rfl rfl hB3 rfl ?_
    intro v3 hB4 hg4 hs4
    have hS3 := hS2.grown hg4 hS2.size (by rintro k ⟨⟩; omega)
    have hB5 := hB2.grown hg4 (by simp)
    refine hK'.out _ _ hS3 ?_; clear hK' K'
    refine plan_force rfl rfl (fun K' hK' => ?_)
    refine LK.wp_store_key (.tmp 12) (.tmp 20) rfl (w0.heap.size + 1) m _ _ rfl rfl hB5 rfl ?_
    intro v4 hB6 hg6 hs6
    have hS4 := hS3.grown hg6 hS3.size (by rintro k ⟨⟩; omega)
    have hB7 := hB4.grown hg6 (by simp)
    refine hK'.out _ _ hS4 ?_; clear hK' K'
    refine plan_nil ?_
    exact HF.out _ _ (w0.heap.size) (w0.heap.size + 1) ⟨slot [_, _, undef, undef, undef, _, _, _, _, _, undef, undef, undef, _, _, _, _, _, _, _, _, _, _, _, _, _, _, _, _, _, _, _, _, _, _, _, _, _, _, _, _, _, _, _, _, _, _, _, _, _, _, _, _, _, _, _, _, _, _, _, _, _, _, _, _, _, _], rfl⟩ hB7 hB6 (hWR.trans (hS4.mono hWR.size))
  · have hS1 := hS0.alloc hS0.size (Obj.cells #[.int .u32 0, .int .u32 0, .int .u32 0, .int .u32 0, .int .u32 0, .int .u32 0, .int .u32 0, .int .u32 0] 31)
    have hB1 := Blk.new w0 31 #[.int .u32 0, .int .u32 0, .int .u32 0, .int .u32 0, .int .u32 0, .int .u32 0, .int .u32 0, .int .u32 0]
    have hs1 : (w0.alloc (Obj.cells #[.int .u32 0, .int .u32 0, .int .u32 0, .int .u32 0, .int .u32 0, .int .u32 0, .int .u32 0, .int .u32 0] 31)).heap.size = w0.heap.size + 1 := by rw [World.size_alloc]
    go_wp2_with fail
    refine h1.out _ _ hS1 (fun _ => ?_)
    clear h1 K1
    generalize w0.alloc (Obj.cells #[.int .u32 0, .int .u32 0, .int .u32 0, .int .u32 0, .int .u32 0, .int .u32 0, .int .u32 0, .int .u32 0] 31) = v1 at *
    refine wpAnyG_plan (S := fun x => Below wR.heap.size wR x) (by kernel_rfl) (fun _ _ d _ _ h => by cases d <;> exact h) [(true, 2), (true, 4), (true, 5)] _ _ _ (by rfl) (by kernel_rfl) hS1 ?_
    refine plan_force rfl rfl (fun K' hK' => ?_)
    have hS2 := hS1.alloc hS1.size (Obj.cells #[.int .u32 0, .int .u32 0, .int .u32 0, .int .u32 0, .int .u32 0, .int .u32 0, .int .u32 0, .int .u32 0] 31)
    have hB2 := Blk.new v1 31 #[.int .u32 0, .int .u32 0, .int .u32 0, .int .u32 0, .int .u32 0, .int .u32 0, .int .u32 0, .int .u32 0]
    rw [hs1] at hB2
    have hB3 := hB1.alloc (Obj.cells #[.int .u32 0, .int .u32 0, .int .u32 0, .int .u32 0, .int .u32 0, .int .u32 0, .int .u32 0, .int .u32 0] 31)
    go_wp2_with fail
    refine hK'.out _ _ hS2 ?_; clear hK' K'
    generalize v1.alloc (Obj.cells #[.int .u32 0, .int .u32 0, .int .u32 0, .int .u32 0, .int .u32 0, .int .u32 0, .int .u32 0, .int .u32 0] 31) = v2 at *
    refine plan_force rfl rfl (fun K' hK' => ?_)
    refine LK.wp_store_key (.tmp 11) (.tmp 19) rfl (w0.heap.size + 1) k _ _ rfl rfl hB2 rfl ?_
    intro v3 hB4 hg4 hs4
    have hS3 := hS2.grown hg4 hS2.size (by rintro k ⟨⟩; omega)
    have hB5 := hB3.grown hg4 (by simp)
    refine hK'.out _ _ hS3 ?_; clear hK' K'
    refine plan_force rfl rfl (fun K' hK' => ?_)
    refine LK.wp_store_key (.tmp 12) (.tmp 20) rfl (w0.heap.size) m _ _ rfl rfl hB5 rfl ?_
    intro v4 hB6 hg6 hs6
    have hS4 := hS3.grown hg6 hS3.size (by rintro k ⟨⟩; omega)
    have hB7 := hB4.grown hg6 (by simp)
    refine hK'.out _ _ hS4 ?_; clear hK' K'
    refine plan_nil ?_
    exact HF.out _ _ (w0.heap.size + 1) (w0.heap.size) ⟨slot [_, _, undef, undef, undef, _, _, _, _, _, undef, undef, undef, _, _, _, _, _, _, _, _, _, _, _, _, _, _, _, _, _, _, _, _, _, _, _, _, _, _, _, _, _, _, _, _, _, _, _, _, _, _, _, _, _, _, _, _, _, _, _, _, _, _, _, _, _, _], rfl⟩ hB7 hB6 (hWR.trans (hS4.mono hWR.size))
theorem walkLaneKeys (k m : PL.K8) (p q : Int) (A : Option Addr) (n c : Nat) (l : List UInt8) (w : World) (hp : (Lit.int .i64 p).wf = true) (hq : (Lit.int .i64 q).wf = true) (hb : Bytes w w.heap.size A n l) (hc : n ≤ c) (hm : c ≤ maxLen) (hz : A = none → n = 0 ∧ c = 0) :
    Calls Try.prog 7 #[.agg (keyCells k), .agg (keyCells m), .int .i64 p, .int .i64 q, .slice A n c] w fun e w' => e = .returned (.bool true) ∧ Below w.heap.size w w' := by
  by_cases hn : n ≤ 100
  · exact laneKeys k m p q A n c l w hb hn
  · have hb1 : Below w.heap.size w ((w.alloc (Obj.cells (keyCells k) 29)).alloc (Obj.cells (keyCells m) 29)) := ((Below.refl _ _).alloc (Nat.le_refl _) _).alloc (by simp) _
    unfold maxLen at hm
    clear hz hb
    have h2 : 100 < (n : Int) := by omega
    go_enter Try.func7, Try.ntmps7
    go_wp2_with (go_at_call 13; refine (told14 _).mono ?_; rintro e w2 ⟨rfl, hb2⟩)
    go_ret
    exact ⟨rfl, hb1.trans (hb2.mono hb1.size)⟩
end Go.Proofs.Ytobbjhbjjhnicaa
