/- The walk of LaneAsks: Quarter, Mix, Stream and Xor give what the reference gives. -/
import Derived.Test.YtobbjhbjjhnicaaTold14
import Derived.Test.YtobbjhbjjhnicaaRefStream
import Derived.Test.YtobbjhbjjhnicaaStronger
namespace Go.Proofs.Ytobbjhbjjhnicaa
open Go.RowKit
set_option linter.unusedVariables false
namespace LA
/-- The stream's bytes, none where the length is below 0. -/
def str (k : PL.K8) (p m : Int) : List UInt8 := if m < 0 then [] else PL.stream k (placeWord p) m.toNat
theorem lane (k : PL.K8) (p m : Int) (w : World) (h : m ≤ 300) :
    Calls Try.prog 17 #[.agg (keyCells k), .int .i64 p, .int .i64 m] w fun e w' => ∃ A n c, e = .returned (.slice A n c) ∧ Bytes w' w'.heap.size A n (str k p m) ∧ Below w.heap.size w w' := by
  unfold str
  by_cases h0 : m < 0
  · rw [if_pos h0]
    refine (stream_bad k p m w h0).mono ?_
    rintro e w' ⟨rfl, hb⟩
    exact ⟨none, 0, 0, rfl, Bytes.empty, hb⟩
  · rw [if_neg h0]
    have hs := stream_any k p m.toNat w (by omega)
    rw [show ((m.toNat : Nat) : Int) = m from by omega] at hs
    refine hs.mono ?_
    rintro e w' ⟨g, rfl, hg, hL, hb⟩
    exact ⟨_, _, _, rfl, hL.bytes (PL.stream_len _ _ _) hL.lt, hb⟩
theorem ref (k : PL.K8) (p m : Int) (w : World) (h : m ≤ 300) :
    Calls Try.prog 18 #[.agg (keyCells k), .int .i64 p, .int .i64 m] w fun e w' => e = .returned (.string ⟨(str k p m).toArray⟩) ∧ Below w.heap.size w w' := by
  unfold str
  by_cases h0 : m < 0
  · rw [if_pos h0]
    exact refStream_bad k p m w h0
  · rw [if_neg h0]
    have hs := refStream_any k p m.toNat w (by omega)
    rw [show ((m.toNat : Nat) : Int) = m from by omega] at hs
    exact hs
end LA
set_option maxRecDepth 100000 in
set_option maxHeartbeats 4000000 in
theorem laneAsks1 (k : PL.K8) (p x : Int) (A : Option Addr) (n c : Nat) (l : List UInt8) (w : World) (hb : Bytes w w.heap.size A n l) (hn : n ≤ 200) (hm : x ≤ 300) :
    Calls Try.prog 4 #[.agg (keyCells k), .int .i64 p, .int .i64 x, .slice A n c] w fun e w' => e = .returned (.bool true) ∧ Below w.heap.size w w' := by
  have HB := Lib.hid hb
  have HL := Lib.hid hb.len
  clear hb
  have mx := mix_any k
  have rmx := refMix_any k
  generalize PL.mix k = M at mx rmx
  have RST : Hid (∀ w, Calls Try.prog 18 #[.agg (keyCells k), .int .i64 p, .int .i64 x] w fun e w' => e = .returned (.string ⟨(LA.str k p x).toArray⟩) ∧ Below w.heap.size w w') := fun w => LA.ref k p x w (by omega)
  have MX := Lib.hid mx
  have RMX := Lib.hid rmx
  clear mx rmx
  have h2 : ¬ (200 < (n : Int)) := by omega
  have HK0 := Lib.hid (Blk.new w 29 (keyCells k))
  have hW0 : Below w.heap.size w (w.alloc (Obj.cells (keyCells k) 29)) := (Below.refl _ _).alloc (Nat.le_refl _) _
  obtain ⟨c0, c1, c2, c3, c4, c5, c6, c7⟩ := key_loads HK0.out
  go_enter Try.func4, Try.ntmps4
  go_wp2_with fail
  generalize w.alloc (Obj.cells (keyCells k) 29) = w0 at *
  (with_reducible refine (quarter_any k.k0 k.k1 k.k2 k.k3 _).mono ?_)
  rintro e w1 ⟨rfl, rfl⟩
  go_wp2_with fail
  (with_reducible refine (refQuarter_any k.k0 k.k1 k.k2 k.k3 _).mono ?_)
  rintro e w1 ⟨rfl, rfl⟩
  go_wp2_with fail
  generalize (PL.quarter k.k0 k.k1 k.k2 k.k3).1 = q0 at *
  generalize (PL.quarter k.k0 k.k1 k.k2 k.k3).2.1 = q1 at *
  generalize (PL.quarter k.k0 k.k1 k.k2 k.k3).2.2.1 = q2 at *
  generalize (PL.quarter k.k0 k.k1 k.k2 k.k3).2.2.2 = q3 at *
  (with_reducible refine (MX.out _).mono ?_)
  rintro e w1 ⟨rfl, hb1⟩
  have HK1 := Lib.hid (HK0.out.below hb1 HK0.out.lt)
  have hW1 := hW0.trans (hb1.mono hW0.size)
  clear HK0 hW0 hb1 c0 c1 c2 c3 c4 c5 c6 c7
  have HK2 := Lib.hid (HK1.out.alloc (Obj.cells (keyCells M) 31))
  have HM2 := Lib.hid (Blk.new w1 31 (keyCells M))
  have hW2 := hW1.alloc hW1.size (Obj.cells (keyCells M) 31)
  have hs1 := hW1.size
  have hs2 : (w1.alloc (Obj.cells (keyCells M) 31)).heap.size = w1.heap.size + 1 := by rw [World.size_alloc]
  obtain ⟨c0, c1, c2, c3, c4, c5, c6, c7⟩ := key_loads HK2.out
  go_wp2_with fail
  generalize w1.alloc (Obj.cells (keyCells M) 31) = w2 at *
  (with_reducible refine (RMX.out _).mono ?_)
  rintro e w3 ⟨rfl, hb3⟩
  have HK3 := Lib.hid (HK2.out.below hb3 HK2.out.lt)
  have HM3 := Lib.hid (HM2.out.below hb3 HM2.out.lt)
  have hW3 := hW2.trans (hb3.mono hW2.size)
  have HK4 := Lib.hid (HK3.out.alloc (Obj.cells (keyCells M) 33))
  have HM4 := Lib.hid (HM3.out.alloc (Obj.cells (keyCells M) 33))
  have HN4 := Lib.hid (Blk.new w3 33 (keyCells M))
  have hW4 := hW3.alloc hW3.size (Obj.cells (keyCells M) 33)
  clear HK1 HK2 HM2 hW1 hW2 hb3 HK3 HM3 hW3 c0 c1 c2 c3 c4 c5 c6 c7 hs1 hs2
  go_wp2_with fail
  generalize w3.alloc (Obj.cells (keyCells M) 33) = w4 at *
  generalize w3.heap.size = G2 at *
  generalize w1.heap.size = G1 at *
  go_loopw [20] (fun i wr => ∃ (j : Nat), j ≤ 8 ∧ i = .int .i64 (j : Int) ∧ Hid (Blk wr w.heap.size 29 (keyCells k)) ∧ Hid (Blk wr G1 31 (keyCells M)) ∧ Hid (Blk wr G2 33 (keyCells M)) ∧ Below w.heap.size w wr) (fun i _ => 8 - (intOf i).toNat)
  case atStart => exact ⟨0, by omega, rfl, HK4, HM4, HN4, hW4⟩
  case round =>
    clear HK4 HM4 HN4 hW4
    obtain ⟨j, hj, rfl, HK, HM, HN, hW⟩ := hrel
    by_cases hlt : j < 8
    · have t3 : (j : Int) < 8 := by omega
      have j0 : (0 : Int) ≤ (j : Int) := by omega
      go_wp2_with fail
      refine wp_region_seq (fun x => x = wr.drew) [(false, 0), (false, 1), (false, 2), (true, 3), (true, 4), (true, 5), (true, 6)]
        (by kernel_rfl) (by kernel_rfl) (fun _ _ d _ _ h => by cases d <;> exact h) rfl ?_
      have hcj : wr.drew.cell? ⟨G1, j, none⟩ = some (u32v (M.get j)) := by rw [HM.out.drew.cell]; exact keyCells_get _ _ hlt
      have hmj : wr.drew.cell? ⟨G2, j, none⟩ = some (u32v (M.get j)) := by rw [HN.out.drew.cell]; exact keyCells_get _ _ hlt
      have HK' : Hid (Blk wr.drew w.heap.size 29 (keyCells k)) := HK
      have HM' : Hid (Blk wr.drew G1 31 (keyCells M)) := HM
      have HN' : Hid (Blk wr.drew G2 33 (keyCells M)) := HN
      have hW' := hW.drew
      clear HK HM HN hW
      generalize wr.drew = wd at *
      iterate 3 (apply plan_take rfl rfl rfl rfl; (intro w' hS K hK; subst hS; go_simp; exact hK))
      iterate 4 (refine plan_force rfl rfl (fun K hK => ?_); go_wp2_with fail; refine hK.out _ _ rfl ?_; clear hK K)
      refine plan_nil ?_
      go_wp2_with fail
      go_roundw
      case rel => exact ⟨j + 1, hlt, by go_num, HK', HM', HN', hW'⟩
      case measure => simp [intOf]; omega
    · obtain rfl : j = 8 := by omega
      clear HM HN
      have hle := hW.size
      have HBR := Lib.hid ((HB.out.below hW).more hle)
      clear HB
      go_wp2_with fail
      refine wp_region_plans (fun w' => Below wr.heap.size wr w' ∧ True) [[(true, 0), (true, 1), (false, 2), (true, 3), (true, 4), (true, 5), (true, 6), (false, 7), (true, 8), (true, 9), (true, 10), (true, 11), (false, 12), (true, 13), (true, 14), (true, 15), (true, 16), (false, 17), (true, 18), (true, 19), (true, 20), (true, 21), (false, 22), (false, 23), (false, 24), (false, 27), (false, 28), (false, 29), (true, 25)], [(false, 26), (true, 30), (true, 31), (true, 32), (true, 33), (false, 34), (false, 35), (false, 36), (false, 39), (false, 40), (false, 41), (false, 42), (true, 37)], [(false, 38), (true, 43), (true, 44), (true, 45), (true, 46)]]
        (by kernel_rfl) (by kernel_rfl) (fun _ _ d _ _ h => by cases d <;> exact h) ⟨(Below.refl _ _).drew, trivial⟩ ?_
      have T0 : Hid (Below wr.heap.size wr wr.drew ∧ True) := ⟨(Below.refl _ _).drew, trivial⟩
      have HT : Hid (∀ x y : World, (Below wr.heap.size wr x ∧ True) → Below x.heap.size x y → Below wr.heap.size wr y ∧ True) := fun x y h hb => ⟨h.1.trans (hb.mono h.1.size), trivial⟩
      generalize wr.drew = v0 at *
      refine plans_cons ?_
      refine planK_force rfl rfl (fun K hK => ?_)
      go_wp2_with fail
      (with_reducible refine (told14 _).mono ?_)
      rintro e v1 ⟨rfl, hb1⟩
      have T1 := Lib.hid (HT.out _ _ T0.out hb1)
      clear T0 hb1
      go_wp2_with fail
      refine hK.out _ _ T1.out ?_; clear hK K
      refine planK_force rfl rfl (fun K hK => ?_); go_wp2_with fail; refine hK.out _ _ T1.out ?_; clear hK K
      iterate 4 ((iterate 1 (apply planK_take rfl rfl rfl rfl; (intro w' hS K hK; clear hS; go_simp; exact hK))); (iterate 4 (refine planK_force rfl rfl (fun K hK => ?_); go_wp2_with fail; refine hK.out _ _ T1.out ?_; clear hK K)))
      iterate 6 (apply planK_take rfl rfl rfl rfl; (intro w' hS K hK; obtain ⟨c0, c1, c2, c3, c4, c5, c6, c7⟩ := key_loads (HK.out.below hS.1 HK.out.lt); clear hS; go_simp; exact hK))
      refine planK_force rfl rfl (fun K hK => ?_)
      go_wp2_with fail
      (with_reducible refine (LA.lane k p x _ (by omega)).mono ?_)
      rintro e v2 ⟨A2, n2, k2, rfl, hY2, hb2⟩
      have T2 := Lib.hid (HT.out _ _ T1.out hb2)
      have HY2 := Lib.hid hY2; clear hY2
      clear T1 hb2
      go_wp2_with fail
      refine hK.out _ _ T2.out ?_; clear hK K
      refine planK_nil (fun _ => ⟨fun y => (Below wr.heap.size wr y ∧ True) ∧ Below v2.heap.size v2 y, fun _ h => h.1, ⟨T2.out, Below.refl _ _⟩, ?_⟩)
      have U2 : Hid ((Below wr.heap.size wr v2 ∧ True) ∧ Below v2.heap.size v2 v2) := ⟨T2.out, Below.refl _ _⟩
      have HU : Hid (∀ x y : World, ((Below wr.heap.size wr x ∧ True) ∧ Below v2.heap.size v2 x) → Below x.heap.size x y → (Below wr.heap.size wr y ∧ True) ∧ Below v2.heap.size v2 y) := fun x y h hb => ⟨HT.out x y h.1 hb, h.2.trans (hb.mono h.2.size)⟩
      clear T2
      refine plans_cons ?_
      iterate 1 (apply planK_take rfl rfl rfl rfl; (intro w' hS K hK; have hcv := conv_bytes (P := Try.prog) conv_u8 k2 (HY2.out.below hS.2); clear hS; go_simp; exact hK))
      generalize LA.str k p x = STR at *
      refine planK_force rfl rfl (fun K hK => ?_)
      go_wp2_with fail
      (with_reducible refine (RST.out _).mono ?_)
      rintro e v3 ⟨rfl, hb3⟩
      have U3 := Lib.hid (HU.out _ _ U2.out hb3)
      clear U2 hb3
      go_wp2_with fail
      refine hK.out _ _ U3.out ?_; clear hK K
      iterate 3 (refine planK_force rfl rfl (fun K hK => ?_); go_wp2_with fail; refine hK.out _ _ U3.out ?_; clear hK K)
      iterate 7 (apply planK_take rfl rfl rfl rfl; (intro w' hS K hK; obtain ⟨c0, c1, c2, c3, c4, c5, c6, c7⟩ := key_loads (HK.out.below hS.1.1 HK.out.lt); have hcv := conv_bytes (P := Try.prog) conv_u8 c (HBR.out.below hS.1.1); clear hS; go_simp; exact hK))
      refine planK_force rfl rfl (fun K hK => ?_)
      go_wp2_with fail
      (with_reducible refine (xor_any k p A n c wr.heap.size l _ (HBR.out.below U3.out.1.1) U3.out.1.1.size (by omega)).mono ?_)
      rintro e v4 ⟨g4, rfl, hg4, hL4, hb4⟩
      have U4 := Lib.hid (HU.out _ _ U3.out hb4)
      have HL4 := Lib.hid hL4
      clear U3 hb4 hL4
      go_wp2_with fail
      refine hK.out _ _ U4.out ?_; clear hK K
      refine planK_nil (fun _ => ⟨fun y => ((Below wr.heap.size wr y ∧ True) ∧ Below v2.heap.size v2 y) ∧ Below v4.heap.size v4 y, fun _ h => h.1, ⟨U4.out, Below.refl _ _⟩, ?_⟩)
      have V4 : Hid (((Below wr.heap.size wr v4 ∧ True) ∧ Below v2.heap.size v2 v4) ∧ Below v4.heap.size v4 v4) := ⟨U4.out, Below.refl _ _⟩
      have hsl : (PL.stream k (placeWord p) n).length = n := PL.stream_len _ _ _
      have hxl : (PL.xorTo (PL.stream k (placeWord p) n) l).length = n := by rw [PL.xorTo_len (by rw [hsl, HL.out])]; exact HL.out
      have HXL := Lib.hid hxl
      have hrx : ∀ w, Calls Try.prog 20 #[.agg (keyCells k), .int .i64 p, .string ⟨l.toArray⟩] w fun e w' => e = .returned (.string ⟨(PL.xorTo (PL.stream k (placeWord p) n) l).toArray⟩) ∧ Below w.heap.size w w' := by
        intro w
        have hz : (⟨l.toArray⟩ : ByteArray).size = n := by show l.toArray.size = n; rw [List.size_toArray]; exact HL.out
        have h := refXor_any k p ⟨l.toArray⟩ w (by omega)
        rw [hz] at h
        exact h
      have HRX := Lib.hid hrx
      clear hrx hsl hxl U4
      generalize PL.xorTo (PL.stream k (placeWord p) n) l = XX at *
      refine plans_cons ?_
      iterate 1 (apply planK_take rfl rfl rfl rfl; (intro w' hS K hK; have hcv := conv_bytes (P := Try.prog) conv_u8 n ((HL4.out.below hS.2 HL4.out.lt).bytes HXL.out (HL4.out.below hS.2 HL4.out.lt).lt); clear hS; go_simp; exact hK))
      refine planK_force rfl rfl (fun K hK => ?_)
      go_wp2_with fail
      (with_reducible refine (HRX.out _).mono ?_)
      rintro e v5 ⟨rfl, hb5⟩
      have V5 : Hid (((Below wr.heap.size wr v5 ∧ True) ∧ Below v2.heap.size v2 v5) ∧ Below v4.heap.size v4 v5) := ⟨HU.out _ _ V4.out.1 hb5, V4.out.2.trans (hb5.mono V4.out.2.size)⟩
      clear V4 hb5
      go_wp2_with fail
      refine hK.out _ _ V5.out ?_; clear hK K
      iterate 3 (refine planK_force rfl rfl (fun K hK => ?_); go_wp2_with fail; refine hK.out _ _ V5.out ?_; clear hK K)
      refine planK_nil (fun _ => ⟨_, fun _ h => h, V5.out, ?_⟩)
      refine plans_nil ?_
      go_wp2
      go_ret
      exact ⟨rfl, hW.trans (V5.out.1.1.1.mono hle)⟩
set_option maxRecDepth 100000 in
set_option maxHeartbeats 4000000 in
theorem laneAsks2 (k : PL.K8) (p x : Int) (A : Option Addr) (n c : Nat) (l : List UInt8) (w : World) (hb : Bytes w w.heap.size A n l) (hn : n ≤ 200) (hm : 300 < x) :
    Calls Try.prog 4 #[.agg (keyCells k), .int .i64 p, .int .i64 x, .slice A n c] w fun e w' => e = .returned (.bool true) ∧ Below w.heap.size w w' := by
  have HB := Lib.hid hb
  have HL := Lib.hid hb.len
  clear hb
  have mx := mix_any k
  have rmx := refMix_any k
  generalize PL.mix k = M at mx rmx
  have RST : Hid (∀ w, Calls Try.prog 18 #[.agg (keyCells k), .int .i64 p, .int .i64 300] w fun e w' => e = .returned (.string ⟨(LA.str k p 300).toArray⟩) ∧ Below w.heap.size w w') := fun w => LA.ref k p 300 w (by omega)
  have MX := Lib.hid mx
  have RMX := Lib.hid rmx
  clear mx rmx
  have h2 : ¬ (200 < (n : Int)) := by omega
  have HK0 := Lib.hid (Blk.new w 29 (keyCells k))
  have hW0 : Below w.heap.size w (w.alloc (Obj.cells (keyCells k) 29)) := (Below.refl _ _).alloc (Nat.le_refl _) _
  obtain ⟨c0, c1, c2, c3, c4, c5, c6, c7⟩ := key_loads HK0.out
  go_enter Try.func4, Try.ntmps4
  go_wp2_with fail
  generalize w.alloc (Obj.cells (keyCells k) 29) = w0 at *
  (with_reducible refine (quarter_any k.k0 k.k1 k.k2 k.k3 _).mono ?_)
  rintro e w1 ⟨rfl, rfl⟩
  go_wp2_with fail
  (with_reducible refine (refQuarter_any k.k0 k.k1 k.k2 k.k3 _).mono ?_)
  rintro e w1 ⟨rfl, rfl⟩
  go_wp2_with fail
  generalize (PL.quarter k.k0 k.k1 k.k2 k.k3).1 = q0 at *
  generalize (PL.quarter k.k0 k.k1 k.k2 k.k3).2.1 = q1 at *
  generalize (PL.quarter k.k0 k.k1 k.k2 k.k3).2.2.1 = q2 at *
  generalize (PL.quarter k.k0 k.k1 k.k2 k.k3).2.2.2 = q3 at *
  (with_reducible refine (MX.out _).mono ?_)
  rintro e w1 ⟨rfl, hb1⟩
  have HK1 := Lib.hid (HK0.out.below hb1 HK0.out.lt)
  have hW1 := hW0.trans (hb1.mono hW0.size)
  clear HK0 hW0 hb1 c0 c1 c2 c3 c4 c5 c6 c7
  have HK2 := Lib.hid (HK1.out.alloc (Obj.cells (keyCells M) 31))
  have HM2 := Lib.hid (Blk.new w1 31 (keyCells M))
  have hW2 := hW1.alloc hW1.size (Obj.cells (keyCells M) 31)
  have hs1 := hW1.size
  have hs2 : (w1.alloc (Obj.cells (keyCells M) 31)).heap.size = w1.heap.size + 1 := by rw [World.size_alloc]
  obtain ⟨c0, c1, c2, c3, c4, c5, c6, c7⟩ := key_loads HK2.out
  go_wp2_with fail
  generalize w1.alloc (Obj.cells (keyCells M) 31) = w2 at *
  (with_reducible refine (RMX.out _).mono ?_)
  rintro e w3 ⟨rfl, hb3⟩
  have HK3 := Lib.hid (HK2.out.below hb3 HK2.out.lt)
  have HM3 := Lib.hid (HM2.out.below hb3 HM2.out.lt)
  have hW3 := hW2.trans (hb3.mono hW2.size)
  have HK4 := Lib.hid (HK3.out.alloc (Obj.cells (keyCells M) 33))
  have HM4 := Lib.hid (HM3.out.alloc (Obj.cells (keyCells M) 33))
  have HN4 := Lib.hid (Blk.new w3 33 (keyCells M))
  have hW4 := hW3.alloc hW3.size (Obj.cells (keyCells M) 33)
  clear HK1 HK2 HM2 hW1 hW2 hb3 HK3 HM3 hW3 c0 c1 c2 c3 c4 c5 c6 c7 hs1 hs2
  go_wp2_with fail
  generalize w3.alloc (Obj.cells (keyCells M) 33) = w4 at *
  generalize w3.heap.size = G2 at *
  generalize w1.heap.size = G1 at *
  go_loopw [20] (fun i wr => ∃ (j : Nat), j ≤ 8 ∧ i = .int .i64 (j : Int) ∧ Hid (Blk wr w.heap.size 29 (keyCells k)) ∧ Hid (Blk wr G1 31 (keyCells M)) ∧ Hid (Blk wr G2 33 (keyCells M)) ∧ Below w.heap.size w wr) (fun i _ => 8 - (intOf i).toNat)
  case atStart => exact ⟨0, by omega, rfl, HK4, HM4, HN4, hW4⟩
  case round =>
    clear HK4 HM4 HN4 hW4
    obtain ⟨j, hj, rfl, HK, HM, HN, hW⟩ := hrel
    by_cases hlt : j < 8
    · have t3 : (j : Int) < 8 := by omega
      have j0 : (0 : Int) ≤ (j : Int) := by omega
      go_wp2_with fail
      refine wp_region_seq (fun x => x = wr.drew) [(false, 0), (false, 1), (false, 2), (true, 3), (true, 4), (true, 5), (true, 6)]
        (by kernel_rfl) (by kernel_rfl) (fun _ _ d _ _ h => by cases d <;> exact h) rfl ?_
      have hcj : wr.drew.cell? ⟨G1, j, none⟩ = some (u32v (M.get j)) := by rw [HM.out.drew.cell]; exact keyCells_get _ _ hlt
      have hmj : wr.drew.cell? ⟨G2, j, none⟩ = some (u32v (M.get j)) := by rw [HN.out.drew.cell]; exact keyCells_get _ _ hlt
      have HK' : Hid (Blk wr.drew w.heap.size 29 (keyCells k)) := HK
      have HM' : Hid (Blk wr.drew G1 31 (keyCells M)) := HM
      have HN' : Hid (Blk wr.drew G2 33 (keyCells M)) := HN
      have hW' := hW.drew
      clear HK HM HN hW
      generalize wr.drew = wd at *
      iterate 3 (apply plan_take rfl rfl rfl rfl; (intro w' hS K hK; subst hS; go_simp; exact hK))
      iterate 4 (refine plan_force rfl rfl (fun K hK => ?_); go_wp2_with fail; refine hK.out _ _ rfl ?_; clear hK K)
      refine plan_nil ?_
      go_wp2_with fail
      go_roundw
      case rel => exact ⟨j + 1, hlt, by go_num, HK', HM', HN', hW'⟩
      case measure => simp [intOf]; omega
    · obtain rfl : j = 8 := by omega
      clear HM HN
      have hle := hW.size
      have HBR := Lib.hid ((HB.out.below hW).more hle)
      clear HB
      go_wp2_with fail
      refine wp_region_plans (fun w' => Below wr.heap.size wr w' ∧ True) [[(true, 0), (true, 1), (false, 2), (true, 3), (true, 4), (true, 5), (true, 6), (false, 7), (true, 8), (true, 9), (true, 10), (true, 11), (false, 12), (true, 13), (true, 14), (true, 15), (true, 16), (false, 17), (true, 18), (true, 19), (true, 20), (true, 21), (false, 22), (false, 23), (false, 24), (false, 27), (false, 28), (false, 29), (true, 25)], [(false, 26), (true, 30), (true, 31), (true, 32), (true, 33), (false, 34), (false, 35), (false, 36), (false, 39), (false, 40), (false, 41), (false, 42), (true, 37)], [(false, 38), (true, 43), (true, 44), (true, 45), (true, 46)]]
        (by kernel_rfl) (by kernel_rfl) (fun _ _ d _ _ h => by cases d <;> exact h) ⟨(Below.refl _ _).drew, trivial⟩ ?_
      have T0 : Hid (Below wr.heap.size wr wr.drew ∧ True) := ⟨(Below.refl _ _).drew, trivial⟩
      have HT : Hid (∀ x y : World, (Below wr.heap.size wr x ∧ True) → Below x.heap.size x y → Below wr.heap.size wr y ∧ True) := fun x y h hb => ⟨h.1.trans (hb.mono h.1.size), trivial⟩
      generalize wr.drew = v0 at *
      refine plans_cons ?_
      refine planK_force rfl rfl (fun K hK => ?_)
      go_wp2_with fail
      (with_reducible refine (told14 _).mono ?_)
      rintro e v1 ⟨rfl, hb1⟩
      have T1 := Lib.hid (HT.out _ _ T0.out hb1)
      clear T0 hb1
      go_wp2_with fail
      refine hK.out _ _ T1.out ?_; clear hK K
      refine planK_force rfl rfl (fun K hK => ?_); go_wp2_with fail; refine hK.out _ _ T1.out ?_; clear hK K
      iterate 4 ((iterate 1 (apply planK_take rfl rfl rfl rfl; (intro w' hS K hK; clear hS; go_simp; exact hK))); (iterate 4 (refine planK_force rfl rfl (fun K hK => ?_); go_wp2_with fail; refine hK.out _ _ T1.out ?_; clear hK K)))
      iterate 6 (apply planK_take rfl rfl rfl rfl; (intro w' hS K hK; obtain ⟨c0, c1, c2, c3, c4, c5, c6, c7⟩ := key_loads (HK.out.below hS.1 HK.out.lt); clear hS; go_simp; exact hK))
      refine planK_force rfl rfl (fun K hK => ?_)
      go_wp2_with fail
      (with_reducible refine (LA.lane k p 300 _ (by omega)).mono ?_)
      rintro e v2 ⟨A2, n2, k2, rfl, hY2, hb2⟩
      have T2 := Lib.hid (HT.out _ _ T1.out hb2)
      have HY2 := Lib.hid hY2; clear hY2
      clear T1 hb2
      go_wp2_with fail
      refine hK.out _ _ T2.out ?_; clear hK K
      refine planK_nil (fun _ => ⟨fun y => (Below wr.heap.size wr y ∧ True) ∧ Below v2.heap.size v2 y, fun _ h => h.1, ⟨T2.out, Below.refl _ _⟩, ?_⟩)
      have U2 : Hid ((Below wr.heap.size wr v2 ∧ True) ∧ Below v2.heap.size v2 v2) := ⟨T2.out, Below.refl _ _⟩
      have HU : Hid (∀ x y : World, ((Below wr.heap.size wr x ∧ True) ∧ Below v2.heap.size v2 x) → Below x.heap.size x y → (Below wr.heap.size wr y ∧ True) ∧ Below v2.heap.size v2 y) := fun x y h hb => ⟨HT.out x y h.1 hb, h.2.trans (hb.mono h.2.size)⟩
      clear T2
      refine plans_cons ?_
      iterate 1 (apply planK_take rfl rfl rfl rfl; (intro w' hS K hK; have hcv := conv_bytes (P := Try.prog) conv_u8 k2 (HY2.out.below hS.2); clear hS; go_simp; exact hK))
      generalize LA.str k p 300 = STR at *
      refine planK_force rfl rfl (fun K hK => ?_)
      go_wp2_with fail
      (with_reducible refine (RST.out _).mono ?_)
      rintro e v3 ⟨rfl, hb3⟩
      have U3 := Lib.hid (HU.out _ _ U2.out hb3)
      clear U2 hb3
      go_wp2_with fail
      refine hK.out _ _ U3.out ?_; clear hK K
      iterate 3 (refine planK_force rfl rfl (fun K hK => ?_); go_wp2_with fail; refine hK.out _ _ U3.out ?_; clear hK K)
      iterate 7 (apply planK_take rfl rfl rfl rfl; (intro w' hS K hK; obtain ⟨c0, c1, c2, c3, c4, c5, c6, c7⟩ := key_loads (HK.out.below hS.1.1 HK.out.lt); have hcv := conv_bytes (P := Try.prog) conv_u8 c (HBR.out.below hS.1.1); clear hS; go_simp; exact hK))
      refine planK_force rfl rfl (fun K hK => ?_)
      go_wp2_with fail
      (with_reducible refine (xor_any k p A n c wr.heap.size l _ (HBR.out.below U3.out.1.1) U3.out.1.1.size (by omega)).mono ?_)
      rintro e v4 ⟨g4, rfl, hg4, hL4, hb4⟩
      have U4 := Lib.hid (HU.out _ _ U3.out hb4)
      have HL4 := Lib.hid hL4
      clear U3 hb4 hL4
      go_wp2_with fail
      refine hK.out _ _ U4.out ?_; clear hK K
      refine planK_nil (fun _ => ⟨fun y => ((Below wr.heap.size wr y ∧ True) ∧ Below v2.heap.size v2 y) ∧ Below v4.heap.size v4 y, fun _ h => h.1, ⟨U4.out, Below.refl _ _⟩, ?_⟩)
      have V4 : Hid (((Below wr.heap.size wr v4 ∧ True) ∧ Below v2.heap.size v2 v4) ∧ Below v4.heap.size v4 v4) := ⟨U4.out, Below.refl _ _⟩
      have hsl : (PL.stream k (placeWord p) n).length = n := PL.stream_len _ _ _
      have hxl : (PL.xorTo (PL.stream k (placeWord p) n) l).length = n := by rw [PL.xorTo_len (by rw [hsl, HL.out])]; exact HL.out
      have HXL := Lib.hid hxl
      have hrx : ∀ w, Calls Try.prog 20 #[.agg (keyCells k), .int .i64 p, .string ⟨l.toArray⟩] w fun e w' => e = .returned (.string ⟨(PL.xorTo (PL.stream k (placeWord p) n) l).toArray⟩) ∧ Below w.heap.size w w' := by
        intro w
        have hz : (⟨l.toArray⟩ : ByteArray).size = n := by show l.toArray.size = n; rw [List.size_toArray]; exact HL.out
        have h := refXor_any k p ⟨l.toArray⟩ w (by omega)
        rw [hz] at h
        exact h
      have HRX := Lib.hid hrx
      clear hrx hsl hxl U4
      generalize PL.xorTo (PL.stream k (placeWord p) n) l = XX at *
      refine plans_cons ?_
      iterate 1 (apply planK_take rfl rfl rfl rfl; (intro w' hS K hK; have hcv := conv_bytes (P := Try.prog) conv_u8 n ((HL4.out.below hS.2 HL4.out.lt).bytes HXL.out (HL4.out.below hS.2 HL4.out.lt).lt); clear hS; go_simp; exact hK))
      refine planK_force rfl rfl (fun K hK => ?_)
      go_wp2_with fail
      (with_reducible refine (HRX.out _).mono ?_)
      rintro e v5 ⟨rfl, hb5⟩
      have V5 : Hid (((Below wr.heap.size wr v5 ∧ True) ∧ Below v2.heap.size v2 v5) ∧ Below v4.heap.size v4 v5) := ⟨HU.out _ _ V4.out.1 hb5, V4.out.2.trans (hb5.mono V4.out.2.size)⟩
      clear V4 hb5
      go_wp2_with fail
      refine hK.out _ _ V5.out ?_; clear hK K
      iterate 3 (refine planK_force rfl rfl (fun K hK => ?_); go_wp2_with fail; refine hK.out _ _ V5.out ?_; clear hK K)
      refine planK_nil (fun _ => ⟨_, fun _ h => h, V5.out, ?_⟩)
      refine plans_nil ?_
      go_wp2
      go_ret
      exact ⟨rfl, hW.trans (V5.out.1.1.1.mono hle)⟩
theorem walkLaneAsks (k : PL.K8) (p x : Int) (A : Option Addr) (n c : Nat) (l : List UInt8) (w : World) (hp : (Lit.int .i64 p).wf = true) (hx : (Lit.int .i64 x).wf = true) (hb : Bytes w w.heap.size A n l) (hc : n ≤ c) (hm : c ≤ maxLen) (hz : A = none → n = 0 ∧ c = 0) :
    Calls Try.prog 4 #[.agg (keyCells k), .int .i64 p, .int .i64 x, .slice A n c] w fun e w' => e = .returned (.bool true) ∧ Below w.heap.size w w' := by
  by_cases hn : n ≤ 200
  · by_cases h3 : x ≤ 300
    · exact laneAsks1 k p x A n c l w hb hn h3
    · exact laneAsks2 k p x A n c l w hb hn (by omega)
  · have hb1 : Below w.heap.size w (w.alloc (Obj.cells (keyCells k) 29)) := (Below.refl _ _).alloc (Nat.le_refl _) _
    unfold maxLen at hm
    clear hz hb
    have h2 : 200 < (n : Int) := by omega
    go_enter Try.func4, Try.ntmps4
    go_wp2_with (go_at_call 13; refine (told14 _).mono ?_; rintro e w2 ⟨rfl, hb2⟩)
    go_ret
    exact ⟨rfl, hb1.trans (hb2.mono hb1.size)⟩
end Go.Proofs.Ytobbjhbjjhnicaa
