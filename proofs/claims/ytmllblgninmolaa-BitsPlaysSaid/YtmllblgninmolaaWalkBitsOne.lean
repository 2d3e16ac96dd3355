/- The walk of BitsOne. -/
import Derived.Test.YtmllblgninmolaaTold10
import Derived.Test.YtmllblgninmolaaStronger
namespace Go.Proofs.Ytmllblgninmolaa
open Go.RowKit
set_option linter.unusedVariables false
theorem one_bit (n j : Nat) : PB.bitsOf (n / 2 ^ j) 1 = [n.testBit j] := by
  simp [PB.bitsOf, Nat.testBit_eq_decide_div_mod_eq]
theorem outLen {w : World} {go : Nat} {p : Option Addr} {gs : List Nat} {us : List (List Bool)} {pt : List Bool} (h : OutAt w go p gs us pt) : 64 * us.length + pt.length = (bitsSt us pt).length := by
  unfold bitsSt
  rw [List.length_append, flat_length h.2.1.len]
  omega
theorem ByteBlk.bytes {w : World} {g : Nat} {l : List UInt8} (h : ByteBlk w g l) : Bytes w (g + 1) (some ⟨g, 0, none⟩) l.length l := by
  refine ⟨rfl, fun _ => ⟨g, 0, rfl, Nat.lt_succ_self _, fun i c hi => ?_⟩⟩
  rw [Nat.zero_add, Blk.cell h]
  simp [hi]
set_option maxRecDepth 100000 in
set_option maxHeartbeats 4000000 in
theorem bitsOne (n K : Nat) (q : Int) (w : World) (hn : n < 18446744073709551616) (hK : K ≤ 32) (hk : wrap64 ((IntKind.u64.wrap q).tmod 33) = (K : Int)) :
    Calls Try.prog 8 #[.int .u64 (n : Int), .int .i64 q] w fun e w' => e = .returned (.bool true) ∧ Below w.heap.size w w' := by
  obtain ⟨g1, hg1⟩ : ∃ g1, g1 = w.heap.size := ⟨_, rfl⟩
  have HA0 := Lib.hid ((OutAt.new w).alloc (.cells #[.pointer none, .int .u64 0, .int .i64 0] 40))
  have HB0 : Hid (OutAt ((w.alloc (.cells #[.pointer none, .int .u64 0, .int .i64 0] 40)).alloc (.cells #[.pointer none, .int .u64 0, .int .i64 0] 40)) (w.heap.size + 1) none [] [] []) := by
    have := OutAt.new (w.alloc (.cells #[.pointer none, .int .u64 0, .int .i64 0] 40))
    rw [World.size_alloc] at this
    exact this
  have hW0 : Below w.heap.size w ((w.alloc (.cells #[.pointer none, .int .u64 0, .int .i64 0] 40)).alloc (.cells #[.pointer none, .int .u64 0, .int .i64 0] 40)) := ((Below.refl _ _).alloc (Nat.le_refl _) _).alloc (by simp) _
  have hsz0 : ((w.alloc (.cells #[.pointer none, .int .u64 0, .int .i64 0] 40)).alloc (.cells #[.pointer none, .int .u64 0, .int .i64 0] 40)).heap.size = w.heap.size + 2 := by simp
  have HN := Lib.hid hn
  clear hn hg1
  go_enter Try.func8, Try.ntmps8
  go_wp2_with fail
  rw [hk]
  clear hk
  (with_reducible refine (outPut w.heap.size n K none [] [] [] _ HN.out hK HA0.out (by simp)).mono ?_)
  rintro e w1 ⟨rfl, pa, gsa, usa, pta, hOa, hbits, hg1, hgs⟩
  have HA1 := Lib.hid hOa
  have HBa : Hid (bitsSt usa pta = PB.bitsOf n K) := by show _ = _; rw [hbits]; rfl
  have HB1 := Lib.hid (HB0.out.grown hg1 (by omega) (by simp))
  have HGa : Hid (w.heap.size + 1 ∉ gsa) := fun h => by
    rcases hgs _ h with h | h
    · cases h
    · omega
  have hW1 := hW0.grown hg1 hW0.size (by intro g hg; injection hg with hg; omega)
  have hsz1 : w.heap.size + 2 ≤ w1.heap.size := by have := hg1.size; omega
  clear hOa hbits hg1 hgs HA0 HB0 hW0 hsz0
  go_wp2_with fail
  go_loopw [8] (fun i wr => ∃ (j : Nat) (pb : Option Addr) (gsb : List Nat) (usb : List (List Bool)) (ptb : List Bool), j ≤ K ∧ i = .int .i64 ((j : Int) - 1) ∧ Hid (OutAt wr w.heap.size pa gsa usa pta) ∧ Hid (OutAt wr (w.heap.size + 1) pb gsb usb ptb) ∧ Hid (bitsSt usb ptb ++ PB.bitsOf n j = PB.bitsOf n K) ∧ Below w.heap.size w wr) (fun i _ => (intOf i + 1).toNat)
  case atStart => exact ⟨K, none, [], [], [], Nat.le_refl _, rfl, HA1, HB1, rfl, hW1⟩
  case round =>
    clear HA1 HB1 hW1 hsz1
    obtain ⟨j, pb, gsb, usb, ptb, hj, rfl, HA, HB, HE, hW⟩ := hrel
    rcases j with _ | j
    · have ez : ((0 : Nat) : Int) - 1 = -1 := rfl
      rw [ez]
      clear ez
      have HEb : Hid (bitsSt usb ptb = PB.bitsOf n K) := by show _ = _; have := HE.out; simpa [PB.bitsOf] using this
      clear HE
      have hla : 64 * usa.length + pta.length = K := by rw [outLen HA.out, HBa.out, PB.bitsOf_length]
      have hlb : 64 * usb.length + ptb.length = K := by rw [outLen HB.out, HEb.out, PB.bitsOf_length]
      have HLa := Lib.hid hla
      have HLb := Lib.hid hlb
      clear hla hlb
      go_wp2_with fail
      refine wp_region_two (fun x => Below wr.heap.size wr x) [(true, 0), (true, 1), (true, 2)] [(false, 3), (true, 4), (true, 5), (true, 6), (true, 7), (true, 8), (false, 10), (true, 9), (true, 11), (true, 12), (true, 13), (false, 15), (true, 14), (true, 16), (true, 17), (true, 18)]
        (by kernel_rfl) (by kernel_rfl) (fun _ _ d _ _ h => by cases d <;> exact h) (Below.refl _ _).drew ?_
      have hS0 : Below wr.heap.size wr wr.drew := (Below.refl _ _).drew
      generalize wr.drew = w1 at *
      refine planK_force rfl rfl (fun K' hK' => ?_)
      go_wp2_with (go_at_call 15; refine (told10 _).mono ?_; rintro e w2 ⟨rfl, hb2⟩)
      have hS2 := hS0.trans (hb2.mono hS0.size)
      clear hS0 hb2
      refine hK'.out _ _ hS2 ?_; clear hK' K'
      refine planK_force rfl rfl (fun K' hK' => ?_); go_wp2_with fail; refine hK'.out _ _ hS2 ?_; clear hK' K'
      refine planK_force rfl rfl (fun K' hK' => ?_)
      have HA2 := Lib.hid (HA.out.below hS2)
      have HB2 := Lib.hid (HB.out.below hS2)
      have KA := Lib.hid (outBytes w.heap.size pa gsa usa pta w2 HA2.out (by have := HLa.out; omega))
      rw [HBa.out] at KA
      obtain ⟨Z, hZ⟩ : ∃ Z, Z = PB.pack (PB.bitsOf n K) := ⟨_, rfl⟩
      rw [← hZ] at KA
      obtain ⟨m, hm⟩ : ∃ m, m = Z.length := ⟨_, rfl⟩
      rw [← hm] at KA
      go_wp2_with fail
      (with_reducible refine KA.out.mono ?_)
      rintro e w3 ⟨rfl, hZ3, hb3⟩
      have hS3 := hS2.trans (hb3.mono hS2.size)
      have HZ3 := Lib.hid hZ3
      have HB3 := Lib.hid (HB2.out.below hb3)
      have HA3 := Lib.hid (HA2.out.below hb3)
      have HZ := Lib.hid hZ
      have HM := Lib.hid hm
      clear hZ3 hb3 hS2 KA HA2 HB2 HA HB hZ hm
      go_wp2_with fail
      refine hK'.out _ _ hS3 ?_; clear hK' K'
      refine planK_nil (fun _ => ?_)
      refine ⟨fun x => Below w3.heap.size w3 x ∧ Below wr.heap.size wr x, fun _ h => h.2, ⟨Below.refl _ _, hS3⟩, ?_⟩
      have hga : w2.heap.size < w3.heap.size := Blk.lt HZ3.out
      apply plan_take rfl rfl rfl rfl
      · intro w' hS K hK
        have hcv : (convert 23 9 (.slice (some ⟨w2.heap.size, 0, none⟩) m m)).run Try.prog w' = .ok (.string ⟨Z.toArray⟩) w' := by
          have h1 := ByteBlk.bytes (l := Z) (Blk.below HZ3.out hS.1 hga)
          rw [← HM.out] at h1
          exact conv_bytes conv_u8 m h1
        clear hS
        go_simp
        exact hK
      refine plan_force rfl rfl (fun K' hK' => ?_)
      have KB := Lib.hid (outBytes (w.heap.size + 1) pb gsb usb ptb w3 HB3.out (by have := HLb.out; omega))
      rw [HEb.out, ← HZ.out, ← HM.out] at KB
      go_wp2_with fail
      (with_reducible refine KB.out.mono ?_)
      rintro e w4 ⟨rfl, hZ4, hb4⟩
      have hT4 : Below w3.heap.size w3 w4 := hb4
      have hS4 := hS3.trans (hb4.mono hS3.size)
      have hcv4 : (convert 23 9 (.slice (some ⟨w3.heap.size, 0, none⟩) m m)).run Try.prog w4 = .ok (.string ⟨Z.toArray⟩) w4 := by
        have h1 := ByteBlk.bytes (l := Z) hZ4
        rw [← HM.out] at h1
        exact conv_bytes conv_u8 m h1
      have HA4 := Lib.hid (HA3.out.below hb4)
      have HB4 := Lib.hid (HB3.out.below hb4)
      clear hZ4 hb4 KB HA3 HB3
      go_wp2_with fail
      refine hK'.out _ _ ⟨hT4, hS4⟩ ?_; clear hK' K'
      refine plan_force rfl rfl (fun K' hK' => ?_); go_wp2_with fail; refine hK'.out _ _ ⟨hT4, hS4⟩ ?_; clear hK' K'
      clear hcv4
      iterate 3 (refine plan_force rfl rfl (fun K' hK' => ?_); go_wp2_with fail; refine hK'.out _ _ ⟨hT4, hS4⟩ ?_; clear hK' K')
      apply plan_take rfl rfl rfl rfl
      · intro w' hS K hK; clear hS; go_simp; exact hK
      have kla := outLong w.heap.size pa gsa usa pta w4 HA4.out
      rw [HBa.out, PB.bitsOf_length] at kla
      have klb := outLong (w.heap.size + 1) pb gsb usb ptb w4 HB4.out
      rw [HEb.out, PB.bitsOf_length] at klb
      have KLA := Lib.hid kla
      have KLB := Lib.hid klb
      clear kla klb
      refine plan_force rfl rfl (fun K' hK' => ?_)
      go_wp2_with fail
      (with_reducible refine KLA.out.mono ?_)
      rintro e w5 ⟨rfl, rfl⟩
      go_wp2_with fail
      refine hK'.out _ _ ⟨hT4, hS4⟩ ?_; clear hK' K'
      iterate 3 (refine plan_force rfl rfl (fun K' hK' => ?_); go_wp2_with fail; refine hK'.out _ _ ⟨hT4, hS4⟩ ?_; clear hK' K')
      apply plan_take rfl rfl rfl rfl
      · intro w' hS K hK; clear hS; go_simp; exact hK
      refine plan_force rfl rfl (fun K' hK' => ?_)
      go_wp2_with fail
      (with_reducible refine KLB.out.mono ?_)
      rintro e w5 ⟨rfl, rfl⟩
      go_wp2_with fail
      refine hK'.out _ _ ⟨hT4, hS4⟩ ?_; clear hK' K'
      iterate 3 (refine plan_force rfl rfl (fun K' hK' => ?_); go_wp2_with fail; refine hK'.out _ _ ⟨hT4, hS4⟩ ?_; clear hK' K')
      refine plan_nil ?_
      go_wp2
      go_ret
      exact ⟨rfl, hW.trans (hS4.mono hW.size)⟩
    · have ez : ((j + 1 : Nat) : Int) - 1 = (j : Int) := by omega
      rw [ez]
      clear ez
      have e2 : (n : Int) / 2 ^ j = ((n / 2 ^ j : Nat) : Int) := by simp
      have HN2 : Hid (n / 2 ^ j < 18446744073709551616) := Nat.lt_of_le_of_lt (Nat.div_le_self _ _) HN.out
      have hlb : 64 * usb.length + ptb.length ≤ 100 := by
        have := congrArg List.length HE.out
        rw [List.length_append, PB.bitsOf_length, PB.bitsOf_length] at this
        rw [outLen HB.out]
        omega
      have HE2 := Lib.hid e2
      clear e2
      go_wp2_with fail
      rw [HE2.out]
      have kp := outPut (w.heap.size + 1) (n / 2 ^ j) 1 pb gsb usb ptb wr HN2.out (by omega) HB.out (by omega)
      have KP : Hid (Calls Try.prog 17 #[.pointer (some ⟨w.heap.size + 1, 0, none⟩), .int .u64 ((n / 2 ^ j : Nat) : Int), .int .i64 1] wr fun e w' => e = .returned (.int .i64 0) ∧ ∃ p gs us pt, OutAt w' (w.heap.size + 1) p gs us pt ∧ bitsSt us pt = bitsSt usb ptb ++ PB.bitsOf (n / 2 ^ j) 1 ∧ wr.grownBy w' (some (w.heap.size + 1)) ∧ ∀ g ∈ gs, g ∈ gsb ∨ wr.heap.size ≤ g) := kp
      clear kp
      (with_reducible refine KP.out.mono ?_)
      rintro e w2 ⟨rfl, pb2, gsb2, usb2, ptb2, hB2, hbits2, hg2, _⟩
      have HB2 := Lib.hid hB2
      have HA2 := Lib.hid (HA.out.grown hg2 (by omega) HGa.out)
      have hW2 := hW.grown hg2 hW.size (by intro g hg; injection hg with hg; omega)
      have HE3 : Hid (bitsSt usb2 ptb2 ++ PB.bitsOf n j = PB.bitsOf n K) := by
        show _ = _
        rw [hbits2, one_bit, ← HE.out, List.append_assoc]
        rfl
      clear hB2 hbits2 hg2 KP HA HB HE
      go_wp2_with fail
      go_roundw
      case rel => exact ⟨j, pb2, gsb2, usb2, ptb2, by omega, by go_num, HA2, HB2, HE3, hW2⟩
      case measure => simp [intOf]
theorem mod33 (q : Int) : ∃ K : Nat, K ≤ 32 ∧ wrap64 ((IntKind.u64.wrap q).tmod 33) = (K : Int) := by
  have h0 : 0 ≤ IntKind.u64.wrap q := by rw [IntKind.wrap_u64]; omega
  rw [Int.tmod_eq_emod_of_nonneg h0]
  generalize IntKind.u64.wrap q = z at *
  refine ⟨(z % 33).toNat, by omega, ?_⟩
  rw [IntWalk.wrap64_in (z % 33) (by omega)]
  omega
theorem walkBitsOne (n q : Int) (w : World) (hn : (Lit.int .u64 n).wf = true) (hq : (Lit.int .i64 q).wf = true) :
    Calls Try.prog 8 #[.int .u64 n, .int .i64 q] w fun e w' => e = .returned (.bool true) ∧ Below w.heap.size w w' := by
  have h1 := bounds_u64 hn
  obtain ⟨K, hK, hk⟩ := mod33 q
  have e1 : ((n.toNat : Nat) : Int) = n := by omega
  have := bitsOne n.toNat K q w (by omega) hK hk
  rw [e1] at this
  exact this
end Go.Proofs.Ytmllblgninmolaa
