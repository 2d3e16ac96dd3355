/- The walk of the reference's Put. -/
import Derived.Test.YtmllblgninmolaaNumPut
namespace Go.Proofs.Ytmllblgninmolaa
open Go.RowKit
set_option linter.unusedVariables false
theorem cat_two (z : ByteArray) (l : List UInt8) : (z ++ ⟨l.toArray⟩ : ByteArray) = ⟨(z.data.toList ++ l).toArray⟩ := by
  apply ByteArray.ext
  rw [ByteArray.data_append]
  apply Array.ext'
  simp
set_option maxRecDepth 100000 in
set_option maxHeartbeats 1000000 in
theorem refPut (n : Nat) (hn : n < PN.M64) (w : World) : Calls Try.prog 14 #[.int .u64 (n : Int)] w fun e w' => e = .returned (.string ⟨(PN.enc n).toArray⟩) ∧ Below w.heap.size w w' := by
  have hlen := PN.enc_len64 n hn
  have HN : Hid (PN.M64 = 18446744073709551616) := rfl
  rw [HN.out] at hn
  go_enter Try.func14, Try.ntmps14
  go_wp2
  go_loopw [0, 3] (fun x s wr => ∃ (q : Nat) (acc : List UInt8), q ≤ n ∧ x = .int .u64 q ∧ s = .string ⟨acc.toArray⟩ ∧ Hid (acc ++ PN.enc q = PN.enc n) ∧ Below w.heap.size w wr) (fun x _ _ => (intOf x).toNat)
  case atStart => exact ⟨n, [], Nat.le_refl _, rfl, rfl, rfl, Below.refl _ _⟩
  case round =>
    obtain ⟨q, acc, hq, rfl, rfl, HE, hb⟩ := hrel
    have hacc : acc.length ≤ 17 := by
      have := congrArg List.length HE.out
      rw [List.length_append] at this
      omega
    by_cases hlt : q < 250
    · have hlt' : ¬ (250 : Int) ≤ (q : Int) := by omega
      have hcv : (convert 23 9 (.slice (some ⟨wr.heap.size, 0, none⟩) 1 1)).run Try.prog (wr.alloc (.cells #[.int .u8 (q : Int)] 5)) = .ok (.string ⟨[UInt8.ofNat q].toArray⟩) (wr.alloc (.cells #[.int .u8 (q : Int)] 5)) := conv_bytes conv_u8 1 (one_nat wr 5 q (by omega))
      go_wp2
      go_ret
      refine ⟨?_, hb.alloc hb.size _⟩
      have he := HE.out
      rw [PN.enc_small hlt] at he
      have := cat_two ⟨acc.toArray⟩ [UInt8.ofNat q]
      rw [← he]
      exact congrArg (fun z => Ending.returned (.string z)) this
    · have hlt' : (250 : Int) ≤ (q : Int) := by omega
      have e1 : (q : Int) % 250 = ((q % 250 : Nat) : Int) := by omega
      have e2 : (q : Int) / 250 = ((q / 250 : Nat) : Int) := by omega
      have hcv : (convert 23 9 (.slice (some ⟨wr.heap.size, 0, none⟩) 2 2)).run Try.prog (wr.alloc (.cells #[.int .u8 250, .int .u8 ((q : Int) % 250)] 5)) = .ok (.string ⟨[250, UInt8.ofNat (q % 250)].toArray⟩) (wr.alloc (.cells #[.int .u8 250, .int .u8 ((q : Int) % 250)] 5)) := by
        refine conv_bytes conv_u8 2 (B := wr.heap.size + 1) ?_
        rw [e1, nat_byte (by omega)]
        exact blk_bytes2 wr _ 250 _
      have HE2 := Lib.hid e2
      clear e1 e2
      go_wp2
      go_roundw
      case rel =>
        refine ⟨q / 250, acc ++ [250, UInt8.ofNat (q % 250)], by omega, by rw [HE2.out], ?_, ?_, hb.alloc hb.size _⟩
        · exact congrArg Value.string (cat_two ⟨acc.toArray⟩ [250, UInt8.ofNat (q % 250)])
        · show _ = _
          have he := HE.out
          rw [PN.enc_big hlt] at he
          rw [← he]
          simp
      case measure => simp [intOf]; omega
end Go.Proofs.Ytmllblgninmolaa
