/- The walk of steamerlaw9.told: it returns true. -/
import Derived.Test.YtmllblgninmolaaNumText
namespace Go.Proofs.Ytmllblgninmolaa
open Go.RowKit
set_option linter.unusedVariables false
namespace T9
theorem r250 : getRes (PN.enc 250) 0 = (250, 3, 0) := by decide +kernel
theorem e250 : PN.enc 250 = [250, 0, 1] := by decide +kernel
theorem e249 : (PN.enc 249).length = 1 := by decide +kernel
theorem rf : getRes [250, 1, 0] 0 = (0, 0, 3) := by decide +kernel
theorem rg : getRes [251] 0 = (0, 0, 3) := by decide +kernel
theorem rs : getRes [2, 97, 98] 0 = (2, 1, 0) := by decide +kernel
theorem rk : getRes [5, 1] 0 = (5, 1, 0) := by decide +kernel
theorem g250 (A : Option Addr) (c B : Nat) (w : World) (hb : Bytes w B A 3 [250, 0, 1]) : Calls Try.prog 11 #[.slice A 3 c, .int .i64 0] w fun e w' => e = .returned (.tuple #[.int .u64 250, .int .i64 3, .int .i64 0]) ∧ w = w' := by
  have h := numGet A 3 c B 0 _ w hb (by omega) (by omega)
  rw [← e250, r250] at h
  exact h
theorem g250far (A : Option Addr) (c : Nat) (w : World) : Calls Try.prog 11 #[.slice A 3 c, .int .i64 4] w fun e w' => e = .returned (.tuple #[.int .u64 0, .int .i64 4, .int .i64 2]) ∧ w = w' :=
  numGet_far A 3 c 4 w (by omega) (by omega)
theorem gf (A : Option Addr) (c B : Nat) (w : World) (hb : Bytes w B A 3 [250, 1, 0]) : Calls Try.prog 11 #[.slice A 3 c, .int .i64 0] w fun e w' => e = .returned (.tuple #[.int .u64 0, .int .i64 0, .int .i64 3]) ∧ w = w' := by
  have h := numGet A 3 c B 0 _ w hb (by omega) (by omega)
  rw [rf] at h
  exact h
theorem gg (A : Option Addr) (c B : Nat) (w : World) (hb : Bytes w B A 1 [251]) : Calls Try.prog 11 #[.slice A 1 c, .int .i64 0] w fun e w' => e = .returned (.tuple #[.int .u64 0, .int .i64 0, .int .i64 3]) ∧ w = w' := by
  have h := numGet A 1 c B 0 _ w hb (by omega) (by omega)
  rw [rg] at h
  exact h
theorem gs (A : Option Addr) (c B : Nat) (w : World) (hb : Bytes w B A 3 [2, 97, 98]) (hc : 3 ≤ c) : Calls Try.prog 13 #[.slice A 3 c, .int .i64 0, .int .i64 2] w fun e w' => e = .returned (.tuple #[.string ⟨#[97, 98]⟩, .int .i64 3, .int .i64 0]) ∧ w = w' := by
  have h := numGetText_ok A 3 c B 0 2 _ w hb hc (by omega) (by omega) 2 1 rs (by omega) (by omega) (by omega)
  exact h
theorem gl (A : Option Addr) (c B : Nat) (w : World) (hb : Bytes w B A 3 [2, 97, 98]) : Calls Try.prog 13 #[.slice A 3 c, .int .i64 0, .int .i64 1] w fun e w' => e = .returned (.tuple #[.string ⟨#[]⟩, .int .i64 0, .int .i64 13]) ∧ w = w' := by
  have h := numGetText_limit A 3 c B 0 1 _ w hb (by omega) (by omega) 2 1 rs (by omega) (by omega)
  exact h
theorem gk (A : Option Addr) (c B : Nat) (w : World) (hb : Bytes w B A 2 [5, 1]) : Calls Try.prog 13 #[.slice A 2 c, .int .i64 0, .int .i64 9] w fun e w' => e = .returned (.tuple #[.string ⟨#[]⟩, .int .i64 0, .int .i64 3]) ∧ w = w' := by
  have h := numGetText_bytes A 2 c B 0 9 _ w hb (by omega) (by omega) 5 1 rk (by omega) (by omega) (by omega) (by omega)
  exact h
theorem bytes3 (w : World) (t : TypeId) (x y z : UInt8) : Bytes (w.alloc (.cells #[u8v x, u8v y, u8v z] t)) (w.heap.size + 1) (some ⟨w.heap.size, 0, none⟩) 3 [x, y, z] := by
  refine ⟨rfl, fun _ => ⟨w.heap.size, 0, rfl, Nat.lt_succ_self _, fun i c hi => ?_⟩⟩
  rw [Nat.zero_add, (Blk.new w t #[u8v x, u8v y, u8v z]).cell]
  match i, hi with
  | 0, hi => cases hi; rfl
  | 1, hi => cases hi; rfl
  | 2, hi => cases hi; rfl
theorem put1 (w : World) : Calls Try.prog 10 #[.int .u64 250] w (Gave w [250, 0, 1]) := by
  have := numPut 250 (by decide) w
  rw [e250] at this
  exact this
theorem put2 (w : World) : Calls Try.prog 10 #[.int .u64 249] w (Gave w [249]) := by
  have := numPut 249 (by decide) w
  rw [show PN.enc 249 = [249] by decide +kernel] at this
  exact this
theorem txt (w : World) : Calls Try.prog 12 #[.string ⟨#[97, 98]⟩] w (Gave w [2, 97, 98]) := by
  have := numText ⟨#[97, 98]⟩ (by decide) w
  rw [show PN.enc (⟨#[97, 98]⟩ : ByteArray).size ++ (⟨#[97, 98]⟩ : ByteArray).data.toList = [2, 97, 98] by decide +kernel] at this
  exact this
end T9
set_option maxRecDepth 100000 in
set_option maxHeartbeats 4000000 in
theorem told9 (w : World) : Calls Try.prog 9 #[] w fun e w' => e = .returned (.bool true) ∧ Below w.heap.size w w' := by
  go_enter Try.func9, Try.ntmps9
  go_wp2_with fail
  refine (T9.put1 _).mono ?_
  rintro e w1 ⟨v, rfl, hO1, hb1⟩
  obtain ⟨A, c, hv, hB, hcap, _, hA⟩ := hO1.form
  have hv' : v = .slice A 3 c := hv
  have hB1 : Bytes w1 w1.heap.size A 3 [250, 0, 1] := hB
  subst hv'
  clear hv hB hO1 hA hcap
  have HB1 := Lib.hid hB1
  clear hB1
  go_wp2_with fail
  refine (T9.g250 A c w1.heap.size _ HB1.out).mono ?_
  rintro e w2 ⟨rfl, rfl⟩
  have HX := Lib.hid (T9.bytes3 w1 5 250 1 0)
  have HB2 := Lib.hid (HB1.out.alloc (Nat.le_refl _) (.cells #[u8v 250, u8v 1, u8v 0] 5))
  have hb2 := hb1.alloc hb1.size (.cells #[u8v 250, u8v 1, u8v 0] 5)
  clear hb1
  go_wp2_with fail
  refine (T9.gf _ 3 _ _ HX.out).mono ?_
  rintro e w2 ⟨rfl, rfl⟩
  clear HX HB1
  have hz3 : w1.heap.size ≤ (w1.alloc (.cells #[u8v 250, u8v 1, u8v 0] 5)).heap.size := by rw [World.size_alloc]; omega
  generalize w1.alloc (.cells #[u8v 250, u8v 1, u8v 0] 5) = w3 at *
  have HB3 := Lib.hid (HB2.out.more hz3)
  clear HB2
  have HX := Lib.hid (one_bytes w3 5 251)
  have HB4 := Lib.hid (HB3.out.alloc (Nat.le_refl _) (.cells #[u8v 251] 5))
  have hb4 := hb2.alloc hb2.size (.cells #[u8v 251] 5)
  clear hb2
  go_wp2_with fail
  refine (T9.gg _ 1 _ _ HX.out).mono ?_
  rintro e w5 ⟨rfl, rfl⟩
  clear HX HB3
  have hz4 : w3.heap.size ≤ (w3.alloc (.cells #[u8v 251] 5)).heap.size := by rw [World.size_alloc]; omega
  generalize w3.alloc (.cells #[u8v 251] 5) = w5 at *
  have HB5 := Lib.hid (HB4.out.more hz4)
  clear HB4 hz4
  go_wp2_with fail
  refine (T9.g250far A c _).mono ?_
  rintro e w6 ⟨rfl, rfl⟩
  go_wp2_with fail
  refine (T9.txt _).mono ?_
  rintro e w7 ⟨v, rfl, hO7, hb7⟩
  obtain ⟨A7, c7, hv, hB7, hcap7, _, _⟩ := hO7.form
  have hv' : v = .slice A7 3 c7 := hv
  have HB7 : Hid (Bytes w7 w7.heap.size A7 3 [2, 97, 98]) := hB7
  subst hv'
  have HC7 : Hid (3 ≤ c7) := hcap7
  have HB8 := Lib.hid ((HB5.out.below hb7).more hb7.size)
  have hb8 := hb4.trans (hb7.mono hb4.size)
  clear hv hB7 hO7 hcap7 HB5 hb4 hb7
  go_wp2_with fail
  refine (T9.gs A7 c7 _ _ HB7.out HC7.out).mono ?_
  rintro e w8 ⟨rfl, rfl⟩
  go_wp2_with fail
  refine (T9.txt _).mono ?_
  rintro e w9 ⟨v, rfl, hO9, hb9⟩
  obtain ⟨A9, c9, hv, hB9, hcap9, _, _⟩ := hO9.form
  have hv' : v = .slice A9 3 c9 := hv
  have HB9 : Hid (Bytes w9 w9.heap.size A9 3 [2, 97, 98]) := hB9
  subst hv'
  have HB10 := Lib.hid ((HB8.out.below hb9).more hb9.size)
  have hb10 := hb8.trans (hb9.mono hb8.size)
  clear hv hB9 hO9 hcap9 HB8 hb8 hb9 HB7 HC7
  go_wp2_with fail
  refine (T9.gl A9 c9 _ _ HB9.out).mono ?_
  rintro e w10 ⟨rfl, rfl⟩
  clear HB9
  have HX := Lib.hid (blk_bytes2 w9 5 5 1)
  have HB11 := Lib.hid (HB10.out.alloc (Nat.le_refl _) (.cells #[u8v 5, u8v 1] 5))
  have hb11 := hb10.alloc hb10.size (.cells #[u8v 5, u8v 1] 5)
  clear HB10 hb10
  go_wp2_with fail
  refine (T9.gk _ 2 _ _ HX.out).mono ?_
  rintro e w11 ⟨rfl, rfl⟩
  clear HX
  obtain ⟨b, off, hA, _, hcell⟩ := HB11.out.2 (by omega)
  subst hA
  have c0 : (w9.alloc (.cells #[u8v 5, u8v 1] 5)).cell? ⟨b, off, none⟩ = some (.int .u8 250) := hcell 0 250 rfl
  have c1 : (w9.alloc (.cells #[u8v 5, u8v 1] 5)).cell? ⟨b, off + 1, none⟩ = some (.int .u8 0) := hcell 1 0 rfl
  have c2 : (w9.alloc (.cells #[u8v 5, u8v 1] 5)).cell? ⟨b, off + 2, none⟩ = some (.int .u8 1) := hcell 2 1 rfl
  clear hcell HB11
  generalize w9.alloc (.cells #[u8v 5, u8v 1] 5) = w12 at *
  go_wp2_with fail
  refine (T9.put2 _).mono ?_
  rintro e w13 ⟨v, rfl, hO13, hb13⟩
  obtain ⟨A13, c13, hv, _, _, _, _⟩ := hO13.form
  have hv' : v = .slice A13 1 c13 := hv
  subst hv'
  clear hv hO13 c0 c1 c2
  have hb14 := hb11.trans (hb13.mono hb11.size)
  clear hb13 hb11
  go_wp2_with fail
  go_ret
  exact ⟨rfl, hb14⟩
end Go.Proofs.Ytmllblgninmolaa
