/- The walks of the reference's Sum, four and Tag. -/
import Derived.Test.YtobbjhbjjhnicaaOf
import Derived.Test.YtobbjhbjjhnicaaRefMix
import Derived.Test.YtobbjhbjjhnicaaConv
namespace Go.Proofs.Ytobbjhbjjhnicaa
open Go.RowKit
set_option linter.unusedVariables false
theorem rlong_step (v x : Nat) (c : UInt8) (hv : v < 4294967291) (hx : x < 4294967291) :
    (IntKind.u64.wrap (IntKind.u64.wrap (IntKind.u64.wrap ((v : Int) * (x : Int)) + IntKind.u64.wrap (c.toNat : Int)) + 1)).tmod 4294967291 = ((PL.sumStep x v c : Nat) : Int) := by
  have h1 := mul_lt64 v x hv hx
  have hc := c.toNat_lt
  have e : (v : Int) * (x : Int) = ((v * x : Nat) : Int) := by simp
  rw [← PL.step_plain]
  unfold PL.Prm
  rw [e]
  generalize v * x = m at *
  rw [IntWalk.u64_in (m : Int) (by omega), IntWalk.u64_in (c.toNat : Int) (by omega), IntWalk.u64_in ((m : Int) + c.toNat) (by omega), IntWalk.u64_in _ (by omega), Int.tmod_eq_emod_of_nonneg (by omega)]
  omega
theorem rlong_end (v x k : Nat) (hv : v < 4294967291) (hx : x < 4294967291) (hk : k ≤ 50000000000) :
    (IntKind.u64.wrap (IntKind.u64.wrap ((v : Int) * (x : Int)) + (k : Int))).tmod 4294967291 % 4294967296 = (((v * x % PL.Prm + k) % PL.Prm : Nat) : Int) := by
  have h1 := mul_lt64 v x hv hx
  have e : (v : Int) * (x : Int) = ((v * x : Nat) : Int) := by simp
  rw [Nat.mod_add_mod]
  unfold PL.Prm
  rw [e]
  generalize v * x = m at *
  rw [IntWalk.u64_in (m : Int) (by omega), IntWalk.u64_in _ (by omega), Int.tmod_eq_emod_of_nonneg (by omega)]
  omega
theorem take_snoc (s : ByteArray) (k : Nat) (h : k < s.size) : s.data.toList.take (k + 1) = s.data.toList.take k ++ [s[k]] := by
  rw [List.take_succ_eq_append_getElem (by simpa using h)]; rfl
set_option maxRecDepth 100000 in
set_option maxHeartbeats 4000000 in
theorem refSum_any (r s : Int) (b : ByteArray) (w : World) (hr0 : 0 ≤ r) (hr : r ≤ 4294967295) (hs0 : 0 ≤ s) (hs : s ≤ 4294967295) (hn : b.size ≤ 50000000000) :
    Calls Try.prog 49 #[.int .u32 r, .int .u32 s, .string b] w fun e w' => e = .returned (.int .u32 (PL.sumOf r.toNat s.toNat b.data.toList : Int)) ∧ w = w' := by
  go_enter Try.func49, Try.ntmps49
  go_wp2
  have e1 : r % 4294967290 + 1 = ((r.toNat % (PL.Prm - 1) + 1 : Nat) : Int) := by
    unfold PL.Prm
    omega
  have e2 : s % 4294967291 = ((s.toNat % PL.Prm : Nat) : Int) := by
    unfold PL.Prm
    omega
  rw [e1, e2]
  clear e1 e2
  obtain ⟨x, hx⟩ : ∃ x, x = r.toNat % (PL.Prm - 1) + 1 := ⟨_, rfl⟩
  obtain ⟨v0, hv0⟩ : ∃ v0, v0 = s.toNat % PL.Prm := ⟨_, rfl⟩
  have hx1 : x < 4294967291 := by rw [hx]; exact (PL.x_ok r.toNat).2
  have hv1 : v0 < 4294967291 := by rw [hv0]; exact Nat.mod_lt _ (by decide)
  rw [← hx, ← hv0]
  have HX := Lib.hid hx
  have HV0 := Lib.hid hv0
  clear hx hv0
  go_loop [8, 9] (fun q i => ∃ k v : Nat, k ≤ b.size ∧ v < 4294967291 ∧ i = .int .i64 k ∧ q = .int .u64 v ∧ Hid (v = PL.sumGo x v0 (b.data.toList.take k))) (fun _ i => b.size - (intOf i).toNat)
  case atStart => exact ⟨0, v0, Nat.zero_le _, hv1, rfl, rfl, rfl⟩
  case round =>
    obtain ⟨k, v, hk, hv, rfl, rfl, HV⟩ := hrel
    by_cases hlt2 : k < b.size
    · go_wp2
      rw [rlong_step v x b[k] hv hx1]
      go_round
      case rel =>
        refine ⟨k + 1, PL.sumStep x v b[k], hlt2, PL.sumStep_lt _ _ _, by go_num, rfl, ?_⟩
        show _ = _
        rw [take_snoc b k hlt2, PL.sumGo_snoc, ← HV.out]
      case measure => simp [intOf]; omega
    · obtain rfl : k = b.size := by omega
      go_wp2
      go_ret
      refine ⟨ret_int ?_, rfl⟩
      rw [rlong_end v x b.size hv hx1 hn, HV.out, HX.out, HV0.out, List.take_of_length_le (by simp)]
      unfold PL.sumOf
      simp
set_option maxRecDepth 100000 in
set_option maxHeartbeats 4000000 in
theorem four_any (s : UInt32) (w : World) :
    Calls Try.prog 48 #[u32v s] w fun e w' => e = .returned (.string ⟨#[s.toUInt8, (s >>> 8).toUInt8, (s >>> 16).toUInt8, (s >>> 24).toUInt8]⟩) ∧ Below w.heap.size w w' := by
  have hx := W_bd s
  have hN := Blk.new w 5 #[.int .u8 (W s % 256), .int .u8 (W s / 256 % 256), .int .u8 (W s / 65536 % 256), .int .u8 (W s / 16777216)]
  have hb : Bytes (w.alloc (Obj.cells #[.int .u8 (W s % 256), .int .u8 (W s / 256 % 256), .int .u8 (W s / 65536 % 256), .int .u8 (W s / 16777216)] 5)) (w.heap.size + 1) (some ⟨w.heap.size, 0, none⟩) 4 [s.toUInt8, (s >>> 8).toUInt8, (s >>> 16).toUInt8, (s >>> 24).toUInt8] := by
    refine ⟨rfl, fun _ => ⟨w.heap.size, 0, rfl, by omega, fun i c hi => ?_⟩⟩
    rw [Nat.zero_add, hN.cell]
    have h3 : W s / 16777216 = W s / (16777216 : Int) % (256 : Int) := by omega
    rw [h3, W_byte0, W_byte1, W_byte2, W_byte3]
    match i, hi with
    | 0, hi => simp at hi; subst hi; rfl
    | 1, hi => simp at hi; subst hi; rfl
    | 2, hi => simp at hi; subst hi; rfl
    | 3, hi => simp at hi; subst hi; rfl
  have HB := Lib.hid hb
  clear hN hb
  go_enter Try.func48, Try.ntmps48
  go_wp2_with (refine wpList_of_wp rfl (fun K hK => wp_conv_bytes 30 9 5 (.tmp 14) ⟨Try.underlying30, Try.underlying5, Try.underlying9⟩ rfl (w.heap.size + 1) _ 4 4 _ rfl HB.out ?_); refine hK _ _ ?_; clear hK K)
  go_ret
  exact ⟨rfl, (Below.refl _ _).alloc (Nat.le_refl _) _⟩
/-- The tag as the reference writes it: eight bytes. -/
def tagStr (k : PL.K8) (p : Int) (l : List UInt8) : ByteArray := ⟨((List.range 8).map (tagOf k p l)).toArray⟩
set_option maxRecDepth 100000 in
set_option maxHeartbeats 4000000 in
theorem refTag_any (k : PL.K8) (p : Int) (b : ByteArray) (w : World) (hn : b.size ≤ 50000000000) :
    Calls Try.prog 43 #[.agg (keyCells k), .int .i64 p, .string b] w fun e w' => e = .returned (.string (tagStr k p b.data.toList)) ∧ Below w.heap.size w w' := by
  have ep := W_place
  have ex := W_xor
  go_enter Try.func43, Try.ntmps43
  go_wp2_with fail
  have hA0 : Blk (w.alloc (Obj.cells (keyCells (K8x k (placeWord p))) 33)) w.heap.size 33 (keyCells (K8x k (placeWord p))) := Blk.new _ _ _
  have hW0 : Below w.heap.size w (w.alloc (Obj.cells (keyCells (K8x k (placeWord p))) 33)) := (Below.refl _ _).alloc (Nat.le_refl _) _
  refine (refMix_any (K8x k (placeWord p)) _).mono ?_
  rintro e w1 ⟨rfl, hb1⟩
  have hA1 := hA0.below (w' := w1) hb1 hA0.lt
  have hW1 : Below w.heap.size w w1 := hW0.trans (hb1.mono hW0.size)
  clear hA0 hW0 hb1
  go_wp2_with (refine wpList_store_blk rfl 33 (.tmp 3) (.tmp 14) rfl w.heap.size (keyCells (PL.mix (K8x k (placeWord p)))) rfl rfl 33 _ hA1 rfl (by kernel_rfl) (key_one' _) ?_; intro w2 hB2 hg2 hs2)
  have hW2 := hW1.grown hg2 (by have := hW1.size; omega) (by intro g hg; injection hg with hg; omega)
  have HB2 := Lib.hid hB2
  have HT : Hid (tagStr k p b.data.toList = ⟨#[(tagSums k p b.data.toList).1.toUInt8, ((tagSums k p b.data.toList).1 >>> 8).toUInt8, ((tagSums k p b.data.toList).1 >>> 16).toUInt8, ((tagSums k p b.data.toList).1 >>> 24).toUInt8]⟩ ++ ⟨#[(tagSums k p b.data.toList).2.toUInt8, ((tagSums k p b.data.toList).2 >>> 8).toUInt8, ((tagSums k p b.data.toList).2 >>> 16).toUInt8, ((tagSums k p b.data.toList).2 >>> 24).toUInt8]⟩) := rfl
  have hS : (tagSums k p b.data.toList).1 = sumW (PL.mix (K8x k (placeWord p))).k0 (PL.mix (K8x k (placeWord p))).k1 b.data.toList ∧ (tagSums k p b.data.toList).2 = sumW (PL.mix (K8x k (placeWord p))).k2 (PL.mix (K8x k (placeWord p))).k3 b.data.toList := ⟨rfl, rfl⟩
  have HS := Lib.hid hS
  clear hA1 hW1 hg2 hs2 hB2 hS ep ex
  generalize PL.mix (K8x k (placeWord p)) = M at *
  have q0 := W_bd M.k0
  have q1 := W_bd M.k1
  have q2 := W_bd M.k2
  have q3 := W_bd M.k3
  refine wp_region_seq (fun w' => Below w2.heap.size w2 w') [(false, 0), (false, 1), (false, 2), (false, 3), (false, 4), (false, 7), (false, 8), (false, 9), (false, 10), (false, 11), (true, 5), (true, 6), (true, 12), (true, 13), (true, 14), (true, 15)]
    (by kernel_rfl) (by kernel_rfl) (fun _ _ d _ _ h => by cases d <;> exact h) (Below.refl _ _).drew ?_
  have hS0 : Below w2.heap.size w2 w2.drew := (Below.refl _ _).drew
  generalize w2.drew = w3 at *
  iterate 10 (apply plan_take rfl rfl rfl rfl; (intro w' hS K hK; have e0 : w'.cell? ⟨w.heap.size, 0, none⟩ = some (u32v M.k0) := (HB2.out.below hS HB2.out.lt).cell 0; have e1 : w'.cell? ⟨w.heap.size, 1, none⟩ = some (u32v M.k1) := (HB2.out.below hS HB2.out.lt).cell 1; have e2 : w'.cell? ⟨w.heap.size, 2, none⟩ = some (u32v M.k2) := (HB2.out.below hS HB2.out.lt).cell 2; have e3 : w'.cell? ⟨w.heap.size, 3, none⟩ = some (u32v M.k3) := (HB2.out.below hS HB2.out.lt).cell 3; clear hS; go_simp; exact hK))
  refine plan_force rfl rfl (fun K hK => ?_)
  go_wp2_with fail
  refine (refSum_any (W M.k0) (W M.k1) b _ q0.1 q0.2 q1.1 q1.2 hn).mono ?_
  rw [W_sum, ← HS.out.1]
  rintro e w4 ⟨rfl, rfl⟩
  go_wp2
  refine hK.out _ _ hS0 ?_; clear hK K
  refine plan_force rfl rfl (fun K hK => ?_)
  go_wp2_with fail
  refine (four_any _ _).mono ?_
  rintro e w4 ⟨rfl, hb4⟩
  have hS4 := hS0.trans (hb4.mono hS0.size)
  clear hS0 hb4
  go_wp2
  refine hK.out _ _ hS4 ?_; clear hK K
  refine plan_force rfl rfl (fun K hK => ?_)
  go_wp2_with fail
  refine (refSum_any (W M.k2) (W M.k3) b _ q2.1 q2.2 q3.1 q3.2 hn).mono ?_
  rw [W_sum, ← HS.out.2]
  rintro e w5 ⟨rfl, rfl⟩
  go_wp2
  refine hK.out _ _ hS4 ?_; clear hK K
  refine plan_force rfl rfl (fun K hK => ?_)
  go_wp2_with fail
  refine (four_any _ _).mono ?_
  rintro e w5 ⟨rfl, hb5⟩
  have hS5 := hS4.trans (hb5.mono hS4.size)
  clear hS4 hb5
  go_wp2
  refine hK.out _ _ hS5 ?_; clear hK K
  generalize (tagSums k p b.data.toList).1 = s1 at *
  generalize (tagSums k p b.data.toList).2 = s2 at *
  refine plan_force rfl rfl (fun K hK => ?_)
  go_wp2
  refine hK.out _ _ hS5 ?_; clear hK K
  refine plan_force rfl rfl (fun K hK => ?_); go_wp2; refine hK.out _ _ hS5 ?_; clear hK K
  refine plan_nil ?_
  go_wp2
  go_ret
  exact ⟨by rw [HT.out]; rfl, hW2.trans (hS5.mono hW2.size)⟩
end Go.Proofs.Ytobbjhbjjhnicaa
