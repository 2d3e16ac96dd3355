/- The walk of tag.Sum: it returns the polynomial sum of chapter 15. -/
import Derived.Test.YtobbjhbjjhnicaaProg
import Derived.Test.YtobbjhbjjhnicaaWords
import Derived.Test.YtobbjhbjjhnicaaPlainSum
namespace Go.Proofs.Ytobbjhbjjhnicaa
open Go.RowKit
theorem mul_lt64 (v x : Nat) (hv : v < 4294967291) (hx : x < 4294967291) : v * x ≤ 18446744022169944100 := by
  have := Nat.mul_le_mul (Nat.le_sub_one_of_lt hv) (Nat.le_sub_one_of_lt hx)
  simpa using this
theorem val_step (v x : Nat) (c : UInt8) (hv : v < 4294967291) (hx : x < 4294967291) :
    (IntKind.u64.wrap (IntKind.u64.wrap ((IntKind.u64.wrap ((v : Int) * (x : Int))).tmod 4294967291 + IntKind.u64.wrap (c.toNat : Int)) + 1)).tmod 4294967291 = ((PL.sumStep x v c : Nat) : Int) := by
  have h1 := mul_lt64 v x hv hx
  have hc := c.toNat_lt
  have e : (v : Int) * (x : Int) = ((v * x : Nat) : Int) := by simp
  unfold PL.sumStep PL.Prm
  rw [e]
  generalize v * x = m at *
  rw [IntWalk.u64_in (m : Int) (by omega), IntWalk.u64_in (c.toNat : Int) (by omega), Int.tmod_eq_emod_of_nonneg (a := (m : Int)) (by omega), IntWalk.u64_in ((m : Int) % 4294967291 + c.toNat) (by omega), IntWalk.u64_in _ (by omega), Int.tmod_eq_emod_of_nonneg (by omega)]
  omega
theorem val_end (v x k : Nat) (hv : v < 4294967291) (hx : x < 4294967291) (hk : k ≤ 1000000000000) :
    (IntKind.u64.wrap ((IntKind.u64.wrap ((v : Int) * (x : Int))).tmod 4294967291 + (k : Int))).tmod 4294967291 % 4294967296 = (((v * x % PL.Prm + k) % PL.Prm : Nat) : Int) := by
  have h1 := mul_lt64 v x hv hx
  have e : (v : Int) * (x : Int) = ((v * x : Nat) : Int) := by simp
  unfold PL.Prm
  rw [e]
  generalize v * x = m at *
  rw [IntWalk.u64_in (m : Int) (by omega), Int.tmod_eq_emod_of_nonneg (a := (m : Int)) (by omega), IntWalk.u64_in _ (by omega), Int.tmod_eq_emod_of_nonneg (by omega)]
  omega
set_option maxRecDepth 100000 in
set_option maxHeartbeats 1000000 in
theorem sum_any (r s : Int) (A : Option Addr) (n c B : Nat) (l : List UInt8) (w : World) (hr0 : 0 ≤ r) (hr : r ≤ 4294967295) (hs0 : 0 ≤ s) (hs : s ≤ 4294967295) (hb : Bytes w B A n l) (hn : n ≤ 1000000000000) :
    Calls Try.prog 44 #[.int .u32 r, .int .u32 s, .slice A n c] w fun e w' => e = .returned (.int .u32 (PL.sumOf r.toNat s.toNat l : Int)) ∧ w = w' := by
  have HB := Lib.hid hb
  clear hb
  go_enter Try.func44, Try.ntmps44
  go_wp2
  refine wp_scope_goto 0 (fun a' w' => w' = w ∧ ∃ k v x : Nat, k ≤ n ∧ v < 4294967291 ∧ 1 ≤ x ∧ x < 4294967291 ∧ Hid (x = r.toNat % (PL.Prm - 1) + 1) ∧ Hid (v = PL.sumGo x (s.toNat % PL.Prm) (l.take k)) ∧ ∃ u : Nat → Value, a' = ⟨#[.int .u32 r, .int .u32 s, .slice A n c, u 3, u 4, u 5, u 6, .int .u64 (x : Int), .int .u64 (v : Int), .int .i64 (k : Int), u 10, u 11, u 12, u 13, u 14, u 15, u 16, u 17, u 18, u 19, u 20, u 21, u 22, u 23, u 24, u 25, u 26, u 27, u 28, u 29, u 30, u 31, u 32, u 33, u 34, u 35, u 36, u 37, u 38, u 39, u 40, u 41, u 42, u 43, u 44], []⟩) (fun a' _ => n - (intOf (a'.tmps.getD 9 undef)).toNat) rfl ?_ ?_
  · intro HL
    go_wp2
    go_step3
    go_step
    go_step
    refine HL.out _ _ ⟨rfl, 0, s.toNat % PL.Prm, r.toNat % (PL.Prm - 1) + 1, Nat.zero_le _, Nat.mod_lt _ (by decide), by omega, PL.x_ok r.toNat |>.2, rfl, rfl, ?_⟩
    have e1 : r % 4294967290 + 1 = ((r.toNat % (PL.Prm - 1) + 1 : Nat) : Int) := by
      unfold PL.Prm
      omega
    have e2 : s % 4294967291 = ((s.toNat % PL.Prm : Nat) : Int) := by
      unfold PL.Prm
      omega
    clear HL
    rw [e1, e2]
    exact ⟨slot [undef, undef, undef, _, _, _, _, undef, undef, undef, _, _, _, _, _, _, _, _, _, _, _, _, _, _, _, _, _, _, _, _, _, _, _, _, _, _, _, _, _, _, _, _, _, _, _], rfl⟩
  · rintro a' w' ⟨rfl, k, v, x, hk, hv, hx1, hx2, HX, HV, ⟨u, rfl⟩⟩
    by_cases hlt : k < n
    · have hne : ((k : Int) == (n : Int)) = false := by simp; omega
      obtain ⟨b, off, hl, rfl, _, hc⟩ := HB.out.at_ hlt
      go_wp2
      go_step3
      refine jump_goto ⟨⟨rfl, k + 1, PL.sumStep x v l[k], x, hlt, PL.sumStep_lt _ _ _, hx1, hx2, HX, ?_, ?_⟩, ?_⟩
      · show _ = _
        rw [List.take_succ_eq_append_getElem hl, PL.sumGo_snoc, ← HV.out]
      · rw [val_step v x l[k] hv hx2]
        exact ⟨slot [undef, undef, undef, _, _, _, _, undef, undef, undef, _, _, _, _, _, _, _, _, _, _, _, _, _, _, _, _, _, _, _, _, _, _, _, _, _, _, _, _, _, _, _, _, _, _, _], rfl⟩
      · simp [intOf]; omega
    · obtain rfl : k = n := by omega
      have hne : ((k : Int) == (k : Int)) = true := by simp
      go_wp2
      refine jump_ret ?_
      go_ret
      refine ⟨ret_int ?_, rfl⟩
      rw [val_end v x k hv hx2 hn, HV.out, HX.out, List.take_of_length_le (by rw [HB.out.len]; exact Nat.le_refl _)]
      unfold PL.sumOf
      rw [HB.out.len]
end Go.Proofs.Ytobbjhbjjhnicaa
