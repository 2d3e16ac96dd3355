/- The walk of num.Put: the bytes of a number, in memory of the call's own. -/
import Derived.Test.YtobbjhbjjhnicaaByteRow
import Derived.Test.YtobbjhbjjhnicaaPlainNum
namespace Go.Proofs.Ytobbjhbjjhnicaa
open Go.RowKit
set_option linter.unusedVariables false
/-- A call gave a slice of its own that holds l; nothing that was there has changed. -/
def Gave (w : World) (l : List UInt8) (e : Ending) (w' : World) : Prop := ∃ v, e = .returned v ∧ Own 5 w' w.heap.size v l ∧ Below w.heap.size w w'
/-- The shape of what owns, its length a letter. -/
theorem Own.form_n {w : World} {e : TypeId} {base : Nat} {v : Value} {l : List UInt8} (h : Own e w base v l) : ∃ A n c, v = .slice A n c ∧ Bytes w w.heap.size A n l ∧ n ≤ c ∧ (A = none → c = 0) := by
  obtain ⟨A, c, h1, h2, h3, h4, _⟩ := h.form
  exact ⟨A, _, c, h1, h2, h3, h4⟩
theorem below_grown_own {w0 w w' : World} {v : Value} {l : List UInt8} {e : TypeId} (hb : Below w0.heap.size w0 w) (ho : Own e w w0.heap.size v l) (hg : w.grownBy w' v.ownBlock) : Below w0.heap.size w0 w' := by
  refine hb.grown hg hb.size (fun g h => ?_)
  obtain ⟨A, c, _, _, _, _, h2⟩ := ho.form
  exact h2 g h
theorem blk_bytes2 (w : World) (t : TypeId) (x y : UInt8) : Bytes (w.alloc (.cells #[u8v x, u8v y] t)) (w.heap.size + 1) (some ⟨w.heap.size, 0, none⟩) 2 [x, y] := by
  refine ⟨rfl, fun _ => ⟨w.heap.size, 0, rfl, Nat.lt_succ_self _, fun i c hi => ?_⟩⟩
  rw [Nat.zero_add, (Blk.new w t #[u8v x, u8v y]).cell]
  match i, hi with
  | 0, hi => cases hi; rfl
  | 1, hi => cases hi; rfl
theorem nat_byte {q : Nat} (h : q < 256) : Value.int .u8 (q : Int) = u8v (UInt8.ofNat q) := by
  unfold u8v
  rw [UInt8.toNat_ofNat']
  congr 1
  omega
theorem one_nat (w : World) (t : TypeId) (q : Nat) (h : q < 256) : Bytes (w.alloc (.cells #[.int .u8 (q : Int)] t)) (w.heap.size + 1) (some ⟨w.heap.size, 0, none⟩) 1 [UInt8.ofNat q] := by
  rw [nat_byte h]
  exact one_bytes w t _
set_option maxRecDepth 100000 in
set_option maxHeartbeats 1000000 in
theorem numPut (n : Nat) (hn : n < PN.M64) (w : World) : Calls Try.prog 38 #[.int .u64 (n : Int)] w (Gave w (PN.enc n)) := by
  have hlen := PN.enc_len64 n hn
  have HN : Hid (PN.M64 = 18446744073709551616) := rfl
  rw [HN.out] at hn
  go_enter Try.func38, Try.ntmps38
  go_wp2
  refine wp_scope_back 0 (fun q a' w' => ∃ (m : Nat) (v : Value) (acc : List UInt8), q = m ∧ m ≤ n ∧ Hid (acc ++ PN.enc m = PN.enc n) ∧ Below w.heap.size w w' ∧ Hid (Own 5 w' w.heap.size v acc) ∧ ∃ u : Nat → Value, a' = ⟨#[.int .u64 (m : Int), u 1, .slice none 0 0, v, u 4, u 5, u 6, u 7, u 8, u 9, u 10, u 11, u 12, u 13, u 14, u 15, u 16, u 17, u 18], []⟩) rfl ?_ ?_
  · intro HL
    go_wp2
    go_step3
    go_step
    go_step
    exact HL.out n _ _ ⟨n, .slice none 0 0, [], rfl, Nat.le_refl _, rfl, Below.refl _ _, Own.nil_, ⟨slot [undef, _, undef, undef, _, _, _, _, _, _, _, _, _, _, _, _, _, _, _], rfl⟩⟩
  · rintro q a' w' ⟨m, v, acc, rfl, hm, HE, hb, HO, ⟨u, rfl⟩⟩
    have hacc : acc.length ≤ 17 := by
      have := congrArg List.length HE.out
      rw [List.length_append] at this
      omega
    by_cases hlt : q < 250
    · have hlt' : (q : Int) < 250 := by omega
      go_wp2_with (refine wpList_of_wp rfl (fun K hK => wp_append_bytes (.tmp 6) (.tmp 9) 30 row_u8 rfl [UInt8.ofNat q] rfl (HO.out.alloc _) (w'.heap.size + 1) (some ⟨w'.heap.size, 0, none⟩) 1 1 rfl (one_nat w' _ q (by omega)) (fun h => by cases h) (by omega) (by rw [World.size_alloc]; have := hb.size; omega) ?_); intro v1 w1 hO1 hg1 hd1; refine hK _ _ ?_; clear hK K)
      refine jump_ret ?_
      go_ret
      refine ⟨v1, rfl, ?_, below_grown_own (hb.alloc hb.size _) (HO.out.alloc _) hg1⟩
      have he := HE.out
      rw [PN.enc_small hlt] at he
      rw [← he]
      exact hO1
    · have hlt' : ¬ (q : Int) < 250 := by omega
      have hle := hb.size
      have e1 : (q : Int) % 250 = ((q % 250 : Nat) : Int) := by omega
      have e2 : (q : Int) / 250 = ((q / 250 : Nat) : Int) := by omega
      have hx : Bytes (w'.alloc (.cells #[.int .u8 250, .int .u8 ((q : Int) % 250)] 5)) (w'.heap.size + 1) (some ⟨w'.heap.size, 0, none⟩) 2 [250, UInt8.ofNat (q % 250)] := by
        rw [e1, nat_byte (by omega)]
        exact blk_bytes2 w' _ 250 _
      have HX := Lib.hid hx
      clear hx
      have HE2 := Lib.hid e2
      clear e1 e2
      go_wp2_with (refine wpList_of_wp rfl (fun K hK => wp_append_bytes (.tmp 11) (.tmp 15) 30 row_u8 rfl [250, UInt8.ofNat (q % 250)] rfl (HO.out.alloc _) (w'.heap.size + 1) (some ⟨w'.heap.size, 0, none⟩) 2 2 rfl HX.out (fun h => by cases h) (by omega) (by rw [World.size_alloc]; omega) ?_); intro v1 w1 hO1 hg1 hd1; refine hK _ _ ?_; clear hK K)
      go_step3
      rw [HE2.out]
      refine jump_back (m' := q / 250) ?_ ?_
      · omega
      refine ⟨q / 250, v1, acc ++ [250, UInt8.ofNat (q % 250)], rfl, by omega, ?_, below_grown_own (hb.alloc hb.size _) (HO.out.alloc _) hg1, hO1, ⟨slot [undef, _, undef, undef, _, _, _, _, _, _, _, _, _, _, _, _, _, _, _], rfl⟩⟩
      show _ = _
      have he := HE.out
      rw [PN.enc_big hlt] at he
      rw [← he]
      simp
end Go.Proofs.Ytobbjhbjjhnicaa
