/- The walk of the reference's Out.Bytes. -/
import Derived.Test.YtmllblgninmolaaRefBits
namespace Go.Proofs.Ytmllblgninmolaa
open Go.RowKit
set_option linter.unusedVariables false
namespace RB
/-- The bytes when the first i bits are laid. -/
def cont (bs : List Bool) (m i : Nat) : List UInt8 := (List.range m).map fun k => PB.byteOf (((bs.take i).drop (8 * k)).take 8)
theorem cont_length (bs : List Bool) (m i : Nat) : (cont bs m i).length = m := by simp [cont]
theorem cont_zero (bs : List Bool) (m : Nat) : cont bs m 0 = List.replicate m 0 := by
  apply List.ext_getElem
  · simp [cont]
  · intro i h1 h2
    simp [cont, PB.byteOf, PB.val]
theorem cont_get (bs : List Bool) (m i k : Nat) (h : k < m) : (cont bs m i)[k]? = some (PB.byteOf (((bs.take i).drop (8 * k)).take 8)) := by simp [cont, h]
theorem chunk_get (bs : List Bool) (i a t : Nat) : (((bs.take i).drop a).take 8)[t]? = if t < 8 ∧ a + t < i then bs[a + t]? else none := by
  rw [List.getElem?_take]
  by_cases h1 : t < 8
  · rw [if_pos h1, List.getElem?_drop, List.getElem?_take]
    by_cases h2 : a + t < i
    · rw [if_pos h2, if_pos ⟨h1, h2⟩]
    · rw [if_neg h2, if_neg (by omega)]
  · rw [if_neg h1, if_neg (by omega)]
theorem chunk_other (bs : List Bool) (i k : Nat) (hk : k ≠ i / 8) : ((bs.take (i + 1)).drop (8 * k)).take 8 = ((bs.take i).drop (8 * k)).take 8 := by
  apply List.ext_getElem?
  intro t
  rw [chunk_get, chunk_get]
  by_cases h : t < 8 ∧ 8 * k + t < i
  · rw [if_pos h, if_pos (by omega)]
  · rw [if_neg h, if_neg (by omega)]
theorem chunk_len (bs : List Bool) (i : Nat) (hi : i ≤ bs.length) : (((bs.take i).drop (8 * (i / 8))).take 8).length = i % 8 := by
  rw [List.length_take, List.length_drop, List.length_take]
  omega
theorem chunk_own (bs : List Bool) (i : Nat) (b : Bool) (hb : bs[i]? = some b) : ((bs.take (i + 1)).drop (8 * (i / 8))).take 8 = ((bs.take i).drop (8 * (i / 8))).take 8 ++ [b] := by
  have hi : i < bs.length := (List.getElem?_eq_some_iff.1 hb).1
  have hl := chunk_len bs i (by omega)
  apply List.ext_getElem?
  intro t
  rw [chunk_get, List.getElem?_append, hl]
  by_cases h1 : t < i % 8
  · rw [if_pos (by omega), if_pos h1, chunk_get, if_pos (by omega)]
  · rw [if_neg h1]
    by_cases h2 : t = i % 8
    · subst h2
      rw [if_pos (by omega), Nat.sub_self, show 8 * (i / 8) + i % 8 = i by omega, hb]
      rfl
    · rw [if_neg (by omega), List.getElem?_eq_none (by simp; omega)]
theorem byte_or (c : List Bool) (b : Bool) (h : c.length ≤ 7) : (PB.byteOf c).toNat ||| (b.toNat * 2 ^ (7 - c.length)) = (PB.byteOf (c ++ [b])).toNat := by
  rw [PB.byteOf_nat c (by omega), PB.byteOf_nat (c ++ [b]) (by rw [List.length_append, List.length_singleton]; omega), PB.val_snoc]
  have hb : b.toNat < 2 := by cases b <;> decide
  have e1 : 8 - c.length = (7 - c.length) + 1 := by omega
  have e2 : 8 - (c ++ [b]).length = 7 - c.length := by rw [List.length_append, List.length_singleton]; omega
  rw [e2, Nat.mul_comm (PB.val c)]
  have := Nat.two_pow_add_eq_or_of_lt (i := 8 - c.length) (b := b.toNat * 2 ^ (7 - c.length)) (by
    rw [e1, Nat.pow_succ, Nat.mul_comm]
    exact (Nat.mul_lt_mul_left (Nat.two_pow_pos _)).2 hb) (PB.val c)
  rw [← this, e1, Nat.pow_succ, Nat.add_mul]
  congr 1
  rw [Nat.mul_comm (2 ^ (7 - c.length)) 2, Nat.mul_assoc, Nat.mul_assoc, Nat.mul_comm (2 ^ (7 - c.length))]
theorem cont_step (bs : List Bool) (m i : Nat) (b : Bool) (hb : bs[i]? = some b) (hm : i / 8 < m) : (cont bs m i).set (i / 8) (PB.byteOf (((bs.take i).drop (8 * (i / 8))).take 8 ++ [b])) = cont bs m (i + 1) := by
  apply List.ext_getElem?
  intro k
  rw [List.getElem?_set, cont_length]
  by_cases hk : k < m
  · rw [cont_get bs m i k hk, cont_get bs m (i + 1) k hk]
    by_cases he : i / 8 = k
    · rw [if_pos he, if_pos hm, ← he, chunk_own bs i b hb]
    · rw [if_neg he, chunk_other bs i k (Ne.symm he)]
  · rw [List.getElem?_eq_none (by rw [cont_length]; omega), List.getElem?_eq_none (by rw [cont_length]; omega)]
    by_cases he : i / 8 = k
    · omega
    · rw [if_neg he]
theorem cont_all (bs : List Bool) (n : Nat) (hn : bs.length = n) : cont bs ((n + 7) / 8) n = PB.pack bs := by
  apply List.ext_getElem?
  intro k
  by_cases hk : k < (n + 7) / 8
  · rw [cont_get _ _ _ _ hk, PB.pack_get k bs (by omega), ← hn, List.take_length]
  · rw [List.getElem?_eq_none (by rw [cont_length]; omega), List.getElem?_eq_none (by rw [PB.pack_length _ bs rfl]; omega)]
end RB
set_option maxRecDepth 100000 in
set_option maxHeartbeats 4000000 in
theorem refBytes10 (gm : Nat) (A : Option Addr) (n c : Nat) (bs : List Bool) (w : World) (ho : ROut w gm A n c bs) (hb : n ≤ 200000) :
    Calls Try.prog 20 #[.pointer (some ⟨gm, 0, none⟩)] w fun e w' => e = .returned (.string ⟨(PB.pack bs).toArray⟩) ∧ Below w.heap.size w w' := by
  have HO := Lib.hid ho
  have hgm := ho.1.lt
  have HLen := Lib.hid ho.len
  have HY := Lib.hid ho.bytes
  clear ho
  obtain ⟨m, hm⟩ : ∃ m, m = (n + 7) / 8 := ⟨_, rfl⟩
  have hmI : ((n : Int) + 7) / 8 = (m : Int) := by omega
  have hm2 : m ≤ 100000 := by omega
  have HM := Lib.hid hm
  have c0 : w.cell? ⟨gm, 0, none⟩ = some (.slice A n c) := HO.out.1.cell 0
  have hmk : ∀ w : World, (Instr.makeSlice 23 (.int .i64 (m : Int)) (.int .i64 (m : Int))).run Try.prog w = .ok (.slice (some ⟨w.heap.size, 0, none⟩) m m) (w.alloc (.cells (zeroRow m) 5)) := fun w => run_make_bytes row_u8 w m m .i64 .i64 (Nat.le_refl _) (by omega)
  clear hm
  go_enter Try.func20, Try.ntmps20
  go_wp2
  clear c0 hmk hmI
  go_loopw [4] (fun i wr => ∃ k : Nat, k ≤ n ∧ i = .int .i64 k ∧ Hid (ByteBlk wr w.heap.size (RB.cont bs m k)) ∧ Below w.heap.size w wr) (fun i _ => n - (intOf i).toNat)
  case atStart => exact ⟨0, Nat.zero_le _, rfl, (by rw [RB.cont_zero]; exact ByteBlk.made w m), (Below.refl _ _).alloc (Nat.le_refl _) _⟩
  case round =>
    obtain ⟨k, hk, rfl, HB, hW⟩ := hrel
    have c0 : wr.cell? ⟨gm, 0, none⟩ = some (.slice A n c) := (HO.out.1.below hW hgm).cell 0
    by_cases hlt : k < n
    · obtain ⟨b, hbE⟩ : ∃ b, bs[k]? = some b := ⟨bs[k]'(by rw [HLen.out]; exact hlt), List.getElem?_eq_getElem _⟩
      obtain ⟨b0, o0, hkl, rfl, _, hcl⟩ := (HY.out.below hW).at_ hlt
      have hcl2 : wr.cell? ⟨b0, o0 + k, none⟩ = some (.int .u8 ((b.toNat : Nat) : Int)) := by
        rw [hcl]
        have : bs[k]'(by rw [HLen.out]; exact hlt) = b := (List.getElem?_eq_some_iff.1 hbE).2
        rw [List.getElem_map, this, bitByte_nat]
      have hkm : k / 8 < m := by have := HM.out; omega
      obtain ⟨ch, hch⟩ : ∃ ch, ch = ((bs.take k).drop (8 * (k / 8))).take 8 := ⟨_, rfl⟩
      have hchl : ch.length = k % 8 := by rw [hch]; exact RB.chunk_len bs k (by rw [HLen.out]; omega)
      have hcb : wr.cell? ⟨w.heap.size, k / 8, none⟩ = some (.int .u8 ((PB.byteOf ch).toNat : Int)) := by
        rw [Blk.cell HB.out]
        simp [RB.cont_get bs m k (k / 8) hkm, ← hch]
      have hst := RB.cont_step bs m k b hbE hkm
      rw [← hch] at hst
      have hor := RB.byte_or ch b (by omega)
      rw [hchl] at hor
      have hsm : b.toNat * 2 ^ (7 - k % 8) < 256 := by
        have h1 : b.toNat ≤ 1 := by cases b <;> decide
        have h2 : 2 ^ (7 - k % 8) ≤ 2 ^ 7 := Nat.pow_le_pow_right (by decide) (by omega)
        have := Nat.mul_le_mul h1 h2
        omega
      have hor8 := u8_or_nat (PB.byteOf ch).toNat (b.toNat * 2 ^ (7 - k % 8)) (PB.byteOf ch).toNat_lt hsm
      rw [hor] at hor8
      have hsh : ((b.toNat : Nat) : Int) * 2 ^ (7 - k % 8) % 256 = ((b.toNat * 2 ^ (7 - k % 8) : Nat) : Int) := by
        have e1 : ((b.toNat : Nat) : Int) * 2 ^ (7 - k % 8) = ((b.toNat * 2 ^ (7 - k % 8) : Nat) : Int) := by simp
        rw [e1]
        omega
      obtain ⟨D, hD⟩ : ∃ D, D = PB.byteOf (ch ++ [b]) := ⟨_, rfl⟩
      rw [← hD] at hst hor8
      obtain ⟨X, hX⟩ : ∃ X, X = (PB.byteOf ch).toNat := ⟨_, rfl⟩
      rw [← hX] at hcb hor8
      obtain ⟨Y, hY⟩ : ∃ Y, Y = b.toNat * 2 ^ (7 - k % 8) := ⟨_, rfl⟩
      rw [← hY] at hsh hor8
      obtain ⟨d, hd⟩ : ∃ d, d = k / 8 := ⟨_, rfl⟩
      obtain ⟨r, hr⟩ : ∃ r, r = k % 8 := ⟨_, rfl⟩
      rw [← hr] at hsh
      rw [← hd] at hcb hst hkm
      have hk8 : (k : Int).tdiv 8 = (d : Int) := by rw [Int.tdiv_eq_ediv_of_nonneg (by omega)]; omega
      have jd : IntKind.i64.wrap (d : Int) = (d : Int) := IntWalk.i64_in _ (by omega)
      have d0 : (0 : Int) ≤ (d : Int) := by omega
      have d1 : (d : Int) < (m : Int) := by omega
      have k0 : (0 : Int) ≤ (k : Int) := by omega
      have k1 : (k : Int) < (n : Int) := by omega
      have hr8 : (k : Int) % 8 = (r : Int) := by omega
      have hr2 : r ≤ 7 := by omega
      have ju : IntKind.u64.wrap (7 - (r : Int)) = 7 - (r : Int) := IntWalk.u64_in _ (by omega)
      have HST := Lib.hid hst
      clear hbE hcl hch hchl hst hor hsm hD hX hY hd hr
      go_wp2
      refine wp_region_planC (fun x => True) (fun x => x = wr.drew) 22 [(0, 0), (0, 1), (0, 2), (0, 3), (0, 4), (0, 5), (0, 6), (1, 7), (0, 8), (0, 9), (0, 10), (1, 11), (0, 12), (0, 13), (1, 14), (2, 15), (2, 16), (2, 17), (2, 18), (2, 19), (2, 20), (2, 21), (2, 22)]
        (by kernel_rfl) (by kernel_rfl) (fun _ _ d _ _ h => by cases d <;> exact h) trivial rfl ?_
      have e0 : wr.drew.cell? ⟨gm, 0, none⟩ = some (.slice (some ⟨b0, o0, none⟩) n c) := c0
      have e1 : wr.drew.cell? ⟨b0, o0 + k, none⟩ = some (.int .u8 ((b.toNat : Nat) : Int)) := hcl2
      have e2 : wr.drew.cell? ⟨w.heap.size, d, none⟩ = some (.int .u8 (X : Int)) := hcb
      have HB2 : Hid (ByteBlk wr.drew w.heap.size (RB.cont bs m k)) := HB.out
      have hW2 := hW.drew
      have f2 : wr.drew.frozen? ⟨w.heap.size, d, none⟩ = false := Blk.frozen HB.out d
      clear c0 hcl2 hcb HB hW
      generalize wr.drew = w2 at *
      iterate 7 (apply planC_take rfl rfl rfl rfl; (intro w' hS K hK; clear hS; go_simp; exact hK))
      apply planC_read rfl rfl rfl rfl
      · intro w' hS h1 K hK; subst h1; go_simp; exact hK
      iterate 3 (apply planC_take rfl rfl rfl rfl; (intro w' hS K hK; clear hS; go_simp; exact hK))
      apply planC_read rfl rfl rfl rfl
      · intro w' hS h1 K hK; subst h1; go_simp; exact hK
      iterate 2 (apply planC_take rfl rfl rfl rfl; (intro w' hS K hK; clear hS; go_simp; exact hK))
      apply planC_read rfl rfl rfl rfl
      · intro w' hS h1 K hK; subst h1; go_simp; exact hK
      iterate 7 (refine planC_force rfl rfl rfl (fun K hK => ?_); go_wp2; refine hK.out _ _ trivial rfl ?_; clear hK K)
      refine planC_turn rfl rfl (fun K hK => ?_)
      go_wp2
      refine hK.out _ _ trivial ?_; clear hK K
      refine planC_nil ?_
      have HB3 : Hid (ByteBlk (w2.setCell ⟨w.heap.size, d, none⟩ (.int .u8 (D.toNat : Int))) w.heap.size (RB.cont bs m (k + 1))) := by
        show ByteBlk _ _ _
        rw [← HST.out]
        exact HB2.out.set d D
      have hW3 := hW2.setCell (p := ⟨w.heap.size, d, none⟩) (Nat.le_refl _) (.int .u8 (D.toNat : Int))
      clear e0 e1 e2 f2 HB2 hW2
      go_wp2
      go_roundw
      case rel => exact ⟨k + 1, hlt, by go_num, HB3, hW3⟩
      case measure => simp [intOf]; omega
    · obtain rfl : k = n := by omega
      have hall := RB.cont_all bs k HLen.out
      rw [← HM.out] at hall
      have hB := HB.out
      rw [hall] at hB
      have hml : (PB.pack bs).length = m := by rw [← hall, RB.cont_length]
      have hcv : (convert 23 9 (.slice (some ⟨w.heap.size, 0, none⟩) m m)).run Try.prog wr = .ok (.string ⟨(PB.pack bs).toArray⟩) wr := by
        have h1 := ByteBlk.bytes hB
        rw [hml] at h1
        exact conv_bytes conv_u8 m h1
      clear hall hB hml
      go_wp2
      go_ret
      exact ⟨rfl, hW⟩
end Go.Proofs.Ytmllblgninmolaa
