/- The walk of MatchRuns. -/
import Derived.Test.YthoipfdapmjcfaaTold11
import Derived.Test.YthoipfdapmjcfaaPlainMatch2
import Derived.Test.YthoipfdapmjcfaaOpenB
import Derived.Test.YthoipfdapmjcfaaMake
namespace Go.Proofs.Ythoipfdapmjcfaa
open Go.RowKit
set_option linter.unusedVariables false
namespace MU
def times (z : Int) : Nat := ((IntKind.u64.wrap z) % 500).toNat
theorem times_le (z : Int) : times z ≤ 499 := by
  unfold times
  omega
theorem times_eq (z : Int) : wrap64 ((IntKind.u64.wrap z).tmod 500) = (times z : Int) := by
  have h0 : 0 ≤ IntKind.u64.wrap z := by rw [IntKind.wrap_u64]; omega
  unfold times
  rw [Int.tmod_eq_emod_of_nonneg h0]
  generalize IntKind.u64.wrap z = y at *
  rw [IntWalk.wrap64_in (y % 500) (by omega)]
  omega
/-- The block holds the byte c at each place below j, and has n places. -/
def Filled (w : World) (g : Nat) (n j : Nat) (c : UInt8) : Prop := ∃ cs, Blk w g 5 cs ∧ cs.size = n ∧ ∀ i, i < j → cs[i]? = some (u8v c)
theorem Filled.next {w : World} {g n j : Nat} {c : UInt8} (h : Filled w g n j c) (hj : j < n) : Filled (w.setCell ⟨g, j, none⟩ (u8v c)) g n (j + 1) c := by
  obtain ⟨cs, h1, h2, h3⟩ := h
  refine ⟨_, h1.set_ j _, by simp [h2], fun i hi => ?_⟩
  rw [Array.getElem?_setIfInBounds]
  by_cases e : j = i
  · rw [if_pos e, if_pos (by omega)]
  · rw [if_neg e]
    exact h3 i (by omega)
theorem Filled.cell {w : World} {g n j : Nat} {c : UInt8} (h : Filled w g n j c) (hj : j < n) : ∃ v, w.cell? ⟨g, 0 + j, none⟩ = some v := by
  obtain ⟨cs, h1, h2, h3⟩ := h
  rw [Nat.zero_add, h1.cell j]
  exact ⟨_, Array.getElem?_eq_getElem (by omega)⟩
theorem Filled.frozen {w : World} {g n j : Nat} {c : UInt8} (h : Filled w g n j c) (i : Nat) : w.frozen? ⟨g, i, none⟩ = false := by
  obtain ⟨cs, h1, h2, h3⟩ := h
  exact h1.frozen i
theorem Filled.bytes {w : World} {g n : Nat} {c : UInt8} (h : Filled w g n n c) {B : Nat} (hB : g < B) : Bytes w B (some ⟨g, 0, none⟩) n (List.replicate n c) := by
  obtain ⟨cs, h1, h2, h3⟩ := h
  refine ⟨by simp, fun _ => ⟨g, 0, rfl, hB, fun i x hi => ?_⟩⟩
  have hi' : i < n := by simpa using (List.getElem?_eq_some_iff.1 hi).1
  have hc : x = c := (List.mem_replicate.1 (List.mem_of_getElem? hi)).2
  subst hc
  rw [Nat.zero_add, h1.cell i, h3 i hi']
theorem pos_one (k : Nat) (c : UInt8) (hk : 0 < k) : PM.posAt (List.replicate k c) 1 = 1 := by
  show 0 + PM.longAt (List.replicate k c) 0 = 1
  rw [(PM.tok_rep0 k c hk).2]
end MU
set_option maxRecDepth 100000 in
set_option maxHeartbeats 4000000 in
theorem walkMatchRuns' (c : UInt8) (q : Int) (w : World) :
    Calls Try.prog 6 #[u8v c, .int .i64 q] w fun e w' => e = .returned (.bool true) ∧ Below w.heap.size w w' := by
  have hr := MU.times_eq q
  have hr2 := MU.times_le q
  generalize MU.times q = r at *
  obtain ⟨k, hk⟩ : ∃ k, k = 1 + r := ⟨_, rfl⟩
  have ek : (1 : Int) + (r : Int) = (k : Int) := by omega
  have hk1 : 1 ≤ k := by omega
  have hk2 : k ≤ 500 := by omega
  have hc256 := c.toNat_lt
  have jc : wrap64 (c.toNat : Int) = (c.toNat : Int) := IntWalk.wrap64_in _ ⟨by omega, by omega⟩
  have hmk : ∀ w : World, (Instr.makeSlice 23 (.int .i64 (k : Int)) (.int .i64 (k : Int))).run Try.prog w = .ok (.slice (some ⟨w.heap.size, 0, none⟩) k k) (w.alloc (.cells (zeroRow k) 5)) := fun w => run_make_bytes row_u8 w k k .i64 .i64 (Nat.le_refl _) (by omega)
  have HF0 : Hid (MU.Filled (w.alloc (.cells (zeroRow k) 5)) w.heap.size k 0 c) := ⟨_, Blk.new _ _ _, zeroRow_size k, fun i hi => by omega⟩
  have hW0 : Below w.heap.size w (w.alloc (.cells (zeroRow k) 5)) := (Below.refl _ _).alloc (Nat.le_refl _) _
  clear hk hr2
  go_enter Try.func6, Try.ntmps6
  go_wp2_with fail
  clear hr ek hmk
  go_loopw [7] (fun i wr => ∃ (j : Nat), j ≤ k ∧ i = .int .i64 j ∧ Hid (MU.Filled wr w.heap.size k j c) ∧ Below w.heap.size w wr) (fun i _ => k - (intOf i).toNat)
  case atStart => exact ⟨0, Nat.zero_le _, rfl, HF0, hW0⟩
  case round =>
    clear HF0 hW0
    obtain ⟨j, hj, rfl, HF, hW⟩ := hrel
    by_cases hlt : j < k
    · obtain ⟨v0, hc0⟩ := HF.out.cell hlt
      have hf0 := HF.out.frozen j
      have HF1 := Lib.hid (HF.out.next hlt)
      have hW1 := hW.setCell (p := ⟨w.heap.size, j, none⟩) (Nat.le_refl _) (u8v c)
      rw [Nat.zero_add] at hc0
      go_wp2_with fail
      go_roundw
      case rel => exact ⟨j + 1, hlt, by go_num, HF1, hW1⟩
      case measure => simp [intOf]; omega
    · obtain rfl : j = k := by omega
      have hsz : w.heap.size < wr.heap.size := by
        obtain ⟨cs, h1, _⟩ := HF.out
        exact h1.lt
      have HB := Lib.hid (HF.out.bytes hsz)
      have kA := all_any (some ⟨w.heap.size, 0, none⟩) j j wr.heap.size (List.replicate j c) wr HB.out (Nat.le_refl _) (by omega)
      have KA := Lib.hid kA
      clear kA HF
      go_wp2_with fail
      (with_reducible refine KA.out.mono ?_)
      clear KA HB
      rintro e w1 ⟨v, rfl, hO, hb1⟩
      have hW1 := hW.trans (hb1.mono hW.size)
      have hpe := PM.pos_end (List.replicate j c)
      have hpl := PM.toks_len (List.replicate j c)
      have hps := PM.toks_some (List.replicate j c)
      have hplt := PM.pos_lt (List.replicate j c)
      have hlen0 : 0 < (PM.toks (List.replicate j c)).length := by
        rcases Nat.eq_zero_or_pos (PM.toks (List.replicate j c)).length with h | h
        · rw [h] at hpe
          simp [PM.posAt] at hpe
          omega
        · exact h
      have hps0 := hps 0 hlen0
      have htk0 := (PM.tok_rep0 j c hk1).1
      have hp1 := MU.pos_one j c hk1
      rw [show PM.posAt (List.replicate j c) 0 = 0 from rfl, htk0] at hps0
      rw [List.length_replicate] at hpe hpl hplt
      obtain ⟨n, hn⟩ : ∃ n, n = (PM.toks (List.replicate j c)).length := ⟨_, rfl⟩
      rw [← hn] at hpe hpl hps hplt hlen0
      obtain ⟨g, cp, rfl, hT, hg1, hg2⟩ := hO.form_at n hn.symm hlen0
      have HT := Lib.hid hT
      obtain ⟨_, _, t0, hA0, _, hg0, k0, k1, k2⟩ := hT.pick (k := 0) hlen0
      cases hA0
      rw [hps0] at hg0
      cases hg0
      have HPE := Lib.hid hpe
      have HPS := Lib.hid hps
      have HPL := Lib.hid hplt
      have HP1 := Lib.hid hp1
      have hn0 : ((n : Int) == 0) = false := by rw [beq_eq_false_iff_ne]; omega
      clear hO hT hb1 hpe hps hplt hps0 htk0 hp1 hW hn
      simp only at k0 k1 k2
      go_wp2_with fail
      clear k0 k1 k2
      go_loopw [9, 10] (fun lf i wr => ∃ (x a : Nat), 1 ≤ x ∧ x ≤ n ∧ x ≤ a ∧ a ≤ j ∧ i = .int .i64 x ∧ lf = .int .i64 ((j : Int) - (a : Int)) ∧ Hid (a = PM.posAt (List.replicate j c) x) ∧ wr = w1) (fun _ i _ => n - (intOf i).toNat)
      case atStart => exact ⟨1, 1, Nat.le_refl _, hlen0, Nat.le_refl _, hk1, rfl, rfl, HP1.out.symm, rfl⟩
      case round =>
        obtain ⟨x, a, hx1, hx2, hxa, haj, rfl, rfl, HA, rfl⟩ := hrel
        by_cases hlt2 : x < n
        · have hpa := HPL.out x hlt2
          rw [← HA.out] at hpa
          obtain ⟨_, _, t1, hA1, _, hg1, k0, k1, k2⟩ := HT.out.pick hlt2
          cases hA1
          rw [Nat.zero_add] at k0 k1 k2
          have hs1 := HPS.out x hlt2
          rw [← HA.out] at hs1
          rw [hs1] at hg1
          injection hg1 with hg1
          have hrep := PM.tok_rep j c a hpa (by omega)
          have hnx : PM.posAt (List.replicate j c) (x + 1) = a + PM.longAt (List.replicate j c) a := by
            show PM.posAt (List.replicate j c) x + _ = _
            rw [← HA.out]
          have hcap := PM.longAt_cap (List.replicate j c) a (by rw [List.length_replicate]; exact hpa)
          rw [List.length_replicate] at hcap
          clear hs1
          by_cases h3 : 3 ≤ min 66 (j - a)
          · rw [if_pos h3] at hrep
            rw [hrep.1] at hg1
            subst hg1
            rw [hrep.2] at hnx hcap
            obtain ⟨m, hm⟩ : ∃ m, m = min 66 (j - a) := ⟨_, rfl⟩
            rw [← hm] at hnx hcap k2 h3
            have em : (if (j : Int) - (a : Int) < 66 then (j : Int) - (a : Int) else 66) = (m : Int) := by split <;> omega
            have em2 : (if 66 < (j : Int) - (a : Int) then 66 else (j : Int) - (a : Int)) = (m : Int) := by split <;> omega
            have HN := Lib.hid hnx
            have t3 : (3 : Int) ≤ (m : Int) := by omega
            have t4 : ¬ (m : Int) < 3 := by omega
            clear hm hrep hnx
            simp only at k0 k1 k2
            have es : (j : Int) - (a : Int) - (m : Int) = (j : Int) - ((a + m : Nat) : Int) := by omega
            go_wp2_with fail
            go_roundw
            case rel => exact ⟨x + 1, a + m, by omega, hlt2, by omega, hcap, by go_num, by go_num, HN.out.symm, trivial⟩
            case measure => simp [intOf]; omega
          · rw [if_neg h3] at hrep
            rw [hrep.1] at hg1
            subst hg1
            rw [hrep.2] at hnx hcap
            have em : (if (j : Int) - (a : Int) < 66 then (j : Int) - (a : Int) else 66) = (j : Int) - (a : Int) := by split <;> omega
            have em2 : (if 66 < (j : Int) - (a : Int) then 66 else (j : Int) - (a : Int)) = (j : Int) - (a : Int) := by split <;> omega
            have HN := Lib.hid hnx
            have t3 : ¬ (3 : Int) ≤ (j : Int) - (a : Int) := by omega
            have t4 : (j : Int) - (a : Int) < 3 := by omega
            clear hrep hnx
            simp only at k0 k1 k2
            go_wp2_with fail
            go_roundw
            case rel => exact ⟨x + 1, a + 1, by omega, hlt2, by omega, hcap, by go_num, by go_num, HN.out.symm, trivial⟩
            case measure => simp [intOf]; omega
        · obtain rfl : x = n := by omega
          have ha := HA.out
          rw [HPE.out] at ha
          subst ha
          have e0 : (a : Int) - (a : Int) = 0 := by omega
          go_wp2_with fail
          (with_reducible refine (told11 _).mono ?_)
          rintro e w2 ⟨rfl, hb2⟩
          have hW2 := hW1.trans (hb2.mono hW1.size)
          go_wp2_with fail
          go_ret
          exact ⟨rfl, hW2⟩
theorem walkMatchRuns (c q : Int) (w : World) (hc : (Lit.int .u8 c).wf = true) (hq : (Lit.int .i64 q).wf = true) :
    Calls Try.prog 6 #[.int .u8 c, .int .i64 q] w fun e w' => e = .returned (.bool true) ∧ Below w.heap.size w w' := by
  have := walkMatchRuns' (UInt8.ofNat c.toNat) q w
  unfold u8v at this
  rw [u8_of hc] at this
  exact this
end Go.Proofs.Ythoipfdapmjcfaa
