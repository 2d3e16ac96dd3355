/- The walk of match.add. -/
import Derived.Test.YthoipfdapmjcfaaToks
import Derived.Test.YthoipfdapmjcfaaMatchBest
namespace Go.Proofs.Ythoipfdapmjcfaa
open Go.RowKit
set_option linter.unusedVariables false
theorem Own.base_ {e : TypeId} {w : World} {base : Nat} {v : Value} {l : List UInt8} (h : Own e w base v l) : ∀ g, v.ownBlock = some g → base ≤ g := fun g hg => (World.ownsRow.lt h g hg).1
/-- What match.add gives. -/
def Added (w : World) (base : Nat) (l : List UInt8) (e : Ending) (w' : World) : Prop := ∃ v', e = .returned v' ∧ Own 5 w' base v' l ∧ Below base w w'
set_option maxRecDepth 100000 in
set_option maxHeartbeats 4000000 in
theorem add_lit (x : Nat) (hx : x < 256) (y z : Int) (v : Value) (acc : List UInt8) (base : Nat) (w : World) (hO : Own 5 w base v acc) (hb : base ≤ w.heap.size) (hlen : acc.length ≤ 1000000) :
    Calls Try.prog 20 #[v, .agg (tokCells ((x : Int), y, z))] w (Added w base (acc ++ [UInt8.ofNat x])) := by
  have HO := Lib.hid hO
  clear hO
  have e1 : (x : Int) % 256 = (x : Int) := by omega
  have hX := one_nat (w.alloc (.cells (tokCells ((x : Int), y, z)) 34)) 5 x hx
  rw [World.size_alloc] at hX
  have HX := Lib.hid hX
  clear hX
  go_enter Try.func20, Try.ntmps20
  go_wp2
  refine wp_scope_back 0 (fun m a' w' => False) rfl ?_ ?_
  · intro HL
    go_wp2_with (refine wpList_of_wp rfl (fun K hK => wp_append_bytes (.tmp 9) (.tmp 13) 23 row_u8 rfl [UInt8.ofNat x] rfl ((HO.out.alloc _).alloc _) _ (some ⟨w.heap.size + 1, 0, none⟩) 1 1 rfl HX.out (fun h => by cases h) (by omega) (by simp only [World.size_alloc]; omega) ?_); intro v1 w3 hO3 hg3 hd3; have HO3 := Lib.hid hO3; have HW3 : Hid (Below base w w3) := ((((Below.refl _ _).alloc hb _).alloc (by simp only [World.size_alloc]; omega) _).grown hg3 (by simp only [World.size_alloc]; omega) HO.out.base_); clear hO3 hg3 hd3; refine hK _ _ ?_; clear hK K)
    refine jump_ret ?_
    go_ret
    exact ⟨v1, rfl, HO3.out, HW3.out⟩
  · intro m a' w' h
    exact h.elim
set_option maxRecDepth 100000 in
set_option maxHeartbeats 4000000 in
theorem add_copy (b z : Nat) (hb1 : 1 ≤ b) (hz : z ≤ 1000) (v : Value) (acc : List UInt8) (base : Nat) (w : World) (hO : Own 5 w base v acc) (hb : base ≤ w.heap.size) (hbl : b ≤ acc.length) (hlen : acc.length ≤ 1000000) :
    Calls Try.prog 20 #[v, .agg (tokCells (-1, (b : Int), (z : Int)))] w (Added w base (PM.copyGo z b acc)) := by
  have HO := Lib.hid hO
  clear hO
  go_enter Try.func20, Try.ntmps20
  go_wp2
  refine wp_scope_back 0 (fun m a' w' => ∃ (k : Nat) (v' : Value) (acc' : List UInt8), k = m ∧ k ≤ z ∧ b ≤ acc'.length ∧ acc'.length + k ≤ 1001000 ∧ Hid (PM.copyGo k b acc' = PM.copyGo z b acc) ∧ Hid (Own 5 w' base v' acc') ∧ Hid (∀ g, v'.ownBlock = some g → g ≠ w.heap.size) ∧ Hid (Blk w' w.heap.size 34 (tokCells (-1, (b : Int), (z : Int)))) ∧ Below base w w' ∧ ∃ u : Nat → Value, a' = ⟨#[v', u 1, u 2, .pointer (some ⟨w.heap.size, 0, none⟩), .slice none 0 0, .int .i64 (k : Int), u 6, u 7, u 8, u 9, u 10, u 11, u 12, u 13, u 14, u 15, u 16, u 17, u 18, u 19, u 20, u 21, u 22, u 23, u 24, u 25, u 26, u 27, u 28, u 29, u 30, u 31, u 32], []⟩) rfl ?_ ?_
  · intro HL
    go_wp2
    go_step3
    go_step
    go_step
    exact HL.out _ _ _ ⟨z, v, acc, rfl, Nat.le_refl _, hbl, by omega, rfl, HO.out.alloc _, fun g hg => by have := HO.out.lt g hg; omega, Blk.new _ _ _, (Below.refl _ _).alloc hb _, ⟨slot [undef, _, _, undef, undef, undef, _, _, _, _, _, _, _, _, _, _, _, _, _, _, _, _, _, _, _, _, _, _, _, _, _, _, _], rfl⟩⟩
  · rintro m a' w' ⟨k, v', acc', rfl, hk, hba, hle, HE, HO, HN, HT, hW, ⟨u, rfl⟩⟩
    obtain ⟨A, n, c, hv, hB, hnc, hnil⟩ := HO.out.form_n
    have hn := hB.len
    by_cases h0 : k = 0
    · subst h0
      subst hv
      go_wp2
      refine jump_ret ?_
      go_ret
      refine ⟨_, rfl, ?_, hW⟩
      rw [← HE.out]
      exact HO.out
    · have t0 : ((k : Int) == 0) = false := by rw [beq_eq_false_iff_ne]; omega
      obtain ⟨k, rfl⟩ : ∃ k', k = k' + 1 := ⟨k - 1, by omega⟩
      obtain ⟨q, hq⟩ : ∃ q, q = n - b := ⟨_, rfl⟩
      have eq1 : (n : Int) - (b : Int) = (q : Int) := by omega
      have jq : IntKind.i64.wrap (q : Int) = (q : Int) := IntWalk.i64_in _ (by omega)
      have hqn : q < n := by omega
      obtain ⟨blk, off, x, hA, _, g1, hc1⟩ := hB.pick hqn
      subst hv
      subst hA
      have c1 : w'.cell? ⟨w.heap.size, 1, none⟩ = some (.int .i64 (b : Int)) := HT.out.cell 1
      have hsz := hW.size
      have hlt := HT.out.lt
      have HG1 := Lib.hid g1
      have HQ := Lib.hid hq
      have HLn := Lib.hid hn
      clear hn hB g1 hq hnil
      have ek : ((k + 1 : Nat) : Int) - 1 = (k : Int) := by omega
      go_wp2_with (refine wpList_of_wp rfl (fun K hK => wp_append_bytes (.tmp 20) (.tmp 29) 23 row_u8 rfl [x] rfl (HO.out.alloc _) _ (some ⟨w'.heap.size, 0, none⟩) 1 1 rfl (one_bytes w' 5 x) (fun h => by cases h) (by omega) (by rw [World.size_alloc]; omega) ?_); intro v1 w3 hO3 hg3 hd3; have HO3 := Lib.hid hO3; have HG3 := Lib.hid hg3; have HD3 := Lib.hid hd3; clear hO3 hg3 hd3; refine hK _ _ ?_; clear hK K)
      go_step3
      refine jump_back (m' := k) ?_ ?_
      · omega
      refine ⟨k, v1, acc' ++ [x], rfl, by omega, by rw [List.length_append]; omega, by rw [List.length_append]; simp; omega, ?_, HO3, ?_, ?_, ?_, ⟨slot [undef, _, _, undef, undef, undef, _, _, _, _, _, _, _, _, _, _, _, _, _, _, _, _, _, _, _, _, _, _, _, _, _, _, _], rfl⟩⟩
      · show PM.copyGo k b (acc' ++ [x]) = _
        rw [← HE.out, PM.copyGo]
        congr 3
        rw [List.getD_eq_getElem?_getD, HLn.out, ← HQ.out, HG1.out]
        rfl
      · intro g hg
        rcases HD3.out with h | h
        · exact HN.out g (h.symm.trans hg)
        · rw [h, World.size_alloc] at hg
          injection hg with hg
          omega
      · exact (HT.out.alloc _).grown HG3.out (by intro h; exact HN.out _ h.symm rfl)
      · exact (hW.alloc (by omega) _).grown HG3.out (by rw [World.size_alloc]; omega) HO.out.base_
end Go.Proofs.Ythoipfdapmjcfaa
