/- The walk of steamerlaw11.of. -/
import Derived.Test.YthoipfdapmjcfaaMatchAll
namespace Go.Proofs.Ythoipfdapmjcfaa
open Go.RowKit
set_option linter.unusedVariables false
set_option maxRecDepth 100000 in
set_option maxHeartbeats 4000000 in
theorem of_any (A : Option Addr) (n c B : Nat) (ts : List PM.Tok) (w : World) (hl : Toks w B A n ts) (hB : B ≤ w.heap.size) (hn : n ≤ 1000000) :
    Calls Try.prog 18 #[.slice A n c] w (GaveT 35 w ts) := by
  have HL := Lib.hid hl
  have HLen := Lib.hid hl.len
  clear hl
  go_enter Try.func18, Try.ntmps18
  go_wp2_with fail
  go_loopw [3, 4] (fun v i w' => ∃ (k : Nat) (v0 : Value), v0 = v ∧ k ≤ n ∧ i = .int .i64 k ∧ Hid (OwnT 35 w' w.heap.size v0 (ts.take k)) ∧ Below w.heap.size w w') (fun _ i _ => n - (intOf i).toNat)
  case atStart => exact ⟨0, _, rfl, Nat.zero_le _, rfl, OwnT.nil_, Below.refl _ _⟩
  case round =>
    obtain ⟨k, v0, rfl, hk, rfl, HO, hW⟩ := hrel
    by_cases hlt : k < n
    · have tk : (k : Int) < (n : Int) := by omega
      obtain ⟨blk, off, ⟨x, y, z⟩, hA, hblk, hg, _, _, _⟩ := HL.out.pick hlt
      subst hA
      have HC : Hid (∀ w', Below w.heap.size w w' → w'.cell? ⟨blk, off + k * 3, none⟩ = some (.int .i64 x) ∧ w'.cell? ⟨blk, off + k * 3 + 1, none⟩ = some (.int .i64 y) ∧ w'.cell? ⟨blk, off + k * 3 + 2, none⟩ = some (.int .i64 z)) := by
        intro w' hb
        obtain ⟨_, _, t, hA, _, hg2, k0, k1, k2⟩ := (HL.out.below (hb.mono hB)).pick hlt
        cases hA
        rw [hg] at hg2
        cases hg2
        exact ⟨k0, k1, k2⟩
      have hsn : ts.take (k + 1) = ts.take k ++ [(x, y, z)] := by
        obtain ⟨hk', e⟩ := List.getElem?_eq_some_iff.1 hg
        rw [List.take_succ_eq_append_getElem hk', e]
      have HSn := Lib.hid hsn
      have HLt : Hid ((ts.take k).length ≤ 1000000) := by show _ ≤ _; rw [List.length_take]; omega
      clear hg hsn
      have HO5 := Lib.hid HO.out.drew
      have hW5 := hW.drew
      go_wp2
      refine (wp_region_seq (fun x => Below w.heap.size w x) [(false, 0), (false, 1), (false, 2), (false, 3), (false, 4), (false, 5), (false, 6), (false, 7), (false, 8), (false, 9), (false, 10), (false, 11), (true, 12), (true, 13), (true, 14), (true, 15), (true, 16), (true, 17), (true, 18), (true, 19)]
        (by kernel_rfl) (by kernel_rfl) (fun _ _ d _ _ h => by cases d <;> exact h) hW5 ?_)
      generalize wr.drew = w5 at *
      have hsz5 := hW5.size
      have HXX := Lib.hid (Blk.new w5 35 (tokCells (x, y, z)))
      have hW6 : Below w.heap.size w (w5.alloc (.cells (tokCells (x, y, z)) 35)) := hW5.alloc hsz5 _
      iterate 12 (apply plan_take rfl rfl rfl rfl; (intro w' hS K hK; obtain ⟨k0, k1, k2⟩ := HC.out w' hS; clear hS; go_simp; exact hK))
      obtain ⟨k0, k1, k2⟩ := HC.out w5 hW5
      iterate 5 (refine plan_force rfl rfl (fun K hK => ?_); go_wp2; refine hK.out _ _ hW5 ?_; clear hK K)
      refine plan_force rfl rfl (fun K hK => ?_)
      go_wp2
      refine hK.out _ _ hW6 ?_
      clear hK K
      refine plan_force rfl rfl (fun K hK => ?_)
      refine wp_append_tok (.tmp 11) (.tmp 28) 31 row_rtok rfl (x, y, z) rfl (HO5.out.alloc _) w5.heap.size 1 rfl 35 HXX.out HLt.out (by rw [World.size_alloc]; omega) ?_
      intro v1 w3 hO3 hg3 hd3
      have hW3 : Below w.heap.size w w3 := hW6.grown hg3 (by rw [World.size_alloc]; omega) HO5.out.base_
      have HO3 : Hid (OwnT 35 w3 w.heap.size v1 (ts.take (k + 1))) := by rw [HSn.out]; exact hO3
      refine hK.out _ _ hW3 ?_
      clear hK K hO3 hg3 hd3 k0 k1 k2
      refine plan_force rfl rfl (fun K hK => ?_)
      go_wp2
      refine hK.out _ _ hW3 ?_
      clear hK K
      refine plan_nil ?_
      go_wp2_with fail
      go_roundw
      case rel => exact ⟨k + 1, v1, rfl, hlt, by go_num, HO3, hW3⟩
      case measure => simp [intOf]; omega
    · obtain rfl : k = n := by omega
      have hall : ts.take k = ts := by rw [← HLen.out, List.take_length]
      rw [hall] at HO
      go_wp2_with fail
      go_ret
      exact ⟨_, rfl, HO.out, hW⟩
end Go.Proofs.Ythoipfdapmjcfaa
