/- The walk of match.All. -/
import Derived.Test.YthoipfdapmjcfaaToks
import Derived.Test.YthoipfdapmjcfaaMatchBest
namespace Go.Proofs.Ythoipfdapmjcfaa
open Go.RowKit
set_option linter.unusedVariables false
/-- A call gave tokens of its own. -/
def GaveT (t : TypeId) (w : World) (l : List PM.Tok) (e : Ending) (w' : World) : Prop := ∃ v, e = .returned v ∧ OwnT t w' w.heap.size v l ∧ Below w.heap.size w w'
set_option maxRecDepth 100000 in
set_option maxHeartbeats 4000000 in
theorem all_any (A : Option Addr) (n c B : Nat) (l : List UInt8) (w : World) (hl : Bytes w B A n l) (hB : B ≤ w.heap.size) (hn : n ≤ 1000000) :
    Calls Try.prog 12 #[.slice A n c] w (GaveT 34 w (PM.toks l)) := by
  have HL0 := Lib.hid hl
  have HLen := Lib.hid hl.len
  clear hl
  go_enter Try.func12, Try.ntmps12
  go_wp2
  refine wp_scope_back 0 (fun m a' w' => ∃ (a : Nat) (v : Value) (d : List PM.Tok), m = n - a ∧ a ≤ n ∧ d.length ≤ a ∧ Hid (d ++ PM.toksGo l (l.length - a) a = PM.toks l) ∧ Hid (OwnT 34 w' w.heap.size v d) ∧ Below w.heap.size w w' ∧ ∃ u : Nat → Value, a' = ⟨#[.slice A n c, u 1, .slice none 0 0, v, .int .i64 (a : Int), u 5, u 6, u 7, u 8, u 9, u 10, u 11, u 12, u 13, u 14, u 15, u 16, u 17, u 18, u 19, u 20, u 21, u 22, u 23, u 24, u 25, u 26, u 27, u 28, u 29, u 30, u 31, u 32, u 33, u 34, u 35, u 36, u 37, u 38, u 39], []⟩) rfl ?_ ?_
  · intro HL
    go_wp2
    go_step3
    go_step
    go_step
    exact HL.out _ _ _ ⟨0, .slice none 0 0, [], rfl, Nat.zero_le _, Nat.le_refl _, rfl, OwnT.nil_, Below.refl _ _, ⟨slot [undef, _, undef, undef, undef, _, _, _, _, _, _, _, _, _, _, _, _, _, _, _, _, _, _, _, _, _, _, _, _, _, _, _, _, _, _, _, _, _, _, _], rfl⟩⟩
  · rintro m a' w' ⟨a, v, d, rfl, ha, hd, HE, HO, hW, ⟨u, rfl⟩⟩
    by_cases h0 : a = n
    · subst h0
      go_wp2
      refine jump_ret ?_
      go_ret
      refine ⟨v, rfl, ?_, hW⟩
      have := HE.out
      rw [PM.toks_end l _ a (by rw [HLen.out]; omega), List.append_nil] at this
      rw [← this]
      exact HO.out
    · have t0 : ((a : Int) == (n : Int)) = false := by rw [beq_eq_false_iff_ne]; omega
      have han : a < n := by omega
      have HB : Hid (Bytes w' B A n l) := HL0.out.below (hW.mono hB)
      have hsz := hW.size
      go_wp2_with fail
      (with_reducible refine (best_any A n c B l a w' HB.out (by omega) hn han).mono ?_)
      rintro e w1 ⟨rfl, hb1⟩
      have HO1 : Hid (OwnT 34 w1 w.heap.size v d) := HO.out.below hb1 HO.out.lt
      have hW1 : Below w.heap.size w w1 := hW.trans (hb1.mono hW.size)
      have HB1 : Hid (Bytes w1 B A n l) := HL0.out.below (hW1.mono hB)
      have hsz1 := hW1.size
      have hcap := PM.best_cap l a
      have hfar : (PM.best l a).1 ≤ a := by
        rcases PM.best_is l a with ⟨h, _⟩ | ⟨_, h, _⟩
        · rw [h]; exact Nat.zero_le _
        · have : PM.far a ≤ a := by unfold PM.far; omega
          omega
      have HT : Hid (PM.tokAt l a = if (PM.best l a).2 = 0 then (((l.getD a 0).toNat : Int), 0, 0) else (-1, ((PM.best l a).1 : Int), ((PM.best l a).2 : Int))) := rfl
      have HLo : Hid (PM.longAt l a = if (PM.best l a).2 = 0 then 1 else (PM.best l a).2) := rfl
      have HNx := Lib.hid (PM.toks_next l a (by rw [HLen.out]; exact han))
      unfold PM.cap at hcap
      rw [HLen.out] at hcap
      generalize (PM.best l a).1 = x at *
      generalize (PM.best l a).2 = y at *
      clear hb1 HO HB hW
      by_cases hy : y = 0
      · subst hy
        obtain ⟨blk, off, q, hA, _, g1, hc1⟩ := HB1.out.pick han
        subst hA
        have HG1 := Lib.hid g1
        clear g1
        have hq256 := q.toNat_lt
        have jq : wrap64 (q.toNat : Int) = (q.toNat : Int) := IntWalk.wrap64_in _ ⟨by omega, by omega⟩
        have HX := Lib.hid (Blk.new w1 34 (tokCells ((q.toNat : Int), 0, 0)))
        go_wp2_with (refine wpList_of_wp rfl (fun K hK => wp_append_tok (.tmp 20) (.tmp 27) 24 row_tok rfl ((q.toNat : Int), 0, 0) rfl (HO1.out.alloc _) w1.heap.size 1 rfl 34 HX.out (by omega) (by rw [World.size_alloc]; omega) ?_); intro v1 w3 hO3 hg3 hd3; have HO3 := Lib.hid hO3; have HG3 := Lib.hid hg3; clear hO3 hg3 hd3; refine hK _ _ ?_; clear hK K)
        go_step3
        simp only [Exit.then]
        refine jump_back (m' := n - (a + 1)) ?_ ?_
        · omega
        refine ⟨a + 1, v1, d ++ [((q.toNat : Int), 0, 0)], rfl, by omega, by rw [List.length_append]; simp; omega, ?_, HO3, ?_, ⟨slot [undef, _, undef, undef, undef, _, _, _, _, _, _, _, _, _, _, _, _, _, _, _, _, _, _, _, _, _, _, _, _, _, _, _, _, _, _, _, _, _, _, _], rfl⟩⟩
        · show _ = _
          have h1 := HE.out
          rw [HNx.out, HT.out, HLo.out, if_pos trivial, if_pos trivial] at h1
          rw [← h1, List.append_assoc]
          congr 2
          rw [List.getD_eq_getElem?_getD, HG1.out]
          rfl
        · exact (hW1.alloc (by omega) _).grown HG3.out (by rw [World.size_alloc]; omega) HO1.out.base_
      · have t1 : ((y : Int) == 0) = false := by rw [beq_eq_false_iff_ne]; omega
        have HX := Lib.hid (Blk.new w1 34 (tokCells (-1, (x : Int), (y : Int))))
        go_wp2_with (refine wpList_of_wp rfl (fun K hK => wp_append_tok (.tmp 31) (.tmp 35) 24 row_tok rfl (-1, (x : Int), (y : Int)) rfl (HO1.out.alloc _) w1.heap.size 1 rfl 34 HX.out (by omega) (by rw [World.size_alloc]; omega) ?_); intro v1 w3 hO3 hg3 hd3; have HO3 := Lib.hid hO3; have HG3 := Lib.hid hg3; clear hO3 hg3 hd3; refine hK _ _ ?_; clear hK K)
        go_step3
        refine jump_back (m' := n - (a + y)) ?_ ?_
        · omega
        refine ⟨a + y, v1, d ++ [(-1, (x : Int), (y : Int))], rfl, by omega, by rw [List.length_append]; simp; omega, ?_, HO3, ?_, ⟨slot [undef, _, undef, undef, undef, _, _, _, _, _, _, _, _, _, _, _, _, _, _, _, _, _, _, _, _, _, _, _, _, _, _, _, _, _, _, _, _, _, _, _], rfl⟩⟩
        · show _ = _
          have h1 := HE.out
          rw [HNx.out, HT.out, HLo.out, if_neg hy, if_neg hy] at h1
          rw [← h1, List.append_assoc]
          rfl
        · exact (hW1.alloc (by omega) _).grown HG3.out (by rw [World.size_alloc]; omega) HO1.out.base_
end Go.Proofs.Ythoipfdapmjcfaa
