/- The walk of the reference's Toks. -/
import Derived.Test.YthoipfdapmjcfaaRefBest
import Derived.Test.YthoipfdapmjcfaaMatchAll
namespace Go.Proofs.Ythoipfdapmjcfaa
open Go.RowKit
set_option linter.unusedVariables false
set_option maxRecDepth 100000 in
set_option maxHeartbeats 4000000 in
theorem refToks_any (b : ByteArray) (n : Nat) (w : World) (hbn : b.size = n) (hn : n ≤ 1000000) :
    Calls Try.prog 13 #[.string b] w (GaveT 35 w (PM.toks b.data.toList)) := by
  obtain ⟨l, hl⟩ : ∃ l, l = b.data.toList := ⟨_, rfl⟩
  have KB := Lib.hid (fun a w1 (h : a < n) => refBest_any b n a w1 hbn hn h)
  have HX := Lib.hid (fun j (h : j < n) => ix_string b j (by rw [hbn]; exact h))
  rw [← hl] at KB HX
  have HLen : Hid (l.length = n) := by show _ = _; rw [hl, Array.length_toList]; exact hbn
  rw [← hl]
  clear hl
  go_enter Try.func13, Try.ntmps13
  go_wp2_with fail
  go_loopw [3, 4] (fun v i w' => ∃ (a : Nat) (d : List PM.Tok) (v0 : Value), v0 = v ∧ a ≤ n ∧ d.length ≤ a ∧ i = .int .i64 a ∧ Hid (d ++ PM.toksGo l (l.length - a) a = PM.toks l) ∧ Hid (OwnT 35 w' w.heap.size v0 d) ∧ Below w.heap.size w w') (fun _ i _ => n - (intOf i).toNat)
  case atStart => exact ⟨0, [], _, rfl, Nat.zero_le _, Nat.le_refl _, rfl, rfl, OwnT.nil_, Below.refl _ _⟩
  case round =>
    obtain ⟨a, d, v0, rfl, ha, hd, rfl, HE, HO, hW⟩ := hrel
    by_cases h0 : a = n
    · subst h0
      go_wp2_with fail
      go_ret
      refine ⟨v0, rfl, ?_, hW⟩
      have := HE.out
      rw [PM.toks_end l _ a (by rw [HLen.out]; omega), List.append_nil] at this
      rw [← this]
      exact HO.out
    · have han : a < n := by omega
      have tan : (a : Int) < (n : Int) := by omega
      have hsz := hW.size
      go_wp2_with fail
      (with_reducible refine (KB.out a wr han).mono ?_)
      rintro e w1 ⟨rfl, hb1⟩
      have HO1 : Hid (OwnT 35 w1 w.heap.size v0 d) := HO.out.below hb1 HO.out.lt
      have hW1 : Below w.heap.size w w1 := hW.trans (hb1.mono hW.size)
      have hsz1 := hW1.size
      have hcap := PM.best_cap l a
      have HT : Hid (PM.tokAt l a = if (PM.best l a).2 = 0 then (((l.getD a 0).toNat : Int), 0, 0) else (-1, ((PM.best l a).1 : Int), ((PM.best l a).2 : Int))) := rfl
      have HLo : Hid (PM.longAt l a = if (PM.best l a).2 = 0 then 1 else (PM.best l a).2) := rfl
      have HNx := Lib.hid (PM.toks_next l a (by rw [HLen.out]; exact han))
      unfold PM.cap at hcap
      rw [HLen.out] at hcap
      generalize (PM.best l a).1 = x at *
      generalize (PM.best l a).2 = y at *
      clear hb1 HO hW
      by_cases hy : y = 0
      · subst hy
        obtain ⟨q, g1, hc1⟩ := HX.out a han
        have HG1 := Lib.hid g1
        clear g1
        have hq256 := q.toNat_lt
        have jq : wrap64 (q.toNat : Int) = (q.toNat : Int) := IntWalk.wrap64_in _ ⟨by omega, by omega⟩
        have HXX := Lib.hid (Blk.new w1 35 (tokCells ((q.toNat : Int), 0, 0)))
        go_wp2_with (refine wpList_of_wp rfl (fun K hK => wp_append_tok (.tmp 19) (.tmp 25) 31 row_rtok rfl ((q.toNat : Int), 0, 0) rfl (HO1.out.alloc _) w1.heap.size 1 rfl 35 HXX.out (by omega) (by rw [World.size_alloc]; omega) ?_); intro v1 w3 hO3 hg3 hd3; have HO3 := Lib.hid hO3; have HG3 := Lib.hid hg3; clear hO3 hg3 hd3; refine hK _ _ ?_; clear hK K)
        go_roundw
        case rel =>
          refine ⟨a + 1, d ++ [((q.toNat : Int), 0, 0)], _, rfl, by omega, by rw [List.length_append]; simp; omega, by go_num, ?_, HO3, ?_⟩
          · show _ = _
            have h1 := HE.out
            rw [HNx.out, HT.out, HLo.out, if_pos trivial, if_pos trivial] at h1
            rw [← h1, List.append_assoc]
            congr 2
            rw [List.getD_eq_getElem?_getD, HG1.out]
            rfl
          · exact (hW1.alloc (by omega) _).grown HG3.out (by rw [World.size_alloc]; omega) HO1.out.base_
        case measure => simp [intOf]; omega
      · have t1 : ((y : Int) == 0) = false := by rw [beq_eq_false_iff_ne]; omega
        have HXX := Lib.hid (Blk.new w1 35 (tokCells (-1, (x : Int), (y : Int))))
        go_wp2_with (refine wpList_of_wp rfl (fun K hK => wp_append_tok (.tmp 29) (.tmp 33) 31 row_rtok rfl (-1, (x : Int), (y : Int)) rfl (HO1.out.alloc _) w1.heap.size 1 rfl 35 HXX.out (by omega) (by rw [World.size_alloc]; omega) ?_); intro v1 w3 hO3 hg3 hd3; have HO3 := Lib.hid hO3; have HG3 := Lib.hid hg3; clear hO3 hg3 hd3; refine hK _ _ ?_; clear hK K)
        go_roundw
        case rel =>
          refine ⟨a + y, d ++ [(-1, (x : Int), (y : Int))], _, rfl, by omega, by rw [List.length_append]; simp; omega, by go_num, ?_, HO3, ?_⟩
          · show _ = _
            have h1 := HE.out
            rw [HNx.out, HT.out, HLo.out, if_neg hy, if_neg hy] at h1
            rw [← h1, List.append_assoc]
            rfl
          · exact (hW1.alloc (by omega) _).grown HG3.out (by rw [World.size_alloc]; omega) HO1.out.base_
        case measure => simp [intOf]; omega
end Go.Proofs.Ythoipfdapmjcfaa
