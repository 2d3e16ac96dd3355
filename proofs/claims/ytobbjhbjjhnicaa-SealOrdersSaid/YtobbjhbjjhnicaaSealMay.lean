/- The walk of seal.May. -/
import Derived.Test.YtobbjhbjjhnicaaSegs
namespace Go.Proofs.Ytobbjhbjjhnicaa
open Go.RowKit
set_option linter.unusedVariables false
set_option maxRecDepth 100000 in
set_option maxHeartbeats 4000000 in
theorem sealMay_any (x : SegV) (w : World) (hn : x.seg.body.length = x.n) (hn2 : x.n ≤ 1000000000000) :
    Calls Try.prog 29 #[.agg (segCells x)] w fun e w' => e = .returned (.bool (PS.may x.seg)) ∧ Below w.heap.size w w' := by
  obtain ⟨⟨kd, pl, la, bd⟩, A, n, c⟩ := x
  simp only at hn hn2
  have hW : Below w.heap.size w (w.alloc (.cells (segCells ⟨⟨kd, pl, la, bd⟩, A, n, c⟩) 50)) := (Below.refl _ _).alloc (Nat.le_refl _) _
  have hv := PS.may_is ⟨kd, pl, la, bd⟩
  simp only at hv
  rw [hn] at hv
  by_cases h1 : 1 ≤ kd
  · by_cases h2 : kd ≤ 3
    · by_cases h3 : 0 ≤ pl
      · by_cases h4 : pl ≤ 1048576
        · by_cases h5 : n ≤ 12100
          · have t5 : (n : Int) ≤ 12100 := by omega
            by_cases h6 : kd = 3
            · subst h6
              cases la
              · rw [Bool.eq_false_iff.2 (show PS.may ⟨3, pl, false, bd⟩ ≠ true from fun h => by have := (hv.1 h).2.2.2.2.2; simp at this)]
                clear hv
                go_enter Try.func29, Try.ntmps29
                go_wp2
                go_ret
                exact ⟨rfl, hW⟩
              · rw [hv.2 ⟨h1, h2, h3, h4, h5, by simp⟩]
                clear hv
                go_enter Try.func29, Try.ntmps29
                go_wp2
                go_ret
                exact ⟨rfl, hW⟩
            · have t6 : (kd == 3) = false := by rw [beq_eq_false_iff_ne]; exact h6
              cases la
              · rw [hv.2 ⟨h1, h2, h3, h4, h5, by simp [h6]⟩]
                clear hv
                go_enter Try.func29, Try.ntmps29
                go_wp2
                go_ret
                exact ⟨rfl, hW⟩
              · rw [Bool.eq_false_iff.2 (show PS.may ⟨kd, pl, true, bd⟩ ≠ true from fun h => by have := (hv.1 h).2.2.2.2.2; simp [h6] at this)]
                clear hv
                go_enter Try.func29, Try.ntmps29
                go_wp2
                go_ret
                exact ⟨rfl, hW⟩
          · have t5 : ¬ (n : Int) ≤ 12100 := by omega
            rw [Bool.eq_false_iff.2 (show PS.may ⟨kd, pl, la, bd⟩ ≠ true from fun h => by have := hv.1 h; omega)]
            clear hv
            go_enter Try.func29, Try.ntmps29
            go_wp2
            go_ret
            exact ⟨rfl, hW⟩
        · rw [Bool.eq_false_iff.2 (show PS.may ⟨kd, pl, la, bd⟩ ≠ true from fun h => by have := hv.1 h; omega)]
          clear hv
          go_enter Try.func29, Try.ntmps29
          go_wp2
          go_ret
          exact ⟨rfl, hW⟩
      · rw [Bool.eq_false_iff.2 (show PS.may ⟨kd, pl, la, bd⟩ ≠ true from fun h => by have := hv.1 h; omega)]
        clear hv
        go_enter Try.func29, Try.ntmps29
        go_wp2
        go_ret
        exact ⟨rfl, hW⟩
    · rw [Bool.eq_false_iff.2 (show PS.may ⟨kd, pl, la, bd⟩ ≠ true from fun h => by have := hv.1 h; omega)]
      clear hv
      go_enter Try.func29, Try.ntmps29
      go_wp2
      go_ret
      exact ⟨rfl, hW⟩
  · rw [Bool.eq_false_iff.2 (show PS.may ⟨kd, pl, la, bd⟩ ≠ true from fun h => by have := hv.1 h; omega)]
    clear hv
    go_enter Try.func29, Try.ntmps29
    go_wp2
    go_ret
    exact ⟨rfl, hW⟩
end Go.Proofs.Ytobbjhbjjhnicaa
