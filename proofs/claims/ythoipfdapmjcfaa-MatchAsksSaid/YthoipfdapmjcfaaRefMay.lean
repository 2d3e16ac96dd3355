/- The walk of the reference MayTok. -/
import Derived.Test.YthoipfdapmjcfaaToks
namespace Go.Proofs.Ythoipfdapmjcfaa
open Go.RowKit
set_option linter.unusedVariables false
set_option maxRecDepth 100000 in
set_option maxHeartbeats 4000000 in
theorem refMay_any (x y z : Int) (w : World) :
    Calls Try.prog 15 #[.agg (tokCells (x, y, z))] w fun e w' => e = .returned (.bool (PM.may (x, y, z))) ∧ Below w.heap.size w w' := by
  have hW : Below w.heap.size w (w.alloc (.cells (tokCells (x, y, z)) 35)) := (Below.refl _ _).alloc (Nat.le_refl _) _
  by_cases h1 : x = -1
  · subst h1
    by_cases h2 : 1 ≤ y
    · by_cases h3 : y ≤ 1024
      · by_cases h4 : 3 ≤ z
        · by_cases h5 : z ≤ 66
          · have hv : PM.may (-1, y, z) = true := by simp [PM.may]; omega
            rw [hv]
            clear hv
            go_enter Try.func15, Try.ntmps15
            go_wp2
            go_ret
            exact ⟨rfl, hW⟩
          · have hv : PM.may (-1, y, z) = false := by
              rw [Bool.eq_false_iff]
              intro h
              simp [PM.may] at h
              omega
            rw [hv]
            clear hv
            go_enter Try.func15, Try.ntmps15
            go_wp2
            go_ret
            exact ⟨rfl, hW⟩
        · have hv : PM.may (-1, y, z) = false := by
            rw [Bool.eq_false_iff]
            intro h
            simp [PM.may] at h
            omega
          rw [hv]
          clear hv
          go_enter Try.func15, Try.ntmps15
          go_wp2
          go_ret
          exact ⟨rfl, hW⟩
      · have hv : PM.may (-1, y, z) = false := by
          rw [Bool.eq_false_iff]
          intro h
          simp [PM.may] at h
          omega
        rw [hv]
        clear hv
        go_enter Try.func15, Try.ntmps15
        go_wp2
        go_ret
        exact ⟨rfl, hW⟩
    · have hv : PM.may (-1, y, z) = false := by
        rw [Bool.eq_false_iff]
        intro h
        simp [PM.may] at h
        omega
      rw [hv]
      clear hv
      go_enter Try.func15, Try.ntmps15
      go_wp2
      go_ret
      exact ⟨rfl, hW⟩
  · have t1 : (x == -1) = false := by rw [beq_eq_false_iff_ne]; exact h1
    by_cases h2 : 0 ≤ x
    · by_cases h3 : x ≤ 255
      · by_cases h4 : y = 0
        · subst h4
          by_cases h5 : z = 0
          · subst h5
            have hv : PM.may (x, 0, 0) = true := by simp [PM.may, h1]; omega
            rw [hv]
            clear hv
            go_enter Try.func15, Try.ntmps15
            go_wp2
            go_ret
            exact ⟨rfl, hW⟩
          · have t5 : (z == 0) = false := by rw [beq_eq_false_iff_ne]; exact h5
            have hv : PM.may (x, 0, z) = false := by
              rw [Bool.eq_false_iff]
              intro h
              simp [PM.may, h1] at h
              omega
            rw [hv]
            clear hv
            go_enter Try.func15, Try.ntmps15
            go_wp2
            go_ret
            exact ⟨rfl, hW⟩
        · have t4 : (y == 0) = false := by rw [beq_eq_false_iff_ne]; exact h4
          have hv : PM.may (x, y, z) = false := by
            rw [Bool.eq_false_iff]
            intro h
            simp [PM.may, h1] at h
            omega
          rw [hv]
          clear hv
          go_enter Try.func15, Try.ntmps15
          go_wp2
          go_ret
          exact ⟨rfl, hW⟩
      · have hv : PM.may (x, y, z) = false := by
          rw [Bool.eq_false_iff]
          intro h
          simp [PM.may, h1] at h
          omega
        rw [hv]
        clear hv
        go_enter Try.func15, Try.ntmps15
        go_wp2
        go_ret
        exact ⟨rfl, hW⟩
    · have hv : PM.may (x, y, z) = false := by
        rw [Bool.eq_false_iff]
        intro h
        simp [PM.may, h1] at h
        omega
      rw [hv]
      clear hv
      go_enter Try.func15, Try.ntmps15
      go_wp2
      go_ret
      exact ⟨rfl, hW⟩
end Go.Proofs.Ythoipfdapmjcfaa
