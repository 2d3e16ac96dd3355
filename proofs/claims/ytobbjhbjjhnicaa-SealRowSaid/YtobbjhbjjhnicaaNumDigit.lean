/- The walk of num.digit. -/
import Derived.Test.YtobbjhbjjhnicaaProg
import Derived.Test.YtobbjhbjjhnicaaWords
import Derived.OwnWalk
namespace Go.Proofs.Ytobbjhbjjhnicaa
open Go.RowKit
set_option linter.unusedVariables false
/-- The digit at i: its value, the index behind it, whether there is one. -/
def digitAt (l : List UInt8) (i : Nat) : Nat × Nat × Bool :=
  match l[i]? with
  | none => (0, i, false)
  | some b => if b.toNat < 250 then (b.toNat, i + 1, true) else
    match l[i + 1]? with
    | none => (0, i, false)
    | some c => if b.toNat = 250 ∧ c.toNat < 250 then (c.toNat, i + 2, true) else (0, i, false)
set_option maxRecDepth 100000 in
set_option maxHeartbeats 1000000 in
theorem digit_any (A : Option Addr) (n c B i : Nat) (l : List UInt8) (w : World) (hb : Bytes w B A n l) (hn : n ≤ 1000000000000) (hi : i ≤ n) :
    Calls Try.prog 50 #[.slice A n c, .int .i64 (i : Int)] w fun e w' => e = .returned (.tuple #[.int .u64 ((digitAt l i).1 : Int), .int .i64 ((digitAt l i).2.1 : Int), .bool (digitAt l i).2.2]) ∧ w = w' := by
  have HB := Lib.hid hb
  clear hb
  by_cases hlt : i < n
  · obtain ⟨b, off, hl, rfl, _, hc⟩ := HB.out.at_ hlt
    have h0 : l[i]? = some l[i] := List.getElem?_eq_getElem hl
    generalize hx : l[i] = x at *
    have xb := x.toNat_lt
    by_cases hx1 : (x.toNat : Int) < 250
    · have hd : digitAt l i = (x.toNat, i + 1, true) := by unfold digitAt; rw [h0]; simp only; rw [if_pos (by omega)]
      rw [hd]
      clear hd h0 hx HB
      go_enter Try.func50, Try.ntmps50
      go_wp2
      go_ret3
      exact ⟨rfl, rfl⟩
    · by_cases hlt2 : i + 1 < n
      · obtain ⟨b', off', hl2, e, _, hc2⟩ := HB.out.at_ hlt2
        cases e
        have h1 : l[i + 1]? = some l[i + 1] := List.getElem?_eq_getElem hl2
        generalize hy : l[i + 1] = y at *
        have yb := y.toNat_lt
        have hlt2' : (i : Int) + 1 < (n : Int) := by omega
        by_cases hx2 : ((x.toNat : Int) == 250) = true
        · by_cases hy2 : (y.toNat : Int) < 250
          · have hd : digitAt l i = (y.toNat, i + 2, true) := by
              have : x.toNat = 250 := by simp only [beq_iff_eq] at hx2; omega
              unfold digitAt; rw [h0]; simp only; rw [if_neg (by omega), h1]; simp only; rw [if_pos (by omega)]
            rw [hd]
            clear hd h0 h1 hx hy HB
            go_enter Try.func50, Try.ntmps50
            go_wp2
            go_ret3
            exact ⟨rfl, rfl⟩
          · have hd : digitAt l i = (0, i, false) := by
              unfold digitAt; rw [h0]; simp only; rw [if_neg (by omega), h1]; simp only; rw [if_neg (by omega)]
            rw [hd]
            clear hd h0 h1 hx hy HB
            go_enter Try.func50, Try.ntmps50
            go_wp2
            go_ret3
            exact ⟨rfl, rfl⟩
        · have hx3 : ((x.toNat : Int) == 250) = false := by simpa using hx2
          have hd : digitAt l i = (0, i, false) := by
            have : ¬ x.toNat = 250 := by simp only [beq_eq_false_iff_ne] at hx3; omega
            unfold digitAt; rw [h0]; simp only; rw [if_neg (by omega), h1]; simp only; rw [if_neg (by omega)]
          rw [hd]
          clear hd h0 h1 hx hy HB hx2
          go_enter Try.func50, Try.ntmps50
          go_wp2
          go_ret3
          exact ⟨rfl, rfl⟩
      · have hlt2' : ¬ (i : Int) + 1 < (n : Int) := by omega
        have h1 : l[i + 1]? = none := List.getElem?_eq_none (by rw [HB.out.len]; omega)
        have hd : digitAt l i = (0, i, false) := by
          unfold digitAt; rw [h0]; simp only; rw [if_neg (by omega), h1]
        rw [hd]
        clear hd h0 h1 hx HB
        go_enter Try.func50, Try.ntmps50
        go_wp2
        go_ret3
        exact ⟨rfl, rfl⟩
  · have h0 : l[i]? = none := List.getElem?_eq_none (by rw [HB.out.len]; omega)
    have hd : digitAt l i = (0, i, false) := by unfold digitAt; rw [h0]
    have hlt1 : ¬ (i : Int) < (n : Int) := by omega
    have hlt2' : ¬ (i : Int) + 1 < (n : Int) := by omega
    rw [hd]
    clear hd h0 HB
    go_enter Try.func50, Try.ntmps50
    go_wp2
    go_ret3
    exact ⟨rfl, rfl⟩
end Go.Proofs.Ytobbjhbjjhnicaa
