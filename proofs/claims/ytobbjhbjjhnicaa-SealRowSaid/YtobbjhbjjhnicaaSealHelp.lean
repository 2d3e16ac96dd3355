/- The walks of the seal laws' helpers: SameSeg, segs, Few, row. -/
import Derived.Test.YtobbjhbjjhnicaaSealAll
import Derived.Test.YtobbjhbjjhnicaaKeyEq
namespace Go.Proofs.Ytobbjhbjjhnicaa
open Go.RowKit
set_option linter.unusedVariables false
/-- Segments of which all parts are the same. -/
def sameSeg (x y : PS.Seg) : Bool := decide (x.kind = y.kind) && decide (x.place = y.place) && (x.last == y.last) && decide (x.body = y.body)
theorem sameSeg_is (x y : PS.Seg) : sameSeg x y = true ↔ x = y := by
  obtain ⟨a, b, c, d⟩ := x
  obtain ⟨a', b', c', d'⟩ := y
  unfold sameSeg
  simp only [Bool.and_eq_true, decide_eq_true_eq, beq_iff_eq, PS.Seg.mk.injEq, and_assoc]
set_option maxRecDepth 100000 in
set_option maxHeartbeats 4000000 in
theorem sameSeg_any (x y : SegV) (B : Nat) (w : World) (hx : Bytes w B x.A x.n x.seg.body) (hy : Bytes w B y.A y.n y.seg.body) (hB : B ≤ w.heap.size) :
    Calls Try.prog 32 #[.agg (segCells x), .agg (segCells y)] w fun e w' => e = .returned (.bool (sameSeg x.seg y.seg)) ∧ Below w.heap.size w w' := by
  obtain ⟨⟨k1, p1, l1, b1⟩, A1, n1, c1⟩ := x
  obtain ⟨⟨k2, p2, l2, b2⟩, A2, n2, c2⟩ := y
  simp only at hx hy ⊢
  have hb : Below w.heap.size w ((w.alloc (Obj.cells (segCells ⟨⟨k1, p1, l1, b1⟩, A1, n1, c1⟩) 50)).alloc (Obj.cells (segCells ⟨⟨k2, p2, l2, b2⟩, A2, n2, c2⟩) 50)) := ((Below.refl _ _).alloc (Nat.le_refl _) _).alloc (by simp) _
  have hcx : (convert 30 9 (.slice A1 n1 c1)).run Try.prog ((w.alloc (Obj.cells (segCells ⟨⟨k1, p1, l1, b1⟩, A1, n1, c1⟩) 50)).alloc (Obj.cells (segCells ⟨⟨k2, p2, l2, b2⟩, A2, n2, c2⟩) 50)) = .ok (.string ⟨b1.toArray⟩) _ := conv_bytes conv_u8 c1 (hx.below (hb.mono hB))
  have hcy : (convert 30 9 (.slice A2 n2 c2)).run Try.prog ((w.alloc (Obj.cells (segCells ⟨⟨k1, p1, l1, b1⟩, A1, n1, c1⟩) 50)).alloc (Obj.cells (segCells ⟨⟨k2, p2, l2, b2⟩, A2, n2, c2⟩) 50)) = .ok (.string ⟨b2.toArray⟩) _ := conv_bytes conv_u8 c2 (hy.below (hb.mono hB))
  clear hx hy hB
  by_cases h1 : k1 = k2
  · have t1 : (k1 == k2) = true := by rw [beq_iff_eq]; exact h1
    by_cases h2 : p1 = p2
    · have t2 : (p1 == p2) = true := by rw [beq_iff_eq]; exact h2
      by_cases h3 : l1 = l2
      · subst h1 h2 h3
        by_cases h4 : b1 = b2
        · subst h4
          rw [(sameSeg_is _ _).2 rfl]
          go_enter Try.func32, Try.ntmps32
          go_wp2
          go_ret
          exact ⟨rfl, hb⟩
        · have e : sameSeg ⟨k1, p1, l1, b1⟩ ⟨k1, p1, l1, b2⟩ = false := by
            unfold sameSeg
            simp only [decide_eq_false h4, Bool.and_false]
          have t4 : (b1 == b2) = false := by rw [beq_eq_false_iff_ne]; exact h4
          rw [e]
          clear e
          go_enter Try.func32, Try.ntmps32
          go_wp2
          go_ret
          exact ⟨rfl, hb⟩
      · have t3 : (l1 == l2) = false := by rw [beq_eq_false_iff_ne]; exact h3
        have e : sameSeg ⟨k1, p1, l1, b1⟩ ⟨k2, p2, l2, b2⟩ = false := by
          unfold sameSeg
          simp only [t3, Bool.and_false, Bool.false_and]
        rw [e]
        clear e h1 h2 h3 hcx hcy
        go_enter Try.func32, Try.ntmps32
        go_wp2
        go_ret
        exact ⟨rfl, hb⟩
    · have t2 : (p1 == p2) = false := by rw [beq_eq_false_iff_ne]; exact h2
      have e : sameSeg ⟨k1, p1, l1, b1⟩ ⟨k2, p2, l2, b2⟩ = false := by
        unfold sameSeg
        simp only [decide_eq_false h2, Bool.and_false, Bool.false_and]
      rw [e]
      clear e h1 h2 hcx hcy
      go_enter Try.func32, Try.ntmps32
      go_wp2
      go_ret
      exact ⟨rfl, hb⟩
  · have t1 : (k1 == k2) = false := by rw [beq_eq_false_iff_ne]; exact h1
    have e : sameSeg ⟨k1, p1, l1, b1⟩ ⟨k2, p2, l2, b2⟩ = false := by
      unfold sameSeg
      simp only [decide_eq_false h1, Bool.false_and]
    rw [e]
    clear e h1 hcx hcy
    go_enter Try.func32, Try.ntmps32
    go_wp2
    go_ret
    exact ⟨rfl, hb⟩
set_option maxRecDepth 100000 in
set_option maxHeartbeats 4000000 in
/-- Few: what a true answer says. -/
theorem few_any (A : Option Addr) (n c B : Nat) (xs : List SegV) (m : Int) (w : World) (hS : Segs w B A n xs) (hX : Bodies w B xs) (hn : n ≤ maxLen) :
    Calls Try.prog 22 #[.slice A n c, .int .i64 m] w fun e w' => ∃ b : Bool, e = .returned (.bool b) ∧ (b = true → (∀ x ∈ xs, x.seg.body.length ≤ 300) ∧ (n : Int) ≤ m) ∧ w = w' := by
  have HS := Lib.hid hS
  have HX := Lib.hid hX
  clear hS hX
  have hn2 : (n : Int) ≤ 9223372036854775807 := by unfold maxLen at hn; omega
  go_enter Try.func22, Try.ntmps22
  go_wp2
  go_loopw [5] (fun i wr => ∃ j : Nat, i = .int .i64 j ∧ j ≤ n ∧ w = wr ∧ Hid (∀ x ∈ xs.take j, x.seg.body.length ≤ 300)) (fun i _ => n - (intOf i).toNat)
  case atStart => exact ⟨0, rfl, Nat.zero_le _, by first | rfl | trivial, fun x hx => by simp at hx⟩
  case round =>
    obtain ⟨j, rfl, hj, rfl, HJ⟩ := hrel
    by_cases hlt : j < n
    · have tj : (j : Int) < (n : Int) := by omega
      obtain ⟨b, off, x, rfl, hb, hx, k0, k1, k2, k3⟩ := HS.out.pick hlt
      have hxm : x ∈ xs := List.mem_of_getElem? hx
      have hxl := (HX.out x hxm).1.len
      by_cases h3 : x.n ≤ 300
      · have t3 : ¬ (300 : Int) < (x.n : Int) := by omega
        have HJ2 : Hid (∀ y ∈ xs.take (j + 1), y.seg.body.length ≤ 300) := by
          intro y hy
          rw [List.take_add_one, hx] at hy
          rcases List.mem_append.1 hy with hy | hy
          · exact HJ.out y hy
          · simp at hy
            subst hy
            omega
        clear hx k0 k1 k2 HJ hxl
        go_wp2
        go_roundw
        case rel => exact ⟨j + 1, by go_num, hlt, by first | rfl | trivial, HJ2⟩
        case measure => simp [intOf]; omega
      · have t3 : (300 : Int) < (x.n : Int) := by omega
        clear hx k0 k1 k2 HJ hxl
        go_wp2
        go_ret
        exact ⟨false, rfl, (fun h => by cases h), by first | rfl | trivial⟩
    · obtain rfl : j = n := by omega
      have HF : Hid (∀ x ∈ xs, x.seg.body.length ≤ 300) := by
        have := HJ.out
        rw [List.take_of_length_le (by rw [HS.out.len]; exact Nat.le_refl _)] at this
        exact this
      clear HJ
      go_wp2
      go_ret
      refine ⟨_, rfl, fun h => ⟨HF.out, ?_⟩, by first | rfl | trivial⟩
      exact of_decide_eq_true h
instance : DecidableEq PS.Seg := fun x y => decidable_of_iff _ (sameSeg_is x y)
def sameSegs (a b : List PS.Seg) : Bool := decide (a = b)
set_option maxRecDepth 100000 in
set_option maxHeartbeats 4000000 in
theorem segs_any (A1 A2 : Option Addr) (n1 c1 n2 c2 B : Nat) (xs ys : List SegV) (w : World) (hS1 : Segs w B A1 n1 xs) (hX1 : Bodies w B xs) (hS2 : Segs w B A2 n2 ys) (hX2 : Bodies w B ys) (hB : B ≤ w.heap.size) (hn1 : n1 ≤ 1000000) (hn2 : n2 ≤ 1000000) :
    Calls Try.prog 27 #[.slice A1 n1 c1, .slice A2 n2 c2] w fun e w' => e = .returned (.bool (sameSegs (xs.map (·.seg)) (ys.map (·.seg)))) ∧ Below w.heap.size w w' := by
  have HS1 := Lib.hid hS1
  have HX1 := Lib.hid hX1
  have HS2 := Lib.hid hS2
  have HX2 := Lib.hid hX2
  have hl1 := hS1.len
  have hl2 := hS2.len
  by_cases hne : n1 = n2
  · subst hne
    have tne : ((n1 : Int) != (n1 : Int)) = false := by simp
    clear hS1 hX1 hS2 hX2
    go_enter Try.func27, Try.ntmps27
    go_wp2
    go_loopw [5] (fun i wr => ∃ j : Nat, i = .int .i64 j ∧ j ≤ n1 ∧ Below w.heap.size w wr ∧ Hid ((xs.map (·.seg)).take j = (ys.map (·.seg)).take j)) (fun i _ => n1 - (intOf i).toNat)
    case atStart => exact ⟨0, rfl, Nat.zero_le _, Below.refl _ _, rfl⟩
    case round =>
      obtain ⟨j, rfl, hj, hW, HJ⟩ := hrel
      by_cases hlt : j < n1
      · have tj : (j : Int) < (n1 : Int) := by omega
        have hB2 : B ≤ wr.drew.heap.size := by have := hW.size; show B ≤ wr.heap.size; omega
        have hW2 := hW.drew
        obtain ⟨b1, o1, x, hA1, hb1, hx, k0, k1, k2, k3⟩ := (HS1.out.below (hW2.mono hB)).pick hlt
        obtain ⟨b2, o2, y, hA2, hb2, hy, m0, m1, m2, m3⟩ := (HS2.out.below (hW2.mono hB)).pick hlt
        subst hA1
        subst hA2
        have hBx := Lib.hid ((HX1.out x (List.mem_of_getElem? hx)).1.below (hW2.mono hB))
        have hBy := Lib.hid ((HX2.out y (List.mem_of_getElem? hy)).1.below (hW2.mono hB))
        have HJ2 : Hid (x.seg = y.seg → (xs.map (·.seg)).take (j + 1) = (ys.map (·.seg)).take (j + 1)) := by
          intro h
          rw [List.take_add_one, List.take_add_one, HJ.out, List.getElem?_map, List.getElem?_map, hx, hy, Option.map_some, Option.map_some, h]
        have HN : Hid (x.seg ≠ y.seg → xs.map (·.seg) ≠ ys.map (·.seg)) := by
          intro h h2
          have := congrArg (·[j]?) h2
          simp only [List.getElem?_map, hx, hy, Option.map_some, Option.some.injEq] at this
          exact h this
        clear hx hy HJ hW
        go_wp2
        refine wp_region_seq (fun x => Below wr.drew.heap.size wr.drew x) [(false, 0), (false, 1), (false, 2), (false, 3), (false, 4), (true, 5), (true, 6), (true, 7), (true, 8), (true, 9)] (by kernel_rfl) (by kernel_rfl) (fun _ _ d _ _ h => by cases d <;> exact h) (Below.refl _ _) ?_
        generalize wr.drew = w2 at *
        iterate 5 (apply plan_take rfl rfl rfl rfl; (intro w' hS K hK; have g0 := (hS.cell (p := ⟨b1, o1 + j * 4, none⟩) (by show b1 < _; omega)).trans k0; have g1 := (hS.cell (p := ⟨b1, o1 + j * 4 + 1, none⟩) (by show b1 < _; omega)).trans k1; have g2 := (hS.cell (p := ⟨b1, o1 + j * 4 + 2, none⟩) (by show b1 < _; omega)).trans k2; have g3 := (hS.cell (p := ⟨b1, o1 + j * 4 + 3, none⟩) (by show b1 < _; omega)).trans k3; clear hS; go_simp; exact hK))
        iterate 3 (refine plan_force rfl rfl (fun K hK => ?_); go_wp2_with fail; refine hK.out _ _ (Below.refl _ _) ?_; clear hK K)
        refine plan_force rfl rfl (fun K hK => ?_)
        go_wp2_with fail
        refine (sameSeg_any x y B w2 hBx.out hBy.out hB2).mono ?_
        rintro e w3 ⟨rfl, hb3⟩
        go_wp2_with fail
        refine hK.out _ _ hb3 ?_
        clear hK K
        have hW3 := hW2.trans (hb3.mono hW2.size)
        have hs : sameSeg x.seg y.seg = true ∨ sameSeg x.seg y.seg = false := by cases sameSeg x.seg y.seg <;> simp
        have hsm := (sameSeg_is x.seg y.seg)
        have HSm := Lib.hid hsm
        clear hsm
        generalize sameSeg x.seg y.seg = sb at *
        rcases hs with rfl | rfl
        · have HJ3 := Lib.hid (HJ2.out (HSm.out.1 rfl))
          refine plan_force rfl rfl (fun K hK => ?_); go_wp2_with fail; refine hK.out _ _ hb3 ?_; clear hK K
          refine plan_nil ?_
          go_wp2
          go_roundw
          case rel => exact ⟨j + 1, by go_num, hlt, hW3, HJ3⟩
          case measure => simp [intOf]; omega
        · have HE : Hid (sameSegs (xs.map (·.seg)) (ys.map (·.seg)) = false) := by
            show sameSegs _ _ = false
            refine decide_eq_false (HN.out (fun h => ?_))
            have := HSm.out.2 h
            cases this
          refine plan_force rfl rfl (fun K hK => ?_); go_wp2_with fail; refine hK.out _ _ hb3 ?_; clear hK K
          refine plan_nil ?_
          go_wp2
          go_ret
          exact ⟨by rw [HE.out]; rfl, hW3⟩
      · obtain rfl : j = n1 := by omega
        have HE : Hid (sameSegs (xs.map (·.seg)) (ys.map (·.seg)) = true) := by
          have := HJ.out
          rw [List.take_of_length_le (by simp [hl1]), List.take_of_length_le (by simp [hl2])] at this
          exact decide_eq_true this
        clear HJ
        go_wp2
        go_ret
        exact ⟨by rw [HE.out]; rfl, hW⟩
  · have tne : ((n1 : Int) != (n2 : Int)) = true := by simp; omega
    have HE : Hid (sameSegs (xs.map (·.seg)) (ys.map (·.seg)) = false) := by
      show sameSegs _ _ = false
      refine decide_eq_false (fun h => ?_)
      have := congrArg List.length h
      simp only [List.length_map] at this
      omega
    clear hS1 hX1 hS2 hX2
    go_enter Try.func27, Try.ntmps27
    go_wp2
    go_ret
    exact ⟨by rw [HE.out]; rfl, Below.refl _ _⟩
end Go.Proofs.Ytobbjhbjjhnicaa
