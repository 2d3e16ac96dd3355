/- The walk of SealBounds. -/
import Derived.Test.YtobbjhbjjhnicaaTold17
import Derived.Test.YtobbjhbjjhnicaaMake
import Derived.Test.YtobbjhbjjhnicaaByteRow
namespace Go.Proofs.Ytobbjhbjjhnicaa
open Go.RowKit
set_option linter.unusedVariables false
/-- seal.Put, any segment. -/
theorem sealPut_any (k : PL.K8) (s : PS.Seg) (n c : Nat) (A : Option Addr) (w : World) (hb : Bytes w w.heap.size A n s.body) (hn : n ≤ 1000000000) :
    Calls Try.prog 25 #[.agg (keyCells k), .agg (segCells ⟨s, A, n, c⟩)] w fun e w' => ∃ (A' : Option Addr) (n' c' : Nat) (code : Int), e = .returned (.tuple #[.slice A' n' c', .int .i64 code]) ∧ n' ≤ c' ∧ (A' = none → c' = 0) ∧
      ((PS.may s = true ∧ code = 0 ∧ Bytes w' w'.heap.size A' n' (PS.put k s)) ∨ (PS.may s = false ∧ code = 1 ∧ n' = 0)) ∧ Below w.heap.size w w' := by
  cases hm : PS.may s
  · refine (sealPut_bad k s n c A w hb.len (by omega) hm).mono ?_
    rintro e w' ⟨rfl, hbw⟩
    exact ⟨none, 0, 0, 1, rfl, Nat.le_refl _, fun _ => rfl, .inr ⟨rfl, rfl, rfl⟩, hbw⟩
  · obtain ⟨q, p, la, bd⟩ := s
    have hmi := (PS.may_is _).1 hm
    simp only at hmi hb
    obtain ⟨q', rfl⟩ : ∃ q' : Nat, q = (q' : Int) := ⟨q.toNat, by omega⟩
    obtain ⟨p', rfl⟩ : ∃ p' : Nat, p = (p' : Int) := ⟨p.toNat, by omega⟩
    refine (sealPut_may k q' p' n c la bd A w hb hm).mono ?_
    rintro e w' ⟨v, rfl, hO, hbw⟩
    obtain ⟨A', n', c', rfl, hB, hc, hz⟩ := hO.form_n
    exact ⟨A', n', c', 0, rfl, hc, hz, .inl ⟨rfl, rfl, hB⟩, hbw⟩
namespace SB
def tab : Nat → Int
  | 0 => -1
  | 1 => 0
  | 2 => 1048576
  | _ => 1048577
theorem tab_cell (w : World) (t : TypeId) (j : Nat) (h : j < 4) : (w.alloc (Obj.cells #[.int .i64 (-1), .int .i64 0, .int .i64 1048576, .int .i64 1048577] t)).cell? ⟨w.heap.size, j, none⟩ = some (.int .i64 (tab j)) := by
  rw [(Blk.new w t _).cell]
  match j, h with
  | 0, _ => rfl
  | 1, _ => rfl
  | 2, _ => rfl
  | 3, _ => rfl
def K1 : PL.K8 := ⟨1, 0, 0, 0, 0, 0, 0, 0⟩
theorem put_pos (k : PL.K8) (s : PS.Seg) : 0 < (PS.put k s).length := by
  unfold PS.put PS.head
  simp
end SB
set_option maxRecDepth 100000 in
set_option maxHeartbeats 4000000 in
theorem sealBoundsAt (n q z r cc : Int) (k j : Nat) (la : Bool) (w : World) (hk0 : 12098 ≤ k) (hk1 : k ≤ 12102) (hk : wrap64 (12098 + wrap64 ((IntKind.u64.wrap n).tmod 5)) = (k : Int)) (hc : wrap64 (wrap64 ((IntKind.u64.wrap q).tmod 6) - 1) = cc) (hj : j < 4) (hx : (IntKind.u64.wrap z).tmod 4 = (j : Int))
    (ct : (w.alloc (Obj.cells #[.int .i64 (-1), .int .i64 0, .int .i64 1048576, .int .i64 1048577] 3)).cell? ⟨w.heap.size, j, none⟩ = some (.int .i64 r)) (hla : (cc == 3) = la)
    (hcase : ((k : Int) ≤ 12100 ∧ 1 ≤ cc ∧ cc ≤ 3 ∧ 0 ≤ r ∧ r ≤ 1048576) ∨ ¬ (k : Int) ≤ 12100 ∨ ((k : Int) ≤ 12100 ∧ ¬ 1 ≤ cc) ∨ ((k : Int) ≤ 12100 ∧ 1 ≤ cc ∧ ¬ cc ≤ 3) ∨ ((k : Int) ≤ 12100 ∧ 1 ≤ cc ∧ cc ≤ 3 ∧ ¬ 0 ≤ r) ∨ ((k : Int) ≤ 12100 ∧ 1 ≤ cc ∧ cc ≤ 3 ∧ 0 ≤ r ∧ ¬ r ≤ 1048576)) :
    Calls Try.prog 11 #[.int .i64 n, .int .i64 q, .int .i64 z] w fun e w' => e = .returned (.bool true) ∧ Below w.heap.size w w' := by
  have j0 : (0 : Int) ≤ (j : Int) := by omega
  have j1 : (j : Int) < 4 := by omega
  have hmk : ∀ w : World, (Instr.makeSlice 30 (.int .i64 (k : Int)) (.int .i64 (k : Int))).run Try.prog w = .ok (.slice (some ⟨w.heap.size, 0, none⟩) k k) (w.alloc (.cells (zeroRow k) 5)) := fun w => run_make_bytes row_u8 w k k .i64 .i64 (Nat.le_refl _) (by omega)
  have hmay : (PS.may ⟨cc, r, la, List.replicate k 0⟩ = true ↔ ((k : Int) ≤ 12100 ∧ 1 ≤ cc ∧ cc ≤ 3 ∧ 0 ≤ r ∧ r ≤ 1048576)) := by
    rw [PS.may_is]
    simp only [List.length_replicate]
    have hl : la = decide (cc = 3) := by rw [← hla, Bool.eq_iff_iff]; simp
    constructor
    · rintro ⟨h1, h2, h3, h4, h5, h6⟩
      exact ⟨by omega, h1, h2, h3, h4⟩
    · rintro ⟨h1, h2, h3, h4, h5⟩
      exact ⟨h2, h3, h4, h5, by omega, hl⟩
  have hnot : PS.may ⟨cc, r, !la, List.replicate k 0⟩ = false := by
    rw [Bool.eq_false_iff]
    intro h
    have h1 := ((PS.may_is _).1 h).2.2.2.2.2
    simp only at h1
    rw [show decide (cc = 3) = la from by rw [← hla, Bool.eq_iff_iff]; simp] at h1
    cases la <;> cases h1
  have hW0 : Below w.heap.size w (((w.alloc (Obj.cells #[.int .i64 (-1), .int .i64 0, .int .i64 1048576, .int .i64 1048577] 3)).alloc (.cells (zeroRow k) 5)).alloc (Obj.cells (segCells ⟨⟨cc, r, la, List.replicate k 0⟩, some ⟨w.heap.size + 1, 0, none⟩, k, k⟩) 50)) := (((Below.refl _ _).alloc (Nat.le_refl _) _).alloc (by simp) _).alloc (by simp only [World.size_alloc]; omega) _
  have HM := Lib.hid hmay
  have HN := Lib.hid hnot
  have HC := Lib.hid hcase
  have HB0 : Hid (Bytes (((w.alloc (Obj.cells #[.int .i64 (-1), .int .i64 0, .int .i64 1048576, .int .i64 1048577] 3)).alloc (.cells (zeroRow k) 5)).alloc (Obj.cells (segCells ⟨⟨cc, r, la, List.replicate k 0⟩, some ⟨w.heap.size + 1, 0, none⟩, k, k⟩) 50)) (w.heap.size + 2) (some ⟨w.heap.size + 1, 0, none⟩) k (List.replicate k 0)) := by
    have := made_bytes (w.alloc (Obj.cells #[.int .i64 (-1), .int .i64 0, .int .i64 1048576, .int .i64 1048577] 3)) 5 k k (Nat.le_refl _)
    rw [World.size_alloc] at this
    exact (this.more (B' := w.heap.size + 2) (Nat.le_refl _)).alloc (by simp only [World.size_alloc]; omega) _
  have HS0 : Hid (Blk (((w.alloc (Obj.cells #[.int .i64 (-1), .int .i64 0, .int .i64 1048576, .int .i64 1048577] 3)).alloc (.cells (zeroRow k) 5)).alloc (Obj.cells (segCells ⟨⟨cc, r, la, List.replicate k 0⟩, some ⟨w.heap.size + 1, 0, none⟩, k, k⟩) 50)) (w.heap.size + 1 + 1) 50 (segCells ⟨⟨cc, r, la, List.replicate k 0⟩, some ⟨w.heap.size + 1, 0, none⟩, k, k⟩)) := by
    have := Blk.new ((w.alloc (Obj.cells #[.int .i64 (-1), .int .i64 0, .int .i64 1048576, .int .i64 1048577] 3)).alloc (.cells (zeroRow k) 5)) 50 (segCells ⟨⟨cc, r, la, List.replicate k 0⟩, some ⟨w.heap.size + 1, 0, none⟩, k, k⟩)
    simp only [World.size_alloc] at this
    exact this
  clear hmay hnot
  rcases hcase with ⟨h1, h2, h3, h4, h5⟩ | h1 | ⟨h1, h2⟩ | ⟨h1, h2, h3⟩ | ⟨h1, h2, h3, h4⟩ | ⟨h1, h2, h3, h4, h5⟩
  all_goals try (have h3d : decide (cc ≤ 3) = false := decide_eq_false h3)
  all_goals try (have h5d : decide (r ≤ 1048576) = false := decide_eq_false h5)
  case inl =>
    go_enter Try.func11, Try.ntmps11
    go_wp2_with fail
    refine (sealPut_any SB.K1 ⟨cc, r, la, List.replicate k 0⟩ k k (some ⟨w.heap.size + 1, 0, none⟩) (((w.alloc (Obj.cells #[.int .i64 (-1), .int .i64 0, .int .i64 1048576, .int .i64 1048577] 3)).alloc (.cells (zeroRow k) 5)).alloc (Obj.cells (segCells ⟨⟨cc, r, la, List.replicate k 0⟩, some ⟨w.heap.size + 1, 0, none⟩, k, k⟩) 50)) (HB0.out.more (by simp only [World.size_alloc]; omega)) (by omega)).mono ?_
    rintro e w1 ⟨A', n', c', code, rfl, hnc, hz, hd, hb1⟩
    have hd2 : code = 0 ∧ 0 < n' := by
      rcases hd with ⟨_, hd, hBp⟩ | ⟨hm, _, _⟩
      · exact ⟨hd, by rw [← hBp.len]; exact SB.put_pos _ _⟩
      · have := HM.out.2 ⟨h1, h2, h3, h4, h5⟩
        rw [hm] at this
        cases this
    obtain ⟨rfl, hn0⟩ := hd2
    have hn1 : (0 : Int) < (n' : Int) := by omega
    clear hd
    have HS1 := Lib.hid (HS0.out.below hb1 HS0.out.lt)
    have hW1 := hW0.trans (hb1.mono hW0.size)
    obtain ⟨s0, s1, s2, s3⟩ := seg_cells HS1.out
    have s2 : w1.cell? ⟨w.heap.size + 1 + 1, 2, none⟩ = some (.bool la) := s2
    have f2 : w1.frozen? ⟨w.heap.size + 1 + 1, 2, none⟩ = false := HS1.out.frozen 2
    clear hmk hW0 hb1 hx ct HB0 HS0 s0 s1 s3 hk hc
    go_wp2_with fail
    have HS2 : Hid (Blk (w1.setCell ⟨w.heap.size + 1 + 1, 2, none⟩ (.bool (!la))) (w.heap.size + 1 + 1) 50 (segCells ⟨⟨cc, r, !la, List.replicate k 0⟩, some ⟨w.heap.size + 1, 0, none⟩, k, k⟩)) := HS1.out.set_ 2 (.bool (!la))
    have hW2 := hW1.setCell (p := ⟨w.heap.size + 1 + 1, 2, none⟩) (by show w.heap.size ≤ w.heap.size + 1 + 1; omega) (.bool (!la))
    clear HS1 hW1 s2 f2
    refine (told17 _).mono ?_
    rintro e w2 ⟨rfl, hb2⟩
    have HS3 := Lib.hid (HS2.out.below hb2 HS2.out.lt)
    have hW3 := hW2.trans (hb2.mono hW2.size)
    obtain ⟨s0, s1, s2, s3⟩ := seg_cells HS3.out
    have s0 : w2.cell? ⟨w.heap.size + 1 + 1, 0, none⟩ = some (.int .i64 cc) := s0
    have s1 : w2.cell? ⟨w.heap.size + 1 + 1, 1, none⟩ = some (.int .i64 r) := s1
    have s2 : w2.cell? ⟨w.heap.size + 1 + 1, 2, none⟩ = some (.bool (!la)) := s2
    have s3 : w2.cell? ⟨w.heap.size + 1 + 1, 3, none⟩ = some (.slice (some ⟨w.heap.size + 1, 0, none⟩) k k) := s3
    clear HS2 hW2 hb2
    go_wp2_with fail
    refine (sealMay_any ⟨⟨cc, r, !la, List.replicate k 0⟩, some ⟨w.heap.size + 1, 0, none⟩, k, k⟩ w2 (by simp) (by show k ≤ _; omega)).mono ?_
    rintro e w3 ⟨he, hb3⟩
    rw [HN.out] at he
    subst he
    have hW4 := hW3.trans (hb3.mono hW3.size)
    go_wp2
    go_ret
    exact ⟨rfl, hW4⟩
  all_goals
    go_enter Try.func11, Try.ntmps11
    go_wp2_with fail
    refine (sealPut_any SB.K1 ⟨cc, r, la, List.replicate k 0⟩ k k (some ⟨w.heap.size + 1, 0, none⟩) (((w.alloc (Obj.cells #[.int .i64 (-1), .int .i64 0, .int .i64 1048576, .int .i64 1048577] 3)).alloc (.cells (zeroRow k) 5)).alloc (Obj.cells (segCells ⟨⟨cc, r, la, List.replicate k 0⟩, some ⟨w.heap.size + 1, 0, none⟩, k, k⟩) 50)) (HB0.out.more (by simp only [World.size_alloc]; omega)) (by omega)).mono ?_
    rintro e w1 ⟨A', n', c', code, rfl, hnc, hz, hd, hb1⟩
    have hd2 : code = 1 ∧ n' = 0 := by
      rcases hd with ⟨hm, _, _⟩ | ⟨_, h6, h7⟩
      · exact absurd (HM.out.1 hm) (by omega)
      · exact ⟨h6, h7⟩
    obtain ⟨rfl, rfl⟩ := hd2
    clear hd
    have HS1 := Lib.hid (HS0.out.below hb1 HS0.out.lt)
    have hW1 := hW0.trans (hb1.mono hW0.size)
    obtain ⟨s0, s1, s2, s3⟩ := seg_cells HS1.out
    have s2 : w1.cell? ⟨w.heap.size + 1 + 1, 2, none⟩ = some (.bool la) := s2
    have f2 : w1.frozen? ⟨w.heap.size + 1 + 1, 2, none⟩ = false := HS1.out.frozen 2
    clear hmk hW0 hb1 hx ct HB0 HS0 s0 s1 s3 hk hc
    go_wp2_with fail
    have HS2 : Hid (Blk (w1.setCell ⟨w.heap.size + 1 + 1, 2, none⟩ (.bool (!la))) (w.heap.size + 1 + 1) 50 (segCells ⟨⟨cc, r, !la, List.replicate k 0⟩, some ⟨w.heap.size + 1, 0, none⟩, k, k⟩)) := HS1.out.set_ 2 (.bool (!la))
    have hW2 := hW1.setCell (p := ⟨w.heap.size + 1 + 1, 2, none⟩) (by show w.heap.size ≤ w.heap.size + 1 + 1; omega) (.bool (!la))
    clear HS1 hW1 s2 f2
    refine (told17 _).mono ?_
    rintro e w2 ⟨rfl, hb2⟩
    have HS3 := Lib.hid (HS2.out.below hb2 HS2.out.lt)
    have hW3 := hW2.trans (hb2.mono hW2.size)
    obtain ⟨s0, s1, s2, s3⟩ := seg_cells HS3.out
    have s0 : w2.cell? ⟨w.heap.size + 1 + 1, 0, none⟩ = some (.int .i64 cc) := s0
    have s1 : w2.cell? ⟨w.heap.size + 1 + 1, 1, none⟩ = some (.int .i64 r) := s1
    have s2 : w2.cell? ⟨w.heap.size + 1 + 1, 2, none⟩ = some (.bool (!la)) := s2
    have s3 : w2.cell? ⟨w.heap.size + 1 + 1, 3, none⟩ = some (.slice (some ⟨w.heap.size + 1, 0, none⟩) k k) := s3
    clear HS2 hW2 hb2
    go_wp2_with fail
    refine (sealMay_any ⟨⟨cc, r, !la, List.replicate k 0⟩, some ⟨w.heap.size + 1, 0, none⟩, k, k⟩ w2 (by simp) (by show k ≤ _; omega)).mono ?_
    rintro e w3 ⟨he, hb3⟩
    rw [HN.out] at he
    subst he
    have hW4 := hW3.trans (hb3.mono hW3.size)
    go_wp2
    go_ret
    exact ⟨rfl, hW4⟩
theorem walkSealBounds (n q z : Int) (w : World) (h1 : (Lit.int .i64 n).wf = true) (h2 : (Lit.int .i64 q).wf = true) (h3 : (Lit.int .i64 z).wf = true) :
    Calls Try.prog 11 #[.int .i64 n, .int .i64 q, .int .i64 z] w fun e w' => e = .returned (.bool true) ∧ Below w.heap.size w w' := by
  have h0 : 0 ≤ IntKind.u64.wrap z := by rw [IntKind.wrap_u64]; omega
  have h2 : (IntKind.u64.wrap z).tmod 4 = (((IntKind.u64.wrap z) % 4).toNat : Int) := by rw [Int.tmod_eq_emod_of_nonneg h0]; omega
  have h3 : ((IntKind.u64.wrap z) % 4).toNat < 4 := by omega
  generalize ((IntKind.u64.wrap z) % 4).toNat = j at *
  obtain ⟨k, k0, k1, hk⟩ : ∃ k : Nat, 12098 ≤ k ∧ k ≤ 12102 ∧ wrap64 (12098 + wrap64 ((IntKind.u64.wrap n).tmod 5)) = (k : Int) := by
    have h0 : 0 ≤ IntKind.u64.wrap n := by rw [IntKind.wrap_u64]; omega
    rw [Int.tmod_eq_emod_of_nonneg h0]
    generalize IntKind.u64.wrap n = m at *
    refine ⟨(12098 + m % 5).toNat, by omega, by omega, ?_⟩
    rw [IntWalk.wrap64_in (m % 5) (by omega), IntWalk.wrap64_in (12098 + m % 5) (by omega)]
    omega
  have ct := SB.tab_cell w 3 j h3
  exact sealBoundsAt n q z (SB.tab j) _ k j _ w k0 k1 hk rfl h3 h2 ct rfl (by omega)
end Go.Proofs.Ytobbjhbjjhnicaa
