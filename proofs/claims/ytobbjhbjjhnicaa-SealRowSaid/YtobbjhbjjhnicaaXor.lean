/- The walk of lane.Xor. -/
import Derived.Test.YtobbjhbjjhnicaaStream
import Derived.Test.YtobbjhbjjhnicaaPlanC
namespace Go.Proofs.Ytobbjhbjjhnicaa
open Go.RowKit
set_option linter.unusedVariables false
theorem W8_xor (x y : UInt8) : bits .xor .u8 (x.toNat : Int) (y.toNat : Int) = ((x ^^^ y).toNat : Int) := by
  rw [u8_xor_nat _ _ x.toNat_lt y.toNat_lt, UInt8.toNat_xor]
set_option maxRecDepth 100000 in
set_option maxHeartbeats 4000000 in
theorem xor_any (k : PL.K8) (p : Int) (A : Option Addr) (n c B : Nat) (b : List UInt8) (w : World) (hb : Bytes w B A n b) (hB : B ≤ w.heap.size) (hn : n ≤ 100000) :
    Calls Try.prog 19 #[.agg (keyCells k), .int .i64 p, .slice A n c] w (Streamed w n (PL.xorTo (PL.stream k (placeWord p) n) b)) := by
  have HB := Lib.hid (hb.more hB)
  have HBl := Lib.hid hb.len
  clear hb
  have HSl := Lib.hid (PL.stream_len k (placeWord p) n)
  go_enter Try.func19, Try.ntmps19
  go_wp2
  refine wp_scope_back 0 (fun z a' w' => ∃ (i g : Nat), z = n - i ∧ i ≤ n ∧ w.heap.size ≤ g ∧ Hid (Lies w' g (PL.xorAt (PL.stream k (placeWord p) n) b i)) ∧ Below w.heap.size w w' ∧ ∃ u : Nat → Value, a' = ⟨#[u 0, u 1, .slice A n c, u 3, u 4, u 5, .slice none 0 0, .slice (some ⟨g, 0, none⟩) n n, .int .i64 (i : Int), u 9, u 10, u 11, u 12, u 13, u 14, u 15, u 16, u 17, u 18, u 19, u 20, u 21, u 22, u 23, u 24, u 25, u 26, u 27, u 28, u 29, u 30, u 31, u 32, u 33], []⟩) rfl ?_ ?_
  · intro HL
    have hW0 : Below w.heap.size w (w.alloc (Obj.cells (keyCells k) 31)) := (Below.refl _ _).alloc (Nat.le_refl _) _
    go_wp2_with fail
    refine (stream_any k p n _ hn).mono ?_
    rintro e w1 ⟨g, rfl, hg, hL1, hb1⟩
    rw [World.size_alloc] at hg
    have hW1 := hW0.trans (hb1.mono hW0.size)
    have HL1 := Lib.hid hL1
    clear hL1 hb1 hW0
    go_wp2
    go_step3
    go_step
    go_step
    exact HL.out _ _ _ ⟨0, g, rfl, Nat.zero_le _, by omega, HL1, hW1, ⟨slot [_, _, undef, _, _, _, undef, undef, undef, _, _, _, _, _, _, _, _, _, _, _, _, _, _, _, _, _, _, _, _, _, _, _, _, _], rfl⟩⟩
  · rintro z a' w' ⟨i, g, rfl, hi, hg, HI, hW, ⟨u, rfl⟩⟩
    have hlen : (PL.stream k (placeWord p) n).length = b.length := by rw [HSl.out, HBl.out]
    have HLen := Lib.hid hlen
    clear hlen
    by_cases hlt : i = n
    · obtain rfl := hlt
      have h2 : Lies w' g (PL.xorTo (PL.stream k (placeWord p) i) b) := by
        have h := HI.out
        rw [show PL.xorAt (PL.stream k (placeWord p) i) b i = PL.xorTo (PL.stream k (placeWord p) i) b from by
          have h3 := PL.xorAt_all HLen.out
          rwa [HSl.out] at h3] at h
        exact h
      have H2 := Lib.hid h2
      clear h2
      go_wp2
      refine jump_ret ?_
      go_ret
      exact ⟨g, rfl, hg, H2.out, hW⟩
    · have hlt' : i < n := by omega
      have hne : ((i : Int) == (n : Int)) = false := by rw [beq_eq_false_iff_ne]; omega
      have l1 : i < (PL.stream k (placeWord p) n).length := by rw [HSl.out]; exact hlt'
      have l2 : i < b.length := by rw [HBl.out]; exact hlt'
      obtain ⟨bb, off, hl0, rfl, hbb, hcl⟩ := (HB.out.below hW).at_ hlt'
      obtain ⟨x, hx⟩ : ∃ x, x = (PL.stream k (placeWord p) n)[i] := ⟨_, rfl⟩
      obtain ⟨y, hy⟩ : ∃ y, y = b[i] := ⟨_, rfl⟩
      have hset := PL.xorAt_set HLen.out i l1 l2
      have hget := PL.xorAt_get HLen.out i l1
      rw [← hx] at hset hget
      rw [← hy] at hset
      have c1 : w'.cell? ⟨g, i, none⟩ = some (.int .u8 (x.toNat : Int)) := HI.out.cell hget
      have c2 : w'.cell? ⟨bb, off + i, none⟩ = some (.int .u8 (y.toNat : Int)) := by rw [hy]; exact hcl
      have f1 : w'.frozen? ⟨g, i, none⟩ = false := HI.out.frozen i
      have i0 : (0 : Int) ≤ (i : Int) := by omega
      have i1 : (i : Int) < (n : Int) := by omega
      have ex := W8_xor x y
      obtain ⟨z, hz⟩ : ∃ z, z = x ^^^ y := ⟨_, rfl⟩
      rw [← hz] at hset ex
      clear hz
      have HSet := Lib.hid hset
      clear hset hget hcl hx hy
      go_wp2
      refine wp_region_planC (fun x => True) (fun x => x = w'.drew) 10 [(0, 0), (0, 1), (0, 2), (1, 3), (0, 4), (2, 5), (2, 6), (2, 7), (2, 8), (2, 9), (2, 10)]
        (by kernel_rfl) (by kernel_rfl) (fun _ _ d _ _ h => by cases d <;> exact h) trivial rfl ?_
      have e1 : w'.drew.cell? ⟨g, i, none⟩ = some (.int .u8 (x.toNat : Int)) := c1
      have e2 : w'.drew.cell? ⟨bb, off + i, none⟩ = some (.int .u8 (y.toNat : Int)) := c2
      have f2 : w'.drew.frozen? ⟨g, i, none⟩ = false := f1
      have HI2 : Hid (Lies w'.drew g (PL.xorAt (PL.stream k (placeWord p) n) b i)) := HI
      have hW2 := hW.drew
      clear c1 c2 f1 HI hW
      generalize w'.drew = w2 at *
      iterate 3 (apply planC_take rfl rfl rfl rfl; (intro w' hS K hK; clear hS; go_simp; exact hK))
      apply planC_read rfl rfl rfl rfl
      · intro w' hS h1 K hK; subst h1; go_simp; exact hK
      iterate 1 (apply planC_take rfl rfl rfl rfl; (intro w' hS K hK; clear hS; go_simp; exact hK))
      iterate 5 (refine planC_force rfl rfl rfl (fun K hK => ?_); go_wp2; refine hK.out _ _ trivial rfl ?_; clear hK K)
      refine planC_turn rfl rfl (fun K hK => ?_)
      go_wp2
      refine hK.out _ _ trivial ?_; clear hK K
      refine planC_nil ?_
      have HI3 : Hid (Lies (w2.setCell ⟨g, i, none⟩ (.int .u8 (z.toNat : Int))) g (PL.xorAt (PL.stream k (placeWord p) n) b (i + 1))) := by
        show Lies _ _ _
        rw [← HSet.out]
        exact HI2.out.set_ i _
      have hW3 := hW2.setCell (p := ⟨g, i, none⟩) (by show w.heap.size ≤ g; omega) (.int .u8 (z.toNat : Int))
      clear HI2 hW2 e1 e2 f2
      generalize w2.setCell ⟨g, i, none⟩ (.int .u8 (z.toNat : Int)) = w3 at *
      go_wp2
      go_step3
      refine jump_back (m' := n - (i + 1)) ?_ ?_
      · omega
      exact ⟨i + 1, g, rfl, by omega, hg, HI3, hW3, ⟨slot [_, _, undef, _, _, _, undef, undef, undef, _, _, _, _, _, _, _, _, _, _, _, _, _, _, _, _, _, _, _, _, _, _, _, _, _], rfl⟩⟩
end Go.Proofs.Ytobbjhbjjhnicaa
