/- A slice of steps (a word of 64 bits, a length) as an argument. -/
import Derived.Test.YtmllblgninmolaaOpenB
import Derived.Test.YtmllblgninmolaaProg
import Derived.Deep.SlicePairs
namespace Go.Proofs.Ytmllblgninmolaa
open Go.ChangeShapes Go.WideShapes Go.ChangeAt Go.RowKit Go.Deep
set_option linter.unusedVariables false
/-- The slice at A, of n elements, holds the steps l; its block lies below B. -/
def Ops (w : World) (B : Nat) (A : Option Addr) (n : Nat) (l : List (Nat × Int)) : Prop :=
  (l.length = n ∧ ∀ x ∈ l, x.1 < 18446744073709551616 ∧ (Lit.int .i64 x.2).wf = true) ∧
    (0 < n → ∃ b off, A = some ⟨b, off, none⟩ ∧ b < B ∧ ∀ i x, l[i]? = some x → w.cell? ⟨b, off + i * 2, none⟩ = some (.int .u64 (x.1 : Int)) ∧ w.cell? ⟨b, off + i * 2 + 1, none⟩ = some (.int .i64 x.2))
theorem Ops.len {w : World} {B n : Nat} {A : Option Addr} {l : List (Nat × Int)} (h : Ops w B A n l) : l.length = n := h.1.1
theorem Ops.below {w w' : World} {B n : Nat} {A : Option Addr} {l : List (Nat × Int)} (h : Ops w B A n l) (hb : Below B w w') : Ops w' B A n l :=
  ⟨h.1, fun hn => by
    obtain ⟨b, off, e, hlt, hc⟩ := h.2 hn
    exact ⟨b, off, e, hlt, fun i x hi => ⟨(hb.cell (p := ⟨b, off + i * 2, none⟩) hlt).trans (hc i x hi).1, (hb.cell (p := ⟨b, off + i * 2 + 1, none⟩) hlt).trans (hc i x hi).2⟩⟩⟩
theorem Ops.at_ {w : World} {B n k : Nat} {A : Option Addr} {l : List (Nat × Int)} (h : Ops w B A n l) (hk : k < n) :
    ∃ (b off : Nat) (hl : k < l.length), A = some ⟨b, off, none⟩ ∧ l[k].1 < 18446744073709551616 ∧ (Lit.int .i64 l[k].2).wf = true ∧ w.cell? ⟨b, off + k * 2, none⟩ = some (.int .u64 (l[k].1 : Int)) ∧ w.cell? ⟨b, off + k * 2 + 1, none⟩ = some (.int .i64 l[k].2) := by
  obtain ⟨b, off, e, hb, hc⟩ := h.2 (by omega)
  have hl : k < l.length := by rw [h.len]; exact hk
  have h1 := h.1.2 _ (List.getElem_mem hl)
  have h2 := hc k _ (List.getElem?_eq_getElem hl)
  exact ⟨b, off, hl, e, h1.1, h1.2, h2.1, h2.2⟩
section
variable {H : Type} {enc : TypeId × Value → H} {w : World} {base b0 : Nat} {spare : Nat → Bool} {held : Bool} {r : Reach}
theorem open_ops {v : Value} {d : DataW H} {p : List MemPlace}
    (hv : Value.okWide Try.prog w r b0 37 v) (h : DataW.Trod enc Try.prog w base spare held 37 v d p) : ∃ (A : Option Addr) (n c : Nat) (l : List (Nat × Int)), v = .slice A n c ∧ Ops w w.heap.size A n l ∧ n ≤ c ∧ c ≤ maxLen ∧ (A = none → n = 0 ∧ c = 0) := by
  obtain ⟨A, n, c, rfl⟩ := okWide_slice Try.underlying37 hv
  obtain ⟨fuel, hf⟩ := h
  rcases open_slice_pairs Try.underlying37 Try.underlying51 (by kernel_rfl) rfl rfl (by kernel_rfl) (by kernel_rfl) hf with ⟨hcs, _⟩ | ⟨x, ln, cp, m, k, V0, V1, D0, D1, P0, P1, hcs, _, hl, hm, hmm, _, hcell⟩
  · simp [Value.cells] at hcs
    obtain ⟨rfl, rfl, rfl⟩ := hcs
    exact ⟨none, 0, 0, [], rfl, ⟨⟨rfl, fun _ h => by cases h⟩, fun h => absurd h (by omega)⟩, Nat.le_refl _, Nat.zero_le _, fun _ => ⟨rfl, rfl⟩⟩
  · simp [Value.cells] at hcs
    obtain ⟨rfl, rfl, rfl⟩ := hcs
    have hnm : n ≤ m := by rw [hmm]; split <;> omega
    have key : ∀ i, i < m → ∃ (z0 z1 : Int), w.cell? (x.add (i * 2)) = some (.int .u64 z0) ∧ w.cell? (x.add (i * 2 + 1)) = some (.int .i64 z1) ∧ (Lit.int .u64 z0).wf = true ∧ (Lit.int .i64 z1).wf = true := by
      intro i hi
      obtain ⟨c0, c1, t0, t1⟩ := hcell i hi
      obtain ⟨z0, e0, _, w0⟩ := DataW.trod_int Try.underlying29 t0
      obtain ⟨z1, e1, _, w1⟩ := DataW.trod_int Try.underlying3 t1
      simp at e0 e1
      exact ⟨z0, z1, by rw [c0, e0], by rw [c1, e1], w0, w1⟩
    have hall : ∀ i, ∃ y : Nat × Int, i < m → w.cell? (x.add (i * 2)) = some (.int .u64 (y.1 : Int)) ∧ w.cell? (x.add (i * 2 + 1)) = some (.int .i64 y.2) ∧ y.1 < 18446744073709551616 ∧ (Lit.int .i64 y.2).wf = true := by
      intro i
      by_cases hi : i < m
      · obtain ⟨z0, z1, h1, h2, w0, w1⟩ := key i hi
        have hb := bounds_u64 w0
        refine ⟨(z0.toNat, z1), fun _ => ⟨?_, h2, by show z0.toNat < _; omega, w1⟩⟩
        rw [h1]
        show _ = some (Value.int .u64 ((z0.toNat : Nat) : Int))
        rw [u64_of w0]
      · exact ⟨(0, 0), fun h => absurd h hi⟩
    obtain ⟨g, hg⟩ : ∃ g : Nat → Nat × Int, ∀ i, i < m → w.cell? (x.add (i * 2)) = some (.int .u64 ((g i).1 : Int)) ∧ w.cell? (x.add (i * 2 + 1)) = some (.int .i64 (g i).2) ∧ (g i).1 < 18446744073709551616 ∧ (Lit.int .i64 (g i).2).wf = true := ⟨fun i => Classical.choose (hall i), fun i => Classical.choose_spec (hall i)⟩
    refine ⟨some x, n, c, (List.range n).map g, rfl, ⟨⟨by simp, fun y hy => ?_⟩, fun hn => ?_⟩, hl, hm, fun h => by cases h⟩
    · obtain ⟨i, hi, rfl⟩ := List.mem_map.1 hy
      have hi' : i < m := by have := List.mem_range.1 hi; omega
      exact ⟨(hg i hi').2.2.1, (hg i hi').2.2.2⟩
    · have h0 := (hg 0 (by omega)).1
      obtain ⟨b, off, spot⟩ := x
      have hs : spot = none := by simpa [Addr.add] using World.cell?_spot h0
      subst hs
      refine ⟨b, off, rfl, ?_, fun i y hi => ?_⟩
      · rw [Addr.add_mid] at h0
        exact World.block_lt_of_cell? _ _ h0
      · have hin : i < n := by
          have := (List.getElem?_eq_some_iff.1 hi).1
          simpa using this
        have hy : y = g i := by
          simp [hin] at hi
          exact hi.symm
        have h1 := hg i (by omega)
        rw [hy]
        have e1 : (⟨b, off, none⟩ : Addr).add (i * 2) = ⟨b, off + i * 2, none⟩ := Addr.add_mid b off _
        have e2 : (⟨b, off, none⟩ : Addr).add (i * 2 + 1) = ⟨b, off + i * 2 + 1, none⟩ := Addr.add_mid b off _
        rw [e1, e2] at h1
        exact ⟨h1.1, h1.2.1⟩
end
end Go.Proofs.Ytmllblgninmolaa
