/- A slice of tokens, and a slice of numbers, as an argument. -/
import Derived.Test.YthoipfdapmjcfaaOpenB
import Derived.Test.YthoipfdapmjcfaaToks
import Derived.Test.YthoipfdapmjcfaaProg
import Derived.Deep.SlicePairs
namespace Go.Proofs.Ythoipfdapmjcfaa
open Go.ChangeShapes Go.WideShapes Go.ChangeAt Go.RowKit Go.Deep
set_option linter.unusedVariables false
theorem tokRow_get : ∀ (ts : List PM.Tok) (i : Nat) (u : Value), (tokRow ts)[i]? = some u → ∃ (k r : Nat) (t : PM.Tok), i = k * 3 + r ∧ r < 3 ∧ ts[k]? = some t ∧ (tokCells t)[r]? = some u
  | [], i, u, h => by cases h
  | x :: ts, 0, u, h => ⟨0, 0, x, rfl, by omega, rfl, h⟩
  | x :: ts, 1, u, h => ⟨0, 1, x, rfl, by omega, rfl, h⟩
  | x :: ts, 2, u, h => ⟨0, 2, x, rfl, by omega, rfl, h⟩
  | x :: ts, i + 3, u, h => by
    obtain ⟨k, r, t, h1, h2, h3, h4⟩ := tokRow_get ts i u h
    exact ⟨k + 1, r, t, by omega, h2, h3, h4⟩
section
variable {H : Type} {enc : TypeId × Value → H} {w : World} {base b0 : Nat} {spare : Nat → Bool} {held : Bool} {r : Reach}
theorem open_toks {v : Value} {d : DataW H} {p : List MemPlace}
    (hv : Value.okWide Try.prog w r b0 24 v) (h : DataW.Trod enc Try.prog w base spare held 24 v d p) : ∃ (A : Option Addr) (n c : Nat) (l : List PM.Tok), v = .slice A n c ∧ Toks w w.heap.size A n l ∧ n ≤ c ∧ c ≤ maxLen ∧ (A = none → n = 0 ∧ c = 0) := by
  obtain ⟨A, n, c, rfl⟩ := okWide_slice Try.underlying24 hv
  obtain ⟨fuel, hf⟩ := h
  rcases open_slice Try.underlying24 hf with ⟨hcs, _⟩ | ⟨x, ln, cp, m, k, D, Pl, hcs, _, hl, hm, hmm, _, hcell⟩
  · simp [Value.cells] at hcs
    obtain ⟨rfl, rfl, rfl⟩ := hcs
    exact ⟨none, 0, 0, [], rfl, ⟨rfl, fun h => absurd h (by omega)⟩, Nat.le_refl _, Nat.zero_le _, fun _ => ⟨rfl, rfl⟩⟩
  · simp [Value.cells] at hcs
    obtain ⟨rfl, rfl, rfl⟩ := hcs
    have hnm : n ≤ m := by rw [hmm]; split <;> omega
    have ce : Try.prog.cellsOf 34 = 3 := by kernel_rfl
    have key : ∀ i, i < m → ∃ t : PM.Tok, ∀ q u, (tokCells t)[q]? = some u → w.cell? (x.add (i * 3 + q)) = some u := by
      intro i hi
      obtain ⟨cs', h1, h2⟩ := hcell i hi
      rw [ce] at h1
      obtain ⟨_, hlen, hc⟩ := World.cells?_some h1
      obtain ⟨xs, k', hk, hxy, _, hxl, hf⟩ := DataW.trod_struct Try.underlying34 h2
      match xs, hxl, cs', hlen with
      | [y0, y1, y2], _, [v0, v1, v2], _ =>
        have g0 := hf 0 _ rfl
        have g1 := hf 1 _ rfl
        have g2 := hf 2 _ rfl
        have ci : Try.prog.cellsOf 3 = 1 := by kernel_rfl
        simp [ci] at g0 g1 g2
        obtain ⟨z0, e0, _, w0⟩ := DataW.trod_int Try.underlying3 g0
        obtain ⟨z1, e1, _, w1⟩ := DataW.trod_int Try.underlying3 g1
        obtain ⟨z2, e2, _, w2⟩ := DataW.trod_int Try.underlying3 g2
        simp at e0 e1 e2
        subst e0 e1 e2
        refine ⟨(z0, z1, z2), fun q u hu => ?_⟩
        have e0 := hc 0 (by omega)
        have e1 := hc 1 (by omega)
        have e2 := hc 2 (by omega)
        rw [add_add] at e0 e1 e2
        match q, hu with
        | 0, hu => rw [← hu]; exact e0
        | 1, hu => rw [← hu]; exact e1
        | 2, hu => rw [← hu]; exact e2
    obtain ⟨g, hg⟩ := choose_lt key
    refine ⟨some x, n, c, (List.range n).map g, rfl, ⟨by simp, fun hn => ?_⟩, hl, hm, fun h => by cases h⟩
    have h0 := hg 0 (by omega) 0 _ rfl
    obtain ⟨b, off, spot⟩ := x
    have hs : spot = none := by simpa [Addr.add] using World.cell?_spot h0
    subst hs
    refine ⟨b, off, rfl, ?_, fun i u hi => ?_⟩
    · rw [Addr.add_mid] at h0
      exact World.block_lt_of_cell? _ _ h0
    · obtain ⟨k, r, t, rfl, hr, ht, hu⟩ := tokRow_get _ i u hi
      have hkn : k < n := by
        have := (List.getElem?_eq_some_iff.1 ht).1
        simpa using this
      have htg : t = g k := by
        simp [hkn] at ht
        exact ht.symm
      subst htg
      have := hg k (by omega) r u hu
      rw [Addr.add_mid] at this
      exact this
/-- The slice at A, of n elements, holds the numbers l; its block lies below B. -/
def Ints (w : World) (B : Nat) (A : Option Addr) (n : Nat) (l : List Int) : Prop :=
  l.length = n ∧ (0 < n → ∃ b off, A = some ⟨b, off, none⟩ ∧ b < B ∧ ∀ i z, l[i]? = some z → w.cell? ⟨b, off + i, none⟩ = some (.int .i64 z))
theorem Ints.len {w : World} {B n : Nat} {A : Option Addr} {l : List Int} (h : Ints w B A n l) : l.length = n := h.1
theorem Ints.below {w w' : World} {B n : Nat} {A : Option Addr} {l : List Int} (h : Ints w B A n l) (hb : Below B w w') : Ints w' B A n l :=
  ⟨h.1, fun hn => by
    obtain ⟨b, off, e, hlt, hc⟩ := h.2 hn
    exact ⟨b, off, e, hlt, fun i z hi => (hb.cell (p := ⟨b, off + i, none⟩) hlt).trans (hc i z hi)⟩⟩
theorem Ints.pick {w : World} {B n k : Nat} {A : Option Addr} {l : List Int} (h : Ints w B A n l) (hk : k < n) : ∃ (b off : Nat) (z : Int), A = some ⟨b, off, none⟩ ∧ b < B ∧ w.cell? ⟨b, off + k, none⟩ = some (.int .i64 z) := by
  obtain ⟨b, off, e, hb, hc⟩ := h.2 (by omega)
  have hl : k < l.length := by rw [h.len]; exact hk
  exact ⟨b, off, l[k], e, hb, hc k _ (List.getElem?_eq_getElem hl)⟩
theorem open_i64s {P : Program} {t e : TypeId} {v : Value} {d : DataW H} {p : List MemPlace} (ht : P.underlying t = some (.slice e)) (he : P.underlying e = some (.int .i64)) (hce : P.cellsOf e = 1)
    (hv : Value.okWide P w r b0 t v) (h : DataW.Trod enc P w base spare held t v d p) : ∃ (A : Option Addr) (n c : Nat) (l : List Int), v = .slice A n c ∧ Ints w w.heap.size A n l ∧ n ≤ c ∧ c ≤ maxLen ∧ (A = none → n = 0 ∧ c = 0) := by
  obtain ⟨A, n, c, rfl⟩ := okWide_slice ht hv
  obtain ⟨fuel, hf⟩ := h
  rcases open_ints ht he hce hf with ⟨hcs, _⟩ | ⟨x, ln, cp, zs, hcs, _, hl, hm, hz, _, hcell, hwz⟩
  · simp [Value.cells] at hcs
    obtain ⟨rfl, rfl, rfl⟩ := hcs
    exact ⟨none, 0, 0, [], rfl, ⟨rfl, fun h => absurd h (by omega)⟩, Nat.le_refl _, Nat.zero_le _, fun _ => ⟨rfl, rfl⟩⟩
  · simp [Value.cells] at hcs
    obtain ⟨rfl, rfl, rfl⟩ := hcs
    have hzl : n ≤ zs.length := by rw [hz]; split <;> omega
    refine ⟨some x, n, c, zs.take n, rfl, ⟨by simp; omega, fun hn => ?_⟩, hl, hm, fun h => by cases h⟩
    have h0 := hcell 0 (by omega)
    obtain ⟨b, off, spot⟩ := x
    have hs : spot = none := by simpa [Addr.add] using World.cell?_spot h0
    subst hs
    refine ⟨b, off, rfl, ?_, fun i z hi => ?_⟩
    · rw [Addr.add_mid] at h0
      exact World.block_lt_of_cell? _ _ h0
    · have hin : i < n := by
        have := (List.getElem?_eq_some_iff.1 hi).1
        simp at this; omega
      have hc := hcell i (by omega)
      have e : (⟨b, off, none⟩ : Addr).add i = ⟨b, off + i, none⟩ := Addr.add_mid b off i
      rw [e] at hc
      rw [hc]
      rw [List.getElem?_take_of_lt hin] at hi
      rw [List.getD_eq_getElem?_getD, hi]
      rfl
end
end Go.Proofs.Ythoipfdapmjcfaa
