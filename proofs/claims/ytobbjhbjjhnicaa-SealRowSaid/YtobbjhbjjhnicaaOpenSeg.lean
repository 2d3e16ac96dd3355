/- A segment, and a slice of segments, as an argument. -/
import Derived.Test.YtobbjhbjjhnicaaOpen
import Derived.Test.YtobbjhbjjhnicaaSegs
import Derived.Test.YtobbjhbjjhnicaaProg
import Derived.Deep.SlicePairs
namespace Go.Proofs.Ytobbjhbjjhnicaa
open Go.ChangeShapes Go.WideShapes Go.ChangeAt Go.RowKit Go.Deep
set_option linter.unusedVariables false
instance : Inhabited SegV := ⟨⟨PS.zero, none, 0, 0⟩⟩
section
variable {H : Type} {enc : TypeId × Value → H} {w : World} {base b0 : Nat} {spare : Nat → Bool} {held : Bool} {r : Reach}
/-- A cell that reads as a slice of bytes. -/
theorem bytes_of_trod {v : Value} {fuel : Nat} {x : DataW H × List MemPlace} (hf : DataW.trod enc Try.prog w base spare held fuel 30 [v] = some x) :
    ∃ (A : Option Addr) (n c : Nat) (l : List UInt8), v = .slice A n c ∧ Bytes w w.heap.size A n l ∧ n ≤ c ∧ (A = none → c = 0) := by
  rcases open_ints Try.underlying30 Try.underlying5 (by kernel_rfl) hf with ⟨hcs, _⟩ | ⟨x, ln, cp, zs, hcs, _, hl, hm, hz, _, hcell, hwz⟩
  · simp at hcs
    subst hcs
    exact ⟨none, 0, 0, [], rfl, Bytes.empty, Nat.le_refl _, fun _ => rfl⟩
  · simp at hcs
    subst hcs
    have hzl : ln ≤ zs.length := by rw [hz]; split <;> omega
    refine ⟨some x, ln, cp, (zs.take ln).map fun z => UInt8.ofNat z.toNat, rfl, ⟨by simp; omega, fun hn => ?_⟩, hl, fun h => by cases h⟩
    have h0 := hcell 0 (by omega)
    obtain ⟨b, off, spot⟩ := x
    have hs : spot = none := by simpa [Addr.add] using World.cell?_spot h0
    subst hs
    refine ⟨b, off, rfl, ?_, fun i q hi => ?_⟩
    · rw [Addr.add_mid] at h0
      exact World.block_lt_of_cell? _ _ h0
    · have hin : i < ln := by
        have := (List.getElem?_eq_some_iff.1 hi).1
        simp at this; omega
      have hc := hcell i (by omega)
      rw [Addr.add_mid b off i] at hc
      rw [hc]
      have hwi := hwz (zs.getD i 0) (by rw [List.getD_eq_getElem?_getD, List.getElem?_eq_getElem (by omega)]; exact List.getElem_mem _)
      have hq : q = UInt8.ofNat (zs.getD i 0).toNat := by
        simp only [List.getElem?_map, List.getElem?_take, if_pos hin, Option.map_eq_some_iff] at hi
        obtain ⟨z, hz1, rfl⟩ := hi
        rw [List.getD_eq_getElem?_getD, hz1]
        rfl
      unfold u8v
      rw [hq, u8_of hwi]
/-- Four cells that read as a segment. -/
theorem seg_of_trod {cs : List Value} {fuel : Nat} {x : DataW H × List MemPlace} (hlen : cs.length = 4) (hf : DataW.trod enc Try.prog w base spare held fuel 50 cs = some x) :
    ∃ s : SegV, cs = (segCells s).toList ∧ Bytes w w.heap.size s.A s.n s.seg.body ∧ s.n ≤ s.c ∧ (s.A = none → s.c = 0) := by
  obtain ⟨xs, k', hk, hxy, _, hxl, hf⟩ := DataW.trod_struct Try.underlying50 hf
  match xs, hxl, cs, hlen with
  | [y0, y1, y2, y3], _, [v0, v1, v2, v3], _ =>
    have g0 := hf 0 _ rfl
    have g1 := hf 1 _ rfl
    have g2 := hf 2 _ rfl
    have g3 := hf 3 _ rfl
    have ci : Try.prog.cellsOf 3 = 1 := by kernel_rfl
    have cb : Try.prog.cellsOf 4 = 1 := by kernel_rfl
    have cl : Try.prog.cellsOf 30 = 1 := by kernel_rfl
    simp [ci, cb, cl] at g0 g1 g2 g3
    obtain ⟨z0, e0, _, w0⟩ := DataW.trod_int Try.underlying3 g0
    obtain ⟨z1, e1, _, w1⟩ := DataW.trod_int Try.underlying3 g1
    obtain ⟨z2, e2, _⟩ := DataW.trod_bool Try.underlying4 g2
    obtain ⟨A, n, c, l, e3, hb, hc, hz⟩ := bytes_of_trod g3
    simp at e0 e1 e2
    subst e0 e1 e2 e3
    exact ⟨⟨⟨z0, z1, z2, l⟩, A, n, c⟩, rfl, hb, hc, hz⟩
theorem open_seg {v : Value} {d : DataW H} {p : List MemPlace} (hv : Value.okWide Try.prog w r b0 50 v) (h : DataW.Trod enc Try.prog w base spare held 50 v d p) :
    ∃ s : SegV, v = .agg (segCells s) ∧ Bytes w w.heap.size s.A s.n s.seg.body ∧ s.n ≤ s.c ∧ (s.A = none → s.c = 0) := by
  obtain ⟨cs, rfl, hsz, _⟩ : ∃ cs, v = .agg cs ∧ cs.size = Try.prog.cellsOf 50 ∧ Row.okWide Try.prog w r b0 50 cs := by
    simpa [Value.okWide, Try.underlying50] using hv
  have hcs : Try.prog.cellsOf 50 = 4 := by kernel_rfl
  rw [hcs] at hsz
  obtain ⟨fuel, hf⟩ := h
  have hcl : (Value.agg cs).cells.toList = cs.toList := by simp [Value.cells]
  rw [hcl] at hf
  obtain ⟨s, h1, h2⟩ := seg_of_trod (by rw [Array.length_toList]; exact hsz) hf
  refine ⟨s, ?_, h2⟩
  rw [show cs = segCells s from Array.toList_inj.1 h1]
theorem open_segs {v : Value} {d : DataW H} {p : List MemPlace} (hv : Value.okWide Try.prog w r b0 43 v) (h : DataW.Trod enc Try.prog w base spare held 43 v d p) :
    ∃ (A : Option Addr) (n c : Nat) (l : List SegV), v = .slice A n c ∧ Segs w w.heap.size A n l ∧ Bodies w w.heap.size l ∧ n ≤ c ∧ c ≤ maxLen ∧ (A = none → n = 0 ∧ c = 0) := by
  obtain ⟨A, n, c, rfl⟩ := okWide_slice Try.underlying43 hv
  obtain ⟨fuel, hf⟩ := h
  rcases open_slice Try.underlying43 hf with ⟨hcs, _⟩ | ⟨x, ln, cp, m, k, D, Pl, hcs, _, hl, hm, hmm, _, hcell⟩
  · simp [Value.cells] at hcs
    obtain ⟨rfl, rfl, rfl⟩ := hcs
    exact ⟨none, 0, 0, [], rfl, ⟨rfl, fun h => absurd h (by omega)⟩, Bodies.nil, Nat.le_refl _, Nat.zero_le _, fun _ => ⟨rfl, rfl⟩⟩
  · simp [Value.cells] at hcs
    obtain ⟨rfl, rfl, rfl⟩ := hcs
    have hnm : n ≤ m := by rw [hmm]; split <;> omega
    have ce : Try.prog.cellsOf 50 = 4 := by kernel_rfl
    have key : ∀ i, i < m → ∃ s : SegV, (∀ q u, (segCells s)[q]? = some u → w.cell? (x.add (i * 4 + q)) = some u) ∧ Bytes w w.heap.size s.A s.n s.seg.body ∧ s.n ≤ s.c ∧ (s.A = none → s.c = 0) := by
      intro i hi
      obtain ⟨cs', h1, h2⟩ := hcell i hi
      rw [ce] at h1
      obtain ⟨_, hlen, hc⟩ := World.cells?_some h1
      obtain ⟨s, e, hs⟩ := seg_of_trod hlen h2
      refine ⟨s, fun q u hu => ?_, hs⟩
      have hq : q < 4 := by simpa using (Array.getElem?_eq_some_iff.1 hu).1
      have := hc q hq
      rw [add_add] at this
      rw [this, e, Array.getElem?_toList, hu]
    obtain ⟨g, hg⟩ := choose_lt key
    refine ⟨some x, n, c, (List.range n).map g, rfl, ⟨by simp, fun hn => ?_⟩, ?_, hl, hm, fun h => by cases h⟩
    · have h0 := (hg 0 (by omega)).1 0 _ rfl
      obtain ⟨b, off, spot⟩ := x
      have hs : spot = none := by simpa [Addr.add] using World.cell?_spot h0
      subst hs
      refine ⟨b, off, rfl, ?_, fun i u hi => ?_⟩
      · rw [Addr.add_mid] at h0
        exact World.block_lt_of_cell? _ _ h0
      · obtain ⟨k, r, t, rfl, hr, ht, hu⟩ := segRow_get _ i u hi
        have hkn : k < n := by
          have := (List.getElem?_eq_some_iff.1 ht).1
          simpa using this
        have htg : t = g k := by
          simp [hkn] at ht
          exact ht.symm
        subst htg
        have := (hg k (by omega)).1 r u hu
        rw [Addr.add_mid] at this
        exact this
    · intro s hs
      obtain ⟨i, hi, rfl⟩ := List.mem_map.1 hs
      exact (hg i (by have := List.mem_range.1 hi; omega)).2
end
end Go.Proofs.Ytobbjhbjjhnicaa
