/- How a law's arguments are opened: numbers, arrays of eight, slices of bytes. -/
import Derived.Test.YtobbjhbjjhnicaaKeyCells
import Derived.Test.YtobbjhbjjhnicaaOf
import Derived.ProofKit
import Derived.OpenShut
import Derived.ShutString
import Derived.ChangeOld
import Derived.Below
namespace Go.Proofs.Ytobbjhbjjhnicaa
open Go.ChangeShapes Go.WideShapes Go.ChangeAt Go.RowKit
section
variable {H : Type} {enc : TypeId × Value → H} {P : Program} {w : World} {base b0 : Nat} {spare : Nat → Bool} {held : Bool} {r : Reach}
/-- An array of n integers by value: its cells. -/
theorem open_array_ints {t e : TypeId} {n : Nat} {k : IntKind} {v : Value} {d : DataW H} {p : List MemPlace} (ht : P.underlying t = some (.array n e)) (he : P.underlying e = some (.int k)) (hce : P.cellsOf e = 1) (hct : P.cellsOf t = n)
    (hv : Value.okWide P w r b0 t v) (h : DataW.Trod enc P w base spare held t v d p) :
    ∃ cs : Array Value, v = .agg cs ∧ cs.size = n ∧ ∀ i, i < n → ∃ z : Int, cs[i]? = some (.int k z) ∧ (Lit.int k z).wf = true := by
  obtain ⟨cs, rfl, hsz, _⟩ : ∃ cs, v = .agg cs ∧ cs.size = P.cellsOf t ∧ Row.okWide P w r b0 t cs := by
    simpa [Value.okWide, ht] using hv
  rw [hct] at hsz
  refine ⟨cs, rfl, hsz, fun i hi => ?_⟩
  obtain ⟨fuel, hf⟩ := h
  obtain ⟨xs, m, _, _, hlen, hxs, hg⟩ := DataW.trod_array ht hf
  have h1 := hg i hi
  rw [hce, Nat.mul_one] at h1
  have hi' : i < cs.size := by omega
  have hcl : (Value.agg cs).cells.toList = cs.toList := by simp [Value.cells]
  rw [hcl] at h1
  have e1 : (cs.toList.drop i).take 1 = [cs[i]] := by
    rw [List.drop_eq_getElem_cons (by simpa using hi')]
    simp
  rw [e1, List.getElem?_eq_getElem (by omega)] at h1
  obtain ⟨z, ez, _, wz⟩ := DataW.trod_int he h1
  refine ⟨z, ?_, wz⟩
  rw [Array.getElem?_eq_getElem hi']
  simp at ez
  rw [ez]
theorem cells8 (cs : Array Value) (h : cs.size = 8) (f : Nat → Value) (hf : ∀ i, i < 8 → cs[i]? = some (f i)) : cs = #[f 0, f 1, f 2, f 3, f 4, f 5, f 6, f 7] := by
  apply Array.ext
  · simpa using h
  · intro i h1 h2
    have h8 : i < 8 := by omega
    have := hf i h8
    rw [Array.getElem?_eq_getElem h1] at this
    injection this with this
    rw [this]
    match i, h8 with
    | 0, _ => rfl
    | 1, _ => rfl
    | 2, _ => rfl
    | 3, _ => rfl
    | 4, _ => rfl
    | 5, _ => rfl
    | 6, _ => rfl
    | 7, _ => rfl
theorem u8_of {z : Int} (h : (Lit.int .u8 z).wf = true) : ((UInt8.ofNat z.toNat).toNat : Int) = z := by
  have := bounds_u8 h
  rw [UInt8.toNat_ofNat']
  omega
theorem u32_of {z : Int} (h : (Lit.int .u32 z).wf = true) : W (UInt32.ofNat z.toNat) = z := by
  have := bounds_u32 h
  exact W_of z (by omega)
theorem open_b8 {t e : TypeId} {v : Value} {d : DataW H} {p : List MemPlace} (ht : P.underlying t = some (.array 8 e)) (he : P.underlying e = some (.int .u8)) (hce : P.cellsOf e = 1) (hct : P.cellsOf t = 8)
    (hv : Value.okWide P w r b0 t v) (h : DataW.Trod enc P w base spare held t v d p) : ∃ f : Nat → UInt8, v = .agg (byteCells f) := by
  obtain ⟨cs, rfl, hsz, hc⟩ := open_array_ints ht he hce hct hv h
  have hall : ∀ i, ∃ c : UInt8, i < 8 → cs[i]? = some (u8v c) := by
    intro i
    by_cases hi : i < 8
    · obtain ⟨z, h1, h2⟩ := hc i hi
      exact ⟨UInt8.ofNat z.toNat, fun _ => by rw [h1]; unfold u8v; rw [u8_of h2]⟩
    · exact ⟨0, fun h => absurd h hi⟩
  exact ⟨fun i => Classical.choose (hall i), congrArg Value.agg (cells8 cs hsz (fun i => u8v (Classical.choose (hall i))) (fun i hi => Classical.choose_spec (hall i) hi))⟩
theorem open_key {t e : TypeId} {v : Value} {d : DataW H} {p : List MemPlace} (ht : P.underlying t = some (.array 8 e)) (he : P.underlying e = some (.int .u32)) (hce : P.cellsOf e = 1) (hct : P.cellsOf t = 8)
    (hv : Value.okWide P w r b0 t v) (h : DataW.Trod enc P w base spare held t v d p) : ∃ k : PL.K8, v = .agg (keyCells k) := by
  obtain ⟨cs, rfl, hsz, hc⟩ := open_array_ints ht he hce hct hv h
  have hall : ∀ i, ∃ c : UInt32, i < 8 → cs[i]? = some (u32v c) := by
    intro i
    by_cases hi : i < 8
    · obtain ⟨z, h1, h2⟩ := hc i hi
      exact ⟨UInt32.ofNat z.toNat, fun _ => by rw [h1]; unfold u32v; rw [u32_of h2]⟩
    · exact ⟨0, fun h => absurd h hi⟩
  let g := fun i => Classical.choose (hall i)
  exact ⟨⟨g 0, g 1, g 2, g 3, g 4, g 5, g 6, g 7⟩, congrArg Value.agg (cells8 cs hsz (fun i => u32v (g i)) (fun i hi => Classical.choose_spec (hall i) hi))⟩
theorem open_bytes {t e : TypeId} {v : Value} {d : DataW H} {p : List MemPlace} (ht : P.underlying t = some (.slice e)) (he : P.underlying e = some (.int .u8)) (hce : P.cellsOf e = 1)
    (hv : Value.okWide P w r b0 t v) (h : DataW.Trod enc P w base spare held t v d p) : ∃ (A : Option Addr) (n c : Nat) (l : List UInt8), v = .slice A n c ∧ Bytes w w.heap.size A n l ∧ n ≤ c ∧ c ≤ maxLen ∧ (A = none → n = 0 ∧ c = 0) := by
  obtain ⟨A, n, c, rfl⟩ := okWide_slice ht hv
  obtain ⟨fuel, hf⟩ := h
  rcases open_ints ht he hce hf with ⟨hcs, _⟩ | ⟨x, ln, cp, zs, hcs, _, hl, hm, hz, _, hcell, hwz⟩
  · simp [Value.cells] at hcs
    obtain ⟨rfl, rfl, rfl⟩ := hcs
    exact ⟨none, 0, 0, [], rfl, Bytes.empty, Nat.le_refl _, Nat.zero_le _, fun _ => ⟨rfl, rfl⟩⟩
  · simp [Value.cells] at hcs
    obtain ⟨rfl, rfl, rfl⟩ := hcs
    have hzl : n ≤ zs.length := by rw [hz]; split <;> omega
    refine ⟨some x, n, c, (zs.take n).map fun z => UInt8.ofNat z.toNat, rfl, ⟨by simp; omega, fun hn => ?_⟩, hl, hm, fun h => by cases h⟩
    have h0 := hcell 0 (by omega)
    obtain ⟨b, off, spot⟩ := x
    have hs : spot = none := by simpa [Addr.add] using World.cell?_spot h0
    subst hs
    refine ⟨b, off, rfl, ?_, fun i q hi => ?_⟩
    · rw [Addr.add_mid] at h0
      exact World.block_lt_of_cell? _ _ h0
    · have hin : i < n := by
        have := (List.getElem?_eq_some_iff.1 hi).1
        simp at this; omega
      have hc := hcell i (by omega)
      have e : (⟨b, off, none⟩ : Addr).add i = ⟨b, off + i, none⟩ := Addr.add_mid b off i
      rw [e] at hc
      rw [hc]
      have hwi := hwz (zs.getD i 0) (by rw [List.getD_eq_getElem?_getD, List.getElem?_eq_getElem (by omega)]; exact List.getElem_mem _)
      have hq : q = UInt8.ofNat (zs.getD i 0).toNat := by
        simp only [List.getElem?_map, List.getElem?_take, if_pos hin, Option.map_eq_some_iff] at hi
        obtain ⟨z, hz1, rfl⟩ := hi
        rw [List.getD_eq_getElem?_getD, hz1]
        rfl
      unfold u8v
      rw [hq, u8_of hwi]
end
end Go.Proofs.Ytobbjhbjjhnicaa
