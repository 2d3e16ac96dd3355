/- How a law's arguments are opened: slices of bytes, of words of 64 bits. -/
import Derived.Test.YthoipfdapmjcfaaWords
import Derived.ProofKit
import Derived.OpenShut
import Derived.ShutString
import Derived.ChangeOld
import Derived.Below
namespace Go.Proofs.Ythoipfdapmjcfaa
open Go.ChangeShapes Go.WideShapes Go.ChangeAt Go.RowKit
/-- A word of 64 bits as the machine holds it. -/
abbrev u64v (c : Nat) : Value := .int .u64 (c : Int)
/-- The slice at A, of n elements, holds the words l, each below 2^64; its block lies below B. -/
def Nats (w : World) (B : Nat) (A : Option Addr) (n : Nat) (l : List Nat) : Prop :=
  (l.length = n ∧ ∀ x ∈ l, x < 18446744073709551616) ∧ (0 < n → ∃ b off, A = some ⟨b, off, none⟩ ∧ b < B ∧ ∀ i c, l[i]? = some c → w.cell? ⟨b, off + i, none⟩ = some (u64v c))
theorem Nats.empty {w : World} {B : Nat} {A : Option Addr} : Nats w B A 0 [] := ⟨⟨rfl, fun _ h => by cases h⟩, fun h => absurd h (by omega)⟩
theorem Nats.len {w : World} {B n : Nat} {A : Option Addr} {l : List Nat} (h : Nats w B A n l) : l.length = n := h.1.1
theorem Nats.below {w w' : World} {B n : Nat} {A : Option Addr} {l : List Nat} (h : Nats w B A n l) (hb : Below B w w') : Nats w' B A n l :=
  ⟨h.1, fun hn => by
    obtain ⟨b, off, e, hlt, hc⟩ := h.2 hn
    exact ⟨b, off, e, hlt, fun i c hi => (hb.cell (p := ⟨b, off + i, none⟩) hlt).trans (hc i c hi)⟩⟩
theorem Nats.at_ {w : World} {B n k : Nat} {A : Option Addr} {l : List Nat} (h : Nats w B A n l) (hk : k < n) :
    ∃ (b off : Nat) (hl : k < l.length), A = some ⟨b, off, none⟩ ∧ l[k] < 18446744073709551616 ∧ w.cell? ⟨b, off + k, none⟩ = some (.int .u64 (l[k] : Int)) := by
  obtain ⟨b, off, e, hb, hc⟩ := h.2 (by omega)
  have hl : k < l.length := by rw [h.len]; exact hk
  exact ⟨b, off, hl, e, h.1.2 _ (List.getElem_mem hl), hc k _ (List.getElem?_eq_getElem hl)⟩
section
variable {H : Type} {enc : TypeId × Value → H} {P : Program} {w : World} {base b0 : Nat} {spare : Nat → Bool} {held : Bool} {r : Reach}
theorem u8_of {z : Int} (h : (Lit.int .u8 z).wf = true) : ((UInt8.ofNat z.toNat).toNat : Int) = z := by
  have := bounds_u8 h
  rw [UInt8.toNat_ofNat']
  omega
theorem u64_of {z : Int} (h : (Lit.int .u64 z).wf = true) : ((z.toNat : Nat) : Int) = z := by
  have := bounds_u64 h
  omega
theorem open_bytes {t e : TypeId} {v : Value} {d : DataW H} {p : List MemPlace} (ht : P.underlying t = some (.slice e)) (he : P.underlying e = some (.int .u8)) (hce : P.cellsOf e = 1)
    (hv : Value.okWide P w r b0 t v) (h : DataW.Trod enc P w base spare held t v d p) : ∃ (A : Option Addr) (n c : Nat) (l : List UInt8), v = .slice A n c ∧ Bytes w w.heap.size A n l ∧ n ≤ c ∧ c ≤ maxLen ∧ (A = none → n = 0 ∧ c = 0) := by
  obtain ⟨A, n, c, rfl⟩ := okWide_slice ht hv
  obtain ⟨fuel, hf⟩ := h
  rcases open_ints ht he hce hf with ⟨hcs, _⟩ | ⟨x, ln, cp, zs, hcs, _, hl, hm, hz, _, hcell, hwz⟩
  · simp [Value.cells] at hcs
    obtain ⟨rfl, rfl, rfl⟩ := hcs
    exact ⟨none, 0, 0, [], rfl, Bytes.empty, Nat.le_refl _, Nat.zero_le _, fun _ => ⟨rfl, rfl⟩⟩
  · simp [Value.cells] at hcs
    obtain ⟨rfl, rfl, rfl⟩ := hcs
    have hzl : n ≤ zs.length := by rw [hz]; split <;> omega
    refine ⟨some x, n, c, (zs.take n).map fun z => UInt8.ofNat z.toNat, rfl, ⟨by simp; omega, fun hn => ?_⟩, hl, hm, fun h => by cases h⟩
    have h0 := hcell 0 (by omega)
    obtain ⟨b, off, spot⟩ := x
    have hs : spot = none := by simpa [Addr.add] using World.cell?_spot h0
    subst hs
    refine ⟨b, off, rfl, ?_, fun i q hi => ?_⟩
    · rw [Addr.add_mid] at h0
      exact World.block_lt_of_cell? _ _ h0
    · have hin : i < n := by
        have := (List.getElem?_eq_some_iff.1 hi).1
        simp at this; omega
      have hc := hcell i (by omega)
      have e : (⟨b, off, none⟩ : Addr).add i = ⟨b, off + i, none⟩ := Addr.add_mid b off i
      rw [e] at hc
      rw [hc]
      have hwi := hwz (zs.getD i 0) (by rw [List.getD_eq_getElem?_getD, List.getElem?_eq_getElem (by omega)]; exact List.getElem_mem _)
      have hq : q = UInt8.ofNat (zs.getD i 0).toNat := by
        simp only [List.getElem?_map, List.getElem?_take, if_pos hin, Option.map_eq_some_iff] at hi
        obtain ⟨z, hz1, rfl⟩ := hi
        rw [List.getD_eq_getElem?_getD, hz1]
        rfl
      unfold u8v
      rw [hq, u8_of hwi]
theorem open_u64s {t e : TypeId} {v : Value} {d : DataW H} {p : List MemPlace} (ht : P.underlying t = some (.slice e)) (he : P.underlying e = some (.int .u64)) (hce : P.cellsOf e = 1)
    (hv : Value.okWide P w r b0 t v) (h : DataW.Trod enc P w base spare held t v d p) : ∃ (A : Option Addr) (n c : Nat) (l : List Nat), v = .slice A n c ∧ Nats w w.heap.size A n l ∧ n ≤ c ∧ c ≤ maxLen ∧ (A = none → n = 0 ∧ c = 0) := by
  obtain ⟨A, n, c, rfl⟩ := okWide_slice ht hv
  obtain ⟨fuel, hf⟩ := h
  rcases open_ints ht he hce hf with ⟨hcs, _⟩ | ⟨x, ln, cp, zs, hcs, _, hl, hm, hz, _, hcell, hwz⟩
  · simp [Value.cells] at hcs
    obtain ⟨rfl, rfl, rfl⟩ := hcs
    exact ⟨none, 0, 0, [], rfl, Nats.empty, Nat.le_refl _, Nat.zero_le _, fun _ => ⟨rfl, rfl⟩⟩
  · simp [Value.cells] at hcs
    obtain ⟨rfl, rfl, rfl⟩ := hcs
    have hzl : n ≤ zs.length := by rw [hz]; split <;> omega
    refine ⟨some x, n, c, (zs.take n).map fun z => z.toNat, rfl, ⟨⟨by simp; omega, fun y hy => by obtain ⟨z, hz1, rfl⟩ := List.mem_map.1 hy; have := bounds_u64 (hwz z (List.mem_of_mem_take hz1)); omega⟩, fun hn => ?_⟩, hl, hm, fun h => by cases h⟩
    have h0 := hcell 0 (by omega)
    obtain ⟨b, off, spot⟩ := x
    have hs : spot = none := by simpa [Addr.add] using World.cell?_spot h0
    subst hs
    refine ⟨b, off, rfl, ?_, fun i q hi => ?_⟩
    · rw [Addr.add_mid] at h0
      exact World.block_lt_of_cell? _ _ h0
    · have hin : i < n := by
        have := (List.getElem?_eq_some_iff.1 hi).1
        simp at this; omega
      have hc := hcell i (by omega)
      have e : (⟨b, off, none⟩ : Addr).add i = ⟨b, off + i, none⟩ := Addr.add_mid b off i
      rw [e] at hc
      rw [hc]
      have hwi := hwz (zs.getD i 0) (by rw [List.getD_eq_getElem?_getD, List.getElem?_eq_getElem (by omega)]; exact List.getElem_mem _)
      have hq : q = (zs.getD i 0).toNat := by
        simp only [List.getElem?_map, List.getElem?_take, if_pos hin, Option.map_eq_some_iff] at hi
        obtain ⟨z, hz1, rfl⟩ := hi
        rw [List.getD_eq_getElem?_getD, hz1]
        rfl
      unfold u64v
      rw [hq, u64_of hwi]
end
end Go.Proofs.Ythoipfdapmjcfaa
