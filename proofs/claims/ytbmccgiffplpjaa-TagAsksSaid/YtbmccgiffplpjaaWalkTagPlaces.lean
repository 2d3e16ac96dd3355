/- The walk of TagPlaces: only the lowest 32 bits of the place matter. -/
import Derived.Test.YtbmccgiffplpjaaTold15
namespace Go.Proofs.Ytbmccgiffplpjaa
open Go.RowKit
set_option linter.unusedVariables false
theorem and_low32 (p : Int) (_h : -9223372036854775808 ≤ p ∧ p ≤ 9223372036854775807) : bits .and .i64 p 4294967295 = p % 4294967296 := by
  show IntKind.i64.wrap ((BitVec.ofInt 64 p &&& BitVec.ofInt 64 4294967295).toNat : Int) = _
  have e : (BitVec.ofInt 64 4294967295).toNat = 2 ^ 32 - 1 := by decide
  rw [BitVec.toNat_and, e, Nat.and_two_pow_sub_one_eq_mod, BitVec.toNat_ofInt, IntKind.wrap_i64]
  omega
theorem placeWord_low (p : Int) : placeWord (p % 4294967296) = placeWord p := by
  unfold placeWord
  rw [Int.emod_emod_of_dvd _ (Int.dvd_refl _)]
theorem tagOf_low (k : PL.K8) (p : Int) (l : List UInt8) : tagOf k (p % 4294967296) l = tagOf k p l := by
  unfold tagOf tagSums
  rw [placeWord_low]
theorem walk_load_key {w' : World} {H t : Nat} {k : PL.K8} (h : Blk w' H t (keyCells k)) : w'.cell? ⟨H, 0, none⟩ = some (u32v k.k0) ∧ w'.cell? ⟨H, 1, none⟩ = some (u32v k.k1) ∧ w'.cell? ⟨H, 2, none⟩ = some (u32v k.k2) ∧ w'.cell? ⟨H, 3, none⟩ = some (u32v k.k3) ∧
    w'.cell? ⟨H, 4, none⟩ = some (u32v k.k4) ∧ w'.cell? ⟨H, 5, none⟩ = some (u32v k.k5) ∧ w'.cell? ⟨H, 6, none⟩ = some (u32v k.k6) ∧ w'.cell? ⟨H, 7, none⟩ = some (u32v k.k7) :=
  ⟨h.cell 0, h.cell 1, h.cell 2, h.cell 3, h.cell 4, h.cell 5, h.cell 6, h.cell 7⟩
set_option maxRecDepth 100000 in
set_option maxHeartbeats 4000000 in
theorem walkTagPlaces (k : PL.K8) (p : Int) (A : Option Addr) (n c : Nat) (l : List UInt8) (w : World) (hp : (Lit.int .i64 p).wf = true) (hb : Bytes w w.heap.size A n l) (hc : n ≤ c) (hm : c ≤ maxLen) (hz : A = none → n = 0 ∧ c = 0) :
    Calls Try.prog 7 #[.agg (keyCells k), .int .i64 p, .slice A n c] w fun e w' => e = .returned (.bool true) ∧ Below w.heap.size w w' := by
  have hpb := bounds_i64 hp
  have HB := Lib.hid hb
  clear hp hb hz
  unfold maxLen at hm
  have hb1 : Below w.heap.size w (w.alloc (Obj.cells (keyCells k) 23)) := (Below.refl _ _).alloc (Nat.le_refl _) _
  by_cases hlt : 100 < n
  · go_enter Try.func7, Try.ntmps7
    go_wp2_with (go_at_call 12; refine (told15 _).mono ?_; rintro e w2 ⟨rfl, hb2⟩)
    go_ret
    exact ⟨rfl, hb1.trans (hb2.mono hb1.size)⟩
  · go_enter Try.func7, Try.ntmps7
    go_wp2
    have HK1 := Lib.hid (Blk.new w 23 (keyCells k))
    have HB1 := Lib.hid (HB.out.alloc (Nat.le_refl _) (Obj.cells (keyCells k) 23))
    refine wp_region_seq (fun w' => Blk w' w.heap.size 23 (keyCells k) ∧ Bytes w' w.heap.size A n l) [(true, 0), (true, 1), (false, 2), (false, 3), (false, 4), (false, 6), (false, 7), (false, 8), (false, 9), (true, 5), (true, 10), (true, 11), (true, 12), (true, 13)]
      (by kernel_rfl) (by kernel_rfl) (fun _ _ d _ _ h => by cases d <;> exact h) ⟨HK1.out, HB1.out⟩ ?_
    have HK := Lib.hid HK1.out.drew
    have HBy := Lib.hid HB1.out.drew
    have hb0 := hb1.drew
    clear HK1 HB1 hb1
    generalize (w.alloc (Obj.cells (keyCells k) 23)).drew = w1 at *
    have ea := and_low32 p hpb
    refine plan_force rfl rfl (fun K hK => ?_)
    go_wp2_with (go_at_call 12; refine (told15 _).mono ?_; rintro e w2 ⟨rfl, hb2⟩)
    have HK2 := Lib.hid (HK.out.below hb2 HK.out.lt)
    have HB2 := Lib.hid (HBy.out.below (hb2.mono hb0.size))
    have hbb2 := hb0.trans (hb2.mono hb0.size)
    clear HK HBy hb0 hb2
    refine hK.out _ _ ⟨HK2.out, HB2.out⟩ ?_; clear hK K
    refine plan_force rfl rfl (fun K hK => ?_); go_wp2; refine hK.out _ _ ⟨HK2.out, HB2.out⟩ ?_; clear hK K
    iterate 7 (apply plan_take rfl rfl rfl rfl; (rintro w' ⟨hS, hT⟩ K hK; obtain ⟨c0, c1, c2, c3, c4, c5, c6, c7⟩ := walk_load_key hS; clear hS hT; go_simp; exact hK))
    refine plan_force rfl rfl (fun K hK => ?_)
    go_wp2_with fail
    refine (of_any k p A n c w.heap.size l _ HB2.out hbb2.size (by omega)).mono ?_
    rintro e w3 ⟨rfl, hb3⟩
    have HK3 := Lib.hid (HK2.out.below hb3 HK2.out.lt)
    have HB3 := Lib.hid (HB2.out.below (hb3.mono hbb2.size))
    have hbb3 := hbb2.trans (hb3.mono hbb2.size)
    clear HK2 HB2 hbb2 hb3
    go_wp2
    refine hK.out _ _ ⟨HK3.out, HB3.out⟩ ?_; clear hK K
    refine plan_force rfl rfl (fun K hK => ?_)
    go_wp2_with fail
    refine (of_any k (p % 4294967296) A n c w.heap.size l _ HB3.out hbb3.size (by omega)).mono ?_
    rw [tagOf_low]
    rintro e w4 ⟨rfl, hb4⟩
    have HK4 := Lib.hid (HK3.out.below hb4 HK3.out.lt)
    have HB4 := Lib.hid (HB3.out.below (hb4.mono hbb3.size))
    have hbb4 := hbb3.trans (hb4.mono hbb3.size)
    clear HK3 HB3 hbb3 hb4
    go_wp2
    refine hK.out _ _ ⟨HK4.out, HB4.out⟩ ?_; clear hK K
    refine plan_force rfl rfl (fun K hK => ?_)
    go_wp2_with fail
    refine (same_self _ _).mono ?_
    rintro e w5 ⟨rfl, hb5⟩
    have HK5 := Lib.hid (HK4.out.below hb5 HK4.out.lt)
    have HB5 := Lib.hid (HB4.out.below (hb5.mono hbb4.size))
    have hbb5 := hbb4.trans (hb5.mono hbb4.size)
    clear HK4 HB4 hbb4 hb5
    go_wp2
    refine hK.out _ _ ⟨HK5.out, HB5.out⟩ ?_; clear hK K
    iterate 2 (refine plan_force rfl rfl (fun K hK => ?_); go_wp2; refine hK.out _ _ ⟨HK5.out, HB5.out⟩ ?_; clear hK K)
    refine plan_nil ?_
    go_wp2
    go_ret
    exact ⟨rfl, hbb5⟩
end Go.Proofs.Ytbmccgiffplpjaa
