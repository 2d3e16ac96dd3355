/- The walk of LaneParts: a longer stream begins with a shorter one; only the lowest 32 bits of the place matter. -/
import Derived.Test.YtobbjhbjjhnicaaTold14
namespace Go.Proofs.Ytobbjhbjjhnicaa
open Go.RowKit
set_option linter.unusedVariables false
namespace LP
theorem and_low32 (p : Int) (_h : -9223372036854775808 ≤ p ∧ p ≤ 9223372036854775807) : bits .and .i64 p 4294967295 = p % 4294967296 := by
  show IntKind.i64.wrap ((BitVec.ofInt 64 p &&& BitVec.ofInt 64 4294967295).toNat : Int) = _
  have e : (BitVec.ofInt 64 4294967295).toNat = 2 ^ 32 - 1 := by decide
  rw [BitVec.toNat_and, e, Nat.and_two_pow_sub_one_eq_mod, BitVec.toNat_ofInt, IntKind.wrap_i64]
  omega
theorem place_mod (p : Int) : placeWord (p % 4294967296) = placeWord p := by
  unfold placeWord
  rw [Int.emod_emod_of_dvd p (Int.dvd_refl _)]
end LP
set_option maxRecDepth 100000 in
set_option maxHeartbeats 4000000 in
theorem laneParts1 (k : PL.K8) (p a b : Int) (x y : Nat) (w : World) (hp : -9223372036854775808 ≤ p ∧ p ≤ 9223372036854775807) (hx : x ≤ 200) (hy : y ≤ 200) (hxy : x ≤ y) (ha : IntKind.u64.wrap a % 201 = (x : Int)) (hb : IntKind.u64.wrap b % 201 = (y : Int)) :
    Calls Try.prog 6 #[.agg (keyCells k), .int .i64 p, .int .i64 a, .int .i64 b] w fun e w' => e = .returned (.bool true) ∧ Below w.heap.size w w' := by
  have ha2 : (IntKind.u64.wrap a).tmod 201 = (x : Int) := by rw [Int.tmod_eq_emod_of_nonneg (wrap_u64_nonneg a), ha]
  have hb2 : (IntKind.u64.wrap b).tmod 201 = (y : Int) := by rw [Int.tmod_eq_emod_of_nonneg (wrap_u64_nonneg b), hb]
  have ea := LP.and_low32 p hp
  obtain ⟨P, hP⟩ : ∃ P, P = p % 4294967296 := ⟨_, rfl⟩
  have hPp : placeWord P = placeWord p := by rw [hP]; exact LP.place_mod p
  rw [← hP] at ea
  have HPp := Lib.hid hPp
  clear hPp hP
  have hlt : decide ((y : Int) < (x : Int)) = false := by simp; omega
  have HK : Hid (Blk (w.alloc (Obj.cells (keyCells k) 29)) w.heap.size 29 (keyCells k)) := Blk.new _ _ _
  have hW : Below w.heap.size w (w.alloc (Obj.cells (keyCells k) 29)) := (Below.refl _ _).alloc (Nat.le_refl _) _
  go_enter Try.func6, Try.ntmps6
  go_wp2
  generalize w.alloc (Obj.cells (keyCells k) 29) = wR at *
  have hle := hW.size
  refine wp_region_seq (fun w' => Below wR.heap.size wR w') [(false, 0), (false, 1), (false, 2), (false, 4), (false, 5), (false, 6), (true, 3), (true, 7), (true, 8), (true, 9)]
    (by kernel_rfl) (by kernel_rfl) (fun _ _ d _ _ h => by cases d <;> exact h) (Below.refl _ _).drew ?_
  have hS0 : Below wR.heap.size wR wR.drew := (Below.refl _ _).drew
  generalize wR.drew = w1 at *
  iterate 6 (apply plan_take rfl rfl rfl rfl; (intro w' hS K hK; obtain ⟨c0, c1, c2, c3, c4, c5, c6, c7⟩ := key_loads (HK.out.below hS HK.out.lt); clear hS; go_simp; exact hK))
  refine plan_force rfl rfl (fun K hK => ?_)
  go_wp2_with fail
  refine (stream_any k p x _ (by omega)).mono ?_
  rintro e w2 ⟨g2, rfl, hg2, hL2, hb2⟩
  have hS2 := hS0.trans (hb2.mono hS0.size)
  have HL2 := Lib.hid hL2
  clear hS0 hb2 hL2
  go_wp2
  refine hK.out _ _ hS2 ?_; clear hK K
  refine plan_force rfl rfl (fun K hK => ?_)
  go_wp2_with fail
  refine (stream_any k p y _ (by omega)).mono ?_
  rintro e w3 ⟨g3, rfl, hg3, hL3, hb3⟩
  have hS3 := hS2.trans (hb3.mono hS2.size)
  have HL3 := Lib.hid hL3
  have HL2 := Lib.hid (HL2.out.below hb3 HL2.out.lt)
  clear hS2 hb3 hL3
  go_wp2
  refine hK.out _ _ hS3 ?_; clear hK K
  iterate 2 (refine plan_force rfl rfl (fun K hK => ?_); go_wp2; refine hK.out _ _ hS3 ?_; clear hK K)
  refine plan_nil ?_
  obtain ⟨c0, c1, c2, c3, c4, c5, c6, c7⟩ := key_loads (HK.out.below hS3 HK.out.lt)
  go_wp2_with fail
  refine (stream_any k P y _ (by omega)).mono ?_
  rw [HPp.out]
  rintro e w4 ⟨g4, rfl, hg4, hL4, hb4⟩
  have hS4 := hS3.trans (hb4.mono hS3.size)
  have HL4 := Lib.hid hL4
  have HL3 := Lib.hid (HL3.out.below hb4 HL3.out.lt)
  have HL2 := Lib.hid (HL2.out.below hb4 HL2.out.lt)
  clear hS3 hb4 hL4 c0 c1 c2 c3 c4 c5 c6 c7
  go_wp2
  clear hg2 hg3 hg4
  have HW4 : Hid (Below w.heap.size w w4) := hW.trans (hS4.mono hle)
  clear hS4 hW HK
  refine wp_region_seq (fun w' => Below w4.heap.size w4 w') [(true, 0), (true, 1), (false, 2), (false, 3), (false, 4), (true, 5), (true, 6), (true, 7), (true, 8), (true, 9), (true, 10), (false, 11), (false, 12), (true, 13), (true, 14), (true, 15), (true, 16), (true, 17)]
    (by kernel_rfl) (by kernel_rfl) (fun _ _ d _ _ h => by cases d <;> exact h) (Below.refl _ _).drew ?_
  have hT0 : Below w4.heap.size w4 w4.drew := (Below.refl _ _).drew
  generalize w4.drew = w5 at *
  refine plan_force rfl rfl (fun K hK => ?_)
  go_wp2_with fail
  refine (told14 _).mono ?_
  rintro e w6 ⟨rfl, hb6⟩
  have hT := hT0.trans (hb6.mono hT0.size)
  clear hT0 hb6
  go_wp2
  refine hK.out _ _ hT ?_; clear hK K
  refine plan_force rfl rfl (fun K hK => ?_); go_wp2; refine hK.out _ _ hT ?_; clear hK K
  have HC2 : Hid (∀ w', Below w4.heap.size w4 w' → (convert 30 9 (.slice (some ⟨g2, 0, none⟩) x x)).run Try.prog w' = .ok (.string ⟨(PL.stream k (placeWord p) x).toArray⟩) w') := fun w' hS => conv_bytes conv_u8 _ ((HL2.out.below hS HL2.out.lt).bytes (PL.stream_len _ _ _) (HL2.out.below hS HL2.out.lt).lt)
  have HC4 : Hid (∀ w', Below w4.heap.size w4 w' → (convert 30 9 (.slice (some ⟨g4, 0, none⟩) y y)).run Try.prog w' = .ok (.string ⟨(PL.stream k (placeWord p) y).toArray⟩) w') := fun w' hS => conv_bytes conv_u8 _ ((HL4.out.below hS HL4.out.lt).bytes (PL.stream_len _ _ _) (HL4.out.below hS HL4.out.lt).lt)
  have HC3 : Hid (∀ w', Below w4.heap.size w4 w' → (convert 30 9 (.slice (some ⟨g3, 0, none⟩) y y)).run Try.prog w' = .ok (.string ⟨(PL.stream k (placeWord p) y).toArray⟩) w') := fun w' hS => conv_bytes conv_u8 _ ((HL3.out.below hS HL3.out.lt).bytes (PL.stream_len _ _ _) (HL3.out.below hS HL3.out.lt).lt)
  have HC5 : Hid (∀ w', Below w4.heap.size w4 w' → (convert 30 9 (.slice (some ⟨g3, 0, none⟩) x y)).run Try.prog w' = .ok (.string ⟨(PL.stream k (placeWord p) x).toArray⟩) w') := fun w' hS => by
    have h := (HL3.out.below hS HL3.out.lt).take x
    rw [PL.stream_take _ _ (by omega)] at h
    exact conv_bytes conv_u8 _ (h.bytes (PL.stream_len _ _ _) h.lt)
  have Hfr := Lib.hid (fun w' => run_front (P := Try.prog) row_u8 (some ⟨g3, 0, none⟩) y y x (by omega) w')
  clear HL2 HL3 HL4
  iterate 3 (apply plan_take rfl rfl rfl rfl; (intro w' hS K hK; have hcv := HC2.out w' hS; clear hS; go_simp; exact hK))
  refine plan_force rfl rfl (fun K hK => ?_); go_wp2; refine hK.out _ _ hT ?_; clear hK K
  refine plan_force rfl rfl (fun K hK => ?_); (have hf := Hfr.out w6; go_wp2); refine hK.out _ _ hT ?_; clear hK K Hfr
  refine plan_force rfl rfl (fun K hK => ?_); (have hcv := HC5.out w6 hT; go_wp2); refine hK.out _ _ hT ?_; clear hK K
  iterate 3 (refine plan_force rfl rfl (fun K hK => ?_); go_wp2; refine hK.out _ _ hT ?_; clear hK K)
  iterate 2 (apply plan_take rfl rfl rfl rfl; (intro w' hS K hK; have hcv := HC4.out w' hS; clear hS; go_simp; exact hK))
  refine plan_force rfl rfl (fun K hK => ?_); go_wp2; refine hK.out _ _ hT ?_; clear hK K
  refine plan_force rfl rfl (fun K hK => ?_); (have hcv := HC3.out w6 hT; go_wp2); refine hK.out _ _ hT ?_; clear hK K
  iterate 3 (refine plan_force rfl rfl (fun K hK => ?_); go_wp2; refine hK.out _ _ hT ?_; clear hK K)
  refine plan_nil ?_
  go_wp2
  go_ret
  exact ⟨rfl, HW4.out.trans (hT.mono HW4.out.size)⟩
set_option maxRecDepth 100000 in
set_option maxHeartbeats 4000000 in
theorem laneParts2 (k : PL.K8) (p a b : Int) (x y : Nat) (w : World) (hp : -9223372036854775808 ≤ p ∧ p ≤ 9223372036854775807) (hx : x ≤ 200) (hy : y ≤ 200) (hxy : y < x) (ha : IntKind.u64.wrap a % 201 = (x : Int)) (hb : IntKind.u64.wrap b % 201 = (y : Int)) :
    Calls Try.prog 6 #[.agg (keyCells k), .int .i64 p, .int .i64 a, .int .i64 b] w fun e w' => e = .returned (.bool true) ∧ Below w.heap.size w w' := by
  have ha2 : (IntKind.u64.wrap a).tmod 201 = (x : Int) := by rw [Int.tmod_eq_emod_of_nonneg (wrap_u64_nonneg a), ha]
  have hb2 : (IntKind.u64.wrap b).tmod 201 = (y : Int) := by rw [Int.tmod_eq_emod_of_nonneg (wrap_u64_nonneg b), hb]
  have ea := LP.and_low32 p hp
  obtain ⟨P, hP⟩ : ∃ P, P = p % 4294967296 := ⟨_, rfl⟩
  have hPp : placeWord P = placeWord p := by rw [hP]; exact LP.place_mod p
  rw [← hP] at ea
  have HPp := Lib.hid hPp
  clear hPp hP
  have hlt : decide ((y : Int) < (x : Int)) = true := by simp; omega
  have HK : Hid (Blk (w.alloc (Obj.cells (keyCells k) 29)) w.heap.size 29 (keyCells k)) := Blk.new _ _ _
  have hW : Below w.heap.size w (w.alloc (Obj.cells (keyCells k) 29)) := (Below.refl _ _).alloc (Nat.le_refl _) _
  go_enter Try.func6, Try.ntmps6
  go_wp2
  generalize w.alloc (Obj.cells (keyCells k) 29) = wR at *
  have hle := hW.size
  refine wp_region_seq (fun w' => Below wR.heap.size wR w') [(false, 0), (false, 1), (false, 2), (false, 4), (false, 5), (false, 6), (true, 3), (true, 7), (true, 8), (true, 9)]
    (by kernel_rfl) (by kernel_rfl) (fun _ _ d _ _ h => by cases d <;> exact h) (Below.refl _ _).drew ?_
  have hS0 : Below wR.heap.size wR wR.drew := (Below.refl _ _).drew
  generalize wR.drew = w1 at *
  iterate 6 (apply plan_take rfl rfl rfl rfl; (intro w' hS K hK; obtain ⟨c0, c1, c2, c3, c4, c5, c6, c7⟩ := key_loads (HK.out.below hS HK.out.lt); clear hS; go_simp; exact hK))
  refine plan_force rfl rfl (fun K hK => ?_)
  go_wp2_with fail
  refine (stream_any k p y _ (by omega)).mono ?_
  rintro e w2 ⟨g2, rfl, hg2, hL2, hb2⟩
  have hS2 := hS0.trans (hb2.mono hS0.size)
  have HL2 := Lib.hid hL2
  clear hS0 hb2 hL2
  go_wp2
  refine hK.out _ _ hS2 ?_; clear hK K
  refine plan_force rfl rfl (fun K hK => ?_)
  go_wp2_with fail
  refine (stream_any k p x _ (by omega)).mono ?_
  rintro e w3 ⟨g3, rfl, hg3, hL3, hb3⟩
  have hS3 := hS2.trans (hb3.mono hS2.size)
  have HL3 := Lib.hid hL3
  have HL2 := Lib.hid (HL2.out.below hb3 HL2.out.lt)
  clear hS2 hb3 hL3
  go_wp2
  refine hK.out _ _ hS3 ?_; clear hK K
  iterate 2 (refine plan_force rfl rfl (fun K hK => ?_); go_wp2; refine hK.out _ _ hS3 ?_; clear hK K)
  refine plan_nil ?_
  obtain ⟨c0, c1, c2, c3, c4, c5, c6, c7⟩ := key_loads (HK.out.below hS3 HK.out.lt)
  go_wp2_with fail
  refine (stream_any k P x _ (by omega)).mono ?_
  rw [HPp.out]
  rintro e w4 ⟨g4, rfl, hg4, hL4, hb4⟩
  have hS4 := hS3.trans (hb4.mono hS3.size)
  have HL4 := Lib.hid hL4
  have HL3 := Lib.hid (HL3.out.below hb4 HL3.out.lt)
  have HL2 := Lib.hid (HL2.out.below hb4 HL2.out.lt)
  clear hS3 hb4 hL4 c0 c1 c2 c3 c4 c5 c6 c7
  go_wp2
  clear hg2 hg3 hg4
  have HW4 : Hid (Below w.heap.size w w4) := hW.trans (hS4.mono hle)
  clear hS4 hW HK
  refine wp_region_seq (fun w' => Below w4.heap.size w4 w') [(true, 0), (true, 1), (false, 2), (false, 3), (false, 4), (true, 5), (true, 6), (true, 7), (true, 8), (true, 9), (true, 10), (false, 11), (false, 12), (true, 13), (true, 14), (true, 15), (true, 16), (true, 17)]
    (by kernel_rfl) (by kernel_rfl) (fun _ _ d _ _ h => by cases d <;> exact h) (Below.refl _ _).drew ?_
  have hT0 : Below w4.heap.size w4 w4.drew := (Below.refl _ _).drew
  generalize w4.drew = w5 at *
  refine plan_force rfl rfl (fun K hK => ?_)
  go_wp2_with fail
  refine (told14 _).mono ?_
  rintro e w6 ⟨rfl, hb6⟩
  have hT := hT0.trans (hb6.mono hT0.size)
  clear hT0 hb6
  go_wp2
  refine hK.out _ _ hT ?_; clear hK K
  refine plan_force rfl rfl (fun K hK => ?_); go_wp2; refine hK.out _ _ hT ?_; clear hK K
  have HC2 : Hid (∀ w', Below w4.heap.size w4 w' → (convert 30 9 (.slice (some ⟨g2, 0, none⟩) y y)).run Try.prog w' = .ok (.string ⟨(PL.stream k (placeWord p) y).toArray⟩) w') := fun w' hS => conv_bytes conv_u8 _ ((HL2.out.below hS HL2.out.lt).bytes (PL.stream_len _ _ _) (HL2.out.below hS HL2.out.lt).lt)
  have HC4 : Hid (∀ w', Below w4.heap.size w4 w' → (convert 30 9 (.slice (some ⟨g4, 0, none⟩) x x)).run Try.prog w' = .ok (.string ⟨(PL.stream k (placeWord p) x).toArray⟩) w') := fun w' hS => conv_bytes conv_u8 _ ((HL4.out.below hS HL4.out.lt).bytes (PL.stream_len _ _ _) (HL4.out.below hS HL4.out.lt).lt)
  have HC3 : Hid (∀ w', Below w4.heap.size w4 w' → (convert 30 9 (.slice (some ⟨g3, 0, none⟩) x x)).run Try.prog w' = .ok (.string ⟨(PL.stream k (placeWord p) x).toArray⟩) w') := fun w' hS => conv_bytes conv_u8 _ ((HL3.out.below hS HL3.out.lt).bytes (PL.stream_len _ _ _) (HL3.out.below hS HL3.out.lt).lt)
  have HC5 : Hid (∀ w', Below w4.heap.size w4 w' → (convert 30 9 (.slice (some ⟨g3, 0, none⟩) y x)).run Try.prog w' = .ok (.string ⟨(PL.stream k (placeWord p) y).toArray⟩) w') := fun w' hS => by
    have h := (HL3.out.below hS HL3.out.lt).take y
    rw [PL.stream_take _ _ (by omega)] at h
    exact conv_bytes conv_u8 _ (h.bytes (PL.stream_len _ _ _) h.lt)
  have Hfr := Lib.hid (fun w' => run_front (P := Try.prog) row_u8 (some ⟨g3, 0, none⟩) x x y (by omega) w')
  clear HL2 HL3 HL4
  iterate 3 (apply plan_take rfl rfl rfl rfl; (intro w' hS K hK; have hcv := HC2.out w' hS; clear hS; go_simp; exact hK))
  refine plan_force rfl rfl (fun K hK => ?_); go_wp2; refine hK.out _ _ hT ?_; clear hK K
  refine plan_force rfl rfl (fun K hK => ?_); (have hf := Hfr.out w6; go_wp2); refine hK.out _ _ hT ?_; clear hK K Hfr
  refine plan_force rfl rfl (fun K hK => ?_); (have hcv := HC5.out w6 hT; go_wp2); refine hK.out _ _ hT ?_; clear hK K
  iterate 3 (refine plan_force rfl rfl (fun K hK => ?_); go_wp2; refine hK.out _ _ hT ?_; clear hK K)
  iterate 2 (apply plan_take rfl rfl rfl rfl; (intro w' hS K hK; have hcv := HC4.out w' hS; clear hS; go_simp; exact hK))
  refine plan_force rfl rfl (fun K hK => ?_); go_wp2; refine hK.out _ _ hT ?_; clear hK K
  refine plan_force rfl rfl (fun K hK => ?_); (have hcv := HC3.out w6 hT; go_wp2); refine hK.out _ _ hT ?_; clear hK K
  iterate 3 (refine plan_force rfl rfl (fun K hK => ?_); go_wp2; refine hK.out _ _ hT ?_; clear hK K)
  refine plan_nil ?_
  go_wp2
  go_ret
  exact ⟨rfl, HW4.out.trans (hT.mono HW4.out.size)⟩
theorem walkLaneParts (k : PL.K8) (p a b : Int) (w : World) (hp : (Lit.int .i64 p).wf = true) (ha : (Lit.int .i64 a).wf = true) (hb : (Lit.int .i64 b).wf = true) :
    Calls Try.prog 6 #[.agg (keyCells k), .int .i64 p, .int .i64 a, .int .i64 b] w fun e w' => e = .returned (.bool true) ∧ Below w.heap.size w w' := by
  have hp' : -9223372036854775808 ≤ p ∧ p ≤ 9223372036854775807 := by
    have := hp
    simp only [Lit.wf, Bool.and_eq_true, decide_eq_true_eq] at this
    exact this
  obtain ⟨x, hx⟩ : ∃ x : Nat, IntKind.u64.wrap a % 201 = (x : Int) := ⟨(IntKind.u64.wrap a % 201).toNat, by omega⟩
  obtain ⟨y, hy⟩ : ∃ y : Nat, IntKind.u64.wrap b % 201 = (y : Int) := ⟨(IntKind.u64.wrap b % 201).toNat, by omega⟩
  by_cases h : x ≤ y
  · exact laneParts1 k p a b x y w hp' (by omega) (by omega) h hx hy
  · exact laneParts2 k p a b x y w hp' (by omega) (by omega) (by omega) hx hy
end Go.Proofs.Ytobbjhbjjhnicaa
