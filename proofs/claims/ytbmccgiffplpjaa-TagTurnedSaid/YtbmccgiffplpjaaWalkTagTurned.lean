/- The walk of TagTurned: bytes that differ in one byte alone have different sums and tags. -/
import Derived.Test.YtbmccgiffplpjaaWalkTagLong
import Derived.Test.YtbmccgiffplpjaaWalkTagPlaces
namespace Go.Proofs.Ytbmccgiffplpjaa
open Go.RowKit
set_option linter.unusedVariables false
/-- Four bytes tell a word. -/
theorem word_of_bytes {s t : UInt32} (h0 : s.toUInt8 = t.toUInt8) (h1 : (s >>> 8).toUInt8 = (t >>> 8).toUInt8) (h2 : (s >>> 16).toUInt8 = (t >>> 16).toUInt8) (h3 : (s >>> 24).toUInt8 = (t >>> 24).toUInt8) : s = t := by
  have a0 := W_byte0 s
  have a1 := W_byte1 s
  have a2 := W_byte2 s
  have a3 := W_byte3 s
  have b0 := W_byte0 t
  have b1 := W_byte1 t
  have b2 := W_byte2 t
  have b3 := W_byte3 t
  rw [h0] at a0
  rw [h1] at a1
  rw [h2] at a2
  rw [h3] at a3
  have c0 := W_bd s
  have c1 := W_bd t
  apply W_inj
  omega
theorem sumW_inj {r s : UInt32} {l m : List UInt8} (h : sumW r s l = sumW r s m) : PL.sumOf r.toNat s.toNat l = PL.sumOf r.toNat s.toNat m := by
  have h1 := W_sum r s l
  have h2 := W_sum r s m
  rw [h] at h1
  rw [← h2] at h1
  unfold W at h1
  simp only [Int.toNat_natCast] at h1
  omega
/-- The tag of turned bytes is the same just if the byte is. -/
theorem tag_turned (k : PL.K8) (p : Int) (l : List UInt8) (i : Nat) (c : UInt8) (hi : i < l.length) : sameB (tagOf k p (l.set i c)) (tagOf k p l) = decide (c = l[i]) := by
  rw [Bool.eq_iff_iff, decide_eq_true_eq]
  constructor
  · intro h
    simp only [sameB, List.all_eq_true, List.mem_range, beq_iff_eq] at h
    have e := word_of_bytes (h 0 (by omega)) (h 1 (by omega)) (h 2 (by omega)) (h 3 (by omega))
    exact (PL.sum_turned _ _ l i c hi).1 (sumW_inj e)
  · rintro rfl
    rw [List.set_getElem_self]
    exact sameB_self _
theorem sum_turned_eq (r s : Nat) (l : List UInt8) (i : Nat) (c : UInt8) (hi : i < l.length) : (((PL.sumOf r s (l.set i c) : Nat) : Int) == ((PL.sumOf r s l : Nat) : Int)) = decide (c = l[i]) := by
  rw [Bool.eq_iff_iff, decide_eq_true_eq, beq_iff_eq, ← PL.sum_turned r s l i c hi]
  omega
theorem byte_eq (c d : UInt8) : ((c.toNat : Int) == (d.toNat : Int)) = decide (c = d) := by
  rw [Bool.eq_iff_iff, decide_eq_true_eq, beq_iff_eq, ← UInt8.toNat_inj]
  omega
set_option maxRecDepth 100000 in
set_option maxHeartbeats 4000000 in
theorem tagTurned (r s : Int) (k : PL.K8) (p : Int) (A : Option Addr) (n c : Nat) (l : List UInt8) (q : Int) (d : UInt8) (i : Nat) (w : World) (hr0 : 0 ≤ r) (hr : r ≤ 4294967295) (hs0 : 0 ≤ s) (hs : s ≤ 4294967295)
    (hb : Bytes w w.heap.size A n l) (hn1 : 1 ≤ n) (hn2 : n ≤ 200) (hi : i < n) (hq : (IntKind.u64.wrap q).tmod (n : Int) = (i : Int)) :
    Calls Try.prog 4 #[.int .u32 r, .int .u32 s, .agg (keyCells k), .int .i64 p, .slice A n c, .int .i64 q, .int .u8 (d.toNat : Int)] w fun e w' => e = .returned (.bool true) ∧ Below w.heap.size w w' := by
  have HB := Lib.hid hb
  clear hb
  obtain ⟨b, off, hl0, rfl, hbb, _⟩ := HB.out.at_ hi
  have h1 : ¬ ((n : Int) < 1) := by omega
  have h2 : ¬ (200 < (n : Int)) := by omega
  have hO := Own.empty_ (w.alloc (Obj.cells (keyCells k) 23)) 5 #[] rfl
  rw [World.size_alloc] at hO
  have hB3 := ((HB.out.alloc (Nat.le_refl _) (Obj.cells (keyCells k) 23)).alloc (by rw [World.size_alloc]; omega) (Obj.cells #[] 5))
  have hK3 := (Blk.new w 23 (keyCells k)).alloc (Obj.cells #[] 5)
  have hW3 : Below w.heap.size w ((w.alloc (Obj.cells (keyCells k) 23)).alloc (Obj.cells #[] 5)) := ((Below.refl _ _).alloc (Nat.le_refl _) _).alloc (by simp) _
  have HO := Lib.hid hO
  have HB3 := Lib.hid hB3
  have HK3 := Lib.hid hK3
  clear hO hB3 hK3
  have hlen := HB.out.len
  have HL := Lib.hid hlen
  clear hlen
  go_enter Try.func4, Try.ntmps4
  go_wp2_with (refine wpList_of_wp rfl (fun K hK => wp_append_bytes (v := .slice (some ⟨w.heap.size + 1, 0, none⟩) 0 0) (.tmp 33) (.tmp 34) 24 byteRow rfl l rfl HO.out w.heap.size _ n c rfl HB3.out (fun h => by cases h) (by simp; omega) (by simp) ?_); intro v1 w4 hO4 hg4 hat4; refine hK _ _ ?_; clear hK K; rw [List.nil_append] at hO4; have hn0 : 0 < l.length := (by omega); obtain ⟨g, cp, hv1, hgb, hgl⟩ := World.ownsRow.form hO4 hn0; rw [hv1]; rw [HL.out]; have hO5 : w4.ownsRow (w.heap.size + 1) 5 1 (.slice (some ⟨g, 0, none⟩) n cp) n (l.map u8v) := (by have h := hO4; unfold Own at h; rwa [hv1, HL.out] at h); clear hO4; have hci : w4.cell? ⟨g, i, none⟩ = some (u8v l[i]) := (by rw [hO5.cellAt i (by omega)]; simp [List.getElem?_eq_getElem hl0]); have hfi := hO5.frozenAt i)
  have hgr4 : w.heap.size + 1 ≤ g := hgb
  have hst := hO5.stored i (u8v d)
  rw [← List.map_set] at hst
  have hX := Bytes.of_own (l := l.set i d) hst.1
  have hY := ((HB3.out.grown hg4 (by simp; omega) (by intro g' hg'; injection (show some (w.heap.size + 1) = some g' from hg') with hg'; omega)).setCell (p := ⟨g, i, none⟩) (by show w.heap.size ≤ g; omega) (u8v d))
  have hK := ((HK3.out.grown hg4 (by simp [Value.ownBlock])).far (p := ⟨g, i, none⟩) (by show w.heap.size ≠ g; omega) (u8v d))
  have hW := (hW3.grown hg4 (by simp; omega) (by intro g' hg'; injection (show some (w.heap.size + 1) = some g' from hg') with hg'; omega)).setCell (p := ⟨g, i, none⟩) (by show w.heap.size ≤ g; omega) (u8v d)
  clear hst hO5 hg4 hat4 hci hfi HO HB3 HK3 hW3 hv1 hgl
  have HX := Lib.hid hX
  have HY := Lib.hid hY
  have HK := Lib.hid hK
  clear hX hY hK
  generalize w4.setCell ⟨g, i, none⟩ (u8v d) = wR at *
  have hle : w.heap.size ≤ wR.heap.size := hW.size
  have HI := Lib.hid (byte_eq d l[i])
  have hi0 : (0 : Int) ≤ (i : Int) := by omega
  have hi1 : (i : Int) < (n : Int) := by omega
  refine wp_region_seq (fun w' => Below wR.heap.size wR w') [(true, 0), (true, 1), (false, 2), (false, 3), (false, 4), (false, 6), (false, 7), (false, 8), (false, 11), (false, 12), (false, 13), (false, 14), (false, 15), (false, 16), (true, 5), (true, 9), (true, 10), (true, 17), (true, 18), (true, 19), (false, 20), (false, 21), (false, 22), (false, 24), (false, 25), (false, 26), (false, 29), (false, 30), (false, 31), (false, 32), (false, 33), (false, 34), (true, 23), (true, 27), (true, 28), (true, 35), (true, 36), (true, 37)]
    (by kernel_rfl) (by kernel_rfl) (fun _ _ d _ _ h => by cases d <;> exact h) (Below.refl _ _).drew ?_
  have hS0 : Below wR.heap.size wR wR.drew := (Below.refl _ _).drew
  generalize wR.drew = w1 at *
  refine plan_force rfl rfl (fun K hK => ?_)
  go_wp2_with (go_at_call 12; refine (told15 _).mono ?_; rintro e w2 ⟨rfl, hb2⟩)
  have hS2 := hS0.trans (hb2.mono hS0.size)
  clear hS0 hb2
  refine hK.out _ _ hS2 ?_; clear hK K
  refine plan_force rfl rfl (fun K hK => ?_); go_wp2; refine hK.out _ _ hS2 ?_; clear hK K
  have hbe := HI.out
  iterate 12 (apply plan_take rfl rfl rfl rfl; (intro w' hS K hK; have hcell := (HY.out.more hle |>.below hS).cell_at hl0; clear hS; go_simp; exact hK))
  have hlen : (l.set i d).length = n := by rw [List.length_set]; exact HL.out
  refine plan_force rfl rfl (fun K hK => ?_)
  go_wp2_with fail
  refine (sum_any r s _ n cp wR.heap.size (l.set i d) _ hr0 hr hs0 hs (HX.out.below hS2) (by omega)).mono ?_
  rintro e w3 ⟨rfl, rfl⟩
  go_wp2
  refine hK.out _ _ hS2 ?_; clear hK K
  refine plan_force rfl rfl (fun K hK => ?_)
  go_wp2_with fail
  refine (sum_any r s _ n c wR.heap.size l _ hr0 hr hs0 hs ((HY.out.more hle).below hS2) (by omega)).mono ?_
  rintro e w3 ⟨rfl, rfl⟩
  go_wp2
  refine hK.out _ _ hS2 ?_; clear hK K
  have hse := sum_turned_eq r.toNat s.toNat l i d hl0
  refine plan_force rfl rfl (fun K hK => ?_); go_wp2; refine hK.out _ _ hS2 ?_; clear hK K
  clear hse
  iterate 3 (refine plan_force rfl rfl (fun K hK => ?_); go_wp2; refine hK.out _ _ hS2 ?_; clear hK K)
  iterate 12 (apply plan_take rfl rfl rfl rfl; (intro w' hS K hK; obtain ⟨c0, c1, c2, c3, c4, c5, c6, c7⟩ := walk_load_key (HK.out.below hS HK.out.lt); have hcell := (HY.out.more hle |>.below hS).cell_at hl0; clear hS; go_simp; exact hK))
  refine plan_force rfl rfl (fun K hK => ?_)
  go_wp2_with fail
  refine (of_any k p _ n cp wR.heap.size (l.set i d) _ (HX.out.below hS2) hS2.size (by omega)).mono ?_
  rintro e w3 ⟨rfl, hb3⟩
  have hS3 := hS2.trans (hb3.mono hS2.size)
  clear hS2 hb3
  go_wp2
  refine hK.out _ _ hS3 ?_; clear hK K
  refine plan_force rfl rfl (fun K hK => ?_)
  go_wp2_with fail
  refine (of_any k p _ n c wR.heap.size l _ ((HY.out.more hle).below hS3) hS3.size (by omega)).mono ?_
  rintro e w4 ⟨rfl, hb4⟩
  have hS4 := hS3.trans (hb4.mono hS3.size)
  clear hS3 hb4
  go_wp2
  refine hK.out _ _ hS4 ?_; clear hK K
  refine plan_force rfl rfl (fun K hK => ?_)
  go_wp2_with fail
  refine (same_any (tagOf k p (l.set i d)) (tagOf k p l) _).mono ?_
  rw [tag_turned k p l i d hl0]
  rintro e w5 ⟨rfl, hb5⟩
  have hS5 := hS4.trans (hb5.mono hS4.size)
  clear hS4 hb5
  go_wp2
  refine hK.out _ _ hS5 ?_; clear hK K
  iterate 3 (refine plan_force rfl rfl (fun K hK => ?_); go_wp2; refine hK.out _ _ hS5 ?_; clear hK K)
  refine plan_nil ?_
  go_wp2
  go_ret
  exact ⟨rfl, hW.trans (hS5.mono hle)⟩
theorem walkTagTurned (r s : Int) (k : PL.K8) (p : Int) (A : Option Addr) (n c : Nat) (l : List UInt8) (q d : Int) (w : World) (hr : (Lit.int .u32 r).wf = true) (hs : (Lit.int .u32 s).wf = true) (hp : (Lit.int .i64 p).wf = true)
    (hb : Bytes w w.heap.size A n l) (hc : n ≤ c) (hm : c ≤ maxLen) (hz : A = none → n = 0 ∧ c = 0) (hq : (Lit.int .i64 q).wf = true) (hd : (Lit.int .u8 d).wf = true) :
    Calls Try.prog 4 #[.int .u32 r, .int .u32 s, .agg (keyCells k), .int .i64 p, .slice A n c, .int .i64 q, .int .u8 d] w fun e w' => e = .returned (.bool true) ∧ Below w.heap.size w w' := by
  have h1 := bounds_u32 hr
  have h2 := bounds_u32 hs
  have h3 := bounds_u8 hd
  have h4 : ((UInt8.ofNat d.toNat).toNat : Int) = d := by rw [UInt8.toNat_ofNat']; omega
  by_cases hn : 1 ≤ n ∧ n ≤ 200
  · have h0 : 0 ≤ IntKind.u64.wrap q := wrap_u64_nonneg q
    have hlt : IntKind.u64.wrap q % (n : Int) < (n : Int) := Int.emod_lt_of_pos _ (by omega)
    have hge : 0 ≤ IntKind.u64.wrap q % (n : Int) := Int.emod_nonneg _ (by omega)
    have h5 : (IntKind.u64.wrap q).tmod (n : Int) = (((IntKind.u64.wrap q % (n : Int)).toNat : Nat) : Int) := by rw [Int.tmod_eq_emod_of_nonneg h0]; omega
    have h := tagTurned r s k p A n c l q (UInt8.ofNat d.toNat) (IntKind.u64.wrap q % (n : Int)).toNat w (by omega) (by omega) (by omega) (by omega) hb hn.1 hn.2 (by omega) h5
    rwa [h4] at h
  · have hb1 : Below w.heap.size w (w.alloc (Obj.cells (keyCells k) 23)) := (Below.refl _ _).alloc (Nat.le_refl _) _
    unfold maxLen at hm
    clear hz hb h4
    by_cases h1n : (n : Int) < 1
    · go_enter Try.func4, Try.ntmps4
      go_wp2_with (go_at_call 12; refine (told15 _).mono ?_; rintro e w2 ⟨rfl, hb2⟩)
      go_ret
      exact ⟨rfl, hb1.trans (hb2.mono hb1.size)⟩
    · have h2n : 200 < (n : Int) := by omega
      go_enter Try.func4, Try.ntmps4
      go_wp2_with (go_at_call 12; refine (told15 _).mono ?_; rintro e w2 ⟨rfl, hb2⟩)
      go_ret
      exact ⟨rfl, hb1.trans (hb2.mono hb1.size)⟩
end Go.Proofs.Ytbmccgiffplpjaa
