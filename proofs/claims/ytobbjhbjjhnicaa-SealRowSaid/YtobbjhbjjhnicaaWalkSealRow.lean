/- The walk of SealRow. -/
import Derived.Test.YtobbjhbjjhnicaaSealRowF
import Derived.Test.YtobbjhbjjhnicaaSegSlices
import Derived.Test.YtobbjhbjjhnicaaWalkSealBounds
import Derived.Test.YtobbjhbjjhnicaaRefAll
namespace Go.Proofs.Ytobbjhbjjhnicaa
open Go.RowKit
set_option linter.unusedVariables false
namespace SR
theorem rem_at (x : Int) (m : Nat) (hm : 1 ≤ m) (hm2 : m ≤ 1000000) : ∃ q : Nat, q < m ∧ wrap64 ((IntKind.u64.wrap x).tmod (m : Int)) = (q : Int) := by
  have h0 : 0 ≤ IntKind.u64.wrap x := by rw [IntKind.wrap_u64]; omega
  rw [Int.tmod_eq_emod_of_nonneg h0]
  have h1 := Int.emod_nonneg (IntKind.u64.wrap x) (b := (m : Int)) (by omega)
  have h2 := Int.emod_lt_of_pos (IntKind.u64.wrap x) (b := (m : Int)) (by omega)
  generalize (IntKind.u64.wrap x) % (m : Int) = r at *
  refine ⟨r.toNat, by omega, ?_⟩
  rw [IntWalk.wrap64_in r (by omega)]
  omega
end SR
set_option maxRecDepth 100000 in
set_option maxHeartbeats 8000000 in
theorem sealRow (k : PL.K8) (A : Option Addr) (n c : Nat) (xs : List SegV) (cut at_ : Int) (tb : UInt8) (w : World) (hS : Segs w w.heap.size A n xs) (hX : Bodies w w.heap.size xs) (hnc : n ≤ c) (hcm : c ≤ maxLen) :
    Calls Try.prog 8 #[.agg (keyCells k), .slice A n c, .int .i64 cut, .int .i64 at_, .int .u8 (tb.toNat : Int)] w fun e w' => e = .returned (.bool true) ∧ Below w.heap.size w w' := by
  have hW0 : Below w.heap.size w (w.alloc (Obj.cells (keyCells k) 29)) := (Below.refl _ _).alloc (Nat.le_refl _) _
  have HS := Lib.hid (hS.below hW0)
  have HX := Lib.hid (hX.below hW0)
  have HK0 := Lib.hid (Blk.new w 29 (keyCells k))
  clear hS hX
  go_enter Try.func8, Try.ntmps8
  go_wp2_with fail
  refine (few_any A n c w.heap.size xs 6 _ HS.out HX.out (by omega)).mono ?_
  rintro e w1 ⟨b, rfl, hfew, rfl⟩
  have told_end : ∀ w1, Below w.heap.size w w1 → Calls Try.prog 23 #[] w1 fun e w' => e = .returned (.bool true) ∧ Below w.heap.size w w' := by
    intro w1 hW
    refine (told17 w1).mono ?_
    rintro e w2 ⟨rfl, hb⟩
    exact ⟨rfl, hW.trans (hb.mono hW.size)⟩
  have Told := Lib.hid told_end
  clear told_end
  cases b
  · clear hfew
    go_wp2_with fail
    refine (Told.out _ hW0).mono ?_
    rintro e w2 ⟨rfl, hW2⟩
    go_wp2
    go_ret
    exact ⟨rfl, hW2⟩
  obtain ⟨hf, hn6⟩ := hfew rfl
  obtain ⟨k0, k1, k2, k3, k4, k5, k6, k7⟩ := key_loads HK0.out
  clear hfew
  go_wp2_with fail
  have hV1 : Below w.heap.size (w.alloc (Obj.cells (keyCells k) 29)) ((w.alloc (Obj.cells (keyCells k) 29)).alloc (Obj.cells (keyCells k) 31)) := (Below.refl _ _).alloc (by rw [World.size_alloc]; omega) _
  have hW1 := hW0.trans hV1
  have HS1 := Lib.hid (HS.out.below hV1)
  have HX1 := Lib.hid (HX.out.below hV1)
  have HQ1 := Lib.hid (HK0.out.alloc (Obj.cells (keyCells k) 31))
  have HK1 : Hid (Blk ((w.alloc (Obj.cells (keyCells k) 29)).alloc (Obj.cells (keyCells k) 31)) (w.heap.size + 1) 31 (keyCells k)) := by
    have := Blk.new (w.alloc (Obj.cells (keyCells k) 29)) 31 (keyCells k)
    rwa [World.size_alloc] at this
  refine (row_any A n c xs ((w.alloc (Obj.cells (keyCells k) 29)).alloc (Obj.cells (keyCells k) 31)) (HS1.out.more hW1.size) (HX1.out.more hW1.size) hf (by omega)).mono ?_
  rintro e w2 ⟨A2, m, c2, zs, rfl, hS2, hc2, hz2, hX2, hR, hf2, hm, hb2⟩
  have HQ2 := Lib.hid (HQ1.out.below hb2 HQ1.out.lt)
  have HK2 := Lib.hid (HK1.out.below hb2 HK1.out.lt)
  have hW2 := hW1.trans (hb2.mono hW1.size)
  have HS2 := Lib.hid hS2
  have HX2 := Lib.hid hX2
  have HR := Lib.hid hR
  have HF2 := Lib.hid hf2
  have hm1 : 1 ≤ m := by omega
  have hm7 : m ≤ 7 := by omega
  have hkl := HK2.out.lt
  have Hm := Lib.hid hm
  have HZl : Hid ((zs.map (·.seg)).length = m) := by show _ = _; rw [List.length_map]; exact hS2.len
  have HYs : Hid (∀ y ∈ zs, Bytes w2 w2.heap.size y.A y.n y.seg.body ∧ PS.may y.seg = true ∧ y.seg.body.length ≤ 300) := by
    intro y hy
    refine ⟨(hX2 y hy).1, ?_, hf2 y hy⟩
    obtain ⟨o, z, e, hL, h1, _⟩ := hR
    have hmem : y.seg ∈ o ++ [z] := by rw [← e]; exact List.mem_map.2 ⟨y, hy, rfl⟩
    rcases List.mem_append.1 hmem with h | h
    · obtain ⟨i, hi, hx⟩ := List.mem_iff_getElem.1 h
      exact (hL i y.seg (by rw [← hx]; exact List.getElem?_eq_getElem hi)).1
    · rw [List.mem_singleton.1 h]
      exact h1
  clear HS HX HS1 HX1 HK0 HK1 HQ1 hV1 hW0 hW1 hf hS2 hX2 hR hf2 hb2 hm k0 k1 k2 k3 k4 k5 k6 k7 hn6
  obtain ⟨Z, hZ⟩ : ∃ Z, Z = zs.map (·.seg) := ⟨_, rfl⟩
  rw [← hZ] at HR HZl
  have HZ := Lib.hid hZ
  clear hZ
  go_wp2
  go_loopw [13, 14, 15] (fun v u i wr => ∃ (j : Nat), i = .int .i64 j ∧ j ≤ m ∧ Hid (Own 5 wr w2.heap.size v (PS.cat k (Z.take j))) ∧ Hid (OwnI wr w2.heap.size u (PS.ends k Z j)) ∧ Hid (∀ g, v.ownBlock = some g → u.ownBlock = some g → False) ∧ Hid ((PS.cat k (Z.take j)).length ≤ j * 350) ∧ Below w2.heap.size w2 wr) (fun _ _ i _ => m - (intOf i).toNat)
  case atStart => exact ⟨0, rfl, Nat.zero_le _, Own.nil_, OwnI.nil_, (fun g h => by cases h), Nat.zero_le _, Below.refl _ _⟩
  case round =>
    obtain ⟨j, rfl, hj, HO, HI, HD, HL, hb⟩ := hrel
    by_cases hlt : j < m
    · have tj : (j : Int) < (m : Int) := by omega
      have hb2 := hb.drew
      obtain ⟨bb, off, y, rfl, hbb, hy, s0, s1, s2, s3⟩ := (HS2.out.below hb2).pick hlt
      have hym := List.mem_of_getElem? hy
      obtain ⟨hy1, hy2, hy3⟩ := HYs.out y hym
      have HY1 : Hid (Bytes wr.drew w2.heap.size y.A y.n y.seg.body) := hy1.below hb2
      have HY2 := Lib.hid hy2
      have HY3 := Lib.hid hy3
      have hyn : y.n ≤ 300 := by rw [← hy1.len]; exact hy3
      have HK4 := Lib.hid (HK2.out.below hb2 hkl)
      have hsw : w2.heap.size ≤ wr.drew.heap.size := hb2.size
      have HO4 := Lib.hid HO.out.drew
      have HI4 := Lib.hid HI.out.drew
      have HCat : Hid (PS.cat k (Z.take (j + 1)) = PS.cat k (Z.take j) ++ PS.put k y.seg) := by
        show _ = _
        rw [List.take_add_one, HZ.out, List.getElem?_map, hy, PS.cat_append]
        simp [PS.cat]
      clear hy hym hy1 hy2 hy3 HO HI hb
      go_wp2
      refine wp_region_seq (fun x => Below wr.drew.heap.size wr.drew x) [(false, 0), (false, 1), (true, 2), (true, 3), (true, 4), (true, 5), (true, 6), (false, 7), (false, 8), (true, 9), (true, 10)] (by kernel_rfl) (by kernel_rfl) (fun _ _ d _ _ h => by cases d <;> exact h) (Below.refl _ _) ?_
      generalize wr.drew = w4 at *
      iterate 2 (apply plan_take rfl rfl rfl rfl; (intro w' hS K hK; obtain ⟨k0, k1, k2, k3, k4, k5, k6, k7⟩ := key_loads (HK4.out.below hS HK4.out.lt); clear hS; go_simp; exact hK))
      iterate 3 (refine plan_force rfl rfl (fun K hK => ?_); go_wp2_with fail; refine hK.out _ _ (Below.refl _ _) ?_; clear hK K)
      refine plan_force rfl rfl (fun K hK => ?_)
      go_wp2_with fail
      refine (sealPut_any k y.seg y.n y.c y.A w4 (HY1.out.more (by omega)) (by omega)).mono ?_
      rintro e w5 ⟨A5, n5, c5, code, rfl, hc5, hz5, hd5, hb5⟩
      have hd6 : code = 0 ∧ Bytes w5 w5.heap.size A5 n5 (PS.put k y.seg) := by
        rcases hd5 with ⟨_, h1, h2⟩ | ⟨h1, _⟩
        · exact ⟨h1, h2⟩
        · rw [HY2.out] at h1
          cases h1
      obtain ⟨rfl, hB5⟩ := hd6
      have HB5 := Lib.hid hB5
      have hn5 : n5 ≤ 350 := by rw [← hB5.len]; have := PS.put_bound k y.seg HY2.out; have := HY3.out; omega
      have HO5 := Lib.hid (HO4.out.below hb5 HO4.out.lt)
      have HI5 := Lib.hid (HI4.out.below hb5 HI4.out.lt)
      have hb6 := hb2.trans (hb5.mono hsw)
      have HZ5 := Lib.hid hz5
      go_wp2_with fail
      refine hK.out _ _ hb5 ?_
      clear hK K hd5 hB5 hz5
      refine plan_force rfl rfl (fun K hK => ?_); go_wp2_with fail; refine hK.out _ _ hb5 ?_; clear hK K
      iterate 2 (apply plan_take rfl rfl rfl rfl; (intro w' hS K hK; clear hS; go_simp; exact hK))
      iterate 2 (refine plan_force rfl rfl (fun K hK => ?_); go_wp2_with fail; refine hK.out _ _ hb5 ?_; clear hK K)
      refine plan_nil ?_
      clear HO4 HI4 HY1 HK4 hb2 s0 s1 s2 s3
      have hs5 := hb5.size
      clear hb5
      have HL5 : Hid ((PS.cat k (Z.take (j + 1))).length ≤ (j + 1) * 350) := by show _ ≤ _; rw [HCat.out, List.length_append, HB5.out.len]; have := HL.out; omega
      go_wp2_with (at_builtin; (refine wpList_of_wp rfl (fun K hK => wp_append_bytes (.tmp 59) (.tmp 60) 30 row_u8 rfl (PS.put k y.seg) rfl HO5.out w5.heap.size A5 n5 c5 rfl HB5.out HZ5.out (by (have := HL.out; omega)) (by omega) ?_)); intro v6 w6 hO6 hg6 hd6; have HKK := Lib.hid hK; clear hK)
      have hb7 := hb6.grown hg6 (by omega) (fun g hg => HO5.out.base_ g hg)
      have HI6 := Lib.hid (HI5.out.kept hg6 (ownBlock_ne HD.out))
      have hD6 := sep_next HD.out hd6 HI5.out.lt
      rw [← HCat.out] at hO6
      have hs6 := hg6.size
      obtain ⟨A6, n6, c6, rfl, hB6, hc6, _⟩ := hO6.form_n
      have hn6 := hB6.len
      have HO6 := Lib.hid hO6
      have HN6 := Lib.hid hn6
      have HD6 := Lib.hid hD6
      have hs67 := hb7.size
      clear hO6 hg6 hd6 hB6 hn6 HI5 HO5 hb6 HD hD6
      refine HKK.out _ _ ?_
      clear HKK
      go_wp2_with (at_builtin; (refine wpList_of_wp rfl (fun K hK => wp_append_int (.tmp 62) (.tmp 65) rfl (n6 : Int) rfl (HI6.out.alloc _) w6.heap.size rfl ((Blk.new w6 3 #[.int .i64 (n6 : Int)]).cell 0) (by (rw [PS.ends_len]; omega)) (by (rw [World.size_alloc]; omega)) ?_)); intro v7 w7 hI7 hg7 hd7; have HKK := Lib.hid hK; clear hK)
      have hb8 := (hb7.alloc hs67 (Obj.cells #[.int .i64 (n6 : Int)] 3)).grown hg7 (by rw [World.size_alloc]; omega) (fun g hg => HI6.out.base_ g hg)
      have HO7 := Lib.hid ((HO6.out.alloc (Obj.cells #[.int .i64 (n6 : Int)] 3)).kept hg7 (ownBlock_ne (sep_swap HD6.out)))
      have HD7 := Lib.hid (sep_swap (sep_next (sep_swap HD6.out) hd7 (HO6.out.alloc (Obj.cells #[.int .i64 (n6 : Int)] 3)).lt))
      rw [← HN6.out, ← PS.ends_next] at hI7
      have HI7 := Lib.hid hI7
      clear hI7 hg7 hd7 HI6 HO6 HD6 hb7
      refine HKK.out _ _ ?_
      clear HKK
      go_wp2
      go_roundw
      case rel => exact ⟨j + 1, by go_num, hlt, HO7, HI7, HD7, HL5, hb8⟩
      case measure => simp [intOf]; omega
    · obtain rfl : j = m := by omega
      have hfull : Z.take j = Z := List.take_of_length_le (by rw [HZl.out]; exact Nat.le_refl _)
      have hO := HO.out
      rw [hfull] at hO
      have hL := HL.out
      rw [hfull] at hL
      obtain ⟨A3, n3, c3, rfl, hB3, hc3, hz3⟩ := hO.form_n
      have HZ3 := Lib.hid hz3
      clear hz3
      have HN3 := Lib.hid hB3.len
      have hn3 : n3 ≤ 2450 := by rw [← hB3.len]; omega
      have hn31 : 1 ≤ n3 := by rw [← hB3.len]; have h1 := PS.cat_len k Z; have := HZl.out; omega
      obtain ⟨gI, cI, rfl, hcI, hgI, hgI2, hcells⟩ := HI.out.form j (PS.ends_len k Z j) (by omega)
      have HE : Hid (∀ i, i < j → wr.cell? ⟨gI, i, none⟩ = some (.int .i64 ((PS.cat k (Z.take (i + 1))).length : Int))) := fun i hi => hcells i _ (PS.ends_get k Z j i hi)
      obtain ⟨b, hbd⟩ : ∃ b, b = PS.cat k Z := ⟨_, rfl⟩
      rw [← hbd] at hB3 HN3
      have HBd := Lib.hid hbd
      have HB3 := Lib.hid hB3
      have HK3 := Lib.hid (HK2.out.below hb hkl)
      have HQ3 := Lib.hid (HQ2.out.below hb (by omega))
      have HS3 := Lib.hid ((HS2.out.below hb).more hb.size)
      have HX3 := Lib.hid ((HX2.out.below hb).more hb.size)
      have hW3 := hW2.trans (hb.mono hW2.size)
      have hkl3 : w.heap.size + 1 < wr.heap.size := by have := hb.size; omega
      clear HO HI HD HL hO hL hfull hB3 hbd hcells HK2 HQ2 HS2 HX2 hW2 hb HYs HF2 hgI hkl
      obtain ⟨k0, k1, k2, k3, k4, k5, k6, k7⟩ := key_loads HK3.out
      have KA := Lib.hid (sealAll_any k A3 n3 c3 wr.heap.size 0 b wr HB3.out (Nat.le_refl _) (by omega) hc3 (Nat.zero_le _))
      have hall := PS.all_row k Z HR.out
      rw [← HBd.out, HN3.out] at hall
      rw [hall] at KA
      clear hall
      go_wp2_with fail
      refine KA.out.mono ?_
      clear KA k0 k1 k2 k3 k4 k5 k6 k7
      rintro e w8 ⟨A8, n8, c8, xs8, rfl, hS8, hc8, hm8, hX8, hb8⟩
      have hn8 : n8 = j := by
        have h1 := hS8.len
        have h2 := congrArg List.length hm8
        rw [List.length_map, HZl.out] at h2
        omega
      subst hn8
      have HK8 := Lib.hid (HK3.out.below hb8 HK3.out.lt)
      have HQ8 := Lib.hid (HQ3.out.below hb8 HQ3.out.lt)
      have HS8 := Lib.hid ((HS3.out.below hb8).more hb8.size)
      have HX8 := Lib.hid ((HX3.out.below hb8).more hb8.size)
      have HB8 := Lib.hid ((HB3.out.below hb8).more hb8.size)
      have HE8 : Hid (∀ i, i < n8 → w8.cell? ⟨gI, i, none⟩ = some (.int .i64 ((PS.cat k (Z.take (i + 1))).length : Int))) := fun i hi => (hb8.cell (p := ⟨gI, i, none⟩) hgI2).trans (HE.out i hi)
      have hgI8 : gI < w8.heap.size := by have := hb8.size; omega
      have hW8 := hW3.trans (hb8.mono hW3.size)
      have hkl8 : w.heap.size + 1 < w8.heap.size := by have := hb8.size; omega
      have KS := Lib.hid (segs_any A8 A2 n8 c8 n8 c2 w8.heap.size xs8 zs w8 hS8 hX8 HS8.out HX8.out (Nat.le_refl _) (by omega) (by omega))
      have hss : sameSegs (xs8.map (·.seg)) (zs.map (·.seg)) = true := by
        unfold sameSegs
        rw [hm8, ← HZ.out]
        exact decide_eq_true rfl
      rw [hss] at KS
      clear hss HK3 HQ3 HS3 HX3 HB3 HE hgI2 hW3 hkl3 hS8 hX8 hm8 hb8
      have tn3 : ((n3 : Int) == 0) = false := by rw [beq_eq_false_iff_ne]; omega
      go_wp2_with fail
      refine KS.out.mono ?_
      clear KS
      rintro e w9 ⟨rfl, hb9⟩
      have HK9 := Lib.hid (HK8.out.below hb9 HK8.out.lt)
      have HQ9 := Lib.hid (HQ8.out.below hb9 HQ8.out.lt)
      have HS9 := Lib.hid ((HS8.out.below hb9).more hb9.size)
      have HX9 := Lib.hid ((HX8.out.below hb9).more hb9.size)
      have HB9 := Lib.hid ((HB8.out.below hb9).more hb9.size)
      have HE9 : Hid (∀ i, i < n8 → w9.cell? ⟨gI, i, none⟩ = some (.int .i64 ((PS.cat k (Z.take (i + 1))).length : Int))) := fun i hi => (hb9.cell (p := ⟨gI, i, none⟩) hgI8).trans (HE8.out i hi)
      have hgI9 : gI < w9.heap.size := by have := hb9.size; omega
      have hW9 := hW8.trans (hb9.mono hW8.size)
      have hkl9 : w.heap.size + 1 < w9.heap.size := by have := hb9.size; omega
      clear HK8 HQ8 HS8 HX8 HB8 HE8 hgI8 hW8 hkl8 hb9
      obtain ⟨cc, hcc, hcce⟩ := SR.rem_at cut n3 hn31 (by omega)
      have hne0 : ¬ (n3 : Int) = 0 := by omega
      have hfc : ∀ w, (Instr.sliceAt 30 (.slice A3 n3 c3) none (some (.int .i64 (cc : Int))) none).run Try.prog w = .ok (.slice A3 cc c3) w := run_front_at row_u8 A3 n3 c3 cc (by omega)
      go_wp2_with fail
      have HB10d : Hid (Bytes w9.drew w9.drew.heap.size A3 cc (b.take cc)) := by
        have := HB9.out.part (i := 0) (j := cc) (m := c3) (by omega) (by omega) (by omega)
        rwa [cutA_zero] at this
      go_wp2
      have KA := Lib.hid (sealAll_any k A3 cc c3 w9.drew.heap.size 0 (b.take cc) w9.drew HB10d.out (Nat.le_refl _) (by omega) (by omega) (Nat.zero_le _))
      obtain ⟨wh, hwh, hwh1, hwh2⟩ := PS.whole_at k Z cc (by rw [← HBd.out, HN3.out]; exact hcc)
      have hcut := PS.all_cut k Z HR.out wh cc hwh hwh1 hwh2
      rw [← HBd.out] at hcut
      rw [HZl.out] at hwh
      generalize PS.all k (b.take cc) 0 = R1 at *
      obtain ⟨ra, rb, rc⟩ := R1
      simp only at hcut
      obtain ⟨hra, rfl⟩ := hcut
      have HRa := Lib.hid hra
      clear hra HB10d
      have HK10 : Hid (Blk w9.drew (w.heap.size + 1) 31 (keyCells k)) := HK9
      have HQ10 : Hid (Blk w9.drew w.heap.size 29 (keyCells k)) := HQ9
      have HS10 : Hid (Segs w9.drew w9.drew.heap.size A2 n8 zs) := HS9
      have HX10 : Hid (Bodies w9.drew w9.drew.heap.size zs) := HX9
      have HB10 : Hid (Bytes w9.drew w9.drew.heap.size A3 n3 b) := HB9
      have HE10 : Hid (∀ i, i < n8 → w9.drew.cell? ⟨gI, i, none⟩ = some (.int .i64 ((PS.cat k (Z.take (i + 1))).length : Int))) := HE9
      have hgI10 : gI < w9.drew.heap.size := hgI9
      have hW10 := hW9.drew
      have hkl10 : w.heap.size + 1 < w9.drew.heap.size := hkl9
      refine wp_region_seq (fun x => Below w9.drew.heap.size w9.drew x) [(false, 0), (false, 1), (true, 2), (true, 3), (true, 4), (true, 5), (false, 6), (false, 7), (false, 8), (true, 9), (true, 10), (true, 11)] (by kernel_rfl) (by kernel_rfl) (fun _ _ d _ _ h => by cases d <;> exact h) (Below.refl _ _) ?_
      clear HK9 HQ9 HS9 HX9 HB9 HE9 hgI9 hW9 hkl9
      generalize w9.drew = w10 at *
      iterate 2 (apply plan_take rfl rfl rfl rfl; (intro w' hS K hK; obtain ⟨k0, k1, k2, k3, k4, k5, k6, k7⟩ := key_loads (HK10.out.below hS HK10.out.lt); clear hS; go_simp; exact hK))
      iterate 2 (refine plan_force rfl rfl (fun K hK => ?_); go_wp2_with fail; refine hK.out _ _ (Below.refl _ _) ?_; clear hK K)
      refine plan_force rfl rfl (fun K hK => ?_)
      go_wp2_with fail
      refine KA.out.mono ?_
      clear KA
      rintro e w11 ⟨A11, n11, c11, xs11, rfl, hS11, hc11, hm11, hX11, hb11⟩
      go_wp2_with fail
      refine hK.out _ _ hb11 ?_
      clear hK K
      refine plan_force rfl rfl (fun K hK => ?_); go_wp2_with fail; refine hK.out _ _ hb11 ?_; clear hK K
      iterate 3 (apply plan_take rfl rfl rfl rfl; (intro w' hS K hK; clear hS; go_simp; exact hK))
      iterate 3 (refine plan_force rfl rfl (fun K hK => ?_); go_wp2_with fail; refine hK.out _ _ hb11 ?_; clear hK K)
      refine plan_nil ?_
      have hm11' := hm11.trans HRa.out
      have hn11 : wh = n11 := by
        have h1 := hS11.len
        have h2 := congrArg List.length hm11'
        rw [List.length_map, List.length_take, HZl.out] at h2
        omega
      subst hn11
      have HK11 := Lib.hid (HK10.out.below hb11 HK10.out.lt)
      have HQ11 := Lib.hid (HQ10.out.below hb11 HQ10.out.lt)
      have HS11 := Lib.hid ((HS10.out.below hb11).more hb11.size)
      have HX11 := Lib.hid ((HX10.out.below hb11).more hb11.size)
      have HB11 := Lib.hid ((HB10.out.below hb11).more hb11.size)
      have HE11 : Hid (∀ i, i < n8 → w11.cell? ⟨gI, i, none⟩ = some (.int .i64 ((PS.cat k (Z.take (i + 1))).length : Int))) := fun i hi => (hb11.cell (p := ⟨gI, i, none⟩) hgI10).trans (HE10.out i hi)
      have hgI11 : gI < w11.heap.size := by have := hb11.size; omega
      have hW11 := hW10.trans (hb11.mono hW10.size)
      have hkl11 : w.heap.size + 1 < w11.heap.size := by have := hb11.size; omega
      clear HK10 HQ10 HS10 HX10 HB10 HE10 hgI10 hW10 hkl10
      have HSn := Lib.hid hS11
      have HXn := Lib.hid hX11
      have HMn := Lib.hid hm11'
      clear hS11 hX11 hm11 hm11' hb11 HRa
      go_wp2
      go_loopw [25] (fun q wr => ∃ i : Nat, q = .int .i64 (i : Int) ∧ i ≤ wh ∧ w11 = wr) (fun q _ => wh - (intOf q).toNat)
      case atStart => exact ⟨0, rfl, Nat.zero_le _, by first | rfl | trivial⟩
      case round =>
        obtain ⟨i, rfl, hi, rfl⟩ := hrel
        have hcell := HE11.out i (by omega)
        have ti0 : (0 : Int) ≤ (i : Int) := by omega
        have ti1 : (i : Int) < (n8 : Int) := by omega
        by_cases hlt : i < wh
        · have hle : (PS.cat k (Z.take (i + 1))).length ≤ cc := by
            have := PS.cat_mono k Z (show i + 1 ≤ wh by omega)
            omega
          generalize (PS.cat k (Z.take (i + 1))).length = e at *
          have te : (e : Int) ≤ (cc : Int) := by omega
          go_wp2
          go_roundw
          case rel => exact ⟨i + 1, by go_num, hlt, by first | rfl | trivial⟩
          case measure => simp [intOf]; omega
        · obtain rfl : i = wh := by omega
          have hgt : cc < (PS.cat k (Z.take (i + 1))).length := by omega
          generalize (PS.cat k (Z.take (i + 1))).length = e at *
          have te : ¬ (e : Int) ≤ (cc : Int) := by omega
          clear hgt
          have hfr := run_segs_front_at A2 n8 c2 i (by omega)
          have KS := Lib.hid (segs_any A11 A2 i c11 i c2 w11.heap.size xs11 (zs.take i) w11 HSn.out HXn.out (HS11.out.front (by omega)) (fun x hx => HX11.out x (List.mem_of_mem_take hx)) (Nat.le_refl _) (by omega) (by omega))
          have hss : sameSegs (xs11.map (·.seg)) ((zs.take i).map (·.seg)) = true := by
            unfold sameSegs
            rw [HMn.out, List.map_take, ← HZ.out]
            exact decide_eq_true rfl
          rw [hss] at KS
          clear hss
          go_wp2_with fail
          refine KS.out.mono ?_
          clear KS
          rintro e w12 ⟨rfl, hb12⟩
          have HK12 := Lib.hid (HK11.out.below hb12 HK11.out.lt)
          have HQ12 := Lib.hid (HQ11.out.below hb12 HQ11.out.lt)
          have HS12 := Lib.hid ((HS11.out.below hb12).more hb12.size)
          have HX12 := Lib.hid ((HX11.out.below hb12).more hb12.size)
          have HB12 := Lib.hid ((HB11.out.below hb12).more hb12.size)
          have HE12 : Hid (∀ i, i < n8 → w12.cell? ⟨gI, i, none⟩ = some (.int .i64 ((PS.cat k (Z.take (i + 1))).length : Int))) := fun i hi => (hb12.cell (p := ⟨gI, i, none⟩) hgI11).trans (HE11.out i hi)
          have hgI12 : gI < w12.heap.size := by have := hb12.size; omega
          have hW12 := hW11.trans (hb12.mono hW11.size)
          have hkl12 : w.heap.size + 1 < w12.heap.size := by have := hb12.size; omega
          clear HK11 HQ11 HS11 HX11 HB11 HE11 hgI11 hW11 hkl11
          clear HSn HXn HMn hb12 hwh1 hwh2
          by_cases ht0 : tb.toNat = 0
          · have tt0 : ((tb.toNat : Int) == 0) = true := by rw [beq_iff_eq]; omega
            go_wp2_with fail
            refine (Told.out w12 hW12).mono ?_
            rintro e w13 ⟨rfl, hW13⟩
            go_wp2
            go_ret
            exact ⟨rfl, hW13⟩
          have tt0 : ((tb.toNat : Int) == 0) = false := by rw [beq_eq_false_iff_ne]; omega
          obtain ⟨jj, hjj, hjje⟩ := SR.rem_at at_ n3 hn31 (by omega)
          have HO0 := Lib.hid (Own.empty_ w12 5 #[] rfl)
          have hE0 : Below w12.heap.size w12 (w12.alloc (Obj.cells #[] 5)) := (Below.refl _ _).alloc (Nat.le_refl _) _
          have HB12' := Lib.hid (HB12.out.below hE0)
          have hs13 : (w12.alloc (Obj.cells #[] 5)).heap.size = w12.heap.size + 1 := World.size_alloc _ _
          have Hs13 := Lib.hid hs13
          clear hs13
          have hjl : jj < b.length := by rw [HN3.out]; exact hjj
          obtain ⟨x, hx⟩ : ∃ x, x = b[jj] := ⟨_, rfl⟩
          have hbx : b[jj]? = some x := by rw [hx]; exact List.getElem?_eq_getElem hjl
          have HBx := Lib.hid hbx
          have ex := W8_xor x tb
          obtain ⟨xt, hxt⟩ : ∃ xt, xt = x ^^^ tb := ⟨_, rfl⟩
          rw [← hxt] at ex
          clear hx hbx hjl hxt
          have tj0 : (0 : Int) ≤ (jj : Int) := by omega
          have tj1 : (jj : Int) < (n3 : Int) := by omega
          go_wp2_with (at_builtin; refine wpList_of_wp rfl (fun K hK => wp_append_bytes (.tmp 136) (.tmp 137) 30 row_u8 rfl b rfl HO0.out w12.heap.size A3 n3 c3 rfl HB12'.out HZ3.out (by (simp only [List.length_nil]; omega)) (by (have := Hs13.out; omega)) ?_); intro v13 w13 hO13 hg13 hd13; have hb13 : Below w12.heap.size w12 w13 := hE0.grown hg13 (by (have := Hs13.out; omega)) (fun g hg => by (cases hg; exact Nat.le_refl _)); have HO13 : Hid (Own 5 w13 w12.heap.size v13 b) := hO13; clear hO13 hg13 hd13 HO0 HB12' hE0; obtain ⟨g2, q2, hv13, hg2b, hg2l⟩ := World.ownsRow.form HO13.out (by (rw [HN3.out]; omega)); rw [HN3.out] at hv13; subst hv13; have hLy := HO13.out.lies.1; have HLy := Lib.hid hLy; have hcx := hLy.cell HBx.out; have hfx := hLy.frozen jj; clear hLy; refine hK _ _ ?_; clear hK K)
          have hL14 := HLy.out.set_ jj xt
          obtain ⟨tl, htl⟩ : ∃ tl, tl = b.set jj xt := ⟨_, rfl⟩
          rw [← htl] at hL14
          have hlen : tl.length = n3 := by rw [htl, List.length_set, HN3.out]
          have hq2 : n3 ≤ q2 := HO13.out.lies.2.2.2
          have hb14 : Below w12.heap.size w12 (w13.setCell ⟨g2, jj, none⟩ (.int .u8 (xt.toNat : Int))) := hb13.setCell (p := ⟨g2, jj, none⟩) hg2b _
          have HL14 : Hid (Lies (w13.setCell ⟨g2, jj, none⟩ (.int .u8 (xt.toNat : Int))) g2 tl) := hL14
          have HTl := Lib.hid htl
          have HLen := Lib.hid hlen
          clear HLy hL14 hcx hfx HO13 hg2l hb13 htl hlen HB12 HBx
          generalize w13.setCell ⟨g2, jj, none⟩ (.int .u8 (xt.toNat : Int)) = w14 at *
          have HK14 := Lib.hid (HK12.out.below hb14 HK12.out.lt)
          have HQ14 := Lib.hid (HQ12.out.below hb14 HQ12.out.lt)
          have HS14 := Lib.hid ((HS12.out.below hb14).more hb14.size)
          have HX14 := Lib.hid ((HX12.out.below hb14).more hb14.size)
          have HE14 : Hid (∀ i, i < n8 → w14.cell? ⟨gI, i, none⟩ = some (.int .i64 ((PS.cat k (Z.take (i + 1))).length : Int))) := fun i hi => (hb14.cell (p := ⟨gI, i, none⟩) hgI12).trans (HE12.out i hi)
          have hgI14 : gI < w14.heap.size := by have := hb14.size; omega
          have hW14 := hW12.trans (hb14.mono hW12.size)
          have hkl14 : w.heap.size + 1 < w14.heap.size := by have := hb14.size; omega
          clear HK12 HQ12 HS12 HX12 HE12 hgI12 hW12 hkl12
          have HT14 := Lib.hid (HL14.out.bytes HLen.out (B := w14.heap.size) HL14.out.lt)
          clear HL14 hb14 hg2b
          obtain ⟨wh, hwh2, hwh1, hwh3⟩ := PS.whole_at k Z jj (by rw [← HBd.out, HN3.out]; exact hjj)
          rw [HZl.out] at hwh2
          have hturn := PS.all_turned k Z HR.out wh (by rw [HZl.out]; exact hwh2) tl (by rw [HTl.out, PS.set_take hwh1, HBd.out, PS.cat_take])
          have hposs := PS.all_pos k tl
          rw [HLen.out] at hposs
          have hcnt := PS.all_count k tl
          rw [HLen.out] at hcnt
          have KA := Lib.hid (sealAll_any k (some ⟨g2, 0, none⟩) n3 q2 w14.heap.size 0 tl w14 HT14.out (Nat.le_refl _) (by omega) hq2 (Nat.zero_le _))
          have KRef := Lib.hid (fun w => refAll_any k n3 0 tl w HLen.out (by omega) (Nat.zero_le _))
          generalize PS.all k tl 0 = R at *
          obtain ⟨r1, r2, r3⟩ := R
          simp only at hturn hposs hcnt
          obtain ⟨rest, hrest⟩ := hturn
          have HRest := Lib.hid hrest
          clear hrest
          go_loopw [28] (fun q wr => ∃ i : Nat, q = .int .i64 (i : Int) ∧ i ≤ wh ∧ w14 = wr) (fun q _ => wh - (intOf q).toNat)
          case atStart => exact ⟨0, rfl, Nat.zero_le _, by first | rfl | trivial⟩
          case round =>
            obtain ⟨i, rfl, hi, rfl⟩ := hrel
            have hcell := HE14.out i (by omega)
            have ti0 : (0 : Int) ≤ (i : Int) := by omega
            have ti1 : (i : Int) < (n8 : Int) := by omega
            by_cases hlt : i < wh
            · have hle : (PS.cat k (Z.take (i + 1))).length ≤ jj := by
                have := PS.cat_mono k Z (show i + 1 ≤ wh by omega)
                omega
              generalize (PS.cat k (Z.take (i + 1))).length = e at *
              have te : (e : Int) ≤ (jj : Int) := by omega
              go_wp2
              go_roundw
              case rel => exact ⟨i + 1, by go_num, hlt, by first | rfl | trivial⟩
              case measure => simp [intOf]; omega
            · obtain rfl : i = wh := by omega
              have hgt : jj < (PS.cat k (Z.take (i + 1))).length := by omega
              generalize (PS.cat k (Z.take (i + 1))).length = e at *
              have te : ¬ (e : Int) ≤ (jj : Int) := by omega
              clear hgt
              obtain ⟨k0, k1, k2, k3, k4, k5, k6, k7⟩ := key_loads HK14.out
              go_wp2_with fail
              refine KA.out.mono ?_
              clear KA k0 k1 k2 k3 k4 k5 k6 k7 hcell
              rintro e w15 ⟨A14, n14, c14, xs14, rfl, hS14, hc14, hm14, hX14, hb15⟩
              have HK15 := Lib.hid (HK14.out.below hb15 HK14.out.lt)
              have HQ15 := Lib.hid (HQ14.out.below hb15 HQ14.out.lt)
              have HS15 := Lib.hid ((HS14.out.below hb15).more hb15.size)
              have HX15 := Lib.hid ((HX14.out.below hb15).more hb15.size)
              have HE15 : Hid (∀ i, i < n8 → w15.cell? ⟨gI, i, none⟩ = some (.int .i64 ((PS.cat k (Z.take (i + 1))).length : Int))) := fun i hi => (hb15.cell (p := ⟨gI, i, none⟩) hgI14).trans (HE14.out i hi)
              have hgI15 : gI < w15.heap.size := by have := hb15.size; omega
              have hW15 := hW14.trans (hb15.mono hW14.size)
              have hkl15 : w.heap.size + 1 < w15.heap.size := by have := hb15.size; omega
              clear HK14 HQ14 HS14 HX14 HE14 hgI14 hW14 hkl14
              have HT15 := Lib.hid ((HT14.out.below hb15).more hb15.size)
              have HSo15 := Lib.hid hS14
              have HXo15 := Lib.hid hX14
              have HMo := Lib.hid hm14
              have hn14 : i ≤ n14 := by
                have h1 := hS14.len
                have h2 := congrArg List.length (hm14.trans HRest.out)
                have h3 : (Z.take i).length = i := by rw [List.length_take, HZl.out]; omega
                rw [List.length_map, List.length_append, h3] at h2
                omega
              have td0 : ¬ (n14 : Int) < (i : Int) := by omega
              have td1 : decide ((n14 : Int) < (i : Int)) = false := decide_eq_false td0
              have td2 : decide (n14 < i) = false := decide_eq_false (by omega)
              have hfa := run_segs_front_at A14 n14 c14 i (by omega)
              have hfb := run_segs_front_at A2 n8 c2 i (by omega)
              clear hS14 hX14 hm14 hb15 HT14
              go_wp2
              have HQ16 : Hid (Blk w15.drew w.heap.size 29 (keyCells k)) := HQ15
              have HS16 : Hid (Segs w15.drew w15.drew.heap.size A2 n8 zs) := HS15
              have HX16 : Hid (Bodies w15.drew w15.drew.heap.size zs) := HX15
              have HT16 : Hid (Bytes w15.drew w15.drew.heap.size (some ⟨g2, 0, none⟩) n3 tl) := HT15
              have HSo16 : Hid (Segs w15.drew w15.drew.heap.size A14 n14 xs14) := HSo15
              have HXo16 : Hid (Bodies w15.drew w15.drew.heap.size xs14) := HXo15
              have hW16 := hW15.drew
              have hkl16 : w.heap.size + 1 < w15.drew.heap.size := hkl15
              refine wp_region_seq (fun x => Below w15.drew.heap.size w15.drew x) [(false, 0), (false, 1), (true, 2), (true, 3), (true, 4), (false, 5), (false, 6), (false, 7), (false, 8), (true, 9), (true, 10), (true, 11), (true, 12), (true, 13)] (by kernel_rfl) (by kernel_rfl) (fun _ _ d _ _ h => by cases d <;> exact h) (Below.refl _ _) ?_
              clear HK15 HQ15 HS15 HX15 HE15 hgI15 hW15 hkl15 HT15 HSo15 HXo15
              generalize w15.drew = w16 at *
              have KS := Lib.hid (segs_any A14 A2 i c14 i c2 w16.heap.size (xs14.take i) (zs.take i) w16 (HSo16.out.front hn14) (fun x hx => HXo16.out x (List.mem_of_mem_take hx)) (HS16.out.front (by omega)) (fun x hx => HX16.out x (List.mem_of_mem_take hx)) (Nat.le_refl _) (by omega) (by omega))
              have hss : sameSegs ((xs14.take i).map (·.seg)) ((zs.take i).map (·.seg)) = true := by
                unfold sameSegs
                rw [List.map_take, List.map_take, HMo.out, HRest.out, ← HZ.out]
                have h3 : (Z.take i).length = i := by rw [List.length_take, HZl.out]; omega
                exact decide_eq_true (by rw [List.take_append_of_le_length (by omega), List.take_of_length_le (by omega)])
              rw [hss] at KS
              clear hss
              iterate 2 (apply plan_take rfl rfl rfl rfl; (intro w' hS K hK; clear hS; go_simp; exact hK))
              iterate 3 (refine plan_force rfl rfl (fun K hK => ?_); go_wp2_with fail; refine hK.out _ _ (Below.refl _ _) ?_; clear hK K)
              iterate 4 (apply plan_take rfl rfl rfl rfl; (intro w' hS K hK; clear hS; go_simp; exact hK))
              iterate 2 (refine plan_force rfl rfl (fun K hK => ?_); go_wp2_with fail; refine hK.out _ _ (Below.refl _ _) ?_; clear hK K)
              refine plan_force rfl rfl (fun K hK => ?_)
              go_wp2_with fail
              refine KS.out.mono ?_
              clear KS
              rintro e w17 ⟨rfl, hb17⟩
              go_wp2_with fail
              refine hK.out _ _ hb17 ?_
              clear hK K
              iterate 2 (refine plan_force rfl rfl (fun K hK => ?_); go_wp2_with fail; refine hK.out _ _ hb17 ?_; clear hK K)
              refine plan_nil ?_
              have HQ17 := Lib.hid (HQ16.out.below hb17 HQ16.out.lt)
              have HT17 := Lib.hid ((HT16.out.below hb17).more hb17.size)
              have HSo17 := Lib.hid ((HSo16.out.below hb17).more hb17.size)
              have HXo17 := Lib.hid ((HXo16.out.below hb17).more hb17.size)
              have hW17 := hW16.trans (hb17.mono hW16.size)
              clear HQ16 HS16 HX16 HT16 HSo16 HXo16 hW16 hkl16 hb17
              have hcv : (convert 30 9 (.slice (some ⟨g2, 0, none⟩) n3 q2)).run Try.prog w17 = .ok (.string ⟨tl.toArray⟩) w17 := conv_bytes conv_u8 q2 HT17.out
              obtain ⟨k0, k1, k2, k3, k4, k5, k6, k7⟩ := key_loads HQ17.out
              go_wp2_with fail
              refine (KRef.out w17).mono ?_
              clear KRef k0 k1 k2 k3 k4 k5 k6 k7 hcv
              rintro e w18 ⟨A16, n16, c16, xs16, rfl, hSh, hch, hmh, hXh, hb18⟩
              have HSo18 := Lib.hid ((HSo17.out.below hb18).more hb18.size)
              have HXo18 := Lib.hid ((HXo17.out.below hb18).more hb18.size)
              have HSh18 := Lib.hid hSh
              have HXh18 := Lib.hid hXh
              have HMh := Lib.hid hmh
              have hW18 := hW17.trans (hb18.mono hW17.size)
              clear hSh hXh hmh hb18 HQ17 HT17 HSo17 HXo17 hW17
              go_wp2_with fail
              refine (told17 w18).mono ?_
              rintro e w19 ⟨rfl, hb19⟩
              have hW19 := hW18.trans (hb19.mono hW18.size)
              have HSo19 := Lib.hid ((HSo18.out.below hb19).more hb19.size)
              have HXo19 := Lib.hid ((HXo18.out.below hb19).more hb19.size)
              have HSh19 := Lib.hid ((HSh18.out.below hb19).more hb19.size)
              have HXh19 := Lib.hid ((HXh18.out.below hb19).more hb19.size)
              have hlo := HSo19.out.len
              have hlh := HSh19.out.len
              have hlr := congrArg List.length HMo.out
              have hlr2 := congrArg List.length HMh.out
              rw [List.length_map] at hlr hlr2
              have hrb : r1.length ≤ 1000000 := by
                omega
              have KS := Lib.hid (segs_any A14 A16 n14 c14 n16 c16 w19.heap.size xs14 xs16 w19 HSo19.out HXo19.out HSh19.out HXh19.out (Nat.le_refl _) (by omega) (by omega))
              have hss : sameSegs (xs14.map (·.seg)) (xs16.map (·.seg)) = true := by
                unfold sameSegs
                rw [HMo.out, HMh.out]
                exact decide_eq_true rfl
              rw [hss] at KS
              clear hss HSo18 HXo18 HSh18 HXh18 hW18 hlo hlh hlr hlr2 hrb
              have tpos : (r2 : Int) ≤ (n3 : Int) := by omega
              go_wp2_with fail
              refine KS.out.mono ?_
              rintro e w20 ⟨rfl, hb20⟩
              have hW20 := hW19.trans (hb20.mono hW19.size)
              go_wp2
              go_ret
              exact ⟨rfl, hW20⟩
theorem walkSealRow (k : PL.K8) (A : Option Addr) (n c : Nat) (xs : List SegV) (cut at_ t : Int) (w : World) (hS : Segs w w.heap.size A n xs) (hX : Bodies w w.heap.size xs) (hnc : n ≤ c) (hcm : c ≤ maxLen) (hz : A = none → n = 0 ∧ c = 0) (h1 : (Lit.int .i64 cut).wf = true) (h2 : (Lit.int .i64 at_).wf = true) (h3 : (Lit.int .u8 t).wf = true) :
    Calls Try.prog 8 #[.agg (keyCells k), .slice A n c, .int .i64 cut, .int .i64 at_, .int .u8 t] w fun e w' => e = .returned (.bool true) ∧ Below w.heap.size w w' := by
  have hb := bounds_u8 h3
  have h4 : ((UInt8.ofNat t.toNat).toNat : Int) = t := by rw [UInt8.toNat_ofNat']; omega
  have h5 := sealRow k A n c xs cut at_ (UInt8.ofNat t.toNat) w hS hX hnc hcm
  rw [h4] at h5
  exact h5
end Go.Proofs.Ytobbjhbjjhnicaa
