/- The walk of SealOrders. -/
import Derived.Test.YtobbjhbjjhnicaaSealRowF
import Derived.Test.YtobbjhbjjhnicaaSegSlices
import Derived.Test.YtobbjhbjjhnicaaWalkSealBounds
namespace Go.Proofs.Ytobbjhbjjhnicaa
open Go.RowKit
set_option linter.unusedVariables false
namespace SO
theorem rem_ok (x : Int) (m : Nat) (hm : 2 ≤ m) (hm2 : m ≤ 100) : ∃ q : Nat, q < m - 1 ∧ wrap64 ((IntKind.u64.wrap x).tmod ((m : Int) - 1)) = (q : Int) := by
  have h0 : 0 ≤ IntKind.u64.wrap x := by rw [IntKind.wrap_u64]; omega
  obtain ⟨d, hd⟩ : ∃ d : Nat, (m : Int) - 1 = (d : Int) := ⟨m - 1, by omega⟩
  rw [Int.tmod_eq_emod_of_nonneg h0, hd]
  have h1 := Int.emod_nonneg (IntKind.u64.wrap x) (b := (d : Int)) (by omega)
  have h2 := Int.emod_lt_of_pos (IntKind.u64.wrap x) (b := (d : Int)) (by omega)
  generalize (IntKind.u64.wrap x) % (d : Int) = r at *
  refine ⟨r.toNat, by omega, ?_⟩
  rw [IntWalk.wrap64_in r (by omega)]
  omega
theorem other (k : PL.K8) {Z : List PS.Seg} (h : PS.IsRow Z) {q i : Nat} {x : PS.Seg} (hq : q < Z.length) (hx : Z[i]? = some x) (hi : i ≠ q) (rest : List PS.Seg) :
    (PS.all k (PS.cat k (Z.take q ++ x :: rest)) 0).1 = Z.take q ∧ (PS.all k (PS.cat k (Z.take q ++ x :: rest)) 0).2.2 = 2 := by
  obtain ⟨hL, _⟩ := PS.take_row h hq
  have hil : i < Z.length := (List.getElem?_eq_some_iff.1 hx).1
  obtain ⟨_, y, hy, hm, hp⟩ := PS.take_row h hil
  rw [hx] at hy
  cases hy
  have hl : (Z.take q).length = q := by rw [List.length_take]; omega
  have := PS.all_other k (Z.take q) rest x hL hm (by rw [hp, hl]; omega)
  exact this
theorem mem_drop {α : Type} {x : α} {l : List α} {n : Nat} (h : x ∈ l.drop n) : x ∈ l := (List.drop_sublist n l).subset h
end SO
set_option maxRecDepth 100000 in
set_option maxHeartbeats 8000000 in
theorem sealOrders (k : PL.K8) (A : Option Addr) (n c : Nat) (xs : List SegV) (which how : Int) (w : World) (hS : Segs w w.heap.size A n xs) (hX : Bodies w w.heap.size xs) (hnc : n ≤ c) (hcm : c ≤ maxLen) :
    Calls Try.prog 9 #[.agg (keyCells k), .slice A n c, .int .i64 which, .int .i64 how] w fun e w' => e = .returned (.bool true) ∧ Below w.heap.size w w' := by
  have hW0 : Below w.heap.size w (w.alloc (Obj.cells (keyCells k) 29)) := (Below.refl _ _).alloc (Nat.le_refl _) _
  have HS := Lib.hid (hS.below hW0)
  have HX := Lib.hid (hX.below hW0)
  have HK0 := Lib.hid (Blk.new w 29 (keyCells k))
  clear hS hX
  go_enter Try.func9, Try.ntmps9
  go_wp2_with fail
  refine (few_any A n c w.heap.size xs 6 _ HS.out HX.out (by omega)).mono ?_
  rintro e w1 ⟨b, rfl, hfew, rfl⟩
  have told_end : ∀ w1, Below w.heap.size w w1 → Calls Try.prog 23 #[] w1 fun e w' => e = .returned (.bool true) ∧ Below w.heap.size w w' := by
    intro w1 hW
    refine (told17 w1).mono ?_
    rintro e w2 ⟨rfl, hb⟩
    exact ⟨rfl, hW.trans (hb.mono hW.size)⟩
  cases b
  · clear hfew
    go_wp2_with fail
    refine (told_end _ hW0).mono ?_
    rintro e w2 ⟨rfl, hW2⟩
    go_wp2
    go_ret
    exact ⟨rfl, hW2⟩
  by_cases hn1 : n < 1
  · have tn : (n : Int) < 1 := by omega
    clear hfew
    go_wp2_with fail
    refine (told_end _ hW0).mono ?_
    rintro e w2 ⟨rfl, hW2⟩
    go_wp2
    go_ret
    exact ⟨rfl, hW2⟩
  obtain ⟨hf, hn6⟩ := hfew rfl
  have tn : ¬ (n : Int) < 1 := by omega
  obtain ⟨k0, k1, k2, k3, k4, k5, k6, k7⟩ := key_loads HK0.out
  clear hfew told_end
  go_wp2_with fail
  have hV1 : Below w.heap.size (w.alloc (Obj.cells (keyCells k) 29)) ((w.alloc (Obj.cells (keyCells k) 29)).alloc (Obj.cells (keyCells k) 31)) := (Below.refl _ _).alloc (by rw [World.size_alloc]; omega) _
  have hW1 := hW0.trans hV1
  have HS1 := Lib.hid (HS.out.below hV1)
  have HX1 := Lib.hid (HX.out.below hV1)
  have HK1 : Hid (Blk ((w.alloc (Obj.cells (keyCells k) 29)).alloc (Obj.cells (keyCells k) 31)) (w.heap.size + 1) 31 (keyCells k)) := by
    have := Blk.new (w.alloc (Obj.cells (keyCells k) 29)) 31 (keyCells k)
    rwa [World.size_alloc] at this
  refine (row_any A n c xs ((w.alloc (Obj.cells (keyCells k) 29)).alloc (Obj.cells (keyCells k) 31)) (HS1.out.more hW1.size) (HX1.out.more hW1.size) hf (by omega)).mono ?_
  rintro e w2 ⟨A2, m, c2, zs, rfl, hS2, hc2, hz2, hX2, hR, hf2, hm, hb2⟩
  have HK2 := Lib.hid (HK1.out.below hb2 HK1.out.lt)
  have hW2 := hW1.trans (hb2.mono hW1.size)
  have HS2 := Lib.hid hS2
  have HX2 := Lib.hid hX2
  have HR := Lib.hid hR
  have HF2 := Lib.hid hf2
  have hm2 : 2 ≤ m := by omega
  have hm7 : m ≤ 7 := by omega
  have hkl := HK2.out.lt
  clear HS HX HS1 HX1 HK0 HK1 hV1 hW0 hW1 hf hS2 hX2 hR hf2 hm hb2 k0 k1 k2 k3 k4 k5 k6 k7 hn1 hn6 tn
  obtain ⟨wi, hwi, hwe⟩ := SO.rem_ok which m hm2 (by omega)
  have hne : ¬ ((m : Int) - 1) = 0 := by omega
  have hfr := run_segs_front_at A2 m c2 wi (by omega)
  have HO0 := Lib.hid (OwnS.empty_ w2 50 #[] rfl)
  have HT0 := Lib.hid ((HS2.out.front (j := wi) (by omega)).below (Below.alloc (Below.refl _ w2) (Nat.le_refl _) (.cells #[] 50)))
  go_wp2_with (at_builtin; (refine wpList_of_wp rfl (fun K hK => wp_append_segs (.tmp 41) (.tmp 44) rfl (zs.take wi) rfl HO0.out w2.heap.size A2 wi c2 rfl HT0.out hz2 (by (simp only [List.length_nil]; omega)) (by (rw [World.size_alloc]; omega)) ?_)); intro v3 w3 hO3 hg3 hd3; have hb3 : Below w2.heap.size w2 w3 := ((Below.refl _ _).alloc (Nat.le_refl _) _).grown hg3 (by (rw [World.size_alloc]; omega)) (fun g hg => by (cases hg; exact Nat.le_refl _)); have HO3 : Hid (OwnS w3 w2.heap.size v3 (zs.take wi)) := hO3; clear hO3 hg3 hd3 HO0 HT0; have HKK := Lib.hid hK; clear hK)
  refine HKK.out _ _ ?_
  clear HKK
  iterate 21 go_step
  rename_i K hK
  have fin : ∀ (a' : Act) (w' : World) (v : Value) (ys : List SegV) (q : Nat), (∃ u : Nat → Value, a' = ⟨#[u 0, u 1, .int .i64 which, .int .i64 how, u 4, u 5, u 6, u 7, .bool false, .pointer (some ⟨w.heap.size + 1, 0, none⟩), .slice A2 m c2, .int .i64 (wi : Int), v, u 13, u 14, u 15, u 16, u 17, u 18, u 19, u 20, u 21, u 22, u 23, u 24, u 25, u 26, u 27, u 28, u 29, u 30, u 31, u 32, u 33, u 34, u 35, u 36, u 37, u 38, u 39, u 40, u 41, u 42, u 43, u 44, u 45, u 46, u 47, u 48, u 49, u 50, u 51, u 52, u 53, u 54, u 55, u 56, u 57, u 58, u 59, u 60, u 61, u 62, u 63, u 64, u 65, u 66, u 67, u 68, u 69, u 70, u 71, u 72, u 73, u 74, u 75, u 76, u 77, u 78, u 79, u 80, u 81, u 82, u 83, u 84, u 85, u 86, u 87, u 88, u 89, u 90, u 91, u 92, u 93, u 94, u 95, u 96, u 97, u 98, u 99, u 100, u 101, u 102, u 103, u 104, u 105, u 106, u 107, u 108, u 109, u 110, u 111, u 112, u 113, u 114, u 115, u 116, u 117, u 118, u 119, u 120, u 121, u 122, u 123, u 124, u 125, u 126, u 127, u 128, u 129, u 130, u 131, u 132, u 133, u 134, u 135, u 136, u 137, u 138, u 139, u 140, u 141, u 142, u 143], []⟩) → OwnS w' w2.heap.size v ys → (∀ y ∈ ys, y ∈ zs) → ys.length ≤ 14 → Below w2.heap.size w2 w' → q ≤ m →
      ((((IntKind.u64.wrap how).tmod 3 == 2) = true ∧ (wi : Int) + 1 = (q : Int)) ∨ (((IntKind.u64.wrap how).tmod 3 == 2) = false ∧ q = wi)) →
      ((PS.all k (PS.cat k (ys.map (·.seg))) 0).1 = (zs.map (·.seg)).take q ∧ (PS.all k (PS.cat k (ys.map (·.seg))) 0).2.2 = 2) → K a' w' := by
    rintro a' w' v ys q ⟨u, rfl⟩ hO hys hy14 hb hqm hq hall
    refine hK _ _ ?_
    clear hK
    obtain ⟨A3, n3, c3, rfl, hS3, hc3, _⟩ := hO.form
    have hn3 : n3 = ys.length := hS3.len.symm
    have HS3 := Lib.hid hS3
    have HK3 := Lib.hid (HK2.out.below hb (by omega))
    have HSz := Lib.hid (HS2.out.below hb)
    have HXz := Lib.hid (HX2.out.below hb)
    have HYs : Hid (∀ y ∈ ys, Bytes w' w2.heap.size y.A y.n y.seg.body ∧ PS.may y.seg = true ∧ y.seg.body.length ≤ 300) := by
      intro y hy
      have hz := hys y hy
      refine ⟨(HXz.out y hz).1, ?_, HF2.out y hz⟩
      obtain ⟨o, z, e, hL, h1, _⟩ := HR.out
      have hmem : y.seg ∈ o ++ [z] := by rw [← e]; exact List.mem_map.2 ⟨y, hz, rfl⟩
      rcases List.mem_append.1 hmem with h | h
      · obtain ⟨i, hi, hx⟩ := List.mem_iff_getElem.1 h
        exact (hL i y.seg (by rw [← hx]; exact List.getElem?_eq_getElem hi)).1
      · rw [List.mem_singleton.1 h]
        exact h1
    have hsz := hb.size
    have hW3 := hW2.trans (hb.mono hW2.size)
    have HAll := Lib.hid hall
    have HQ := Lib.hid hq
    have hn14 : n3 ≤ 14 := by omega
    have HN3 := Lib.hid hn3
    clear hO hys hb hall hq hS3 HK2 HS2 HX2 hW2 hn3 hwe hne hfr
    go_wp2
    go_loopw [13, 14] (fun v i wr => ∃ (j : Nat), i = .int .i64 j ∧ j ≤ n3 ∧ Hid (Own 5 wr w'.heap.size v (PS.cat k ((ys.map (·.seg)).take j))) ∧ Hid ((PS.cat k ((ys.map (·.seg)).take j)).length ≤ j * 350) ∧ Below w'.heap.size w' wr) (fun _ i _ => n3 - (intOf i).toNat)
    case atStart => exact ⟨0, rfl, Nat.zero_le _, Own.nil_, Nat.le_refl _, Below.refl _ _⟩
    case round =>
      obtain ⟨j, rfl, hj, HO, HL, hb⟩ := hrel
      by_cases hlt : j < n3
      · have tj : (j : Int) < (n3 : Int) := by omega
        have hb2 := hb.drew
        obtain ⟨bb, off, y, rfl, hbb, hy, s0, s1, s2, s3⟩ := (HS3.out.below hb2).pick hlt
        have hym := List.mem_of_getElem? hy
        obtain ⟨hy1, hy2, hy3⟩ := HYs.out y hym
        have HY1 : Hid (Bytes wr.drew w2.heap.size y.A y.n y.seg.body) := hy1.below (hb2.mono (by omega))
        have HY2 := Lib.hid hy2
        have HY3 := Lib.hid hy3
        have hyn : y.n ≤ 300 := by rw [← hy1.len]; exact hy3
        have HK4 := Lib.hid (HK3.out.below hb2 HK3.out.lt)
        have hsw : w'.heap.size ≤ wr.drew.heap.size := hb2.size
        have HO4 := Lib.hid HO.out.drew
        have HCat : Hid (PS.cat k ((ys.map (·.seg)).take (j + 1)) = PS.cat k ((ys.map (·.seg)).take j) ++ PS.put k y.seg) := by
          show _ = _
          rw [List.take_add_one, List.getElem?_map, hy, PS.cat_append]
          simp [PS.cat]
        clear hy hym hy1 hy2 hy3 HO hb
        go_wp2
        refine wp_region_seq (fun x => Below wr.drew.heap.size wr.drew x) [(false, 0), (false, 1), (true, 2), (true, 3), (true, 4), (true, 5), (true, 6), (false, 7), (false, 8), (true, 9), (true, 10)] (by kernel_rfl) (by kernel_rfl) (fun _ _ d _ _ h => by cases d <;> exact h) (Below.refl _ _) ?_
        generalize wr.drew = w4 at *
        iterate 2 (apply plan_take rfl rfl rfl rfl; (intro w' hS K hK; obtain ⟨k0, k1, k2, k3, k4, k5, k6, k7⟩ := key_loads (HK4.out.below hS HK4.out.lt); clear hS; go_simp; exact hK))
        iterate 3 (refine plan_force rfl rfl (fun K hK => ?_); go_wp2_with fail; refine hK.out _ _ (Below.refl _ _) ?_; clear hK K)
        refine plan_force rfl rfl (fun K hK => ?_)
        go_wp2_with fail
        refine (sealPut_any k y.seg y.n y.c y.A w4 (HY1.out.more (by omega)) (by omega)).mono ?_
        rintro e w5 ⟨A5, n5, c5, code, rfl, hc5, hz5, hd5, hb5⟩
        have hd6 : code = 0 ∧ Bytes w5 w5.heap.size A5 n5 (PS.put k y.seg) := by
          rcases hd5 with ⟨_, h1, h2⟩ | ⟨h1, _⟩
          · exact ⟨h1, h2⟩
          · rw [HY2.out] at h1
            cases h1
        obtain ⟨rfl, hB5⟩ := hd6
        have HB5 := Lib.hid hB5
        have hn5 : n5 ≤ 350 := by rw [← hB5.len]; have := PS.put_bound k y.seg HY2.out; have := HY3.out; omega
        have HO5 := Lib.hid (HO4.out.below hb5 HO4.out.lt)
        have hb6 := hb2.trans (hb5.mono hsw)
        have HZ5 := Lib.hid hz5
        go_wp2_with fail
        refine hK.out _ _ hb5 ?_
        clear hK K hd5 hB5 hz5
        refine plan_force rfl rfl (fun K hK => ?_); go_wp2_with fail; refine hK.out _ _ hb5 ?_; clear hK K
        iterate 2 (apply plan_take rfl rfl rfl rfl; (intro w' hS K hK; clear hS; go_simp; exact hK))
        iterate 2 (refine plan_force rfl rfl (fun K hK => ?_); go_wp2_with fail; refine hK.out _ _ hb5 ?_; clear hK K)
        refine plan_nil ?_
        clear HO4 HY1 HK4 hb2 s0 s1 s2 s3
        have hs5 := hb5.size
        clear hb5
        go_wp2_with (at_builtin; (refine wpList_of_wp rfl (fun K hK => wp_append_bytes (.tmp 109) (.tmp 110) 30 row_u8 rfl (PS.put k y.seg) rfl HO5.out w5.heap.size A5 n5 c5 rfl HB5.out HZ5.out (by (have := HL.out; omega)) (by omega) ?_)); intro v6 w6 hO6 hg6 hd6; have HO6 := Lib.hid hO6; have hb7 := hb6.grown hg6 (by omega) (fun g hg => HO5.out.base_ g hg); clear hO6 hg6 hd6; refine hK _ _ ?_; clear hK K)
        go_roundw
        case rel => exact ⟨j + 1, by go_num, hlt, by show Own _ _ _ _ _; rw [HCat.out]; exact HO6, by show _ ≤ _; rw [HCat.out, List.length_append, HB5.out.len]; have := HL.out; omega, hb7⟩
        case measure => simp [intOf]; omega
      · obtain rfl : j = n3 := by omega
        have hfull : (ys.map (·.seg)).take j = ys.map (·.seg) := List.take_of_length_le (by rw [List.length_map, HN3.out]; exact Nat.le_refl _)
        have hO := HO.out
        rw [hfull] at hO
        have hL := HL.out
        rw [hfull] at hL
        obtain ⟨A7, n7, c7, rfl, hB7, hc7, hz7⟩ := hO.form_n
        have hn7 : n7 ≤ 90000 := by rw [← hB7.len]; omega
        have HB7 := Lib.hid hB7
        have HK7 := Lib.hid (HK3.out.below hb HK3.out.lt)
        have HSz7 := Lib.hid ((HSz.out.below (hb.mono hsz)).front hqm)
        have HXz7 := Lib.hid (HXz.out.below (hb.mono hsz))
        have hW7 := hW3.trans (hb.mono hW3.size)
        have hs7 : w2.heap.size ≤ wr.heap.size := by have := hb.size; omega
        have hlz := HSz.out.len
        have HLz : Hid (((zs.map (·.seg)).take q).length = q) := by show _ = _; rw [List.length_take, List.length_map, hlz]; omega
        have hall := HAll.out
        have KA := Lib.hid (sealAll_any k A7 n7 c7 wr.heap.size 0 (PS.cat k (ys.map (·.seg))) wr HB7.out (Nat.le_refl _) hn7 hc7 (Nat.zero_le _))
        generalize PS.all k (PS.cat k (ys.map (·.seg))) 0 = R at *
        obtain ⟨r1, r2, r3⟩ := R
        simp only at hall
        obtain ⟨hr1, rfl⟩ := hall
        have HR1 := Lib.hid hr1
        have hq2 := HQ.out
        have hcc : q ≤ c2 := by omega
        have hfr := run_segs_front_at A2 m c2 q hcc
        obtain ⟨k0, k1, k2, k3, k4, k5, k6, k7⟩ := key_loads HK7.out
        clear HO HL hO hL hfull hB7 HK3 HSz HXz hb HAll HQ hr1 HYs hlz HS3
        rcases hq2 with ⟨h2, hq2⟩ | ⟨h2, rfl⟩
        all_goals
          go_wp2_with fail
          refine KA.out.mono ?_
          clear KA k0 k1 k2 k3 k4 k5 k6 k7
          rintro e w8 ⟨A8, n8, c8, xs8, rfl, hS8, hc8, hm8, hX8, hb8⟩
          have hm9 := hm8.trans HR1.out
          have hn8 : n8 = q := by
            rw [← hS8.len, ← HLz.out, ← hm9, List.length_map]
          subst hn8
          have HS8 := Lib.hid hS8
          have HX8 := Lib.hid hX8
          have HM9 := Lib.hid hm9
          have HSz8 := Lib.hid (HSz7.out.below (hb8.mono hs7))
          have HXz8 := Lib.hid (HXz7.out.below (hb8.mono hs7))
          have hW8 := hW7.trans (hb8.mono hW7.size)
          have hs8 : w2.heap.size ≤ w8.heap.size := by have := hb8.size; omega
          clear hS8 hX8 hm8 hm9 hb8 HSz7 HXz7 hW7
          go_wp2_with fail
          refine (told17 w8).mono ?_
          rintro e w9 ⟨rfl, hb9⟩
          have HS9 := Lib.hid ((HS8.out.below hb9).more hb9.size)
          have HX9 := Lib.hid ((HX8.out.below hb9).more hb9.size)
          have HSz9 := Lib.hid ((HSz8.out.below (hb9.mono hs8)).more (B' := w9.heap.size) (by have := hb9.size; omega))
          have HXz9 := Lib.hid ((HXz8.out.below (hb9.mono hs8)).more (B' := w9.heap.size) (by have := hb9.size; omega))
          have hW9 := hW8.trans (hb9.mono hW8.size)
          clear HS8 HX8 HSz8 HXz8 hW8 hb9
          go_wp2_with fail
          refine (segs_any A8 A2 n8 c8 n8 c2 w9.heap.size xs8 (zs.take n8) w9 HS9.out HX9.out HSz9.out (fun x hx => HXz9.out x (List.mem_of_mem_take hx)) (Nat.le_refl _) (by omega) (by omega)).mono ?_
          have hss : sameSegs (xs8.map (·.seg)) ((zs.take n8).map (·.seg)) = true := by
            unfold sameSegs
            rw [HM9.out, List.map_take]
            exact decide_eq_true rfl
          rw [hss]
          rintro e w10 ⟨rfl, hb10⟩
          have hW10 := hW9.trans (hb10.mono hW9.size)
          clear hss
          go_wp2
          go_ret
          exact ⟨rfl, hW10⟩
  have HF := Lib.hid fin
  clear fin hK hne hwe hfr
  have hzl := HS2.out.len
  have HZl := Lib.hid hzl
  clear hzl
  have hs23 := hb3.size
  have h3 : (IntKind.u64.wrap how).tmod 3 = 0 ∨ (IntKind.u64.wrap how).tmod 3 = 1 ∨ (IntKind.u64.wrap how).tmod 3 = 2 := by
    have h0 : 0 ≤ IntKind.u64.wrap how := by rw [IntKind.wrap_u64]; omega
    rw [Int.tmod_eq_emod_of_nonneg h0]
    omega
  rcases h3 with h3 | h3 | h3
  · have h32 : ((IntKind.u64.wrap how).tmod 3 == 2) = false := by rw [h3]; rfl
    have HH := Lib.hid h32
    have hre : ∀ w, (Instr.sliceAt 43 (.slice A2 m c2) (some (.int .i64 ((wi : Int) + 2))) none none).run Try.prog w = .ok (.slice (cut4 A2 (wi + 2) c2) (m - (wi + 2)) (c2 - (wi + 2))) w := fun w => by
      have := run_segs_rest_at A2 m c2 (wi + 2) (by omega) w
      rwa [show ((wi + 2 : Nat) : Int) = (wi : Int) + 2 by omega] at this
    clear h32
    obtain ⟨b0, o0, z0, hA0, hb0, hz0, e0, e1, e2, e3⟩ := HS2.out.pick (k := wi) (by omega)
    obtain ⟨b1, o1, z1, hA1, hb1, hz1, f0, f1, f2, f3⟩ := HS2.out.pick (k := wi + 1) (by omega)
    subst hA0
    cases hA1
    have HZ0 := Lib.hid hz0
    have HZ1 := Lib.hid hz1
    have HE := Lib.hid (And.intro e0 (And.intro e1 (And.intro e2 (And.intro e3 (And.intro f0 (And.intro f1 (And.intro f2 f3)))))))
    clear hz0 hz1 hb1 e0 e1 e2 e3 f0 f1 f2 f3
    have jw1 : IntKind.i64.wrap ((wi : Int) + 1) = (wi : Int) + 1 := IntWalk.i64_in _ ⟨by omega, by omega⟩
    have jw2 : IntKind.i64.wrap ((wi : Int) + 2) = (wi : Int) + 2 := IntWalk.i64_in _ ⟨by omega, by omega⟩
    have jw3 : (0 : Int) ≤ (wi : Int) + 1 := by omega
    have jw4 : (wi : Int) + 1 < (m : Int) := by omega
    have jw5 : ((wi : Int) + 1).toNat = wi + 1 := by omega
    have jw6 : (wi : Int) < (m : Int) := by omega
    go_wp2
    have hb4 := hb3.drew
    have HO4 := Lib.hid HO3.out.drew
    refine wp_region_seq (fun x => Below w2.heap.size w2 x) [(false, 0), (false, 1), (false, 2), (false, 3), (false, 4), (false, 5), (false, 6), (false, 7), (false, 8), (false, 9), (false, 12), (false, 13), (false, 14), (false, 15), (true, 10), (true, 11), (true, 16), (true, 17)] (by kernel_rfl) (by kernel_rfl) (fun _ _ d _ _ h => by cases d <;> exact h) hb4 ?_
    have hs24 : w2.heap.size ≤ w3.drew.heap.size := hb4.size
    clear HO3 hb3
    generalize w3.drew = w4 at *
    iterate 14 (apply plan_take rfl rfl rfl rfl; (intro w' hS K hK; obtain ⟨e0, e1, e2, e3, f0, f1, f2, f3⟩ := HE.out; have s0 := (hS.cell (p := ⟨b0, o0 + wi * 4, none⟩) hb0).trans e0; have s1 := (hS.cell (p := ⟨b0, o0 + wi * 4 + 1, none⟩) hb0).trans e1; have s2 := (hS.cell (p := ⟨b0, o0 + wi * 4 + 2, none⟩) hb0).trans e2; have s3 := (hS.cell (p := ⟨b0, o0 + wi * 4 + 3, none⟩) hb0).trans e3; have r0 := (hS.cell (p := ⟨b0, o0 + (wi + 1) * 4, none⟩) hb0).trans f0; have r1 := (hS.cell (p := ⟨b0, o0 + (wi + 1) * 4 + 1, none⟩) hb0).trans f1; have r2 := (hS.cell (p := ⟨b0, o0 + (wi + 1) * 4 + 2, none⟩) hb0).trans f2; have r3 := (hS.cell (p := ⟨b0, o0 + (wi + 1) * 4 + 3, none⟩) hb0).trans f3; clear e0 e1 e2 e3 f0 f1 f2 f3; clear hS; go_simp; exact hK))
    have hS5 : Below w2.heap.size w2 (w4.alloc (Obj.cells #[.int .i64 z1.seg.kind, .int .i64 z1.seg.place, .bool z1.seg.last, .slice z1.A z1.n z1.c, .int .i64 z0.seg.kind, .int .i64 z0.seg.place, .bool z0.seg.last, .slice z0.A z0.n z0.c] 50)) := hb4.alloc hb4.size _
    have HT5 := Lib.hid (Segs.two (B := w4.heap.size + 1) (Blk.new w4 50 #[.int .i64 z1.seg.kind, .int .i64 z1.seg.place, .bool z1.seg.last, .slice z1.A z1.n z1.c, .int .i64 z0.seg.kind, .int .i64 z0.seg.place, .bool z0.seg.last, .slice z0.A z0.n z0.c]) (Nat.lt_succ_self _))
    have HO5 := Lib.hid (HO4.out.alloc (Obj.cells #[.int .i64 z1.seg.kind, .int .i64 z1.seg.place, .bool z1.seg.last, .slice z1.A z1.n z1.c, .int .i64 z0.seg.kind, .int .i64 z0.seg.place, .bool z0.seg.last, .slice z0.A z0.n z0.c] 50))
    refine plan_force rfl rfl (fun K hK => ?_)
    go_wp2_with fail
    refine hK.out _ _ hS5 ?_
    clear hK K
    generalize w4.alloc (Obj.cells #[.int .i64 z1.seg.kind, .int .i64 z1.seg.place, .bool z1.seg.last, .slice z1.A z1.n z1.c, .int .i64 z0.seg.kind, .int .i64 z0.seg.place, .bool z0.seg.last, .slice z0.A z0.n z0.c] 50) = w5 at *
    refine plan_force rfl rfl (fun K hK => ?_)
    refine wp_append_segs (.tmp 67) (.tmp 77) rfl [z1, z0] rfl HO5.out (w4.heap.size + 1) (some ⟨w4.heap.size, 0, none⟩) 2 2 rfl HT5.out (fun h => by cases h) (by rw [List.length_take]; omega) hS5.size ?_
    intro v6 w6 hO6 hg6 hd6
    have hb6 := hS5.grown hg6 hS5.size (fun g hg => HO5.out.base_ g hg)
    have HO6 := Lib.hid hO6
    have HT6 := Lib.hid ((HS2.out.below hb6).rest (i := wi + 2) (c := c2) (by omega) hc2)
    refine hK.out _ _ hb6 ?_
    clear hK K hO6 hg6 hd6
    refine plan_force rfl rfl (fun K hK => ?_)
    refine wp_append_segs (.tmp 78) (.tmp 82) rfl (zs.drop (wi + 2)) rfl HO6.out w2.heap.size (cut4 (some ⟨b0, o0, none⟩) (wi + 2) c2) (m - (wi + 2)) (c2 - (wi + 2)) rfl HT6.out (fun h => by cases cut4_none h) (by simp only [List.length_append, List.length_take, List.length_cons, List.length_nil]; omega) hb6.size ?_
    intro v7 w7 hO7 hg7 hd7
    have hb7 := hb6.grown hg7 hb6.size (fun g hg => HO6.out.base_ g hg)
    refine hK.out _ _ hb7 ?_
    clear hK K
    refine plan_force rfl rfl (fun K hK => ?_); go_wp2_with fail; refine hK.out _ _ hb7 ?_; clear hK K
    refine plan_nil ?_
    have hmem : ∀ y ∈ (zs.take wi ++ [z1, z0]) ++ zs.drop (wi + 2), y ∈ zs := by
      intro y hy
      rcases List.mem_append.1 hy with hy | hy
      · rcases List.mem_append.1 hy with hy | hy
        · exact List.mem_of_mem_take hy
        · simp only [List.mem_cons, List.not_mem_nil, or_false] at hy
          rcases hy with rfl | rfl
          · exact List.mem_of_getElem? HZ1.out
          · exact List.mem_of_getElem? HZ0.out
      · exact SO.mem_drop hy
    have hlen : ((zs.take wi ++ [z1, z0]) ++ zs.drop (wi + 2)).length ≤ 14 := by
      simp only [List.length_append, List.length_take, List.length_drop, List.length_cons, List.length_nil]
      have := HZl.out
      omega
    have h0 : (zs.map (·.seg))[wi]? = some z0.seg := by rw [List.getElem?_map, HZ0.out]; rfl
    have h1 : (zs.map (·.seg))[wi + 1]? = some z1.seg := by rw [List.getElem?_map, HZ1.out]; rfl
    have hzz : (zs.map (·.seg)).length = m := by rw [List.length_map]; exact HZl.out
    have e : ((zs.take wi ++ [z1, z0]) ++ zs.drop (wi + 2)).map (·.seg) = (zs.map (·.seg)).take wi ++ z1.seg :: (z0.seg :: (zs.drop (wi + 2)).map (·.seg)) := by
      simp [List.map_take]
    have hall := SO.other k HR.out (q := wi) (i := wi + 1) (by omega) h1 (by omega) (z0.seg :: (zs.drop (wi + 2)).map (·.seg))
    rw [← e] at hall
    exact HF.out _ _ v7 _ (wi) ⟨slot [_, _, undef, undef, _, _, _, _, undef, undef, undef, undef, undef, _, _, _, _, _, _, _, _, _, _, _, _, _, _, _, _, _, _, _, _, _, _, _, _, _, _, _, _, _, _, _, _, _, _, _, _, _, _, _, _, _, _, _, _, _, _, _, _, _, _, _, _, _, _, _, _, _, _, _, _, _, _, _, _, _, _, _, _, _, _, _, _, _, _, _, _, _, _, _, _, _, _, _, _, _, _, _, _, _, _, _, _, _, _, _, _, _, _, _, _, _, _, _, _, _, _, _, _, _, _, _, _, _, _, _, _, _, _, _, _, _, _, _, _, _, _, _, _, _, _, _], rfl⟩ hO7 hmem hlen hb7 (by omega) (.inr ⟨HH.out, rfl⟩) hall
  · have h32 : ((IntKind.u64.wrap how).tmod 3 == 2) = false := by rw [h3]; rfl
    have HH := Lib.hid h32
    have hre : ∀ w, (Instr.sliceAt 43 (.slice A2 m c2) (some (.int .i64 ((wi : Int) + 1))) none none).run Try.prog w = .ok (.slice (cut4 A2 (wi + 1) c2) (m - (wi + 1)) (c2 - (wi + 1))) w := fun w => by
      have := run_segs_rest_at A2 m c2 (wi + 1) (by omega) w
      rwa [show ((wi + 1 : Nat) : Int) = (wi : Int) + 1 by omega] at this
    clear h32
    have HT6 := Lib.hid ((HS2.out.below hb3).rest (i := wi + 1) (c := c2) (by omega) hc2)
    have hz1 : ∃ z1, zs[wi + 1]? = some z1 := ⟨zs[wi + 1]'(by have := HZl.out; omega), List.getElem?_eq_getElem _⟩
    obtain ⟨z1, hz1⟩ := hz1
    have HZ1 := Lib.hid hz1
    clear hz1
    go_wp2_with (at_builtin; (refine wpList_of_wp rfl (fun K hK => wp_append_segs (.tmp 86) (.tmp 90) rfl (zs.drop (wi + 1)) rfl HO3.out w2.heap.size (cut4 A2 (wi + 1) c2) (m - (wi + 1)) (c2 - (wi + 1)) rfl HT6.out (fun h => by (have := hz2 (cut4_none h); omega)) (by (rw [List.length_take]; omega)) hs23 ?_)); intro v7 w7 hO7 hg7 hd7; have hb7 := hb3.grown hg7 hs23 (fun g hg => HO3.out.base_ g hg); have HO7 := Lib.hid hO7; clear hO7 hg7 hd7; refine hK _ _ ?_; clear hK K)
    have hmem : ∀ y ∈ zs.take wi ++ zs.drop (wi + 1), y ∈ zs := by
      intro y hy
      rcases List.mem_append.1 hy with hy | hy
      · exact List.mem_of_mem_take hy
      · exact SO.mem_drop hy
    have hlen : (zs.take wi ++ zs.drop (wi + 1)).length ≤ 14 := by
      simp only [List.length_append, List.length_take, List.length_drop]
      have := HZl.out
      omega
    have h1 : (zs.map (·.seg))[wi + 1]? = some z1.seg := by rw [List.getElem?_map, HZ1.out]; rfl
    have hzz : (zs.map (·.seg)).length = m := by rw [List.length_map]; exact HZl.out
    have e : (zs.take wi ++ zs.drop (wi + 1)).map (·.seg) = (zs.map (·.seg)).take wi ++ z1.seg :: (zs.drop (wi + 2)).map (·.seg) := by
      have hd : zs.drop (wi + 1) = z1 :: zs.drop (wi + 2) := by
        obtain ⟨hlt, rfl⟩ := List.getElem?_eq_some_iff.1 HZ1.out
        exact List.drop_eq_getElem_cons hlt
      rw [hd]
      simp [List.map_take]
    have hall := SO.other k HR.out (q := wi) (i := wi + 1) (by omega) h1 (by omega) ((zs.drop (wi + 2)).map (·.seg))
    rw [← e] at hall
    exact HF.out _ _ v7 _ wi ⟨slot [_, _, undef, undef, _, _, _, _, undef, undef, undef, undef, undef, _, _, _, _, _, _, _, _, _, _, _, _, _, _, _, _, _, _, _, _, _, _, _, _, _, _, _, _, _, _, _, _, _, _, _, _, _, _, _, _, _, _, _, _, _, _, _, _, _, _, _, _, _, _, _, _, _, _, _, _, _, _, _, _, _, _, _, _, _, _, _, _, _, _, _, _, _, _, _, _, _, _, _, _, _, _, _, _, _, _, _, _, _, _, _, _, _, _, _, _, _, _, _, _, _, _, _, _, _, _, _, _, _, _, _, _, _, _, _, _, _, _, _, _, _, _, _, _, _, _, _], rfl⟩ HO7.out hmem hlen hb7 (by omega) (.inr ⟨HH.out, rfl⟩) hall
  · have h32 : ((IntKind.u64.wrap how).tmod 3 == 2) = true := by rw [h3]; rfl
    have HH := Lib.hid h32
    have hre : ∀ w, (Instr.sliceAt 43 (.slice A2 m c2) (some (.int .i64 ((wi : Int) + 1))) none none).run Try.prog w = .ok (.slice (cut4 A2 (wi + 1) c2) (m - (wi + 1)) (c2 - (wi + 1))) w := fun w => by
      have := run_segs_rest_at A2 m c2 (wi + 1) (by omega) w
      rwa [show ((wi + 1 : Nat) : Int) = (wi : Int) + 1 by omega] at this
    clear h32
    obtain ⟨b0, o0, z0, hA0, hb0, hz0, e0, e1, e2, e3⟩ := HS2.out.pick (k := wi) (by omega)
    obtain ⟨b1, o1, z1, hA1, hb1, hz1, f0, f1, f2, f3⟩ := HS2.out.pick (k := wi + 1) (by omega)
    subst hA0
    cases hA1
    have HZ0 := Lib.hid hz0
    have HZ1 := Lib.hid hz1
    have HE := Lib.hid (And.intro e0 (And.intro e1 (And.intro e2 (And.intro e3 (And.intro f0 (And.intro f1 (And.intro f2 f3)))))))
    clear hz0 hz1 hb1 e0 e1 e2 e3 f0 f1 f2 f3
    have jw1 : IntKind.i64.wrap ((wi : Int) + 1) = (wi : Int) + 1 := IntWalk.i64_in _ ⟨by omega, by omega⟩
    have jw2 : IntKind.i64.wrap ((wi : Int) + 2) = (wi : Int) + 2 := IntWalk.i64_in _ ⟨by omega, by omega⟩
    have jw3 : (0 : Int) ≤ (wi : Int) + 1 := by omega
    have jw4 : (wi : Int) + 1 < (m : Int) := by omega
    have jw5 : ((wi : Int) + 1).toNat = wi + 1 := by omega
    have jw6 : (wi : Int) < (m : Int) := by omega
    go_wp2
    have hb4 := hb3.drew
    have HO4 := Lib.hid HO3.out.drew
    refine wp_region_seq (fun x => Below w2.heap.size w2 x) [(false, 0), (false, 1), (false, 2), (false, 3), (false, 4), (false, 5), (false, 6), (false, 7), (false, 8), (false, 11), (false, 12), (false, 13), (false, 14), (true, 9), (true, 10), (true, 15), (true, 16)] (by kernel_rfl) (by kernel_rfl) (fun _ _ d _ _ h => by cases d <;> exact h) hb4 ?_
    have hs24 : w2.heap.size ≤ w3.drew.heap.size := hb4.size
    clear HO3 hb3
    generalize w3.drew = w4 at *
    iterate 13 (apply plan_take rfl rfl rfl rfl; (intro w' hS K hK; obtain ⟨e0, e1, e2, e3, f0, f1, f2, f3⟩ := HE.out; have s0 := (hS.cell (p := ⟨b0, o0 + wi * 4, none⟩) hb0).trans e0; have s1 := (hS.cell (p := ⟨b0, o0 + wi * 4 + 1, none⟩) hb0).trans e1; have s2 := (hS.cell (p := ⟨b0, o0 + wi * 4 + 2, none⟩) hb0).trans e2; have s3 := (hS.cell (p := ⟨b0, o0 + wi * 4 + 3, none⟩) hb0).trans e3; have r0 := (hS.cell (p := ⟨b0, o0 + (wi + 1) * 4, none⟩) hb0).trans f0; have r1 := (hS.cell (p := ⟨b0, o0 + (wi + 1) * 4 + 1, none⟩) hb0).trans f1; have r2 := (hS.cell (p := ⟨b0, o0 + (wi + 1) * 4 + 2, none⟩) hb0).trans f2; have r3 := (hS.cell (p := ⟨b0, o0 + (wi + 1) * 4 + 3, none⟩) hb0).trans f3; clear e0 e1 e2 e3 f0 f1 f2 f3; clear hS; go_simp; exact hK))
    have hS5 : Below w2.heap.size w2 (w4.alloc (Obj.cells #[.int .i64 z0.seg.kind, .int .i64 z0.seg.place, .bool z0.seg.last, .slice z0.A z0.n z0.c, .int .i64 z0.seg.kind, .int .i64 z0.seg.place, .bool z0.seg.last, .slice z0.A z0.n z0.c] 50)) := hb4.alloc hb4.size _
    have HT5 := Lib.hid (Segs.two (B := w4.heap.size + 1) (Blk.new w4 50 #[.int .i64 z0.seg.kind, .int .i64 z0.seg.place, .bool z0.seg.last, .slice z0.A z0.n z0.c, .int .i64 z0.seg.kind, .int .i64 z0.seg.place, .bool z0.seg.last, .slice z0.A z0.n z0.c]) (Nat.lt_succ_self _))
    have HO5 := Lib.hid (HO4.out.alloc (Obj.cells #[.int .i64 z0.seg.kind, .int .i64 z0.seg.place, .bool z0.seg.last, .slice z0.A z0.n z0.c, .int .i64 z0.seg.kind, .int .i64 z0.seg.place, .bool z0.seg.last, .slice z0.A z0.n z0.c] 50))
    refine plan_force rfl rfl (fun K hK => ?_)
    go_wp2_with fail
    refine hK.out _ _ hS5 ?_
    clear hK K
    generalize w4.alloc (Obj.cells #[.int .i64 z0.seg.kind, .int .i64 z0.seg.place, .bool z0.seg.last, .slice z0.A z0.n z0.c, .int .i64 z0.seg.kind, .int .i64 z0.seg.place, .bool z0.seg.last, .slice z0.A z0.n z0.c] 50) = w5 at *
    refine plan_force rfl rfl (fun K hK => ?_)
    refine wp_append_segs (.tmp 49) (.tmp 58) rfl [z0, z0] rfl HO5.out (w4.heap.size + 1) (some ⟨w4.heap.size, 0, none⟩) 2 2 rfl HT5.out (fun h => by cases h) (by rw [List.length_take]; omega) hS5.size ?_
    intro v6 w6 hO6 hg6 hd6
    have hb6 := hS5.grown hg6 hS5.size (fun g hg => HO5.out.base_ g hg)
    have HO6 := Lib.hid hO6
    have HT6 := Lib.hid ((HS2.out.below hb6).rest (i := wi + 1) (c := c2) (by omega) hc2)
    refine hK.out _ _ hb6 ?_
    clear hK K hO6 hg6 hd6
    refine plan_force rfl rfl (fun K hK => ?_)
    refine wp_append_segs (.tmp 59) (.tmp 63) rfl (zs.drop (wi + 1)) rfl HO6.out w2.heap.size (cut4 (some ⟨b0, o0, none⟩) (wi + 1) c2) (m - (wi + 1)) (c2 - (wi + 1)) rfl HT6.out (fun h => by cases cut4_none h) (by simp only [List.length_append, List.length_take, List.length_cons, List.length_nil]; omega) hb6.size ?_
    intro v7 w7 hO7 hg7 hd7
    have hb7 := hb6.grown hg7 hb6.size (fun g hg => HO6.out.base_ g hg)
    refine hK.out _ _ hb7 ?_
    clear hK K
    refine plan_force rfl rfl (fun K hK => ?_); go_wp2_with fail; refine hK.out _ _ hb7 ?_; clear hK K
    refine plan_nil ?_
    have hmem : ∀ y ∈ (zs.take wi ++ [z0, z0]) ++ zs.drop (wi + 1), y ∈ zs := by
      intro y hy
      rcases List.mem_append.1 hy with hy | hy
      · rcases List.mem_append.1 hy with hy | hy
        · exact List.mem_of_mem_take hy
        · simp only [List.mem_cons, List.not_mem_nil, or_false] at hy
          rcases hy with rfl | rfl
          · exact List.mem_of_getElem? HZ0.out
          · exact List.mem_of_getElem? HZ0.out
      · exact SO.mem_drop hy
    have hlen : ((zs.take wi ++ [z0, z0]) ++ zs.drop (wi + 1)).length ≤ 14 := by
      simp only [List.length_append, List.length_take, List.length_drop, List.length_cons, List.length_nil]
      have := HZl.out
      omega
    have h0 : (zs.map (·.seg))[wi]? = some z0.seg := by rw [List.getElem?_map, HZ0.out]; rfl
    have h1 : (zs.map (·.seg))[wi + 1]? = some z1.seg := by rw [List.getElem?_map, HZ1.out]; rfl
    have hzz : (zs.map (·.seg)).length = m := by rw [List.length_map]; exact HZl.out
    have e : ((zs.take wi ++ [z0, z0]) ++ zs.drop (wi + 1)).map (·.seg) = (zs.map (·.seg)).take (wi + 1) ++ z0.seg :: (zs.drop (wi + 1)).map (·.seg) := by
      rw [List.take_add_one, h0]
      simp [List.map_take]
    have hall := SO.other k HR.out (q := wi + 1) (i := wi) (by omega) h0 (by omega) ((zs.drop (wi + 1)).map (·.seg))
    rw [← e] at hall
    exact HF.out _ _ v7 _ (wi + 1) ⟨slot [_, _, undef, undef, _, _, _, _, undef, undef, undef, undef, undef, _, _, _, _, _, _, _, _, _, _, _, _, _, _, _, _, _, _, _, _, _, _, _, _, _, _, _, _, _, _, _, _, _, _, _, _, _, _, _, _, _, _, _, _, _, _, _, _, _, _, _, _, _, _, _, _, _, _, _, _, _, _, _, _, _, _, _, _, _, _, _, _, _, _, _, _, _, _, _, _, _, _, _, _, _, _, _, _, _, _, _, _, _, _, _, _, _, _, _, _, _, _, _, _, _, _, _, _, _, _, _, _, _, _, _, _, _, _, _, _, _, _, _, _, _, _, _, _, _, _, _], rfl⟩ hO7 hmem hlen hb7 (by omega) (.inl ⟨HH.out, by omega⟩) hall
theorem walkSealOrders (k : PL.K8) (A : Option Addr) (n c : Nat) (xs : List SegV) (which how : Int) (w : World) (hS : Segs w w.heap.size A n xs) (hX : Bodies w w.heap.size xs) (hnc : n ≤ c) (hcm : c ≤ maxLen) (hz : A = none → n = 0 ∧ c = 0) (h1 : (Lit.int .i64 which).wf = true) (h2 : (Lit.int .i64 how).wf = true) :
    Calls Try.prog 9 #[.agg (keyCells k), .slice A n c, .int .i64 which, .int .i64 how] w fun e w' => e = .returned (.bool true) ∧ Below w.heap.size w w' :=
  sealOrders k A n c xs which how w hS hX hnc hcm
end Go.Proofs.Ytobbjhbjjhnicaa
