/- The walk of steamerref14.Stream and of steamerref14.Xor. -/
import Derived.Test.YtobbjhbjjhnicaaXor
import Derived.Test.YtobbjhbjjhnicaaRefSum
namespace Go.Proofs.Ytobbjhbjjhnicaa
open Go.RowKit
set_option linter.unusedVariables false
theorem W_count (c : Nat) (h : c ≤ 10000) : (c : Int) % 4294967296 = W (UInt32.ofNat c) := by
  unfold W
  rw [UInt32.toNat_ofNat']
  omega
theorem refStream_bad (k : PL.K8) (p n : Int) (w : World) (hn : n < 0) :
    Calls Try.prog 18 #[.agg (keyCells k), .int .i64 p, .int .i64 n] w fun e w' => e = .returned (.string ⟨#[]⟩) ∧ Below w.heap.size w w' := by
  go_enter Try.func18, Try.ntmps18
  go_wp2
  go_ret
  exact ⟨rfl, (Below.refl _ _).alloc (Nat.le_refl _) _⟩
set_option maxRecDepth 100000 in
set_option maxHeartbeats 4000000 in
theorem refStream_any (k : PL.K8) (p : Int) (n : Nat) (w : World) (hn : n ≤ 100000) :
    Calls Try.prog 18 #[.agg (keyCells k), .int .i64 p, .int .i64 (n : Int)] w fun e w' => e = .returned (.string ⟨(PL.stream k (placeWord p) n).toArray⟩) ∧ Below w.heap.size w w' := by
  have HB0 := Lib.hid (Blk.new w 33 (keyCells k))
  have hW0 : Below w.heap.size w (w.alloc (Obj.cells (keyCells k) 33)) := (Below.refl _ _).alloc (Nat.le_refl _) _
  have t1 : ¬ ((n : Int) < 0) := by omega
  have t2 : ¬ (100000 < (n : Int)) := by omega
  go_enter Try.func18, Try.ntmps18
  go_wp2
  generalize w.alloc (Obj.cells (keyCells k) 33) = w0 at *
  go_loopw [7, 8] (fun v i wr => ∃ (c m q : Nat) (A : Option Addr), 32 * c < n + 32 ∧ m = 32 * c ∧ v = .slice A m q ∧ i = .int .i64 (c : Int) ∧ Hid (Own 5 wr (w.heap.size + 1) (.slice A m q) (PL.groups k (placeWord p) c)) ∧ Hid (Blk wr w.heap.size 33 (keyCells k)) ∧ Below w.heap.size w wr) (fun _ i _ => n + 32 - 32 * (intOf i).toNat)
  case atStart => exact ⟨0, 0, 0, none, by omega, rfl, rfl, rfl, Own.nil_, HB0, hW0⟩
  case round =>
    obtain ⟨c, m, q, A, hc, hm, rfl, rfl, HO, HB, hW⟩ := hrel
    have hle := hW.size
    by_cases hlt : m < n
    · have ht : (m : Int) < (n : Int) := by omega
      obtain ⟨c0, c1, c2, c3, c4, c5, c6, c7⟩ := key_loads HB.out
      have ep := W_place
      have ex := W_xor
      have ec : bits .xor .u32 (W k.k1) (c : Int) = W (k.k1 ^^^ UInt32.ofNat c) := by rw [← W_xor, ← W_count c (by omega), Int.emod_eq_of_lt (by omega) (by omega)]
      have HM0 := Lib.hid hm
      clear hm
      go_wp2_with fail
      have hA0 := Lib.hid (Blk.new wr 33 (keyCells (k.over (placeWord p) (UInt32.ofNat c))))
      have HB0 := Lib.hid (HB.out.alloc (Obj.cells (keyCells (k.over (placeWord p) (UInt32.ofNat c))) 33))
      have HO0 := Lib.hid (HO.out.alloc (Obj.cells (keyCells (k.over (placeWord p) (UInt32.ofNat c))) 33))
      have hW0 := hW.alloc hW.size (Obj.cells (keyCells (k.over (placeWord p) (UInt32.ofNat c))) 33)
      refine (refMix_any (k.over (placeWord p) (UInt32.ofNat c)) _).mono ?_
      rintro e w1 ⟨rfl, hb1⟩
      have hlt9 := hA0.out.lt
      have hA1 := hA0.out.below hb1 hlt9
      have hBl := HB.out.lt
      have HB1 := Lib.hid (HB0.out.below hb1 HB0.out.lt)
      have HO1 := Lib.hid (HO0.out.below hb1 HO0.out.lt)
      have hOl := HO.out.lt
      have hW1 := hW0.trans (hb1.mono hW0.size)
      have hne9 : w.heap.size ≠ wr.heap.size := by omega
      clear hA0 HB0 HO0 hW0 hb1 c0 c1 c2 c3 c4 c5 c6 c7 HB HO
      obtain ⟨M, hM⟩ : ∃ M, M = PL.mix (k.over (placeWord p) (UInt32.ofNat c)) := ⟨_, rfl⟩
      rw [← hM]
      have HM := Lib.hid hM
      clear hM
      go_wp2_with (refine wpList_store_blk rfl 33 (.tmp 9) (.tmp 38) rfl wr.heap.size (keyCells M) rfl rfl 33 _ hA1 rfl (by kernel_rfl) (key_one' _) ?_; intro w2 hB2 hg2 hs2)
      have HB2 := Lib.hid (HB1.out.grown hg2 (by simpa using hne9))
      have HM2 := Lib.hid hB2
      have HO2 : Hid (Own 5 w2 (w.heap.size + 1) (.slice A m q) (PL.groups k (placeWord p) c)) := World.ownsRow.kept HO1.out hg2 (.inr (by intro h; have := hOl _ h; omega))
      have hW2 := hW1.grown hg2 hW1.size (by intro g' hg'; injection hg' with hg'; omega)
      have hlt2 := HM2.out.lt
      have HOL : Hid (∀ g, (Value.slice A m q).ownBlock = some g → g ≠ wr.heap.size) := fun g hg => by have := hOl g hg; omega
      clear hB2 hg2 hs2 hA1 HB1 HO1 hW1 hOl
      clear ep ex ec
      have hm' : wr.heap.size < w2.heap.size := by omega
      generalize wr.heap.size = G at *
      go_loopw [7, 10] (fun v i wr => ∃ (j : Nat), j ≤ 8 ∧ i = .int .i64 j ∧ Hid (Own 5 wr (w.heap.size + 1) v (PL.groups k (placeWord p) c ++ PL.wordsTo M k j)) ∧ (∀ g, v.ownBlock = some g → g ≠ G) ∧ Hid (Blk wr w.heap.size 33 (keyCells k)) ∧ Hid (Blk wr G 33 (keyCells M)) ∧ Below w.heap.size w wr) (fun _ i _ => 8 - (intOf i).toNat)
      case atStart => exact ⟨0, Nat.zero_le _, rfl, by rw [PL.wordsTo, List.append_nil]; exact HO2, (fun g hg => HOL.out g hg), HB2, HM2, hW2⟩
      case round =>
        obtain ⟨j, hj, rfl, HO, hG, HB, HMB, hW⟩ := hrel
        have hlen : (PL.groups k (placeWord p) c ++ PL.wordsTo M k j).length = 32 * c + 4 * j := by rw [List.length_append, PL.groups_len, PL.wordsTo_len]
        have HLn := Lib.hid hlen
        have HG := Lib.hid hG
        clear hlen hG
        have hsz := hW.size
        by_cases hlt2 : j < 8
        · have t3 : (j : Int) < 8 := by omega
          have j0 : (0 : Int) ≤ (j : Int) := by omega
          obtain ⟨s, hs⟩ : ∃ s, s = M.get j + k.get j := ⟨_, rfl⟩
          have ea : (W (M.get j) + W (k.get j)) % 4294967296 = W s := by rw [hs]; exact W_add' _ _
          have HS := Lib.hid hs
          clear hs
          go_wp2_with fail
          refine wp_region_seq (fun x => x = wr.drew) [(false, 0), (false, 1), (false, 2), (true, 3), (true, 4), (true, 5), (true, 6), (true, 7)]
            (by kernel_rfl) (by kernel_rfl) (fun _ _ d _ _ h => by cases d <;> exact h) rfl ?_
          have hcj : wr.drew.cell? ⟨w.heap.size, j, none⟩ = some (u32v (k.get j)) := by rw [HB.out.drew.cell]; exact keyCells_get _ _ hlt2
          have hmj : wr.drew.cell? ⟨G, j, none⟩ = some (u32v (M.get j)) := by rw [HMB.out.drew.cell]; exact keyCells_get _ _ hlt2
          have HB' : Hid (Blk wr.drew w.heap.size 33 (keyCells k)) := HB
          have HMB' : Hid (Blk wr.drew G 33 (keyCells M)) := HMB
          have HO' : Hid (Own 5 wr.drew (w.heap.size + 1) _ (PL.groups k (placeWord p) c ++ PL.wordsTo M k j)) := HO
          have hW' := hW.drew
          have hsz' : w.heap.size ≤ wr.drew.heap.size := hsz
          clear HB HMB HO hW hsz
          generalize wr.drew = wd at *
          iterate 3 (apply plan_take rfl rfl rfl rfl; (intro w' hS K hK; subst hS; go_simp; exact hK))
          iterate 5 (refine plan_force rfl rfl (fun K hK => ?_); go_wp2_with fail; refine hK.out _ _ rfl ?_; clear hK K)
          refine plan_nil ?_
          have HX : Hid (Bytes (wd.alloc (.cells #[.int .u8 (W s % 256), .int .u8 (W s / 256 % 256), .int .u8 (W s / 65536 % 256), .int .u8 (W s / 16777216)] 5)) (wd.heap.size + 1) (some ⟨wd.heap.size, 0, none⟩) 4 (PL.four s)) := by
            show Bytes _ _ _ _ _
            rw [show W s / 16777216 = W s / 16777216 % 256 from by have := W_bd s; omega, W_byte0, W_byte1, W_byte2, W_byte3]
            exact blk_bytes4 wd _ _ _ _ _
          go_wp2_with (refine wpList_of_wp rfl (fun K hK => wp_append_bytes (.tmp 50) (.tmp 62) 30 row_u8 rfl (PL.four s) rfl (HO'.out.alloc _) (wd.heap.size + 1) (some ⟨wd.heap.size, 0, none⟩) 4 4 rfl HX.out (fun h => by cases h) (by rw [HLn.out]; omega) (by rw [World.size_alloc]; have := HB'.out.lt; omega) ?_); intro v1 w3 hO3 hg3 hd3; refine hK _ _ ?_; clear hK K)
          go_roundw
          case rel =>
            refine ⟨j + 1, hlt2, by go_num, ?_, ?_, ?_, ?_, ?_⟩
            · show Own _ _ _ _ _
              have e : PL.groups k (placeWord p) c ++ PL.wordsTo M k (j + 1) = (PL.groups k (placeWord p) c ++ PL.wordsTo M k j) ++ PL.four s := by rw [PL.wordsTo, HS.out, List.append_assoc]
              rw [e]
              exact hO3
            · intro g hg
              rcases hd3 with h | h
              · exact HG.out g (h.symm.trans hg)
              · rw [World.size_alloc] at h
                have := HMB'.out.lt
                rw [h] at hg
                injection hg with hg
                omega
            · exact (HB'.out.alloc _).grown hg3 (by intro h; have := HO'.out.lt_base _ h.symm; omega)
            · exact (HMB'.out.alloc _).grown hg3 (by intro h; exact HG.out _ h.symm rfl)
            · exact (hW'.alloc hW'.size _).grown hg3 (by rw [World.size_alloc]; omega) (by intro g' hg'; have := HO'.out.lt_base _ hg'; omega)
          case measure => simp [intOf]; omega
        · obtain rfl : j = 8 := by omega
          obtain ⟨g2, q2, hv, hgb, hgl2⟩ := World.ownsRow.form HO.out (by rw [HLn.out]; omega)
          rw [HLn.out] at hv
          have HO3 : Hid (Own 5 wr (w.heap.size + 1) (.slice (some ⟨g2, 0, none⟩) (32 * c + 4 * 8) q2) (PL.groups k (placeWord p) (c + 1))) := by
            show Own _ _ _ _ _
            rw [← hv, PL.groups, ← HM.out]
            exact HO.out
          clear HO
          have hm9 := HM0.out
          subst hv
          go_wp2_with fail
          go_roundw
          case rel => exact ⟨c + 1, 32 * c + 4 * 8, q2, some ⟨g2, 0, none⟩, by omega, by omega, rfl, by go_num, HO3, HB, hW⟩
          case measure => simp [intOf]; omega
    · have ht : ¬ ((m : Int) < (n : Int)) := by omega
      have hmq : m ≤ q ∧ (PL.groups k (placeWord p) c).length = m := by
        obtain ⟨A', c', h1, h2, h3, h4, h5⟩ := HO.out.form
        injection h1 with e1 e2 e3
        omega
      have hY : Bytes wr wr.heap.size A m (PL.groups k (placeWord p) c) := Bytes.of_own (by have h := HO.out; unfold Own at h; rw [hmq.2] at h; exact h)
      have hf := run_front (P := Try.prog) (t := 30) row_u8 A m q n (by omega)
      have hcv : (convert 30 9 (.slice A n q)).run Try.prog wr = .ok (.string ⟨(PL.stream k (placeWord p) n).toArray⟩) wr := by
        have h := hY.part (i := 0) (j := n) (m := n) (Nat.zero_le _) (by omega) (Nat.le_refl _)
        rw [cutA_zero, Nat.sub_zero, List.drop_zero, PL.stream_eq k (placeWord p) (by omega)] at h
        exact conv_bytes conv_u8 _ h
      have HY := Lib.hid hY
      have HMQ := Lib.hid hmq
      have HM0 := Lib.hid hm
      clear hY hmq hm HB0
      go_wp2
      go_ret
      exact ⟨rfl, hW⟩
set_option maxRecDepth 100000 in
set_option maxHeartbeats 4000000 in
theorem refXor_any (k : PL.K8) (p : Int) (b : ByteArray) (w : World) (hn : b.size ≤ 100000) :
    Calls Try.prog 20 #[.agg (keyCells k), .int .i64 p, .string b] w fun e w' => e = .returned (.string ⟨(PL.xorTo (PL.stream k (placeWord p) b.size) b.data.toList).toArray⟩) ∧ Below w.heap.size w w' := by
  have HB0 := Lib.hid (Blk.new w 33 (keyCells k))
  have hW0 : Below w.heap.size w (w.alloc (Obj.cells (keyCells k) 33)) := (Below.refl _ _).alloc (Nat.le_refl _) _
  obtain ⟨n, hnb⟩ : ∃ n, n = b.size := ⟨_, rfl⟩
  rw [← hnb] at hn
  have hstr := fun w' => refStream_any k p n w' hn
  rw [← hnb]
  obtain ⟨t, ht⟩ : ∃ t, t = PL.stream k (placeWord p) n := ⟨_, rfl⟩
  have htl : t.length = n := by rw [ht]; exact PL.stream_len _ _ _
  simp only [← ht] at hstr ⊢
  clear ht
  have HST := Lib.hid hstr
  have HTL := Lib.hid htl
  have hts : (⟨t.toArray⟩ : ByteArray).size = n := by show t.toArray.size = n; simpa using htl
  clear hstr htl
  have hbs : b.size = n := hnb.symm
  clear hnb
  go_enter Try.func20, Try.ntmps20
  obtain ⟨c0, c1, c2, c3, c4, c5, c6, c7⟩ := key_loads HB0.out
  go_wp2_with fail
  generalize w.alloc (Obj.cells (keyCells k) 33) = w0 at *
  (with_reducible refine (HST.out _).mono ?_)
  rintro e w1 ⟨rfl, hb1⟩
  have hW1 := hW0.trans (hb1.mono hW0.size)
  clear hb1 hW0 HB0 c0 c1 c2 c3 c4 c5 c6 c7 HST
  have hmk := run_make_bytes (t := 30) row_u8 w1 n n .i64 .i64 (by omega) (by omega)
  have hO := own_made w1 5 n (by omega)
  have hL0 : Lies (w1.alloc (.cells (zeroRow n) 5)) w1.heap.size (List.replicate n 0) := by
    refine ⟨_, Blk.new w1 5 (zeroRow n), fun j c hj => ?_⟩
    obtain ⟨h1, h2⟩ := List.getElem?_eq_some_iff.1 hj
    rw [List.length_replicate] at h1
    rw [List.getElem_replicate] at h2
    rw [zeroRow_get n j h1, ← h2]
  have hW2 := hW1.alloc hW1.size (.cells (zeroRow n) 5)
  have hg := hW1.size
  have HL0 := Lib.hid hL0
  clear hL0 hO
  go_wp2_with fail
  generalize w1.heap.size = g at *
  generalize (World.alloc w1 (.cells (zeroRow n) 5)) = w2 at *
  go_loopw [9] (fun i wr => ∃ (j : Nat), j ≤ n ∧ i = .int .i64 (j : Int) ∧ Hid (Lies wr g ((PL.xorTo t b.data.toList).take j ++ List.replicate (n - j) 0)) ∧ Below w.heap.size w wr) (fun i _ => n - (intOf i).toNat)
  case atStart => exact ⟨0, Nat.zero_le _, rfl, by simpa using HL0, hW2⟩
  case round =>
    obtain ⟨j, hj, rfl, HL, hW⟩ := hrel
    by_cases hlt : j < n
    · have bl : b.data.toList.length = n := by rw [← hbs]; exact Array.length_toList
      have tl := HTL.out
      have h1 : j < t.length := by omega
      have h2 : j < b.data.toList.length := by omega
      obtain ⟨x, hx⟩ : ∃ x, x = t[j] := ⟨_, rfl⟩
      obtain ⟨y, hy⟩ : ∃ y, y = b.data.toList[j] := ⟨_, rfl⟩
      have ixb : ∀ x' : World, (Instr.index 9 (.string b) (.int .i64 (j : Int))).run Try.prog x' = .ok (.int .u8 (y.toNat : Int)) x' := fun x' => by
        rw [run_index_string x' 9 b .i64 (j : Int) Try.underlying9, dif_pos ⟨by omega, by omega⟩, hy]
        rfl
      have ixt : ∀ x' : World, (Instr.index 9 (.string ⟨t.toArray⟩) (.int .i64 (j : Int))).run Try.prog x' = .ok (.int .u8 (x.toNat : Int)) x' := fun x' => by
        rw [run_index_string x' 9 ⟨t.toArray⟩ .i64 (j : Int) Try.underlying9, dif_pos ⟨by omega, by omega⟩, hx]
        rfl
      have ex := W8_xor y x
      have hset : ((PL.xorTo t b.data.toList).take j ++ List.replicate (n - j) 0).set j (y ^^^ x) = (PL.xorTo t b.data.toList).take (j + 1) ++ List.replicate (n - (j + 1)) 0 := by
        have hxl : (PL.xorTo t b.data.toList).length = n := by rw [PL.xorTo_len (by omega)]; exact bl
        have hget := PL.xorTo_get j h1 h2
        obtain ⟨hj1, hj2⟩ := List.getElem?_eq_some_iff.1 hget
        rw [List.set_append_right _ _ (by rw [List.length_take]; omega), List.length_take, hxl, Nat.min_eq_left (by omega), Nat.sub_self, show n - j = (n - (j + 1)) + 1 from by omega, List.replicate_succ, List.set_cons_zero, List.take_succ_eq_append_getElem hj1, hj2, ← hx, ← hy, UInt8.xor_comm, List.append_assoc]
        rfl
      obtain ⟨z, hz⟩ : ∃ z, z = y ^^^ x := ⟨_, rfl⟩
      rw [← hz] at ex hset
      have HXL := Lib.hid (show (PL.xorTo t b.data.toList).length = n from by rw [PL.xorTo_len (by omega)]; exact bl)
      have HSet := Lib.hid hset
      have IXB := Lib.hid ixb
      have IXT := Lib.hid ixt
      clear hset ixb ixt hx hy hz h1 h2 bl tl
      have f1 : ∀ x, Below wr.heap.size wr x → x.frozen? ⟨g, j, none⟩ = false := fun x hx => (HL.out.below hx HL.out.lt).frozen j
      obtain ⟨v0, hc1⟩ : ∃ v0, wr.drew.cell? ⟨g, j, none⟩ = some (u8v v0) := by
        have hl : j < ((PL.xorTo t b.data.toList).take j ++ List.replicate (n - j) 0).length := by
          rw [List.length_append, List.length_replicate, List.length_take, HXL.out]; omega
        exact ⟨_, HL.out.cell (List.getElem?_eq_getElem hl)⟩
      have t3 : (j : Int) < (n : Int) := by omega
      have j0 : (0 : Int) ≤ (j : Int) := by omega
      have f2 : wr.drew.frozen? ⟨g, j, none⟩ = false := f1 _ (Below.refl _ _).drew
      clear f1
      go_wp2_with fail
      refine wp_region_seq (fun x => True) [(false, 0), (false, 1), (false, 2), (false, 3), (false, 4), (false, 5), (true, 6), (true, 7), (true, 8), (true, 9), (true, 10)]
        (by kernel_rfl) (by kernel_rfl) (fun _ _ d _ _ h => by cases d <;> exact h) trivial ?_
      have HL' : Hid (Lies wr.drew g ((PL.xorTo t b.data.toList).take j ++ List.replicate (n - j) 0)) := HL
      have hW' := hW.drew
      clear HL hW
      generalize wr.drew = wd at *
      iterate 6 (apply plan_take rfl rfl rfl rfl; (intro w' hS K hK; have ixb := IXB.out w'; clear hS; go_simp; exact hK))
      have ixt := IXT.out wd
      iterate 5 (refine plan_force rfl rfl (fun K hK => ?_); go_wp2_with fail; refine hK.out _ _ trivial ?_; clear hK K)
      refine plan_nil ?_
      have HL3 : Hid (Lies (wd.setCell ⟨g, j, none⟩ (.int .u8 (z.toNat : Int))) g ((PL.xorTo t b.data.toList).take (j + 1) ++ List.replicate (n - (j + 1)) 0)) := by
        show Lies _ _ _
        rw [← HSet.out]
        exact HL'.out.set_ j _
      have hW3 := hW'.setCell (p := ⟨g, j, none⟩) hg (.int .u8 (z.toNat : Int))
      clear HL' hW' f2 hc1 ixt
      generalize wd.setCell ⟨g, j, none⟩ (.int .u8 (z.toNat : Int)) = w3 at *
      go_wp2_with fail
      go_roundw
      case rel => exact ⟨j + 1, hlt, by go_num, HL3, hW3⟩
      case measure => simp [intOf]; omega
    · obtain rfl : j = n := by omega
      have hcv : (convert 30 9 (.slice (some ⟨g, 0, none⟩) j j)).run Try.prog wr = .ok (.string ⟨(PL.xorTo t b.data.toList).toArray⟩) wr := by
        have h := HL.out
        have hxl : (PL.xorTo t b.data.toList).length = j := by rw [PL.xorTo_len (by rw [HTL.out, ← hbs]; exact Array.length_toList.symm), ← hbs]; exact Array.length_toList
        rw [Nat.sub_self, List.replicate_zero, List.append_nil, List.take_of_length_le (Nat.le_of_eq hxl)] at h
        exact conv_bytes conv_u8 j (h.bytes hxl h.lt)
      go_wp2
      go_ret
      exact ⟨rfl, hW⟩
end Go.Proofs.Ytobbjhbjjhnicaa
