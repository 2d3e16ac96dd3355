/- The reference's bits: Out and In in memory; the walks of their methods. -/
import Derived.Test.YtmllblgninmolaaTold10
import Derived.Test.YtmllblgninmolaaWalkBitsOne
namespace Go.Proofs.Ytmllblgninmolaa
open Go.RowKit
set_option linter.unusedVariables false
/-- A bit as the reference holds it. -/
def bitByte (b : Bool) : UInt8 := UInt8.ofNat b.toNat
theorem bitByte_nat (b : Bool) : (bitByte b).toNat = b.toNat := by cases b <;> rfl
/-- m's one field, and the bits behind it, in a block of its own. -/
def ROut (w : World) (gm : Nat) (A : Option Addr) (n c : Nat) (bs : List Bool) : Prop :=
  Blk w gm 43 #[.slice A n c] ∧ Own 5 w 0 (.slice A n c) (bs.map bitByte) ∧ (Value.slice A n c).ownBlock ≠ some gm
theorem ROut.bytes {w : World} {gm : Nat} {A : Option Addr} {n c : Nat} {bs : List Bool} (h : ROut w gm A n c bs) : Bytes w w.heap.size A n (bs.map bitByte) := by
  obtain ⟨A', n', c', hv, hB, _, _⟩ := h.2.1.form_n
  cases hv
  exact hB
theorem ROut.len {w : World} {gm : Nat} {A : Option Addr} {n c : Nat} {bs : List Bool} (h : ROut w gm A n c bs) : bs.length = n := by
  have := h.bytes.len
  simpa using this
theorem ROut.keep {w w' : World} {gm : Nat} {A : Option Addr} {n c : Nat} {bs : List Bool} (h : ROut w gm A n c bs) (h1 : w'.heap[gm]? = w.heap[gm]?) (h2 : ∀ g, (Value.slice A n c).ownBlock = some g → w'.heap[g]? = w.heap[g]?) : ROut w' gm A n c bs := by
  refine ⟨h1.trans h.1, ⟨h.2.1.1, ?_⟩, h.2.2⟩
  rcases h.2.1.2 with h | ⟨g, cap, cur, he, h3, h4, h5⟩
  · exact .inl h
  · exact .inr ⟨g, cap, cur, he, h3, (h2 g (by rw [he]; rfl)).trans h4, h5⟩
set_option maxRecDepth 100000 in
set_option maxHeartbeats 1000000 in
theorem refPutBad (gm : Nat) (n L : Int) (w : World) (h : L < 0 ∨ 32 < L) : Calls Try.prog 18 #[.pointer (some ⟨gm, 0, none⟩), .int .u64 n, .int .i64 L] w fun e w' => e = .returned (.int .i64 1) ∧ w = w' := by
  obtain h1 | ⟨h1, h2⟩ : L < 0 ∨ ¬ L < 0 ∧ 32 < L := by omega
  all_goals
    clear h
    go_enter Try.func18, Try.ntmps18
    go_wp2
    go_ret
    exact ⟨rfl, rfl⟩
/-- What has changed: m's field, the row B0, and new blocks; the row is B0 or a new one. -/
def Touched (w w' : World) (gm : Nat) (B0 B1 : Option Nat) : Prop :=
  (w.heap.size ≤ w'.heap.size ∧ w'.os = w.os ∧ w'.output = w.output ∧ w'.tape = w.tape) ∧ (∀ g, g < w.heap.size → g ≠ gm → some g ≠ B0 → w'.heap[g]? = w.heap[g]?) ∧ (B1 = B0 ∨ ∃ g, B1 = some g ∧ w.heap.size ≤ g)
theorem bit_value (n k : Nat) (hn : n < 18446744073709551616) : Value.int .u8 (((n.testBit k).toNat : Nat) : Int) = u8v (bitByte (n.testBit k)) := by
  unfold u8v
  rw [bitByte_nat]
set_option maxRecDepth 100000 in
set_option maxHeartbeats 4000000 in
theorem refPut10 (gm n L : Nat) (A : Option Addr) (m c : Nat) (bs : List Bool) (w : World) (hn : n < 18446744073709551616) (hL : L ≤ 32) (ho : ROut w gm A m c bs) (hb : m ≤ 100000) :
    Calls Try.prog 18 #[.pointer (some ⟨gm, 0, none⟩), .int .u64 (n : Int), .int .i64 (L : Int)] w fun e w' => e = .returned (.int .i64 0) ∧ ∃ A' m' c', ROut w' gm A' m' c' (bs ++ PB.bitsOf n L) ∧ Touched w w' gm (Value.slice A m c).ownBlock (Value.slice A' m' c').ownBlock := by
  have t1 : ¬ (L : Int) < 0 := by omega
  have t2 : ¬ (32 : Int) < (L : Int) := by omega
  have HN := Lib.hid hn
  have HO := Lib.hid ho
  have hgm : gm < w.heap.size := ho.1.lt
  clear hn ho
  obtain ⟨B0, hB0⟩ : ∃ B0, B0 = (Value.slice A m c).ownBlock := ⟨_, rfl⟩
  have HB0 := Lib.hid hB0
  rw [← hB0]
  have hlen0 := HO.out.len
  have HLen := Lib.hid hlen0
  clear hB0 hlen0
  go_enter Try.func18, Try.ntmps18
  go_wp2
  go_loopw [7] (fun i wr => ∃ (j : Nat) (A1 : Option Addr) (m1 c1 : Nat) (ds : List Bool), j ≤ L ∧ m1 ≤ 100000 + (L - j) ∧ i = .int .i64 ((j : Int) - 1) ∧ Hid (ROut wr gm A1 m1 c1 ds) ∧ Hid (ds ++ PB.bitsOf n j = bs ++ PB.bitsOf n L) ∧ Hid (Touched w wr gm B0 (Value.slice A1 m1 c1).ownBlock)) (fun i _ => (intOf i + 1).toNat)
  case atStart => exact ⟨L, A, m, c, bs, Nat.le_refl _, by omega, rfl, HO, rfl, ⟨⟨Nat.le_refl _, rfl, rfl, rfl⟩, fun _ _ _ _ => rfl, .inl HB0.out.symm⟩⟩
  case round =>
    clear HO
    obtain ⟨j, A1, m1, c1, ds, hj, hm1, rfl, HO, HE, HT⟩ := hrel
    rcases j with _ | j
    · rw [show ((0 : Nat) : Int) - 1 = -1 from rfl]
      go_wp2
      go_ret
      refine ⟨rfl, A1, m1, c1, ?_, HT.out⟩
      have he := HE.out
      simp only [PB.bitsOf, List.append_nil] at he
      rw [← he]
      exact HO.out
    · rw [show ((j + 1 : Nat) : Int) - 1 = (j : Int) by omega]
      have c0 : wr.cell? ⟨gm, 0, none⟩ = some (.slice A1 m1 c1) := HO.out.1.cell 0
      have hsh := shr_bit n j HN.out
      obtain ⟨b, hbE⟩ : ∃ b, b = n.testBit j := ⟨_, rfl⟩
      rw [← hbE] at hsh
      have HBE := Lib.hid hbE
      clear hbE
      have hb2 : b.toNat ≤ 1 := by cases b <;> decide
      have hbv : Value.int .u8 ((b.toNat : Nat) : Int) = u8v (bitByte b) := by unfold u8v; rw [bitByte_nat]
      have HX : Hid (Bytes (wr.alloc (.cells #[.int .u8 ((b.toNat : Nat) : Int)] 5)) (wr.heap.size + 1) (some ⟨wr.heap.size, 0, none⟩) 1 [bitByte b]) := by
        show Bytes _ _ _ _ _
        rw [hbv]
        exact one_bytes wr _ _
      clear hbv
      have hlen := HO.out.len
      have HLen2 := Lib.hid hlen
      clear hlen
      go_wp2_with (refine wpList_of_wp rfl (fun K hK => wp_append_bytes (.tmp 24) (.tmp 31) 23 row_u8 rfl [bitByte b] rfl (HO.out.2.1.alloc _) (wr.heap.size + 1) (some ⟨wr.heap.size, 0, none⟩) 1 1 rfl HX.out (fun h => by cases h) (by have := HLen2.out; rw [List.length_map]; omega) (Nat.zero_le _) ?_); intro v2 w2 hO2 hg2 hd2; obtain ⟨A2, m2, c2, hv2, hB2, _, _⟩ := hO2.form_n; have HO2 := Lib.hid hO2; have HG2 := Lib.hid hg2; have HD2 := Lib.hid hd2; have HB2 := Lib.hid hB2; clear hO2 hg2 hd2 hB2; subst hv2; have d0 : w2.cell? ⟨gm, 0, none⟩ = some (.slice A1 m1 c1) := (HO.out.1.alloc (.cells #[.int .u8 ((b.toNat : Nat) : Int)] 5) |>.grown HG2.out (fun e => HO.out.2.2 e.symm)).cell 0; have f0 := (HO.out.1.alloc (.cells #[.int .u8 ((b.toNat : Nat) : Int)] 5) |>.grown HG2.out (fun e => HO.out.2.2 e.symm)).frozen 0; refine hK _ _ ?_; clear hK K)
      have hT := HT.out
      have hG := HG2.out
      have hwr : w.heap.size ≤ wr.heap.size := hT.1.1
      have hn1 : (Value.slice A2 m2 c2).ownBlock ≠ some gm := by
        rcases HD2.out with h | h
        · rw [h]; exact HO.out.2.2
        · rw [h, World.size_alloc]
          intro e
          injection e with e
          omega
      refine ⟨⟨j, A2, m2, c2, ds ++ [b], by omega, ?_, rfl, ⟨?_, ⟨?_, ?_⟩, hn1⟩, ?_, ⟨⟨?_, ?_, ?_, ?_⟩, ?_, ?_⟩⟩, ?_⟩
      · have h1 := HB2.out.len
        rw [List.length_append, List.length_map, HLen2.out] at h1
        simp at h1
        omega
      · have := ((HO.out.1.alloc (.cells #[.int .u8 ((b.toNat : Nat) : Int)] 5)).grown HG2.out (fun e => HO.out.2.2 e.symm)).set_ 0 (.slice A2 m2 c2)
        exact this
      · have := HO2.out.1
        rw [List.map_append]
        exact this
      · rw [List.map_append]
        rcases HO2.out.2 with h | ⟨g, cap, cur, he, h3, h4, h5⟩
        · exact .inl h
        · refine .inr ⟨g, cap, cur, he, h3, ?_, h5⟩
          refine (Below.heap_setCell w2 ⟨gm, 0, none⟩ _ g (fun e => hn1 (by rw [he]; show some g = some gm; rw [show g = gm from e]))).trans h4
      · show _ = _
        rw [List.append_assoc, ← HE.out, HBE.out]
        rfl
      · have := hG.size
        rw [World.size_alloc] at this
        simp [World.setCell]
        omega
      · exact hG.os.trans hT.1.2.1
      · exact hG.output.trans hT.1.2.2.1
      · exact hG.tape.trans hT.1.2.2.2
      · intro g hg hne hnB
        have hgn : some g ≠ (Value.slice A1 m1 c1).ownBlock := by
          rcases hT.2.2 with h | ⟨g', h, h'⟩
          · rw [h]; exact hnB
          · rw [h]
            intro e
            injection e with e
            omega
        rw [Below.heap_setCell w2 ⟨gm, 0, none⟩ _ g hne, hG.block g (by rw [World.size_alloc]; omega) hgn, Below.heap_alloc wr _ g (by omega)]
        exact hT.2.1 g hg hne hnB
      · rcases HD2.out with h | h
        · rw [h]
          exact hT.2.2
        · refine .inr ⟨_, h, ?_⟩
          rw [World.size_alloc]
          omega
      · simp [intOf]
/-- j's two fields. -/
def RIn (w : World) (gj : Nat) (b : ByteArray) (p : Nat) : Prop := Blk w gj 48 #[.string b, .int .i64 (p : Int)] ∧ p ≤ 8 * b.size ∧ b.size ≤ 1000000
set_option maxRecDepth 100000 in
set_option maxHeartbeats 1000000 in
theorem refLeft (gj : Nat) (b : ByteArray) (p : Nat) (w : World) (hi : RIn w gj b p) :
    Calls Try.prog 25 #[.pointer (some ⟨gj, 0, none⟩)] w fun e w' => e = .returned (.int .i64 (8 * (b.size : Int) - (p : Int))) ∧ w.drew = w' := by
  have h1 := hi.2.1
  have h2 := hi.2.2
  have HI := Lib.hid hi
  clear hi
  go_enter Try.func25, Try.ntmps25
  go_wp2
  refine wp_region_seq (fun x => x = w.drew) [(false, 0), (false, 1), (false, 2), (false, 3), (false, 4), (false, 5), (true, 6), (true, 7), (true, 8), (true, 9), (true, 10), (true, 11)]
    (by kernel_rfl) (by kernel_rfl) (fun _ _ d _ _ h => by cases d <;> exact h) rfl ?_
  have c0 : w.drew.cell? ⟨gj, 0, none⟩ = some (.string b) := HI.out.1.cell 0
  have c1 : w.drew.cell? ⟨gj, 1, none⟩ = some (.int .i64 (p : Int)) := HI.out.1.cell 1
  generalize hw1 : w.drew = w1 at *
  have HW1 := Lib.hid hw1
  clear hw1
  have jw : IntKind.i64.wrap (8 * (b.size : Int)) = 8 * (b.size : Int) := IntWalk.i64_in _ (by omega)
  iterate 6 (apply plan_take rfl rfl rfl rfl; (intro w' hS K hK; subst hS; go_simp; exact hK))
  iterate 6 (refine plan_force rfl rfl (fun K hK => ?_); go_wp2; refine hK.out _ _ rfl ?_; clear hK K)
  refine plan_nil ?_
  go_wp2
  go_ret
  exact ⟨rfl, HW1.out⟩
set_option maxRecDepth 100000 in
set_option maxHeartbeats 1000000 in
theorem refGetBad (gj : Nat) (L : Int) (w : World) (h : L < 0 ∨ 32 < L) : Calls Try.prog 23 #[.pointer (some ⟨gj, 0, none⟩), .int .i64 L] w fun e w' => e = .returned (.tuple #[.int .u64 0, .int .i64 1]) ∧ w = w' := by
  obtain h1 | ⟨h1, h2⟩ : L < 0 ∨ ¬ L < 0 ∧ 32 < L := by omega
  all_goals
    clear h
    go_enter Try.func23, Try.ntmps23
    go_wp2
    go_ret2
    exact ⟨rfl, rfl⟩
set_option maxRecDepth 100000 in
set_option maxHeartbeats 1000000 in
theorem refGetCut (gj : Nat) (b : ByteArray) (p L : Nat) (w : World) (hi : RIn w gj b p) (hL : L ≤ 32) (hlt : 8 * b.size < p + L) :
    Calls Try.prog 23 #[.pointer (some ⟨gj, 0, none⟩), .int .i64 (L : Int)] w fun e w' => e = .returned (.tuple #[.int .u64 0, .int .i64 5]) ∧ w.drew = w' := by
  have HL := Lib.hid (refLeft gj b p w hi)
  have h1 := hi.2.1
  have h2 := hi.2.2
  have t1 : ¬ (L : Int) < 0 := by omega
  have t2 : ¬ (32 : Int) < (L : Int) := by omega
  have t3 : 8 * (b.size : Int) - (p : Int) < (L : Int) := by omega
  clear hi
  go_enter Try.func23, Try.ntmps23
  go_wp2_with fail
  (with_reducible refine HL.out.mono ?_)
  rintro e w1 ⟨rfl, hw1⟩
  have HW1 := Lib.hid hw1
  clear hw1
  go_wp2
  go_ret2
  exact ⟨rfl, HW1.out⟩
set_option maxRecDepth 100000 in
set_option maxHeartbeats 4000000 in
theorem refGet (gj : Nat) (b : ByteArray) (p L : Nat) (w : World) (hi : RIn w gj b p) (hL : L ≤ 32) (hle : p + L ≤ 8 * b.size) :
    Calls Try.prog 23 #[.pointer (some ⟨gj, 0, none⟩), .int .i64 (L : Int)] w fun e w' => e = .returned (.tuple #[.int .u64 (PB.val (((PB.toBits b.data.toList).drop p).take L) : Int), .int .i64 0]) ∧ RIn w' gj b (p + L) ∧ w.grownBy w' (some gj) := by
  have HLf := Lib.hid (refLeft gj b p w hi)
  have h2 := hi.2.2
  have t1 : ¬ (L : Int) < 0 := by omega
  have t2 : ¬ (32 : Int) < (L : Int) := by omega
  have t3 : ¬ 8 * (b.size : Int) - (p : Int) < (L : Int) := by omega
  have HI := Lib.hid hi
  clear hi
  go_enter Try.func23, Try.ntmps23
  go_wp2_with fail
  (with_reducible refine HLf.out.mono ?_)
  rintro e w1 ⟨rfl, hw1⟩
  have HI1 : Hid (RIn w1 gj b p) := by rw [← hw1]; exact HI.out
  have HG1 : Hid (w.grownBy w1 (some gj)) := by rw [← hw1]; exact grownBy_drew (World.grownBy.refl w _)
  clear hw1 HI HLf
  go_wp2
  go_loopw [6, 7] (fun vv i wr => ∃ (k v : Nat), k ≤ L ∧ v < 4294967296 ∧ i = .int .i64 k ∧ vv = .int .u64 v ∧ Hid (v = PB.val (((PB.toBits b.data.toList).drop p).take k)) ∧ Hid (RIn wr gj b (p + k)) ∧ Hid (w.grownBy wr (some gj))) (fun _ i _ => L - (intOf i).toNat)
  case atStart => exact ⟨0, 0, Nat.zero_le _, by decide, rfl, rfl, rfl, HI1, HG1⟩
  case round =>
    clear HI1 HG1
    obtain ⟨k, v, hk, hv, rfl, rfl, HV, HI, HG⟩ := hrel
    obtain ⟨q, hq⟩ : ∃ q, q = p + k := ⟨_, rfl⟩
    rw [← hq] at HI
    have HQ := Lib.hid hq
    by_cases hlt : k < L
    · have hdn : q / 8 < b.size := by omega
      obtain ⟨x, hx⟩ : ∃ x, x = b[q / 8] := ⟨_, rfl⟩
      have hbit : (PB.toBits b.data.toList)[q]? = some (x.toNat.testBit (7 - q % 8)) := PB.toBits_get _ q x (by rw [hx, List.getElem?_eq_getElem (by simpa using hdn)]; rfl)
      obtain ⟨bt, hbt⟩ : ∃ bt, bt = x.toNat.testBit (7 - q % 8) := ⟨_, rfl⟩
      have hv2 : PB.val (((PB.toBits b.data.toList).drop p).take (k + 1)) = 2 * v + bt.toNat := by
        rw [PB.val_take_succ _ k bt (by rw [List.getElem?_drop, ← HQ.out, hbit, hbt]), ← HV.out]
      have hv3 : 2 * v + bt.toNat < 4294967296 := by
        rw [← hv2]
        have h1 := PB.val_lt (((PB.toBits b.data.toList).drop p).take (k + 1))
        have h2 : (((PB.toBits b.data.toList).drop p).take (k + 1)).length ≤ 32 := by rw [List.length_take]; omega
        have h3 : 2 ^ (((PB.toBits b.data.toList).drop p).take (k + 1)).length ≤ 2 ^ 32 := Nat.pow_le_pow_right (by decide) h2
        omega
      have hor := or_bit v bt (by omega)
      have hand := shr_bit8 x (7 - q % 8)
      rw [← hbt] at hand
      obtain ⟨V2, hV2⟩ : ∃ V2, V2 = 2 * v + bt.toNat := ⟨_, rfl⟩
      rw [← hV2] at hor hv2 hv3
      have HV2 := Lib.hid hv2
      have hqb : (q : Int) ≤ 8000000 := by omega
      obtain ⟨d, hd⟩ : ∃ d, d = q / 8 := ⟨_, rfl⟩
      have hix : ∀ x' : World, (Instr.index 9 (.string b) (.int .i64 (d : Int))).run Try.prog x' = .ok (.int .u8 (x.toNat : Int)) x' := by
        intro x'
        have hdb : d < b.size := by omega
        rw [run_index_string x' 9 b .i64 (d : Int) Try.underlying9, dif_pos ⟨by omega, by omega⟩]
        have : b[(d : Int).toNat]'(by omega) = x := by
          rw [hx]
          congr 1
        rw [this]
      have hq8 : (q : Int).tdiv 8 = (d : Int) := by rw [Int.tdiv_eq_ediv_of_nonneg (by omega)]; omega
      have jw : IntKind.u64.wrap ((v : Int) * 2) = (v : Int) * 2 := IntWalk.u64_in _ (by omega)
      have jd : IntKind.i64.wrap (d : Int) = (d : Int) := IntWalk.i64_in _ (by omega)
      have jb : IntKind.u64.wrap ((bt.toNat : Nat) : Int) = ((bt.toNat : Nat) : Int) := IntWalk.u64_in _ (by have : bt.toNat < 2 := (by cases bt <;> decide); omega)
      obtain ⟨r, hr⟩ : ∃ r, r = q % 8 := ⟨_, rfl⟩
      have hr8 : (q : Int) % 8 = (r : Int) := by omega
      have hr2 : r ≤ 7 := by omega
      rw [← hr] at hand
      have ju : IntKind.u64.wrap (7 - (r : Int)) = 7 - (r : Int) := IntWalk.u64_in _ (by omega)
      clear hq hbit hbt hv2 hV2 hx hd hr hdn
      go_wp2
      refine wp_region_seq (fun x => x = wr.drew) [(false, 0), (false, 1), (false, 2), (false, 3), (false, 4), (false, 5), (false, 6), (false, 7), (false, 8), (false, 9), (false, 10), (false, 11), (true, 12), (true, 13), (true, 14), (true, 15), (true, 16), (true, 17), (true, 18), (true, 19), (true, 20), (true, 21), (true, 22), (true, 23)]
        (by kernel_rfl) (by kernel_rfl) (fun _ _ d _ _ h => by cases d <;> exact h) rfl ?_
      have HI1 : Hid (RIn wr.drew gj b q) := HI.out
      have HG1 := Lib.hid (grownBy_drew HG.out)
      have e0 : wr.drew.cell? ⟨gj, 0, none⟩ = some (.string b) := HI.out.1.cell 0
      have e1 : wr.drew.cell? ⟨gj, 1, none⟩ = some (.int .i64 (q : Int)) := HI.out.1.cell 1
      clear HI HG
      generalize wr.drew = w2 at *
      iterate 12 (apply plan_take rfl rfl rfl rfl; (intro w' hS K hK; subst hS; go_simp; exact hK))
      iterate 12 (refine plan_force rfl rfl (fun K hK => ?_); go_wp2; refine hK.out _ _ rfl ?_; clear hK K)
      refine plan_nil ?_
      clear jw jd jb ju e0 hq8 hr8 hr2 hor hand hix
      have f1 := HI1.out.1.frozen 1
      have HB2 : Hid (Blk (w2.setCell ⟨gj, 1, none⟩ (.int .i64 ((q : Int) + 1))) gj 48 #[.string b, .int .i64 ((q : Int) + 1)]) := HI1.out.1.set_ 1 _
      have HG2 := Lib.hid (grownBy_set HG1.out 1 (.int .i64 ((q : Int) + 1)))
      clear HI1 HG1
      go_wp2
      go_roundw
      case rel =>
        refine ⟨k + 1, V2, by omega, hv3, by go_num, rfl, HV2.out.symm, ⟨?_, by omega, h2⟩, HG2⟩
        have e3 : ((p + (k + 1) : Nat) : Int) = (q : Int) + 1 := by have := HQ.out; omega
        rw [e3]
        exact HB2.out
      case measure => simp [intOf]; omega
    · obtain rfl : k = L := by omega
      clear hq
      go_wp2
      go_ret2
      exact ⟨by rw [← HV.out]; rfl, by rw [← HQ.out]; exact HI.out, HG.out⟩
set_option maxRecDepth 100000 in
set_option maxHeartbeats 4000000 in
theorem refRest (gj : Nat) (b : ByteArray) (p : Nat) (w : World) (hi : RIn w gj b p) :
    Calls Try.prog 27 #[.pointer (some ⟨gj, 0, none⟩)] w fun e w' => e = .returned (.bool (restB b.data.toList p)) ∧ Below w.heap.size w w' := by
  have HLf := Lib.hid (refLeft gj b p w hi)
  have h1 := hi.2.1
  have h2 := hi.2.2
  have HI := Lib.hid hi
  have hlen : b.data.toList.length = b.size := by rw [Array.length_toList]; rfl
  have HLen := Lib.hid hlen
  clear hi hlen
  by_cases h8 : 8 ≤ 8 * b.size - p
  · have hr : restB b.data.toList p = false := by unfold restB; rw [HLen.out, decide_eq_false (by omega)]; rfl
    rw [hr]
    clear hr
    have t1 : (8 : Int) ≤ 8 * (b.size : Int) - (p : Int) := by omega
    go_enter Try.func27, Try.ntmps27
    go_wp2_with fail
    (with_reducible refine HLf.out.mono ?_)
    rintro e w1 ⟨rfl, hw1⟩
    have HW1 : Hid (Below w.heap.size w w1) := by rw [← hw1]; exact (Below.refl _ _).drew
    clear hw1
    go_wp2
    go_ret
    exact ⟨rfl, HW1.out⟩
  · obtain ⟨k, hk⟩ : ∃ k, k = 8 * b.size - p := ⟨_, rfl⟩
    have hk7 : k ≤ 7 := by omega
    have hr : restB b.data.toList p = (PB.val (((PB.toBits b.data.toList).drop p).take k) == 0) := by
      unfold restB
      rw [HLen.out, decide_eq_true (by omega), List.take_of_length_le (by rw [List.length_drop, PB.toBits_length, HLen.out]; omega)]
      rfl
    rw [hr]
    obtain ⟨V, hV⟩ : ∃ V, V = PB.val (((PB.toBits b.data.toList).drop p).take k) := ⟨_, rfl⟩
    rw [← hV]
    have HV := Lib.hid hV
    have hle : p + k ≤ 8 * b.size := by omega
    have t1 : ¬ (8 : Int) ≤ (k : Int) := by omega
    have HLf' : Hid (Calls Try.prog 25 #[.pointer (some ⟨gj, 0, none⟩)] w fun e w' => e = .returned (.int .i64 (k : Int)) ∧ w.drew = w') := by
      have := HLf.out
      rw [show 8 * (b.size : Int) - (p : Int) = (k : Int) by omega] at this
      exact this
    have hkI : 8 * (b.size : Int) - (p : Int) = (k : Int) := by omega
    have HKI := Lib.hid hkI
    clear HLf hr hV hk hkI
    go_enter Try.func27, Try.ntmps27
    go_wp2_with fail
    (with_reducible refine HLf'.out.mono ?_)
    rintro e w1 ⟨rfl, hw1⟩
    have HW1 : Hid (Below w.heap.size w w1) := by rw [← hw1]; exact (Below.refl _ _).drew
    have HI1 : Hid (RIn w1 gj b p) := by rw [← hw1]; exact HI.out
    clear hw1 HI HLf'
    go_wp2
    refine wp_region_seq (fun x => x.cell? ⟨gj, 0, none⟩ = some (.string b)) [(false, 0), (false, 1), (false, 2), (false, 3), (true, 4), (true, 5), (true, 6), (true, 7), (true, 8), (true, 9), (true, 10)]
      (by kernel_rfl) (by kernel_rfl) (fun _ _ d _ _ h => by cases d <;> exact h) (HI1.out.1.cell 0) ?_
    have HI2 : Hid (RIn w1.drew gj b p) := HI1.out
    have hW2 := HW1.out.drew
    clear HI1 HW1
    generalize w1.drew = w2 at *
    iterate 4 (apply plan_take rfl rfl rfl rfl; (intro w' hS K hK; go_simp; exact hK))
    have c0 : w2.cell? ⟨gj, 0, none⟩ = some (.string b) := HI2.out.1.cell 0
    have c1 : w2.cell? ⟨gj, 1, none⟩ = some (.int .i64 (p : Int)) := HI2.out.1.cell 1
    iterate 5 (refine plan_force rfl rfl (fun K hK => ?_); go_wp2; refine hK.out _ _ c0 ?_; clear hK K)
    have hN3 := Blk.new w2 48 #[.string b, .int .i64 (p : Int)]
    have HI3 := Lib.hid (HI2.out.1.alloc (.cells #[.string b, .int .i64 (p : Int)] 48))
    have hW3 := hW2.alloc hW2.size (.cells #[.string b, .int .i64 (p : Int)] 48)
    have hgn : w.heap.size ≤ w2.heap.size := hW2.size
    have hgj : gj < w2.heap.size := HI2.out.1.lt
    have HN3 := Lib.hid hN3
    refine plan_force rfl rfl (fun K hK => ?_)
    go_wp2
    clear c0 c1 hN3 HI2 hW2
    generalize w2.alloc (.cells #[.string b, .int .i64 (p : Int)] 48) = w3 at *
    generalize w2.heap.size = gn at *
    have c0 : w3.cell? ⟨gj, 0, none⟩ = some (.string b) := HI3.out.cell 0
    refine hK.out _ _ c0 ?_; clear hK K
    refine plan_force rfl rfl (fun K hK => ?_); go_wp2; refine hK.out _ _ c0 ?_; clear hK K
    refine plan_nil ?_
    clear c0
    have kl := refLeft gj b p w3 ⟨HI3.out, h1, h2⟩
    rw [HKI.out] at kl
    have KL := Lib.hid kl
    clear kl
    go_wp2_with fail
    (with_reducible refine KL.out.mono ?_)
    rintro e w4 ⟨rfl, hw4⟩
    have HN4 : Hid (Blk w4 gn 48 #[.string b, .int .i64 (p : Int)]) := by rw [← hw4]; exact HN3.out
    have hW4 : Below w.heap.size w w4 := by rw [← hw4]; exact hW3.drew
    clear hw4 HN3 hW3 HI3 KL
    have kg := refGet gn b p k w4 ⟨HN4.out, h1, h2⟩ (by omega) hle
    rw [← HV.out] at kg
    have KG := Lib.hid kg
    clear kg
    go_wp2_with fail
    (with_reducible refine KG.out.mono ?_)
    rintro e w5 ⟨rfl, _, hg5⟩
    have hW5 := hW4.grown hg5 hW4.size (by intro g hg; injection hg with hg; omega)
    have hvv : ((V : Int) == 0) = (V == 0) := by rw [Bool.eq_iff_iff]; simp
    clear hg5
    go_wp2_with fail
    go_ret
    exact ⟨rfl, hW5⟩
end Go.Proofs.Ytmllblgninmolaa
