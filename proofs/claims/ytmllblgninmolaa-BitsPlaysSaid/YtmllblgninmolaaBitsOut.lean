/- bits.Out in memory; the walk of its Put. -/
import Derived.Test.YtmllblgninmolaaPlainBits
import Derived.Test.YtmllblgninmolaaProg
import Derived.Test.YtmllblgninmolaaPlanC
import Derived.Laws.Bits64b
import Derived.IntWalk
import Derived.Test.YtmllblgninmolaaWords
namespace Go.Proofs.Ytmllblgninmolaa
open Go.RowKit
set_option linter.unusedVariables false
/-- The words behind p, in the blocks gs, the last first. -/
def Chain (w : World) : Option Addr → List Nat → List (List Bool) → Prop
  | p, [], [] => p = none
  | p, g :: gs, u :: us => p = some ⟨g, 0, none⟩ ∧ u.length = 64 ∧ ∃ q, Blk w g 69 #[.pointer q, .int .u64 (PB.val u : Int)] ∧ Chain w q gs us
  | _, _, _ => False
theorem Chain.keep {w w' : World} : ∀ {p : Option Addr} {gs : List Nat} {us : List (List Bool)}, Chain w p gs us → (∀ g ∈ gs, g < w.heap.size → w'.heap[g]? = w.heap[g]?) → Chain w' p gs us
  | p, [], [], h, _ => h
  | p, g :: gs, u :: us, ⟨h1, h2, q, hB, h3⟩, hk => ⟨h1, h2, q, (hk g (by simp) hB.lt).trans hB, Chain.keep h3 fun g' hg => hk g' (by simp [hg])⟩
theorem Chain.lt {w : World} : ∀ {p : Option Addr} {gs : List Nat} {us : List (List Bool)}, Chain w p gs us → ∀ g ∈ gs, g < w.heap.size
  | p, [], [], _, g, hg => by cases hg
  | p, g :: gs, u :: us, ⟨h1, h2, q, hB, h3⟩, g', hg => by
    rcases List.mem_cons.1 hg with rfl | hg
    · exact hB.lt
    · exact h3.lt g' hg
theorem Chain.len {w : World} : ∀ {p : Option Addr} {gs : List Nat} {us : List (List Bool)}, Chain w p gs us → ∀ u ∈ us, u.length = 64
  | p, [], [], _, u, hu => by cases hu
  | p, g :: gs, u :: us, ⟨h1, h2, q, hB, h3⟩, u', hu => by
    rcases List.mem_cons.1 hu with rfl | hu
    · exact h2
    · exact h3.len u' hu
/-- The bits of a state: the full words, then the part. -/
def bitsSt (us : List (List Bool)) (pt : List Bool) : List Bool := us.reverse.flatten ++ pt
/-- o's three fields, and the words behind them. -/
def OutAt (w : World) (go : Nat) (p : Option Addr) (gs : List Nat) (us : List (List Bool)) (pt : List Bool) : Prop :=
  Blk w go 40 #[.pointer p, .int .u64 (PB.val pt : Int), .int .i64 ((64 * us.length + pt.length : Nat) : Int)] ∧ Chain w p gs us ∧ go ∉ gs ∧ pt.length < 64
theorem shr_bit (n k : Nat) (hn : n < 18446744073709551616) : bits .and .u64 ((n : Int) / 2 ^ k) 1 = (((n.testBit k).toNat : Nat) : Int) := by
  have e : (n : Int) / 2 ^ k = ((n / 2 ^ k : Nat) : Int) := by simp
  rw [e, PB.testBit_toNat]
  have h := bits_and_u64_nat (n / 2 ^ k) 1 (Nat.lt_of_le_of_lt (Nat.div_le_self _ _) hn) (by decide)
  rw [show ((1 : Nat) : Int) = 1 from rfl] at h
  rw [h, Nat.and_one_is_mod]
theorem or_bit (v : Nat) (b : Bool) (hv : v < 9223372036854775808) : bits .or .u64 ((v : Int) * 2) ((b.toNat : Nat) : Int) = ((2 * v + b.toNat : Nat) : Int) := by
  have e : (v : Int) * 2 = ((2 * v : Nat) : Int) := by omega
  have hb : b.toNat < 2 := by cases b <;> decide
  rw [e, bits_or_u64_nat _ _ (by omega) (by omega)]
  have := Nat.two_pow_add_eq_or_of_lt (i := 1) (b := b.toNat) (by simpa using hb) v
  rw [Nat.pow_one] at this
  rw [this]
theorem bitsSt_add (us : List (List Bool)) (pt : List Bool) (b : Bool) : bitsSt us (pt ++ [b]) = bitsSt us pt ++ [b] := by simp [bitsSt]
theorem bitsSt_full (us : List (List Bool)) (u : List Bool) : bitsSt (u :: us) [] = bitsSt us u := by simp [bitsSt]
theorem grownBy_set {w w' : World} {g : Nat} (h : w.grownBy w' (some g)) (o : Nat) (v : Value) : w.grownBy (w'.setCell ⟨g, o, none⟩ v) (some g) :=
  ⟨h.os, h.tape, h.output, by simpa [World.setCell] using h.size, fun i hi hne => (Below.heap_setCell w' ⟨g, o, none⟩ v i (fun e => hne (by rw [e]))).trans (h.block i hi hne)⟩
theorem grownBy_new {w w' : World} {r : Option Nat} (h : w.grownBy w' r) (o : Obj) : w.grownBy (w'.alloc o) r :=
  ⟨h.os, h.tape, h.output, by have := h.size; simp; omega, fun i hi hne => (Below.heap_alloc w' o i (Nat.lt_of_lt_of_le hi h.size)).trans (h.block i hi hne)⟩
theorem grownBy_drew {w w' : World} {r : Option Nat} (h : w.grownBy w' r) : w.grownBy w'.drew r := ⟨h.os, h.tape, h.output, h.size, h.block⟩
set_option maxRecDepth 100000 in
set_option maxHeartbeats 4000000 in
theorem outPut (go : Nat) (n L : Nat) (p0 : Option Addr) (gs0 : List Nat) (us0 : List (List Bool)) (pt0 : List Bool) (w : World) (hn : n < 18446744073709551616) (hL : L ≤ 32) (ho : OutAt w go p0 gs0 us0 pt0) (hb : 64 * us0.length + pt0.length ≤ 1000000000) :
    Calls Try.prog 17 #[.pointer (some ⟨go, 0, none⟩), .int .u64 (n : Int), .int .i64 (L : Int)] w fun e w' => e = .returned (.int .i64 0) ∧ ∃ p gs us pt, OutAt w' go p gs us pt ∧ bitsSt us pt = bitsSt us0 pt0 ++ PB.bitsOf n L ∧ w.grownBy w' (some go) ∧ ∀ g ∈ gs, g ∈ gs0 ∨ w.heap.size ≤ g := by
  have t1 : ¬ (L : Int) < 0 := by omega
  have t2 : ¬ (32 : Int) < (L : Int) := by omega
  have HO := Lib.hid ho
  clear ho
  go_enter Try.func17, Try.ntmps17
  go_wp2
  refine wp_scope_back 0 (fun m a' w' => ∃ (k : Nat) (p : Option Addr) (gs : List Nat) (us : List (List Bool)) (pt : List Bool), m = k ∧ k ≤ L ∧ Hid (OutAt w' go p gs us pt) ∧ Hid (bitsSt us pt ++ PB.bitsOf n k = bitsSt us0 pt0 ++ PB.bitsOf n L) ∧ 64 * us.length + pt.length + k ≤ 1000000040 ∧ Hid (w.grownBy w' (some go)) ∧ Hid (∀ g ∈ gs, g ∈ gs0 ∨ w.heap.size ≤ g) ∧ ∃ u : Nat → Value, a' = ⟨#[.pointer (some ⟨go, 0, none⟩), .int .u64 (n : Int), .int .i64 (L : Int), u 3, u 4, u 5, .int .i64 0, .int .i64 (k : Int), u 8, u 9, u 10, u 11, u 12, u 13, u 14, u 15, u 16, u 17, u 18, u 19, u 20, u 21, u 22, u 23, u 24, u 25, u 26, u 27, u 28, u 29, u 30, u 31, u 32, u 33, u 34, u 35, u 36, u 37, u 38, u 39, u 40, u 41, u 42, u 43, u 44, u 45, u 46, u 47, u 48, u 49, u 50, u 51, u 52, u 53, u 54, u 55, u 56, u 57, u 58, u 59, u 60, u 61, u 62, u 63, u 64], []⟩) rfl ?_ ?_
  · intro HJ
    go_wp2
    go_step3
    go_step
    go_step
    exact HJ.out L _ _ ⟨L, p0, gs0, us0, pt0, rfl, Nat.le_refl _, HO, rfl, by omega, World.grownBy.refl w _, (fun g hg => .inl hg), ⟨slot [undef, undef, undef, _, _, _, undef, undef, _, _, _, _, _, _, _, _, _, _, _, _, _, _, _, _, _, _, _, _, _, _, _, _, _, _, _, _, _, _, _, _, _, _, _, _, _, _, _, _, _, _, _, _, _, _, _, _, _, _, _, _, _, _, _, _, _], rfl⟩⟩
  · rintro m a' w' ⟨k, p, gs, us, pt, rfl, hk, HO, HE, hlen, HG, HM, ⟨u, rfl⟩⟩
    by_cases h0 : m = 0
    · subst h0
      go_wp2
      refine jump_ret ?_
      go_ret
      exact ⟨rfl, p, gs, us, pt, HO.out, by have := HE.out; simpa [PB.bitsOf] using this, HG.out, HM.out⟩
    · have m0 : ((m : Int) == 0) = false := by simp [h0]
      obtain ⟨k, rfl⟩ : ∃ k, m = k + 1 := ⟨m - 1, by omega⟩
      have hpt := HO.out.2.2.2
      obtain ⟨N, hN⟩ : ∃ N, N = 64 * us.length + pt.length := ⟨_, rfl⟩
      obtain ⟨V, hV⟩ : ∃ V, V = PB.val pt := ⟨_, rfl⟩
      have hB0 := HO.out.1
      rw [← hN, ← hV] at hB0
      have hV63 : V < 9223372036854775808 := by
        have h1 := PB.val_lt pt
        have h2 : 2 ^ pt.length ≤ 2 ^ 63 := Nat.pow_le_pow_right (by decide) (by omega)
        rw [hV]
        omega
      have hN1 : N ≤ 1000000040 := by omega
      have HB0 := Lib.hid hB0
      have HN := Lib.hid hN
      have HV := Lib.hid hV
      have HC := Lib.hid HO.out.2.1
      have HNg := Lib.hid HO.out.2.2.1
      clear hB0 hN hV HO m0 h0
      obtain ⟨b, hbE⟩ : ∃ b, b = n.testBit k := ⟨_, rfl⟩
      have hshr := shr_bit n k hn
      rw [← hbE] at hshr
      have HBE := Lib.hid hbE
      obtain ⟨X, hXE⟩ : ∃ X, X = 2 * V + b.toNat := ⟨_, rfl⟩
      have hor := or_bit V b hV63
      rw [← hXE] at hor
      have HX := Lib.hid hXE
      clear hbE hXE
      have hX64 : X < 18446744073709551616 := by
        have := HX.out
        have hb2 : b.toNat < 2 := by cases b <;> decide
        omega
      have HX64 := Lib.hid hX64
      clear hX64
      go_wp2
      refine wp_region_seq (fun x => True) [(false, 0), (false, 1), (false, 6), (false, 7), (false, 8), (false, 9), (true, 2), (true, 3), (true, 4), (true, 5), (true, 10), (true, 11), (true, 12), (true, 13)]
        (by kernel_rfl) (by kernel_rfl) (fun _ _ d _ _ h => by cases d <;> exact h) trivial ?_
      have HB1 := Lib.hid HB0.out.drew
      have HG1 := Lib.hid (grownBy_drew HG.out)
      have HC1 := Lib.hid (HC.out.keep (w' := w'.drew) (fun g hg hlt => rfl))
      have hsz1 : Hid (w'.drew.heap.size = w'.heap.size) := rfl
      clear HB0 HG HC
      generalize w'.drew = w1 at *
      iterate 6 (apply plan_take rfl rfl rfl rfl; (intro w' hS K hK; clear hS; go_simp; exact hK))
      clear hshr
      have c1 : w1.cell? ⟨go, 1, none⟩ = some (.int .u64 (V : Int)) := HB1.out.cell 1
      have f1 := HB1.out.frozen 1
      have hw1 : IntKind.u64.wrap ((V : Int) * 2) = (V : Int) * 2 := IntWalk.u64_in _ (by omega)
      iterate 8 (refine plan_force rfl rfl (fun K hK => ?_); go_wp2; refine hK.out _ _ trivial ?_; clear hK K)
      refine plan_nil ?_
      have HB2 : Hid (Blk (w1.setCell ⟨go, 1, none⟩ (.int .u64 (X : Int))) go 40 #[.pointer p, .int .u64 (X : Int), .int .i64 (N : Int)]) := HB1.out.set_ 1 _
      have HG2 := Lib.hid (grownBy_set HG1.out 1 (.int .u64 (X : Int)))
      have HC2 := Lib.hid (HC1.out.keep (w' := w1.setCell ⟨go, 1, none⟩ (.int .u64 (X : Int))) (fun g hg hlt => Below.heap_setCell w1 ⟨go, 1, none⟩ _ g (fun e => HNg.out (by rw [← show g = go from e]; exact hg))))
      clear HB1 HG1 HC1 c1 f1 hw1 hor hsz1
      generalize w1.setCell ⟨go, 1, none⟩ (.int .u64 (X : Int)) = w2 at *
      have c2 : w2.cell? ⟨go, 2, none⟩ = some (.int .i64 (N : Int)) := HB2.out.cell 2
      have f2 := HB2.out.frozen 2
      have HB3 : Hid (Blk (w2.setCell ⟨go, 2, none⟩ (.int .i64 ((N : Int) + 1))) go 40 #[.pointer p, .int .u64 (X : Int), .int .i64 ((N : Int) + 1)]) := HB2.out.set_ 2 _
      have HG3 := Lib.hid (grownBy_set HG2.out 2 (.int .i64 ((N : Int) + 1)))
      have HC3 := Lib.hid (HC2.out.keep (w' := w2.setCell ⟨go, 2, none⟩ (.int .i64 ((N : Int) + 1))) (fun g hg hlt => Below.heap_setCell w2 ⟨go, 2, none⟩ _ g (fun e => HNg.out (by rw [← show g = go from e]; exact hg))))
      have HXV : Hid (X = PB.val (pt ++ [b])) := by show _ = _; rw [PB.val_snoc, ← HV.out]; exact HX.out
      have HE2 : Hid (bitsSt us (pt ++ [b]) ++ PB.bitsOf n k = bitsSt us0 pt0 ++ PB.bitsOf n L) := by
        show _ = _
        rw [bitsSt_add, List.append_assoc, ← HE.out, HBE.out]
        rfl
      clear HG2 HC2
      by_cases hfull : pt.length + 1 = 64
      · have hd : (((N : Int) + 1) % 64 == 0) = true := by
          have := HN.out
          rw [beq_iff_eq]
          omega
        go_wp2
        clear c2 f2 HB2
        have HB4 := Lib.hid HB3.out.drew
        have HG4 := Lib.hid (grownBy_drew HG3.out)
        have HC4 := Lib.hid (HC3.out.keep (w' := (w2.setCell ⟨go, 2, none⟩ (.int .i64 ((N : Int) + 1))).drew) (fun g hg hlt => rfl))
        refine wp_region_planC (fun x => True) (fun x => x.cell? ⟨go, 0, none⟩ = some (.pointer p)) 14 [(0, 0), (0, 1), (0, 2), (0, 3), (0, 4), (0, 6), (0, 7), (0, 8), (1, 5), (2, 9), (2, 10), (2, 11), (2, 12), (2, 13), (2, 14), (2, 15), (2, 16), (2, 17)]
          (by kernel_rfl) (by kernel_rfl) (fun _ _ d _ _ h => by cases d <;> exact h) trivial (HB4.out.cell 0) ?_
        clear HB3 HG3 HC3
        generalize (w2.setCell ⟨go, 2, none⟩ (.int .i64 ((N : Int) + 1))).drew = w4 at *
        iterate 8 (apply planC_take rfl rfl rfl rfl; (intro w' hS K hK; clear hS; go_simp; exact hK))
        apply planC_read rfl rfl rfl rfl
        · intro w' hS h1 K hK
          clear hS
          go_simp
          exact hK
        have c0 : w4.cell? ⟨go, 0, none⟩ = some (.pointer p) := HB4.out.cell 0
        have c1 : w4.cell? ⟨go, 1, none⟩ = some (.int .u64 (X : Int)) := HB4.out.cell 1
        refine planC_force rfl rfl rfl (fun K hK => ?_); go_wp2; refine hK.out _ _ trivial c0 ?_; clear hK K
        refine planC_force rfl rfl rfl (fun K hK => ?_); go_wp2; refine hK.out _ _ trivial c0 ?_; clear hK K
        have hN5 := Blk.new w4 69 #[.pointer p, .int .u64 (X : Int)]
        have HB5 := Lib.hid (HB4.out.alloc (.cells #[.pointer p, .int .u64 (X : Int)] 69))
        have HG5 := Lib.hid (grownBy_new HG4.out (.cells #[.pointer p, .int .u64 (X : Int)] 69))
        have HC5 := Lib.hid (HC4.out.keep (w' := w4.alloc (.cells #[.pointer p, .int .u64 (X : Int)] 69)) (fun g hg hlt => Below.heap_alloc w4 _ g hlt))
        have hgs : ∀ g ∈ gs, g ≠ w4.heap.size := fun g hg e => by have := HC4.out.lt g hg; omega
        have hgo : go ≠ w4.heap.size := fun e => by have := HB4.out.lt; omega
        have hws : w.heap.size ≤ w4.heap.size := HG4.out.size
        have HN5 := Lib.hid hN5
        have HGS := Lib.hid hgs
        refine planC_force rfl rfl rfl (fun K hK => ?_)
        go_wp2
        clear c0 c1 HB4 HG4 HC4 hN5 hgs
        generalize w4.alloc (.cells #[.pointer p, .int .u64 (X : Int)] 69) = w5 at *
        generalize w4.heap.size = ng at *
        have c0 : w5.cell? ⟨go, 0, none⟩ = some (.pointer p) := HB5.out.cell 0
        have f0 := HB5.out.frozen 0
        refine hK.out _ _ trivial c0 ?_; clear hK K
        iterate 2 (refine planC_force rfl rfl rfl (fun K hK => ?_); go_wp2; refine hK.out _ _ trivial c0 ?_; clear hK K)
        refine planC_turn rfl rfl (fun K hK => ?_)
        go_wp2
        refine hK.out _ _ trivial ?_; clear hK K
        have HB6 : Hid (Blk (w5.setCell ⟨go, 0, none⟩ (.pointer (some ⟨ng, 0, none⟩))) go 40 #[.pointer (some ⟨ng, 0, none⟩), .int .u64 (X : Int), .int .i64 ((N : Int) + 1)]) := HB5.out.set_ 0 _
        have HG6 := Lib.hid (grownBy_set HG5.out 0 (.pointer (some ⟨ng, 0, none⟩)))
        have HC6 := Lib.hid (HC5.out.keep (w' := w5.setCell ⟨go, 0, none⟩ (.pointer (some ⟨ng, 0, none⟩))) (fun g hg hlt => Below.heap_setCell w5 ⟨go, 0, none⟩ _ g (fun e => HNg.out (by rw [← show g = go from e]; exact hg))))
        have HN6 := Lib.hid (HN5.out.far (p := ⟨go, 0, none⟩) (Ne.symm hgo) (.pointer (some ⟨ng, 0, none⟩)))
        clear c0 f0 HB5 HG5 HC5 HN5
        generalize w5.setCell ⟨go, 0, none⟩ (.pointer (some ⟨ng, 0, none⟩)) = w6 at *
        have c1 : w6.cell? ⟨go, 1, none⟩ = some (.int .u64 (X : Int)) := HB6.out.cell 1
        have f1 := HB6.out.frozen 1
        iterate 3 (refine planC_after rfl rfl (fun K hK => ?_); go_wp2; refine hK.out _ _ trivial ?_; clear hK K)
        refine planC_nil ?_
        have HB7 : Hid (Blk (w6.setCell ⟨go, 1, none⟩ (.int .u64 0)) go 40 #[.pointer (some ⟨ng, 0, none⟩), .int .u64 0, .int .i64 ((N : Int) + 1)]) := HB6.out.set_ 1 _
        have HG7 := Lib.hid (grownBy_set HG6.out 1 (.int .u64 0))
        have HC7 := Lib.hid (HC6.out.keep (w' := w6.setCell ⟨go, 1, none⟩ (.int .u64 0)) (fun g hg hlt => Below.heap_setCell w6 ⟨go, 1, none⟩ _ g (fun e => HNg.out (by rw [← show g = go from e]; exact hg))))
        have HN7 := Lib.hid (HN6.out.far (p := ⟨go, 1, none⟩) (Ne.symm hgo) (.int .u64 0))
        clear c1 f1 HB6 HG6 HC6 HN6
        generalize w6.setCell ⟨go, 1, none⟩ (.int .u64 0) = w7 at *
        go_wp2
        go_step3
        refine jump_back (m' := k) (by omega) ?_
        refine ⟨k, some ⟨ng, 0, none⟩, ng :: gs, (pt ++ [b]) :: us, [], rfl, by omega, ⟨?_, ⟨rfl, by simp; omega, p, ?_, HC7.out⟩, ?_, by simp⟩, ?_, by simp; omega, HG7, ?_, ⟨slot [undef, undef, undef, _, _, _, undef, undef, _, _, _, _, _, _, _, _, _, _, _, _, _, _, _, _, _, _, _, _, _, _, _, _, _, _, _, _, _, _, _, _, _, _, _, _, _, _, _, _, _, _, _, _, _, _, _, _, _, _, _, _, _, _, _, _, _], rfl⟩⟩
        · have e1 : ((64 * ((pt ++ [b]) :: us).length + ([] : List Bool).length : Nat) : Int) = (N : Int) + 1 := by have := HN.out; simp; omega
          rw [e1]
          exact HB7.out
        · rw [← HXV.out]
          exact HN7.out
        · intro h
          rcases List.mem_cons.1 h with h | h
          · exact hgo h
          · exact HNg.out h
        · show _ = _
          rw [bitsSt_full]
          exact HE2.out
        · intro g hg
          rcases List.mem_cons.1 hg with h | h
          · right; omega
          · exact HM.out g h
      · have hd : (((N : Int) + 1) % 64 == 0) = false := by
          have := HN.out
          rw [beq_eq_false_iff_ne]
          omega
        go_wp2
        go_step3
        refine jump_back (m' := k) (by omega) ?_
        refine ⟨k, p, gs, us, pt ++ [b], rfl, by omega, ⟨?_, HC3.out, HNg.out, by simp; omega⟩, HE2, by simp; omega, HG3, HM, ⟨slot [undef, undef, undef, _, _, _, undef, undef, _, _, _, _, _, _, _, _, _, _, _, _, _, _, _, _, _, _, _, _, _, _, _, _, _, _, _, _, _, _, _, _, _, _, _, _, _, _, _, _, _, _, _, _, _, _, _, _, _, _, _, _, _, _, _, _, _], rfl⟩⟩
        have e1 : ((64 * us.length + (pt ++ [b]).length : Nat) : Int) = (N : Int) + 1 := by have := HN.out; simp; omega
        rw [e1, ← HXV.out]
        exact HB3.out
end Go.Proofs.Ytmllblgninmolaa
