/- bits.In in memory; the walks of From, Left, Get and Rest. -/
import Derived.Test.YtmllblgninmolaaBitsBytes
import Derived.Test.YtmllblgninmolaaNumPut
import Derived.Laws.BitsAllLaws
namespace Go.Proofs.Ytmllblgninmolaa
open Go.RowKit
set_option linter.unusedVariables false
/-- i's two fields, and the bytes behind them. -/
def InAt (w : World) (gi : Nat) (A : Option Addr) (n c : Nat) (l : List UInt8) (p : Nat) : Prop :=
  Blk w gi 67 #[.slice A n c, .int .i64 (p : Int)] ∧ Bytes w gi A n l ∧ p ≤ 8 * n ∧ n ≤ 1000000
theorem InAt.keep {w w' : World} {gi : Nat} {A : Option Addr} {n c : Nat} {l : List UInt8} {p : Nat} (h : InAt w gi A n c l p) (hk : ∀ g, g ≤ gi → w'.heap[g]? = w.heap[g]?) : InAt w' gi A n c l p :=
  ⟨(hk gi (Nat.le_refl _)).trans h.1, h.2.1.keep fun b o hb => World.cell?_of_block (hk b (by omega)), h.2.2⟩
theorem InAt.below {w w' : World} {gi : Nat} {A : Option Addr} {n c : Nat} {l : List UInt8} {p : Nat} (h : InAt w gi A n c l p) (hb : Below w.heap.size w w') : InAt w' gi A n c l p :=
  h.keep fun g hg => hb.block g (by have := h.1.lt; omega)
theorem InAt.drew {w : World} {gi : Nat} {A : Option Addr} {n c : Nat} {l : List UInt8} {p : Nat} (h : InAt w gi A n c l p) : InAt w.drew gi A n c l p := h
/-- What From gives. -/
def GaveIn (w : World) (l : List UInt8) (e : Ending) (w' : World) : Prop := ∃ gi A n c, e = .returned (.pointer (some ⟨gi, 0, none⟩)) ∧ InAt w' gi A n c l 0 ∧ w.heap.size ≤ gi ∧ Below w.heap.size w w'
set_option maxRecDepth 100000 in
set_option maxHeartbeats 1000000 in
theorem inFrom (A : Option Addr) (n c B : Nat) (l : List UInt8) (w : World) (hb : Bytes w B A n l) (hz : A = none → c = 0) (hn : n ≤ 1000000) : Calls Try.prog 16 #[.slice A n c] w (GaveIn w l) := by
  have HB := Lib.hid hb
  have HZ := Lib.hid hz
  clear hb hz
  go_enter Try.func16, Try.ntmps16
  go_wp2_with (refine wpList_of_wp rfl (fun K hK => wp_append_bytes (base := w.heap.size) (.const (.slice none 0 0)) (.tmp 3) 23 row_u8 rfl l rfl Own.nil_ B A n c rfl HB.out HZ.out (by show 0 + n ≤ _; omega) (Nat.le_refl _) ?_); intro v1 w1 hO1 hg1 hd1; have HW1 := Lib.hid (below_grown_own (Below.refl _ w) (Own.nil_ (e := 5) (w := w) (base := w.heap.size)) hg1); obtain ⟨A1, n1, c1, hv1, hB1, hc1, _⟩ := hO1.form_n; have HB1 := Lib.hid hB1; have hn1 : n1 ≤ 1000000 := (by have := hB1.len; have := HB.out.len; simp at *; omega); clear hO1 hg1 hd1 hB1; subst hv1; refine hK _ _ ?_; clear hK K)
  go_ret
  refine ⟨w1.heap.size, A1, n1, c1, rfl, ⟨Blk.new _ _ _, ?_, Nat.zero_le _, hn1⟩, HW1.out.size, HW1.out.alloc HW1.out.size _⟩
  have := HB1.out.alloc (Nat.le_refl _) (.cells #[.slice A1 n1 c1, .int .i64 0] 67)
  exact this
set_option maxRecDepth 100000 in
set_option maxHeartbeats 1000000 in
theorem inLeft (gi : Nat) (A : Option Addr) (n c : Nat) (l : List UInt8) (p : Nat) (w : World) (hi : InAt w gi A n c l p) :
    Calls Try.prog 24 #[.pointer (some ⟨gi, 0, none⟩)] w fun e w' => e = .returned (.int .i64 (8 * (n : Int) - (p : Int))) ∧ w.drew = w' := by
  have h1 := hi.2.2.1
  have h2 := hi.2.2.2
  have HI := Lib.hid hi
  clear hi
  go_enter Try.func24, Try.ntmps24
  go_wp2
  refine wp_region_seq (fun x => x = w.drew) [(false, 0), (false, 1), (false, 2), (false, 3), (false, 4), (false, 5), (true, 6), (true, 7), (true, 8), (true, 9), (true, 10), (true, 11)]
    (by kernel_rfl) (by kernel_rfl) (fun _ _ d _ _ h => by cases d <;> exact h) rfl ?_
  have c0 : w.drew.cell? ⟨gi, 0, none⟩ = some (.slice A n c) := HI.out.1.cell 0
  have c1 : w.drew.cell? ⟨gi, 1, none⟩ = some (.int .i64 (p : Int)) := HI.out.1.cell 1
  generalize hw1 : w.drew = w1 at *
  have HW1 := Lib.hid hw1
  clear hw1
  have jw : IntKind.i64.wrap (8 * (n : Int)) = 8 * (n : Int) := IntWalk.i64_in _ (by omega)
  iterate 6 (apply plan_take rfl rfl rfl rfl; (intro w' hS K hK; subst hS; go_simp; exact hK))
  iterate 6 (refine plan_force rfl rfl (fun K hK => ?_); go_wp2; refine hK.out _ _ rfl ?_; clear hK K)
  refine plan_nil ?_
  go_wp2
  go_ret
  exact ⟨rfl, HW1.out⟩
set_option maxRecDepth 100000 in
set_option maxHeartbeats 1000000 in
theorem inLeft_nil (w : World) : Calls Try.prog 24 #[.pointer none] w fun e w' => e = .returned (.int .i64 0) ∧ w = w' := by
  go_enter Try.func24, Try.ntmps24
  go_wp2
  go_ret
  exact ⟨rfl, rfl⟩
set_option maxRecDepth 100000 in
set_option maxHeartbeats 1000000 in
theorem inGet_nil (L : Int) (w : World) : Calls Try.prog 22 #[.pointer none, .int .i64 L] w fun e w' => e = .returned (.tuple #[.int .u64 0, .int .i64 1]) ∧ w = w' := by
  go_enter Try.func22, Try.ntmps22
  go_wp2
  go_step3
  go_wp2
  rw [Exit.noGoto_ret]
  go_ret2
  exact ⟨rfl, rfl⟩
set_option maxRecDepth 100000 in
set_option maxHeartbeats 1000000 in
theorem inGet_bad (gi : Nat) (L : Int) (w : World) (h : L < 0 ∨ 32 < L) : Calls Try.prog 22 #[.pointer (some ⟨gi, 0, none⟩), .int .i64 L] w fun e w' => e = .returned (.tuple #[.int .u64 0, .int .i64 1]) ∧ w = w' := by
  obtain h1 | ⟨h1, h2⟩ : L < 0 ∨ ¬ L < 0 ∧ 32 < L := by omega
  all_goals
    clear h
    go_enter Try.func22, Try.ntmps22
    go_wp2
    go_step3
    go_wp2
    rw [Exit.noGoto_ret]
    go_ret2
    exact ⟨rfl, rfl⟩
set_option maxRecDepth 100000 in
set_option maxHeartbeats 1000000 in
theorem inGet_cut (gi : Nat) (A : Option Addr) (n c : Nat) (l : List UInt8) (p L : Nat) (w : World) (hi : InAt w gi A n c l p) (hL : L ≤ 32) (hlt : 8 * n < p + L) :
    Calls Try.prog 22 #[.pointer (some ⟨gi, 0, none⟩), .int .i64 (L : Int)] w fun e w' => e = .returned (.tuple #[.int .u64 0, .int .i64 5]) ∧ w.drew = w' := by
  have HL := Lib.hid (inLeft gi A n c l p w hi)
  have h1 := hi.2.2.1
  have h2 := hi.2.2.2
  have t1 : ¬ (L : Int) < 0 := by omega
  have t2 : ¬ (32 : Int) < (L : Int) := by omega
  have t3 : 8 * (n : Int) - (p : Int) < (L : Int) := by omega
  clear hi
  go_enter Try.func22, Try.ntmps22
  go_wp2
  go_step3
  go_wp2_with fail
  (with_reducible refine HL.out.mono ?_)
  rintro e w1 ⟨rfl, hw1⟩
  have HW1 := Lib.hid hw1
  clear hw1
  go_wp2
  rw [Exit.noGoto_ret]
  go_ret2
  exact ⟨rfl, HW1.out⟩
theorem shr_bit8 (x : UInt8) (k : Nat) : bits .and .u8 ((x.toNat : Int) / 2 ^ k) 1 = (((x.toNat.testBit k).toNat : Nat) : Int) := by
  have e : (x.toNat : Int) / 2 ^ k = ((x.toNat / 2 ^ k : Nat) : Int) := by simp
  have hx := x.toNat_lt
  rw [e, PB.testBit_toNat]
  have h := u8_and_nat (x.toNat / 2 ^ k) 1 (Nat.lt_of_le_of_lt (Nat.div_le_self _ _) hx) (by decide)
  rw [show ((1 : Nat) : Int) = 1 from rfl] at h
  rw [h, Nat.and_one_is_mod]
set_option maxRecDepth 100000 in
set_option maxHeartbeats 4000000 in
theorem inGet (gi : Nat) (A : Option Addr) (n c : Nat) (l : List UInt8) (p L : Nat) (w : World) (hi : InAt w gi A n c l p) (hL : L ≤ 32) (hle : p + L ≤ 8 * n) :
    Calls Try.prog 22 #[.pointer (some ⟨gi, 0, none⟩), .int .i64 (L : Int)] w fun e w' => e = .returned (.tuple #[.int .u64 (PB.val (((PB.toBits l).drop p).take L) : Int), .int .i64 0]) ∧ InAt w' gi A n c l (p + L) ∧ w.grownBy w' (some gi) := by
  have HLf := Lib.hid (inLeft gi A n c l p w hi)
  have h2 := hi.2.2.2
  have t1 : ¬ (L : Int) < 0 := by omega
  have t2 : ¬ (32 : Int) < (L : Int) := by omega
  have t3 : ¬ 8 * (n : Int) - (p : Int) < (L : Int) := by omega
  have HI := Lib.hid hi
  have HLen := Lib.hid hi.2.1.len
  clear hi
  go_enter Try.func22, Try.ntmps22
  go_wp2
  refine wp_scope_back 0 (fun m a' w' => ∃ (k v : Nat), m = L - k ∧ k ≤ L ∧ v < 4294967296 ∧ Hid (v = PB.val (((PB.toBits l).drop p).take k)) ∧ Hid (InAt w' gi A n c l (p + k)) ∧ Hid (w.grownBy w' (some gi)) ∧ ∃ u : Nat → Value, a' = ⟨#[.pointer (some ⟨gi, 0, none⟩), .int .i64 (L : Int), u 2, u 3, .int .u64 0, .int .i64 0, .int .u64 (v : Int), .int .i64 ((p : Int) + (L : Int)), u 8, u 9, u 10, u 11, u 12, u 13, u 14, u 15, u 16, u 17, u 18, u 19, u 20, u 21, u 22, u 23, u 24, u 25, u 26, u 27, u 28, u 29, u 30, u 31, u 32, u 33, u 34, u 35, u 36, u 37, u 38, u 39, u 40, u 41, u 42, u 43, u 44, u 45, u 46, u 47, u 48, u 49, u 50, u 51, u 52, u 53, u 54, u 55, u 56, u 57, u 58, u 59, u 60, u 61, u 62, u 63, u 64], []⟩) rfl ?_ ?_
  · intro HJ
    go_wp2_with fail
    (with_reducible refine HLf.out.mono ?_)
    rintro e w1 ⟨rfl, hw1⟩
    have HI1 : Hid (InAt w1 gi A n c l p) := by rw [← hw1]; exact HI.out.drew
    have HG1 : Hid (w.grownBy w1 (some gi)) := by rw [← hw1]; exact grownBy_drew (World.grownBy.refl w _)
    clear hw1 HI
    have c1 : w1.cell? ⟨gi, 1, none⟩ = some (.int .i64 (p : Int)) := HI1.out.1.cell 1
    go_wp2
    go_step3
    go_step
    go_step
    exact HJ.out L _ _ ⟨0, 0, rfl, Nat.zero_le _, by decide, rfl, HI1, HG1, ⟨slot [undef, undef, _, _, undef, undef, undef, undef, _, _, _, _, _, _, _, _, _, _, _, _, _, _, _, _, _, _, _, _, _, _, _, _, _, _, _, _, _, _, _, _, _, _, _, _, _, _, _, _, _, _, _, _, _, _, _, _, _, _, _, _, _, _, _, _, _], rfl⟩⟩
  · rintro m a' w' ⟨k, v, rfl, hk, hv, HV, HI, HG, ⟨u, rfl⟩⟩
    obtain ⟨q, hq⟩ : ∃ q, q = p + k := ⟨_, rfl⟩
    rw [← hq] at HI
    have HQ := Lib.hid hq
    have c0 : w'.cell? ⟨gi, 0, none⟩ = some (.slice A n c) := HI.out.1.cell 0
    have c1 : w'.cell? ⟨gi, 1, none⟩ = some (.int .i64 (q : Int)) := HI.out.1.cell 1
    by_cases hlt : k < L
    · have hne : ((q : Int) == (p : Int) + (L : Int)) = false := by rw [beq_eq_false_iff_ne]; omega
      have hdn : q / 8 < n := by omega
      obtain ⟨b, off, hl, rfl, _, hcell⟩ := HI.out.2.1.at_ hdn
      obtain ⟨x, hx⟩ : ∃ x, x = l[q / 8] := ⟨_, rfl⟩
      rw [← hx] at hcell
      have hbit : (PB.toBits l)[q]? = some (x.toNat.testBit (7 - q % 8)) := PB.toBits_get l q x (by rw [hx]; exact List.getElem?_eq_getElem hl)
      obtain ⟨bt, hbt⟩ : ∃ bt, bt = x.toNat.testBit (7 - q % 8) := ⟨_, rfl⟩
      have hv2 : PB.val (((PB.toBits l).drop p).take (k + 1)) = 2 * v + bt.toNat := by
        rw [PB.val_take_succ _ k bt (by rw [List.getElem?_drop, ← HQ.out, hbit, hbt]), ← HV.out]
      have hv3 : 2 * v + bt.toNat < 4294967296 := by
        rw [← hv2]
        have h1 := PB.val_lt (((PB.toBits l).drop p).take (k + 1))
        have h2 : (((PB.toBits l).drop p).take (k + 1)).length ≤ 32 := by rw [List.length_take]; omega
        have h3 : 2 ^ (((PB.toBits l).drop p).take (k + 1)).length ≤ 2 ^ 32 := Nat.pow_le_pow_right (by decide) h2
        omega
      have hor := or_bit v bt (by omega)
      have hand := shr_bit8 x (7 - q % 8)
      rw [← hbt] at hand
      obtain ⟨V2, hV2⟩ : ∃ V2, V2 = 2 * v + bt.toNat := ⟨_, rfl⟩
      rw [← hV2] at hor hv2 hv3
      have HV2 := Lib.hid hv2
      have hqb : (q : Int) ≤ 8000000 := by omega
      clear hq hx hbit hbt hv2 hV2
      obtain ⟨d, hd⟩ : ∃ d, d = q / 8 := ⟨_, rfl⟩
      rw [← hd] at hcell hdn
      have hq8 : (q : Int).tdiv 8 = (d : Int) := by rw [Int.tdiv_eq_ediv_of_nonneg (by omega)]; omega
      have jw : IntKind.u64.wrap ((v : Int) * 2) = (v : Int) * 2 := IntWalk.u64_in _ (by omega)
      have jb : IntKind.u64.wrap ((bt.toNat : Nat) : Int) = ((bt.toNat : Nat) : Int) := IntWalk.u64_in _ (by have : bt.toNat < 2 := (by cases bt <;> decide); omega)
      have jd : IntKind.i64.wrap (d : Int) = (d : Int) := IntWalk.i64_in _ (by omega)
      have d0 : (0 : Int) ≤ (d : Int) := by omega
      have d1 : (d : Int) < (n : Int) := by omega
      clear hd
      obtain ⟨r, hr⟩ : ∃ r, r = q % 8 := ⟨_, rfl⟩
      have hr8 : (q : Int) % 8 = (r : Int) := by omega
      have hr2 : r ≤ 7 := by omega
      rw [← hr] at hand
      clear hr
      go_wp2
      refine wp_region_seq (fun x => x = w'.drew) [(false, 0), (false, 1), (false, 2), (false, 3), (false, 4), (false, 5), (false, 6), (false, 7), (false, 8), (false, 9), (false, 10), (false, 11), (false, 12), (true, 13), (true, 14), (true, 15), (true, 16), (true, 17), (true, 18), (true, 19), (true, 20), (true, 21), (true, 22), (true, 23)]
        (by kernel_rfl) (by kernel_rfl) (fun _ _ d _ _ h => by cases d <;> exact h) rfl ?_
      have HI1 := Lib.hid HI.out.drew
      have HG1 := Lib.hid (grownBy_drew HG.out)
      have e0 : w'.drew.cell? ⟨gi, 0, none⟩ = some (.slice (some ⟨b, off, none⟩) n c) := c0
      have e1 : w'.drew.cell? ⟨gi, 1, none⟩ = some (.int .i64 (q : Int)) := c1
      have e2 : w'.drew.cell? ⟨b, off + d, none⟩ = some (.int .u8 (x.toNat : Int)) := hcell
      clear HI HG c0 c1 hcell
      generalize w'.drew = w1 at *
      iterate 13 (apply plan_take rfl rfl rfl rfl; (intro w' hS K hK; subst hS; go_simp; exact hK))
      iterate 11 (refine plan_force rfl rfl (fun K hK => ?_); go_wp2; refine hK.out _ _ rfl ?_; clear hK K)
      refine plan_nil ?_
      clear jw jd jb d0 d1 e0 e2 hq8 hr8 hr2 hor hand
      have f1 := HI1.out.1.frozen 1
      have HB2 : Hid (Blk (w1.setCell ⟨gi, 1, none⟩ (.int .i64 ((q : Int) + 1))) gi 67 #[.slice (some ⟨b, off, none⟩) n c, .int .i64 ((q : Int) + 1)]) := HI1.out.1.set_ 1 _
      have HY2 := Lib.hid (HI1.out.2.1.setCell (p := ⟨gi, 1, none⟩) (Nat.le_refl _) (.int .i64 ((q : Int) + 1)))
      have HG2 := Lib.hid (grownBy_set HG1.out 1 (.int .i64 ((q : Int) + 1)))
      clear HI1 HG1
      go_wp2
      go_step3
      refine jump_back (m' := L - (k + 1)) (by omega) ?_
      refine ⟨k + 1, V2, rfl, by omega, hv3, HV2.out.symm, ⟨?_, HY2.out, by omega, h2⟩, HG2, ⟨slot [undef, undef, _, _, undef, undef, undef, undef, _, _, _, _, _, _, _, _, _, _, _, _, _, _, _, _, _, _, _, _, _, _, _, _, _, _, _, _, _, _, _, _, _, _, _, _, _, _, _, _, _, _, _, _, _, _, _, _, _, _, _, _, _, _, _, _, _], rfl⟩⟩
      have e3 : ((p + (k + 1) : Nat) : Int) = (q : Int) + 1 := by have := HQ.out; omega
      rw [e3]
      exact HB2.out
    · obtain rfl : k = L := by omega
      have hne : ((q : Int) == (p : Int) + (k : Int)) = true := by rw [beq_iff_eq]; omega
      clear hq
      go_wp2
      refine jump_ret ?_
      go_ret2
      exact ⟨by rw [← HV.out]; rfl, by rw [← HQ.out]; exact HI.out, HG.out⟩
set_option maxRecDepth 100000 in
set_option maxHeartbeats 1000000 in
theorem inRest_nil (w : World) : Calls Try.prog 26 #[.pointer none] w fun e w' => e = .returned (.bool false) ∧ w = w' := by
  go_enter Try.func26, Try.ntmps26
  go_wp2_with fail
  refine (inLeft_nil _).mono ?_
  rintro e w1 ⟨rfl, rfl⟩
  go_wp2
  go_ret
  exact ⟨rfl, rfl⟩
theorem bitsOf_drop (n : Nat) : ∀ (j k : Nat), (PB.bitsOf n (j + k)).drop j = PB.bitsOf n k
  | 0, k => by rw [Nat.zero_add]; rfl
  | j + 1, k => by
    rw [show j + 1 + k = (j + k) + 1 by omega, PB.bitsOf, List.drop_succ_cons]
    exact bitsOf_drop n j k
theorem rest_val (l : List UInt8) (k : Nat) (x : UInt8) (hk : k ≤ 8) (hl : 0 < l.length) (hx : l[l.length - 1]? = some x) : PB.val ((PB.toBits l).drop (8 * l.length - k)) = x.toNat % 2 ^ k := by
  obtain ⟨r, y, rfl⟩ : ∃ r y, l = r ++ [y] := ⟨l.dropLast, l.getLast (by intro e; subst e; simp at hl), (List.dropLast_concat_getLast _).symm⟩
  have hy : y = x := by simpa using hx
  subst hy
  have e1 : PB.toBits (r ++ [y]) = PB.toBits r ++ PB.bits8 y := by simp [PB.toBits]
  have e2 : 8 * (r ++ [y]).length - k = (PB.toBits r).length + (8 - k) := by rw [PB.toBits_length, List.length_append]; simp; omega
  rw [e1, e2, ← List.drop_drop, List.drop_left]
  unfold PB.bits8
  have := bitsOf_drop y.toNat (8 - k) k
  rw [show 8 - k + k = 8 by omega] at this
  rw [this, PB.val_bitsOf]
theorem shl_zero (x : UInt8) (k : Nat) (hk : k ≤ 8) : ((x.toNat : Int) * 2 ^ (8 - k) % 256 == 0) = (x.toNat % 2 ^ k == 0) := by
  have e1 : (x.toNat : Int) * 2 ^ (8 - k) = ((x.toNat * 2 ^ (8 - k) : Nat) : Int) := by simp
  have e2 : x.toNat * 2 ^ (8 - k) % 256 = x.toNat % 2 ^ k * 2 ^ (8 - k) := by
    rw [← Nat.mul_mod_mul_right, ← Nat.pow_add, show k + (8 - k) = 8 by omega]
  rw [e1, Bool.eq_iff_iff, beq_iff_eq, beq_iff_eq]
  have e3 : ((x.toNat * 2 ^ (8 - k) : Nat) : Int) % 256 = ((x.toNat * 2 ^ (8 - k) % 256 : Nat) : Int) := by simp
  rw [e3, e2]
  have hp := Nat.two_pow_pos (8 - k)
  constructor
  · intro h
    have h : x.toNat % 2 ^ k * 2 ^ (8 - k) = 0 := by omega
    rcases Nat.mul_eq_zero.1 h with h | h
    · exact h
    · omega
  · intro h
    rw [h, Nat.zero_mul]
    rfl
/-- Is only the filling left? -/
def restB (l : List UInt8) (p : Nat) : Bool := decide (8 * l.length - p < 8) && (PB.val ((PB.toBits l).drop p) == 0)
set_option maxRecDepth 100000 in
set_option maxHeartbeats 4000000 in
theorem inRest (gi : Nat) (A : Option Addr) (n c : Nat) (l : List UInt8) (p : Nat) (w : World) (hi : InAt w gi A n c l p) :
    Calls Try.prog 26 #[.pointer (some ⟨gi, 0, none⟩)] w fun e w' => e = .returned (.bool (restB l p)) ∧ Below w.heap.size w w' := by
  have HLf := Lib.hid (inLeft gi A n c l p w hi)
  have h1 := hi.2.2.1
  have h2 := hi.2.2.2
  have HI := Lib.hid hi
  have HLen := Lib.hid hi.2.1.len
  clear hi
  by_cases h8 : 8 ≤ 8 * n - p
  · have hr : restB l p = false := by unfold restB; rw [HLen.out, decide_eq_false (by omega)]; rfl
    rw [hr]
    clear hr
    have t1 : (8 : Int) ≤ 8 * (n : Int) - (p : Int) := by omega
    go_enter Try.func26, Try.ntmps26
    go_wp2_with fail
    (with_reducible refine HLf.out.mono ?_)
    rintro e w1 ⟨rfl, hw1⟩
    have HW1 : Hid (Below w.heap.size w w1) := by rw [← hw1]; exact (Below.refl _ _).drew
    clear hw1
    go_wp2
    go_ret
    exact ⟨rfl, HW1.out⟩
  · by_cases h0 : 8 * n = p
    · have hr : restB l p = true := by
        unfold restB
        rw [HLen.out, decide_eq_true (by omega), List.drop_eq_nil_of_le (by rw [PB.toBits_length, HLen.out]; omega)]
        rfl
      rw [hr]
      clear hr
      have t0 : 8 * (n : Int) - (p : Int) = 0 := by omega
      have HLf' : Hid (Calls Try.prog 24 #[.pointer (some ⟨gi, 0, none⟩)] w fun e w' => e = .returned (.int .i64 0) ∧ w.drew = w') := by
        have := HLf.out
        rw [t0] at this
        exact this
      clear HLf t0
      go_enter Try.func26, Try.ntmps26
      go_wp2_with fail
      (with_reducible refine HLf'.out.mono ?_)
      rintro e w1 ⟨rfl, hw1⟩
      have HW1 : Hid (Below w.heap.size w w1) := by rw [← hw1]; exact (Below.refl _ _).drew
      clear hw1
      go_wp2
      refine wp_region_seq (fun x => Below w.heap.size w x) [(true, 0), (true, 1), (true, 2), (false, 3), (false, 4), (false, 5), (false, 6), (false, 7), (false, 8), (false, 9), (false, 10), (false, 11), (false, 12), (false, 13), (false, 14), (true, 15), (true, 16), (true, 17), (true, 18), (true, 19), (true, 20)]
        (by kernel_rfl) (by kernel_rfl) (fun _ _ d _ _ h => by cases d <;> exact h) HW1.out.drew ?_
      have hW2 := HW1.out.drew
      generalize w1.drew = w2 at *
      iterate 3 (refine plan_force rfl rfl (fun K hK => ?_); go_wp2; refine hK.out _ _ hW2 ?_; clear hK K)
      iterate 12 (apply plan_drop rfl rfl rfl rfl; (intro K hK; go_simp; exact hK))
      iterate 4 (apply plan_pass rfl rfl hW2; (intro K hK; go_simp; exact hK))
      iterate 2 (refine plan_force rfl rfl (fun K hK => ?_); go_wp2; refine hK.out _ _ hW2 ?_; clear hK K)
      refine plan_nil ?_
      go_wp2
      go_ret
      exact ⟨rfl, hW2⟩
    · obtain ⟨k, hk⟩ : ∃ k, k = 8 * n - p := ⟨_, rfl⟩
      have hk1 : 1 ≤ k := by omega
      have hk7 : k ≤ 7 := by omega
      have hn1 : 1 ≤ n := by omega
      obtain ⟨b, off, hl, rfl, _, hcell⟩ := HI.out.2.1.at_ (show n - 1 < n by omega)
      obtain ⟨x, hx⟩ : ∃ x, x = l[n - 1] := ⟨_, rfl⟩
      rw [← hx] at hcell
      have hr : restB l p = (x.toNat % 2 ^ k == 0) := by
        have hv := rest_val l k x (by omega) (by rw [HLen.out]; omega) (by rw [HLen.out, hx]; exact List.getElem?_eq_getElem hl)
        have e1 : 8 * l.length - k = p := by rw [HLen.out]; omega
        rw [e1] at hv
        unfold restB
        rw [hv, HLen.out, decide_eq_true (by omega)]
        rfl
      have hsh := shl_zero x k (by omega)
      rw [hr]
      obtain ⟨R, hR⟩ : ∃ R, R = (x.toNat % 2 ^ k == 0) := ⟨_, rfl⟩
      rw [← hR] at hsh ⊢
      have HLf' : Hid (Calls Try.prog 24 #[.pointer (some ⟨gi, 0, none⟩)] w fun e w' => e = .returned (.int .i64 (k : Int)) ∧ w.drew = w') := by
        have := HLf.out
        rw [show 8 * (n : Int) - (p : Int) = (k : Int) by omega] at this
        exact this
      have k0 : ((k : Int) == 0) = false := by rw [beq_eq_false_iff_ne]; omega
      have k8 : ¬ (8 : Int) ≤ (k : Int) := by omega
      have e1 : ((n - 1 : Nat) : Int) = (n : Int) - 1 := by omega
      clear HLf hr hR hx hk hl
      go_enter Try.func26, Try.ntmps26
      go_wp2_with fail
      (with_reducible refine HLf'.out.mono ?_)
      rintro e w1 ⟨rfl, hw1⟩
      have HW1 : Hid (Below w.heap.size w w1) := by rw [← hw1]; exact (Below.refl _ _).drew
      have HI1 : Hid (InAt w1 gi (some ⟨b, off, none⟩) n c l p) := by rw [← hw1]; exact HI.out.drew
      have hcell1 : w1.cell? ⟨b, off + (n - 1), none⟩ = some (.int .u8 (x.toNat : Int)) := by rw [← hw1]; exact hcell
      clear hw1 HI hcell
      have HCell := Lib.hid hcell1
      clear hcell1
      have HE1 := Lib.hid e1
      clear e1
      go_wp2
      refine wp_region_seq (fun x => x = w1.drew) [(true, 0), (true, 1), (true, 2), (false, 3), (false, 4), (false, 5), (false, 6), (false, 7), (false, 8), (false, 9), (false, 10), (false, 11), (false, 12), (false, 13), (false, 14), (true, 15), (true, 16), (true, 17), (true, 18), (true, 19), (true, 20)]
        (by kernel_rfl) (by kernel_rfl) (fun _ _ d _ _ h => by cases d <;> exact h) rfl ?_
      have hW2 := HW1.out.drew
      have c0 : w1.drew.cell? ⟨gi, 0, none⟩ = some (.slice (some ⟨b, off, none⟩) n c) := HI1.out.1.cell 0
      have c1 : w1.drew.cell? ⟨b, off + (n - 1), none⟩ = some (.int .u8 (x.toNat : Int)) := HCell.out
      clear HW1 HI1 HCell
      generalize w1.drew = w2 at *
      iterate 3 (refine plan_force rfl rfl (fun K hK => ?_); go_wp2; refine hK.out _ _ rfl ?_; clear hK K)
      have jn : IntKind.i64.wrap ((n : Int) - 1) = (n : Int) - 1 := IntWalk.i64_in _ (by omega)
      have j0 : (0 : Int) ≤ (n : Int) - 1 := by omega
      have j1 : (n : Int) - 1 < (n : Int) := by omega
      have j2 : ((n : Int) - 1).toNat = n - 1 := by omega
      have j3 : (1 : Int) ≤ (n : Int) := by omega
      iterate 12 (apply plan_take rfl rfl rfl rfl; (intro w' hS K hK; subst hS; go_simp; exact hK))
      clear jn j0 j1 j2 j3
      iterate 6 (refine plan_force rfl rfl (fun K hK => ?_); go_wp2; refine hK.out _ _ rfl ?_; clear hK K)
      refine plan_nil ?_
      go_wp2
      go_ret
      exact ⟨rfl, hW2⟩
end Go.Proofs.Ytmllblgninmolaa
