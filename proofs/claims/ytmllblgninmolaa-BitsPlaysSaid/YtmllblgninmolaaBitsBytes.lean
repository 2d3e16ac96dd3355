/- The walks of bits.spread and Out's Bytes, Long; Put outside its bounds. -/
import Derived.Test.YtmllblgninmolaaBitsOut
import Derived.Test.YtmllblgninmolaaMake
import Derived.Test.YtmllblgninmolaaByteRow
import Derived.Test.YtmllblgninmolaaSlices
namespace Go.Proofs.Ytmllblgninmolaa
open Go.RowKit
set_option linter.unusedVariables false
set_option maxRecDepth 100000 in
set_option maxHeartbeats 1000000 in
theorem outPut_nil (n L : Int) (w : World) : Calls Try.prog 17 #[.pointer none, .int .u64 n, .int .i64 L] w fun e w' => e = .returned (.int .i64 1) ∧ w = w' := by
  go_enter Try.func17, Try.ntmps17
  go_wp2
  go_step3
  go_wp2
  rw [Exit.noGoto_ret]
  go_ret
  exact ⟨rfl, rfl⟩
set_option maxRecDepth 100000 in
set_option maxHeartbeats 1000000 in
theorem outPut_bad (go : Nat) (n L : Int) (w : World) (h : L < 0 ∨ 32 < L) : Calls Try.prog 17 #[.pointer (some ⟨go, 0, none⟩), .int .u64 n, .int .i64 L] w fun e w' => e = .returned (.int .i64 1) ∧ w = w' := by
  obtain h1 | ⟨h1, h2⟩ : L < 0 ∨ ¬ L < 0 ∧ 32 < L := by omega
  all_goals
    clear h
    go_enter Try.func17, Try.ntmps17
    go_wp2
    go_step3
    go_wp2
    rw [Exit.noGoto_ret]
    go_ret
    exact ⟨rfl, rfl⟩
set_option maxRecDepth 100000 in
set_option maxHeartbeats 1000000 in
theorem outLong (go : Nat) (p : Option Addr) (gs : List Nat) (us : List (List Bool)) (pt : List Bool) (w : World) (ho : OutAt w go p gs us pt) :
    Calls Try.prog 21 #[.pointer (some ⟨go, 0, none⟩)] w fun e w' => e = .returned (.int .i64 ((bitsSt us pt).length : Int)) ∧ w = w' := by
  obtain ⟨N, hN⟩ : ∃ N, N = 64 * us.length + pt.length := ⟨_, rfl⟩
  have c2 := ho.1.cell 2
  have c2' : w.cell? ⟨go, 2, none⟩ = some (.int .i64 (N : Int)) := by rw [hN]; exact c2
  have hlen : (bitsSt us pt).length = N := by
    have h1 := ho.2.1.len
    rw [hN]
    unfold bitsSt
    rw [List.length_append]
    congr 1
    clear c2 c2' hN ho
    rw [List.length_flatten]
    induction us with
    | nil => rfl
    | cons u us ih =>
      rw [List.reverse_cons, List.map_append, List.sum_append, ih (fun u hu => h1 u (by simp [hu]))]
      simp [h1 u (by simp)]
      omega
  rw [hlen]
  clear c2 hN hlen ho
  go_enter Try.func21, Try.ntmps21
  go_wp2
  go_ret
  exact ⟨rfl, rfl⟩
/-- Block g is just these bytes. -/
def ByteBlk (w : World) (g : Nat) (l : List UInt8) : Prop := Blk w g 5 (l.map u8v).toArray
theorem packW_succ (x i : Nat) : PB.packW x (i + 1) = PB.packW x i ++ [UInt8.ofNat (x / 2 ^ (56 - 8 * i) % 256)] := by
  unfold PB.packW
  rw [List.range_succ, List.map_append]
  rfl
/-- i bytes of x laid over l from off on. -/
def over (l : List UInt8) (off x i : Nat) : List UInt8 := l.take off ++ (PB.packW x i ++ l.drop (off + i))
theorem over_zero (l : List UInt8) (off x : Nat) : over l off x 0 = l := by simp [over, PB.packW]
theorem over_length (l : List UInt8) (off x i : Nat) (h : off + i ≤ l.length) : (over l off x i).length = l.length := by
  simp [over, PB.packW_length]
  omega
theorem over_set (l : List UInt8) (off x i : Nat) (h : off + i < l.length) : (over l off x i).set (off + i) (UInt8.ofNat (x / 2 ^ (56 - 8 * i) % 256)) = over l off x (i + 1) := by
  unfold over
  have hl1 : (l.take off).length = off := by rw [List.length_take]; omega
  rw [packW_succ, List.set_append_right _ _ (by omega), hl1, show off + i - off = i by omega, List.set_append_right _ _ (by rw [PB.packW_length]; omega), PB.packW_length, Nat.sub_self, List.drop_eq_getElem_cons h, List.set_cons_zero, show off + i + 1 = off + (i + 1) by omega]
  simp
theorem ByteBlk.set {w : World} {g : Nat} {l : List UInt8} (h : ByteBlk w g l) (i : Nat) (b : UInt8) : ByteBlk (w.setCell ⟨g, i, none⟩ (u8v b)) g (l.set i b) := by
  have := Blk.set_ h i (u8v b)
  unfold ByteBlk
  rw [List.map_set, ← List.setIfInBounds_toArray]
  exact this
set_option maxRecDepth 100000 in
set_option maxHeartbeats 1000000 in
theorem spread_any (g off n c x : Nat) (l : List UInt8) (w : World) (hB : ByteBlk w g l) (hn : off + n ≤ l.length) (hn8 : n ≤ 8) (hx : x < 18446744073709551616) :
    Calls Try.prog 31 #[.slice (some ⟨g, off, none⟩) n c, .int .u64 (x : Int)] w fun e w' => e = .returned (.tuple #[]) ∧ ByteBlk w' g (over l off x n) ∧ w.grownBy w' (some g) := by
  have HB := Lib.hid hB
  clear hB
  go_enter Try.func31, Try.ntmps31
  go_wp2
  refine wp_scope_back 0 (fun m a' w' => ∃ (i : Nat), m = n - i ∧ i ≤ n ∧ Hid (ByteBlk w' g (over l off x i)) ∧ Hid (w.grownBy w' (some g)) ∧ ∃ u : Nat → Value, a' = ⟨#[.slice (some ⟨g, off, none⟩) n c, .int .u64 (x : Int), u 2, u 3, .int .i64 (i : Int), u 5, u 6, u 7, u 8, u 9, u 10, u 11, u 12, u 13, u 14, u 15, u 16, u 17, u 18, u 19], []⟩) rfl ?_ ?_
  · intro HJ
    go_wp2
    go_step3
    go_step
    go_step
    exact HJ.out n _ _ ⟨0, rfl, Nat.zero_le _, (by rw [over_zero]; exact HB), World.grownBy.refl w _, ⟨slot [undef, undef, _, _, undef, _, _, _, _, _, _, _, _, _, _, _, _, _, _, _], rfl⟩⟩
  · rintro m a' w' ⟨i, rfl, hi, HB, HG, ⟨u, rfl⟩⟩
    by_cases hlt : i < n
    · have hne : ((i : Int) == (n : Int)) = false := by simp; omega
      have hlo := over_length l off x i (by omega)
      have hcell : ∃ v, w'.cell? ⟨g, off + i, none⟩ = some v := by
        rw [Blk.cell HB.out]
        have h1 : off + i < (over l off x i).length := by omega
        exact ⟨_, by simp [h1]; rfl⟩
      obtain ⟨v, hcell⟩ := hcell
      have hf := Blk.frozen HB.out (off + i)
      have s0 : (0 : Int) ≤ 56 - 8 * (i : Int) := by omega
      go_wp2
      have e : Value.int .u8 ((x : Int) / 2 ^ (56 - 8 * i) % 256) = u8v (UInt8.ofNat (x / 2 ^ (56 - 8 * i) % 256)) := by
        have e1 : (x : Int) / 2 ^ (56 - 8 * i) % 256 = ((x / 2 ^ (56 - 8 * i) % 256 : Nat) : Int) := by simp
        rw [e1]
        unfold u8v
        rw [UInt8.toNat_ofNat']
        congr 1
        omega
      rw [e]
      clear e
      go_step3
      refine jump_back (m' := n - (i + 1)) (by omega) ?_
      exact ⟨i + 1, rfl, hlt, (by rw [← over_set l off x i (by omega)]; exact HB.out.set _ _), grownBy_set HG.out _ _, ⟨slot [undef, undef, _, _, undef, _, _, _, _, _, _, _, _, _, _, _, _, _, _, _], rfl⟩⟩
    · obtain rfl : i = n := by omega
      go_wp2
      refine jump_ret ?_
      exact bodyPost_ret (v := .tuple #[]) (by simp [results, Try.results31]) rfl ⟨rfl, HB.out, HG.out⟩
set_option maxRecDepth 100000 in
set_option maxHeartbeats 1000000 in
theorem spread_none (A : Option Addr) (c x : Nat) (w : World) :
    Calls Try.prog 31 #[.slice A 0 c, .int .u64 (x : Int)] w fun e w' => e = .returned (.tuple #[]) ∧ w = w' := by
  go_enter Try.func31, Try.ntmps31
  go_wp2
  refine wp_scope_back 0 (fun m a' w' => w' = w ∧ ∃ u : Nat → Value, a' = ⟨#[.slice A 0 c, .int .u64 (x : Int), u 2, u 3, .int .i64 0, u 5, u 6, u 7, u 8, u 9, u 10, u 11, u 12, u 13, u 14, u 15, u 16, u 17, u 18, u 19], []⟩) rfl ?_ ?_
  · intro HJ
    go_wp2
    go_step3
    go_step
    go_step
    exact HJ.out 0 _ _ ⟨rfl, ⟨slot [undef, undef, _, _, undef, _, _, _, _, _, _, _, _, _, _, _, _, _, _, _], rfl⟩⟩
  · rintro m a' w' ⟨rfl, ⟨u, rfl⟩⟩
    go_wp2
    refine jump_ret ?_
    exact bodyPost_ret (v := .tuple #[]) (by simp [results, Try.results31]) rfl ⟨rfl, rfl⟩
theorem flat_length {us : List (List Bool)} (h : ∀ u ∈ us, u.length = 64) : (us.reverse.flatten).length = 8 * (8 * us.length) := by
  rw [List.length_flatten]
  induction us with
  | nil => rfl
  | cons u us ih =>
    rw [List.reverse_cons, List.map_append, List.sum_append, ih (fun u hu => h u (by simp [hu]))]
    simp [h u (by simp)]
    omega
theorem packW_word (u : List Bool) (h : u.length = 64) : PB.packW (PB.val u) 8 = PB.pack u := by
  have := PB.packW_pack u (by omega)
  rw [h] at this
  simpa using this
theorem over_zeros (k x i : Nat) (D : List UInt8) : over (List.replicate (k + i) 0 ++ D) k x i = List.replicate k 0 ++ (PB.packW x i ++ D) := by
  unfold over
  have e1 : (List.replicate (k + i) (0 : UInt8) ++ D).take k = List.replicate k 0 := by
    rw [List.take_append_of_le_length (by simp)]
    simp
  have e2 : (List.replicate (k + i) (0 : UInt8) ++ D).drop (k + i) = D := by
    rw [List.drop_left' (by simp)]
  rw [e1, e2]
theorem ByteBlk.made (w : World) (n : Nat) : ByteBlk (w.alloc (.cells (zeroRow n) 5)) w.heap.size (List.replicate n 0) := by
  unfold ByteBlk
  rw [← zeroRow_eq]
  exact Blk.new _ _ _
theorem Blk.grown' {w w' : World} {g h : Nat} {t : TypeId} {cs : Array Value} (hB : Blk w g t cs) (hg : w.grownBy w' (some h)) (hne : g ≠ h) : Blk w' g t cs := hB.grown hg (fun e => hne (by injection e))
theorem part_top (pt : List Bool) (h : pt.length < 64) : PB.val pt * 2 ^ (64 - pt.length) < 18446744073709551616 := by
  have h1 := PB.val_lt pt
  have e : 18446744073709551616 = 2 ^ pt.length * 2 ^ (64 - pt.length) := by rw [← Nat.pow_add, show pt.length + (64 - pt.length) = 64 by omega]
  rw [e]
  exact (Nat.mul_lt_mul_right (Nat.two_pow_pos _)).2 h1
set_option maxRecDepth 100000 in
set_option maxHeartbeats 4000000 in
theorem outBytes (go : Nat) (p : Option Addr) (gs : List Nat) (us : List (List Bool)) (pt : List Bool) (w : World) (ho : OutAt w go p gs us pt) (hb : 64 * us.length + pt.length ≤ 1000000000) :
    Calls Try.prog 19 #[.pointer (some ⟨go, 0, none⟩)] w fun e w' => e = .returned (.slice (some ⟨w.heap.size, 0, none⟩) (PB.pack (bitsSt us pt)).length (PB.pack (bitsSt us pt)).length) ∧ ByteBlk w' w.heap.size (PB.pack (bitsSt us pt)) ∧ Below w.heap.size w w' := by
  have hpt := ho.2.2.2
  obtain ⟨n, hn⟩ : ∃ n, n = (PB.pack (bitsSt us pt)).length := ⟨_, rfl⟩
  obtain ⟨N, hN⟩ : ∃ N, N = 64 * us.length + pt.length := ⟨_, rfl⟩
  have hus := ho.2.1.len
  have hnv : n = 8 * us.length + (pt.length + 7) / 8 := by
    rw [hn, PB.pack_length _ _ rfl]
    unfold bitsSt
    rw [List.length_append, flat_length hus]
    omega
  rw [← hn]
  have HNN := Lib.hid hn
  have HN := Lib.hid hN
  have HNV := Lib.hid hnv
  have HUS := Lib.hid hus
  have hB := ho.1
  rw [← hN] at hB
  obtain ⟨V, hV⟩ : ∃ V, V = PB.val pt := ⟨_, rfl⟩
  rw [← hV] at hB
  have HB := Lib.hid hB
  have HC := Lib.hid ho.2.1
  have HV := Lib.hid hV
  have hgo := hB.lt
  have hgs := HC.out.lt
  have HGS := Lib.hid hgs
  have hXt := part_top pt hpt
  rw [← hV] at hXt
  have HXT := Lib.hid hXt
  have hn1 : n ≤ 1000000000 := by omega
  have hN2 : N ≤ 1000000000 := by omega
  clear hn hN hnv hus hB hV hgs hXt
  have c0 : w.cell? ⟨go, 0, none⟩ = some (.pointer p) := HB.out.cell 0
  have c1 : w.cell? ⟨go, 1, none⟩ = some (.int .u64 (V : Int)) := HB.out.cell 1
  have c2 : w.cell? ⟨go, 2, none⟩ = some (.int .i64 (N : Int)) := HB.out.cell 2
  have en : ((N : Int) + 7) / 8 = (n : Int) := by have := HN.out; have := HNV.out; omega
  have hmk : ∀ w : World, (Instr.makeSlice 23 (.int .i64 (n : Int)) (.int .i64 (n : Int))).run Try.prog w = .ok (.slice (some ⟨w.heap.size, 0, none⟩) n n) (w.alloc (.cells (zeroRow n) 5)) := fun w => run_make_bytes row_u8 w n n .i64 .i64 (Nat.le_refl _) (by omega)
  go_enter Try.func19, Try.ntmps19
  go_wp2
  refine wp_scope_back 0 (fun m a' w' => ∃ (q : Option Addr) (t : Nat) (gs' : List Nat) (us' : List (List Bool)) (D : List UInt8), m = us'.length ∧ Hid (t = 8 * us'.length) ∧ us'.length ≤ us.length ∧ Hid (Chain w' q gs' us') ∧ Hid (∀ g ∈ gs', g < w.heap.size) ∧ Hid (ByteBlk w' w.heap.size (List.replicate (8 * us'.length) 0 ++ D)) ∧ Hid (PB.pack (us'.reverse.flatten) ++ D = PB.pack (bitsSt us pt)) ∧ Hid (∀ u ∈ us', u.length = 64) ∧ Hid (8 * us'.length + D.length = n) ∧ Below w.heap.size w w' ∧ ∃ u : Nat → Value, a' = ⟨#[.pointer (some ⟨go, 0, none⟩), u 1, .slice none 0 0, .slice (some ⟨w.heap.size, 0, none⟩) n n, .int .i64 (t : Int), .pointer q, u 6, u 7, u 8, u 9, u 10, u 11, u 12, u 13, u 14, u 15, u 16, u 17, u 18, u 19, u 20, u 21, u 22, u 23, u 24, u 25, u 26, u 27, u 28, u 29, u 30, u 31, u 32, u 33, u 34, u 35, u 36, u 37, u 38, u 39, u 40, u 41, u 42, u 43, u 44, u 45, u 46, u 47, u 48, u 49, u 50, u 51, u 52, u 53, u 54, u 55, u 56, u 57, u 58], []⟩) rfl ?_ ?_
  · intro HJ
    obtain ⟨t, ht⟩ : ∃ t, t = 8 * us.length := ⟨_, rfl⟩
    have hmul : (N : Int) / 64 * 8 = (t : Int) := by have := HN.out; omega
    have hat : t ≤ n := by have := HNV.out; omega
    have hmod : (N : Int) % 64 = (pt.length : Int) := by have := HN.out; omega
    have HT := Lib.hid ht
    clear ht
    go_wp2
    have hgo2 : go ≠ w.heap.size := by omega
    have HB1 := Lib.hid ((HB.out.alloc (.cells (zeroRow n) 5)).drew)
    have HC1 := Lib.hid (HC.out.keep (w' := (w.alloc (.cells (zeroRow n) 5)).drew) (fun g hg hlt => Below.heap_alloc w _ g hlt))
    have HZ1 : Hid (ByteBlk (w.alloc (.cells (zeroRow n) 5)).drew w.heap.size (List.replicate n 0)) := ByteBlk.made w n
    have hW1 : Below w.heap.size w (w.alloc (.cells (zeroRow n) 5)).drew := ((Below.refl _ _).alloc (Nat.le_refl _) _).drew
    refine wp_region_seq (fun x => Blk x go 40 #[.pointer p, .int .u64 (V : Int), .int .i64 (N : Int)]) [(false, 0), (false, 1), (false, 2), (false, 3), (false, 4), (false, 5), (false, 6), (true, 7), (true, 8), (true, 9), (true, 10), (true, 11), (true, 12), (true, 13), (true, 14)]
      (by kernel_rfl) (by kernel_rfl) (fun _ _ d _ _ h => by cases d <;> exact h) HB1.out ?_
    clear c0 c1 c2 HB hmk hmul en
    generalize (w.alloc (.cells (zeroRow n) 5)).drew = w1 at *
    have hs := fun x => run_rest_at row_u8 (some ⟨w.heap.size, 0, none⟩) n n t hat x
    iterate 7 (apply plan_take rfl rfl rfl rfl; (intro w' hS K hK; have c1 : w'.cell? ⟨go, 1, none⟩ = some (.int .u64 (V : Int)) := hS.cell 1; clear hS; go_simp; exact hK))
    clear hs
    have c2 : w1.cell? ⟨go, 2, none⟩ = some (.int .i64 (N : Int)) := HB1.out.cell 2
    iterate 6 (refine plan_force rfl rfl (fun K hK => ?_); go_wp2; refine hK.out _ _ HB1.out ?_; clear hK K)
    obtain ⟨Y, hY⟩ : ∃ Y, Y = V * 2 ^ (64 - pt.length) := ⟨_, rfl⟩
    have hwr : IntKind.u64.wrap ((V : Int) * 2 ^ (64 - pt.length)) = (Y : Int) := by
      have e1 : (V : Int) * 2 ^ (64 - pt.length) = ((V * 2 ^ (64 - pt.length) : Nat) : Int) := by simp
      have := HXT.out
      rw [e1, ← hY, IntWalk.u64_in _ (by omega)]
    have hsp : Calls Try.prog 31 #[.slice (cutA (some ⟨w.heap.size, 0, none⟩) t n) (n - t) (n - t), .int .u64 (Y : Int)] w1 fun e w' => e = .returned (.tuple #[]) ∧ ByteBlk w' w.heap.size (List.replicate t 0 ++ PB.pack pt) ∧ w1.grownBy w' (some w.heap.size) := by
      by_cases h0 : pt.length = 0
      · have e0 : n = t := by have := HNV.out; have := HT.out; omega
        have e1 : pt = [] := List.eq_nil_of_length_eq_zero h0
        have hz := HZ1.out
        subst e0
        rw [Nat.sub_self]
        refine (spread_none _ _ _ _).mono ?_
        rintro e w2 ⟨rfl, rfl⟩
        rw [e1, PB.pack_nil, List.append_nil]
        exact ⟨rfl, hz, World.grownBy.refl _ _⟩
      · have e0 : n = t + (pt.length + 7) / 8 := by have := HNV.out; have := HT.out; omega
        have e1 : cutA (some ⟨w.heap.size, 0, none⟩) t n = some ⟨w.heap.size, t, none⟩ := by
          unfold cutA
          rw [if_neg (by omega)]
          simp [Addr.add_mid]
        have e2 : n - t = (pt.length + 7) / 8 := by omega
        rw [e1, e2]
        have hz := HZ1.out
        rw [e0] at hz
        refine (spread_any w.heap.size t _ _ Y _ w1 hz (by simp) (by omega) (by rw [hY]; exact HXT.out)).mono ?_
        rintro e w2 ⟨rfl, h1, h2⟩
        have := over_zeros t Y ((pt.length + 7) / 8) []
        rw [List.append_nil, List.append_nil, hY, HV.out, PB.packW_pack pt (by omega)] at this
        rw [hY, HV.out, this] at h1
        exact ⟨rfl, h1, h2⟩
    have HSP := Lib.hid hsp
    clear hsp hY
    refine plan_force rfl rfl (fun K hK => ?_); go_wp2; refine hK.out _ _ HB1.out ?_; clear hK K
    clear hwr
    refine plan_force rfl rfl (fun K hK => ?_)
    go_wp2_with fail
    (with_reducible refine HSP.out.mono ?_)
    rintro e w2 ⟨rfl, hZ2, hg2⟩
    have HZ2 := Lib.hid hZ2
    have HB2 := Lib.hid (HB1.out.grown' hg2 hgo2)
    have HC2 := Lib.hid (HC1.out.keep (w' := w2) (fun g hg hlt => hg2.block g hlt (fun e => by injection e with e; have := HGS.out g hg; omega)))
    have hW2 := hW1.grown hg2 hW1.size (by intro g hg; injection hg with hg; omega)
    clear hZ2 hg2 HSP HZ1 HB1 HC1 hW1
    go_wp2_with fail
    refine hK.out _ _ HB2.out ?_; clear hK K
    refine plan_nil ?_
    clear c2
    have c0 : w2.cell? ⟨go, 0, none⟩ = some (.pointer p) := HB2.out.cell 0
    go_wp2
    go_step3
    go_step
    go_step
    refine HJ.out us.length _ _ ⟨p, t, gs, us, PB.pack pt, rfl, HT, Nat.le_refl _, HC2, HGS, ?_, ?_, HUS, ?_, hW2, ⟨slot [undef, _, undef, undef, undef, undef, _, _, _, _, _, _, _, _, _, _, _, _, _, _, _, _, _, _, _, _, _, _, _, _, _, _, _, _, _, _, _, _, _, _, _, _, _, _, _, _, _, _, _, _, _, _, _, _, _, _, _, _, _], rfl⟩⟩
    · show ByteBlk _ _ _
      rw [← HT.out]
      exact HZ2.out
    · show _ = _
      unfold bitsSt
      rw [PB.pack_append8 _ pt _ (flat_length HUS.out)]
    · show _ = _
      rw [PB.pack_length _ pt rfl]
      have := HNV.out
      omega
  · rintro m a' w' ⟨q, t, gs', us', D, rfl, HT, hle, HC, HGS', HZ, HP, HUS', HD, hW, ⟨u, rfl⟩⟩
    clear c0 c1 c2 hmk en HB
    match us', gs' with
    | [], [] =>
      have hq : q = none := HC.out
      subst hq
      go_wp2
      refine jump_ret ?_
      go_ret
      refine ⟨rfl, ?_, hW⟩
      have h1 := HP.out
      simp only [List.reverse_nil, List.flatten_nil, PB.pack_nil, List.nil_append] at h1
      have h2 := HZ.out
      simp only [List.length_nil, Nat.mul_zero, List.replicate_zero, List.nil_append] at h2
      rw [← h1]
      exact h2
    | [], g :: gs' => exact absurd HC.out (by simp [Chain])
    | u :: us', [] => exact absurd HC.out (by simp [Chain])
    | u :: us', g :: gs' =>
      obtain ⟨hq, hu64, q', hBg, hC'⟩ := HC.out
      subst hq
      obtain ⟨t', ht'⟩ : ∃ t', t' = 8 * us'.length := ⟨_, rfl⟩
      obtain rfl : t = t' + 8 := by have := HT.out; rw [List.length_cons] at this; omega
      have HT' := Lib.hid ht'
      have hlt : t' + 8 ≤ n := by have := HD.out; rw [List.length_cons] at this; omega
      have HBg := Lib.hid hBg
      have HC' := Lib.hid hC'
      have hglt : g < w.heap.size := HGS'.out g (by simp)
      have hgne : g ≠ w.heap.size := by omega
      have hvu : PB.val u < 18446744073709551616 := by have := PB.val_lt u; rw [hu64] at this; exact this
      have hZ2 := HZ.out
      have e1 : List.replicate (8 * (u :: us').length) (0 : UInt8) = List.replicate (t' + 8) 0 := by congr 1; rw [List.length_cons]; omega
      rw [e1] at hZ2
      have hsp := spread_any w.heap.size t' 8 (n - t') (PB.val u) _ w'.drew (show ByteBlk w'.drew _ _ from hZ2) (by rw [List.length_append, List.length_replicate]; omega) (by omega) hvu
      rw [over_zeros, packW_word u hu64] at hsp
      have hs := fun x => run_part_at row_u8 (some ⟨w.heap.size, 0, none⟩) n n t' (t' + 8) (by omega) hlt x
      have e2 : cutA (some ⟨w.heap.size, 0, none⟩) t' n = some ⟨w.heap.size, t', none⟩ := by
        unfold cutA
        rw [if_neg (by omega)]
        simp [Addr.add_mid]
      have e3 : ((t' + 8 : Nat) : Int) = (t' : Int) + 8 := by omega
      have e4 : t' + 8 - t' = 8 := by omega
      rw [e2, e3, e4] at hs
      have jw : IntKind.i64.wrap ((t' : Int) + 8) = (t' : Int) + 8 := IntWalk.i64_in _ (by omega)
      obtain ⟨X, hX⟩ : ∃ X, X = PB.val u := ⟨_, rfl⟩
      rw [← hX] at hsp HBg
      have HSP := Lib.hid hsp
      have HU := Lib.hid hu64
      clear hZ2 hsp e1 e2 e3 e4 hvu hX hBg hC' HC HT HZ ht' hu64
      go_wp2
      refine wp_region_seq (fun x => True) [(false, 0), (false, 1), (false, 2), (false, 3), (false, 4), (true, 5), (true, 6), (true, 7), (true, 8), (true, 9)]
        (by kernel_rfl) (by kernel_rfl) (fun _ _ d _ _ h => by cases d <;> exact h) trivial ?_
      have HBg1 := Lib.hid HBg.out.drew
      have HC1 := Lib.hid (HC'.out.keep (w' := w'.drew) (fun g hg hlt => rfl))
      have hW1 := hW.drew
      clear HBg HC' hW
      generalize w'.drew = w1 at *
      iterate 5 (apply plan_take rfl rfl rfl rfl; (intro w' hS K hK; clear hS; go_simp; exact hK))
      clear hs jw
      have c1 : w1.cell? ⟨g, 1, none⟩ = some (.int .u64 (X : Int)) := HBg1.out.cell 1
      iterate 4 (refine plan_force rfl rfl (fun K hK => ?_); go_wp2; refine hK.out _ _ trivial ?_; clear hK K)
      clear c1
      refine plan_force rfl rfl (fun K hK => ?_)
      go_wp2_with fail
      (with_reducible refine HSP.out.mono ?_)
      rintro e w2 ⟨rfl, hZ2, hg2⟩
      have HZ2 := Lib.hid hZ2
      have HBg2 := Lib.hid (HBg1.out.grown' hg2 hgne)
      have HC2 := Lib.hid (HC1.out.keep (w' := w2) (fun g hg hlt => hg2.block g hlt (fun e => by injection e with e; have := HGS'.out g (by simp [hg]); omega)))
      have hW2 := hW1.grown hg2 hW1.size (by intro g hg; injection hg with hg; omega)
      clear hZ2 hg2 HSP HBg1 HC1 hW1
      go_wp2_with fail
      refine hK.out _ _ trivial ?_; clear hK K
      refine plan_nil ?_
      have c0 : w2.cell? ⟨g, 0, none⟩ = some (.pointer q') := HBg2.out.cell 0
      go_wp2
      go_step3
      refine jump_back (m' := us'.length) (by simp) ?_
      refine ⟨q', t', gs', us', PB.pack u ++ D, rfl, HT', by simp at hle; omega, HC2, (fun g hg => HGS'.out g (by simp [hg])), ?_, ?_, (fun u hu => HUS'.out u (by simp [hu])), ?_, hW2, ⟨slot [undef, _, undef, undef, undef, undef, _, _, _, _, _, _, _, _, _, _, _, _, _, _, _, _, _, _, _, _, _, _, _, _, _, _, _, _, _, _, _, _, _, _, _, _, _, _, _, _, _, _, _, _, _, _, _, _, _, _, _, _, _], rfl⟩⟩
      · show ByteBlk _ _ _
        rw [← HT'.out]
        exact HZ2.out
      · show _ = _
        rw [← HP.out, List.reverse_cons, List.flatten_append, PB.pack_append8 _ _ _ (flat_length (fun u hu => HUS'.out u (by simp [hu])))]
        simp
      · show _ = _
        rw [List.length_append, PB.pack_length _ u rfl, HU.out]
        have := HD.out
        rw [List.length_cons] at this
        omega
end Go.Proofs.Ytmllblgninmolaa
