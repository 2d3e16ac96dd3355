/- The walk of steamerlaw16.told: it returns true. -/
import Derived.Test.YtbmccgiffplpjaaKeyNo
import Derived.Test.YtbmccgiffplpjaaFork
import Derived.Test.YtbmccgiffplpjaaConv
namespace Go.Proofs.Ytbmccgiffplpjaa
open Go.RowKit
set_option linter.unusedVariables false
def sameK (k m : PL.K8) : Bool := (List.range 8).all fun i => k.get i == m.get i
theorem info_u32 : (Try.prog.info? 22).isSome = true := by kernel_rfl
theorem eq_keys (k m : PL.K8) (w : World) : (Op.equalIn 10000 28 (.agg (keyCells k)) (.agg (keyCells m))).run Try.prog w = .ok (sameK k m) w := by
  obtain ⟨i, hi⟩ := Option.isSome_iff_exists.1 info_u32
  rw [equal_ints w 9998 28 22 8 .u32 i Try.underlying28 hi (by kernel_rfl) Try.underlying22 _ _ (fun i => W (k.get i)) (fun i => W (m.get i)) (keyCells_get k) (keyCells_get m)]
  congr 2
  funext i
  rw [Bool.eq_iff_iff]
  simp only [beq_iff_eq]
  exact ⟨W_inj, fun h => by rw [h]⟩
theorem sameK_eq (k m : PL.K8) : sameK k m = true ↔ k = m := by
  constructor
  · intro h
    simp only [sameK, List.all_eq_true, List.mem_range, beq_iff_eq] at h
    obtain ⟨a0, a1, a2, a3, a4, a5, a6, a7⟩ := k
    obtain ⟨b0, b1, b2, b3, b4, b5, b6, b7⟩ := m
    have h0 := h 0 (by omega)
    have h1 := h 1 (by omega)
    have h2 := h 2 (by omega)
    have h3 := h 3 (by omega)
    have h4 := h 4 (by omega)
    have h5 := h 5 (by omega)
    have h6 := h 6 (by omega)
    have h7 := h 7 (by omega)
    simp only [PL.K8.get] at h0 h1 h2 h3 h4 h5 h6 h7
    subst h0 h1 h2 h3 h4 h5 h6 h7
    rfl
  · rintro rfl
    simp [sameK]
namespace T16
def zero8 : Nat → UInt8 := fun _ => 0
def KA : PL.K8 := keyOf [112] zero8 1
def KB : PL.K8 := keyOf [112] zero8 2
theorem differ : sameK KA KB = false := by decide +kernel
theorem k1 (w : World) : Calls Try.prog 19 #[.string ⟨#[112]⟩, .agg (byteCells zero8), .int .i64 1] w fun e w' => e = .returned (.tuple #[.agg (keyCells KA), .int .i64 0]) ∧ Below w.heap.size w w' :=
  keyOf_yes ⟨#[112]⟩ zero8 1 w (by decide) (by decide) (by decide)
theorem k2 (w : World) : Calls Try.prog 19 #[.string ⟨#[112]⟩, .agg (byteCells zero8), .int .i64 2] w fun e w' => e = .returned (.tuple #[.agg (keyCells KB), .int .i64 0]) ∧ Below w.heap.size w w' :=
  keyOf_yes ⟨#[112]⟩ zero8 2 w (by decide) (by decide) (by decide)
theorem k3 (w : World) : Calls Try.prog 19 #[.string ⟨#[112]⟩, .agg (byteCells zero8), .int .i64 0] w fun e w' => e = .returned (.tuple #[.agg (keyCells K0), .int .i64 1]) ∧ Below w.heap.size w w' :=
  keyOf_no ⟨#[112]⟩ zero8 0 w (by decide) (.inr (.inl (by omega)))
theorem k4 (s : ByteArray) (hs : s.size = 101) (w : World) : Calls Try.prog 19 #[.string s, .agg (byteCells zero8), .int .i64 1] w fun e w' => e = .returned (.tuple #[.agg (keyCells K0), .int .i64 1]) ∧ Below w.heap.size w w' :=
  keyOf_no s zero8 1 w (by omega) (.inl (by omega))
theorem convRow : ConvRow Try.prog 24 9 5 := ⟨Try.underlying24, Try.underlying5, Try.underlying9⟩
theorem make101 (w : World) : (Instr.makeSlice 24 (.int .i64 101) (.int .i64 101)).run Try.prog w = .ok (.slice (some ⟨w.heap.size, 0, none⟩) 101 101) (w.alloc (.cells (madeCells #[.int .u8 0] 101) 5)) := by
  have hz : ((Try.prog.info? 5).map fun i => (i.zero, i.size, i.bytes)) = some (some (.int .u8 0), 1, 1) := by kernel_rfl
  obtain ⟨i, hi, he⟩ := Option.map_eq_some_iff.1 hz
  simp only [Prod.mk.injEq] at he
  obtain ⟨h0, h1, h2⟩ := he
  have hr := run_make (P := Try.prog) w 24 5 i _ Try.underlying24 hi h0 .i64 .i64 101 101 (by decide) (by decide) (by rw [h2]; decide) (by decide)
  rw [h1] at hr
  exact hr
theorem made101 (w : World) (t : TypeId) : Bytes (w.alloc (.cells (madeCells #[.int .u8 0] 101) t)) (w.heap.size + 1) (some ⟨w.heap.size, 0, none⟩) 101 (List.replicate 101 0) := by
  refine ⟨by simp, fun _ => ⟨w.heap.size, 0, rfl, Nat.lt_succ_self _, fun i c hi => ?_⟩⟩
  have hB := Blk.new w t (madeCells #[.int .u8 0] 101)
  have hi' : i < 101 := by
    have := (List.getElem?_eq_some_iff.1 hi).1
    simpa using this
  have hc : c = 0 := by
    have := List.mem_of_getElem? hi
    exact (List.mem_replicate.1 this).2
  subst hc
  have hm : i % 1 = 0 := Nat.mod_one i
  rw [Nat.zero_add, hB.cell i]
  simp [madeCells, hi', hm]
theorem wp_make101 {o : Oper} {a : Act} {w : World} {K : Act → World → Prop} {Q : Exit → Act → World → Prop} (ho : o.op = .makeSlice 24 (.const (.int .i64 101)) (.const (.int .i64 101)))
    (h : K (a.put o.dst (.slice (some ⟨w.heap.size, 0, none⟩) 101 101)) (w.alloc (.cells (madeCells #[.int .u8 0] 101) 5))) : o.wp Try.prog a w K Q := by
  have e : ∀ v, a.eval (.const v) = v := fun _ => rfl
  unfold Oper.wp execOp
  simp only [ho, e, Sem.run_bind, make101 w, Result.andThen_ok, Sem.run_pure]
  exact h
theorem wp_store_key {o : Oper} {a : Act} {w : World} {K : Act → World → Prop} {Q : Exit → Act → World → Prop} (x y : Operand) (ho : o.op = .store 28 x y) (g : Nat) (k : PL.K8) (t : TypeId) (cs : Array Value)
    (hx : a.eval x = .pointer (some ⟨g, 0, none⟩)) (hy : a.eval y = .agg (keyCells k)) (hB : Blk w g t cs) (hc : cs.size = 8)
    (h : ∀ w', w.grownBy w' (some g) → w'.heap.size = w.heap.size → K (a.put o.dst undef) w') : o.wp Try.prog a w K Q :=
  wp_store_mid 28 x y ho g 0 (keyCells k) hx hy (by have := hB.there_; rw [hc] at this; exact this) (by kernel_rfl) (key_one _) (h _ (grown_setCells g _ 0 w w (World.grownBy.refl w _)) (size_setCells g _ 0 w))
theorem load_key {w' : World} {H t : Nat} {k : PL.K8} (h : Blk w' H t (keyCells k)) : w'.cell? ⟨H, 0, none⟩ = some (u32v k.k0) ∧ w'.cell? ⟨H, 1, none⟩ = some (u32v k.k1) ∧ w'.cell? ⟨H, 2, none⟩ = some (u32v k.k2) ∧ w'.cell? ⟨H, 3, none⟩ = some (u32v k.k3) ∧
    w'.cell? ⟨H, 4, none⟩ = some (u32v k.k4) ∧ w'.cell? ⟨H, 5, none⟩ = some (u32v k.k5) ∧ w'.cell? ⟨H, 6, none⟩ = some (u32v k.k6) ∧ w'.cell? ⟨H, 7, none⟩ = some (u32v k.k7) :=
  ⟨h.cell 0, h.cell 1, h.cell 2, h.cell 3, h.cell 4, h.cell 5, h.cell 6, h.cell 7⟩
theorem cells {w : World} {H t : Nat} (h : Blk w H t (byteCells zero8)) : w.cell? ⟨H, 0, none⟩ = some (.int .u8 0) ∧ w.cell? ⟨H, 1, none⟩ = some (.int .u8 0) ∧ w.cell? ⟨H, 2, none⟩ = some (.int .u8 0) ∧ w.cell? ⟨H, 3, none⟩ = some (.int .u8 0) ∧
    w.cell? ⟨H, 4, none⟩ = some (.int .u8 0) ∧ w.cell? ⟨H, 5, none⟩ = some (.int .u8 0) ∧ w.cell? ⟨H, 6, none⟩ = some (.int .u8 0) ∧ w.cell? ⟨H, 7, none⟩ = some (.int .u8 0) :=
  ⟨h.cell 0, h.cell 1, h.cell 2, h.cell 3, h.cell 4, h.cell 5, h.cell 6, h.cell 7⟩
end T16
set_option maxRecDepth 100000 in
set_option maxHeartbeats 4000000 in
theorem told16 (w : World) : Calls Try.prog 18 #[] w fun e w' => e = .returned (.bool true) ∧ Below w.heap.size w w' := by
  go_enter Try.func18, Try.ntmps18
  go_wp2_with fail
  have hS0 : Blk (w.alloc (Obj.cells (byteCells T16.zero8) 26)) w.heap.size 26 (byteCells T16.zero8) := Blk.new _ _ _
  have hW0 : Below w.heap.size w (w.alloc (Obj.cells (byteCells T16.zero8) 26)) := (Below.refl _ _).alloc (Nat.le_refl _) _
  refine (T16.k1 _).mono ?_
  rintro e w1 ⟨rfl, hb1⟩
  have hV1 : Below w.heap.size w w1 := hW0.trans (hb1.mono hW0.size)
  have HS1 := Lib.hid ((hS0.below (w' := w1) hb1 hS0.lt).alloc (Obj.cells (keyCells T16.KA) 28))
  have HA1 := Lib.hid (Blk.new w1 28 (keyCells T16.KA))
  have hW1 := hV1.alloc hV1.size (Obj.cells (keyCells T16.KA) 28)
  clear hS0 hW0 hb1 hV1
  obtain ⟨c0, c1, c2, c3, c4, c5, c6, c7⟩ := T16.cells HS1.out
  go_wp2_with fail
  clear c0 c1 c2 c3 c4 c5 c6 c7
  refine (T16.k2 _).mono ?_
  rintro e w2 ⟨rfl, hb2⟩
  have hV2 : Below w.heap.size w w2 := hW1.trans (hb2.mono hW1.size)
  have HS2 := Lib.hid ((HS1.out.below (w' := w2) hb2 HS1.out.lt).alloc (Obj.cells (keyCells T16.KB) 28))
  have HA2 := Lib.hid ((HA1.out.below (w' := w2) hb2 HA1.out.lt).alloc (Obj.cells (keyCells T16.KB) 28))
  have HB2 := Lib.hid (Blk.new w2 28 (keyCells T16.KB))
  have hW2 := hV2.alloc hV2.size (Obj.cells (keyCells T16.KB) 28)
  clear HS1 HA1 hW1 hb2 hV2
  obtain ⟨c0, c1, c2, c3, c4, c5, c6, c7⟩ := T16.cells HS2.out
  go_wp2_with fail
  clear c0 c1 c2 c3 c4 c5 c6 c7
  refine (T16.k3 _).mono ?_
  rintro e w3 ⟨rfl, hb3⟩
  have hV3 : Below w.heap.size w w3 := hW2.trans (hb3.mono hW2.size)
  have HS3 := Lib.hid ((HS2.out.below (w' := w3) hb3 HS2.out.lt).alloc (Obj.cells (keyCells K0) 28))
  have HA3 := Lib.hid ((HA2.out.below (w' := w3) hb3 HA2.out.lt).alloc (Obj.cells (keyCells K0) 28))
  have HB3 := Lib.hid ((HB2.out.below (w' := w3) hb3 HB2.out.lt).alloc (Obj.cells (keyCells K0) 28))
  have hW3 := hV3.alloc hV3.size (Obj.cells (keyCells K0) 28)
  clear HS2 HA2 HB2 hW2 hb3 hV3
  go_wp2_with fail
  generalize w1.heap.size = ga at *
  generalize w2.heap.size = gb at *
  rename_i Q' K hK6
  have e0 : w3.alloc (Obj.cells (keyCells K0) 28) = w3.alloc (Obj.cells #[.int .u32 (W K0.k0), .int .u32 (W K0.k1), .int .u32 (W K0.k2), .int .u32 (W K0.k3), .int .u32 (W K0.k4), .int .u32 (W K0.k5), .int .u32 (W K0.k6), .int .u32 (W K0.k7)] 28) := rfl
  rw [← e0]
  clear e0
  generalize w3.alloc (Obj.cells (keyCells K0) 28) = wR at *
  have fin : ∀ (u0 u1 u6 u8 u10 u11 u12 u13 u14 u15 u16 u17 u18 u19 u20 u21 u22 u23 u24 u25 u26 u27 u28 u29 u30 u31 u32 u33 u34 u35 u36 u37 u38 u39 u40 u41 u42 u43 u44 u45 u46 u47 u48 u49 u50 u51 u52 u53 u54 u55 u56 u57 : Value) (w' : World), Below wR.heap.size wR w' → K ⟨#[u0, u1, .pointer (some ⟨ga, 0, none⟩), .int .i64 0, .pointer (some ⟨gb, 0, none⟩), .int .i64 0, u6, .int .i64 1, u8, .int .i64 1, u10, u11, u12, u13, u14, u15, u16, u17, u18, u19, u20, u21, u22, u23, u24, u25, u26, u27, u28, u29, u30, u31, u32, u33, u34, u35, u36, u37, u38, u39, u40, u41, u42, u43, u44, u45, u46, u47, u48, u49, u50, u51, u52, u53, u54, u55, u56, u57], []⟩ w' := by
    intro u0 u1 u6 u8 u10 u11 u12 u13 u14 u15 u16 u17 u18 u19 u20 u21 u22 u23 u24 u25 u26 u27 u28 u29 u30 u31 u32 u33 u34 u35 u36 u37 u38 u39 u40 u41 u42 u43 u44 u45 u46 u47 u48 u49 u50 u51 u52 u53 u54 u55 u56 u57 w' hS
    refine hK6 _ _ ?_
    clear hK6 HS3
    have HA := Lib.hid (HA3.out.below hS HA3.out.lt)
    have HB := Lib.hid (HB3.out.below hS HB3.out.lt)
    have hW : Below w.heap.size w w' := hW3.trans (hS.mono hW3.size)
    clear HA3 HB3 hW3 hS
    clear wR
    go_wp2_with fail
    refine wp_region_seq (fun v => Blk v ga 28 (keyCells T16.KA)) [(true, 0), (true, 1), (true, 2), (true, 3), (true, 4), (true, 5), (true, 6), (false, 7), (true, 8), (true, 9), (true, 10), (true, 11), (true, 12), (true, 13), (true, 14), (true, 15), (true, 16), (true, 17), (true, 18), (true, 19), (false, 20), (false, 22), (true, 21), (true, 23), (true, 24), (true, 25), (true, 26)]
      (by kernel_rfl) (by kernel_rfl) (fun _ _ d _ _ h => by cases d <;> exact h) HA.out.drew ?_
    have HA' := Lib.hid HA.out.drew
    have HB' := Lib.hid HB.out.drew
    have hW' := hW.drew
    clear HA HB hW
    generalize w'.drew = v0 at *
    iterate 7 (refine plan_force rfl rfl (fun K hK => ?_); go_wp2_with fail; refine hK.out _ _ HA'.out ?_; clear hK K)
    apply plan_take rfl rfl rfl rfl
    · intro v hS K hK
      obtain ⟨c0, c1, c2, c3, c4, c5, c6, c7⟩ := T16.load_key hS
      clear hS
      go_simp
      exact hK
    refine plan_force rfl rfl (fun K hK => ?_)
    obtain ⟨c0, c1, c2, c3, c4, c5, c6, c7⟩ := T16.load_key HB'.out
    go_wp2_with fail
    clear c0 c1 c2 c3 c4 c5 c6 c7
    refine hK.out _ _ HA'.out ?_; clear hK K
    refine plan_force rfl rfl (fun K hK => ?_)
    have hne := eq_keys T16.KA T16.KB v0
    rw [T16.differ] at hne
    go_wp2_with fail
    refine hK.out _ _ HA'.out ?_; clear hK K hne
    iterate 10 (refine plan_force rfl rfl (fun K hK => ?_); go_wp2_with fail; refine hK.out _ _ HA'.out ?_; clear hK K)
    apply plan_take rfl rfl rfl rfl
    · intro v hS K hK
      obtain ⟨c0, c1, c2, c3, c4, c5, c6, c7⟩ := T16.load_key hS
      clear hS
      go_simp
      exact hK
    apply plan_take rfl rfl rfl rfl
    · intro v hS K hK
      obtain ⟨c0, c1, c2, c3, c4, c5, c6, c7⟩ := T16.load_key hS
      clear hS
      go_simp
      exact hK
    refine plan_force rfl rfl (fun K hK => ?_)
    go_wp2_with fail
    refine (check_any T16.KA _).mono ?_
    rintro e v1 ⟨rfl, hb1⟩
    have HA1 := Lib.hid (HA'.out.below hb1 HA'.out.lt)
    have hW1 : Below w.heap.size w v1 := hW'.trans (hb1.mono hW'.size)
    clear HA' hW' hb1 HB'
    go_wp2_with fail
    refine hK.out _ _ HA1.out ?_; clear hK K
    refine plan_force rfl rfl (fun K hK => ?_)
    go_wp2_with fail
    refine (check_any T16.KA _).mono ?_
    rintro e v2 ⟨rfl, hb2⟩
    have HA2 := Lib.hid (HA1.out.below hb2 HA1.out.lt)
    have hW2 : Below w.heap.size w v2 := hW1.trans (hb2.mono hW1.size)
    clear HA1 hW1 hb2
    go_wp2_with fail
    refine hK.out _ _ HA2.out ?_; clear hK K
    refine plan_force rfl rfl (fun K hK => ?_)
    have heq := eq_bytes (tagOf T16.KA (-1) []) (tagOf T16.KA (-1) []) v2
    rw [sameB_self] at heq
    go_wp2_with fail
    refine hK.out _ _ HA2.out ?_; clear hK K heq
    iterate 2 (refine plan_force rfl rfl (fun K hK => ?_); go_wp2_with fail; refine hK.out _ _ HA2.out ?_; clear hK K)
    refine plan_nil ?_
    go_wp2_with fail
    go_ret
    exact ⟨rfl, hW2⟩
  clear hK6
  have HF := Lib.hid fin
  clear fin HA3 HB3
  have hS0 : Below wR.heap.size wR wR.drew := (Below.refl _ _).drew
  refine wp_region_forks (fun w' => Below wR.heap.size wR w') (by kernel_rfl) ?_
  generalize wR.drew = w0 at *
  refine wpAnyG_prefix (S := fun w' => Below wR.heap.size wR w') (by kernel_rfl) (fun _ _ d _ _ h => by cases d <;> exact h) 9 [(false, 2)] _ _ _ (by rfl) (by kernel_rfl) hS0 ?_
  apply planK_take rfl rfl rfl rfl
  · intro w' hS K hK
    obtain ⟨c0, c1, c2, c3, c4, c5, c6, c7⟩ := T16.cells (HS3.out.below hS HS3.out.lt)
    clear hS
    go_simp
    exact hK
  refine planK_nil (fun _ => ?_)
  --BEGIN5
  refine wpAnyG_fork (i := 0) (j := 7) (fuel := 8) (by kernel_rfl) rfl rfl rfl rfl (fun K1 h1 => ?_) (fun K1 h1 => ?_)
  · skip
    have hY1 : Bytes (w0.alloc (Obj.cells (madeCells #[.int .u8 0] 101) 5)) (w0.alloc (Obj.cells (madeCells #[.int .u8 0] 101) 5)).heap.size (some ⟨w0.heap.size, 0, none⟩) 101 (List.replicate 101 0) := by
      rw [World.size_alloc]; exact T16.made101 w0 5
    have hS1 := hS0.alloc hS0.size (Obj.cells (madeCells #[.int .u8 0] 101) 5)
    refine T16.wp_make101 rfl ?_
    refine h1.out _ _ hS1 (fun _ => ?_)
    clear h1 K1
    generalize w0.alloc (Obj.cells (madeCells #[.int .u8 0] 101) 5) = v1 at *
    refine wpAnyG_fork (i := 1) (j := 7) (fuel := 7) (by kernel_rfl) rfl rfl rfl rfl (fun K1 h1 => ?_) (fun K1 h1 => ?_)
    · skip
      refine wp_conv_bytes 24 9 5 (.tmp 26) T16.convRow rfl _ _ _ _ _ rfl hY1 ?_
      refine h1.out _ _ hS1 (fun _ => ?_)
      clear h1 K1
      refine wpAnyG_fork (i := 3) (j := 7) (fuel := 6) (by kernel_rfl) rfl rfl rfl rfl (fun K1 h1 => ?_) (fun K1 h1 => ?_)
      · skip
        go_wp2_with fail
        refine (T16.k4 _ (by rfl) _).mono ?_
        rintro e v3 ⟨rfl, hb3⟩
        have hS3 : Below wR.heap.size wR v3 := hS1.trans (hb3.mono hS1.size)
        go_wp2_with fail
        refine h1.out _ _ hS3 (fun _ => ?_)
        clear h1 K1
        refine wpAnyG_plan (S := fun w' => Below wR.heap.size wR w') (by kernel_rfl) (fun _ _ d _ _ h => by cases d <;> exact h) [(false, 4), (false, 5), (false, 6), (true, 7), (true, 8), (true, 9)] _ _ _ (by rfl) (by kernel_rfl) hS3 ?_
        apply plan_take rfl rfl rfl rfl
        · intro w' hS K hK; go_simp; exact hK
        apply plan_take rfl rfl rfl rfl
        · intro w' hS K hK; go_simp; exact hK
        apply plan_take rfl rfl rfl rfl
        · intro w' hS K hK; go_simp; exact hK
        refine plan_force rfl rfl (fun K hK => ?_)
        have hB4 := Blk.new v3 28 #[.int .u32 0, .int .u32 0, .int .u32 0, .int .u32 0, .int .u32 0, .int .u32 0, .int .u32 0, .int .u32 0]
        have hS4 := hS3.alloc hS3.size (Obj.cells #[.int .u32 0, .int .u32 0, .int .u32 0, .int .u32 0, .int .u32 0, .int .u32 0, .int .u32 0, .int .u32 0] 28)
        have hle := hS3.size
        go_wp2_with fail
        refine hK.out _ _ hS4 ?_
        clear hK K
        generalize v3.alloc (Obj.cells #[.int .u32 0, .int .u32 0, .int .u32 0, .int .u32 0, .int .u32 0, .int .u32 0, .int .u32 0, .int .u32 0] 28) = v4 at *
        refine plan_force rfl rfl (fun K hK => ?_)
        refine T16.wp_store_key (.tmp 8) (.tmp 30) rfl v3.heap.size K0 _ _ rfl rfl hB4 rfl ?_
        intro v5 hg5 hs5
        have hS5 := hS4.grown hg5 hS4.size (by rintro k ⟨⟩; exact hle)
        refine hK.out _ _ hS5 ?_; clear hK K
        refine plan_force rfl rfl (fun K hK => ?_); go_wp2_with fail; refine hK.out _ _ hS5 ?_; clear hK K
        refine plan_nil ?_
        exact HF.out _ _ _ _ _ _ _ _ _ _ _ _ _ _ _ _ _ _ _ _ _ _ _ _ _ _ _ _ _ _ _ _ _ _ _ _ _ _ _ _ _ _ _ _ _ _ _ _ _ _ _ _ _ hS5
      · skip
        have hB6 := Blk.new v1 28 #[.int .u32 0, .int .u32 0, .int .u32 0, .int .u32 0, .int .u32 0, .int .u32 0, .int .u32 0, .int .u32 0]
        have hS6 := hS1.alloc hS1.size (Obj.cells #[.int .u32 0, .int .u32 0, .int .u32 0, .int .u32 0, .int .u32 0, .int .u32 0, .int .u32 0, .int .u32 0] 28)
        have hle := hS1.size
        go_wp2_with fail
        refine h1.out _ _ hS6 (fun _ => ?_)
        clear h1 K1
        generalize v1.alloc (Obj.cells #[.int .u32 0, .int .u32 0, .int .u32 0, .int .u32 0, .int .u32 0, .int .u32 0, .int .u32 0, .int .u32 0] 28) = v6 at *
        refine wpAnyG_plan (S := fun w' => Below wR.heap.size wR w') (by kernel_rfl) (fun _ _ d _ _ h => by cases d <;> exact h) [(true, 3), (true, 4), (false, 5), (false, 6), (true, 8), (true, 9)] _ _ _ (by rfl) (by kernel_rfl) hS6 ?_
        refine plan_force rfl rfl (fun K hK => ?_)
        go_wp2_with fail
        refine (T16.k4 _ (by rfl) _).mono ?_
        rintro e v7 ⟨rfl, hb7⟩
        have hS7 : Below wR.heap.size wR v7 := hS6.trans (hb7.mono hS6.size)
        have hB7 := hB6.below hb7 hB6.lt
        go_wp2_with fail
        refine hK.out _ _ hS7 ?_
        clear hK K
        refine plan_force rfl rfl (fun K hK => ?_); go_wp2_with fail; refine hK.out _ _ hS7 ?_; clear hK K
        apply plan_take rfl rfl rfl rfl
        · intro w' hS K hK; go_simp; exact hK
        apply plan_take rfl rfl rfl rfl
        · intro w' hS K hK; go_simp; exact hK
        refine plan_force rfl rfl (fun K hK => ?_)
        refine T16.wp_store_key (.tmp 8) (.tmp 30) rfl v1.heap.size K0 _ _ rfl rfl hB7 rfl ?_
        intro v8 hg8 hs8
        have hS8 := hS7.grown hg8 hS7.size (by rintro k ⟨⟩; exact hle)
        refine hK.out _ _ hS8 ?_; clear hK K
        refine plan_force rfl rfl (fun K hK => ?_); go_wp2_with fail; refine hK.out _ _ hS8 ?_; clear hK K
        refine plan_nil ?_
        exact HF.out _ _ _ _ _ _ _ _ _ _ _ _ _ _ _ _ _ _ _ _ _ _ _ _ _ _ _ _ _ _ _ _ _ _ _ _ _ _ _ _ _ _ _ _ _ _ _ _ _ _ _ _ _ hS8
    · skip
      have hB9 := Blk.new v1 28 #[.int .u32 0, .int .u32 0, .int .u32 0, .int .u32 0, .int .u32 0, .int .u32 0, .int .u32 0, .int .u32 0]
      have hS9 := hS1.alloc hS1.size (Obj.cells #[.int .u32 0, .int .u32 0, .int .u32 0, .int .u32 0, .int .u32 0, .int .u32 0, .int .u32 0, .int .u32 0] 28)
      have hY9 := hY1.alloc (Nat.le_refl _) (Obj.cells #[.int .u32 0, .int .u32 0, .int .u32 0, .int .u32 0, .int .u32 0, .int .u32 0, .int .u32 0, .int .u32 0] 28)
      have hle := hS1.size
      go_wp2_with fail
      refine h1.out _ _ hS9 (fun _ => ?_)
      clear h1 K1
      generalize v1.alloc (Obj.cells #[.int .u32 0, .int .u32 0, .int .u32 0, .int .u32 0, .int .u32 0, .int .u32 0, .int .u32 0, .int .u32 0] 28) = v9 at *
      refine wpAnyG_plan (S := fun w' => Below wR.heap.size wR w') (by kernel_rfl) (fun _ _ d _ _ h => by cases d <;> exact h) [(true, 1), (true, 3), (true, 4), (false, 5), (false, 6), (true, 8), (true, 9)] _ _ _ (by rfl) (by kernel_rfl) hS9 ?_
      refine plan_force rfl rfl (fun K hK => ?_)
      refine wp_conv_bytes 24 9 5 (.tmp 26) T16.convRow rfl _ _ _ _ _ rfl hY9 ?_
      refine hK.out _ _ hS9 ?_
      clear hK K
      refine plan_force rfl rfl (fun K hK => ?_)
      go_wp2_with fail
      refine (T16.k4 _ (by rfl) _).mono ?_
      rintro e v11 ⟨rfl, hb11⟩
      have hS11 : Below wR.heap.size wR v11 := hS9.trans (hb11.mono hS9.size)
      have hB11 := hB9.below hb11 hB9.lt
      go_wp2_with fail
      refine hK.out _ _ hS11 ?_
      clear hK K
      refine plan_force rfl rfl (fun K hK => ?_); go_wp2_with fail; refine hK.out _ _ hS11 ?_; clear hK K
      apply plan_take rfl rfl rfl rfl
      · intro w' hS K hK; go_simp; exact hK
      apply plan_take rfl rfl rfl rfl
      · intro w' hS K hK; go_simp; exact hK
      refine plan_force rfl rfl (fun K hK => ?_)
      refine T16.wp_store_key (.tmp 8) (.tmp 30) rfl v1.heap.size K0 _ _ rfl rfl hB11 rfl ?_
      intro v12 hg12 hs12
      have hS12 := hS11.grown hg12 hS11.size (by rintro k ⟨⟩; exact hle)
      refine hK.out _ _ hS12 ?_; clear hK K
      refine plan_force rfl rfl (fun K hK => ?_); go_wp2_with fail; refine hK.out _ _ hS12 ?_; clear hK K
      refine plan_nil ?_
      exact HF.out _ _ _ _ _ _ _ _ _ _ _ _ _ _ _ _ _ _ _ _ _ _ _ _ _ _ _ _ _ _ _ _ _ _ _ _ _ _ _ _ _ _ _ _ _ _ _ _ _ _ _ _ _ hS12
  · skip
    have hB13 := Blk.new w0 28 #[.int .u32 0, .int .u32 0, .int .u32 0, .int .u32 0, .int .u32 0, .int .u32 0, .int .u32 0, .int .u32 0]
    have hS13 := hS0.alloc hS0.size (Obj.cells #[.int .u32 0, .int .u32 0, .int .u32 0, .int .u32 0, .int .u32 0, .int .u32 0, .int .u32 0, .int .u32 0] 28)
    have hle := hS0.size
    go_wp2_with fail
    refine h1.out _ _ hS13 (fun _ => ?_)
    clear h1 K1
    generalize w0.alloc (Obj.cells #[.int .u32 0, .int .u32 0, .int .u32 0, .int .u32 0, .int .u32 0, .int .u32 0, .int .u32 0, .int .u32 0] 28) = v13 at *
    refine wpAnyG_plan (S := fun w' => Below wR.heap.size wR w') (by kernel_rfl) (fun _ _ d _ _ h => by cases d <;> exact h) [(true, 0), (true, 1), (true, 3), (true, 4), (false, 5), (false, 6), (true, 8), (true, 9)] _ _ _ (by rfl) (by kernel_rfl) hS13 ?_
    refine plan_force rfl rfl (fun K hK => ?_)
    have hY14 : Bytes (v13.alloc (Obj.cells (madeCells #[.int .u8 0] 101) 5)) (v13.alloc (Obj.cells (madeCells #[.int .u8 0] 101) 5)).heap.size (some ⟨v13.heap.size, 0, none⟩) 101 (List.replicate 101 0) := by
      rw [World.size_alloc]; exact T16.made101 v13 5
    have hS14 := hS13.alloc hS13.size (Obj.cells (madeCells #[.int .u8 0] 101) 5)
    have hB14 := hB13.alloc (Obj.cells (madeCells #[.int .u8 0] 101) 5)
    refine T16.wp_make101 rfl ?_
    refine hK.out _ _ hS14 ?_
    clear hK K
    generalize v13.alloc (Obj.cells (madeCells #[.int .u8 0] 101) 5) = v14 at *
    refine plan_force rfl rfl (fun K hK => ?_)
    refine wp_conv_bytes 24 9 5 (.tmp 26) T16.convRow rfl _ _ _ _ _ rfl hY14 ?_
    refine hK.out _ _ hS14 ?_
    clear hK K
    refine plan_force rfl rfl (fun K hK => ?_)
    go_wp2_with fail
    refine (T16.k4 _ (by rfl) _).mono ?_
    rintro e v16 ⟨rfl, hb16⟩
    have hS16 : Below wR.heap.size wR v16 := hS14.trans (hb16.mono hS14.size)
    have hB16 := hB14.below hb16 hB14.lt
    go_wp2_with fail
    refine hK.out _ _ hS16 ?_
    clear hK K
    refine plan_force rfl rfl (fun K hK => ?_); go_wp2_with fail; refine hK.out _ _ hS16 ?_; clear hK K
    apply plan_take rfl rfl rfl rfl
    · intro w' hS K hK; go_simp; exact hK
    apply plan_take rfl rfl rfl rfl
    · intro w' hS K hK; go_simp; exact hK
    refine plan_force rfl rfl (fun K hK => ?_)
    refine T16.wp_store_key (.tmp 8) (.tmp 30) rfl w0.heap.size K0 _ _ rfl rfl hB16 rfl ?_
    intro v17 hg17 hs17
    have hS17 := hS16.grown hg17 hS16.size (by rintro k ⟨⟩; exact hle)
    refine hK.out _ _ hS17 ?_; clear hK K
    refine plan_force rfl rfl (fun K hK => ?_); go_wp2_with fail; refine hK.out _ _ hS17 ?_; clear hK K
    refine plan_nil ?_
    exact HF.out _ _ _ _ _ _ _ _ _ _ _ _ _ _ _ _ _ _ _ _ _ _ _ _ _ _ _ _ _ _ _ _ _ _ _ _ _ _ _ _ _ _ _ _ _ _ _ _ _ _ _ _ _ hS17
  --END5
end Go.Proofs.Ytbmccgiffplpjaa
