/- The walk of TagAsks: sums and tags are what the reference says. -/
import Derived.Test.YtbmccgiffplpjaaWalkTagSames
import Derived.Test.YtbmccgiffplpjaaWalkTagPlaces
import Derived.Test.YtbmccgiffplpjaaRefSum
namespace Go.Proofs.Ytbmccgiffplpjaa
open Go.RowKit
set_option linter.unusedVariables false
theorem bytes8 {w : World} {g t : Nat} {f : Nat → UInt8} (h : Blk w g t (byteCells f)) : Bytes w (g + 1) (some ⟨g, 0, none⟩) 8 ((List.range 8).map f) := by
  refine ⟨by simp, fun _ => ⟨g, 0, rfl, by omega, fun i c hi => ?_⟩⟩
  rw [Nat.zero_add, h.cell]
  match i, hi with
  | 0, hi => cases hi; rfl
  | 1, hi => cases hi; rfl
  | 2, hi => cases hi; rfl
  | 3, hi => cases hi; rfl
  | 4, hi => cases hi; rfl
  | 5, hi => cases hi; rfl
  | 6, hi => cases hi; rfl
  | 7, hi => cases hi; rfl
  | n + 8, hi =>
    have := (List.getElem?_eq_some_iff.1 hi).1
    simp at this
    omega
theorem convRow : ConvRow Try.prog 24 9 5 := ⟨Try.underlying24, Try.underlying5, Try.underlying9⟩
set_option maxRecDepth 100000 in
set_option maxHeartbeats 4000000 in
theorem walkTagAsks (r s : Int) (k : PL.K8) (p : Int) (A : Option Addr) (n c : Nat) (l : List UInt8) (w : World) (hr : (Lit.int .u32 r).wf = true) (hs : (Lit.int .u32 s).wf = true) (hp : (Lit.int .i64 p).wf = true) (hb : Bytes w w.heap.size A n l) (hc : n ≤ c) (hm : c ≤ maxLen) (hz : A = none → n = 0 ∧ c = 0) :
    Calls Try.prog 3 #[.int .u32 r, .int .u32 s, .agg (keyCells k), .int .i64 p, .slice A n c] w fun e w' => e = .returned (.bool true) ∧ Below w.heap.size w w' := by
  obtain ⟨hr0, hr1⟩ := bounds_u32 hr
  obtain ⟨hs0, hs1⟩ := bounds_u32 hs
  have HB := Lib.hid hb
  clear hp hb hz hr hs
  unfold maxLen at hm
  have hb1 : Below w.heap.size w (w.alloc (Obj.cells (keyCells k) 23)) := (Below.refl _ _).alloc (Nat.le_refl _) _
  by_cases hlt : 200 < n
  · go_enter Try.func3, Try.ntmps3
    go_wp2_with (go_at_call 12; refine (told15 _).mono ?_; rintro e w2 ⟨rfl, hb2⟩)
    go_ret
    exact ⟨rfl, hb1.trans (hb2.mono hb1.size)⟩
  · have HK1 := Lib.hid (Blk.new w 23 (keyCells k))
    have HB1 := Lib.hid (HB.out.alloc (Nat.le_refl _) (Obj.cells (keyCells k) 23))
    have hlen := Lib.hid HB.out.len
    go_enter Try.func3, Try.ntmps3
    go_wp2_with fail
    refine (of_any k p A n c w.heap.size l _ HB1.out hb1.size (by omega)).mono ?_
    rintro e w2 ⟨rfl, hb2⟩
    have hW2 : Below w.heap.size w w2 := hb1.trans (hb2.mono hb1.size)
    have HK2 := Lib.hid (HK1.out.below (w' := w2) hb2 HK1.out.lt)
    clear HK1 HB1 hb1 hb2
    go_wp2
    have HT := Lib.hid (Blk.new w2 26 (byteCells (tagOf k p l)))
    have HK3 := Lib.hid (HK2.out.alloc (Obj.cells (byteCells (tagOf k p l)) 26))
    have hW3 := hW2.alloc hW2.size (Obj.cells (byteCells (tagOf k p l)) 26)
    have hgl : w2.heap.size < (w2.alloc (Obj.cells (byteCells (tagOf k p l)) 26)).heap.size := by rw [World.size_alloc]; omega
    have HB3 := Lib.hid (HB.out.below hW3)
    clear HK2 hW2
    refine wp_region_seq (fun w' => Below (w2.alloc (Obj.cells (byteCells (tagOf k p l)) 26)).heap.size (w2.alloc (Obj.cells (byteCells (tagOf k p l)) 26)) w') [(true, 0), (true, 1), (false, 2), (false, 3), (false, 4), (false, 6), (false, 7), (false, 8), (false, 9), (true, 5), (true, 10), (true, 11), (true, 12), (true, 13), (false, 14), (false, 15), (false, 16), (false, 17), (true, 18), (true, 19), (true, 20), (true, 21), (true, 22), (true, 23), (false, 24), (true, 25), (true, 26), (true, 27), (true, 28)]
      (by kernel_rfl) (by kernel_rfl) (fun _ _ d _ _ h => by cases d <;> exact h) (Below.refl _ _).drew ?_
    have hS0 : Below (w2.alloc (Obj.cells (byteCells (tagOf k p l)) 26)).heap.size (w2.alloc (Obj.cells (byteCells (tagOf k p l)) 26)) (w2.alloc (Obj.cells (byteCells (tagOf k p l)) 26)).drew := (Below.refl _ _).drew
    generalize w2.alloc (Obj.cells (byteCells (tagOf k p l)) 26) = wR at *
    generalize w2.heap.size = g at *
    generalize wR.drew = w1 at *
    have hle : w.heap.size ≤ wR.heap.size := hW3.size
    refine plan_force rfl rfl (fun K hK => ?_)
    go_wp2_with (go_at_call 12; refine (told15 _).mono ?_; rintro e w4 ⟨rfl, hb4⟩)
    have hS4 := hS0.trans (hb4.mono hS0.size)
    clear hS0 hb4
    refine hK.out _ _ hS4 ?_; clear hK K
    refine plan_force rfl rfl (fun K hK => ?_); go_wp2; refine hK.out _ _ hS4 ?_; clear hK K
    iterate 7 (apply plan_take rfl rfl rfl rfl; (intro w' hS K hK; have hcv := conv_bytes convRow c ((HB3.out.more hle).below hS); clear hS; go_simp; exact hK))
    refine plan_force rfl rfl (fun K hK => ?_)
    go_wp2_with fail
    refine (sum_any r s A n c wR.heap.size l _ hr0 hr1 hs0 hs1 ((HB3.out.more hle).below hS4) (by omega)).mono ?_
    rintro e w5 ⟨rfl, rfl⟩
    go_wp2
    refine hK.out _ _ hS4 ?_; clear hK K
    refine plan_force rfl rfl (fun K hK => ?_)
    go_wp2_with fail
    refine (refSum_any r s ⟨l.toArray⟩ _ hr0 hr1 hs0 hs1 (by show l.toArray.size ≤ _; have := hlen.out; simp; omega)).mono ?_
    rw [show (⟨l.toArray⟩ : ByteArray).data.toList = l from rfl]
    rintro e w5 ⟨rfl, rfl⟩
    go_wp2
    refine hK.out _ _ hS4 ?_; clear hK K
    iterate 3 (refine plan_force rfl rfl (fun K hK => ?_); go_wp2; refine hK.out _ _ hS4 ?_; clear hK K)
    iterate 4 (apply plan_take rfl rfl rfl rfl; (intro w' hS K hK; obtain ⟨c0, c1, c2, c3, c4, c5, c6, c7⟩ := walk_load_key (HK3.out.below hS HK3.out.lt); have hcv : (convert 24 9 (.slice (some ⟨g, 0, none⟩) 8 8)).run Try.prog w' = .ok (.string (tagStr k p l)) w' := conv_bytes convRow 8 (bytes8 (HT.out.below hS HT.out.lt)); clear hS; go_simp; exact hK))
    have hcv4 := conv_bytes convRow c ((HB3.out.more hle).below hS4)
    iterate 2 (refine plan_force rfl rfl (fun K hK => ?_); go_wp2; refine hK.out _ _ hS4 ?_; clear hK K)
    clear hcv4
    refine plan_force rfl rfl (fun K hK => ?_)
    go_wp2_with fail
    refine (refTag_any k p ⟨l.toArray⟩ _ (by show l.toArray.size ≤ _; have := hlen.out; simp; omega)).mono ?_
    rw [show (⟨l.toArray⟩ : ByteArray).data.toList = l from rfl]
    rintro e w5 ⟨rfl, hb5⟩
    have hS5 := hS4.trans (hb5.mono hS4.size)
    clear hS4 hb5
    go_wp2
    refine hK.out _ _ hS5 ?_; clear hK K
    iterate 3 (refine plan_force rfl rfl (fun K hK => ?_); go_wp2; refine hK.out _ _ hS5 ?_; clear hK K)
    apply plan_take rfl rfl rfl rfl
    · intro w' hS K hK
      obtain ⟨c0, c1, c2, c3, c4, c5, c6, c7⟩ := walk_load_b8 (HT.out.below hS HT.out.lt)
      clear hS
      go_simp
      exact hK
    obtain ⟨c0, c1, c2, c3, c4, c5, c6, c7⟩ := walk_load_b8 (HT.out.below hS5 HT.out.lt)
    refine plan_force rfl rfl (fun K hK => ?_); go_wp2; refine hK.out _ _ hS5 ?_; clear hK K
    clear c0 c1 c2 c3 c4 c5 c6 c7
    refine plan_force rfl rfl (fun K hK => ?_)
    go_wp2_with fail
    refine (same_self (tagOf k p l) _).mono ?_
    rintro e w6 ⟨rfl, hb6⟩
    have hS6 := hS5.trans (hb6.mono hS5.size)
    clear hS5 hb6
    go_wp2
    refine hK.out _ _ hS6 ?_; clear hK K
    iterate 2 (refine plan_force rfl rfl (fun K hK => ?_); go_wp2; refine hK.out _ _ hS6 ?_; clear hK K)
    refine plan_nil ?_
    go_wp2
    go_ret
    exact ⟨rfl, hW3.trans (hS6.mono hle)⟩
end Go.Proofs.Ytbmccgiffplpjaa
