/- The walk of steamerlaw17.row. -/
import Derived.Test.YtobbjhbjjhnicaaSealHelp
import Derived.Test.YtobbjhbjjhnicaaPlainSeal2
import Derived.Test.YtobbjhbjjhnicaaTold17
namespace Go.Proofs.Ytobbjhbjjhnicaa
open Go.RowKit
set_option linter.unusedVariables false
theorem Bodies.one {w : World} {B : Nat} {x : SegV} (h1 : Bytes w B x.A x.n x.seg.body) (h2 : x.n ≤ x.c) (h3 : x.A = none → x.c = 0) : Bodies w B [x] := fun y hy => by
  rcases List.mem_singleton.1 hy with rfl
  exact ⟨h1, h2, h3⟩
theorem PS.Lines.snoc {o : List PS.Seg} {s : PS.Seg} (h : PS.Lines 0 o) (h1 : PS.may s = true) (h2 : s.place = (o.length : Int)) (h3 : s.last = false) : PS.Lines 0 (o ++ [s]) := fun i x hx => by
  by_cases hi : i < o.length
  · rw [List.getElem?_append_left hi] at hx
    exact h i x hx
  · rw [List.getElem?_append_right (by omega)] at hx
    have h0 : i - o.length = 0 := by
      have := (List.getElem?_eq_some_iff.1 hx).1
      simp at this
      omega
    rw [h0] at hx
    simp at hx
    subst hx
    exact ⟨h1, by rw [h2]; omega, h3⟩
theorem Bytes.grown_off {w w' : World} {B n g : Nat} {l : List UInt8} {row : Option Nat} (h : Bytes w B (some ⟨g, 0, none⟩) n l) (hg : w.grownBy w' row) (hB : B ≤ w.heap.size) (hne : row ≠ some g) : Bytes w' B (some ⟨g, 0, none⟩) n l := by
  refine ⟨h.1, fun hn => ?_⟩
  obtain ⟨b, off, e, hb, hc⟩ := h.2 hn
  refine ⟨b, off, e, hb, fun i c hi => ?_⟩
  cases e
  exact (World.cell?_of_block (hg.block g (by omega) (fun e => hne e.symm))).trans (hc i c hi)
/-- What row gives. -/
def Rowed (w : World) (n : Nat) (e : Ending) (w' : World) : Prop :=
  ∃ (A : Option Addr) (m c : Nat) (zs : List SegV), e = .returned (.slice A m c) ∧ Segs w' w'.heap.size A m zs ∧ m ≤ c ∧ (A = none → c = 0) ∧ Bodies w' w'.heap.size zs ∧ PS.IsRow (zs.map (·.seg)) ∧ (∀ z ∈ zs, z.seg.body.length ≤ 300) ∧ m = n + 1 ∧ Below w.heap.size w w'
set_option maxRecDepth 100000 in
set_option maxHeartbeats 4000000 in
theorem row_any (A : Option Addr) (n c : Nat) (xs : List SegV) (w : World) (hS : Segs w w.heap.size A n xs) (hX : Bodies w w.heap.size xs) (hf : ∀ x ∈ xs, x.seg.body.length ≤ 300) (hn : n ≤ 100) :
    Calls Try.prog 24 #[.slice A n c] w (Rowed w n) := by
  have HS := Lib.hid hS
  have HX := Lib.hid hX
  have HF := Lib.hid hf
  clear hS hX hf
  go_enter Try.func24, Try.ntmps24
  go_wp2
  go_loopw [3, 4, 5] (fun v i q wr => ∃ (j : Nat) (zs : List SegV), i = .int .i64 j ∧ j ≤ n ∧ zs.length = j ∧ Hid (OwnS wr w.heap.size v zs) ∧ Hid (Bodies wr w.heap.size zs) ∧ Hid (PS.Lines 0 (zs.map (·.seg))) ∧ Hid (∀ z ∈ zs, z.seg.body.length ≤ 300) ∧ Below w.heap.size w wr) (fun _ i _ _ => n - (intOf i).toNat)
  case atStart => exact ⟨0, [], rfl, Nat.zero_le _, rfl, OwnS.nil_, Bodies.nil, (fun i s hs => by simp at hs), (fun z hz => by cases hz), Below.refl _ _⟩
  case round =>
    obtain ⟨j, zs, rfl, hj, hzl, HO, HB, HL, HZ, hW⟩ := hrel
    by_cases hlt : j < n
    · have tj : (j : Int) < (n : Int) := by omega
      obtain ⟨b, off, x, rfl, hb, hx, k0, k1, k2, k3⟩ := (HS.out.below hW).pick hlt
      have hxm := List.mem_of_getElem? hx
      have hbx := (HX.out x hxm)
      have HBx : Hid (Bytes wr w.heap.size x.A x.n x.seg.body) := hbx.1.below hW
      have HBc := Lib.hid hbx.2
      have HBl := Lib.hid (HF.out x hxm)
      clear hx hxm hbx k1 k2
      have hbb : (bits .and .i64 x.seg.kind 1 == 0) = true ∨ (bits .and .i64 x.seg.kind 1 == 0) = false := by cases (bits .and .i64 x.seg.kind 1 == 0) <;> simp
      rcases hbb with hbb | hbb
      · have HM : Hid (PS.may ⟨2, (j : Int), false, x.seg.body⟩ = true) := (PS.may_is _).2 ⟨(by show (1 : Int) ≤ 2; decide), (by show (2 : Int) ≤ 3; decide), (by show (0 : Int) ≤ (j : Int); omega), (by show (j : Int) ≤ 1048576; omega), (by show x.seg.body.length ≤ 12100; have := HBl.out; omega), rfl⟩
        go_wp2_with (at_builtin; (refine wpList_of_wp rfl (fun K hK => wp_append_segs (.tmp 19) (.tmp 28) rfl [⟨⟨2, (j : Int), false, x.seg.body⟩, x.A, x.n, x.c⟩] rfl (HO.out.alloc _) (wr.heap.size + 1) (some ⟨wr.heap.size, 0, none⟩) 1 1 rfl (Segs.of_blk (Blk.new wr 50 (segCells ⟨⟨2, (j : Int), false, x.seg.body⟩, x.A, x.n, x.c⟩)) (Nat.lt_succ_self _)) (fun h => by cases h) (by omega) (by (rw [World.size_alloc]; have := hW.size; omega)) ?_); intro v1 w1 hO1 hg1 hd1; have hb1 : Below w.heap.size wr w1 := ((Below.refl _ _).alloc hW.size _).grown hg1 (by (rw [World.size_alloc]; have := hW.size; omega)) (fun g hg => HO.out.base_ g hg); have HB1 : Hid (Bodies w1 w.heap.size (zs ++ [⟨⟨2, (j : Int), false, x.seg.body⟩, x.A, x.n, x.c⟩])) := (HB.out.append (Bodies.one (x := ⟨⟨2, (j : Int), false, x.seg.body⟩, x.A, x.n, x.c⟩) HBx.out HBc.out.1 HBc.out.2)).below hb1; have HO1 := Lib.hid hO1; have hW1 := hW.trans hb1; have HLe := Lib.hid hzl; clear hO1 hg1 hd1 hb1 HB HO; refine hK _ _ ?_; clear hK K))

        go_roundw
        case rel =>
          refine ⟨j + 1, _, by go_num, hlt, ?_, HO1, HB1, ?_, ?_, hW1⟩
          · rw [List.length_append, HLe.out]; rfl
          · show PS.Lines 0 _
            rw [List.map_append]
            exact HL.out.snoc HM.out (by rw [List.length_map, HLe.out]) rfl
          · intro z hz
            rcases List.mem_append.1 hz with hz | hz
            · exact HZ.out z hz
            · rcases List.mem_singleton.1 hz with rfl
              exact HBl.out
        case measure => simp [intOf]; omega
      · have HM : Hid (PS.may ⟨1, (j : Int), false, x.seg.body⟩ = true) := (PS.may_is _).2 ⟨(by show (1 : Int) ≤ 1; decide), (by show (1 : Int) ≤ 3; decide), (by show (0 : Int) ≤ (j : Int); omega), (by show (j : Int) ≤ 1048576; omega), (by show x.seg.body.length ≤ 12100; have := HBl.out; omega), rfl⟩
        go_wp2_with (at_builtin; (refine wpList_of_wp rfl (fun K hK => wp_append_segs (.tmp 19) (.tmp 28) rfl [⟨⟨1, (j : Int), false, x.seg.body⟩, x.A, x.n, x.c⟩] rfl (HO.out.alloc _) (wr.heap.size + 1) (some ⟨wr.heap.size, 0, none⟩) 1 1 rfl (Segs.of_blk (Blk.new wr 50 (segCells ⟨⟨1, (j : Int), false, x.seg.body⟩, x.A, x.n, x.c⟩)) (Nat.lt_succ_self _)) (fun h => by cases h) (by omega) (by (rw [World.size_alloc]; have := hW.size; omega)) ?_); intro v1 w1 hO1 hg1 hd1; have hb1 : Below w.heap.size wr w1 := ((Below.refl _ _).alloc hW.size _).grown hg1 (by (rw [World.size_alloc]; have := hW.size; omega)) (fun g hg => HO.out.base_ g hg); have HB1 : Hid (Bodies w1 w.heap.size (zs ++ [⟨⟨1, (j : Int), false, x.seg.body⟩, x.A, x.n, x.c⟩])) := (HB.out.append (Bodies.one (x := ⟨⟨1, (j : Int), false, x.seg.body⟩, x.A, x.n, x.c⟩) HBx.out HBc.out.1 HBc.out.2)).below hb1; have HO1 := Lib.hid hO1; have hW1 := hW.trans hb1; have HLe := Lib.hid hzl; clear hO1 hg1 hd1 hb1 HB HO; refine hK _ _ ?_; clear hK K))

        go_roundw
        case rel =>
          refine ⟨j + 1, _, by go_num, hlt, ?_, HO1, HB1, ?_, ?_, hW1⟩
          · rw [List.length_append, HLe.out]; rfl
          · show PS.Lines 0 _
            rw [List.map_append]
            exact HL.out.snoc HM.out (by rw [List.length_map, HLe.out]) rfl
          · intro z hz
            rcases List.mem_append.1 hz with hz | hz
            · exact HZ.out z hz
            · rcases List.mem_singleton.1 hz with rfl
              exact HBl.out
        case measure => simp [intOf]; omega
    · obtain rfl : j = n := by omega
      have hsz := hW.size
      obtain ⟨A3, n3, c3, rfl, hS3, _, _⟩ := HO.out.form
      have hn3 : j = n3 := by rw [← hS3.len]; exact hzl.symm
      subst hn3
      clear hS3
      have hlt3 : ∀ g, (Value.slice A3 j c3).ownBlock = some g → g < wr.heap.size := HO.out.lt
      have hcs : (convert 30 30 (.slice (some ⟨wr.heap.size, 0, none⟩) 1 1)).run Try.prog (wr.alloc (.cells #[.int .u8 122] 5)) = .ok (.slice (some ⟨wr.heap.size, 0, none⟩) 1 1) (wr.alloc (.cells #[.int .u8 122] 5 (1, 2))) := conv_const wr _ 1 1
      have hB0 := blk_bytes wr 5 (1, 2) [122] #[.int .u8 122] rfl 1 rfl
      have hs0 : (wr.alloc (.cells #[.int .u8 122] 5 (1, 2))).heap.size = wr.heap.size + 1 := by rw [World.size_alloc]
      have HB0 := Lib.hid hB0
      have HO0 := Lib.hid (HO.out.alloc (.cells #[.int .u8 122] 5 (1, 2)))
      have hW0 := hW.alloc hsz (.cells #[.int .u8 122] 5 (1, 2))
      have HB' := Lib.hid (HB.out.below ((Below.refl _ _).alloc hsz (.cells #[.int .u8 122] 5 (1, 2))))
      have HM : Hid (PS.may ⟨3, (j : Int), true, [122]⟩ = true) := (PS.may_is _).2 ⟨(by show (1 : Int) ≤ 3; decide), (by show (3 : Int) ≤ 3; decide), (by show (0 : Int) ≤ (j : Int); omega), (by show (j : Int) ≤ 1048576; omega), (by show 1 ≤ 12100; decide), rfl⟩
      have hs1 : ((wr.alloc (.cells #[.int .u8 122] 5 (1, 2))).alloc (Obj.cells (segCells ⟨⟨3, (j : Int), true, [122]⟩, some ⟨wr.heap.size, 0, none⟩, 1, 1⟩) 50)).heap.size = wr.heap.size + 2 := by rw [World.size_alloc, hs0]
      have HSg : Hid (Segs ((wr.alloc (.cells #[.int .u8 122] 5 (1, 2))).alloc (Obj.cells (segCells ⟨⟨3, (j : Int), true, [122]⟩, some ⟨wr.heap.size, 0, none⟩, 1, 1⟩) 50)) (wr.heap.size + 2) (some ⟨wr.heap.size + 1, 0, none⟩) 1 [⟨⟨3, (j : Int), true, [122]⟩, some ⟨wr.heap.size, 0, none⟩, 1, 1⟩]) := by
        have := Segs.of_blk (B := wr.heap.size + 2) (Blk.new (wr.alloc (.cells #[.int .u8 122] 5 (1, 2))) 50 (segCells ⟨⟨3, (j : Int), true, [122]⟩, some ⟨wr.heap.size, 0, none⟩, 1, 1⟩)) (by rw [hs0]; omega)
        rwa [hs0] at this
      have Hs0 := Lib.hid hs0
      have Hs1 := Lib.hid hs1
      clear hB0 hs0 hs1 HB HO
      go_wp2_with (at_builtin; (refine wpList_of_wp rfl (fun K hK => wp_append_segs (.tmp 30) (.tmp 36) rfl [⟨⟨3, (j : Int), true, [122]⟩, some ⟨wr.heap.size, 0, none⟩, 1, 1⟩] rfl (HO0.out.alloc _) (wr.heap.size + 2) (some ⟨wr.heap.size + 1, 0, none⟩) 1 1 rfl HSg.out (fun h => by cases h) (by omega) (by (rw [Hs1.out]; omega)) ?_); intro v1 w1 hO1 hg1 hd1; refine hK _ _ ?_; clear hK K))
      have hb1 : Below w.heap.size (wr.alloc (.cells #[.int .u8 122] 5 (1, 2))) w1 := ((Below.refl _ _).alloc (by rw [Hs0.out]; omega) _).grown hg1 (by rw [Hs1.out]; omega) (fun g hg => HO0.out.base_ g hg)
      obtain ⟨A1, n1, c1, rfl, hS1, hc1, hz1⟩ := hO1.form
      have hn1 : n1 = j + 1 := by rw [← hS1.len, List.length_append, hzl]; rfl
      have hs2 : wr.heap.size + 2 ≤ w1.heap.size := by rw [← Hs1.out]; exact hg1.size
      go_ret
      refine ⟨A1, n1, c1, _, rfl, hS1, hc1, hz1, ?_, ?_, ?_, hn1, hW0.trans hb1⟩
      · refine ((HB'.out.below hb1).more (by omega)).append (Bodies.one ?_ (Nat.le_refl _) (fun h => by cases h))
        exact ((HB0.out.alloc (by rw [Hs0.out]; exact Nat.le_refl _) _).grown_off hg1 (by rw [Hs1.out]; omega) (fun e => by have := hlt3 _ e; omega)).more (by omega)
      · exact ⟨zs.map (·.seg), ⟨3, (j : Int), true, [122]⟩, by rw [List.map_append]; rfl, HL.out, HM.out, by rw [List.length_map, hzl], rfl⟩
      · intro z hz
        rcases List.mem_append.1 hz with hz | hz
        · exact HZ.out z hz
        · rcases List.mem_singleton.1 hz with rfl
          show 1 ≤ 300
          decide
end Go.Proofs.Ytobbjhbjjhnicaa
