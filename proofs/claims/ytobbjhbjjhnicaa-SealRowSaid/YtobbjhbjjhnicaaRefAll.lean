/- The walk of the reference's All. -/
import Derived.Test.YtobbjhbjjhnicaaRefOpen
import Derived.Test.YtobbjhbjjhnicaaSealAll
namespace Go.Proofs.Ytobbjhbjjhnicaa
open Go.RowKit
set_option linter.unusedVariables false
set_option maxRecDepth 100000 in
set_option maxHeartbeats 4000000 in
theorem refAll_any (k : PL.K8) (n t : Nat) (l : List UInt8) (w : World) (hlen : l.length = n) (hn : n ≤ 90000) (ht : t ≤ n) :
    Calls Try.prog 28 #[.agg (keyCells k), .string ⟨l.toArray⟩, .int .i64 (t : Int)] w (GotAll w (PS.all k l t)) := by
  have HLen := Lib.hid hlen
  have KG := Lib.hid (fun (a m : Nat) (w' : World) (ha : a ≤ n) => refOpen_any k n a (m : Int) l w' hlen hn ha)
  have HAll : Hid (PS.allGo k l (n + 1) t [] = PS.all k l t) := by show _ = _; unfold PS.all; rw [hlen]
  have HOk := Lib.hid (fun (a : Nat) (p : Int) => PS.get_ok k l a p)
  go_enter Try.func28, Try.ntmps28
  go_wp2
  have hW0 : Below w.heap.size w (w.alloc (Obj.cells (keyCells k) 33)) := (Below.refl _ _).alloc (Nat.le_refl _) _
  have HK0 := Lib.hid (Blk.new w 33 (keyCells k))
  go_loopw [2, 9] (fun q v w' => ∃ (a f : Nat) (xs : List SegV), q = .int .i64 (a : Int) ∧ a ≤ n ∧ n + 1 ≤ f + a ∧ xs.length ≤ a ∧ Hid (PS.allGo k l f a (xs.map (·.seg)) = PS.all k l t) ∧ Hid (OwnS w' (w.heap.size + 1) v xs) ∧ Hid (Bodies w' w'.heap.size xs) ∧ Hid (∀ x ∈ xs, 0 < x.n → ∀ b o, x.A = some ⟨b, o, none⟩ → some b ≠ v.ownBlock) ∧ Hid (Blk w' w.heap.size 33 (keyCells k)) ∧ Below w.heap.size w w') (fun q _ _ => n - (intOf q).toNat)
  case atStart => exact ⟨t, n + 1, [], rfl, ht, by omega, Nat.zero_le _, HAll, OwnS.nil_, Bodies.nil, (fun x hx => by cases hx), HK0, hW0⟩
  case round =>
    clear HK0 hW0
    obtain ⟨a, f, xs, rfl, ha, hf, hxa, HE, HO, HX, HD, HK, hW⟩ := hrel
    obtain ⟨A2, n2, c2, rfl, hS, hc2, hz2⟩ := HO.out.form
    have hn2 : n2 = xs.length := hS.len.symm
    subst hn2
    have HSg := Lib.hid hS
    have kg := KG.out a xs.length wr ha
    have hok := HOk.out a (xs.length : Int)
    rcases f with _ | z
    · omega
    have he : (if (PS.get k l a (xs.length : Int)).2.2 ≠ 0 then (xs.map (·.seg), a, (PS.get k l a (xs.length : Int)).2.2) else if (PS.get k l a (xs.length : Int)).1.last = true then (xs.map (·.seg) ++ [(PS.get k l a (xs.length : Int)).1], (PS.get k l a (xs.length : Int)).2.1, 0) else PS.allGo k l z (PS.get k l a (xs.length : Int)).2.1 (xs.map (·.seg) ++ [(PS.get k l a (xs.length : Int)).1])) = PS.all k l t := by
      have := HE.out
      rw [PS.allGo, List.length_map] at this
      exact this
    generalize PS.get k l a (xs.length : Int) = r at *
    obtain ⟨sg, en, cd⟩ := r
    simp only at he hok
    have He := Lib.hid he
    have Hok := Lib.hid hok
    have KGa := Lib.hid kg
    obtain ⟨k0, k1, k2, k3, k4, k5, k6, k7⟩ := key_loads HK.out
    clear he hok kg HE hS
    go_wp2_with fail
    (with_reducible refine KGa.out.mono ?_)
    rintro e w1 ⟨x, rfl, hx, hBx, hxc, hxz, hxf, hb1⟩
    have HO1 := Lib.hid (HO.out.below hb1 HO.out.lt)
    have HX1 := Lib.hid ((HX.out.below hb1).more hb1.size)
    have HK1 := Lib.hid (HK.out.below hb1 HK.out.lt)
    have HSg1 := Lib.hid (HSg.out.below hb1)
    have hs1 := hb1.size
    have hW1 := hW.trans (hb1.mono hW.size)
    have HBx := Lib.hid hBx
    have Hx := Lib.hid hx
    have Hxz := Lib.hid hxz
    have hs0 := hW.size
    have Hxf : Hid (∀ b o, x.A = some ⟨b, o, none⟩ → some b ≠ (Value.slice A2 xs.length c2).ownBlock) := fun b o h e => by have := HO.out.lt _ e.symm; have := hxf b o h; omega
    have hkl := HK1.out.lt
    clear KGa HO HX HK hb1 hW hBx hx hxz HSg k0 k1 k2 k3 k4 k5 k6 k7 KG
    have hR0 : Blk (w1.alloc (Obj.cells #[.int .i64 0, .int .i64 0, .bool false, .slice none 0 0] 50)) w1.heap.size 50 #[.int .i64 0, .int .i64 0, .bool false, .slice none 0 0] := Blk.new w1 _ _
    by_cases hcd : cd = 0
    · subst hcd
      obtain ⟨ha1, ha2⟩ := Hok.out rfl
      rw [HLen.out] at ha2
      have he := He.out
      rw [if_neg (by simp)] at he
      have He := Lib.hid he
      clear he Hok
      have post : ∀ w2, Blk w2 w1.heap.size 50 (segCells x) → Below w1.heap.size w1 w2 → ∀ (v3 : Value) (w3 : World), OwnS w3 (w.heap.size + 1) v3 (xs ++ [x]) → (w2.alloc (Obj.cells (segCells x) 50)).grownBy w3 (Value.slice A2 xs.length c2).ownBlock → (v3.ownBlock = (Value.slice A2 xs.length c2).ownBlock ∨ v3.ownBlock = some (w2.alloc (Obj.cells (segCells x) 50)).heap.size) →
          Blk w3 w1.heap.size 50 (segCells x) ∧ Bodies w3 w3.heap.size (xs ++ [x]) ∧ (∀ y ∈ xs ++ [x], 0 < y.n → ∀ b o, y.A = some ⟨b, o, none⟩ → some b ≠ v3.ownBlock) ∧ Blk w3 w.heap.size 33 (keyCells k) ∧ Below w.heap.size w w3 := by
        intro w2 hB2 hb2 v3 w3 hO3 hg3 hd3
        have hsz2 := hB2.lt
        have hown : ∀ g, (Value.slice A2 xs.length c2).ownBlock = some g → w.heap.size + 1 ≤ g ∧ g < w1.heap.size := fun g hg => ⟨HO1.out.base_ g hg, HO1.out.lt g hg⟩
        have hb4 : Below w1.heap.size w1 (w2.alloc (Obj.cells (segCells x) 50)) := hb2.alloc hb2.size _
        have hXX : Bodies w1 w1.heap.size (xs ++ [x]) := HX1.out.append (fun y hy => by rcases List.mem_singleton.1 hy with rfl; exact ⟨HBx.out, hxc, Hxz.out⟩)
        have hDD : ∀ y ∈ xs ++ [x], 0 < y.n → ∀ b o, y.A = some ⟨b, o, none⟩ → some b ≠ (Value.slice A2 xs.length c2).ownBlock := by
          intro y hy hyn b o e
          rcases List.mem_append.1 hy with hy | hy
          · exact HD.out y hy hyn b o e
          · rcases List.mem_singleton.1 hy with rfl
            exact Hxf.out b o e
        refine ⟨(hB2.alloc _).grown hg3 (fun e => by have := hown _ e.symm; omega), ?_, ?_, ?_, ?_⟩
        · exact ((hXX.below hb4).more hb4.size).grown hg3 hDD
        · intro y hy hyn b o e
          rcases hd3 with hd3 | hd3
          · rw [hd3]; exact hDD y hy hyn b o e
          · rw [hd3]
            intro h
            injection h with h
            have := hb4.size
            obtain ⟨b', o', e', hb', _⟩ := (hXX y hy).1.2 hyn
            rw [e] at e'
            injection e' with e'
            injection e' with e1 e2
            omega
        · exact ((HK1.out.below hb2 hkl).alloc _).grown hg3 (fun e => by have := hown _ e.symm; omega)
        · exact (hW1.trans (hb4.mono hW1.size)).grown hg3 (by have := hb4.size; omega) (fun g hg => by have := hown g hg; omega)
      have Post := Lib.hid post
      clear post HX1 HD
      have hl : x.seg.last = true ∨ x.seg.last = false := by cases x.seg.last <;> simp
      rcases hl with hlast | hlast
      all_goals have HLast := Lib.hid hlast
      all_goals clear hlast
      all_goals go_wp2_with (first
        | (refine wpList_store_blk rfl 50 (.tmp 10) (.tmp 20) rfl w1.heap.size (segCells x) rfl rfl 50 _ hR0 rfl (by kernel_rfl) (seg_one _) ?_; intro w2 hB2 hg2 hs2; have HB2 := Lib.hid hB2; have hsz2 : w1.heap.size + 1 ≤ w2.heap.size := hB2.lt; have hb2 : Below w1.heap.size w1 w2 := ((Below.refl _ _).alloc (Nat.le_refl _) _).grown hg2 (Nat.le_of_lt hR0.lt) (fun g hg => by (cases hg; omega)); have HO2 := Lib.hid (HO1.out.below hb2 HO1.out.lt); obtain ⟨s0, s1, s2, s3⟩ := seg_cells hB2; clear hB2 hg2 hs2 hR0)
        | (refine wpList_of_wp rfl (fun K hK => wp_append_segs (.tmp 28) (.tmp 30) rfl [x] rfl (HO2.out.alloc _) (w2.heap.size + 1) (some ⟨w2.heap.size, 0, none⟩) 1 1 rfl (Segs.of_blk (Blk.new w2 50 (segCells x)) (Nat.lt_succ_self _)) (fun h => by cases h) (by omega) (by (rw [World.size_alloc]; omega)) ?_); intro v3 w3 hO3 hg3 hd3; obtain ⟨hB3, hX3, hD3, hK3, hW3⟩ := Post.out w2 HB2.out hb2 v3 w3 hO3 hg3 hd3; have HB3 := Lib.hid hB3; have HX3 := Lib.hid hX3; have HD3 := Lib.hid hD3; have HK3 := Lib.hid hK3; have HO3 := Lib.hid hO3; obtain ⟨s0, s1, s2, s3⟩ := seg_cells hB3; rw [HLast.out] at s2; clear hB3 hX3 hD3 hK3 hO3 hg3 hd3 HO2 HB2 Post; refine hK _ _ ?_; clear hK K))
      · have he := He.out
        rw [if_pos (by rw [← Hx.out]; exact HLast.out)] at he
        obtain ⟨A3, n3, c3, rfl, hS3, hc3, _⟩ := HO3.out.form
        go_ret3
        refine ⟨A3, n3, c3, xs ++ [x], ?_, hS3, hc3, ?_, HX3.out, hW3⟩
        · rw [← he]; rfl
        · rw [← he, List.map_append, ← Hx.out]; rfl
      · have he := He.out
        rw [if_neg (by rw [← Hx.out, HLast.out]; simp)] at he
        have HE3 : Hid (PS.allGo k l z en ((xs ++ [x]).map (·.seg)) = PS.all k l t) := by
          show _ = _
          rw [List.map_append, ← he, ← Hx.out]
          rfl
        go_roundw
        case rel => exact ⟨en, z, xs ++ [x], rfl, ha2, by omega, by rw [List.length_append]; simp only [List.length_singleton]; omega, HE3, HO3, HX3, HD3, HK3, hW3⟩
        case measure => simp [intOf]; omega
    · have tcd : ((cd : Int) != 0) = true := ne0_true hcd
      have he := He.out
      rw [if_pos hcd] at he
      have He := Lib.hid he
      clear he Hok
      go_wp2_with (refine wpList_store_blk rfl 50 (.tmp 10) (.tmp 20) rfl w1.heap.size (segCells x) rfl rfl 50 _ hR0 rfl (by kernel_rfl) (seg_one _) ?_; intro w2 hB2 hg2 hs2)
      go_ret3
      have hb2 : Below w1.heap.size w1 w2 := ((Below.refl _ _).alloc (Nat.le_refl _) _).grown hg2 (by rw [World.size_alloc]; omega) (fun g hg => by cases hg; exact Nat.le_refl _)
      refine ⟨A2, xs.length, c2, xs, ?_, (HSg1.out.below (hb2.mono hs1)).more (by have := hb2.size; omega), hc2, ?_, (HX1.out.below hb2).more hb2.size, hW1.trans (hb2.mono hW1.size)⟩
      · rw [← He.out]; rfl
      · rw [← He.out]
end Go.Proofs.Ytobbjhbjjhnicaa
