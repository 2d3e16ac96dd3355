/- The walk of seal.Get. -/
import Derived.Test.YtobbjhbjjhnicaaSealPut
import Derived.Test.YtobbjhbjjhnicaaSealNumber
import Derived.Laws.IdiomCopy
namespace Go.Proofs.Ytobbjhbjjhnicaa
open Go.RowKit
set_option linter.unusedVariables false
theorem seg_three {P : Program} {fn : Func} {p : Tmp} {ty : TypeId} {q r : Tmp} (h : fn.results = #[.cell p ty, .tmp q, .tmp r]) (tmps : Array Value) (w : World) (g : Nat) (t : TypeId) (cs : Array Value) (fr : Nat × Nat) (d : TypeDesc)
    (hp : tmps.getD p undef = .pointer (some ⟨g, 0, none⟩)) (hg : w.heap[g]? = some (.cells cs t fr))
    (hu : P.underlying ty = some d) (hd : (match d with | .struct _ | .array _ _ => true | _ => false) = true) (hi : (P.info? ty).map (·.size) = some cs.size) :
    (results fn tmps).run P w = .ok (.tuple #[.agg cs, tmps.getD q undef, tmps.getD r undef]) w := by
  have hp' : tmps[p]?.getD undef = .pointer (some ⟨g, 0, none⟩) := by simpa using hp
  simp [results, h, hp', asAddr, run_loadVar_row w g t ty cs fr d hg hu hd hi]
theorem seg_one (x : SegV) : (segCells x).all (·.oneCell') = true := by simp [Value.oneCell']
def zeroV : SegV := ⟨PS.zero, none, 0, 0⟩
/-- Eight bytes copied into a block of eight. -/
theorem wp_copy8 {o : Oper} {a : Act} {w : World} {K : Act → World → Prop} {Q : Exit → Act → World → Prop} (d s : Operand)
    (ho : o.op = .call { callee := .builtin .copy, args := #[d, s], argTypes := #[30, 30] }) (g : Nat) (tg : TypeId) (f0 : Nat → UInt8) (hd : a.eval d = .slice (some ⟨g, 0, none⟩) 8 8)
    (B n c : Nat) (A : Option Addr) (hs : a.eval s = .slice A n c) (l : List UInt8) (hb : Bytes w B A n l) (hn : 8 ≤ n) (hB : Blk w g tg (byteCells f0))
    (h : ∀ v w', Blk w' g tg (byteCells fun j => l.getD j 0) → w.grownBy w' (some g) → w'.heap.size = w.heap.size → K (a.put o.dst v) w') : o.wp Try.prog a w K Q := by
  obtain ⟨b, off, rfl, hb2, hc⟩ := hb.2 (by omega)
  have hr := run_copy_cells (P := Try.prog) w 30 30 o.type 5 g 0 8 8 ⟨b, off, none⟩ n c (byteCells fun j => l.getD j 0).toList Try.underlying30 (by kernel_rfl)
    (by show 8 = min n 8; omega)
    (fun j v hj => by
      have hj8 : j < 8 := by simpa using (List.getElem?_eq_some_iff.1 hj).1
      have hl := hb.len
      have h1 : l[j]? = some (l.getD j 0) := by rw [List.getD_eq_getElem?_getD, List.getElem?_eq_getElem (by omega)]; rfl
      have h2 := hc j _ h1
      rw [Addr.add_mid, h2, ← hj, Array.getElem?_toList, byteCells_get _ j hj8])
    (fun j hj => by rw [Nat.zero_add, hB.cell, byteCells_get f0 j (by simpa using hj)]; rfl) (fun j hj => hB.frozen _)
    (fun v hv => by
      simp at hv
      rcases hv with rfl | rfl | rfl | rfl | rfl | rfl | rfl | rfl <;> rfl)
  unfold Oper.wp execOp
  simp only [ho, resolve, invoke, builtin, Sem.run_bind, Sem.run_pure, Result.andThen_ok, List.map_toArray, List.map_cons, List.map_nil, hd, hs, hr]
  exact h _ _ (hB.setCells (byteCells fun j => l.getD j 0) rfl) (grown_setCells g _ 0 w w (World.grownBy.refl w _)) (size_setCells g _ 0 w)
theorem byte_loads {w' : World} {H t : Nat} {f : Nat → UInt8} (h : Blk w' H t (byteCells f)) : w'.cell? ⟨H, 0, none⟩ = some (u8v (f 0)) ∧ w'.cell? ⟨H, 1, none⟩ = some (u8v (f 1)) ∧ w'.cell? ⟨H, 2, none⟩ = some (u8v (f 2)) ∧ w'.cell? ⟨H, 3, none⟩ = some (u8v (f 3)) ∧
    w'.cell? ⟨H, 4, none⟩ = some (u8v (f 4)) ∧ w'.cell? ⟨H, 5, none⟩ = some (u8v (f 5)) ∧ w'.cell? ⟨H, 6, none⟩ = some (u8v (f 6)) ∧ w'.cell? ⟨H, 7, none⟩ = some (u8v (f 7)) :=
  ⟨h.cell 0, h.cell 1, h.cell 2, h.cell 3, h.cell 4, h.cell 5, h.cell 6, h.cell 7⟩
theorem take8 (l : List UInt8) (e : Nat) (h : e + 8 ≤ l.length) : (l.drop e).take 8 = (List.range 8).map fun j => (l.drop e).getD j 0 := by
  apply List.ext_getElem?
  intro i
  rw [List.getElem?_take, List.getElem?_map]
  by_cases hi : i < 8
  · rw [if_pos hi, List.getElem?_range hi, List.getElem?_drop, List.getElem?_eq_getElem (by omega)]
    simp only [Option.map_some, List.getD_eq_getElem?_getD, List.getElem?_drop, List.getElem?_eq_getElem (show e + i < l.length by omega), Option.getD_some]
  · rw [if_neg hi, List.getElem?_eq_none (by simp; omega)]
    rfl
theorem sameB_map (f g : Nat → UInt8) : sameB f g = true ↔ (List.range 8).map f = (List.range 8).map g := by
  unfold sameB
  rw [List.all_eq_true]
  constructor
  · intro h
    exact List.map_congr_left fun a ha => by simpa using h a ha
  · intro h i hi
    have := List.map_inj_left.1 h i hi
    simpa using this
theorem number_at (A : Option Addr) (n c B t m : Nat) (s m2 : Int) (l : List UInt8) (w : World) (hb : Bytes w B A n l) (hn : n ≤ 1000000000) (ht : t ≤ n) (hm : m ≤ 1048576) (hs : s = (t : Int)) (hm2 : m2 = (m : Int)) :
    Calls Try.prog 40 #[.slice A n c, .int .i64 s, .int .u64 m2] w fun e w' => e = .returned (.tuple #[.int .i64 ((PS.number l t m).1 : Int), .int .i64 ((PS.number l t m).2.1 : Int), .int .i64 ((PS.number l t m).2.2 : Int)]) ∧ w = w' := by
  subst hs hm2
  exact number_any A n c B t m l w hb hn ht hm
theorem Bytes.grown_ne {w w' : World} {B n g r : Nat} {l : List UInt8} (h : Bytes w B (some ⟨g, 0, none⟩) n l) (hg : w.grownBy w' (some r)) (hB : B ≤ w.heap.size) (hne : g ≠ r) : Bytes w' B (some ⟨g, 0, none⟩) n l := by
  refine ⟨h.1, fun hn => ?_⟩
  obtain ⟨b, off, e, hb, hc⟩ := h.2 hn
  refine ⟨b, off, e, hb, fun i c hi => ?_⟩
  cases e
  exact (World.cell?_of_block (hg.block g (by omega) (fun e => by cases e; exact hne rfl))).trans (hc i c hi)
/-- What seal.Get gives. -/
def Got (w : World) (r : PS.Seg × Nat × Nat) (e : Ending) (w' : World) : Prop :=
  ∃ x : SegV, e = .returned (.tuple #[.agg (segCells x), .int .i64 (r.2.1 : Int), .int .i64 (r.2.2 : Int)]) ∧ x.seg = r.1 ∧ Bytes w' w'.heap.size x.A x.n x.seg.body ∧ x.n ≤ x.c ∧ (x.A = none → x.c = 0) ∧ (∀ b o, x.A = some ⟨b, o, none⟩ → w.heap.size ≤ b) ∧ Below w.heap.size w w'
set_option maxRecDepth 100000 in
set_option maxHeartbeats 4000000 in
theorem sealGet_any (k : PL.K8) (A : Option Addr) (n c B t : Nat) (place : Int) (l : List UInt8) (w : World) (hb : Bytes w B A n l) (hB : B ≤ w.heap.size) (hn : n ≤ 90000) (hnc : n ≤ c) (ht : t ≤ n) :
    Calls Try.prog 30 #[.agg (keyCells k), .slice A n c, .int .i64 (t : Int), .int .i64 place] w (Got w (PS.get k l t place)) := by
  have t0 : ¬ (t : Int) < 0 := by omega
  have t1 : ¬ (n : Int) < (t : Int) := by omega
  have hlen := hb.len
  have HB := Lib.hid (hb.more hB)
  have hget : PS.get k l t place = if l.length = t then (PS.zero, t, 5)
      else if (l.getD t 0).toNat < 1 ∨ 3 < (l.getD t 0).toNat then (PS.zero, t, 3)
      else if (PS.number l (t + 1) 1048576).2.2 ≠ 0 then (PS.zero, t, (PS.number l (t + 1) 1048576).2.2)
      else if (PS.number l (PS.number l (t + 1) 1048576).2.1 12100).2.2 ≠ 0 then (PS.zero, t, (PS.number l (PS.number l (t + 1) 1048576).2.1 12100).2.2)
      else PS.get.body k l t place (l.getD t 0).toNat (PS.number l (t + 1) 1048576).1 (PS.number l (PS.number l (t + 1) 1048576).2.1 12100).1 (PS.number l (PS.number l (t + 1) 1048576).2.1 12100).2.1 := by
    unfold PS.get
    rw [if_neg (by omega)]
  rw [hlen] at hget
  have hW1 : Below w.heap.size w ((w.alloc (Obj.cells (keyCells k) 31)).alloc (Obj.cells #[.int .i64 0, .int .i64 0, .bool false, .slice none 0 0] 50)) := ((Below.refl _ _).alloc (Nat.le_refl _) _).alloc (by simp) _
  have HK1 : Hid (Blk ((w.alloc (Obj.cells (keyCells k) 31)).alloc (Obj.cells #[.int .i64 0, .int .i64 0, .bool false, .slice none 0 0] 50)) w.heap.size 31 (keyCells k)) := (Blk.new w _ _).alloc _
  have HS1 : Hid (Blk ((w.alloc (Obj.cells (keyCells k) 31)).alloc (Obj.cells #[.int .i64 0, .int .i64 0, .bool false, .slice none 0 0] 50)) (w.heap.size + 1) 50 #[.int .i64 0, .int .i64 0, .bool false, .slice none 0 0]) := by
    have := Blk.new (w.alloc (Obj.cells (keyCells k) 31)) 50 #[.int .i64 0, .int .i64 0, .bool false, .slice none 0 0]
    rwa [World.size_alloc] at this
  clear hb
  go_enter Try.func30, Try.ntmps30
  by_cases htn : t = n
  · subst htn
    rw [if_pos rfl] at hget
    have HG := Lib.hid hget
    clear hget
    go_wp2
    refine bodyPost_ret (seg_three rfl _ _ (w.heap.size + 1) 50 _ (0, 0) _ rfl HS1.out Try.underlying50 rfl (by kernel_rfl)) rfl ?_
    refine ⟨zeroV, ?_, ?_, Bytes.empty, Nat.le_refl _, fun _ => rfl, (fun _ _ h => by cases h), hW1⟩
    · rw [HG.out]; rfl
    · rw [HG.out]; rfl
  · have tn : ((t : Int) == (n : Int)) = false := by rw [beq_eq_false_iff_ne]; omega
    have hlt : t < n := by omega
    rw [if_neg (fun h => htn h.symm)] at hget
    have hW1a := hW1
    obtain ⟨bl, off, x, hA, hbl, hx, hcx⟩ := HB.out.pick hlt
    subst hA
    have hgx : l.getD t 0 = x := by rw [List.getD_eq_getElem?_getD, hx]; rfl
    rw [hgx] at hget
    have hcx1 : ((w.alloc (Obj.cells (keyCells k) 31)).alloc (Obj.cells #[.int .i64 0, .int .i64 0, .bool false, .slice none 0 0] 50)).cell? ⟨bl, off + t, none⟩ = some (.int .u8 (x.toNat : Int)) := (hW1.cell (p := ⟨bl, off + t, none⟩) hbl).trans hcx
    obtain ⟨q, hq⟩ : ∃ q, q = x.toNat := ⟨_, rfl⟩
    have hq256 : q < 256 := by rw [hq]; exact x.toNat_lt
    rw [← hq] at hget hcx1
    clear hx hgx hcx hq
    by_cases hq1 : q < 1
    · have tq : (q : Int) < 1 := by omega
      rw [if_pos (.inl hq1)] at hget
      have HG := Lib.hid hget
      clear hget
      go_wp2
      refine bodyPost_ret (seg_three rfl _ _ (w.heap.size + 1) 50 _ (0, 0) _ rfl HS1.out Try.underlying50 rfl (by kernel_rfl)) rfl ?_
      refine ⟨zeroV, ?_, ?_, Bytes.empty, Nat.le_refl _, fun _ => rfl, (fun _ _ h => by cases h), hW1⟩
      · rw [HG.out]; rfl
      · rw [HG.out]; rfl
    · have tq : ¬ (q : Int) < 1 := by omega
      by_cases hq3 : 3 < q
      · have tq3 : (3 : Int) < (q : Int) := by omega
        rw [if_pos (.inr hq3)] at hget
        have HG := Lib.hid hget
        clear hget
        go_wp2
        refine bodyPost_ret (seg_three rfl _ _ (w.heap.size + 1) 50 _ (0, 0) _ rfl HS1.out Try.underlying50 rfl (by kernel_rfl)) rfl ?_
        refine ⟨zeroV, ?_, ?_, Bytes.empty, Nat.le_refl _, fun _ => rfl, (fun _ _ h => by cases h), hW1⟩
        · rw [HG.out]; rfl
        · rw [HG.out]; rfl
      · have tq3 : ¬ (3 : Int) < (q : Int) := by omega
        rw [if_neg (by omega)] at hget
        have kn := number_at (some ⟨bl, off, none⟩) n c w.heap.size (t + 1) 1048576 ((t : Int) + 1) 1048576 l _ (HB.out.below hW1) (by omega) (by omega) (by omega) (by omega) rfl
        have KN := Lib.hid kn
        have ok1 := PS.number_ok l (t + 1) 1048576
        have KN2 := Lib.hid (fun (w' : World) (i : Nat) (hW : Below w.heap.size w w') (hi : i ≤ n) => number_at (some ⟨bl, off, none⟩) n c w.heap.size i 12100 (i : Int) 12100 l w' (HB.out.below hW) (by omega) hi (by omega) rfl rfl)
        have HKy := Lib.hid (PS.number_ok l)
        clear kn
        generalize hN1 : PS.number l (t + 1) 1048576 = N1 at *
        obtain ⟨p1, i1, c1⟩ := N1
        simp only at hget ok1
        have HGet := Lib.hid hget
        have Ok1 := Lib.hid ok1
        clear hN1 hget ok1
        go_wp2_with fail
        (with_reducible refine KN.out.mono ?_)
        rintro e w1 ⟨rfl, rfl⟩
        clear KN hcx1
        generalize (w.alloc (Obj.cells (keyCells k) 31)).alloc (Obj.cells #[.int .i64 0, .int .i64 0, .bool false, .slice none 0 0] 50) = w1 at *
        have hget := HGet.out
        have ok1 := Ok1.out
        clear HGet Ok1
        by_cases hc1 : c1 = 0
        · subst hc1
          rw [if_neg (by simp)] at hget
          obtain ⟨hp1, hi1, hi1n⟩ := ok1 rfl
          rw [hlen] at hi1n
          have kn2 := KN2.out w1 i1 hW1 hi1n
          have KN3 := Lib.hid kn2
          have ok2 := HKy.out i1 12100
          clear kn2 KN2 ok1
          generalize hN2 : PS.number l i1 12100 = N2 at *
          obtain ⟨m, i2, c2⟩ := N2
          simp only at hget ok2
          have HGet := Lib.hid hget
          have Ok2 := Lib.hid ok2
          clear hN2 hget ok2
          go_wp2_with fail
          (with_reducible refine KN3.out.mono ?_)
          rintro e w2 ⟨rfl, rfl⟩
          clear KN3
          have hget := HGet.out
          have ok2 := Ok2.out
          clear HGet Ok2
          by_cases hc2 : c2 = 0
          · subst hc2
            rw [if_neg (by simp)] at hget
            obtain ⟨hm, hi2, hi2n⟩ := ok2 rfl
            rw [hlen] at hi2n
            clear ok2
            unfold PS.get.body at hget
            rw [hlen] at hget
            obtain ⟨en, hen⟩ : ∃ en, en = i2 + m := ⟨_, rfl⟩
            rw [← hen] at hget
            have jen : (i2 : Int) + (m : Int) = (en : Int) := by omega
            have henb : en ≤ 110000 := by omega
            have hte : t ≤ en := by omega
            have hie : i2 ≤ en := by omega
            have HEn := Lib.hid hen
            clear hen
            have hW2 := hW1.alloc hW1.size (Obj.cells #[.int .u8 0, .int .u8 0, .int .u8 0, .int .u8 0, .int .u8 0, .int .u8 0, .int .u8 0, .int .u8 0] 73)
            have HS2 := Lib.hid (HS1.out.alloc (Obj.cells #[.int .u8 0, .int .u8 0, .int .u8 0, .int .u8 0, .int .u8 0, .int .u8 0, .int .u8 0, .int .u8 0] 73))
            have HK2 := Lib.hid (HK1.out.alloc (Obj.cells #[.int .u8 0, .int .u8 0, .int .u8 0, .int .u8 0, .int .u8 0, .int .u8 0, .int .u8 0, .int .u8 0] 73))
            have HT2 : Hid (Blk (w1.alloc (Obj.cells #[.int .u8 0, .int .u8 0, .int .u8 0, .int .u8 0, .int .u8 0, .int .u8 0, .int .u8 0, .int .u8 0] 73)) w1.heap.size 73 (byteCells fun _ => 0)) := Blk.new w1 73 (byteCells fun _ => 0)
            by_cases h8 : n < en + 8
            · rw [if_pos h8] at hget
              have HG := Lib.hid hget
              have t8 : (n : Int) - (en : Int) < 8 := by omega
              clear hget
              go_wp2_with (refine wpList_store_blk rfl 50 (.tmp 8) (.tmp 81) rfl (w.heap.size + 1) #[.int .i64 0, .int .i64 0, .bool false, .slice none 0 0] rfl rfl 50 _ HS2.out rfl (by kernel_rfl) (seg_one zeroV) ?_; intro wz hBz hgz hsz)
              refine bodyPost_ret (seg_three rfl _ _ (w.heap.size + 1) 50 _ (0, 0) _ rfl hBz Try.underlying50 rfl (by kernel_rfl)) rfl ?_
              refine ⟨zeroV, ?_, ?_, Bytes.empty, Nat.le_refl _, fun _ => rfl, (fun _ _ h => by cases h), hW2.grown hgz (by have := hW2.size; omega) (fun g hg => by cases hg; omega)⟩
              · rw [HG.out]; rfl
              · rw [HG.out]; rfl
            · rw [if_neg h8] at hget
              have HGet := Lib.hid hget
              clear hget
              have t8 : ¬ (n : Int) - (en : Int) < 8 := by omega
              have HN1 : ∀ w, (Instr.sliceAt 30 (.slice (some ⟨bl, off, none⟩) n c) (some (.int .i64 (en : Int))) none none).run Try.prog w = .ok (.slice (cutA (some ⟨bl, off, none⟩) en c) (n - en) (c - en)) w := run_rest_at row_u8 _ n c en (by omega)
              have HN2 : ∀ w, (Instr.sliceAt 30 (.slice (some ⟨bl, off, none⟩) n c) (some (.int .i64 (t : Int))) (some (.int .i64 (en : Int))) none).run Try.prog w = .ok (.slice (cutA (some ⟨bl, off, none⟩) t c) (en - t) (c - t)) w := run_part_at row_u8 _ n c t en (by omega) (by omega)
              have HN3 : ∀ w, (Instr.sliceAt 30 (.slice (some ⟨bl, off, none⟩) n c) (some (.int .i64 (i2 : Int))) (some (.int .i64 (en : Int))) none).run Try.prog w = .ok (.slice (cutA (some ⟨bl, off, none⟩) i2 c) m (c - i2)) w := by
                have := run_part_at (P := Try.prog) (t := 30) row_u8 (some ⟨bl, off, none⟩) n c i2 en (by omega) (by omega)
                rwa [show en - i2 = m by have := HEn.out; omega] at this
              go_wp2
              have HB2 := Lib.hid (HB.out.below hW2)
              have hz1 : w.heap.size + 2 ≤ w1.heap.size := by have := HS1.out.lt; omega
              clear HS1 HK1 hW1 hW1a HB
              generalize w1.alloc (Obj.cells #[.int .u8 0, .int .u8 0, .int .u8 0, .int .u8 0, .int .u8 0, .int .u8 0, .int .u8 0, .int .u8 0] 73) = w2 at *
              obtain ⟨g, hg⟩ : ∃ g, g = w1.heap.size := ⟨_, rfl⟩
              rw [← hg] at HT2 hz1 ⊢
              clear hg
              refine wp_region_seq (fun _ => True) [(false, 0), (false, 1), (true, 2), (true, 3), (true, 4)] (by kernel_rfl) (by kernel_rfl) (fun _ _ d _ _ h => by cases d <;> exact h) trivial ?_
              have HB3 := Lib.hid HB2.out.drew
              have HT3 := Lib.hid HT2.out.drew
              have HK3 := Lib.hid HK2.out.drew
              have HS3 := Lib.hid HS2.out.drew
              have hW3 := hW2.drew
              clear HB2 HT2 HK2 HS2 hW2
              generalize w2.drew = w3 at *
              iterate 2 (apply plan_take rfl rfl rfl rfl; (intro w' hS K hK; clear hS; go_simp; exact hK))
              iterate 2 (refine plan_force rfl rfl (fun K hK => ?_); go_wp2_with fail; refine hK.out _ _ trivial ?_; clear hK K)
              refine plan_force rfl rfl (fun K hK => ?_)
              refine wp_copy8 (.tmp 83) (.tmp 86) rfl g 73 (fun _ => 0) rfl w.heap.size (n - en) (c - en) (cutA (some ⟨bl, off, none⟩) en c) rfl (l.drop en) ?_ (by omega) HT3.out ?_
              · have := HB3.out.part (i := en) (j := n) (m := c) (by omega) (Nat.le_refl _) hnc
                rwa [List.take_of_length_le (by rw [List.length_drop, hlen]; omega)] at this
              intro v w4 hT4 hg4 hs4
              have HT4 := Lib.hid hT4
              have HB4 := Lib.hid (HB3.out.grown hg4 hW3.size (fun g' hg' => by cases hg'; omega))
              have HK4 := Lib.hid (HK3.out.grown hg4 (fun h => by cases h; omega))
              have HS4 := Lib.hid (HS3.out.grown hg4 (fun h => by cases h; omega))
              have hW4 := hW3.grown hg4 hW3.size (fun g' hg' => by cases hg'; omega)
              refine hK.out _ _ trivial ?_
              clear hK K HB3 HT3 HK3 HS3 hW3 hT4 hg4 hs4
              refine plan_nil ?_
              obtain ⟨F, hF⟩ : ∃ F : Nat → UInt8, F = fun j => (l.drop en).getD j 0 := ⟨_, rfl⟩
              rw [← hF] at HT4
              have h8t : (l.drop en).take 8 = (List.range 8).map F := by rw [hF]; exact take8 l en (by omega)
              clear hF
              obtain ⟨sb, hsb⟩ : ∃ sb, sb = sameB F (tagOf k p1 ((l.drop t).take (en - t))) := ⟨_, rfl⟩
              have hsm := sameB_map F (tagOf k p1 ((l.drop t).take (en - t)))
              have KS := Lib.hid (fun w => same_any F (tagOf k p1 ((l.drop t).take (en - t))) w)
              rw [← hsb] at hsm KS
              clear hsb
              have hget := HGet.out
              rw [h8t] at hget
              have HGet := Lib.hid hget
              have HSm := Lib.hid hsm
              have HBX := Lib.hid (HB4.out.part (i := t) (j := en) (m := c) hte (by omega) (by omega))
              have HXb := Lib.hid (show ((l.drop i2).take m).length = m by rw [List.length_take, List.length_drop, hlen]; omega)
              have HBY := Lib.hid (show Bytes w4 w.heap.size (cutA (some ⟨bl, off, none⟩) i2 c) m ((l.drop i2).take m) by
                have := HB4.out.part (i := i2) (j := en) (m := c) hie (by omega) (by omega)
                rwa [show en - i2 = m by have := HEn.out; omega] at this)
              clear h8t hsm HB4 HN1 hget
              go_wp2
              have HT5 := Lib.hid HT4.out.drew
              have HK5 := Lib.hid HK4.out.drew
              have HS5 := Lib.hid HS4.out.drew
              have HBX5 := Lib.hid HBX.out.drew
              have HBY5 := Lib.hid HBY.out.drew
              have hW5 := hW4.drew
              have h5 : w4.heap.size = w4.drew.heap.size := rfl
              refine wp_region_seq (fun x => Below w4.drew.heap.size w4.drew x) [(false, 0), (false, 1), (false, 2), (false, 3), (false, 4), (true, 5), (true, 6), (true, 7), (true, 8), (true, 9)] (by kernel_rfl) (by kernel_rfl) (fun _ _ d _ _ h => by cases d <;> exact h) (Below.refl _ _) ?_
              clear HT4 HK4 HS4 hW4 HBX HBY h5
              generalize w4.drew = w5 at *
              iterate 5 (apply plan_take rfl rfl rfl rfl; (intro w' hS K hK; obtain ⟨b0, b1, b2, b3, b4, b5, b6, b7⟩ := byte_loads (HT5.out.below hS HT5.out.lt); obtain ⟨k0, k1, k2, k3, k4, k5, k6, k7⟩ := key_loads (HK5.out.below hS HK5.out.lt); clear hS; go_simp; exact hK))
              iterate 2 (refine plan_force rfl rfl (fun K hK => ?_); go_wp2_with fail; refine hK.out _ _ (Below.refl _ _) ?_; clear hK K)
              refine plan_force rfl rfl (fun K hK => ?_)
              go_wp2_with fail
              (with_reducible refine (of_any k p1 (cutA (some ⟨bl, off, none⟩) t c) (en - t) (c - t) w.heap.size ((l.drop t).take (en - t)) w5 HBX5.out hW5.size (by omega)).mono ?_)
              rintro e w6 ⟨rfl, hb6⟩
              go_wp2_with fail
              refine hK.out _ _ hb6 ?_
              clear hK K
              refine plan_force rfl rfl (fun K hK => ?_)
              go_wp2_with fail
              (with_reducible refine (KS.out w6).mono ?_)
              rintro e w7 ⟨rfl, hb7⟩
              have hb57 := hb6.trans (hb7.mono hb6.size)
              go_wp2_with fail
              refine hK.out _ _ hb57 ?_
              clear hK K KS
              have HK7 := Lib.hid (HK5.out.below hb57 HK5.out.lt)
              have HS7 := Lib.hid (HS5.out.below hb57 HS5.out.lt)
              have HBY7 := Lib.hid (HBY5.out.below (hb57.mono hW5.size))
              have hW7 := hW5.trans (hb57.mono hW5.size)
              clear hb6 hb7 HT5 HK5 HS5 HBX5 HBY5
              refine plan_force rfl rfl (fun K hK => ?_); go_wp2_with fail; refine hK.out _ _ hb57 ?_; clear hK K
              refine plan_nil ?_
              clear hb57 hW5
              cases sb
              · have hget := HGet.out
                rw [if_pos (fun h => by have := HSm.out.2 h; cases this)] at hget
                have HG := Lib.hid hget
                clear hget HGet HSm
                go_wp2_with (refine wpList_store_blk rfl 50 (.tmp 8) (.tmp 98) rfl (w.heap.size + 1) #[.int .i64 0, .int .i64 0, .bool false, .slice none 0 0] rfl rfl 50 _ HS7.out rfl (by kernel_rfl) (seg_one zeroV) ?_; intro wz hBz hgz hsz)
                refine bodyPost_ret (seg_three rfl _ _ (w.heap.size + 1) 50 _ (0, 0) _ rfl hBz Try.underlying50 rfl (by kernel_rfl)) rfl ?_
                refine ⟨zeroV, ?_, ?_, Bytes.empty, Nat.le_refl _, fun _ => rfl, (fun _ _ h => by cases h), hW7.grown hgz (by have := hW7.size; omega) (fun g hg => by cases hg; omega)⟩
                · rw [HG.out]; rfl
                · rw [HG.out]; rfl
              · have hget := HGet.out
                rw [if_neg (fun h => h (HSm.out.1 rfl))] at hget
                clear HGet HSm
                by_cases hpl : (p1 : Int) = place
                · have tpl : ((p1 : Int) == place) = true := by rw [beq_iff_eq]; exact hpl
                  rw [if_neg (fun h => h hpl)] at hget
                  have HG := Lib.hid hget
                  have HPl := Lib.hid hpl
                  have jq : ((q : Int) == 3) = decide (q = 3) := by rw [Bool.eq_iff_iff, beq_iff_eq, decide_eq_true_eq]; omega
                  have je : ((en + 8 : Nat) : Int) = (en : Int) + 8 := by omega
                  have Je := Lib.hid je
                  clear je
                  clear hget hpl
                  go_wp2
                  have HK8 := Lib.hid HK7.out.drew
                  have HS8 := Lib.hid HS7.out.drew
                  have HBY8 := Lib.hid HBY7.out.drew
                  have hW8 := hW7.drew
                  refine wp_region_seq (fun x => Below w7.drew.heap.size w7.drew x) [(false, 0), (false, 1), (false, 2), (false, 3), (true, 4), (true, 5), (true, 6), (true, 7)] (by kernel_rfl) (by kernel_rfl) (fun _ _ d _ _ h => by cases d <;> exact h) (Below.refl _ _) ?_
                  clear HK7 HS7 hW7 HBY7
                  generalize w7.drew = w8 at *
                  iterate 4 (apply plan_take rfl rfl rfl rfl; (intro w' hS K hK; obtain ⟨k0, k1, k2, k3, k4, k5, k6, k7⟩ := key_loads (HK8.out.below hS HK8.out.lt); clear hS; go_simp; exact hK))
                  iterate 2 (refine plan_force rfl rfl (fun K hK => ?_); go_wp2_with fail; refine hK.out _ _ (Below.refl _ _) ?_; clear hK K)
                  refine plan_force rfl rfl (fun K hK => ?_)
                  go_wp2_with fail
                  (with_reducible refine (xor_any k p1 (cutA (some ⟨bl, off, none⟩) i2 c) m (c - i2) w.heap.size ((l.drop i2).take m) w8 HBY8.out hW8.size (by omega)).mono ?_)
                  rintro e w9 ⟨g9, rfl, hg9, hL9, hb9⟩
                  go_wp2_with fail
                  refine hK.out _ _ hb9 ?_
                  clear hK K
                  have hXl : (PL.xorTo (PL.stream k (placeWord p1) m) ((l.drop i2).take m)).length = m := by rw [PL.xorTo_len (by rw [PL.stream_len]; exact HXb.out.symm)]; exact HXb.out
                  have HB9 := Lib.hid (hL9.bytes hXl (B := w9.heap.size) hL9.lt)
                  have HS9 := Lib.hid (HS8.out.below hb9 HS8.out.lt)
                  have hW9 := hW8.trans (hb9.mono hW8.size)
                  have h99 : w.heap.size + 1 < g9 := by have := HS8.out.lt; omega
                  clear hL9 hXl HK8 HS8 HBY8 hW8
                  refine plan_force rfl rfl (fun K hK => ?_); go_wp2_with fail; refine hK.out _ _ hb9 ?_; clear hK K
                  refine plan_nil ?_
                  clear hb9 hg9
                  generalize hXX : PL.xorTo (PL.stream k (placeWord p1) m) ((l.drop i2).take m) = X at *
                  go_wp2_with (refine wpList_store_blk rfl 50 (.tmp 8) (.tmp 117) rfl (w.heap.size + 1) (segCells ⟨⟨q, p1, decide (q = 3), X⟩, some ⟨g9, 0, none⟩, m, m⟩) rfl rfl 50 _ HS9.out rfl (by kernel_rfl) (seg_one _) ?_; intro wz hBz hgz hsz)
                  refine bodyPost_ret (seg_three rfl _ _ (w.heap.size + 1) 50 _ (0, 0) _ rfl hBz Try.underlying50 rfl (by kernel_rfl)) rfl ?_
                  refine ⟨⟨⟨q, p1, decide (q = 3), X⟩, some ⟨g9, 0, none⟩, m, m⟩, ?_, ?_, ?_, Nat.le_refl _, (fun h => by cases h), (fun b o h => by cases h; omega), hW9.grown hgz (by have := hW9.size; omega) (fun g hg => by cases hg; omega)⟩
                  · rw [HG.out]
                    show Ending.returned (.tuple #[_, .int .i64 ((en : Int) + 8), _]) = Ending.returned (.tuple #[_, .int .i64 ((en + 8 : Nat) : Int), _])
                    rw [Je.out]
                    rfl
                  · rw [HG.out]
                  · exact (HB9.out.grown_ne hgz (Nat.le_refl _) (by omega)).more (by omega)
                · have tpl : ((p1 : Int) == place) = false := by rw [beq_eq_false_iff_ne]; exact hpl
                  rw [if_pos hpl] at hget
                  have HG := Lib.hid hget
                  clear hget hpl
                  go_wp2_with (refine wpList_store_blk rfl 50 (.tmp 8) (.tmp 103) rfl (w.heap.size + 1) #[.int .i64 0, .int .i64 0, .bool false, .slice none 0 0] rfl rfl 50 _ HS7.out rfl (by kernel_rfl) (seg_one zeroV) ?_; intro wz hBz hgz hsz)
                  refine bodyPost_ret (seg_three rfl _ _ (w.heap.size + 1) 50 _ (0, 0) _ rfl hBz Try.underlying50 rfl (by kernel_rfl)) rfl ?_
                  refine ⟨zeroV, ?_, ?_, Bytes.empty, Nat.le_refl _, fun _ => rfl, (fun _ _ h => by cases h), hW7.grown hgz (by have := hW7.size; omega) (fun g hg => by cases hg; omega)⟩
                  · rw [HG.out]; rfl
                  · rw [HG.out]; rfl
          · rw [if_pos hc2] at hget
            clear ok2
            have tc2 : ((c2 : Int) != 0) = true := ne0_true hc2
            have HG := Lib.hid hget
            clear hget
            go_wp2_with (refine wpList_store_blk rfl 50 (.tmp 8) (.tmp 70) rfl (w.heap.size + 1) #[.int .i64 0, .int .i64 0, .bool false, .slice none 0 0] rfl rfl 50 _ HS1.out rfl (by kernel_rfl) (seg_one zeroV) ?_; intro wz hBz hgz hsz)
            refine bodyPost_ret (seg_three rfl _ _ (w.heap.size + 1) 50 _ (0, 0) _ rfl hBz Try.underlying50 rfl (by kernel_rfl)) rfl ?_
            refine ⟨zeroV, ?_, ?_, Bytes.empty, Nat.le_refl _, fun _ => rfl, (fun _ _ h => by cases h), hW1.grown hgz (by have := hW1.size; omega) (fun g hg => by cases hg; omega)⟩
            · rw [HG.out]; rfl
            · rw [HG.out]; rfl
        · rw [if_pos hc1] at hget
          clear ok1
          have tc1 : ((c1 : Int) != 0) = true := ne0_true hc1
          have HG := Lib.hid hget
          clear hget
          go_wp2_with (refine wpList_store_blk rfl 50 (.tmp 8) (.tmp 58) rfl (w.heap.size + 1) #[.int .i64 0, .int .i64 0, .bool false, .slice none 0 0] rfl rfl 50 _ HS1.out rfl (by kernel_rfl) (seg_one zeroV) ?_; intro wz hBz hgz hsz)
          refine bodyPost_ret (seg_three rfl _ _ (w.heap.size + 1) 50 _ (0, 0) _ rfl hBz Try.underlying50 rfl (by kernel_rfl)) rfl ?_
          refine ⟨zeroV, ?_, ?_, Bytes.empty, Nat.le_refl _, fun _ => rfl, (fun _ _ h => by cases h), hW1.grown hgz (by have := hW1.size; omega) (fun g hg => by cases hg; omega)⟩
          · rw [HG.out]; rfl
          · rw [HG.out]; rfl
end Go.Proofs.Ytobbjhbjjhnicaa
