/- The walk of the reference's Open. -/
import Derived.Test.YtobbjhbjjhnicaaSealGet
import Derived.Test.YtobbjhbjjhnicaaRefGet
import Derived.Test.YtobbjhbjjhnicaaRefSum
import Derived.Test.YtobbjhbjjhnicaaRefStream
import Derived.Test.YtobbjhbjjhnicaaConv
import Derived.Laws.IdiomStrings
import Derived.Test.YtobbjhbjjhnicaaFork
namespace Go.Proofs.Ytobbjhbjjhnicaa
open Go.RowKit
set_option linter.unusedVariables false
theorem wp_conv_fresh {P : Program} {w : World} {o : Oper} {a : Act} {K : Act → World → Prop} {Q : Exit → Act → World → Prop} (src dst e : TypeId) (x : Operand) (hs : P.underlying src = some .string) (hd : P.underlying dst = some (.slice e)) (he : P.underlying e = some (.int .u8))
    (ho : o.op = .convert src dst x) (l : List UInt8) (m : Nat) (hm : l.length = m) (hx : a.eval x = .string ⟨l.toArray⟩)
    (h : ∀ c w', Bytes w' w'.heap.size (some ⟨w.heap.size, 0, none⟩) m l → m ≤ c → Below w.heap.size w w' → K (a.put o.dst (.slice (some ⟨w.heap.size, 0, none⟩) m c)) w') : o.wp P a w K Q := by
  have hrun := run_bytes_of_string w src dst e ⟨l.toArray⟩ hs hd he
  have hsz : (⟨l.toArray⟩ : ByteArray).size = m := by rw [← hm]; exact List.size_toArray
  rw [hsz] at hrun
  unfold Oper.wp execOp
  simp only [ho, hx, Sem.run_bind, hrun, Result.andThen_ok, Sem.run_pure]
  refine h _ _ ⟨hm, fun _ => ⟨w.heap.size, 0, rfl, ?_, fun i c hi => ?_⟩⟩ (grownCap_ge w m 0 e) ((Below.refl _ _).drew.alloc (Nat.le_refl _) _)
  · rw [World.size_alloc]
    show w.heap.size < w.heap.size + 1
    omega
  · have hj : i < (⟨l.toArray⟩ : ByteArray).data.size := by
      have := (List.getElem?_eq_some_iff.1 hi).1
      simpa using this
    rw [Nat.zero_add, cell_of_row _ w.heap.size i _ _ _ (heap_alloc_new w.drew _), bytesRow_at ⟨l.toArray⟩ _ i hj]
    have h2 : (⟨l.toArray⟩ : ByteArray).data[i] = c := by
      have h3 : l.toArray[i]? = some c := by simpa using hi
      rw [Array.getElem?_eq_getElem (by simpa using hj)] at h3
      injection h3
    rw [h2]
theorem Bytes.set_far {w : World} {B n g : Nat} {l : List UInt8} (h : Bytes w B (some ⟨g, 0, none⟩) n l) {p : Addr} (hne : g ≠ p.block) (u : Value) : Bytes (w.setCell p u) B (some ⟨g, 0, none⟩) n l := by
  refine ⟨h.1, fun hn => ?_⟩
  obtain ⟨b, off, e, hb, hc⟩ := h.2 hn
  refine ⟨b, off, e, hb, fun i c hi => ?_⟩
  cases e
  rw [World.cell?_setCell_other w p ⟨g, 0 + i, none⟩ u (fun e => hne (by first | exact congrArg Addr.block e | exact (congrArg Addr.block e).symm))]
  exact hc i c hi
theorem str_slice (l : List UInt8) (i j : Nat) (hij : i ≤ j) (hj : j ≤ l.length) (w : World) :
    (Instr.sliceAt 9 (.string ⟨l.toArray⟩) (some (.int .i64 (i : Int))) (some (.int .i64 (j : Int))) none).run Try.prog w = .ok (.string ⟨((l.drop i).take (j - i)).toArray⟩) w := by
  have hs : (⟨l.toArray⟩ : ByteArray).size = l.length := List.size_toArray
  rw [run_sliceAt_string w 9 _ _ _ _ Try.underlying9, run_slice_string w 9 _ .i64 .i64 (i : Int) (j : Int) Try.underlying9 (by omega) (by omega) (by rw [hs]; omega), Int.toNat_natCast, Int.toNat_natCast, ByteArray.extract_mk]
set_option maxRecDepth 100000 in
set_option maxHeartbeats 8000000 in
theorem refOpen_any (k : PL.K8) (n t : Nat) (place : Int) (l : List UInt8) (w : World) (hlen : l.length = n) (hn : n ≤ 90000) (ht : t ≤ n) :
    Calls Try.prog 31 #[.agg (keyCells k), .string ⟨l.toArray⟩, .int .i64 (t : Int), .int .i64 place] w (Got w (PS.get k l t place)) := by
  have t0 : ¬ (t : Int) < 0 := by omega
  have t1 : ¬ (n : Int) < (t : Int) := by omega
  have hsz : (⟨l.toArray⟩ : ByteArray).size = n := by rw [← hlen]; exact List.size_toArray
  have hget : PS.get k l t place = if l.length = t then (PS.zero, t, 5)
      else if (l.getD t 0).toNat < 1 ∨ 3 < (l.getD t 0).toNat then (PS.zero, t, 3)
      else if (PS.number l (t + 1) 1048576).2.2 ≠ 0 then (PS.zero, t, (PS.number l (t + 1) 1048576).2.2)
      else if (PS.number l (PS.number l (t + 1) 1048576).2.1 12100).2.2 ≠ 0 then (PS.zero, t, (PS.number l (PS.number l (t + 1) 1048576).2.1 12100).2.2)
      else PS.get.body k l t place (l.getD t 0).toNat (PS.number l (t + 1) 1048576).1 (PS.number l (PS.number l (t + 1) 1048576).2.1 12100).1 (PS.number l (PS.number l (t + 1) 1048576).2.1 12100).2.1 := by
    unfold PS.get
    rw [if_neg (by omega)]
  rw [hlen] at hget
  have hW1 : Below w.heap.size w ((w.alloc (Obj.cells (keyCells k) 33)).alloc (Obj.cells #[.int .i64 0, .int .i64 0, .bool false, .slice none 0 0] 50)) := ((Below.refl _ _).alloc (Nat.le_refl _) _).alloc (by simp) _
  have HK1 : Hid (Blk ((w.alloc (Obj.cells (keyCells k) 33)).alloc (Obj.cells #[.int .i64 0, .int .i64 0, .bool false, .slice none 0 0] 50)) w.heap.size 33 (keyCells k)) := (Blk.new w _ _).alloc _
  have HS1 : Hid (Blk ((w.alloc (Obj.cells (keyCells k) 33)).alloc (Obj.cells #[.int .i64 0, .int .i64 0, .bool false, .slice none 0 0] 50)) (w.heap.size + 1) 50 #[.int .i64 0, .int .i64 0, .bool false, .slice none 0 0]) := by
    have := Blk.new (w.alloc (Obj.cells (keyCells k) 33)) 50 #[.int .i64 0, .int .i64 0, .bool false, .slice none 0 0]
    rwa [World.size_alloc] at this
  have hz2 : ((w.alloc (Obj.cells (keyCells k) 33)).alloc (Obj.cells #[.int .i64 0, .int .i64 0, .bool false, .slice none 0 0] 50)).heap.size = w.heap.size + 2 := by simp only [World.size_alloc]
  have Hz2 := Lib.hid hz2
  clear hz2
  go_enter Try.func31, Try.ntmps31
  by_cases htn : t = n
  · subst htn
    rw [if_pos rfl] at hget
    have HG := Lib.hid hget
    clear hget
    go_wp2
    refine bodyPost_ret (seg_three rfl _ _ (w.heap.size + 1) 50 _ (0, 0) _ rfl HS1.out Try.underlying50 rfl (by kernel_rfl)) rfl ?_
    refine ⟨zeroV, ?_, ?_, Bytes.empty, Nat.le_refl _, fun _ => rfl, (fun _ _ h => by cases h), hW1⟩
    · rw [HG.out]; rfl
    · rw [HG.out]; rfl
  · have tn : ((t : Int) == (n : Int)) = false := by rw [beq_eq_false_iff_ne]; omega
    have hlt : t < n := by omega
    rw [if_neg (fun h => htn h.symm)] at hget
    obtain ⟨x, hx, hix⟩ := str_at ⟨l.toArray⟩ t (by omega)
    have hx : l[t]? = some x := hx
    have hgx : l.getD t 0 = x := by rw [List.getD_eq_getElem?_getD, hx]; rfl
    rw [hgx] at hget
    obtain ⟨q, hq⟩ : ∃ q, q = x.toNat := ⟨_, rfl⟩
    have hq256 : q < 256 := by rw [hq]; exact x.toNat_lt
    rw [← hq] at hget hix
    clear hx hgx hq
    have hW3 := hW1.alloc hW1.size (Obj.cells #[.int .i64 (q : Int), .int .i64 0, .bool false, .slice none 0 0] 50)
    have HK3 := Lib.hid (HK1.out.alloc (Obj.cells #[.int .i64 (q : Int), .int .i64 0, .bool false, .slice none 0 0] 50))
    have HS3 := Lib.hid (HS1.out.alloc (Obj.cells #[.int .i64 (q : Int), .int .i64 0, .bool false, .slice none 0 0] 50))
    have HT3 : Hid (Blk (((w.alloc (Obj.cells (keyCells k) 33)).alloc (Obj.cells #[.int .i64 0, .int .i64 0, .bool false, .slice none 0 0] 50)).alloc (Obj.cells #[.int .i64 (q : Int), .int .i64 0, .bool false, .slice none 0 0] 50)) (w.heap.size + 2) 50 #[.int .i64 (q : Int), .int .i64 0, .bool false, .slice none 0 0]) := by
      have := Blk.new ((w.alloc (Obj.cells (keyCells k) 33)).alloc (Obj.cells #[.int .i64 0, .int .i64 0, .bool false, .slice none 0 0] 50)) 50 #[.int .i64 (q : Int), .int .i64 0, .bool false, .slice none 0 0]
      rwa [Hz2.out] at this
    clear HK1 HS1 hW1
    by_cases hq1 : q < 1
    · have tq : (q : Int) < 1 := by omega
      rw [if_pos (.inl hq1)] at hget
      have HG := Lib.hid hget
      clear hget
      go_wp2
      refine bodyPost_ret (seg_three rfl _ _ (w.heap.size + 1) 50 _ (0, 0) _ rfl HS3.out Try.underlying50 rfl (by kernel_rfl)) rfl ?_
      refine ⟨zeroV, ?_, ?_, Bytes.empty, Nat.le_refl _, fun _ => rfl, (fun _ _ h => by cases h), hW3⟩
      · rw [HG.out]; rfl
      · rw [HG.out]; rfl
    · have tq : ¬ (q : Int) < 1 := by omega
      by_cases hq3 : 3 < q
      · have tq3 : (3 : Int) < (q : Int) := by omega
        rw [if_pos (.inr hq3)] at hget
        have HG := Lib.hid hget
        clear hget
        go_wp2
        refine bodyPost_ret (seg_three rfl _ _ (w.heap.size + 1) 50 _ (0, 0) _ rfl HS3.out Try.underlying50 rfl (by kernel_rfl)) rfl ?_
        refine ⟨zeroV, ?_, ?_, Bytes.empty, Nat.le_refl _, fun _ => rfl, (fun _ _ h => by cases h), hW3⟩
        · rw [HG.out]; rfl
        · rw [HG.out]; rfl
      · have tq3 : ¬ (3 : Int) < (q : Int) := by omega
        rw [if_neg (by omega)] at hget
        have KN := Lib.hid (fun w => refNum ⟨l.toArray⟩ n (t + 1) 1048576 ((t : Int) + 1) 1048576 w hsz (by omega) (by omega) (by omega) (by omega) rfl)
        have ok1 := PS.number_ok l (t + 1) 1048576
        have KN2 := Lib.hid (fun (w' : World) (i : Nat) (hi : i ≤ n) => refNum ⟨l.toArray⟩ n i 12100 (i : Int) 12100 w' hsz (by omega) hi (by omega) rfl rfl)
        have HKy := Lib.hid (PS.number_ok l)
        have hdl : (⟨l.toArray⟩ : ByteArray).data.toList = l := rfl
        rw [hdl] at KN KN2
        clear hdl
        generalize hN1 : PS.number l (t + 1) 1048576 = N1 at *
        obtain ⟨p1, i1, c1⟩ := N1
        simp only at hget ok1
        have HGet := Lib.hid hget
        have Ok1 := Lib.hid ok1
        clear hN1 hget ok1
        go_wp2_with fail
        (with_reducible refine (KN.out _).mono ?_)
        rintro e w1 ⟨rfl, rfl⟩
        clear KN hix
        have Hz3 : Hid (w.heap.size + 3 ≤ (((w.alloc (Obj.cells (keyCells k) 33)).alloc (Obj.cells #[.int .i64 0, .int .i64 0, .bool false, .slice none 0 0] 50)).alloc (Obj.cells #[.int .i64 (q : Int), .int .i64 0, .bool false, .slice none 0 0] 50)).heap.size) := by show _ ≤ _; rw [World.size_alloc, Hz2.out]; exact Nat.le_refl _
        generalize (((w.alloc (Obj.cells (keyCells k) 33)).alloc (Obj.cells #[.int .i64 0, .int .i64 0, .bool false, .slice none 0 0] 50)).alloc (Obj.cells #[.int .i64 (q : Int), .int .i64 0, .bool false, .slice none 0 0] 50)) = w1 at *
        clear Hz2
        have hz3 := Hz3.out
        have hget := HGet.out
        have ok1 := Ok1.out
        clear HGet Ok1 Hz3
        by_cases hc1 : c1 = 0
        · subst hc1
          rw [if_neg (by simp)] at hget
          obtain ⟨hp1, hi1, hi1n⟩ := ok1 rfl
          rw [hlen] at hi1n
          have KN3 := Lib.hid (KN2.out w1 i1 hi1n)
          have ok2 := HKy.out i1 12100
          clear KN2 ok1
          generalize hN2 : PS.number l i1 12100 = N2 at *
          obtain ⟨m, i2, c2⟩ := N2
          simp only at hget ok2
          have HGet := Lib.hid hget
          have Ok2 := Lib.hid ok2
          clear hN2 hget ok2
          go_wp2_with fail
          (with_reducible refine KN3.out.mono ?_)
          rintro e w2 ⟨rfl, rfl⟩
          clear KN3
          have hget := HGet.out
          have ok2 := Ok2.out
          clear HGet Ok2
          by_cases hc2 : c2 = 0
          · subst hc2
            rw [if_neg (by simp)] at hget
            obtain ⟨hm, hi2, hi2n⟩ := ok2 rfl
            rw [hlen] at hi2n
            clear ok2
            unfold PS.get.body at hget
            rw [hlen] at hget
            obtain ⟨en, hen⟩ : ∃ en, en = i2 + m := ⟨_, rfl⟩
            rw [← hen] at hget
            have jen : (i2 : Int) + (m : Int) = (en : Int) := by omega
            have henb : en ≤ 110000 := by omega
            have hte : t ≤ en := by omega
            have hie : i2 ≤ en := by omega
            have HEn := Lib.hid hen
            clear hen
            by_cases h8 : n < en + 8
            · rw [if_pos h8] at hget
              have HG := Lib.hid hget
              have t8 : (n : Int) < (en : Int) + 8 := by omega
              clear hget
              go_wp2_with (refine wpList_store_blk rfl 50 (.tmp 8) (.tmp 81) rfl (w.heap.size + 1) #[.int .i64 0, .int .i64 0, .bool false, .slice none 0 0] rfl rfl 50 _ HS3.out rfl (by kernel_rfl) (seg_one zeroV) ?_; intro wz hBz hgz hsz)
              refine bodyPost_ret (seg_three rfl _ _ (w.heap.size + 1) 50 _ (0, 0) _ rfl hBz Try.underlying50 rfl (by kernel_rfl)) rfl ?_
              refine ⟨zeroV, ?_, ?_, Bytes.empty, Nat.le_refl _, fun _ => rfl, (fun _ _ h => by cases h), hW3.grown hgz (by have := hW3.size; omega) (fun g hg => by cases hg; omega)⟩
              · rw [HG.out]; rfl
              · rw [HG.out]; rfl
            · rw [if_neg h8] at hget
              have HGet := Lib.hid hget
              clear hget
              have t8 : ¬ (n : Int) < (en : Int) + 8 := by omega
              have jw1 : IntKind.i64.wrap ((i2 : Int) + (m : Int)) = (en : Int) := by rw [IntWalk.i64_in _ ⟨by omega, by omega⟩]; exact jen
              obtain ⟨e8, he8⟩ : ∃ e8, e8 = en + 8 := ⟨_, rfl⟩
              have jw2 : IntKind.i64.wrap ((en : Int) + 8) = (e8 : Int) := by rw [IntWalk.i64_in _ ⟨by omega, by omega⟩]; omega
              have t8e : ¬ (n : Int) < (e8 : Int) := by omega
              have hs1 := str_slice l t en hte (by omega)
              have hs2 := str_slice l en e8 (by omega) (by omega)
              have hs3 := str_slice l i2 en hie (by omega)
              rw [show e8 - en = 8 by omega] at hs2
              rw [show en - i2 = m by have := HEn.out; omega] at hs3
              obtain ⟨Y1, hY1⟩ : ∃ Y1, Y1 = (l.drop t).take (en - t) := ⟨_, rfl⟩
              obtain ⟨V, hV⟩ : ∃ V, V = (l.drop en).take 8 := ⟨_, rfl⟩
              obtain ⟨X2, hX2⟩ : ∃ X2, X2 = (l.drop i2).take m := ⟨_, rfl⟩
              obtain ⟨T, hT⟩ : ∃ T, T = PS.tag k p1 Y1 := ⟨_, rfl⟩
              have hX2l : X2.length = m := by rw [hX2, List.length_take, List.length_drop, hlen]; omega
              have hY1l : Y1.length ≤ 100000 := by rw [hY1, List.length_take, List.length_drop, hlen]; omega
              have hget := HGet.out
              rw [← hY1, ← hV, ← hX2, ← hT] at hget
              rw [← hY1] at hs1
              rw [← hV] at hs2
              rw [← hX2] at hs3
              have HTag : Hid (∀ w, Calls Try.prog 43 #[.agg (keyCells k), .int .i64 (p1 : Int), .string ⟨Y1.toArray⟩] w fun e w' => e = .returned (.string ⟨T.toArray⟩) ∧ Below w.heap.size w w') := by
                intro w
                rw [hT]
                exact refTag_any k p1 ⟨Y1.toArray⟩ w (by rw [show (⟨Y1.toArray⟩ : ByteArray).size = Y1.length from List.size_toArray]; omega)
              have HGet := Lib.hid hget
              have HE8 := Lib.hid he8
              have HX2l := Lib.hid hX2l
              clear hget he8 hT hV hX2 hY1 hX2l hY1l
              go_wp2
              have HK4 := Lib.hid HK3.out.drew
              have HS4 := Lib.hid HS3.out.drew
              have HT4 := Lib.hid HT3.out.drew
              have hW4 := hW3.drew
              have hz4 : w.heap.size + 3 ≤ w1.drew.heap.size := hz3
              refine wp_region_seq (fun x => Below w1.drew.heap.size w1.drew x) [(false, 0), (false, 1), (false, 2), (false, 3), (false, 4), (false, 5), (false, 6), (false, 7), (false, 9), (false, 10), (false, 11), (false, 12), (false, 13), (false, 14), (false, 15), (false, 16), (false, 17), (true, 8), (true, 18)] (by kernel_rfl) (by kernel_rfl) (fun _ _ d _ _ h => by cases d <;> exact h) (Below.refl _ _) ?_
              clear HK3 HS3 HT3 hW3 hz3
              generalize w1.drew = w4 at *
              have v1 : IntKind.i64.wrap (t : Int) = (t : Int) := IntWalk.i64_in _ ⟨by omega, by omega⟩
              have v2 : IntKind.i64.wrap (en : Int) = (en : Int) := IntWalk.i64_in _ ⟨by omega, by omega⟩
              have v3 : IntKind.i64.wrap (e8 : Int) = (e8 : Int) := IntWalk.i64_in _ ⟨by omega, by omega⟩
              have v4 : IntKind.i64.wrap (i2 : Int) = (i2 : Int) := IntWalk.i64_in _ ⟨by omega, by omega⟩
              have u1 : (0 : Int) ≤ (t : Int) := by omega
              have u2 : (t : Int) ≤ (en : Int) := by omega
              have u3 : (en : Int) ≤ (n : Int) := by omega
              have u4 : (0 : Int) ≤ (en : Int) := by omega
              have u5 : (en : Int) ≤ (e8 : Int) := by have := HE8.out; omega
              have u6 : (e8 : Int) ≤ (n : Int) := by omega
              have u7 : (0 : Int) ≤ (i2 : Int) := by omega
              have u8 : (i2 : Int) ≤ (en : Int) := by omega
              have u9 : (0 : Int) ≤ (e8 : Int) := by omega
              iterate 17 (apply plan_take rfl rfl rfl rfl; (intro w' hS K hK; obtain ⟨k0, k1, k2, k3, k4, k5, k6, k7⟩ := key_loads (HK4.out.below hS HK4.out.lt); clear hS; go_simp; exact hK))
              refine plan_force rfl rfl (fun K hK => ?_)
              go_wp2_with fail
              (with_reducible refine (HTag.out w4).mono ?_)
              rintro e w5 ⟨rfl, hb5⟩
              have HK5 := Lib.hid (HK4.out.below hb5 HK4.out.lt)
              have HS5 := Lib.hid (HS4.out.below hb5 HS4.out.lt)
              have HT5 := Lib.hid (HT4.out.below hb5 HT4.out.lt)
              have hW5 := hW4.trans (hb5.mono hW4.size)
              have hz5 : w.heap.size + 3 ≤ w5.heap.size := by have := hb5.size; omega
              go_wp2_with fail
              refine hK.out _ _ hb5 ?_
              clear hK K HTag HK4 HS4 HT4 hW4 hz4
              by_cases hTV : T = V
              · have tTV : (T != V) = false := by simp [hTV]
                have tTV2 : (T == V) = true := by simp [hTV]
                have hget := HGet.out
                rw [if_neg (fun h => h hTV.symm)] at hget
                clear HGet hTV
                refine plan_force rfl rfl (fun K hK => ?_); go_wp2_with fail; refine hK.out _ _ hb5 ?_; clear hK K
                refine plan_nil ?_
                clear hb5
                by_cases hpl : (p1 : Int) = place
                · have tpl : ((p1 : Int) == place) = true := by rw [beq_iff_eq]; exact hpl
                  rw [if_neg (fun h => h hpl)] at hget
                  have HG := Lib.hid hget
                  have jq : ((q : Int) == 3) = decide (q = 3) := by rw [Bool.eq_iff_iff, beq_iff_eq, decide_eq_true_eq]; omega
                  clear hget hpl
                  go_wp2
                  rename_i K hK
                  obtain ⟨X, hX⟩ : ∃ X, X = PL.xorTo (PL.stream k (placeWord p1) m) X2 := ⟨_, rfl⟩
                  rw [← hX] at HG
                  have HXl : Hid (X.length = m) := by show _ = _; rw [hX, PL.xorTo_len (by rw [PL.stream_len]; exact HX2l.out.symm)]; exact HX2l.out
                  have HXor : Hid (∀ w, Calls Try.prog 20 #[.agg (keyCells k), .int .i64 (p1 : Int), .string ⟨X2.toArray⟩] w fun e w' => e = .returned (.string ⟨X.toArray⟩) ∧ Below w.heap.size w w') := by
                    intro w
                    have hs : (⟨X2.toArray⟩ : ByteArray).size = m := by rw [← HX2l.out]; exact List.size_toArray
                    have := refXor_any k p1 ⟨X2.toArray⟩ w (by omega)
                    rw [hs, show (⟨X2.toArray⟩ : ByteArray).data.toList = X2 from rfl, ← hX] at this
                    exact this
                  clear hX
                  have fin : ∀ (a' : Act) (w' : World) (g9 c9 : Nat), (∃ u : Nat → Value, a' = ⟨#[u 0, u 1, u 2, u 3, u 4, u 5, u 6, u 7, .pointer (some ⟨w.heap.size + 1, 0, none⟩), .int .i64 0, .int .i64 0, .pointer (some ⟨w.heap.size + 1 + 1, 0, none⟩), u 12, u 13, u 14, .int .i64 (m : Int), .int .i64 (i2 : Int), u 17, u 18, u 19, u 20, u 21, u 22, u 23, u 24, u 25, u 26, u 27, u 28, u 29, u 30, u 31, u 32, u 33, u 34, u 35, u 36, u 37, u 38, u 39, u 40, u 41, u 42, u 43, u 44, u 45, u 46, u 47, u 48, u 49, u 50, u 51, u 52, u 53, u 54, u 55, u 56, u 57, u 58, u 59, u 60, u 61, u 62, u 63, u 64, u 65, u 66, u 67, u 68, u 69, u 70, u 71, u 72, u 73, u 74, u 75, u 76, u 77, u 78, u 79, u 80, u 81, u 82, u 83, u 84, u 85, u 86, u 87, u 88, u 89, u 90, u 91, u 92, u 93, u 94, u 95, u 96, u 97, u 98, u 99, u 100, u 101, u 102, u 103, u 104, u 105, u 106, u 107, u 108, u 109, u 110, u 111, u 112, u 113, u 114, u 115, u 116, u 117, u 118, u 119, u 120, u 121, u 122, u 123, u 124, u 125, u 126, u 127, u 128, u 129, u 130], []⟩) → Blk w' (w.heap.size + 1 + 1) 50 #[.int .i64 (q : Int), .int .i64 (p1 : Int), .bool (decide (q = 3)), .slice (some ⟨g9, 0, none⟩) m c9] → Bytes w' w'.heap.size (some ⟨g9, 0, none⟩) m X → m ≤ c9 → w.heap.size + 2 < g9 → Blk w' (w.heap.size + 1) 50 #[.int .i64 0, .int .i64 0, .bool false, .slice none 0 0] → Below w.heap.size w w' → K a' w' := by
                    rintro a' w' g9 c9 ⟨u, rfl⟩ hT hBB hc9 hfr hS hW
                    refine hK _ _ ?_
                    clear hK
                    have HB := Lib.hid hBB
                    have HS := Lib.hid hS
                    have s0 : w'.cell? ⟨w.heap.size + 1 + 1, 0, none⟩ = some (.int .i64 (q : Int)) := hT.cell 0
                    have s1 : w'.cell? ⟨w.heap.size + 1 + 1, 1, none⟩ = some (.int .i64 (p1 : Int)) := hT.cell 1
                    have s2 : w'.cell? ⟨w.heap.size + 1 + 1, 2, none⟩ = some (.bool (decide (q = 3))) := hT.cell 2
                    have s3 : w'.cell? ⟨w.heap.size + 1 + 1, 3, none⟩ = some (.slice (some ⟨g9, 0, none⟩) m c9) := hT.cell 3
                    clear hT hBB hS HK5 HS5 HT5 hW5
                    go_wp2_with (refine wpList_store_blk rfl 50 (.tmp 8) (.tmp 126) rfl (w.heap.size + 1) (segCells ⟨⟨q, p1, decide (q = 3), X⟩, some ⟨g9, 0, none⟩, m, c9⟩) rfl rfl 50 _ HS.out rfl (by kernel_rfl) (seg_one _) ?_; intro wz hBz hgz hsz)
                    refine bodyPost_ret (seg_three rfl _ _ (w.heap.size + 1) 50 _ (0, 0) _ rfl hBz Try.underlying50 rfl (by kernel_rfl)) rfl ?_
                    refine ⟨⟨⟨q, p1, decide (q = 3), X⟩, some ⟨g9, 0, none⟩, m, c9⟩, ?_, ?_, ?_, hc9, (fun h => by cases h), (fun b o h => by cases h; omega), hW.grown hgz (by have := hW.size; omega) (fun g hg => by cases hg; omega)⟩
                    · rw [HG.out, ← HE8.out]; rfl
                    · rw [HG.out]
                    · exact (HB.out.grown_ne hgz (Nat.le_refl _) (by omega)).more (by omega)
                  have HF := Lib.hid fin
                  clear fin hK
                  have HT6 : Hid (Blk w5 (w.heap.size + 1 + 1) 50 #[.int .i64 (q : Int), .int .i64 0, .bool false, .slice none 0 0]) := HT5
                  clear HT5
                  refine wp_region_forks (fun x => Below (w.heap.size + 2) w5 x ∧ x.cell? ⟨w.heap.size + 1 + 1, 0, none⟩ = some (.int .i64 (q : Int))) (by kernel_rfl) ?_
                  have hV5 : Below (w.heap.size + 2) w5 w5.drew := (Below.refl _ _).drew
                  have hc5 : w5.drew.cell? ⟨w.heap.size + 1 + 1, 0, none⟩ = some (.int .i64 (q : Int)) := HT6.out.cell 0
                  have HTd := Lib.hid HT6.out.drew
                  have HSd := Lib.hid HS5.out.drew
                  have hWd := hW5.drew
                  have hzd : w.heap.size + 3 ≤ w5.drew.heap.size := hz5
                  clear HT6 HS5 hW5
                  generalize w5.drew = w5d at *
                  refine wpAnyG_prefix (S := fun x => Below (w.heap.size + 2) w5 x ∧ x.cell? ⟨w.heap.size + 1 + 1, 0, none⟩ = some (.int .i64 (q : Int))) (by kernel_rfl) (fun _ _ d _ _ h => by cases d <;> exact h) 6 [(false, 0), (false, 1), (false, 2), (false, 3), (false, 4), (false, 5), (false, 6), (false, 7), (false, 8), (false, 9), (false, 10), (false, 11), (false, 14), (true, 12)] _ _ _ (by rfl) (by kernel_rfl) ⟨hV5, hc5⟩ ?_
                  iterate 13 (apply planK_take rfl rfl rfl rfl; (intro w' hS K hK; have hS1 := hS.1; have hS2 := hS.2; obtain ⟨k0, k1, k2, k3, k4, k5, k6, k7⟩ := key_loads (HK5.out.below hS1 (by omega)); clear hS1; clear hS; go_simp; exact hK))
                  refine planK_force rfl rfl (fun K2 hK2 => ?_)
                  go_wp2_with fail
                  (with_reducible refine (HXor.out w5d).mono ?_)
                  rintro e w6 ⟨rfl, hb6⟩
                  have HT6 := Lib.hid (HTd.out.below hb6 HTd.out.lt)
                  have HS6 := Lib.hid (HSd.out.below hb6 HSd.out.lt)
                  have hW6 := hWd.trans (hb6.mono hWd.size)
                  have hV6 := hV5.trans (hb6.mono (by omega))
                  have hz6 : w.heap.size + 3 ≤ w6.heap.size := by have := hb6.size; omega
                  go_wp2_with fail
                  refine hK2.out _ _ ⟨hV6, HT6.out.cell 0⟩ ?_
                  clear hK2 K2 HTd HSd hWd hV5 hb6 hc5 HXor
                  refine planK_nil (fun _ => ?_)
                  refine wpAnyG_fork (i := 13) (j := 15) (fuel := 5) (by kernel_rfl) rfl rfl rfl rfl (fun K1 h1 => ?_) (fun K1 h1 => ?_)
                  · refine wp_conv_fresh 9 30 5 (.tmp 121) Try.underlying9 Try.underlying30 Try.underlying5 rfl X m HXl.out rfl ?_
                    intro c9 w7 hBB hc9 hbb
                    have hsa : w.heap.size + 3 ≤ w6.heap.size := by omega
                    have HT7 := Lib.hid (HT6.out.below hbb HT6.out.lt)
                    have HS7 := Lib.hid (HS6.out.below hbb HS6.out.lt)
                    have hW7 := hW6.trans (hbb.mono hW6.size)
                    have hV7 := hV6.trans (hbb.mono (by omega))
                    obtain ⟨g9, hg9⟩ : ∃ g9, g9 = w6.heap.size := ⟨_, rfl⟩
                    obtain ⟨B9, hB9⟩ : ∃ B9, B9 = w7.heap.size := ⟨_, rfl⟩
                    rw [← hg9] at hBB ⊢
                    rw [← hB9] at hBB
                    have HB7 := Lib.hid hBB
                    have hB7 : B9 ≤ w7.heap.size := by omega
                    have hfr : w.heap.size + 2 < g9 := by omega
                    have hsb : w.heap.size + 3 ≤ w7.heap.size := by have := hbb.size; omega
                    refine h1.out _ _ ⟨hV7, HT7.out.cell 0⟩ (fun _ => ?_)
                    clear h1 K1 hBB hbb HT6 HS6 hW6 hV6 hg9 hB9
                    refine wpAnyG_plan (S := fun x => Below (w.heap.size + 2) w5 x ∧ x.cell? ⟨w.heap.size + 1 + 1, 0, none⟩ = some (.int .i64 (q : Int))) (by kernel_rfl) (fun _ _ d _ _ h => by cases d <;> exact h) [(true, 15), (true, 16), (true, 17), (true, 18), (true, 19)] _ _ _ (by rfl) (by kernel_rfl) ⟨hV7, HT7.out.cell 0⟩ ?_
                    refine plan_force rfl rfl (fun K' hK' => ?_)
                    have e1 : w7.cell? ⟨w.heap.size + 1 + 1, 1, none⟩ = some (.int .i64 0) := HT7.out.cell 1
                    have f1 : w7.frozen? ⟨w.heap.size + 1 + 1, 1, none⟩ = false := HT7.out.frozen 1
                    have HT7' : Hid (Blk (w7.setCell ⟨w.heap.size + 1 + 1, 1, none⟩ (.int .i64 (p1 : Int))) (w.heap.size + 1 + 1) 50 #[.int .i64 (q : Int), .int .i64 (p1 : Int), .bool false, .slice none 0 0]) := HT7.out.set_ 1 (.int .i64 (p1 : Int))
                    have HS7' : Hid (Blk (w7.setCell ⟨w.heap.size + 1 + 1, 1, none⟩ (.int .i64 (p1 : Int))) (w.heap.size + 1) 50 #[.int .i64 0, .int .i64 0, .bool false, .slice none 0 0]) := HS7.out.far (by show w.heap.size + 1 ≠ w.heap.size + 1 + 1; omega) _
                    have hW7' : Below w.heap.size w (w7.setCell ⟨w.heap.size + 1 + 1, 1, none⟩ (.int .i64 (p1 : Int))) := hW7.setCell (p := ⟨w.heap.size + 1 + 1, 1, none⟩) (by show w.heap.size ≤ w.heap.size + 1 + 1; omega) _
                    have hV7' : Below (w.heap.size + 2) w5 (w7.setCell ⟨w.heap.size + 1 + 1, 1, none⟩ (.int .i64 (p1 : Int))) := hV7.setCell (p := ⟨w.heap.size + 1 + 1, 1, none⟩) (by show w.heap.size + 2 ≤ w.heap.size + 1 + 1; omega) _
                    have hq7' : (w7.setCell ⟨w.heap.size + 1 + 1, 1, none⟩ (.int .i64 (p1 : Int))).heap.size = w7.heap.size := by simp [World.setCell]
                    have HB7' : Hid (Bytes (w7.setCell ⟨w.heap.size + 1 + 1, 1, none⟩ (.int .i64 (p1 : Int))) B9 (some ⟨g9, 0, none⟩) m X) := HB7.out.set_far (by show g9 ≠ w.heap.size + 1 + 1; omega) _
                    have hB7' : B9 ≤ (w7.setCell ⟨w.heap.size + 1 + 1, 1, none⟩ (.int .i64 (p1 : Int))).heap.size := by omega
                    go_wp2_with fail
                    refine hK'.out _ _ ⟨hV7', HT7'.out.cell 0⟩ ?_
                    clear hK' K' e1 f1 HT7 HS7 hW7 hV7 HB7 hB7
                    generalize (w7.setCell ⟨w.heap.size + 1 + 1, 1, none⟩ (.int .i64 (p1 : Int))) = w8 at *
                    have HT8 := HT7'
                    have HS8 := HS7'
                    have hW8 := hW7'
                    have hV8 := hV7'
                    have HB8 := HB7'
                    have hB8 := hB7'
                    clear HT7' HS7' hW7' hV7' HB7' hB7'
                    refine plan_force rfl rfl (fun K' hK' => ?_)
                    go_wp2_with fail
                    refine hK'.out _ _ ⟨hV8, HT8.out.cell 0⟩ ?_
                    clear hK' K'
                    refine plan_force rfl rfl (fun K' hK' => ?_)
                    have e1 : w8.cell? ⟨w.heap.size + 1 + 1, 2, none⟩ = some (.bool false) := HT8.out.cell 2
                    have f1 : w8.frozen? ⟨w.heap.size + 1 + 1, 2, none⟩ = false := HT8.out.frozen 2
                    have HT8' : Hid (Blk (w8.setCell ⟨w.heap.size + 1 + 1, 2, none⟩ (.bool (decide (q = 3)))) (w.heap.size + 1 + 1) 50 #[.int .i64 (q : Int), .int .i64 (p1 : Int), .bool (decide (q = 3)), .slice none 0 0]) := HT8.out.set_ 2 (.bool (decide (q = 3)))
                    have HS8' : Hid (Blk (w8.setCell ⟨w.heap.size + 1 + 1, 2, none⟩ (.bool (decide (q = 3)))) (w.heap.size + 1) 50 #[.int .i64 0, .int .i64 0, .bool false, .slice none 0 0]) := HS8.out.far (by show w.heap.size + 1 ≠ w.heap.size + 1 + 1; omega) _
                    have hW8' : Below w.heap.size w (w8.setCell ⟨w.heap.size + 1 + 1, 2, none⟩ (.bool (decide (q = 3)))) := hW8.setCell (p := ⟨w.heap.size + 1 + 1, 2, none⟩) (by show w.heap.size ≤ w.heap.size + 1 + 1; omega) _
                    have hV8' : Below (w.heap.size + 2) w5 (w8.setCell ⟨w.heap.size + 1 + 1, 2, none⟩ (.bool (decide (q = 3)))) := hV8.setCell (p := ⟨w.heap.size + 1 + 1, 2, none⟩) (by show w.heap.size + 2 ≤ w.heap.size + 1 + 1; omega) _
                    have hq8' : (w8.setCell ⟨w.heap.size + 1 + 1, 2, none⟩ (.bool (decide (q = 3)))).heap.size = w8.heap.size := by simp [World.setCell]
                    have HB8' : Hid (Bytes (w8.setCell ⟨w.heap.size + 1 + 1, 2, none⟩ (.bool (decide (q = 3)))) B9 (some ⟨g9, 0, none⟩) m X) := HB8.out.set_far (by show g9 ≠ w.heap.size + 1 + 1; omega) _
                    have hB8' : B9 ≤ (w8.setCell ⟨w.heap.size + 1 + 1, 2, none⟩ (.bool (decide (q = 3)))).heap.size := by omega
                    go_wp2_with fail
                    refine hK'.out _ _ ⟨hV8', HT8'.out.cell 0⟩ ?_
                    clear hK' K' e1 f1 HT8 HS8 hW8 hV8 HB8 hB8
                    generalize (w8.setCell ⟨w.heap.size + 1 + 1, 2, none⟩ (.bool (decide (q = 3)))) = w9 at *
                    have HT9 := HT8'
                    have HS9 := HS8'
                    have hW9 := hW8'
                    have hV9 := hV8'
                    have HB9 := HB8'
                    have hB9 := hB8'
                    clear HT8' HS8' hW8' hV8' HB8' hB8'
                    refine plan_force rfl rfl (fun K' hK' => ?_)
                    go_wp2_with fail
                    refine hK'.out _ _ ⟨hV9, HT9.out.cell 0⟩ ?_
                    clear hK' K'
                    refine plan_force rfl rfl (fun K' hK' => ?_)
                    have e1 : w9.cell? ⟨w.heap.size + 1 + 1, 3, none⟩ = some (.slice none 0 0) := HT9.out.cell 3
                    have f1 : w9.frozen? ⟨w.heap.size + 1 + 1, 3, none⟩ = false := HT9.out.frozen 3
                    have HT9' : Hid (Blk (w9.setCell ⟨w.heap.size + 1 + 1, 3, none⟩ (.slice (some ⟨g9, 0, none⟩) m c9)) (w.heap.size + 1 + 1) 50 #[.int .i64 (q : Int), .int .i64 (p1 : Int), .bool (decide (q = 3)), .slice (some ⟨g9, 0, none⟩) m c9]) := HT9.out.set_ 3 (.slice (some ⟨g9, 0, none⟩) m c9)
                    have HS9' : Hid (Blk (w9.setCell ⟨w.heap.size + 1 + 1, 3, none⟩ (.slice (some ⟨g9, 0, none⟩) m c9)) (w.heap.size + 1) 50 #[.int .i64 0, .int .i64 0, .bool false, .slice none 0 0]) := HS9.out.far (by show w.heap.size + 1 ≠ w.heap.size + 1 + 1; omega) _
                    have hW9' : Below w.heap.size w (w9.setCell ⟨w.heap.size + 1 + 1, 3, none⟩ (.slice (some ⟨g9, 0, none⟩) m c9)) := hW9.setCell (p := ⟨w.heap.size + 1 + 1, 3, none⟩) (by show w.heap.size ≤ w.heap.size + 1 + 1; omega) _
                    have hV9' : Below (w.heap.size + 2) w5 (w9.setCell ⟨w.heap.size + 1 + 1, 3, none⟩ (.slice (some ⟨g9, 0, none⟩) m c9)) := hV9.setCell (p := ⟨w.heap.size + 1 + 1, 3, none⟩) (by show w.heap.size + 2 ≤ w.heap.size + 1 + 1; omega) _
                    have hq9' : (w9.setCell ⟨w.heap.size + 1 + 1, 3, none⟩ (.slice (some ⟨g9, 0, none⟩) m c9)).heap.size = w9.heap.size := by simp [World.setCell]
                    have HB9' : Hid (Bytes (w9.setCell ⟨w.heap.size + 1 + 1, 3, none⟩ (.slice (some ⟨g9, 0, none⟩) m c9)) B9 (some ⟨g9, 0, none⟩) m X) := HB9.out.set_far (by show g9 ≠ w.heap.size + 1 + 1; omega) _
                    have hB9' : B9 ≤ (w9.setCell ⟨w.heap.size + 1 + 1, 3, none⟩ (.slice (some ⟨g9, 0, none⟩) m c9)).heap.size := by omega
                    go_wp2_with fail
                    refine hK'.out _ _ ⟨hV9', HT9'.out.cell 0⟩ ?_
                    clear hK' K' e1 f1 HT9 HS9 hW9 hV9 HB9 hB9
                    generalize (w9.setCell ⟨w.heap.size + 1 + 1, 3, none⟩ (.slice (some ⟨g9, 0, none⟩) m c9)) = wa at *
                    have HT10 := HT9'
                    have HS10 := HS9'
                    have hW10 := hW9'
                    have hV10 := hV9'
                    have HB10 := HB9'
                    have hB10 := hB9'
                    clear HT9' HS9' hW9' hV9' HB9' hB9'
                    refine plan_nil ?_
                    exact HF.out _ _ g9 c9 ⟨slot [_, _, _, _, _, _, _, _, undef, undef, undef, undef, _, _, _, undef, undef, _, _, _, _, _, _, _, _, _, _, _, _, _, _, _, _, _, _, _, _, _, _, _, _, _, _, _, _, _, _, _, _, _, _, _, _, _, _, _, _, _, _, _, _, _, _, _, _, _, _, _, _, _, _, _, _, _, _, _, _, _, _, _, _, _, _, _, _, _, _, _, _, _, _, _, _, _, _, _, _, _, _, _, _, _, _, _, _, _, _, _, _, _, _, _, _, _, _, _, _, _, _, _, _, _, _, _, _, _, _, _, _, _, _], rfl⟩ HT10.out (HB10.out.more hB10) hc9 hfr HS10.out hW10
                  · have e1 : w6.cell? ⟨w.heap.size + 1 + 1, 1, none⟩ = some (.int .i64 0) := HT6.out.cell 1
                    have f1 : w6.frozen? ⟨w.heap.size + 1 + 1, 1, none⟩ = false := HT6.out.frozen 1
                    have HT6' : Hid (Blk (w6.setCell ⟨w.heap.size + 1 + 1, 1, none⟩ (.int .i64 (p1 : Int))) (w.heap.size + 1 + 1) 50 #[.int .i64 (q : Int), .int .i64 (p1 : Int), .bool false, .slice none 0 0]) := HT6.out.set_ 1 (.int .i64 (p1 : Int))
                    have HS6' : Hid (Blk (w6.setCell ⟨w.heap.size + 1 + 1, 1, none⟩ (.int .i64 (p1 : Int))) (w.heap.size + 1) 50 #[.int .i64 0, .int .i64 0, .bool false, .slice none 0 0]) := HS6.out.far (by show w.heap.size + 1 ≠ w.heap.size + 1 + 1; omega) _
                    have hW6' : Below w.heap.size w (w6.setCell ⟨w.heap.size + 1 + 1, 1, none⟩ (.int .i64 (p1 : Int))) := hW6.setCell (p := ⟨w.heap.size + 1 + 1, 1, none⟩) (by show w.heap.size ≤ w.heap.size + 1 + 1; omega) _
                    have hV6' : Below (w.heap.size + 2) w5 (w6.setCell ⟨w.heap.size + 1 + 1, 1, none⟩ (.int .i64 (p1 : Int))) := hV6.setCell (p := ⟨w.heap.size + 1 + 1, 1, none⟩) (by show w.heap.size + 2 ≤ w.heap.size + 1 + 1; omega) _
                    have hq6' : (w6.setCell ⟨w.heap.size + 1 + 1, 1, none⟩ (.int .i64 (p1 : Int))).heap.size = w6.heap.size := by simp [World.setCell]
                    go_wp2_with fail
                    refine h1.out _ _ ⟨hV6', HT6'.out.cell 0⟩ (fun _ => ?_)
                    clear h1 K1 e1 f1 HT6 HS6 hW6 hV6
                    generalize (w6.setCell ⟨w.heap.size + 1 + 1, 1, none⟩ (.int .i64 (p1 : Int))) = w7 at *
                    have HT7 := HT6'
                    have HS7 := HS6'
                    have hW7 := hW6'
                    have hV7 := hV6'
                    clear HT6' HS6' hW6' hV6'
                    refine wpAnyG_prefix (S := fun x => Below (w.heap.size + 2) w5 x ∧ x.cell? ⟨w.heap.size + 1 + 1, 0, none⟩ = some (.int .i64 (q : Int))) (by kernel_rfl) (fun _ _ d _ _ h => by cases d <;> exact h) 4 [(false, 16)] _ _ _ (by rfl) (by kernel_rfl) ⟨hV7, HT7.out.cell 0⟩ ?_
                    iterate 1 (apply planK_take rfl rfl rfl rfl; (intro w' hS K hK; clear hS; go_simp; exact hK))
                    refine planK_nil (fun _ => ?_)
                    refine wpAnyG_fork (i := 13) (j := 17) (fuel := 3) (by kernel_rfl) rfl rfl rfl rfl (fun K1 h1 => ?_) (fun K1 h1 => ?_)
                    · refine wp_conv_fresh 9 30 5 (.tmp 121) Try.underlying9 Try.underlying30 Try.underlying5 rfl X m HXl.out rfl ?_
                      intro c9 w8 hBB hc9 hbb
                      have hsa : w.heap.size + 3 ≤ w7.heap.size := by omega
                      have HT8 := Lib.hid (HT7.out.below hbb HT7.out.lt)
                      have HS8 := Lib.hid (HS7.out.below hbb HS7.out.lt)
                      have hW8 := hW7.trans (hbb.mono hW7.size)
                      have hV8 := hV7.trans (hbb.mono (by omega))
                      obtain ⟨g9, hg9⟩ : ∃ g9, g9 = w7.heap.size := ⟨_, rfl⟩
                      obtain ⟨B9, hB9⟩ : ∃ B9, B9 = w8.heap.size := ⟨_, rfl⟩
                      rw [← hg9] at hBB ⊢
                      rw [← hB9] at hBB
                      have HB8 := Lib.hid hBB
                      have hB8 : B9 ≤ w8.heap.size := by omega
                      have hfr : w.heap.size + 2 < g9 := by omega
                      have hsb : w.heap.size + 3 ≤ w8.heap.size := by have := hbb.size; omega
                      refine h1.out _ _ ⟨hV8, HT8.out.cell 0⟩ (fun _ => ?_)
                      clear h1 K1 hBB hbb HT7 HS7 hW7 hV7 hg9 hB9
                      refine wpAnyG_plan (S := fun x => Below (w.heap.size + 2) w5 x ∧ x.cell? ⟨w.heap.size + 1 + 1, 0, none⟩ = some (.int .i64 (q : Int))) (by kernel_rfl) (fun _ _ d _ _ h => by cases d <;> exact h) [(true, 17), (true, 18), (true, 19)] _ _ _ (by rfl) (by kernel_rfl) ⟨hV8, HT8.out.cell 0⟩ ?_
                      refine plan_force rfl rfl (fun K' hK' => ?_)
                      have e1 : w8.cell? ⟨w.heap.size + 1 + 1, 2, none⟩ = some (.bool false) := HT8.out.cell 2
                      have f1 : w8.frozen? ⟨w.heap.size + 1 + 1, 2, none⟩ = false := HT8.out.frozen 2
                      have HT8' : Hid (Blk (w8.setCell ⟨w.heap.size + 1 + 1, 2, none⟩ (.bool (decide (q = 3)))) (w.heap.size + 1 + 1) 50 #[.int .i64 (q : Int), .int .i64 (p1 : Int), .bool (decide (q = 3)), .slice none 0 0]) := HT8.out.set_ 2 (.bool (decide (q = 3)))
                      have HS8' : Hid (Blk (w8.setCell ⟨w.heap.size + 1 + 1, 2, none⟩ (.bool (decide (q = 3)))) (w.heap.size + 1) 50 #[.int .i64 0, .int .i64 0, .bool false, .slice none 0 0]) := HS8.out.far (by show w.heap.size + 1 ≠ w.heap.size + 1 + 1; omega) _
                      have hW8' : Below w.heap.size w (w8.setCell ⟨w.heap.size + 1 + 1, 2, none⟩ (.bool (decide (q = 3)))) := hW8.setCell (p := ⟨w.heap.size + 1 + 1, 2, none⟩) (by show w.heap.size ≤ w.heap.size + 1 + 1; omega) _
                      have hV8' : Below (w.heap.size + 2) w5 (w8.setCell ⟨w.heap.size + 1 + 1, 2, none⟩ (.bool (decide (q = 3)))) := hV8.setCell (p := ⟨w.heap.size + 1 + 1, 2, none⟩) (by show w.heap.size + 2 ≤ w.heap.size + 1 + 1; omega) _
                      have hq8' : (w8.setCell ⟨w.heap.size + 1 + 1, 2, none⟩ (.bool (decide (q = 3)))).heap.size = w8.heap.size := by simp [World.setCell]
                      have HB8' : Hid (Bytes (w8.setCell ⟨w.heap.size + 1 + 1, 2, none⟩ (.bool (decide (q = 3)))) B9 (some ⟨g9, 0, none⟩) m X) := HB8.out.set_far (by show g9 ≠ w.heap.size + 1 + 1; omega) _
                      have hB8' : B9 ≤ (w8.setCell ⟨w.heap.size + 1 + 1, 2, none⟩ (.bool (decide (q = 3)))).heap.size := by omega
                      go_wp2_with fail
                      refine hK'.out _ _ ⟨hV8', HT8'.out.cell 0⟩ ?_
                      clear hK' K' e1 f1 HT8 HS8 hW8 hV8 HB8 hB8
                      generalize (w8.setCell ⟨w.heap.size + 1 + 1, 2, none⟩ (.bool (decide (q = 3)))) = w9 at *
                      have HT9 := HT8'
                      have HS9 := HS8'
                      have hW9 := hW8'
                      have hV9 := hV8'
                      have HB9 := HB8'
                      have hB9 := hB8'
                      clear HT8' HS8' hW8' hV8' HB8' hB8'
                      refine plan_force rfl rfl (fun K' hK' => ?_)
                      go_wp2_with fail
                      refine hK'.out _ _ ⟨hV9, HT9.out.cell 0⟩ ?_
                      clear hK' K'
                      refine plan_force rfl rfl (fun K' hK' => ?_)
                      have e1 : w9.cell? ⟨w.heap.size + 1 + 1, 3, none⟩ = some (.slice none 0 0) := HT9.out.cell 3
                      have f1 : w9.frozen? ⟨w.heap.size + 1 + 1, 3, none⟩ = false := HT9.out.frozen 3
                      have HT9' : Hid (Blk (w9.setCell ⟨w.heap.size + 1 + 1, 3, none⟩ (.slice (some ⟨g9, 0, none⟩) m c9)) (w.heap.size + 1 + 1) 50 #[.int .i64 (q : Int), .int .i64 (p1 : Int), .bool (decide (q = 3)), .slice (some ⟨g9, 0, none⟩) m c9]) := HT9.out.set_ 3 (.slice (some ⟨g9, 0, none⟩) m c9)
                      have HS9' : Hid (Blk (w9.setCell ⟨w.heap.size + 1 + 1, 3, none⟩ (.slice (some ⟨g9, 0, none⟩) m c9)) (w.heap.size + 1) 50 #[.int .i64 0, .int .i64 0, .bool false, .slice none 0 0]) := HS9.out.far (by show w.heap.size + 1 ≠ w.heap.size + 1 + 1; omega) _
                      have hW9' : Below w.heap.size w (w9.setCell ⟨w.heap.size + 1 + 1, 3, none⟩ (.slice (some ⟨g9, 0, none⟩) m c9)) := hW9.setCell (p := ⟨w.heap.size + 1 + 1, 3, none⟩) (by show w.heap.size ≤ w.heap.size + 1 + 1; omega) _
                      have hV9' : Below (w.heap.size + 2) w5 (w9.setCell ⟨w.heap.size + 1 + 1, 3, none⟩ (.slice (some ⟨g9, 0, none⟩) m c9)) := hV9.setCell (p := ⟨w.heap.size + 1 + 1, 3, none⟩) (by show w.heap.size + 2 ≤ w.heap.size + 1 + 1; omega) _
                      have hq9' : (w9.setCell ⟨w.heap.size + 1 + 1, 3, none⟩ (.slice (some ⟨g9, 0, none⟩) m c9)).heap.size = w9.heap.size := by simp [World.setCell]
                      have HB9' : Hid (Bytes (w9.setCell ⟨w.heap.size + 1 + 1, 3, none⟩ (.slice (some ⟨g9, 0, none⟩) m c9)) B9 (some ⟨g9, 0, none⟩) m X) := HB9.out.set_far (by show g9 ≠ w.heap.size + 1 + 1; omega) _
                      have hB9' : B9 ≤ (w9.setCell ⟨w.heap.size + 1 + 1, 3, none⟩ (.slice (some ⟨g9, 0, none⟩) m c9)).heap.size := by omega
                      go_wp2_with fail
                      refine hK'.out _ _ ⟨hV9', HT9'.out.cell 0⟩ ?_
                      clear hK' K' e1 f1 HT9 HS9 hW9 hV9 HB9 hB9
                      generalize (w9.setCell ⟨w.heap.size + 1 + 1, 3, none⟩ (.slice (some ⟨g9, 0, none⟩) m c9)) = wa at *
                      have HT10 := HT9'
                      have HS10 := HS9'
                      have hW10 := hW9'
                      have hV10 := hV9'
                      have HB10 := HB9'
                      have hB10 := hB9'
                      clear HT9' HS9' hW9' hV9' HB9' hB9'
                      refine plan_nil ?_
                      exact HF.out _ _ g9 c9 ⟨slot [_, _, _, _, _, _, _, _, undef, undef, undef, undef, _, _, _, undef, undef, _, _, _, _, _, _, _, _, _, _, _, _, _, _, _, _, _, _, _, _, _, _, _, _, _, _, _, _, _, _, _, _, _, _, _, _, _, _, _, _, _, _, _, _, _, _, _, _, _, _, _, _, _, _, _, _, _, _, _, _, _, _, _, _, _, _, _, _, _, _, _, _, _, _, _, _, _, _, _, _, _, _, _, _, _, _, _, _, _, _, _, _, _, _, _, _, _, _, _, _, _, _, _, _, _, _, _, _, _, _, _, _, _, _], rfl⟩ HT10.out (HB10.out.more hB10) hc9 hfr HS10.out hW10
                    · have e1 : w7.cell? ⟨w.heap.size + 1 + 1, 2, none⟩ = some (.bool false) := HT7.out.cell 2
                      have f1 : w7.frozen? ⟨w.heap.size + 1 + 1, 2, none⟩ = false := HT7.out.frozen 2
                      have HT7' : Hid (Blk (w7.setCell ⟨w.heap.size + 1 + 1, 2, none⟩ (.bool (decide (q = 3)))) (w.heap.size + 1 + 1) 50 #[.int .i64 (q : Int), .int .i64 (p1 : Int), .bool (decide (q = 3)), .slice none 0 0]) := HT7.out.set_ 2 (.bool (decide (q = 3)))
                      have HS7' : Hid (Blk (w7.setCell ⟨w.heap.size + 1 + 1, 2, none⟩ (.bool (decide (q = 3)))) (w.heap.size + 1) 50 #[.int .i64 0, .int .i64 0, .bool false, .slice none 0 0]) := HS7.out.far (by show w.heap.size + 1 ≠ w.heap.size + 1 + 1; omega) _
                      have hW7' : Below w.heap.size w (w7.setCell ⟨w.heap.size + 1 + 1, 2, none⟩ (.bool (decide (q = 3)))) := hW7.setCell (p := ⟨w.heap.size + 1 + 1, 2, none⟩) (by show w.heap.size ≤ w.heap.size + 1 + 1; omega) _
                      have hV7' : Below (w.heap.size + 2) w5 (w7.setCell ⟨w.heap.size + 1 + 1, 2, none⟩ (.bool (decide (q = 3)))) := hV7.setCell (p := ⟨w.heap.size + 1 + 1, 2, none⟩) (by show w.heap.size + 2 ≤ w.heap.size + 1 + 1; omega) _
                      have hq7' : (w7.setCell ⟨w.heap.size + 1 + 1, 2, none⟩ (.bool (decide (q = 3)))).heap.size = w7.heap.size := by simp [World.setCell]
                      go_wp2_with fail
                      refine h1.out _ _ ⟨hV7', HT7'.out.cell 0⟩ (fun _ => ?_)
                      clear h1 K1 e1 f1 HT7 HS7 hW7 hV7
                      generalize (w7.setCell ⟨w.heap.size + 1 + 1, 2, none⟩ (.bool (decide (q = 3)))) = w8 at *
                      have HT8 := HT7'
                      have HS8 := HS7'
                      have hW8 := hW7'
                      have hV8 := hV7'
                      clear HT7' HS7' hW7' hV7'
                      refine wpAnyG_plan (S := fun x => Below (w.heap.size + 2) w5 x ∧ x.cell? ⟨w.heap.size + 1 + 1, 0, none⟩ = some (.int .i64 (q : Int))) (by kernel_rfl) (fun _ _ d _ _ h => by cases d <;> exact h) [(true, 13), (true, 18), (true, 19)] _ _ _ (by rfl) (by kernel_rfl) ⟨hV8, HT8.out.cell 0⟩ ?_
                      refine plan_force rfl rfl (fun K' hK' => ?_)
                      refine wp_conv_fresh 9 30 5 (.tmp 121) Try.underlying9 Try.underlying30 Try.underlying5 rfl X m HXl.out rfl ?_
                      intro c9 w9 hBB hc9 hbb
                      have hsa : w.heap.size + 3 ≤ w8.heap.size := by omega
                      have HT9 := Lib.hid (HT8.out.below hbb HT8.out.lt)
                      have HS9 := Lib.hid (HS8.out.below hbb HS8.out.lt)
                      have hW9 := hW8.trans (hbb.mono hW8.size)
                      have hV9 := hV8.trans (hbb.mono (by omega))
                      obtain ⟨g9, hg9⟩ : ∃ g9, g9 = w8.heap.size := ⟨_, rfl⟩
                      obtain ⟨B9, hB9⟩ : ∃ B9, B9 = w9.heap.size := ⟨_, rfl⟩
                      rw [← hg9] at hBB ⊢
                      rw [← hB9] at hBB
                      have HB9 := Lib.hid hBB
                      have hB9 : B9 ≤ w9.heap.size := by omega
                      have hfr : w.heap.size + 2 < g9 := by omega
                      have hsb : w.heap.size + 3 ≤ w9.heap.size := by have := hbb.size; omega
                      refine hK'.out _ _ ⟨hV9, HT9.out.cell 0⟩ ?_
                      clear hK' K' hBB hbb HT8 HS8 hW8 hV8 hg9 hB9
                      refine plan_force rfl rfl (fun K' hK' => ?_)
                      go_wp2_with fail
                      refine hK'.out _ _ ⟨hV9, HT9.out.cell 0⟩ ?_
                      clear hK' K'
                      refine plan_force rfl rfl (fun K' hK' => ?_)
                      have e1 : w9.cell? ⟨w.heap.size + 1 + 1, 3, none⟩ = some (.slice none 0 0) := HT9.out.cell 3
                      have f1 : w9.frozen? ⟨w.heap.size + 1 + 1, 3, none⟩ = false := HT9.out.frozen 3
                      have HT9' : Hid (Blk (w9.setCell ⟨w.heap.size + 1 + 1, 3, none⟩ (.slice (some ⟨g9, 0, none⟩) m c9)) (w.heap.size + 1 + 1) 50 #[.int .i64 (q : Int), .int .i64 (p1 : Int), .bool (decide (q = 3)), .slice (some ⟨g9, 0, none⟩) m c9]) := HT9.out.set_ 3 (.slice (some ⟨g9, 0, none⟩) m c9)
                      have HS9' : Hid (Blk (w9.setCell ⟨w.heap.size + 1 + 1, 3, none⟩ (.slice (some ⟨g9, 0, none⟩) m c9)) (w.heap.size + 1) 50 #[.int .i64 0, .int .i64 0, .bool false, .slice none 0 0]) := HS9.out.far (by show w.heap.size + 1 ≠ w.heap.size + 1 + 1; omega) _
                      have hW9' : Below w.heap.size w (w9.setCell ⟨w.heap.size + 1 + 1, 3, none⟩ (.slice (some ⟨g9, 0, none⟩) m c9)) := hW9.setCell (p := ⟨w.heap.size + 1 + 1, 3, none⟩) (by show w.heap.size ≤ w.heap.size + 1 + 1; omega) _
                      have hV9' : Below (w.heap.size + 2) w5 (w9.setCell ⟨w.heap.size + 1 + 1, 3, none⟩ (.slice (some ⟨g9, 0, none⟩) m c9)) := hV9.setCell (p := ⟨w.heap.size + 1 + 1, 3, none⟩) (by show w.heap.size + 2 ≤ w.heap.size + 1 + 1; omega) _
                      have hq9' : (w9.setCell ⟨w.heap.size + 1 + 1, 3, none⟩ (.slice (some ⟨g9, 0, none⟩) m c9)).heap.size = w9.heap.size := by simp [World.setCell]
                      have HB9' : Hid (Bytes (w9.setCell ⟨w.heap.size + 1 + 1, 3, none⟩ (.slice (some ⟨g9, 0, none⟩) m c9)) B9 (some ⟨g9, 0, none⟩) m X) := HB9.out.set_far (by show g9 ≠ w.heap.size + 1 + 1; omega) _
                      have hB9' : B9 ≤ (w9.setCell ⟨w.heap.size + 1 + 1, 3, none⟩ (.slice (some ⟨g9, 0, none⟩) m c9)).heap.size := by omega
                      go_wp2_with fail
                      refine hK'.out _ _ ⟨hV9', HT9'.out.cell 0⟩ ?_
                      clear hK' K' e1 f1 HT9 HS9 hW9 hV9 HB9 hB9
                      generalize (w9.setCell ⟨w.heap.size + 1 + 1, 3, none⟩ (.slice (some ⟨g9, 0, none⟩) m c9)) = wa at *
                      have HT10 := HT9'
                      have HS10 := HS9'
                      have hW10 := hW9'
                      have hV10 := hV9'
                      have HB10 := HB9'
                      have hB10 := hB9'
                      clear HT9' HS9' hW9' hV9' HB9' hB9'
                      refine plan_nil ?_
                      exact HF.out _ _ g9 c9 ⟨slot [_, _, _, _, _, _, _, _, undef, undef, undef, undef, _, _, _, undef, undef, _, _, _, _, _, _, _, _, _, _, _, _, _, _, _, _, _, _, _, _, _, _, _, _, _, _, _, _, _, _, _, _, _, _, _, _, _, _, _, _, _, _, _, _, _, _, _, _, _, _, _, _, _, _, _, _, _, _, _, _, _, _, _, _, _, _, _, _, _, _, _, _, _, _, _, _, _, _, _, _, _, _, _, _, _, _, _, _, _, _, _, _, _, _, _, _, _, _, _, _, _, _, _, _, _, _, _, _, _, _, _, _, _, _], rfl⟩ HT10.out (HB10.out.more hB10) hc9 hfr HS10.out hW10
                · have tpl : ((p1 : Int) == place) = false := by rw [beq_eq_false_iff_ne]; exact hpl
                  rw [if_pos hpl] at hget
                  have HG := Lib.hid hget
                  clear hget hpl
                  go_wp2_with (refine wpList_store_blk rfl 50 (.tmp 8) (.tmp 107) rfl (w.heap.size + 1) #[.int .i64 0, .int .i64 0, .bool false, .slice none 0 0] rfl rfl 50 _ HS5.out rfl (by kernel_rfl) (seg_one zeroV) ?_; intro wz hBz hgz hsz)
                  refine bodyPost_ret (seg_three rfl _ _ (w.heap.size + 1) 50 _ (0, 0) _ rfl hBz Try.underlying50 rfl (by kernel_rfl)) rfl ?_
                  refine ⟨zeroV, ?_, ?_, Bytes.empty, Nat.le_refl _, fun _ => rfl, (fun _ _ h => by cases h), hW5.grown hgz (by have := hW5.size; omega) (fun g hg => by cases hg; omega)⟩
                  · rw [HG.out]; rfl
                  · rw [HG.out]; rfl
              · have tTV : (T != V) = true := by simp [hTV]
                have tTV2 : (T == V) = false := by simp [hTV]
                have hget := HGet.out
                rw [if_pos (fun h => hTV h.symm)] at hget
                have HG := Lib.hid hget
                clear HGet hget hTV
                refine plan_force rfl rfl (fun K hK => ?_); go_wp2_with fail; refine hK.out _ _ hb5 ?_; clear hK K
                refine plan_nil ?_
                clear hb5
                go_wp2_with (refine wpList_store_blk rfl 50 (.tmp 8) (.tmp 102) rfl (w.heap.size + 1) #[.int .i64 0, .int .i64 0, .bool false, .slice none 0 0] rfl rfl 50 _ HS5.out rfl (by kernel_rfl) (seg_one zeroV) ?_; intro wz hBz hgz hsz)
                refine bodyPost_ret (seg_three rfl _ _ (w.heap.size + 1) 50 _ (0, 0) _ rfl hBz Try.underlying50 rfl (by kernel_rfl)) rfl ?_
                refine ⟨zeroV, ?_, ?_, Bytes.empty, Nat.le_refl _, fun _ => rfl, (fun _ _ h => by cases h), hW5.grown hgz (by have := hW5.size; omega) (fun g hg => by cases hg; omega)⟩
                · rw [HG.out]; rfl
                · rw [HG.out]; rfl
          · rw [if_pos hc2] at hget
            clear ok2
            have tc2 : ((c2 : Int) != 0) = true := by simp; omega
            have HG := Lib.hid hget
            clear hget
            go_wp2_with (refine wpList_store_blk rfl 50 (.tmp 8) (.tmp 71) rfl (w.heap.size + 1) #[.int .i64 0, .int .i64 0, .bool false, .slice none 0 0] rfl rfl 50 _ HS3.out rfl (by kernel_rfl) (seg_one zeroV) ?_; intro wz hBz hgz hsz)
            refine bodyPost_ret (seg_three rfl _ _ (w.heap.size + 1) 50 _ (0, 0) _ rfl hBz Try.underlying50 rfl (by kernel_rfl)) rfl ?_
            refine ⟨zeroV, ?_, ?_, Bytes.empty, Nat.le_refl _, fun _ => rfl, (fun _ _ h => by cases h), hW3.grown hgz (by have := hW3.size; omega) (fun g hg => by cases hg; omega)⟩
            · rw [HG.out]; rfl
            · rw [HG.out]; rfl
        · rw [if_pos hc1] at hget
          clear ok1
          have tc1 : ((c1 : Int) != 0) = true := by simp; omega
          have HG := Lib.hid hget
          clear hget
          go_wp2_with (refine wpList_store_blk rfl 50 (.tmp 8) (.tmp 59) rfl (w.heap.size + 1) #[.int .i64 0, .int .i64 0, .bool false, .slice none 0 0] rfl rfl 50 _ HS3.out rfl (by kernel_rfl) (seg_one zeroV) ?_; intro wz hBz hgz hsz)
          refine bodyPost_ret (seg_three rfl _ _ (w.heap.size + 1) 50 _ (0, 0) _ rfl hBz Try.underlying50 rfl (by kernel_rfl)) rfl ?_
          refine ⟨zeroV, ?_, ?_, Bytes.empty, Nat.le_refl _, fun _ => rfl, (fun _ _ h => by cases h), hW3.grown hgz (by have := hW3.size; omega) (fun g hg => by cases hg; omega)⟩
          · rw [HG.out]; rfl
          · rw [HG.out]; rfl
end Go.Proofs.Ytobbjhbjjhnicaa
