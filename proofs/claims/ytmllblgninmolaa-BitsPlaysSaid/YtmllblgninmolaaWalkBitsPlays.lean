/- The walk of BitsPlays. -/
import Derived.Test.YtmllblgninmolaaPlays
namespace Go.Proofs.Ytmllblgninmolaa
open Go.RowKit
set_option linter.unusedVariables false
theorem Ops.cells {w : World} {B n k b0 o0 : Nat} {l : List (Nat × Int)} (h : Ops w B (some ⟨b0, o0, none⟩) n l) (hk : k < n) {x : Nat} {z : Int} (hx : l[k]? = some (x, z)) :
    w.cell? ⟨b0, o0 + k * 2, none⟩ = some (.int .u64 (x : Int)) ∧ w.cell? ⟨b0, o0 + k * 2 + 1, none⟩ = some (.int .i64 z) := by
  obtain ⟨b, off, e, hb, hc⟩ := h.2 (by omega)
  injection e with e
  injection e with e1 e2
  subst e1 e2
  exact hc k (x, z) hx
theorem ROut.new (w : World) : ROut (w.alloc (.cells #[.slice none 0 0] 43)) w.heap.size none 0 0 [] :=
  ⟨Blk.new _ _ _, Own.nil_, by simp [Value.ownBlock]⟩
set_option maxRecDepth 100000 in
set_option maxHeartbeats 8000000 in
theorem bitsPlays (A : Option Addr) (n c : Nat) (l : List (Nat × Int)) (A1 : Option Addr) (n1 c1 : Nat) (lb : List UInt8) (w : World) (hl : Ops w w.heap.size A n l) (hb : Bytes w w.heap.size A1 n1 lb) (hz : A1 = none → c1 = 0) (hn : n ≤ 40) (hn1 : n1 ≤ 40) :
    Calls Try.prog 6 #[.slice A n c, .slice A1 n1 c1] w fun e w' => e = .returned (.bool true) ∧ Below w.heap.size w w' := by
  have HL := Lib.hid hl
  have HN := Lib.hid hl.len
  have HY := Lib.hid hb
  have HZ := Lib.hid hz
  have HN1 := Lib.hid hb.len
  clear hl hb hz
  have t1 : ¬ (40 : Int) < (n : Int) := by omega
  have t2 : ¬ (40 : Int) < (n1 : Int) := by omega
  go_enter Try.func6, Try.ntmps6
  go_wp2
  rename_i K hK
  have fin : ∀ (a' : Act) (w' : World) (gi gj : Nat) (bO : Option Nat) (A2 : Option Addr) (n2 c2 : Nat), (∃ u : Nat → Value, a' = ⟨#[.slice A n c, .slice A1 n1 c1, u 2, u 3, .bool false, .pointer (some ⟨w.heap.size, 0, none⟩), .pointer (some ⟨w.heap.size + 1, 0, none⟩), .pointer (some ⟨gi, 0, none⟩), .pointer (some ⟨gj, 0, none⟩), u 9, u 10, u 11, u 12, u 13, u 14, u 15, u 16, u 17, u 18, u 19, u 20, u 21, u 22, u 23, u 24, u 25, u 26, u 27, u 28, u 29, u 30, u 31, u 32, u 33, u 34, u 35, u 36, u 37, u 38, u 39, u 40, u 41, u 42, u 43, u 44, u 45, u 46, u 47, u 48, u 49, u 50, u 51, u 52, u 53, u 54, u 55, u 56, u 57, u 58, u 59, u 60, u 61, u 62, u 63, u 64, u 65, u 66, u 67, u 68, u 69, u 70, u 71, u 72, u 73, u 74, u 75, u 76, u 77, u 78, u 79, u 80, u 81, u 82, u 83, u 84, u 85, u 86, u 87, u 88, u 89, u 90, u 91, u 92, u 93, u 94, u 95, u 96, u 97, u 98, u 99, u 100, u 101, u 102, u 103, u 104, u 105, u 106, u 107, u 108, u 109, u 110, u 111, u 112, u 113, u 114, u 115, u 116, u 117, u 118, u 119, u 120, u 121], []⟩) → w.heap.size ≤ gi → w.heap.size ≤ gj → St w' w.heap.size (w.heap.size + 1) gi gj bO none [] [] [] none 0 0 A2 n2 c2 lb 0 0 [] → Below w.heap.size w w' → K a' w' := by
    rintro a' w' gi gj bO A2 n2 c2 ⟨u, rfl⟩ hgiW hgjW hSt hW
    refine hK _ _ ?_
    clear hK
    have HS0 := Lib.hid hSt
    clear hSt
    go_wp2
    have hlb : lb.length = n1 := HN1.out
    have HLb := Lib.hid hlb
    clear hlb
    go_loopw [9] (fun i wr => ∃ (k : Nat) (p : Option Addr) (gs : List Nat) (us : List (List Bool)) (pt : List Bool) (A3 : Option Addr) (m c3 P : Nat) (bs : List Bool), k ≤ n ∧ m ≤ 32 * k ∧ i = .int .i64 k ∧ Hid (St wr w.heap.size (w.heap.size + 1) gi gj bO p gs us pt A3 m c3 A2 n2 c2 lb P P bs) ∧ Hid (bitsSt us pt = bs) ∧ Hid (∀ r, (Value.slice A3 m c3).ownBlock = some r → w.heap.size ≤ r) ∧ Below w.heap.size w wr) (fun i _ => n - (intOf i).toNat)
    case atStart => exact ⟨0, none, [], [], [], none, 0, 0, 0, [], Nat.zero_le _, Nat.zero_le _, rfl, HS0, rfl, (fun r h => by simp [Value.ownBlock] at h), hW⟩
    case round =>
      clear HS0 hW
      obtain ⟨k, p, gs, us, pt, A3, m, c3, P, bs, hk, hm, rfl, HS, HE, HRow, hW⟩ := hrel
      by_cases hlt : k < n
      · obtain ⟨⟨x, z⟩, hx⟩ : ∃ y, l[k]? = some y := ⟨l[k]'(by rw [HN.out]; exact hlt), List.getElem?_eq_getElem _⟩
        obtain ⟨b0, o0, rfl⟩ : ∃ b0 o0, A = some ⟨b0, o0, none⟩ := by
          obtain ⟨b, off, e, _⟩ := HL.out.2 (by omega)
          exact ⟨b, off, e⟩
        have HX := Lib.hid hx
        have HXM : Hid (x < 18446744073709551616) := (HL.out.1.2 (x, z) (List.mem_of_getElem? hx)).1
        obtain ⟨nb, code, hsp⟩ := stepPut_some x z
        obtain ⟨v, gcode, P', hsg⟩ := stepGet_some lb P z
        have HSP := Lib.hid hsp
        have HSG := Lib.hid hsg
        have hnb := stepPut_len hsp
        have hml : bs.length = m := HS.out.r.len
        have HML := Lib.hid hml
        have k0 : (0 : Int) ≤ (k : Int) := by omega
        have k1 : (k : Int) < (n : Int) := by omega
        clear hx hsp hsg hml
        go_wp2
        refine wp_region_two (fun x => Below w.heap.size w x) [(false, 0), (false, 1), (false, 2), (false, 3), (false, 4), (false, 5), (false, 6), (false, 7), (false, 8), (false, 9), (false, 11), (false, 12), (false, 13), (false, 14), (false, 15), (false, 16), (false, 17), (false, 18), (false, 19), (false, 20), (false, 21), (true, 10), (true, 22), (true, 23), (true, 24), (false, 27), (true, 25)] [(false, 26), (true, 28), (true, 29), (true, 30), (true, 31), (false, 33), (false, 34), (false, 35), (false, 36), (false, 37), (true, 32), (true, 38), (true, 39)]
          (by kernel_rfl) (by kernel_rfl) (fun _ _ d _ _ h => by cases d <;> exact h) hW.drew ?_
        have HS1 := Lib.hid (HS.out.below ((Below.refl _ _).drew : Below wr.heap.size wr wr.drew))
        have hW1 := hW.drew
        clear HS hW
        generalize wr.drew = w1 at *
        iterate 21 (apply planK_take rfl rfl rfl rfl; (intro w' hS K hK; obtain ⟨d0, d1⟩ := (HL.out.below hS).cells hlt HX.out; clear hS; go_simp; exact hK))
        have hlo : 64 * us.length + pt.length ≤ 2000 := by rw [outLen HS1.out.o, HE.out, HML.out]; omega
        refine planK_force rfl rfl (fun K' hK' => ?_)
        go_wp2_with fail
        (with_reducible refine (outPutG w.heap.size x z nb code p gs us pt w1 HXM.out HSP.out HS1.out.o (by omega)).mono ?_)
        rintro e w2 ⟨rfl, p2, gs2, us2, pt2, hO2, hb2, hg2, hgs2⟩
        have HS2 := Lib.hid (HS1.out.oPut hO2 hg2 hgs2)
        have HE2 : Hid (bitsSt us2 pt2 = bs ++ nb) := by show _ = _; rw [hb2, HE.out]
        have hW2 := hW1.grown hg2 hW1.size (by intro g hg; injection hg with hg; omega)
        clear hO2 hb2 hg2 hgs2 HS1 hW1 HE
        go_wp2_with fail
        refine hK'.out _ _ hW2 ?_; clear hK' K'
        refine planK_force rfl rfl (fun K' hK' => ?_)
        go_wp2_with fail
        (with_reducible refine (refPutG (w.heap.size + 1) x z nb code A3 m c3 bs w2 HXM.out HSP.out HS2.out.r (by omega)).mono ?_)
        rintro e w3 ⟨rfl, A4, m4, c4, hR3, hT3⟩
        have HS3 := Lib.hid (HS2.out.mPut hR3 hT3)
        have hW3 : Below w.heap.size w w3 := by
          refine hW2.trans ⟨hT3.1.2.1, hT3.1.2.2.2, hT3.1.2.2.1, hT3.1.1, fun g hg => hT3.2.1 g (by have := hW2.size; omega) (by omega) (fun e => ?_)⟩
          have := HRow.out g e.symm
          omega
        have HRow3 : Hid (∀ r, (Value.slice A4 m4 c4).ownBlock = some r → w.heap.size ≤ r) := by
          intro r hr
          rcases hT3.2.2 with e | ⟨g', e, hge⟩
          · exact HRow.out r (by rw [← e]; exact hr)
          · rw [e] at hr
            injection hr with hr
            have := hW2.size
            omega
        have hm4 : m4 ≤ 32 * (k + 1) := by
          have := HS3.out.r.len
          rw [List.length_append, HML.out] at this
          omega
        have hml4 : (bs ++ nb).length = m4 := HS3.out.r.len
        have HML4 := Lib.hid hml4
        clear hR3 hT3 HS2 hW2 HRow hml4 HML hnb
        go_wp2_with fail
        refine hK'.out _ _ hW3 ?_; clear hK' K'
        iterate 2 (refine planK_force rfl rfl (fun K' hK' => ?_); go_wp2_with fail; refine hK'.out _ _ hW3 ?_; clear hK' K')
        apply planK_take rfl rfl rfl rfl
        · intro w' hS K hK; clear hS; go_simp; exact hK
        have kb := outBytes w.heap.size p2 gs2 us2 pt2 w3 HS3.out.o (by rw [outLen HS3.out.o, HE2.out, HML4.out]; omega)
        rw [HE2.out] at kb
        obtain ⟨Z, hZ⟩ : ∃ Z, Z = PB.pack (bs ++ nb) := ⟨_, rfl⟩
        obtain ⟨mz, hmz⟩ : ∃ mz, mz = Z.length := ⟨_, rfl⟩
        rw [← hZ, ← hmz] at kb
        have KB := Lib.hid kb
        have HZ2 := Lib.hid hZ
        have HMz := Lib.hid hmz
        clear kb hZ hmz
        refine planK_force rfl rfl (fun K' hK' => ?_)
        go_wp2_with fail
        (with_reducible refine KB.out.mono ?_)
        rintro e w4 ⟨rfl, hZ4, hb4⟩
        have HS4 := Lib.hid (HS3.out.below hb4)
        have hW4 := hW3.trans (hb4.mono hW3.size)
        have HZ4 := Lib.hid hZ4
        have hg4 : w3.heap.size < w4.heap.size := Blk.lt hZ4
        clear hZ4 hb4 KB HS3 hW3
        go_wp2_with fail
        refine hK'.out _ _ hW4 ?_; clear hK' K'
        refine planK_nil (fun _ => ?_)
        refine ⟨fun x => Below w4.heap.size w4 x ∧ Below w.heap.size w x, fun _ h => h.2, ⟨Below.refl _ _, hW4⟩, ?_⟩
        apply plan_take rfl rfl rfl rfl
        · intro w' hS K hK
          have hcv : (convert 23 9 (.slice (some ⟨w3.heap.size, 0, none⟩) mz mz)).run Try.prog w' = .ok (.string ⟨Z.toArray⟩) w' := by
            have h1 := ByteBlk.bytes (l := Z) (Blk.below HZ4.out hS.1 hg4)
            rw [← HMz.out] at h1
            exact conv_bytes conv_u8 mz h1
          clear hS
          go_simp
          exact hK
        have kr := refBytes10 (w.heap.size + 1) A4 m4 c4 (bs ++ nb) w4 HS4.out.r (by omega)
        rw [← HZ2.out] at kr
        have KR := Lib.hid kr
        clear kr
        refine plan_force rfl rfl (fun K' hK' => ?_)
        go_wp2_with fail
        (with_reducible refine KR.out.mono ?_)
        rintro e w5 ⟨rfl, hb5⟩
        have hT5 : Below w4.heap.size w4 w5 := hb5
        have HS5 := Lib.hid (HS4.out.below hb5)
        have hW5 := hW4.trans (hb5.mono hW4.size)
        clear hb5 KR
        go_wp2_with fail
        refine hK'.out _ _ ⟨hT5, hW5⟩ ?_; clear hK' K'
        iterate 3 (refine plan_force rfl rfl (fun K' hK' => ?_); go_wp2_with fail; refine hK'.out _ _ ⟨hT5, hW5⟩ ?_; clear hK' K')
        iterate 5 (apply plan_take rfl rfl rfl rfl; (intro w' hS K hK; have e0 : w'.cell? ⟨w.heap.size + 1, 0, none⟩ = some (.slice A4 m4 c4) := (HS4.out.r.1.below hS.1 HS4.out.r.1.lt).cell 0; clear hS; go_simp; exact hK))
        have kl := outLong w.heap.size p2 gs2 us2 pt2 w5 HS5.out.o
        rw [HE2.out, HML4.out] at kl
        have KL := Lib.hid kl
        clear kl HS4 HZ4
        refine plan_force rfl rfl (fun K' hK' => ?_)
        go_wp2_with fail
        (with_reducible refine KL.out.mono ?_)
        rintro e w6 ⟨rfl, rfl⟩
        go_wp2_with fail
        refine hK'.out _ _ ⟨hT5, hW5⟩ ?_; clear hK' K'
        iterate 2 (refine plan_force rfl rfl (fun K' hK' => ?_); go_wp2_with fail; refine hK'.out _ _ ⟨hT5, hW5⟩ ?_; clear hK' K')
        refine plan_nil ?_
        clear hT5 KL hW4
        obtain ⟨d0, d1⟩ := (HL.out.below hW5).cells hlt HX.out
        go_wp2_with fail
        (with_reducible refine (inGetG gi A2 n2 c2 lb P P' z v gcode w5 HS5.out.i HSG.out).mono ?_)
        rintro e w6 ⟨rfl, hI6, hg6⟩
        have HS6 := Lib.hid (HS5.out.iGet hI6 hg6)
        have hW6 := hW5.grown hg6 hW5.size (by intro g hg; injection hg with hg; omega)
        clear hI6 hg6 HS5 hW5 d0 d1
        obtain ⟨d0, d1⟩ := (HL.out.below hW6).cells hlt HX.out
        go_wp2_with fail
        (with_reducible refine (refGetG gj lb P P' z v gcode w6 HS6.out.j HSG.out).mono ?_)
        rintro e w7 ⟨rfl, hJ7, hg7⟩
        have HS7 := Lib.hid (HS6.out.jGet hJ7 hg7)
        have hW7 := hW6.grown hg7 hW6.size (by intro g hg; injection hg with hg; omega)
        clear hJ7 hg7 HS6 hW6 d0 d1
        have hn2 : n2 = lb.length := HS7.out.i.2.1.len.symm
        have kli := inLeft gi A2 n2 c2 lb P' w7 HS7.out.i
        have KLI := Lib.hid kli
        clear kli
        go_wp2_with fail
        (with_reducible refine KLI.out.mono ?_)
        rintro e w8 ⟨rfl, hw8⟩
        have HS8 : Hid (St w8 w.heap.size (w.heap.size + 1) gi gj bO p2 gs2 us2 pt2 A4 m4 c4 A2 n2 c2 lb P' P' (bs ++ nb)) := by rw [← hw8]; exact HS7.out.below (Below.refl _ _).drew
        have hW8 : Below w.heap.size w w8 := by rw [← hw8]; exact hW7.drew
        clear hw8 HS7 hW7 KLI
        have klj := refLeft gj ⟨lb.toArray⟩ P' w8 HS8.out.j
        have hsz : (⟨lb.toArray⟩ : ByteArray).size = n2 := by rw [hn2]; show lb.toArray.size = _; simp
        rw [hsz] at klj
        have KLJ := Lib.hid klj
        clear klj hsz hn2
        go_wp2_with fail
        (with_reducible refine KLJ.out.mono ?_)
        rintro e w9 ⟨rfl, hw9⟩
        have HS9 : Hid (St w9 w.heap.size (w.heap.size + 1) gi gj bO p2 gs2 us2 pt2 A4 m4 c4 A2 n2 c2 lb P' P' (bs ++ nb)) := by rw [← hw9]; exact HS8.out.below (Below.refl _ _).drew
        have hW9 : Below w.heap.size w w9 := by rw [← hw9]; exact hW8.drew
        clear hw9 HS8 hW8 KLJ
        have kri := inRest gi A2 n2 c2 lb P' w9 HS9.out.i
        obtain ⟨R, hR⟩ : ∃ R, R = restB lb P' := ⟨_, rfl⟩
        rw [← hR] at kri
        have KRI := Lib.hid kri
        have HR := Lib.hid hR
        clear kri hR
        go_wp2_with fail
        (with_reducible refine KRI.out.mono ?_)
        rintro e w10 ⟨rfl, hb10⟩
        have HS10 := Lib.hid (HS9.out.below hb10)
        have hW10 := hW9.trans (hb10.mono hW9.size)
        clear hb10 HS9 hW9 KRI
        have krj := refRest gj ⟨lb.toArray⟩ P' w10 HS10.out.j
        have hdl : (⟨lb.toArray⟩ : ByteArray).data.toList = lb := rfl
        rw [hdl, ← HR.out] at krj
        have KRJ := Lib.hid krj
        clear krj hdl
        go_wp2_with fail
        (with_reducible refine KRJ.out.mono ?_)
        rintro e w11 ⟨rfl, hb11⟩
        have HS11 := Lib.hid (HS10.out.below hb11)
        have hW11 := hW10.trans (hb11.mono hW10.size)
        clear hb11 HS10 hW10 KRJ
        go_wp2_with fail
        go_roundw
        case rel => exact ⟨k + 1, p2, gs2, us2, pt2, A4, m4, c4, P', bs ++ nb, hlt, hm4, by go_num, HS11, HE2, HRow3, hW11⟩
        case measure => simp [intOf]; omega
      · obtain rfl : k = n := by omega
        go_wp2_with fail
        (with_reducible refine (told10 _).mono ?_)
        rintro e w2 ⟨rfl, hb2⟩
        go_wp2_with fail
        go_ret
        exact ⟨rfl, hW.trans (hb2.mono hW.size)⟩
  clear hK
  have HF := Lib.hid fin
  clear fin
  obtain ⟨wR, hwR⟩ : ∃ wR, wR = (w.alloc (.cells #[.pointer none, .int .u64 0, .int .i64 0] 40)).alloc (.cells #[.slice none 0 0] 43) := ⟨_, rfl⟩
  have HOR : Hid (OutAt wR w.heap.size none [] [] []) := by rw [hwR]; exact (OutAt.new w).alloc _
  have HRR : Hid (ROut wR (w.heap.size + 1) none 0 0 []) := by
    have := ROut.new (w.alloc (.cells #[.pointer none, .int .u64 0, .int .i64 0] 40))
    rw [World.size_alloc] at this
    rw [hwR]
    exact this
  have hWR : Below w.heap.size w wR := by rw [hwR]; exact ((Below.refl _ _).alloc (Nat.le_refl _) _).alloc (by simp) _
  have hszR : wR.heap.size = w.heap.size + 2 := by rw [hwR]; simp
  rw [← hwR]
  clear hwR
  have HYR := Lib.hid (HY.out.below hWR)
  have hcvR : ∀ x : World, Below wR.heap.size wR x → (convert 23 9 (.slice A1 n1 c1)).run Try.prog x = .ok (.string ⟨lb.toArray⟩) x := fun x hx => conv_bytes conv_u8 c1 ((HYR.out.more (by omega : w.heap.size ≤ wR.heap.size)).below hx)
  have HCV := Lib.hid hcvR
  clear hcvR
  have hS0 : Below wR.heap.size wR wR.drew := (Below.refl _ _).drew
  refine wp_region_forks (fun x => Below wR.heap.size wR x) (by kernel_rfl) ?_
  generalize wR.drew = w0 at *
  refine wpAnyG_prefix (S := fun x => Below wR.heap.size wR x) (by kernel_rfl) (fun _ _ d _ _ h => by cases d <;> exact h) 4 [(false, 0), (false, 2), (false, 3), (false, 4)] _ _ _ (by rfl) (by kernel_rfl) hS0 ?_
  iterate 4 (apply planK_take rfl rfl rfl rfl; (intro w' hS K hK; have hcv := HCV.out w' hS; clear hS; go_simp; exact hK))
  refine planK_nil (fun _ => ?_)
  have hsz8 : (⟨lb.toArray⟩ : ByteArray).size ≤ 1000000 := by show lb.toArray.size ≤ _; simp; have := HN1.out; omega
  refine wpAnyG_fork (i := 1) (j := 5) (fuel := 3) (by kernel_rfl) rfl rfl rfl rfl (fun K1 h1 => ?_) (fun K1 h1 => ?_)
  · go_wp2_with fail
    (with_reducible refine (inFrom2 A1 n1 c1 w.heap.size lb w0 (HYR.out.below (hS0.mono (by omega))) HZ.out (by omega)).mono ?_)
    rintro e w1 ⟨gi, bO, A2, n2, c2, rfl, hI1, hIB, hbO, hgi, hb1⟩
    have hS1 := hS0.trans (hb1.mono hS0.size)
    have hgi1 := hI1.1.lt
    have hs0 := hS0.size
    go_wp2_with fail
    refine h1.out _ _ hS1 (fun _ => ?_)
    clear h1 K1
    refine wpAnyG_plan (S := fun x => Below wR.heap.size wR x) (by kernel_rfl) (fun _ _ d _ _ h => by cases d <;> exact h) [(false, 6), (true, 5), (true, 7)] _ _ _ (by rfl) (by kernel_rfl) hS1 ?_
    apply plan_take rfl rfl rfl rfl
    · intro w' hS K hK; clear hS; go_simp; exact hK
    refine plan_force rfl rfl (fun K' hK' => ?_)
    have hS2 := hS1.alloc hS1.size (.cells #[.string ⟨lb.toArray⟩, .int .i64 0] 48)
    have hJ2 := Blk.new w1 48 #[.string ⟨lb.toArray⟩, .int .i64 0]
    have hI2 := hI1.below ((Below.refl _ _).alloc (Nat.le_refl _) (.cells #[.string ⟨lb.toArray⟩, .int .i64 0] 48))
    have hs1 : w1.heap.size < (w1.alloc (.cells #[.string ⟨lb.toArray⟩, .int .i64 0] 48)).heap.size := by rw [World.size_alloc]; omega
    go_wp2_with fail
    refine hK'.out _ _ hS2 ?_; clear hK' K'
    generalize w1.alloc (.cells #[.string ⟨lb.toArray⟩, .int .i64 0] 48) = w2 at *
    generalize w1.heap.size = gj at *
    refine plan_force rfl rfl (fun K' hK' => ?_); go_wp2_with fail; refine hK'.out _ _ hS2 ?_; clear hK' K'
    refine plan_nil ?_
    refine HF.out _ _ gi gj bO A2 n2 c2 ⟨slot [undef, undef, _, _, undef, undef, undef, undef, undef, _, _, _, _, _, _, _, _, _, _, _, _, _, _, _, _, _, _, _, _, _, _, _, _, _, _, _, _, _, _, _, _, _, _, _, _, _, _, _, _, _, _, _, _, _, _, _, _, _, _, _, _, _, _, _, _, _, _, _, _, _, _, _, _, _, _, _, _, _, _, _, _, _, _, _, _, _, _, _, _, _, _, _, _, _, _, _, _, _, _, _, _, _, _, _, _, _, _, _, _, _, _, _, _, _, _, _, _, _, _, _, _, _], rfl⟩ (by omega) (by omega) ?_ (hWR.trans (hS2.mono (by omega)))
    refine ⟨HOR.out.below hS2, HRR.out.keep (hS2.block _ HRR.out.1.lt) (fun g hg => by simp [Value.ownBlock] at hg), hI2, hIB, (fun g hg => by have := hbO g hg; omega), ⟨hJ2, Nat.zero_le _, hsz8⟩, ?_⟩
    exact ⟨by omega, by omega, by omega, by omega, by omega, by omega, (fun g hg => by have := hbO g hg; exact ⟨by omega, by omega, by omega, by omega, by simp, by simp [Value.ownBlock]⟩), (fun g hg => by cases hg), (fun r hr => by simp [Value.ownBlock] at hr)⟩
  · have hs0 := hS0.size
    have hS1 := hS0.alloc hS0.size (.cells #[.string ⟨lb.toArray⟩, .int .i64 0] 48)
    have hJ1 := Blk.new w0 48 #[.string ⟨lb.toArray⟩, .int .i64 0]
    have hs1 : (w0.alloc (.cells #[.string ⟨lb.toArray⟩, .int .i64 0] 48)).heap.size = w0.heap.size + 1 := by rw [World.size_alloc]
    go_wp2_with fail
    refine h1.out _ _ hS1 (fun _ => ?_)
    clear h1 K1
    generalize w0.alloc (.cells #[.string ⟨lb.toArray⟩, .int .i64 0] 48) = w1 at *
    generalize w0.heap.size = gj at *
    refine wpAnyG_plan (S := fun x => Below wR.heap.size wR x) (by kernel_rfl) (fun _ _ d _ _ h => by cases d <;> exact h) [(true, 1), (true, 6), (true, 7)] _ _ _ (by rfl) (by kernel_rfl) hS1 ?_
    refine plan_force rfl rfl (fun K' hK' => ?_)
    go_wp2_with fail
    (with_reducible refine (inFrom2 A1 n1 c1 w.heap.size lb w1 (HYR.out.below (hS1.mono (by omega))) HZ.out (by omega)).mono ?_)
    rintro e w2 ⟨gi, bO, A2, n2, c2, rfl, hI2, hIB, hbO, hgi, hb2⟩
    have hS2 := hS1.trans (hb2.mono hS1.size)
    have hJ2 := hJ1.below hb2 hJ1.lt
    have hgi2 := hI2.1.lt
    go_wp2_with fail
    refine hK'.out _ _ hS2 ?_; clear hK' K'
    iterate 2 (refine plan_force rfl rfl (fun K' hK' => ?_); go_wp2_with fail; refine hK'.out _ _ hS2 ?_; clear hK' K')
    refine plan_nil ?_
    refine HF.out _ _ gi gj bO A2 n2 c2 ⟨slot [undef, undef, _, _, undef, undef, undef, undef, undef, _, _, _, _, _, _, _, _, _, _, _, _, _, _, _, _, _, _, _, _, _, _, _, _, _, _, _, _, _, _, _, _, _, _, _, _, _, _, _, _, _, _, _, _, _, _, _, _, _, _, _, _, _, _, _, _, _, _, _, _, _, _, _, _, _, _, _, _, _, _, _, _, _, _, _, _, _, _, _, _, _, _, _, _, _, _, _, _, _, _, _, _, _, _, _, _, _, _, _, _, _, _, _, _, _, _, _, _, _, _, _, _, _], rfl⟩ (by omega) (by omega) ?_ (hWR.trans (hS2.mono (by omega)))
    refine ⟨HOR.out.below hS2, HRR.out.keep (hS2.block _ HRR.out.1.lt) (fun g hg => by simp [Value.ownBlock] at hg), hI2, hIB, (fun g hg => by have := hbO g hg; omega), ⟨hJ2, Nat.zero_le _, hsz8⟩, ?_⟩
    exact ⟨by omega, by omega, by omega, by omega, by omega, by omega, (fun g hg => by have := hbO g hg; exact ⟨by omega, by omega, by omega, by omega, by simp, by simp [Value.ownBlock]⟩), (fun g hg => by cases hg), (fun r hr => by simp [Value.ownBlock] at hr)⟩
set_option maxRecDepth 100000 in
set_option maxHeartbeats 1000000 in
theorem walkBitsPlays (A : Option Addr) (n c : Nat) (l : List (Nat × Int)) (A1 : Option Addr) (n1 c1 : Nat) (lb : List UInt8) (w : World) (hl : Ops w w.heap.size A n l) (hc : n ≤ c) (hm : c ≤ maxLen) (hz : A = none → n = 0 ∧ c = 0) (hb1 : Bytes w w.heap.size A1 n1 lb) (hc1 : n1 ≤ c1) (hm1 : c1 ≤ maxLen) (hz1 : A1 = none → n1 = 0 ∧ c1 = 0) :
    Calls Try.prog 6 #[.slice A n c, .slice A1 n1 c1] w fun e w' => e = .returned (.bool true) ∧ Below w.heap.size w w' := by
  unfold maxLen at hm hm1
  by_cases h : n ≤ 40 ∧ n1 ≤ 40
  · exact bitsPlays A n c l A1 n1 c1 lb w hl hb1 (fun h => (hz1 h).2) h.1 h.2
  · obtain h1 | ⟨h1, h2⟩ : (40 : Int) < (n : Int) ∨ ¬ (40 : Int) < (n : Int) ∧ (40 : Int) < (n1 : Int) := by omega
    all_goals
      clear hl hz h hb1 hz1
      go_enter Try.func6, Try.ntmps6
      go_wp2_with (go_at_call 15; refine (told10 _).mono ?_; rintro e w2 ⟨rfl, hb2⟩)
      go_ret
      exact ⟨rfl, hb2⟩
end Go.Proofs.Ytmllblgninmolaa
