/- The walk of NumBack. -/
import Derived.Test.YtmllblgninmolaaTold9
import Derived.Test.YtmllblgninmolaaOpenB
namespace Go.Proofs.Ytmllblgninmolaa
open Go.RowKit
set_option linter.unusedVariables false
namespace NB
def encs (l : List Nat) : List UInt8 := l.flatMap PN.enc
theorem encs_snoc (l : List Nat) (k : Nat) (h : k < l.length) : encs (l.take (k + 1)) = encs (l.take k) ++ PN.enc l[k] := by
  unfold encs
  rw [List.take_succ_eq_append_getElem h, List.flatMap_append]
  simp
theorem encs_split (l : List Nat) (k : Nat) (h : k < l.length) : encs l = encs (l.take k) ++ (PN.enc l[k] ++ encs (l.drop (k + 1))) := by
  unfold encs
  conv => lhs; rw [← List.take_append_drop k l, List.drop_eq_getElem_cons h]
  rw [List.flatMap_append, List.flatMap_cons]
theorem encs_len (l : List Nat) (hl : ∀ x ∈ l, x < 18446744073709551616) : (encs l).length ≤ 17 * l.length := by
  induction l with
  | nil => simp [encs]
  | cons x r ih =>
    have h1 := PN.enc_len64 x (hl x (by simp))
    have h2 := ih (fun y hy => hl y (by simp [hy]))
    unfold encs at *
    rw [List.flatMap_cons, List.length_append, List.length_cons]
    omega
theorem encs_take_len (l : List Nat) (k : Nat) (hl : ∀ x ∈ l, x < 18446744073709551616) (hn : l.length ≤ 12) : (encs (l.take k)).length ≤ 300 := by
  have := encs_len (l.take k) (fun x hx => hl x (List.mem_of_mem_take hx))
  have h2 : (l.take k).length ≤ l.length := List.length_take_le' _ _
  omega
theorem encs_last (l : List Nat) (n : Nat) (hn : l.length = n) (h : 0 < n) : encs l = encs (l.take (n - 1)) ++ PN.enc (l[n - 1]'(by omega)) := by
  have := encs_snoc l (n - 1) (by omega)
  have e : l.take (n - 1 + 1) = l := by rw [show n - 1 + 1 = n by omega, ← hn]; exact List.take_length
  rw [e] at this
  exact this
theorem res_enc (p r : List UInt8) (m : Nat) (h : m < PN.M64) : getRes (p ++ (PN.enc m ++ r)) p.length = (m, p.length + (PN.enc m).length, 0) := by
  unfold getRes
  rw [List.drop_left, PN.dec_enc m true 0 1 r (by omega) (by omega) (.inr rfl)]
  simp [resOf]
/-- The last encoding cut off. -/
theorem res_cut (p : List UInt8) (m c : Nat) (h1 : p.length ≤ c) (h2 : c < p.length + (PN.enc m).length) : getRes ((p ++ PN.enc m).take c) p.length = (0, p.length, 3) := by
  unfold getRes
  rw [List.take_append, List.take_of_length_le h1, List.drop_left, PN.dec_cut m true 0 1 (c - p.length) (by omega)]
  rfl
end NB
set_option maxRecDepth 100000 in
set_option maxHeartbeats 4000000 in
theorem numBack (A : Option Addr) (n c : Nat) (l : List Nat) (A1 : Option Addr) (n1 c1 : Nat) (hd : List UInt8) (q : Int) (w : World) (hl : Nats w w.heap.size A n l) (hb : Bytes w w.heap.size A1 n1 hd) (hz : A1 = none → c1 = 0)
    (h1 : 1 ≤ n) (h2 : n ≤ 12) (h3 : n1 ≤ 9) (hq0 : -9223372036854775808 ≤ q) (hq1 : q ≤ 9223372036854775807) :
    Calls Try.prog 3 #[.slice A n c, .slice A1 n1 c1, .int .i64 q] w fun e w' => e = .returned (.bool true) ∧ Below w.heap.size w w' := by
  have HL := Lib.hid hl
  have HB := Lib.hid hb
  have HZ := Lib.hid hz
  have HN := Lib.hid hl.len
  have HN1 := Lib.hid hb.len
  clear hl hb hz
  have t1 : ¬ (n : Int) < 1 := by omega
  have t2 : ¬ (12 : Int) < (n : Int) := by omega
  have t3 : ¬ (9 : Int) < (n1 : Int) := by omega
  have hb0 : Below w.heap.size w (w.alloc (Obj.cells #[] 5)) := (Below.refl _ _).alloc (Nat.le_refl _) _
  have HO0 := Lib.hid (Own.empty_ w 5 #[] rfl)
  go_enter Try.func3, Try.ntmps3
  go_wp2_with (refine wpList_of_wp rfl (fun K hK => wp_append_bytes (.tmp 33) (.tmp 34) 23 row_u8 rfl hd rfl HO0.out w.heap.size A1 n1 c1 rfl (HB.out.alloc (Nat.le_refl _) _) HZ.out (by show 0 + n1 ≤ _; omega) (by rw [World.size_alloc]; omega) ?_); intro v1 w1 hO1 hg1 hd1; have HW1 := Lib.hid (below_grown_own hb0 HO0.out hg1); have HO1 := Lib.hid hO1; clear hO1 hg1 hd1; refine hK _ _ ?_; clear hK K)
  rw [List.nil_append] at HO1
  go_loopw [7, 8, 9] (fun b la i wr => ∃ (k m : Nat) (A2 : Option Addr) (n2 c2 : Nat) (acc : List UInt8), k ≤ n ∧ i = .int .i64 k ∧ b = .slice A2 n2 c2 ∧ la = .int .i64 m ∧ n2 ≤ 400 ∧ Below w.heap.size w wr ∧ Hid (Own 5 wr w.heap.size (.slice A2 n2 c2) acc) ∧ Hid (acc = hd ++ NB.encs (l.take k)) ∧ Hid (n2 = acc.length) ∧ Hid (0 < k → m = (hd ++ NB.encs (l.take (k - 1))).length)) (fun _ _ i _ => n - (intOf i).toNat)
  case atStart =>
    obtain ⟨A2, n2, c2, hv, hB2, _, _⟩ := HO1.out.form_n
    have := hB2.len
    have := HN1.out
    refine ⟨0, 0, A2, n2, c2, hd, Nat.zero_le _, rfl, hv, rfl, by omega, HW1.out, ?_, ?_, ?_, ?_⟩
    · show Own _ _ _ _ _
      rw [← hv]; exact HO1.out
    · show _ = _
      simp [NB.encs]
    · show _ = _
      omega
    · intro h
      omega
  case round =>
    clear HO1 HW1 HO0
    obtain ⟨k, m, A2, n2, c2, acc, hk, rfl, rfl, rfl, hn2, hbr, HO, HA, HN2, HM⟩ := hrel
    by_cases hlt : k < n
    · obtain ⟨b0, o0, hkl, rfl, hx, hcell⟩ := (HL.out.below hbr).at_ hlt
      obtain ⟨X, hX⟩ : ∃ X, X = l[k] := ⟨_, rfl⟩
      rw [← hX] at hcell hx
      have HX := Lib.hid hX
      have HXM : Hid (X < PN.M64) := hx
      have hxl := PN.enc_len64 X HXM.out
      clear hx hX
      go_wp2_with fail
      (with_reducible refine (numPut X HXM.out _).mono ?_)
      rintro e w3 ⟨v3, rfl, hO3, hb3⟩
      obtain ⟨A3, n3, c3, rfl, hB3, _, hz3⟩ := hO3.form_n
      have HB3 := Lib.hid hB3
      have HZ3 := Lib.hid hz3
      have HO3 := Lib.hid (HO.out.below hb3 HO.out.lt)
      have hW3 := hbr.trans (hb3.mono hbr.size)
      have hn3 : n3 ≤ 17 := by rw [← hB3.len]; exact hxl
      clear hO3 hB3 hz3 hb3 hbr hcell HO
      go_wp2_with (refine wpList_of_wp rfl (fun K hK => wp_append_bytes (.tmp 44) (.tmp 49) 23 row_u8 rfl (PN.enc X) rfl HO3.out w3.heap.size A3 n3 c3 rfl HB3.out HZ3.out (by have := HN2.out; omega) hW3.size ?_); intro v4 w4 hO4 hg4 hd4; have HW4 := Lib.hid (below_grown_own hW3 HO3.out hg4); obtain ⟨A4, n4, c4, hv4, hB4, _, _⟩ := hO4.form_n; have HO4 := Lib.hid hO4; have HN4 := Lib.hid hB4.len; clear hO4 hg4 hd4 hB4; subst hv4; refine hK _ _ ?_; clear hK K)
      go_roundw
      case rel =>
        have e1 : acc ++ PN.enc X = hd ++ NB.encs (l.take (k + 1)) := by rw [NB.encs_snoc l k hkl, HA.out, HX.out, List.append_assoc]
        have e2 := HN4.out
        have e3 : (NB.encs (l.take (k + 1))).length ≤ 300 := NB.encs_take_len l (k + 1) HL.out.1.2 (by have := HN.out; omega)
        refine ⟨k + 1, n2, A4, n4, c4, acc ++ PN.enc X, hlt, by go_num, rfl, rfl, ?_, HW4.out, HO4.out, e1, e2.symm, ?_⟩
        · rw [← e2, e1, List.length_append, HN1.out]
          omega
        · intro _
          rw [Nat.add_sub_cancel, ← HA.out]
          exact HN2.out
      case measure => simp [intOf]; omega
    · obtain rfl : k = n := by omega
      have hm : m = (hd ++ NB.encs (l.take (k - 1))).length := HM.out (by omega)
      have hlast := NB.encs_last l k HN.out (by omega)
      have hall : NB.encs (l.take k) = NB.encs l := by rw [← HN.out, List.take_length]
      obtain ⟨X, hX⟩ : ∃ X, X = l[k - 1]'(by rw [HN.out]; omega) := ⟨_, rfl⟩
      rw [← hX] at hlast
      have HXM : Hid (X < PN.M64) := by
        show X < _
        rw [hX]
        exact HL.out.1.2 _ (List.getElem_mem _)
      have hlx := PN.enc_pos X
      have hlx2 := PN.enc_len64 X HXM.out
      have hacc : acc = (hd ++ NB.encs (l.take (k - 1))) ++ PN.enc X := by rw [HA.out, hall, hlast, List.append_assoc]
      have HAcc := Lib.hid hacc
      have HM2 := Lib.hid hm
      have HLast := Lib.hid hlast
      have hmn : m < n2 := by rw [HN2.out, hacc, List.length_append, hm]; omega
      have HMN : Hid (n2 = m + (PN.enc X).length) := by show _ = _; rw [HN2.out, hacc, List.length_append, hm]
      have HAll := Lib.hid hall
      clear hm hlast hall hX hacc HM
      obtain ⟨A2', n2', c2', hv2, hB2, hc2, _⟩ := HO.out.form_n
      cases hv2
      have HB2 := Lib.hid hB2
      clear hB2
      go_wp2_with fail
      go_loop [10, 11] (fun a i => ∃ (j p : Nat), j ≤ k ∧ i = .int .i64 j ∧ a = .int .i64 p ∧ p ≤ n2 ∧ Hid (p = (hd ++ NB.encs (l.take j)).length)) (fun _ i => k - (intOf i).toNat)
      case atStart => exact ⟨0, n1, Nat.zero_le _, rfl, rfl, by have := HN1.out; have := HN2.out; have := congrArg List.length HA.out; rw [List.length_append] at this; omega, (by show _ = _; rw [← HN1.out]; simp [NB.encs])⟩
      case round =>
        obtain ⟨j, p, hj, rfl, rfl, hp, HP⟩ := hrel
        by_cases hlt2 : j < k
        · obtain ⟨b0, o0, hkl, rfl, hx, hcell⟩ := (HL.out.below hbr).at_ hlt2
          obtain ⟨Y, hY⟩ : ∃ Y, Y = l[j] := ⟨_, rfl⟩
          have hsp := NB.encs_split l j hkl
          rw [← hY] at hcell hx hsp
          have hyp := PN.enc_pos Y
          have hga : getRes acc p = (Y, p + (PN.enc Y).length, 0) := by
            rw [HA.out, HAll.out, hsp, HP.out, ← List.append_assoc]
            exact NB.res_enc _ _ _ hx
          have hle : p + (PN.enc Y).length ≤ n2 := by
            have := HN2.out
            rw [HA.out, HAll.out, hsp, ← List.append_assoc, List.length_append, ← HP.out, List.length_append] at this
            omega
          have hget := numGet A2 n2 c2 wr.heap.size p acc wr HB2.out (by omega) hp
          rw [hga] at hget
          have HP2 : Hid (p + (PN.enc Y).length = (hd ++ NB.encs (l.take (j + 1))).length) := by
            show _ = _
            rw [NB.encs_snoc l j hkl, ← hY, ← List.append_assoc, List.length_append, ← HP.out]
          obtain ⟨y, hyE⟩ : ∃ y, y = p + (PN.enc Y).length := ⟨_, rfl⟩
          rw [← hyE] at hget HP2 hle
          have hpy : p < y := by omega
          have HG : Hid (Calls Try.prog 11 #[.slice A2 n2 c2, .int .i64 (p : Int)] wr fun e w' => e = .returned (.tuple #[.int .u64 (Y : Int), .int .i64 (y : Int), .int .i64 0]) ∧ wr = w') := hget
          have p1 : decide (y ≤ p) = false := decide_eq_false (by omega)
          have p2 : decide (n2 < y) = false := decide_eq_false (by omega)
          clear hget hga hsp hY hyE hyp hx
          go_wp2_with fail
          (with_reducible refine HG.out.mono ?_)
          rintro e w5 ⟨rfl, rfl⟩
          clear HG
          go_wp2_with fail
          go_round
          case rel => exact ⟨j + 1, y, hlt2, by go_num, rfl, hle, HP2⟩
          case measure => simp [intOf]; omega
        · obtain rfl : j = k := by omega
          have hpn : p = n2 := by rw [HP.out, HN2.out, HA.out]
          subst hpn
          have p1 : decide (p ≤ m) = false := decide_eq_false (by omega)
          obtain ⟨t, ht1, ht2, ht⟩ : ∃ t : Nat, m ≤ t ∧ t < p ∧ wrap64 ((m : Int) + wrap64 ((IntKind.u64.wrap q).tmod ((p : Int) - (m : Int)))) = (t : Int) := by
            have h0 : 0 ≤ IntKind.u64.wrap q := by rw [IntKind.wrap_u64]; omega
            rw [Int.tmod_eq_emod_of_nonneg h0]
            generalize IntKind.u64.wrap q = z at *
            have g1 := Int.emod_nonneg z (show (p : Int) - (m : Int) ≠ 0 by omega)
            have g2 := Int.emod_lt_of_pos z (show 0 < (p : Int) - (m : Int) by omega)
            generalize z % ((p : Int) - (m : Int)) = x at *
            refine ⟨((m : Int) + x).toNat, by omega, by omega, ?_⟩
            rw [IntWalk.wrap64_in x (by omega), IntWalk.wrap64_in ((m : Int) + x) (by omega)]
            omega
          have hs := fun w => run_front_at row_u8 A2 p c2 t (by omega) w
          have hbt := HB2.out.part (i := 0) (j := t) (m := c2) (by omega) (by omega) (by omega)
          rw [cutA_zero, Nat.sub_zero, List.drop_zero] at hbt
          have hget := numGet A2 t c2 wr.heap.size m _ wr hbt (by omega) ht1
          have hcut : getRes (acc.take t) m = (0, m, 3) := by
            have := NB.res_cut (hd ++ NB.encs (l.take (j - 1))) X t (by rw [← HM2.out]; exact ht1) (by rw [← HM2.out, ← HMN.out]; exact ht2)
            rw [← HAcc.out, ← HM2.out] at this
            exact this
          rw [hcut] at hget
          have HG : Hid (Calls Try.prog 11 #[.slice A2 t c2, .int .i64 (m : Int)] wr fun e w' => e = .returned (.tuple #[.int .u64 0, .int .i64 (m : Int), .int .i64 3]) ∧ wr = w') := hget
          clear hget hcut hbt
          go_wp2_with fail
          (with_reducible refine HG.out.mono ?_)
          rintro e w5 ⟨rfl, rfl⟩
          clear HG hs ht
          go_wp2_with fail
          (with_reducible refine (told9 _).mono ?_)
          rintro e w6 ⟨rfl, hb6⟩
          go_wp2_with fail
          go_ret
          exact ⟨rfl, hbr.trans (hb6.mono hbr.size)⟩
set_option maxRecDepth 100000 in
set_option maxHeartbeats 4000000 in
theorem walkNumBack (A : Option Addr) (n c : Nat) (l : List Nat) (A1 : Option Addr) (n1 c1 : Nat) (hd : List UInt8) (q : Int) (w : World) (hl : Nats w w.heap.size A n l) (hc : n ≤ c) (hm : c ≤ maxLen) (hz : A = none → n = 0 ∧ c = 0)
    (hb1 : Bytes w w.heap.size A1 n1 hd) (hc1 : n1 ≤ c1) (hm1 : c1 ≤ maxLen) (hz1 : A1 = none → n1 = 0 ∧ c1 = 0) (hq : (Lit.int .i64 q).wf = true) :
    Calls Try.prog 3 #[.slice A n c, .slice A1 n1 c1, .int .i64 q] w fun e w' => e = .returned (.bool true) ∧ Below w.heap.size w w' := by
  have hq' := bounds_i64 hq
  unfold maxLen at hm hm1
  by_cases h : 1 ≤ n ∧ n ≤ 12 ∧ n1 ≤ 9
  · exact numBack A n c l A1 n1 c1 hd q w hl hb1 (fun h => (hz1 h).2) h.1 h.2.1 h.2.2 (by omega) (by omega)
  · obtain h1 | ⟨h1, h2⟩ | ⟨h1, h2, h3⟩ : (n : Int) < 1 ∨ (¬ (n : Int) < 1 ∧ (12 : Int) < (n : Int)) ∨ (¬ (n : Int) < 1 ∧ ¬ (12 : Int) < (n : Int) ∧ (9 : Int) < (n1 : Int)) := by omega
    all_goals
      clear h hq hq' hl hb1 hz hz1
      go_enter Try.func3, Try.ntmps3
      go_wp2_with (go_at_call 9; refine (told9 _).mono ?_; rintro e w2 ⟨rfl, hb2⟩)
      go_ret
      exact ⟨rfl, hb2⟩
end Go.Proofs.Ytmllblgninmolaa
