/- The walk of BitsBack. -/
import Derived.Test.YtmllblgninmolaaWalkBitsOne
import Derived.Test.YtmllblgninmolaaOpenOps
namespace Go.Proofs.Ytmllblgninmolaa
open Go.RowKit
set_option linter.unusedVariables false
namespace BB
/-- How many bits of a step are written. -/
def kl (z : Int) : Nat := ((IntKind.u64.wrap z) % 33).toNat
theorem kl_le (z : Int) : kl z ≤ 32 := by
  unfold kl
  omega
theorem kl_eq (z : Int) : wrap64 ((IntKind.u64.wrap z).tmod 33) = (kl z : Int) := by
  have h0 : 0 ≤ IntKind.u64.wrap z := by rw [IntKind.wrap_u64]; omega
  unfold kl
  rw [Int.tmod_eq_emod_of_nonneg h0]
  generalize IntKind.u64.wrap z = y at *
  rw [IntWalk.wrap64_in (y % 33) (by omega)]
  omega
/-- The bits of steps. -/
def bsOf (l : List (Nat × Int)) : List Bool := l.flatMap fun x => PB.bitsOf x.1 (kl x.2)
theorem bsOf_snoc (l : List (Nat × Int)) (k : Nat) (h : k < l.length) : bsOf (l.take (k + 1)) = bsOf (l.take k) ++ PB.bitsOf l[k].1 (kl l[k].2) := by
  unfold bsOf
  rw [List.take_succ_eq_append_getElem h, List.flatMap_append]
  simp
theorem bsOf_split (l : List (Nat × Int)) (k : Nat) (h : k < l.length) : bsOf l = bsOf (l.take k) ++ (PB.bitsOf l[k].1 (kl l[k].2) ++ bsOf (l.drop (k + 1))) := by
  unfold bsOf
  conv => lhs; rw [← List.take_append_drop k l, List.drop_eq_getElem_cons h]
  rw [List.flatMap_append, List.flatMap_cons]
theorem bsOf_len (l : List (Nat × Int)) : (bsOf l).length ≤ 32 * l.length := by
  induction l with
  | nil => simp [bsOf]
  | cons x r ih =>
    have := kl_le x.2
    unfold bsOf at *
    rw [List.flatMap_cons, List.length_append, PB.bitsOf_length, List.length_cons]
    omega
theorem bsOf_take_len (l : List (Nat × Int)) (k : Nat) (h : l.length ≤ 40) : (bsOf (l.take k)).length ≤ 1280 := by
  have h1 := bsOf_len (l.take k)
  have h2 : (l.take k).length ≤ l.length := List.length_take_le' _ _
  omega
/-- What Get gives of what was written. -/
theorem got (l : List (Nat × Int)) (k : Nat) (h : k < l.length) : PB.val (((PB.toBits (PB.pack (bsOf l))).drop (bsOf (l.take k)).length).take (kl l[k].2)) = l[k].1 % 2 ^ kl l[k].2 := by
  rw [PB.toBits_pack _ _ rfl]
  conv => lhs; rw [bsOf_split l k h]
  rw [List.append_assoc, List.drop_left, List.append_assoc]
  have := List.take_left (l₁ := PB.bitsOf l[k].1 (kl l[k].2)) (l₂ := bsOf (l.drop (k + 1)) ++ List.replicate (PB.pad (bsOf (l.take k) ++ (PB.bitsOf l[k].1 (kl l[k].2) ++ bsOf (l.drop (k + 1)))).length) false)
  rw [PB.bitsOf_length] at this
  rw [this, PB.val_bitsOf]
theorem mask (n k : Nat) (hn : n < 18446744073709551616) (hk : k ≤ 32) : bits .and .u64 (n : Int) ((2 : Int) ^ k - 1) = ((n % 2 ^ k : Nat) : Int) := by
  have hp : 2 ^ k ≤ 2 ^ 32 := Nat.pow_le_pow_right (by decide) hk
  have h1 := Nat.two_pow_pos k
  have e : (2 : Int) ^ k - 1 = ((2 ^ k - 1 : Nat) : Int) := by
    have : ((2 ^ k : Nat) : Int) = (2 : Int) ^ k := by simp
    omega
  rw [e, bits_and_u64_nat n (2 ^ k - 1) hn (by omega), Nat.and_two_pow_sub_one_eq_mod]
theorem restFull (bs : List Bool) : restB (PB.pack bs) bs.length = true := by
  unfold restB
  rw [PB.pack_length _ _ rfl, PB.toBits_pack _ _ rfl, List.drop_left, PB.val_zeros]
  rw [decide_eq_true (by omega)]
  rfl
end BB
set_option maxRecDepth 100000 in
set_option maxHeartbeats 4000000 in
theorem bitsBack (A : Option Addr) (n c : Nat) (l : List (Nat × Int)) (w : World) (hl : Ops w w.heap.size A n l) (hn : n ≤ 40) :
    Calls Try.prog 7 #[.slice A n c] w fun e w' => e = .returned (.bool true) ∧ Below w.heap.size w w' := by
  have HL := Lib.hid hl
  have HN := Lib.hid hl.len
  clear hl
  have t1 : ¬ (40 : Int) < (n : Int) := by omega
  have HO0 := Lib.hid (OutAt.new w)
  have hW0 : Below w.heap.size w (w.alloc (.cells #[.pointer none, .int .u64 0, .int .i64 0] 40)) := (Below.refl _ _).alloc (Nat.le_refl _) _
  go_enter Try.func7, Try.ntmps7
  go_wp2_with fail
  go_loopw [4, 5] (fun sm i wr => ∃ (k S : Nat) (p : Option Addr) (gs : List Nat) (us : List (List Bool)) (pt : List Bool), k ≤ n ∧ S ≤ 1280 ∧ i = .int .i64 k ∧ sm = .int .i64 S ∧ Hid (OutAt wr w.heap.size p gs us pt) ∧ Hid (bitsSt us pt = BB.bsOf (l.take k)) ∧ Hid (S = (BB.bsOf (l.take k)).length) ∧ Below w.heap.size w wr) (fun _ i _ => n - (intOf i).toNat)
  case atStart => exact ⟨0, 0, none, [], [], [], Nat.zero_le _, Nat.zero_le _, rfl, rfl, HO0, rfl, rfl, hW0⟩
  case round =>
    clear HO0 hW0
    obtain ⟨k, S, p, gs, us, pt, hk, hS, rfl, rfl, HO, HE, HS, hW⟩ := hrel
    by_cases hlt : k < n
    · obtain ⟨b0, o0, hkl, rfl, hx1, hx2, hc0, hc1⟩ := (HL.out.below hW).at_ hlt
      have hsn := BB.bsOf_snoc l k hkl
      obtain ⟨X, hX⟩ : ∃ X, X = l[k] := ⟨_, rfl⟩
      rw [← hX] at hx1 hc0 hc1 hsn
      obtain ⟨x, z⟩ := X
      have HX : Hid (x < 18446744073709551616) := hx1
      have hkl2 := BB.kl_le z
      have hke := BB.kl_eq z
      obtain ⟨K, hK⟩ : ∃ K, K = BB.kl z := ⟨_, rfl⟩
      have HSn : Hid (BB.bsOf (l.take (k + 1)) = BB.bsOf (l.take k) ++ PB.bitsOf x K) := by show _ = _; rw [hsn, hK]
      rw [← hK] at hke hkl2
      have hlen2 : (BB.bsOf (l.take (k + 1))).length ≤ 1280 := BB.bsOf_take_len l _ (by rw [HN.out]; exact hn)
      have hS2 : S + K ≤ 1280 := by
        rw [HSn.out, List.length_append, PB.bitsOf_length, ← HS.out] at hlen2
        exact hlen2
      have hol : 64 * us.length + pt.length ≤ 2000 := by rw [outLen HO.out, HE.out, ← HS.out]; omega
      clear hx1 hx2 hsn hX hK hlen2
      go_wp2_with fail
      (with_reducible refine (outPut w.heap.size x K p gs us pt wr HX.out hkl2 HO.out (by omega)).mono ?_)
      rintro e w1 ⟨rfl, p1, gs1, us1, pt1, hO1, hb1, hg1, _⟩
      have HO1 := Lib.hid hO1
      have HE1 : Hid (bitsSt us1 pt1 = BB.bsOf (l.take (k + 1))) := by show _ = _; rw [hb1, HSn.out, HE.out]
      have HS1 : Hid (S + K = (BB.bsOf (l.take (k + 1))).length) := by show _ = _; rw [HSn.out, List.length_append, PB.bitsOf_length, ← HS.out]
      have hW1 := hW.grown hg1 hW.size (by intro g hg; injection hg with hg; omega)
      clear hO1 hb1 hg1 HO HE HS hc0 hc1 hke hW
      go_wp2_with fail
      go_roundw
      case rel => exact ⟨k + 1, S + K, p1, gs1, us1, pt1, hlt, hS2, by go_num, by go_num, HO1, HE1, HS1, hW1⟩
      case measure => simp [intOf]; omega
    · obtain rfl : k = n := by omega
      have hall : l.take k = l := by rw [← HN.out, List.take_length]
      rw [hall] at HE HS
      have hol : 64 * us.length + pt.length = S := by rw [outLen HO.out, HE.out, ← HS.out]
      have HOL := Lib.hid hol
      obtain ⟨Z, hZ⟩ : ∃ Z, Z = PB.pack (BB.bsOf l) := ⟨_, rfl⟩
      obtain ⟨m, hm⟩ : ∃ m, m = Z.length := ⟨_, rfl⟩
      have hmS : m = (S + 7) / 8 := by rw [hm, hZ, PB.pack_length _ _ rfl, ← HS.out]
      have HZ := Lib.hid hZ
      have HM := Lib.hid hm
      have HMS := Lib.hid hmS
      have kb := fun (w2 : World) (ho : OutAt w2 w.heap.size p gs us pt) => outBytes w.heap.size p gs us pt w2 ho (by omega)
      have KB : Hid (∀ w2 : World, OutAt w2 w.heap.size p gs us pt → Calls Try.prog 19 #[.pointer (some ⟨w.heap.size, 0, none⟩)] w2 fun e w' => e = .returned (.slice (some ⟨w2.heap.size, 0, none⟩) m m) ∧ ByteBlk w' w2.heap.size Z ∧ Below w2.heap.size w2 w') := by
        intro w2 ho
        have := kb w2 ho
        rw [HE.out, ← hZ, ← hm] at this
        exact this
      have hm2 : m ≤ 1000 := by omega
      have hgs : Hid (∀ g ∈ gs, g < wr.heap.size) := HO.out.2.1.lt
      have hgo := HO.out.1.lt
      clear hall hol hZ hm hmS kb
      go_wp2_with fail
      (with_reducible refine (KB.out wr HO.out).mono ?_)
      rintro e w1 ⟨rfl, hZ1, hb1⟩
      have HZB := Lib.hid hZ1
      have HO1 := Lib.hid (HO.out.below hb1)
      have hW1 := hW.trans (hb1.mono hW.size)
      have hsz1 := hb1.size
      have HY1 : Hid (Bytes w1 (wr.heap.size + 1) (some ⟨wr.heap.size, 0, none⟩) m Z) := by
        have := ByteBlk.bytes HZB.out
        rw [← HM.out] at this
        exact this
      clear hZ1 hb1 HO hW HZB
      go_wp2_with fail
      (with_reducible refine (inFrom (some ⟨wr.heap.size, 0, none⟩) m m _ Z w1 HY1.out (fun h => by cases h) (by omega)).mono ?_)
      rintro e w2 ⟨gi, A2, n2, c2, rfl, hI2, hgi, hb2⟩
      have hn2 : n2 = m := by rw [← hI2.2.1.len, HM.out]
      subst hn2
      have HI2 := Lib.hid hI2
      have HO2 := Lib.hid (HO1.out.below hb2)
      have hW2 := hW1.trans (hb2.mono hW1.size)
      have hgi0 : w.heap.size ≠ gi := by omega
      have hgiW : w.heap.size ≤ gi := by omega
      have HGig : Hid (gi ∉ gs) := fun h => by have := hgs.out gi h; omega
      clear hI2 hb2 HO1 hW1 HY1 hgi hsz1 hgo hgs
      have kl := outLong w.heap.size p gs us pt w2 HO2.out
      rw [HE.out, ← HS.out] at kl
      have KL := Lib.hid kl
      clear kl
      go_wp2_with fail
      (with_reducible refine KL.out.mono ?_)
      rintro e w3 ⟨rfl, rfl⟩
      clear KL
      go_wp2_with fail
      (with_reducible refine (KB.out w2 HO2.out).mono ?_)
      rintro e w3 ⟨rfl, _, hb3⟩
      have HI3 := Lib.hid (HI2.out.below hb3)
      have HO3 := Lib.hid (HO2.out.below hb3)
      have hW3 := hW2.trans (hb3.mono hW2.size)
      clear hb3 HI2 HO2 hW2
      have em : (n2 : Int) = ((S : Int) + 7) / 8 := by have := HMS.out; omega
      have em2 : ((n2 : Int) != ((S : Int) + 7) / 8) = false := by simpa using em
      clear em
      go_wp2_with fail
      go_loopw [8] (fun i wq => ∃ (j P : Nat), j ≤ k ∧ i = .int .i64 j ∧ Hid (P = (BB.bsOf (l.take j)).length) ∧ Hid (InAt wq gi A2 n2 c2 Z P) ∧ Hid (OutAt wq w.heap.size p gs us pt) ∧ Below w.heap.size w wq) (fun i _ => k - (intOf i).toNat)
      case atStart => exact ⟨0, 0, Nat.zero_le _, rfl, rfl, HI3, HO3, hW3⟩
      case round =>
        clear HI3 HO3 hW3 em2
        obtain ⟨j, P, hj, rfl, HP, HI, HO, hW⟩ := hrel
        by_cases hlt2 : j < k
        · obtain ⟨b0, o0, hjl, rfl, hx1, hx2, hc0, hc1⟩ := (HL.out.below hW).at_ hlt2
          have hsn := BB.bsOf_snoc l j hjl
          have hgot := BB.got l j hjl
          have hsp := BB.bsOf_split l j hjl
          obtain ⟨X, hX⟩ : ∃ X, X = l[j] := ⟨_, rfl⟩
          rw [← hX] at hx1 hc0 hc1 hsn hgot hsp
          obtain ⟨x, z⟩ := X
          simp only at hsn hgot hsp hx1 hc0 hc1
          have hkl2 := BB.kl_le z
          have hke := BB.kl_eq z
          obtain ⟨K, hK⟩ : ∃ K, K = BB.kl z := ⟨_, rfl⟩
          rw [← hK] at hke hkl2 hsn hgot hsp
          have hPK : P + K ≤ 8 * n2 := by
            have h1 := congrArg List.length hsp
            rw [List.length_append, List.length_append, PB.bitsOf_length, ← HP.out, ← HS.out] at h1
            have := HMS.out
            omega
          have hg := inGet gi A2 n2 c2 Z P K wr HI.out hkl2 hPK
          have hval : PB.val (((PB.toBits Z).drop P).take K) = x % 2 ^ K := by rw [HZ.out, HP.out]; exact hgot
          rw [hval] at hg
          have hmask := BB.mask x K hx1 hkl2
          obtain ⟨Y, hY⟩ : ∃ Y, Y = x % 2 ^ K := ⟨_, rfl⟩
          rw [← hY] at hg hmask
          have HG := Lib.hid hg
          have HP2 : Hid (P + K = (BB.bsOf (l.take (j + 1))).length) := by show _ = _; rw [hsn, List.length_append, PB.bitsOf_length, ← HP.out]
          clear hsn hgot hsp hX hK hval hY hg hx1 hx2
          have HC0 := Lib.hid hc0
          go_wp2_with fail
          (with_reducible refine HG.out.mono ?_)
          rintro e w4 ⟨rfl, hI4, hg4⟩
          have HI4 := Lib.hid hI4
          have HO4 := Lib.hid (HO.out.grown hg4 hgi0 HGig.out)
          have hW4 := hW.grown hg4 hW.size (by intro g hg; injection hg with hg; omega)
          have hc04 : w4.cell? ⟨b0, o0 + j * 2, none⟩ = some (.int .u64 (x : Int)) := by
            obtain ⟨b1, o1, hjl1, e1, _, _, d0, _⟩ := (HL.out.below hW4).at_ hlt2
            cases e1
            obtain ⟨b2, o2, hjl2, e2, _, _, d2, _⟩ := (HL.out.below hW).at_ hlt2
            cases e2
            rw [HC0.out] at d2
            rw [d0, ← d2]
          clear hI4 hg4 HI HO hW hc0 hc1 HC0 HG
          have hpow : (1 : Int) ≤ 2 ^ K ∧ (2 : Int) ^ K ≤ 4294967296 := by
            have h1 := Nat.two_pow_pos K
            have h2 : 2 ^ K ≤ 2 ^ 32 := Nat.pow_le_pow_right (by decide) hkl2
            have e1 : ((2 ^ K : Nat) : Int) = (2 : Int) ^ K := by simp
            omega
          have hmin : min K 64 = K := by omega
          have hp1 : IntKind.u64.wrap ((2 : Int) ^ K) = 2 ^ K := IntWalk.u64_in _ (by omega)
          have hp2 : IntKind.u64.wrap ((2 : Int) ^ K - 1) = 2 ^ K - 1 := IntWalk.u64_in _ (by omega)
          have jK : IntKind.u64.wrap (K : Int) = (K : Int) := IntWalk.u64_in _ (by omega)
          clear hpow
          go_wp2_with fail
          go_roundw
          case rel => exact ⟨j + 1, P + K, hlt2, by go_num, HP2, HI4, HO4, hW4⟩
          case measure => simp [intOf]; omega
        · obtain rfl : j = k := by omega
          have hall : l.take j = l := by rw [← HN.out, List.take_length]
          rw [hall, ← HS.out] at HP
          obtain rfl : P = S := HP.out
          clear HP hall
          have hS8 : P ≤ 8 * n2 := by have := HMS.out; omega
          go_wp2_with fail
          (with_reducible refine (told10 _).mono ?_)
          rintro e w5 ⟨rfl, hb5⟩
          have HI5 := Lib.hid (HI.out.below hb5)
          have HO5 := Lib.hid (HO.out.below hb5)
          have hW5 := hW.trans (hb5.mono hW.size)
          clear hb5 HI HO hW
          have kr := inRest gi A2 n2 c2 Z P w5 HI5.out
          have hrest : restB Z P = true := by rw [HZ.out, HS.out]; exact BB.restFull _
          rw [hrest] at kr
          have KR := Lib.hid kr
          clear kr hrest
          go_wp2_with fail
          (with_reducible refine KR.out.mono ?_)
          rintro e w6 ⟨rfl, hb6⟩
          have HI6 := Lib.hid (HI5.out.below hb6)
          have HO6 := Lib.hid (HO5.out.below hb6)
          have hW6 := hW5.trans (hb6.mono hW5.size)
          clear hb6 HI5 HO5 hW5 KR
          go_wp2_with fail
          (with_reducible refine (inLeft gi A2 n2 c2 Z P w6 HI6.out).mono ?_)
          rintro e w7 ⟨rfl, hw7⟩
          have HO7 : Hid (OutAt w7 w.heap.size p gs us pt) := by rw [← hw7]; exact HO6.out.keep rfl (fun _ _ _ => rfl)
          have hW7 : Below w.heap.size w w7 := by rw [← hw7]; exact hW6.drew
          clear hw7 HI6 HO6 hW6
          go_wp2_with fail
          (with_reducible refine (KB.out w7 HO7.out).mono ?_)
          rintro e w8 ⟨rfl, _, hb8⟩
          have hW8 := hW7.trans (hb8.mono hW7.size)
          clear hb8
          have ef : (8 * (n2 : Int) - (P : Int) == (n2 : Int) * 8 - (P : Int)) = true := by rw [beq_iff_eq]; omega
          go_wp2_with fail
          go_ret
          exact ⟨rfl, hW8⟩
set_option maxRecDepth 100000 in
set_option maxHeartbeats 1000000 in
theorem walkBitsBack (A : Option Addr) (n c : Nat) (l : List (Nat × Int)) (w : World) (hl : Ops w w.heap.size A n l) (hc : n ≤ c) (hm : c ≤ maxLen) (hz : A = none → n = 0 ∧ c = 0) :
    Calls Try.prog 7 #[.slice A n c] w fun e w' => e = .returned (.bool true) ∧ Below w.heap.size w w' := by
  unfold maxLen at hm
  by_cases h : n ≤ 40
  · exact bitsBack A n c l w hl h
  · have h1 : (40 : Int) < (n : Int) := by omega
    clear hl hz h
    go_enter Try.func7, Try.ntmps7
    go_wp2_with (go_at_call 15; refine (told10 _).mono ?_; rintro e w2 ⟨rfl, hb2⟩)
    go_ret
    exact ⟨rfl, hb2⟩
end Go.Proofs.Ytmllblgninmolaa
