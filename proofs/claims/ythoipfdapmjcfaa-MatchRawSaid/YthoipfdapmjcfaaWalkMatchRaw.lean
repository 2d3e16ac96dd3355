/- The walk of MatchRaw. -/
import Derived.Test.YthoipfdapmjcfaaTold11
import Derived.Test.YthoipfdapmjcfaaPlainMatch2
namespace Go.Proofs.Ythoipfdapmjcfaa
open Go.RowKit
set_option linter.unusedVariables false
namespace MR
/-- The room. -/
def room (z : Int) : Nat := ((IntKind.u64.wrap z) % 501).toNat
theorem room_le (z : Int) : room z ≤ 500 := by
  unfold room
  omega
theorem room_eq (z : Int) : wrap64 ((IntKind.u64.wrap z).tmod 501) = (room z : Int) := by
  have h0 : 0 ≤ IntKind.u64.wrap z := by rw [IntKind.wrap_u64]; omega
  unfold room
  rw [Int.tmod_eq_emod_of_nonneg h0]
  generalize IntKind.u64.wrap z = y at *
  rw [IntWalk.wrap64_in (y % 501) (by omega)]
  omega
theorem sum_next (ts : List PM.Tok) (k : Nat) (t : PM.Tok) (h : ts[k]? = some t) : PM.sumL (ts.take (k + 1)) = PM.sumL (ts.take k) + (max t.2.2 1).toNat := by
  obtain ⟨hk, rfl⟩ := List.getElem?_eq_some_iff.1 h
  rw [List.take_succ_eq_append_getElem hk, PM.sumL_snoc]
end MR
set_option maxRecDepth 100000 in
set_option maxHeartbeats 4000000 in
theorem matchRaw (A : Option Addr) (n c : Nat) (ts : List PM.Tok) (q : Int) (w : World) (hl : Toks w w.heap.size A n ts) (hn : n ≤ 30) :
    Calls Try.prog 7 #[.slice A n c, .int .i64 q] w fun e w' => e = .returned (.bool true) ∧ Below w.heap.size w w' := by
  have HL := Lib.hid hl
  have HN := Lib.hid hl.len
  have hJ := fun (m : Nat) (hm : m ≤ 500) => join_any A n c w.heap.size ts (m : Int) m w hl (Nat.le_refl _) (by omega) (by omega) (by omega)
  have HJ := Lib.hid hJ
  clear hl hJ
  have t1 : ¬ (30 : Int) < (n : Int) := by omega
  have hr := MR.room_eq q
  have hr2 := MR.room_le q
  generalize MR.room q = m at *
  go_enter Try.func7, Try.ntmps7
  go_wp2_with fail
  have hJ := HJ.out m hr2
  have hI := PM.join_any_is ts (m : Int) [] (by simp)
  generalize PM.join ts (m : Int) [] = R at *
  obtain ⟨rb, re⟩ := R
  refine hJ.mono ?_
  clear hJ HJ
  rintro e w1 ⟨v, rfl, hO, hW⟩
  obtain ⟨A1, n1, c1, rfl, hB1, _, _⟩ := hO.form_n
  have hn1 := hB1.len
  clear hO hB1
  simp only at hI
  rcases hI with ⟨rfl, hI⟩ | ⟨rfl, hI1, hI2, hI3⟩
  · have h0 : n1 = 0 := hn1.symm
    subst h0
    rcases hI with rfl | rfl | rfl
    · go_wp2_with fail
      (with_reducible refine (told11 _).mono ?_)
      rintro e w2 ⟨rfl, hb2⟩
      have hW2 := hW.trans (hb2.mono hW.size)
      go_wp2_with fail
      go_ret
      exact ⟨rfl, hW2⟩
    · go_wp2_with fail
      (with_reducible refine (told11 _).mono ?_)
      rintro e w2 ⟨rfl, hb2⟩
      have hW2 := hW.trans (hb2.mono hW.size)
      go_wp2_with fail
      go_ret
      exact ⟨rfl, hW2⟩
    · go_wp2_with fail
      (with_reducible refine (told11 _).mono ?_)
      rintro e w2 ⟨rfl, hb2⟩
      have hW2 := hW.trans (hb2.mono hW.size)
      go_wp2_with fail
      go_ret
      exact ⟨rfl, hW2⟩
  · have hs : n1 = PM.sumL ts := by rw [← hn1, hI1]; simp
    have hle : n1 ≤ m := by omega
    have HS := Lib.hid hs
    have HM := Lib.hid hI3
    clear hI1 hI2 hI3 hs hn1 hr
    go_wp2_with fail
    go_loopw [8, 9] (fun sm i wr => ∃ (k S : Nat), k ≤ n ∧ S ≤ 66 * k ∧ i = .int .i64 k ∧ sm = .int .i64 S ∧ Hid (S = PM.sumL (ts.take k)) ∧ Below w.heap.size w wr) (fun _ i _ => n - (intOf i).toNat)
    case atStart => exact ⟨0, 0, Nat.zero_le _, Nat.zero_le _, rfl, rfl, rfl, hW⟩
    case round =>
      clear hW
      obtain ⟨k, S, hk, hS, rfl, rfl, HE, hW⟩ := hrel
      by_cases hlt : k < n
      · obtain ⟨b, off, ⟨x, y, z⟩, rfl, _, hg, k0, k1, k2⟩ := (HL.out.below hW).pick hlt
        have hz := PM.may_long (HM.out _ (List.mem_of_getElem? hg))
        have hnx := MR.sum_next ts k _ hg
        simp only at hz hnx k0 k1 k2
        obtain ⟨Z, hZ⟩ : ∃ Z, Z = (max z 1).toNat := ⟨_, rfl⟩
        rw [← hZ] at hz hnx
        have ez : (if z < 1 then 1 else z) = (Z : Int) := by split <;> omega
        have ez2 : (if 1 < z then z else 1) = (Z : Int) := by split <;> omega
        have ez3 : (if 1 > z then 1 else z) = (Z : Int) := by split <;> omega
        have HE1 : Hid (S + Z = PM.sumL (ts.take (k + 1))) := by show _ = _; rw [hnx, HE.out]
        clear hZ hnx hg HE k0 k1
        go_wp2_with fail
        go_roundw
        case rel => exact ⟨k + 1, S + Z, hlt, by omega, by go_num, by go_num, HE1, hW⟩
        case measure => simp [intOf]; omega
      · obtain rfl : k = n := by omega
        have hall : ts.take k = ts := by rw [← HN.out, List.take_length]
        rw [hall, ← HS.out] at HE
        obtain rfl : S = n1 := HE.out
        clear HE hall HS
        have hle' : (S : Int) ≤ (m : Int) := by omega
        go_wp2_with fail
        (with_reducible refine (told11 _).mono ?_)
        rintro e w2 ⟨rfl, hb2⟩
        have hW2 := hW.trans (hb2.mono hW.size)
        go_wp2_with fail
        go_ret
        exact ⟨rfl, hW2⟩
set_option maxRecDepth 100000 in
set_option maxHeartbeats 1000000 in
theorem walkMatchRaw (A : Option Addr) (n c : Nat) (ts : List PM.Tok) (q : Int) (w : World) (hl : Toks w w.heap.size A n ts) (hc : n ≤ c) (hm : c ≤ maxLen) (hz : A = none → n = 0 ∧ c = 0) (hq : (Lit.int .i64 q).wf = true) :
    Calls Try.prog 7 #[.slice A n c, .int .i64 q] w fun e w' => e = .returned (.bool true) ∧ Below w.heap.size w w' := by
  unfold maxLen at hm
  by_cases h : n ≤ 30
  · exact matchRaw A n c ts q w hl h
  · have h1 : (30 : Int) < (n : Int) := by omega
    clear hl hz h
    go_enter Try.func7, Try.ntmps7
    go_wp2_with (go_at_call 8; refine (told11 _).mono ?_; rintro e w2 ⟨rfl, hb2⟩)
    go_ret
    exact ⟨rfl, hb2⟩
end Go.Proofs.Ythoipfdapmjcfaa
