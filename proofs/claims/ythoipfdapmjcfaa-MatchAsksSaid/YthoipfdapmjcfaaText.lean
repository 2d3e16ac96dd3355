/- The walk of steamerlaw11.Text: some bytes, at most so many. -/
import Derived.Test.YthoipfdapmjcfaaOpenT
import Derived.Test.YthoipfdapmjcfaaSlices
import Derived.Test.YthoipfdapmjcfaaGave
import Derived.Test.YthoipfdapmjcfaaByteRow
import Derived.Test.YthoipfdapmjcfaaMatchAdd
namespace Go.Proofs.Ythoipfdapmjcfaa
open Go.RowKit
set_option linter.unusedVariables false
theorem Bytes.front {w : World} {B n r : Nat} {A : Option Addr} {l : List UInt8} (h : Bytes w B A n l) (hr : r ≤ n) : Bytes w B A r (l.take r) := by
  have := h.part (i := 0) (j := r) (m := r) (Nat.zero_le _) hr (Nat.le_refl _)
  rw [cutA_zero, Nat.sub_zero, List.drop_zero] at this
  exact this
/-- What Text gives: at most m bytes. -/
def Texted (w : World) (m : Nat) (e : Ending) (w' : World) : Prop := ∃ A n c l, e = .returned (.slice A n c) ∧ Bytes w' w'.heap.size A n l ∧ n ≤ m ∧ n ≤ c ∧ (A = none → c = 0) ∧ Below w.heap.size w w'
namespace TX
theorem nat_of (z : Int) : ∃ U : Nat, IntKind.u64.wrap z = (U : Int) ∧ U < 18446744073709551616 := by
  refine ⟨(IntKind.u64.wrap z).toNat, ?_, ?_⟩
  · rw [IntKind.wrap_u64]; omega
  · rw [IntKind.wrap_u64]; omega
theorem tmod_nat (U k : Nat) : (U : Int).tmod (k : Int) = ((U % k : Nat) : Int) := by
  rw [Int.tmod_eq_emod_of_nonneg (by omega)]
  rfl
theorem tdiv_nat (U k : Nat) : (U : Int).tdiv (k : Int) = ((U / k : Nat) : Int) := by
  rw [Int.tdiv_eq_ediv_of_nonneg (by omega)]
  rfl
theorem quo_wrap (U k : Nat) (hU : U < 18446744073709551616) : IntKind.u64.wrap ((U : Int) / (k : Int)) = ((U / k : Nat) : Int) := by
  have h : U / k ≤ U := Nat.div_le_self _ _
  rw [← Int.natCast_ediv]
  generalize U / k = y at *
  exact IntWalk.u64_in _ (by omega)
theorem at_eq (U n : Nat) (hU : U < 18446744073709551616) (hn : 0 < n) (hn2 : n ≤ 1000000) : ∃ a : Nat, wrap64 ((IntKind.u64.wrap ((U : Int) / 3)).tmod (n : Int)) = (a : Int) ∧ a < n := by
  have h := Nat.mod_lt (U / 3) hn
  have hw := quo_wrap U 3 hU
  rw [show ((3 : Nat) : Int) = 3 from rfl] at hw
  refine ⟨U / 3 % n, ?_, h⟩
  rw [hw, tmod_nat]
  generalize U / 3 % n = y at *
  exact IntWalk.wrap64_in _ ⟨by omega, by omega⟩
theorem long_eq (U : Nat) (hU : U < 18446744073709551616) : ∃ a : Nat, wrap64 ((IntKind.u64.wrap ((U : Int) / 7)).tmod 40) = (a : Int) ∧ a < 40 := by
  have h := Nat.mod_lt (U / 7) (show 0 < 40 by omega)
  have hw := quo_wrap U 7 hU
  rw [show ((7 : Nat) : Int) = 7 from rfl] at hw
  refine ⟨U / 7 % 40, ?_, h⟩
  have ht := tmod_nat (U / 7) 40
  rw [show ((40 : Nat) : Int) = 40 from rfl] at ht
  rw [hw, ht]
  generalize U / 7 % 40 = y at *
  exact IntWalk.wrap64_in _ ⟨by omega, by omega⟩
theorem least (n a d : Nat) (ha : a < n) (hd : d < 40) : ∃ f : Nat, (if (n : Int) < (a : Int) + (d : Int) then (n : Int) else (a : Int) + (d : Int)) = (f : Int) ∧ (if (a : Int) + (d : Int) < (n : Int) then (a : Int) + (d : Int) else (n : Int)) = (f : Int) ∧ a ≤ f ∧ f ≤ n ∧ f - a ≤ 40 := by
  refine ⟨min n (a + d), ?_, ?_, ?_, ?_, ?_⟩
  · split <;> omega
  · split <;> omega
  · omega
  · omega
  · omega
theorem at_most (n m : Nat) : ∃ r : Nat, (if (n : Int) < (m : Int) then (n : Int) else (m : Int)) = (r : Int) ∧ (if (m : Int) < (n : Int) then (m : Int) else (n : Int)) = (r : Int) ∧ r ≤ n ∧ r ≤ m := by
  refine ⟨min n m, ?_, ?_, ?_, ?_⟩
  · split <;> omega
  · split <;> omega
  · omega
  · omega
theorem two (U : Nat) (w : World) (t : TypeId) : ∃ l : List UInt8, l.length = 2 ∧ Bytes (w.alloc (.cells #[.int .u8 (97 + (U : Int) % 5), .int .u8 ((U : Int) % 256)] t)) (w.heap.size + 1) (some ⟨w.heap.size, 0, none⟩) 2 l := by
  refine ⟨[UInt8.ofNat (97 + U % 5), UInt8.ofNat (U % 256)], rfl, ?_⟩
  have h1 := nat_byte (show 97 + U % 5 < 256 by omega)
  have h2 := nat_byte (show U % 256 < 256 by omega)
  have e1 : (97 : Int) + (U : Int) % 5 = ((97 + U % 5 : Nat) : Int) := by omega
  have e2 : (U : Int) % 256 = ((U % 256 : Nat) : Int) := by omega
  rw [e1, e2, h1, h2]
  exact blk_bytes2 w t _ _
end TX
set_option maxRecDepth 100000 in
set_option maxHeartbeats 4000000 in
theorem text_any (A : Option Addr) (n c B : Nat) (l : List Int) (m : Nat) (w : World) (hl : Ints w B A n l) (hB : B ≤ w.heap.size) (hn : n ≤ c) (hc : c ≤ maxLen) (hm : m ≤ 5000) :
    Calls Try.prog 9 #[.slice A n c, .int .i64 (m : Int)] w (Texted w m) := by
  unfold maxLen at hc
  have HL := Lib.hid hl
  clear hl
  go_enter Try.func9, Try.ntmps9
  go_wp2_with fail
  go_loopw [5, 6] (fun b i wr => ∃ (k : Nat) (acc : List UInt8), k ≤ n ∧ acc.length ≤ m + 40 ∧ i = .int .i64 k ∧ Hid (Own 5 wr w.heap.size b acc) ∧ Below w.heap.size w wr) (fun _ i _ => n - (intOf i).toNat)
  case atStart => exact ⟨0, [], Nat.zero_le _, Nat.zero_le _, rfl, Own.nil_, Below.refl _ _⟩
  case round =>
    obtain ⟨k, acc, hk, hacc, rfl, HO, hW⟩ := hrel
    obtain ⟨A1, n1, c1, hv, hB1, hnc, hnil⟩ := HO.out.form_n
    have hn1 := hB1.len
    subst hv
    have HB1 := Lib.hid hB1
    have hsz := hW.size
    clear hB1
    obtain ⟨rr, er1, er2, hr1, hr2⟩ := TX.at_most n1 m
    by_cases hlt : k < n
    · by_cases hlm : n1 < m
      · have tm : (n1 : Int) < (m : Int) := by omega
        clear er1 er2 hr1 hr2
        obtain ⟨b, off, z, rfl, _, hc0⟩ := (HL.out.below (hW.mono hB)).pick hlt
        obtain ⟨U, hU, hU2⟩ := TX.nat_of z
        by_cases h3 : ((U : Int) % 3 == 0) = true ∧ 4 < n1
        · obtain ⟨h3, h4⟩ := h3
          have t4 : (4 : Int) < (n1 : Int) := by omega
          have jn : IntKind.u64.wrap (n1 : Int) = (n1 : Int) := IntWalk.u64_in _ (by omega)
          have tn : ((n1 : Int) == 0) = false := by rw [beq_eq_false_iff_ne]; omega
          obtain ⟨a, ha, ha2⟩ := TX.at_eq U n1 hU2 (by omega) (by omega)
          obtain ⟨d, hd, hd2⟩ := TX.long_eq U hU2
          clear hU2
          obtain ⟨f, ef, ef2, haf, hfn, hfd⟩ := TX.least n1 a d ha2 hd2
          have hs := fun w => run_part_at row_u8 A1 n1 c1 a f haf (Nat.le_trans hfn hnc) w
          have HN1 := Lib.hid hn1
          clear hn1
          go_wp2_with (refine wpList_of_wp rfl (fun K hK => wp_append_bytes (.tmp 41) (.tmp 53) 23 row_u8 rfl ((acc.drop a).take (f - a)) rfl HO.out wr.heap.size (cutA A1 a c1) (f - a) (c1 - a) rfl (HB1.out.part haf hfn (by omega)) (fun h => by have := hnil (cutA_none h); omega) (by omega) hsz ?_); intro v1 w3 hO3 hg3 hd3; have HO3 := Lib.hid hO3; have HG3 := Lib.hid hg3; clear hO3 hg3 hd3; refine hK _ _ ?_; clear hK K)
          go_roundw
          case rel => exact ⟨k + 1, _, hlt, by have := HN1.out; rw [List.length_append, List.length_take]; omega, by go_num, HO3, below_grown_own hW HO.out HG3.out⟩
          case measure => simp [intOf]; omega
        · have h3' : ((U : Int) % 3 == 0) = false ∨ ((U : Int) % 3 == 0) = true ∧ ¬ (4 : Int) < (n1 : Int) := by
            by_cases h : ((U : Int) % 3 == 0) = true
            · exact .inr ⟨h, fun h4 => h3 ⟨h, by omega⟩⟩
            · exact .inl (by simpa using h)
          clear h3
          obtain ⟨XY, hXY, hx⟩ := TX.two U wr 5
          have HX := Lib.hid hx
          have HXL := Lib.hid hXY
          clear hx hXY hU2
          rcases h3' with h3 | ⟨h3, h4⟩
          · go_wp2_with (refine wpList_of_wp rfl (fun K hK => wp_append_bytes (.tmp 55) (.tmp 62) 23 row_u8 rfl XY rfl (HO.out.alloc _) (wr.heap.size + 1) (some ⟨wr.heap.size, 0, none⟩) 2 2 rfl HX.out (fun h => by cases h) (by omega) (by rw [World.size_alloc]; omega) ?_); intro v1 w3 hO3 hg3 hd3; have HO3 := Lib.hid hO3; have HG3 := Lib.hid hg3; clear hO3 hg3 hd3; refine hK _ _ ?_; clear hK K)
            go_roundw
            case rel => exact ⟨k + 1, _, hlt, by have := HXL.out; rw [List.length_append, this]; omega, by go_num, HO3, (hW.alloc hsz _).grown HG3.out (by rw [World.size_alloc]; omega) HO.out.base_⟩
            case measure => simp [intOf]; omega
          · go_wp2_with (refine wpList_of_wp rfl (fun K hK => wp_append_bytes (.tmp 55) (.tmp 62) 23 row_u8 rfl XY rfl (HO.out.alloc _) (wr.heap.size + 1) (some ⟨wr.heap.size, 0, none⟩) 2 2 rfl HX.out (fun h => by cases h) (by omega) (by rw [World.size_alloc]; omega) ?_); intro v1 w3 hO3 hg3 hd3; have HO3 := Lib.hid hO3; have HG3 := Lib.hid hg3; clear hO3 hg3 hd3; refine hK _ _ ?_; clear hK K)
            go_roundw
            case rel => exact ⟨k + 1, _, hlt, by have := HXL.out; rw [List.length_append, this]; omega, by go_num, HO3, (hW.alloc hsz _).grown HG3.out (by rw [World.size_alloc]; omega) HO.out.base_⟩
            case measure => simp [intOf]; omega
      · obtain ⟨b, off, z, rfl, _, hc0⟩ := (HL.out.below (hW.mono hB)).pick hlt
        have hmn : m ≤ n1 := by omega
        have tm : ¬ (n1 : Int) < (m : Int) := by omega
        have hs := fun w => run_front_at row_u8 A1 n1 c1 m (Nat.le_trans hmn hnc) w
        rcases Nat.eq_or_lt_of_le hmn with hmn2 | hmn2
        · subst hmn2
          clear er1 er2
          go_wp2_with fail
          go_ret
          exact ⟨_, _, _, _, rfl, HB1.out.front hmn, Nat.le_refl _, Nat.le_trans hmn hnc, hnil, hW⟩
        · have tm2 : (m : Int) < (n1 : Int) := by omega
          clear er1 er2
          go_wp2_with fail
          go_ret
          exact ⟨_, _, _, _, rfl, HB1.out.front hmn, Nat.le_refl _, Nat.le_trans hmn hnc, hnil, hW⟩
    · obtain rfl : k = n := by omega
      by_cases hlm : n1 < m
      · have tm : (n1 : Int) < (m : Int) := by omega
        have tm2 : ¬ (m : Int) < (n1 : Int) := by omega
        have hs := fun w => run_front_at row_u8 A1 n1 c1 n1 hnc w
        clear er1 er2
        go_wp2_with fail
        go_ret
        exact ⟨_, _, _, _, rfl, HB1.out, Nat.le_of_lt hlm, hnc, hnil, hW⟩
      · clear hk
        have hmn : m ≤ n1 := by omega
        have tm : ¬ (n1 : Int) < (m : Int) := by omega
        have hs := fun w => run_front_at row_u8 A1 n1 c1 m (Nat.le_trans hmn hnc) w
        rcases Nat.eq_or_lt_of_le hmn with hmn2 | hmn2
        · subst hmn2
          clear er1 er2
          go_wp2_with fail
          go_ret
          exact ⟨_, _, _, _, rfl, HB1.out.front hmn, Nat.le_refl _, Nat.le_trans hmn hnc, hnil, hW⟩
        · have tm2 : (m : Int) < (n1 : Int) := by omega
          clear er1 er2
          go_wp2_with fail
          go_ret
          exact ⟨_, _, _, _, rfl, HB1.out.front hmn, Nat.le_refl _, Nat.le_trans hmn hnc, hnil, hW⟩
end Go.Proofs.Ythoipfdapmjcfaa
