/- The walk of NumTexts. -/
import Derived.Test.YtmllblgninmolaaTold9
import Derived.Test.YtmllblgninmolaaRefPut
namespace Go.Proofs.Ytmllblgninmolaa
open Go.RowKit
set_option linter.unusedVariables false
theorem getRes_enc (p r : List UInt8) (m : Nat) (h : m < PN.M64) : getRes (p ++ (PN.enc m ++ r)) p.length = (m, p.length + (PN.enc m).length, 0) := by
  unfold getRes
  rw [List.drop_left, PN.dec_enc m true 0 1 r (by omega) (by omega) (.inr rfl)]
  simp [resOf]
theorem str_toArray (a : ByteArray) : (⟨a.data.toList.toArray⟩ : ByteArray) = a := by
  cases a
  simp
/-- The text that stands behind p. -/
theorem getText_at (A : Option Addr) (n c B : Nat) (q : Int) (p r : List UInt8) (a : ByteArray) (w : World) (hb : Bytes w B A n (p ++ ((PN.enc a.size ++ a.data.toList) ++ r))) (hc : n ≤ c) (hn : n ≤ 1000000000000) (hq : q ≤ 1000000000000) (ha : (a.size : Int) ≤ q) :
    Calls Try.prog 13 #[.slice A n c, .int .i64 (p.length : Int), .int .i64 q] w fun e w' => e = .returned (.tuple #[.string a, .int .i64 ((p.length + ((PN.enc a.size).length + a.size) : Nat) : Int), .int .i64 0]) ∧ w = w' := by
  have hl := hb.len
  have hal : a.data.toList.length = a.size := by rw [Array.length_toList]; rfl
  simp only [List.length_append, hal] at hl
  have hg : getRes (p ++ ((PN.enc a.size ++ a.data.toList) ++ r)) p.length = (a.size, p.length + (PN.enc a.size).length, 0) := by
    rw [List.append_assoc]
    exact getRes_enc p _ _ (by unfold PN.M64; omega)
  have h := numGetText_ok A n c B p.length q _ w hb hc hn (by omega) a.size _ hg hq ha (by omega)
  have e1 : ((p ++ ((PN.enc a.size ++ a.data.toList) ++ r)).drop (p.length + (PN.enc a.size).length)).take a.size = a.data.toList := by
    rw [← List.drop_drop, List.drop_left, List.append_assoc, List.drop_left, ← hal, List.take_left]
  rw [e1, str_toArray, Nat.add_assoc] at h
  exact h
theorem getText_over (A : Option Addr) (n c B : Nat) (q : Int) (r : List UInt8) (a : ByteArray) (w : World) (hb : Bytes w B A n ((PN.enc a.size ++ a.data.toList) ++ r)) (hn : n ≤ 1000000000000) (hq : q ≤ 1000000000000) (ha : q < (a.size : Int)) :
    Calls Try.prog 13 #[.slice A n c, .int .i64 0, .int .i64 q] w fun e w' => e = .returned (.tuple #[.string ⟨#[]⟩, .int .i64 0, .int .i64 13]) ∧ w = w' := by
  have hl := hb.len
  have hal : a.data.toList.length = a.size := by rw [Array.length_toList]; rfl
  simp only [List.length_append, hal] at hl
  have hg : getRes ((PN.enc a.size ++ a.data.toList) ++ r) 0 = (a.size, 0 + (PN.enc a.size).length, 0) := by
    rw [List.append_assoc]
    exact getRes_enc [] _ _ (by unfold PN.M64; omega)
  exact numGetText_limit A n c B 0 q _ w hb hn (by omega) a.size _ hg hq (.inr ha)
set_option maxRecDepth 100000 in
set_option maxHeartbeats 4000000 in
theorem walkNumTexts (a b : ByteArray) (w : World) (ha : a.size ≤ maxLen) (hb : b.size ≤ maxLen) :
    Calls Try.prog 5 #[.string a, .string b] w fun e w' => e = .returned (.bool true) ∧ Below w.heap.size w w' := by
  unfold maxLen at ha hb
  by_cases hc : (300 : Int) < (a.size : Int) ∨ ¬ (300 : Int) < (a.size : Int) ∧ (300 : Int) < (b.size : Int)
  · rcases hc with h1 | ⟨h1, h2⟩
    all_goals
      go_enter Try.func5, Try.ntmps5
      go_wp2_with (go_at_call 9; refine (told9 _).mono ?_; rintro e w2 ⟨rfl, hb2⟩)
      go_ret
      exact ⟨rfl, hb2⟩
  · have h1 : ¬ (300 : Int) < (a.size : Int) := by omega
    have h2 : ¬ (300 : Int) < (b.size : Int) := by omega
    clear hc
    have hma : a.size < PN.M64 := by unfold PN.M64; omega
    have hmb : b.size < PN.M64 := by unfold PN.M64; omega
    have hla := PN.enc_len64 _ hma
    have hlb := PN.enc_len64 _ hmb
    go_enter Try.func5, Try.ntmps5
    go_wp2_with fail
    refine (numText a (by omega) _).mono ?_
    rintro e w1 ⟨v1, rfl, hO1, hb1⟩
    have HO1 := Lib.hid hO1
    clear hO1
    go_wp2_with fail
    refine (numText b (by omega) _).mono ?_
    rintro e w2 ⟨v2, rfl, hO2, hb2⟩
    have HO2 := Lib.hid (HO1.out.below hb2 HO1.out.lt)
    have hW2 := hb1.trans (hb2.mono hb1.size)
    obtain ⟨A2, n2, c2, rfl, hB2, _, hz2⟩ := hO2.form_n
    have HB2 := Lib.hid hB2
    have HZ2 := Lib.hid hz2
    have hn2 : n2 = (PN.enc b.size).length + b.size := by rw [← hB2.len, List.length_append, Array.length_toList]; rfl
    have HN2 := Lib.hid hn2
    clear hB2 hz2 hO2 hb1 HO1 hb2 hn2
    have hal : (PN.enc a.size ++ a.data.toList).length = (PN.enc a.size).length + a.size := by rw [List.length_append, Array.length_toList]; rfl
    have HAL := Lib.hid hal
    clear hal
    go_wp2_with (refine wpList_of_wp rfl (fun K hK => wp_append_bytes (.tmp 25) (.tmp 27) 23 row_u8 rfl _ rfl HO2.out w2.heap.size A2 n2 c2 rfl HB2.out HZ2.out (by have := HAL.out; have := HN2.out; omega) hW2.size ?_); intro v3 w3 hO3 hg3 hd3; have HW3 := Lib.hid (below_grown_own hW2 HO2.out hg3); obtain ⟨A3, n3, c3, hv3, hB3, hc3, hz3⟩ := hO3.form_n; have HB3 := Lib.hid hB3; have hn3 : n3 = (PN.enc a.size).length + a.size + n2 := (by rw [← hB3.len, List.length_append, HAL.out, HB2.out.len]); have HN3 := Lib.hid hn3; clear hB3 hn3 hO3 hg3 hd3 hz3; subst hv3; refine hK _ _ ?_; clear hK K)
    have hN3 : n3 ≤ 1000 := by have := HN2.out; have := HN3.out; omega
    have k1 := getText_at A3 n3 c3 w3.heap.size 300 [] (PN.enc b.size ++ b.data.toList) a w3 HB3.out hc3 (by omega) (by omega) (by omega)
    have k2 := getText_at A3 n3 c3 w3.heap.size 300 (PN.enc a.size ++ a.data.toList) [] b w3 (by rw [List.append_nil]; exact HB3.out) hc3 (by omega) (by omega) (by omega)
    have k3 := getText_over A3 n3 c3 w3.heap.size ((a.size : Int) - 1) (PN.enc b.size ++ b.data.toList) a w3 HB3.out (by omega) (by omega) (by omega)
    rw [HAL.out, ← HN2.out, ← HN3.out] at k2
    have k1' : Calls Try.prog 13 #[.slice A3 n3 c3, .int .i64 0, .int .i64 300] w3 fun e w' => e = .returned (.tuple #[.string a, .int .i64 (((PN.enc a.size).length + a.size : Nat) : Int), .int .i64 0]) ∧ w3 = w' := by
      rw [show ([] : List UInt8).length + ((PN.enc a.size).length + a.size) = (PN.enc a.size).length + a.size by simp] at k1
      exact k1
    have r1 := refPut a.size hma
    have r2 := refPut b.size hmb
    have HR1 : Hid (∀ w : World, Calls Try.prog 14 #[.int .u64 (a.size : Int)] w fun e w' => e = .returned (.string ⟨(PN.enc a.size).toArray⟩) ∧ Below w.heap.size w w') := r1
    have HR2 : Hid (∀ w : World, Calls Try.prog 14 #[.int .u64 (b.size : Int)] w fun e w' => e = .returned (.string ⟨(PN.enc b.size).toArray⟩) ∧ Below w.heap.size w w') := r2
    have H1 := Lib.hid k1'
    have H2 := Lib.hid k2
    have H3 := Lib.hid k3
    clear k1 k1' k2 k3 r1 r2 HAL HO2 HB2 HZ2 HB3 hW2
    obtain ⟨la, hlaE⟩ : ∃ x, x = (PN.enc a.size).length := ⟨_, rfl⟩
    obtain ⟨lb, hlbE⟩ : ∃ x, x = (PN.enc b.size).length := ⟨_, rfl⟩
    rw [← hlaE] at H1 H2 HN3
    rw [← hlbE] at HN2
    have hza : (⟨(PN.enc a.size).toArray⟩ : ByteArray).size = la := by rw [hlaE]; rfl
    have hzb : (⟨(PN.enc b.size).toArray⟩ : ByteArray).size = lb := by rw [hlbE]; rfl
    rw [← hlaE] at hla
    rw [← hlbE] at hlb
    have HZA := Lib.hid hza
    have HZB := Lib.hid hzb
    clear hlaE hlbE hza hzb
    generalize (⟨(PN.enc a.size).toArray⟩ : ByteArray) = za at *
    generalize (⟨(PN.enc b.size).toArray⟩ : ByteArray) = zb at *
    go_wp2_with fail
    refine H1.out.mono ?_
    rintro e w4 ⟨rfl, rfl⟩
    go_wp2_with fail
    refine H2.out.mono ?_
    rintro e w4 ⟨rfl, rfl⟩
    go_wp2_with fail
    refine H3.out.mono ?_
    rintro e w4 ⟨rfl, rfl⟩
    clear H1 H2 H3
    go_wp2_with fail
    refine (told9 _).mono ?_
    rintro e w5 ⟨rfl, hb5⟩
    have hW5 := HW3.out.trans (hb5.mono HW3.out.size)
    clear hb5
    go_wp2_with fail
    refine (HR1.out _).mono ?_
    rintro e w6 ⟨rfl, hb6⟩
    have hW6 := hW5.trans (hb6.mono hW5.size)
    clear hb6 hW5
    go_wp2_with fail
    refine (HR2.out _).mono ?_
    rintro e w7 ⟨rfl, hb7⟩
    have hW7 := hW6.trans (hb7.mono hW6.size)
    clear hb7 hW6
    have z1 := HZA.out
    have z2 := HZB.out
    have e7 : (n3 : Int) = (a.size : Int) + (b.size : Int) + (la : Int) + (lb : Int) := by have := HN2.out; have := HN3.out; omega
    have e8 : ((n3 : Int) == (a.size : Int) + (b.size : Int) + (la : Int) + (lb : Int)) = true := by simpa using e7
    clear e7
    go_wp2_with fail
    go_ret
    refine ⟨?_, hW7⟩
    show Ending.returned (.bool ((n3 : Int) == wrap64 (wrap64 ((a.size : Int) + (b.size : Int) + (la : Int)) + (lb : Int)))) = _
    rw [IntWalk.wrap64_in ((a.size : Int) + (b.size : Int) + (la : Int)) (by omega), IntWalk.wrap64_in _ (by omega), e8]
end Go.Proofs.Ytmllblgninmolaa
