/- The walk of LaneQuarters: a quarter of unlike words is unlike. -/
import Derived.Test.YtobbjhbjjhnicaaTold14
namespace Go.Proofs.Ytobbjhbjjhnicaa
open Go.RowKit
set_option linter.unusedVariables false
namespace LQ
theorem quarter_inj {a b c d a' b' c' d' : UInt32} (h : PL.quarter a b c d = PL.quarter a' b' c' d') : a = a' ∧ b = b' ∧ c = c' ∧ d = d' := by
  have h1 := PL.undo_quarter a b c d
  have h2 := PL.undo_quarter a' b' c' d'
  rw [h] at h1
  rw [h1] at h2
  injection h2 with e0 h2
  injection h2 with e1 h2
  injection h2 with e2 e3
  exact ⟨e0, e1, e2, e3⟩
theorem xor_zero_of {x t : UInt32} (h : x = x ^^^ t) : t = 0 := by
  have : x ^^^ (x ^^^ t) = 0 := by rw [← h, UInt32.xor_self]
  rwa [← UInt32.xor_assoc, UInt32.xor_self, UInt32.zero_xor] at this
theorem quarter_ne {Q R : UInt32 × UInt32 × UInt32 × UInt32} (h : Q ≠ R) : Q.1 ≠ R.1 ∨ (Q.1 = R.1 ∧ Q.2.1 ≠ R.2.1) ∨ (Q.1 = R.1 ∧ Q.2.1 = R.2.1 ∧ Q.2.2.1 ≠ R.2.2.1) ∨ (Q.1 = R.1 ∧ Q.2.1 = R.2.1 ∧ Q.2.2.1 = R.2.2.1 ∧ Q.2.2.2 ≠ R.2.2.2) := by
  obtain ⟨a, b, c, d⟩ := Q
  obtain ⟨a', b', c', d'⟩ := R
  by_cases h0 : a = a'
  · by_cases h1 : b = b'
    · by_cases h2 : c = c'
      · by_cases h3 : d = d'
        · exact (h (by rw [h0, h1, h2, h3])).elim
        · exact .inr (.inr (.inr ⟨h0, h1, h2, h3⟩))
      · exact .inr (.inr (.inl ⟨h0, h1, h2⟩))
    · exact .inr (.inl ⟨h0, h1⟩)
  · exact .inl h0
theorem W_ne {x y : UInt32} (h : x ≠ y) : (W x == W y) = false := by
  rw [beq_eq_false_iff_ne]
  exact fun e => h (W_inj e)
end LQ
set_option maxRecDepth 100000 in
set_option maxHeartbeats 4000000 in
theorem laneQ (a b c d t : UInt32) (i : Nat) (wh : Int) (w : World) (hi : i < 4) (hwh : (IntKind.u64.wrap wh).tmod 4 = (i : Int)) :
    Calls Try.prog 3 #[u32v a, u32v b, u32v c, u32v d, .int .i64 wh, u32v t] w fun e w' => e = .returned (.bool true) ∧ Below w.heap.size w w' := by
  have ex := W_xor
  have hk : i = 0 ∨ i = 1 ∨ i = 2 ∨ i = 3 := by omega
  have h4 : IntKind.u64.wrap wh % 4 = (i : Int) := by
    rw [← hwh, Int.tmod_eq_emod_of_nonneg (wrap_u64_nonneg wh)]
  have hW : ∀ cs, Below w.heap.size w (w.alloc (Obj.cells cs 23)) := fun cs => (Below.refl _ _).alloc (Nat.le_refl _) _
  rcases hk with rfl | rfl | rfl | rfl
  · go_enter Try.func3, Try.ntmps3
    go_wp2_with fail
    refine (quarter_any a b c d _).mono ?_
    rintro e w' ⟨rfl, rfl⟩
    go_wp2_with fail
    refine (quarter_any (a ^^^ t) b c d _).mono ?_
    rintro e w' ⟨rfl, rfl⟩
    go_wp2_with fail
    refine (told14 _).mono ?_
    rintro e w2 ⟨rfl, hb2⟩
    have hW2 := (hW _).trans (hb2.mono (hW _).size)
    clear hb2 hW ex
    by_cases h0 : t = 0
    · subst h0
      rw [UInt32.xor_zero] at *
      have hw0 : W 0 = 0 := rfl
      go_wp2
      go_ret
      exact ⟨rfl, hW2⟩
    · have hq : PL.quarter a b c d ≠ PL.quarter (a ^^^ t) b c d := fun h => h0 (LQ.xor_zero_of (LQ.quarter_inj h).1)
      have ht : (W t == 0) = false := LQ.W_ne (y := 0) h0
      generalize PL.quarter a b c d = Q at *
      generalize PL.quarter (a ^^^ t) b c d = R at *
      rcases LQ.quarter_ne hq with h | ⟨e1, h⟩ | ⟨e1, e2, h⟩ | ⟨e1, e2, e3, h⟩
      · have hne := LQ.W_ne h
        clear hq h h0
        go_wp2
        go_ret
        exact ⟨rfl, hW2⟩
      · have hne := LQ.W_ne h
        rw [e1]
        clear hq h h0 e1
        go_wp2
        go_ret
        exact ⟨rfl, hW2⟩
      · have hne := LQ.W_ne h
        rw [e1, e2]
        clear hq h h0 e1 e2
        go_wp2
        go_ret
        exact ⟨rfl, hW2⟩
      · have hne := LQ.W_ne h
        rw [e1, e2, e3]
        clear hq h h0 e1 e2 e3
        go_wp2
        go_ret
        exact ⟨rfl, hW2⟩
  · go_enter Try.func3, Try.ntmps3
    go_wp2_with fail
    refine (quarter_any a b c d _).mono ?_
    rintro e w' ⟨rfl, rfl⟩
    go_wp2_with fail
    refine (quarter_any a (b ^^^ t) c d _).mono ?_
    rintro e w' ⟨rfl, rfl⟩
    go_wp2_with fail
    refine (told14 _).mono ?_
    rintro e w2 ⟨rfl, hb2⟩
    have hW2 := (hW _).trans (hb2.mono (hW _).size)
    clear hb2 hW ex
    by_cases h0 : t = 0
    · subst h0
      rw [UInt32.xor_zero] at *
      have hw0 : W 0 = 0 := rfl
      go_wp2
      go_ret
      exact ⟨rfl, hW2⟩
    · have hq : PL.quarter a b c d ≠ PL.quarter a (b ^^^ t) c d := fun h => h0 (LQ.xor_zero_of (LQ.quarter_inj h).2.1)
      have ht : (W t == 0) = false := LQ.W_ne (y := 0) h0
      generalize PL.quarter a b c d = Q at *
      generalize PL.quarter a (b ^^^ t) c d = R at *
      rcases LQ.quarter_ne hq with h | ⟨e1, h⟩ | ⟨e1, e2, h⟩ | ⟨e1, e2, e3, h⟩
      · have hne := LQ.W_ne h
        clear hq h h0
        go_wp2
        go_ret
        exact ⟨rfl, hW2⟩
      · have hne := LQ.W_ne h
        rw [e1]
        clear hq h h0 e1
        go_wp2
        go_ret
        exact ⟨rfl, hW2⟩
      · have hne := LQ.W_ne h
        rw [e1, e2]
        clear hq h h0 e1 e2
        go_wp2
        go_ret
        exact ⟨rfl, hW2⟩
      · have hne := LQ.W_ne h
        rw [e1, e2, e3]
        clear hq h h0 e1 e2 e3
        go_wp2
        go_ret
        exact ⟨rfl, hW2⟩
  · go_enter Try.func3, Try.ntmps3
    go_wp2_with fail
    refine (quarter_any a b c d _).mono ?_
    rintro e w' ⟨rfl, rfl⟩
    go_wp2_with fail
    refine (quarter_any a b (c ^^^ t) d _).mono ?_
    rintro e w' ⟨rfl, rfl⟩
    go_wp2_with fail
    refine (told14 _).mono ?_
    rintro e w2 ⟨rfl, hb2⟩
    have hW2 := (hW _).trans (hb2.mono (hW _).size)
    clear hb2 hW ex
    by_cases h0 : t = 0
    · subst h0
      rw [UInt32.xor_zero] at *
      have hw0 : W 0 = 0 := rfl
      go_wp2
      go_ret
      exact ⟨rfl, hW2⟩
    · have hq : PL.quarter a b c d ≠ PL.quarter a b (c ^^^ t) d := fun h => h0 (LQ.xor_zero_of (LQ.quarter_inj h).2.2.1)
      have ht : (W t == 0) = false := LQ.W_ne (y := 0) h0
      generalize PL.quarter a b c d = Q at *
      generalize PL.quarter a b (c ^^^ t) d = R at *
      rcases LQ.quarter_ne hq with h | ⟨e1, h⟩ | ⟨e1, e2, h⟩ | ⟨e1, e2, e3, h⟩
      · have hne := LQ.W_ne h
        clear hq h h0
        go_wp2
        go_ret
        exact ⟨rfl, hW2⟩
      · have hne := LQ.W_ne h
        rw [e1]
        clear hq h h0 e1
        go_wp2
        go_ret
        exact ⟨rfl, hW2⟩
      · have hne := LQ.W_ne h
        rw [e1, e2]
        clear hq h h0 e1 e2
        go_wp2
        go_ret
        exact ⟨rfl, hW2⟩
      · have hne := LQ.W_ne h
        rw [e1, e2, e3]
        clear hq h h0 e1 e2 e3
        go_wp2
        go_ret
        exact ⟨rfl, hW2⟩
  · go_enter Try.func3, Try.ntmps3
    go_wp2_with fail
    refine (quarter_any a b c d _).mono ?_
    rintro e w' ⟨rfl, rfl⟩
    go_wp2_with fail
    refine (quarter_any a b c (d ^^^ t) _).mono ?_
    rintro e w' ⟨rfl, rfl⟩
    go_wp2_with fail
    refine (told14 _).mono ?_
    rintro e w2 ⟨rfl, hb2⟩
    have hW2 := (hW _).trans (hb2.mono (hW _).size)
    clear hb2 hW ex
    by_cases h0 : t = 0
    · subst h0
      rw [UInt32.xor_zero] at *
      have hw0 : W 0 = 0 := rfl
      go_wp2
      go_ret
      exact ⟨rfl, hW2⟩
    · have hq : PL.quarter a b c d ≠ PL.quarter a b c (d ^^^ t) := fun h => h0 (LQ.xor_zero_of (LQ.quarter_inj h).2.2.2)
      have ht : (W t == 0) = false := LQ.W_ne (y := 0) h0
      generalize PL.quarter a b c d = Q at *
      generalize PL.quarter a b c (d ^^^ t) = R at *
      rcases LQ.quarter_ne hq with h | ⟨e1, h⟩ | ⟨e1, e2, h⟩ | ⟨e1, e2, e3, h⟩
      · have hne := LQ.W_ne h
        clear hq h h0
        go_wp2
        go_ret
        exact ⟨rfl, hW2⟩
      · have hne := LQ.W_ne h
        rw [e1]
        clear hq h h0 e1
        go_wp2
        go_ret
        exact ⟨rfl, hW2⟩
      · have hne := LQ.W_ne h
        rw [e1, e2]
        clear hq h h0 e1 e2
        go_wp2
        go_ret
        exact ⟨rfl, hW2⟩
      · have hne := LQ.W_ne h
        rw [e1, e2, e3]
        clear hq h h0 e1 e2 e3
        go_wp2
        go_ret
        exact ⟨rfl, hW2⟩
theorem walkLaneQuarters (a b c d wh t : Int) (w : World) (ha : (Lit.int .u32 a).wf = true) (hb : (Lit.int .u32 b).wf = true) (hc : (Lit.int .u32 c).wf = true) (hd : (Lit.int .u32 d).wf = true) (hwh : (Lit.int .i64 wh).wf = true) (ht : (Lit.int .u32 t).wf = true) :
    Calls Try.prog 3 #[.int .u32 a, .int .u32 b, .int .u32 c, .int .u32 d, .int .i64 wh, .int .u32 t] w fun e w' => e = .returned (.bool true) ∧ Below w.heap.size w w' := by
  have ea := W_of a (bounds_u32 ha)
  have eb := W_of b (bounds_u32 hb)
  have ec := W_of c (bounds_u32 hc)
  have ed := W_of d (bounds_u32 hd)
  have et := W_of t (bounds_u32 ht)
  have h0 : 0 ≤ IntKind.u64.wrap wh := wrap_u64_nonneg wh
  have h := laneQ (UInt32.ofNat a.toNat) (UInt32.ofNat b.toNat) (UInt32.ofNat c.toNat) (UInt32.ofNat d.toNat) (UInt32.ofNat t.toNat) (IntKind.u64.wrap wh % 4).toNat wh w (by omega) (by rw [Int.tmod_eq_emod_of_nonneg h0]; omega)
  unfold u32v at h
  rwa [ea, eb, ec, ed, et] at h
end Go.Proofs.Ytobbjhbjjhnicaa
