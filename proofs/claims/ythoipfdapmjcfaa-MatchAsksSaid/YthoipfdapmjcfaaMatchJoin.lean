/- The walk of match.Join. -/
import Derived.Test.YthoipfdapmjcfaaMatchMay
import Derived.Test.YthoipfdapmjcfaaMatchAdd
namespace Go.Proofs.Ythoipfdapmjcfaa
open Go.RowKit
set_option linter.unusedVariables false
theorem may_shape {x y z : Int} (h : PM.may (x, y, z) = true) : (∃ b k : Nat, x = -1 ∧ y = b ∧ z = k ∧ 1 ≤ b ∧ b ≤ 1024 ∧ 3 ≤ k ∧ k ≤ 66) ∨ (∃ q : Nat, q < 256 ∧ x = q ∧ y = 0 ∧ z = 0) := by
  unfold PM.may at h
  by_cases h1 : x = -1
  · simp [h1] at h
    exact .inl ⟨y.toNat, z.toNat, h1, by omega, by omega, by omega, by omega, by omega, by omega⟩
  · simp [h1] at h
    exact .inr ⟨x.toNat, by omega, by omega, by omega, by omega⟩
/-- What match.Join gives. -/
def Joined (w : World) (r : List UInt8 × Int) (e : Ending) (w' : World) : Prop := ∃ v, e = .returned (.tuple #[v, .int .i64 r.2]) ∧ Own 5 w' w.heap.size v r.1 ∧ Below w.heap.size w w'
theorem join_nil (m : Int) (acc : List UInt8) : PM.join [] m acc = (acc, 0) := rfl
theorem join_bad {t : PM.Tok} {ts : List PM.Tok} {m : Int} {acc : List UInt8} (h : PM.may t = false) : PM.join (t :: ts) m acc = ([], 1) := by rw [PM.join, if_pos h]
theorem join_far {t : PM.Tok} {ts : List PM.Tok} {m : Int} {acc : List UInt8} (h : PM.may t = true) (h2 : t.2.1 > acc.length) : PM.join (t :: ts) m acc = ([], 2) := by rw [PM.join, if_neg (by rw [h]; simp), if_pos h2]
theorem join_full {t : PM.Tok} {ts : List PM.Tok} {m : Int} {acc : List UInt8} (h : PM.may t = true) (h2 : ¬ t.2.1 > acc.length) (h3 : max t.2.2 1 > m - acc.length) : PM.join (t :: ts) m acc = ([], 13) := by rw [PM.join, if_neg (by rw [h]; simp), if_neg h2, if_pos h3]
theorem join_step {t : PM.Tok} {ts : List PM.Tok} {m : Int} {acc : List UInt8} (h : PM.may t = true) (h2 : ¬ t.2.1 > acc.length) (h3 : ¬ max t.2.2 1 > m - acc.length) : PM.join (t :: ts) m acc = PM.join ts m (PM.addTok acc t) := by rw [PM.join, if_neg (by rw [h]; simp), if_neg h2, if_neg h3]
theorem copyGo_len : ∀ (k b : Nat) (acc : List UInt8), (PM.copyGo k b acc).length = acc.length + k
  | 0, b, acc => rfl
  | k + 1, b, acc => by rw [PM.copyGo, copyGo_len k b]; simp; omega
theorem drop_cons {α : Type} {l : List α} {i : Nat} {t : α} (h : l[i]? = some t) : l.drop i = t :: l.drop (i + 1) := by
  obtain ⟨hi, rfl⟩ := List.getElem?_eq_some_iff.1 h
  exact List.drop_eq_getElem_cons hi
set_option maxRecDepth 100000 in
set_option maxHeartbeats 8000000 in
theorem join_any (A : Option Addr) (n c B : Nat) (ts : List PM.Tok) (M : Int) (m : Nat) (w : World) (hl : Toks w B A n ts) (hB : B ≤ w.heap.size) (hn : n ≤ 1000000) (hm : max M 0 = (m : Int)) (hm2 : m ≤ 1000000) :
    Calls Try.prog 16 #[.slice A n c, .int .i64 M] w (Joined w (PM.join ts (m : Int) [])) := by
  have HL0 := Lib.hid hl
  have HLen := Lib.hid hl.len
  clear hl
  have em : (if M < 0 then 0 else M) = (m : Int) := by split <;> omega
  have em2 : (if 0 < M then M else 0) = (m : Int) := by split <;> omega
  have em3 : (if 0 > M then 0 else M) = (m : Int) := by split <;> omega
  clear hm
  go_enter Try.func16, Try.ntmps16
  go_wp2
  refine wp_scope_back 0 (fun z a' w' => ∃ (i : Nat) (v : Value) (acc : List UInt8), z = n - i ∧ i ≤ n ∧ acc.length ≤ m ∧ Hid (PM.join (ts.drop i) (m : Int) acc = PM.join ts (m : Int) []) ∧ Hid (Own 5 w' w.heap.size v acc) ∧ Below w.heap.size w w' ∧ ∃ u : Nat → Value, a' = ⟨#[.slice A n c, .int .i64 (m : Int), u 2, u 3, .slice none 0 0, .int .i64 0, v, .int .i64 (i : Int), u 8, u 9, u 10, u 11, u 12, u 13, u 14, u 15, u 16, u 17, u 18, u 19, u 20, u 21, u 22, u 23, u 24, u 25, u 26, u 27, u 28, u 29, u 30, u 31, u 32, u 33, u 34, u 35, u 36, u 37, u 38, u 39, u 40], []⟩) rfl ?_ ?_
  · intro HL
    go_wp2
    go_step3
    go_step
    go_step
    exact HL.out _ _ _ ⟨0, .slice none 0 0, [], rfl, Nat.zero_le _, Nat.zero_le _, rfl, Own.nil_, Below.refl _ _, ⟨slot [undef, undef, _, _, undef, undef, undef, undef, _, _, _, _, _, _, _, _, _, _, _, _, _, _, _, _, _, _, _, _, _, _, _, _, _, _, _, _, _, _, _, _, _], rfl⟩⟩
  · rintro z a' w' ⟨i, v, acc, rfl, hi, hacc, HE, HO, hW, ⟨u, rfl⟩⟩
    clear em em2 em3
    obtain ⟨A1, n1, c1, hv, hB1, hnc, hnil⟩ := HO.out.form_n
    have hn1 := hB1.len
    subst hv
    clear hB1 hnil
    by_cases h0 : i = n
    · subst h0
      go_wp2
      refine jump_ret ?_
      go_ret2
      have := HE.out
      rw [List.drop_eq_nil_of_le (by rw [HLen.out]; omega), join_nil] at this
      rw [← this]
      exact ⟨_, rfl, HO.out, hW⟩
    · have t0 : ((i : Int) == (n : Int)) = false := by rw [beq_eq_false_iff_ne]; omega
      have hin : i < n := by omega
      have hsz := hW.size
      have HT : Hid (Toks w' B A n ts) := HL0.out.below (hW.mono hB)
      obtain ⟨blk, off, ⟨x, y, k⟩, hA, hblk, hgt, k0, k1, k2⟩ := HT.out.pick hin
      subst hA
      have HGt := Lib.hid (drop_cons hgt)
      have HEi := HE.out
      rw [HGt.out] at HEi
      have HE1 := Lib.hid HEi
      have HN1 := Lib.hid hn1
      clear hgt HEi HE HGt
      go_wp2_with fail
      (with_reducible refine (may_any x y k _).mono ?_)
      rintro e w1 ⟨rfl, hb1⟩
      have hs8 : w'.heap.size < (w'.alloc (Obj.cells (tokCells (x, y, k)) 34)).heap.size := by rw [World.size_alloc]; omega
      have HT8 : Hid (Blk w1 w'.heap.size 34 (tokCells (x, y, k))) := (Blk.new w' 34 (tokCells (x, y, k))).below hb1 hs8
      have HO1 : Hid (Own 5 w1 w.heap.size (.slice A1 n1 c1) acc) := (HO.out.alloc _).below hb1 (HO.out.alloc _).lt
      have hW1 : Below w.heap.size w w1 := (hW.alloc hW.size _).trans (hb1.mono (by rw [World.size_alloc]; omega))
      have hsz1 := hW1.size
      have d0 : w1.cell? ⟨w'.heap.size, 0, none⟩ = some (.int .i64 x) := HT8.out.cell 0
      have d1 : w1.cell? ⟨w'.heap.size, 1, none⟩ = some (.int .i64 y) := HT8.out.cell 1
      have d2 : w1.cell? ⟨w'.heap.size, 2, none⟩ = some (.int .i64 k) := HT8.out.cell 2
      clear hb1 hs8 HT8 HO hW HT k0 k1 k2 hsz
      generalize hmay : PM.may (x, y, k) = bm
      have HMay := Lib.hid hmay
      clear hmay
      cases bm
      · go_wp2
        refine jump_ret ?_
        go_ret2
        rw [← HE1.out, join_bad HMay.out]
        exact ⟨_, rfl, Own.nil_, hW1⟩
      · rcases may_shape HMay.out with ⟨b, j, rfl, rfl, rfl, hb1, hb2, hj1, hj2⟩ | ⟨q, hq, rfl, rfl, rfl⟩
        · have t3 : ¬ (j : Int) < 1 := by omega
          by_cases h2 : n1 < b
          · have t2 : (n1 : Int) < (b : Int) := by omega
            go_wp2
            refine jump_ret ?_
            go_ret2
            rw [← HE1.out, join_far HMay.out (by show (b : Int) > _; rw [HN1.out]; exact t2)]
            exact ⟨_, rfl, Own.nil_, hW1⟩
          · have t2 : ¬ (n1 : Int) < (b : Int) := by omega
            have hf : ¬ ((-1, (b : Int), (j : Int)) : PM.Tok).2.1 > acc.length := by show ¬ (b : Int) > _; rw [HN1.out]; exact t2
            have HF := Lib.hid hf
            clear hf
            by_cases h3 : m < n1 + j
            · have t4 : (m : Int) - (n1 : Int) < (j : Int) := by omega
              go_wp2
              refine jump_ret ?_
              go_ret2
              rw [← HE1.out, join_full (acc := acc) HMay.out (Int.not_lt.2 HF.out) (by show max (j : Int) 1 > _; rw [HN1.out]; omega)]
              exact ⟨_, rfl, Own.nil_, hW1⟩
            · have t4 : ¬ (m : Int) - (n1 : Int) < (j : Int) := by omega
              go_wp2_with fail
              (with_reducible refine (add_copy b j hb1 (by omega) (.slice A1 n1 c1) acc w.heap.size w1 HO1.out hsz1 (by omega) (by omega)).mono ?_)
              rintro e w2 ⟨v2, rfl, hO2, hW2⟩
              have HO2 := Lib.hid hO2
              have hW3 := hW1.trans hW2
              clear hO2 hW2 hW1 HO1 d0 d1 d2
              go_wp2
              go_step3
              refine jump_back (m' := n - (i + 1)) ?_ ?_
              · omega
              refine ⟨i + 1, v2, PM.copyGo j b acc, rfl, by omega, by rw [copyGo_len]; omega, ?_, HO2, hW3, ⟨slot [undef, undef, _, _, undef, undef, undef, undef, _, _, _, _, _, _, _, _, _, _, _, _, _, _, _, _, _, _, _, _, _, _, _, _, _, _, _, _, _, _, _, _, _], rfl⟩⟩
              show _ = _
              rw [← HE1.out, join_step (acc := acc) HMay.out (Int.not_lt.2 HF.out) (by show ¬ max (j : Int) 1 > _; rw [HN1.out]; omega)]
              rfl
        · have t2 : ¬ (n1 : Int) < 0 := by omega
          have hf : ¬ (((q : Int), 0, 0) : PM.Tok).2.1 > acc.length := by show ¬ (0 : Int) > _; rw [HN1.out]; exact t2
          have HF := Lib.hid hf
          clear hf
          by_cases h3 : m < n1 + 1
          · have t4 : (m : Int) - (n1 : Int) < 1 := by omega
            go_wp2
            refine jump_ret ?_
            go_ret2
            rw [← HE1.out, join_full (acc := acc) HMay.out (Int.not_lt.2 HF.out) (by show max (0 : Int) 1 > _; rw [HN1.out]; omega)]
            exact ⟨_, rfl, Own.nil_, hW1⟩
          · have t4 : ¬ (m : Int) - (n1 : Int) < 1 := by omega
            go_wp2_with fail
            (with_reducible refine (add_lit q hq 0 0 (.slice A1 n1 c1) acc w.heap.size w1 HO1.out hsz1 (by omega)).mono ?_)
            rintro e w2 ⟨v2, rfl, hO2, hW2⟩
            have HO2 := Lib.hid hO2
            have hW3 := hW1.trans hW2
            clear hO2 hW2 hW1 HO1 d0 d1 d2
            go_wp2
            go_step3
            refine jump_back (m' := n - (i + 1)) ?_ ?_
            · omega
            refine ⟨i + 1, v2, acc ++ [UInt8.ofNat q], rfl, by omega, by rw [List.length_append]; simp; omega, ?_, HO2, hW3, ⟨slot [undef, undef, _, _, undef, undef, undef, undef, _, _, _, _, _, _, _, _, _, _, _, _, _, _, _, _, _, _, _, _, _, _, _, _, _, _, _, _, _, _, _, _, _], rfl⟩⟩
            show _ = _
            rw [← HE1.out, join_step (acc := acc) HMay.out (Int.not_lt.2 HF.out) (by show ¬ max (0 : Int) 1 > _; rw [HN1.out]; omega)]
            unfold PM.addTok
            rw [if_pos (by show (0 : Int) ≤ (q : Int); omega)]
            rfl
end Go.Proofs.Ythoipfdapmjcfaa
