/- Matches in plain terms: the length of a match, the best one, the tokens, what tokens join to. -/
namespace Go.Proofs.Ythoipfdapmjcfaa.PM
/-- Bytes from a + n on that equal those b before them: at most f more. -/
def eqGo (l : List UInt8) (a b : Nat) : Nat → Nat → Nat
  | 0, n => n
  | f + 1, n => if l[a + n]? = l[a + n - b]? then eqGo l a b f (n + 1) else n
def cap (l : List UInt8) (a : Nat) : Nat := min 66 (l.length - a)
def far (a : Nat) : Nat := min 1024 a
def run (l : List UInt8) (a b : Nat) : Nat := eqGo l a b (cap l a) 0
def IsRun (l : List UInt8) (a b n : Nat) : Prop := n ≤ cap l a ∧ (∀ j, j < n → l[a + j]? = l[a + j - b]?) ∧ (n < cap l a → l[a + n]? ≠ l[a + n - b]?)
theorem eqGo_is (l : List UInt8) (a b : Nat) : ∀ f n, n ≤ eqGo l a b f n ∧ eqGo l a b f n ≤ n + f ∧ (∀ j, n ≤ j → j < eqGo l a b f n → l[a + j]? = l[a + j - b]?) ∧ (eqGo l a b f n < n + f → l[a + eqGo l a b f n]? ≠ l[a + eqGo l a b f n - b]?)
  | 0, n => ⟨Nat.le_refl _, Nat.le_refl _, fun j h1 h2 => by simp only [eqGo] at h2; omega, fun h => by simp only [eqGo] at h; omega⟩
  | f + 1, n => by
    unfold eqGo
    split
    · rename_i heq
      obtain ⟨h1, h2, h3, h4⟩ := eqGo_is l a b f (n + 1)
      refine ⟨by omega, by omega, fun j hj hj2 => ?_, fun h => h4 (by omega)⟩
      rcases Nat.eq_or_lt_of_le hj with rfl | hj'
      · exact heq
      · exact h3 j hj' hj2
    · rename_i hne
      exact ⟨Nat.le_refl _, by omega, fun j h1 h2 => by omega, fun _ => hne⟩
theorem run_is (l : List UInt8) (a b : Nat) : IsRun l a b (run l a b) := by
  obtain ⟨h1, h2, h3, h4⟩ := eqGo_is l a b (cap l a) 0
  exact ⟨by unfold run; omega, fun j hj => h3 j (Nat.zero_le _) hj, fun h => h4 (by unfold run at h; omega)⟩
theorem run_eq {l : List UInt8} {a b n : Nat} (h : IsRun l a b n) : n = run l a b := by
  obtain ⟨h1, h2, h3⟩ := h
  obtain ⟨g1, g2, g3⟩ := run_is l a b
  rcases Nat.lt_trichotomy n (run l a b) with h | h | h
  · exact absurd (g2 n h) (h3 (by omega))
  · exact h
  · exact absurd (h2 _ h) (g3 (by omega))
theorem run_le (l : List UInt8) (a b : Nat) : run l a b ≤ cap l a := (run_is l a b).1
/-- The best of the distances 1 to k, from a length of more than two on. -/
def bestF (l : List UInt8) (a : Nat) : Nat → Nat × Nat
  | 0 => (0, 2)
  | k + 1 => if run l a (k + 1) > (bestF l a k).2 then (k + 1, run l a (k + 1)) else bestF l a k
def best (l : List UInt8) (a : Nat) : Nat × Nat := if (bestF l a (far a)).1 = 0 then (0, 0) else bestF l a (far a)
/-- The same from a length of none on. -/
def refF (l : List UInt8) (a : Nat) : Nat → Nat × Nat
  | 0 => (0, 0)
  | k + 1 => if run l a (k + 1) > (refF l a k).2 then (k + 1, run l a (k + 1)) else refF l a k
def BestTo (l : List UInt8) (a k : Nat) (s : Nat × Nat) : Prop :=
  (s = (0, 2) ∧ ∀ d, 1 ≤ d → d ≤ k → run l a d ≤ 2) ∨ (1 ≤ s.1 ∧ s.1 ≤ k ∧ 3 ≤ s.2 ∧ run l a s.1 = s.2 ∧ (∀ d, 1 ≤ d → d ≤ k → run l a d ≤ s.2) ∧ ∀ d, 1 ≤ d → d < s.1 → run l a d < s.2)
theorem bestF_to (l : List UInt8) (a : Nat) : ∀ k, BestTo l a k (bestF l a k)
  | 0 => .inl ⟨rfl, fun d h1 h2 => by omega⟩
  | k + 1 => by
    have ih := bestF_to l a k
    unfold bestF
    generalize bestF l a k = s at *
    split
    · rename_i hgt
      refine .inr ⟨by simp, Nat.le_refl _, ?_, rfl, fun d h1 h2 => ?_, fun d h1 h2 => ?_⟩
      · show 3 ≤ run l a (k + 1)
        rcases ih with ⟨rfl, _⟩ | ⟨_, _, h3, _⟩
        · simp at hgt; omega
        · omega
      · show run l a d ≤ run l a (k + 1)
        rcases Nat.eq_or_lt_of_le h2 with rfl | h2'
        · exact Nat.le_refl _
        · rcases ih with ⟨rfl, h⟩ | ⟨_, _, _, _, h, _⟩
          · have := h d h1 (by omega); simp at hgt; omega
          · have := h d h1 (by omega); omega
      · show run l a d < run l a (k + 1)
        have h2' : d < k + 1 := h2
        rcases ih with ⟨rfl, h⟩ | ⟨_, _, _, _, h, _⟩
        · have := h d h1 (by omega); simp at hgt; omega
        · have := h d h1 (by omega); omega
    · rename_i hle
      rcases ih with ⟨rfl, h⟩ | ⟨h1, h2, h3, h4, h5, h6⟩
      · refine .inl ⟨rfl, fun d g1 g2 => ?_⟩
        rcases Nat.eq_or_lt_of_le g2 with rfl | g2'
        · simp at hle; omega
        · exact h d g1 (by omega)
      · refine .inr ⟨h1, by omega, h3, h4, fun d g1 g2 => ?_, h6⟩
        rcases Nat.eq_or_lt_of_le g2 with rfl | g2'
        · omega
        · exact h5 d g1 (by omega)
theorem bestF_stop (l : List UInt8) (a k : Nat) (h : cap l a ≤ (bestF l a k).2) : ∀ j, bestF l a (k + j) = bestF l a k
  | 0 => rfl
  | j + 1 => by
    have ih := bestF_stop l a k h j
    rw [show k + (j + 1) = (k + j) + 1 from rfl, bestF, ih, if_neg]
    have := run_le l a (k + j + 1)
    omega
theorem refF_best (l : List UInt8) (a : Nat) : ∀ k, ((refF l a k).2 ≤ 2 ∧ bestF l a k = (0, 2)) ∨ (2 < (refF l a k).2 ∧ refF l a k = bestF l a k ∧ (refF l a k).1 ≠ 0)
  | 0 => .inl ⟨by simp [refF], rfl⟩
  | k + 1 => by
    have ih := refF_best l a k
    unfold refF bestF
    rcases ih with ⟨h1, h2⟩ | ⟨h1, h2, h3⟩
    · rw [h2]
      simp only
      by_cases h : run l a (k + 1) > 2
      · rw [if_pos h, if_pos (by omega)]
        exact .inr ⟨h, rfl, by simp⟩
      · rw [if_neg h]
        left
        refine ⟨?_, rfl⟩
        split
        · show run l a (k + 1) ≤ 2
          omega
        · exact h1
    · rw [← h2]
      by_cases h : run l a (k + 1) > (refF l a k).2
      · rw [if_pos h]
        exact .inr ⟨by show 2 < run l a (k + 1); omega, rfl, by simp⟩
      · rw [if_neg h]
        exact .inr ⟨h1, rfl, h3⟩
theorem best_ref (l : List UInt8) (a : Nat) : best l a = if (refF l a (far a)).2 < 3 then (0, 0) else refF l a (far a) := by
  unfold best
  rcases refF_best l a (far a) with ⟨h1, h2⟩ | ⟨h1, h2, h3⟩
  · rw [h2, if_pos rfl, if_pos (by omega)]
  · rw [← h2, if_neg h3, if_neg (by omega)]
/-- What the best match is. -/
theorem best_is (l : List UInt8) (a : Nat) : (best l a = (0, 0) ∧ ∀ d, 1 ≤ d → d ≤ far a → run l a d ≤ 2) ∨
    (1 ≤ (best l a).1 ∧ (best l a).1 ≤ far a ∧ 3 ≤ (best l a).2 ∧ run l a (best l a).1 = (best l a).2 ∧ (∀ d, 1 ≤ d → d ≤ far a → run l a d ≤ (best l a).2) ∧ ∀ d, 1 ≤ d → d < (best l a).1 → run l a d < (best l a).2) := by
  unfold best
  rcases bestF_to l a (far a) with ⟨h1, h2⟩ | ⟨h1, h2, h3, h4, h5, h6⟩
  · rw [h1, if_pos rfl]
    exact .inl ⟨rfl, h2⟩
  · rw [if_neg (by omega)]
    exact .inr ⟨h1, h2, h3, h4, h5, h6⟩
theorem best_cap (l : List UInt8) (a : Nat) : (best l a).2 ≤ cap l a := by
  rcases best_is l a with ⟨h, _⟩ | ⟨_, _, _, h, _⟩
  · rw [h]; exact Nat.zero_le _
  · rw [← h]; exact run_le _ _ _
/-- Tokens: the literal or -1, the distance, the length. -/
abbrev Tok := Int × Int × Int
def may (t : Tok) : Bool :=
  if t.1 = -1 then decide (1 ≤ t.2.1) && decide (t.2.1 ≤ 1024) && decide (3 ≤ t.2.2) && decide (t.2.2 ≤ 66)
  else decide (0 ≤ t.1) && decide (t.1 ≤ 255) && decide (t.2.1 = 0) && decide (t.2.2 = 0)
def tokAt (l : List UInt8) (a : Nat) : Tok := if (best l a).2 = 0 then (((l.getD a 0).toNat : Int), 0, 0) else (-1, ((best l a).1 : Int), ((best l a).2 : Int))
def longAt (l : List UInt8) (a : Nat) : Nat := if (best l a).2 = 0 then 1 else (best l a).2
def toksGo (l : List UInt8) : Nat → Nat → List Tok
  | 0, _ => []
  | f + 1, a => if l.length ≤ a then [] else tokAt l a :: toksGo l f (a + longAt l a)
def toks (l : List UInt8) : List Tok := toksGo l l.length 0
def copyGo : Nat → Nat → List UInt8 → List UInt8
  | 0, _, acc => acc
  | n + 1, b, acc => copyGo n b (acc ++ [acc.getD (acc.length - b) 0])
def addTok (acc : List UInt8) (t : Tok) : List UInt8 := if 0 ≤ t.1 then acc ++ [UInt8.ofNat t.1.toNat] else copyGo t.2.2.toNat t.2.1.toNat acc
def join : List Tok → Int → List UInt8 → List UInt8 × Int
  | [], _, acc => (acc, 0)
  | t :: ts, m, acc => if may t = false then ([], 1) else if t.2.1 > acc.length then ([], 2) else if max t.2.2 1 > m - acc.length then ([], 13) else join ts m (addTok acc t)
theorem longAt_pos (l : List UInt8) (a : Nat) : 1 ≤ longAt l a := by
  unfold longAt
  split <;> omega
theorem longAt_cap (l : List UInt8) (a : Nat) (h : a < l.length) : a + longAt l a ≤ l.length := by
  have := best_cap l a
  unfold cap at this
  unfold longAt
  split <;> omega
theorem toksGo_fuel (l : List UInt8) : ∀ f g a, l.length - a ≤ f → l.length - a ≤ g → toksGo l f a = toksGo l g a
  | 0, 0, a, _, _ => rfl
  | 0, g + 1, a, h, _ => by rw [toksGo, toksGo, if_pos (by omega)]
  | f + 1, 0, a, _, h => by rw [toksGo, toksGo, if_pos (by omega)]
  | f + 1, g + 1, a, h1, h2 => by
    rw [toksGo, toksGo]
    split
    · rfl
    · have := longAt_pos l a
      rw [toksGo_fuel l f g _ (by omega) (by omega)]
theorem toks_next (l : List UInt8) (a : Nat) (h : a < l.length) : toksGo l (l.length - a) a = tokAt l a :: toksGo l (l.length - (a + longAt l a)) (a + longAt l a) := by
  have := longAt_pos l a
  rw [show l.length - a = (l.length - a - 1) + 1 from by omega, toksGo, if_neg (by omega)]
  rw [toksGo_fuel l _ (l.length - (a + longAt l a)) _ (by omega) (by omega)]
theorem toks_end (l : List UInt8) (f a : Nat) (h : l.length ≤ a) : toksGo l f a = [] := by
  cases f with
  | zero => rfl
  | succ f => rw [toksGo, if_pos h]
end Go.Proofs.Ythoipfdapmjcfaa.PM
