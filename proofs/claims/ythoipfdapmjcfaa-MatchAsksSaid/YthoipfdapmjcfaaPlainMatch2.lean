/- More plain laws of matches: where each token stands, what all tokens join to, the tokens of one byte repeated. -/
import Derived.Test.YthoipfdapmjcfaaPlainMatch
namespace Go.Proofs.Ythoipfdapmjcfaa.PM
/-- Where token i of l begins. -/
def posAt (l : List UInt8) : Nat → Nat
  | 0 => 0
  | i + 1 => posAt l i + longAt l (posAt l i)
theorem toks_drop (l : List UInt8) : ∀ i, (toks l).drop i = toksGo l (l.length - posAt l i) (posAt l i)
  | 0 => rfl
  | i + 1 => by
    have ih := toks_drop l i
    rw [← List.tail_drop, ih]
    by_cases h : posAt l i < l.length
    · rw [toks_next l _ h, List.tail_cons]
      rfl
    · rw [toks_end l _ _ (by omega), toks_end l _ _ (by have := longAt_pos l (posAt l i); show l.length ≤ posAt l i + longAt l (posAt l i); omega)]
      rfl
theorem toks_at (l : List UInt8) (i : Nat) (h : posAt l i < l.length) : (toks l)[i]? = some (tokAt l (posAt l i)) := by
  have := toks_drop l i
  rw [toks_next l _ h] at this
  rw [← List.head?_drop, this]
  rfl
theorem toks_out (l : List UInt8) (i : Nat) (h : l.length ≤ posAt l i) : (toks l)[i]? = none := by
  have := toks_drop l i
  rw [toks_end l _ _ h] at this
  rw [← List.head?_drop, this]
  rfl
theorem pos_lt (l : List UInt8) (i : Nat) (h : i < (toks l).length) : posAt l i < l.length := by
  rcases Nat.lt_or_ge (posAt l i) l.length with h1 | h1
  · exact h1
  · have := toks_out l i h1
    rw [List.getElem?_eq_getElem h] at this
    cases this
theorem pos_le (l : List UInt8) : ∀ i, i ≤ (toks l).length → posAt l i ≤ l.length
  | 0, _ => Nat.zero_le _
  | i + 1, h => longAt_cap l _ (pos_lt l i h)
theorem pos_end (l : List UInt8) : posAt l (toks l).length = l.length := by
  have h1 := pos_le l _ (Nat.le_refl _)
  rcases Nat.lt_or_ge (posAt l (toks l).length) l.length with h | h
  · have := toks_at l _ h
    rw [List.getElem?_eq_none (Nat.le_refl _)] at this
    cases this
  · omega
theorem toks_some (l : List UInt8) (i : Nat) (h : i < (toks l).length) : (toks l)[i]? = some (tokAt l (posAt l i)) := toks_at l i (pos_lt l i h)
theorem pos_ge (l : List UInt8) : ∀ i, i ≤ posAt l i
  | 0 => Nat.le_refl _
  | i + 1 => by
    have := pos_ge l i
    have := longAt_pos l (posAt l i)
    show i + 1 ≤ posAt l i + longAt l (posAt l i)
    omega
theorem toks_len (l : List UInt8) : (toks l).length ≤ l.length := by
  have := pos_ge l (toks l).length
  rw [pos_end] at this
  exact this
theorem tok_long (l : List UInt8) (a : Nat) : max (tokAt l a).2.2 1 = (longAt l a : Int) := by
  unfold tokAt longAt
  split
  · rfl
  · show max ((best l a).2 : Int) 1 = _
    omega
theorem tok_kind (l : List UInt8) (a : Nat) : (∃ q : UInt8, l.getD a 0 = q ∧ tokAt l a = ((q.toNat : Int), 0, 0) ∧ longAt l a = 1) ∨
    (∃ b n : Nat, tokAt l a = (-1, (b : Int), (n : Int)) ∧ longAt l a = n ∧ 1 ≤ b ∧ b ≤ far a ∧ 3 ≤ n ∧ n ≤ cap l a ∧ run l a b = n) := by
  have hc := best_cap l a
  unfold tokAt longAt
  rcases best_is l a with ⟨h, _⟩ | ⟨h1, h2, h3, h4, _⟩
  · left
    rw [h]
    exact ⟨_, rfl, rfl, rfl⟩
  · right
    rw [if_neg (by omega), if_neg (by omega)]
    exact ⟨_, _, rfl, rfl, h1, h2, h3, hc, h4⟩
theorem tok_may (l : List UInt8) (a : Nat) : may (tokAt l a) = true := by
  rcases tok_kind l a with ⟨q, _, h, _⟩ | ⟨b, n, h, _, h1, h2, h3, h4, _⟩
  · rw [h]
    have := q.toNat_lt
    unfold may
    rw [if_neg (by show ¬ (q.toNat : Int) = -1; omega)]
    simp
    omega
  · rw [h]
    unfold far at h2
    unfold cap at h4
    unfold may
    rw [if_pos rfl]
    simp
    omega
theorem tok_back (l : List UInt8) (a : Nat) : (tokAt l a).2.1 ≤ (a : Int) := by
  rcases tok_kind l a with ⟨q, _, h, _⟩ | ⟨b, n, h, _, h1, h2, h3, h4, _⟩
  · rw [h]
    show (0 : Int) ≤ _
    omega
  · rw [h]
    unfold far at h2
    show (b : Int) ≤ _
    omega
theorem copyGo_take (l : List UInt8) (b : Nat) (hb : 1 ≤ b) : ∀ n a, b ≤ a → a + n ≤ l.length → (∀ j, j < n → l[a + j]? = l[a + j - b]?) → copyGo n b (l.take a) = l.take (a + n)
  | 0, a, _, _, _ => rfl
  | n + 1, a, h1, h2, h3 => by
    have e : l.take a ++ [(l.take a).getD ((l.take a).length - b) 0] = l.take (a + 1) := by
      have hlt : a < l.length := by omega
      rw [List.take_succ_eq_append_getElem hlt, List.length_take, Nat.min_eq_left (by omega), List.getD_eq_getElem?_getD, List.getElem?_take_of_lt (by omega)]
      have h0 := h3 0 (by omega)
      rw [Nat.add_zero, List.getElem?_eq_getElem hlt] at h0
      rw [← h0]
      rfl
    rw [copyGo, e, copyGo_take l b hb n (a + 1) (by omega) (by omega) (fun j hj => by
      have := h3 (j + 1) (by omega)
      rw [show a + 1 + j = a + (j + 1) from by omega]
      exact this)]
    rw [show a + 1 + n = a + (n + 1) from by omega]
theorem add_take (l : List UInt8) (a : Nat) (h : a < l.length) : addTok (l.take a) (tokAt l a) = l.take (a + longAt l a) := by
  rcases tok_kind l a with ⟨q, hq, h1, h2⟩ | ⟨b, n, h1, h2, h3, h4, h5, h6, h7⟩
  · rw [h1, h2]
    unfold addTok
    rw [if_pos (by show (0 : Int) ≤ (q.toNat : Int); omega), List.take_succ_eq_append_getElem h]
    congr 2
    rw [List.getD_eq_getElem?_getD, List.getElem?_eq_getElem h] at hq
    rw [show l[a] = q from hq]
    show UInt8.ofNat (q.toNat : Int).toNat = q
    rw [Int.toNat_natCast]
    exact UInt8.ofNat_toNat
  · rw [h1, h2]
    unfold addTok
    rw [if_neg (by show ¬ (0 : Int) ≤ -1; omega)]
    unfold far at h4
    unfold cap at h6
    have := run_is l a b
    rw [h7] at this
    exact copyGo_take l b h3 n a (by omega) (by omega) this.2.1
theorem join_toksGo (l : List UInt8) (m : Int) (hm : (l.length : Int) ≤ m) : ∀ k a, l.length - a = k → a ≤ l.length → join (toksGo l (l.length - a) a) m (l.take a) = (l, 0) := by
  intro k
  induction k using Nat.strongRecOn with
  | _ k ih =>
    intro a hk ha
    rcases Nat.lt_or_ge a l.length with h | h
    · have hc := longAt_cap l a h
      have hp := longAt_pos l a
      have hlen : (l.take a).length = a := by rw [List.length_take]; omega
      rw [toks_next l a h, join, if_neg (by rw [tok_may]; simp), hlen, if_neg (by have := tok_back l a; omega), if_neg (by rw [tok_long]; omega), add_take l a h]
      exact ih (l.length - (a + longAt l a)) (by omega) (a + longAt l a) rfl hc
    · rw [toks_end l _ a h, List.take_of_length_le h]
      rfl
theorem join_toks (l : List UInt8) (m : Int) (hm : (l.length : Int) ≤ m) : join (toks l) m [] = (l, 0) := join_toksGo l m hm _ 0 rfl (Nat.zero_le _)
theorem join_lessGo (l : List UInt8) (m : Int) (hm : m < (l.length : Int)) : ∀ k a, l.length - a = k → (a : Int) ≤ m → join (toksGo l (l.length - a) a) m (l.take a) = ([], 13) := by
  intro k
  induction k using Nat.strongRecOn with
  | _ k ih =>
    intro a hk ha
    have h : a < l.length := by omega
    have hc := longAt_cap l a h
    have hp := longAt_pos l a
    have hlen : (l.take a).length = a := by rw [List.length_take]; omega
    rw [toks_next l a h, join, if_neg (by rw [tok_may]; simp), hlen, if_neg (by have := tok_back l a; omega), tok_long]
    by_cases h2 : (longAt l a : Int) > m - (a : Int)
    · rw [if_pos h2]
    · rw [if_neg h2, add_take l a h]
      exact ih (l.length - (a + longAt l a)) (by omega) (a + longAt l a) rfl (by omega)
theorem join_less (l : List UInt8) (m : Int) (hm : m < (l.length : Int)) (h0 : 0 ≤ m) : join (toks l) m [] = ([], 13) := join_lessGo l m hm _ 0 rfl h0
/-- How many bytes tokens describe. -/
def sumL : List Tok → Nat
  | [] => 0
  | t :: ts => (max t.2.2 1).toNat + sumL ts
theorem may_long {t : Tok} (h : may t = true) : (max t.2.2 1).toNat ≤ 66 ∧ 1 ≤ (max t.2.2 1).toNat := by
  unfold may at h
  by_cases h1 : t.1 = -1
  · simp [h1] at h
    omega
  · simp [h1] at h
    omega
theorem sumL_snoc (ts : List Tok) (t : Tok) : sumL (ts ++ [t]) = sumL ts + (max t.2.2 1).toNat := by
  induction ts with
  | nil => simp [sumL]
  | cons x r ih => rw [List.cons_append, sumL, sumL, ih]; omega
theorem sumL_may (ts : List Tok) (h : ∀ t ∈ ts, may t = true) : sumL ts ≤ 66 * ts.length := by
  induction ts with
  | nil => simp [sumL]
  | cons x r ih =>
    have h1 := may_long (h x (List.mem_cons_self ..))
    have h2 := ih (fun t ht => h t (List.mem_cons_of_mem _ ht))
    rw [sumL, List.length_cons]
    omega
theorem copyGo_length : ∀ (k b : Nat) (acc : List UInt8), (copyGo k b acc).length = acc.length + k
  | 0, b, acc => rfl
  | k + 1, b, acc => by rw [copyGo, copyGo_length k b]; simp; omega
theorem add_length (acc : List UInt8) (t : Tok) (h : may t = true) : (addTok acc t).length = acc.length + (max t.2.2 1).toNat := by
  unfold addTok
  unfold may at h
  by_cases h1 : t.1 = -1
  · simp [h1] at h
    rw [if_neg (by omega), copyGo_length]
    omega
  · simp [h1] at h
    rw [if_pos (by omega), List.length_append, h.2]
    rfl
/-- What Join gives of any tokens. -/
theorem join_any_is : ∀ (ts : List Tok) (m : Int) (acc : List UInt8), (acc.length : Int) ≤ m →
    ((join ts m acc).1 = [] ∧ ((join ts m acc).2 = 1 ∨ (join ts m acc).2 = 2 ∨ (join ts m acc).2 = 13)) ∨
    ((join ts m acc).2 = 0 ∧ (join ts m acc).1.length = acc.length + sumL ts ∧ ((join ts m acc).1.length : Int) ≤ m ∧ ∀ t ∈ ts, may t = true)
  | [], m, acc, h => .inr ⟨rfl, rfl, h, fun _ h => by cases h⟩
  | t :: ts, m, acc, h => by
    rw [join]
    by_cases h1 : may t = false
    · rw [if_pos h1]
      exact .inl ⟨rfl, .inl rfl⟩
    · rw [if_neg h1]
      have h1' : may t = true := by simpa using h1
      by_cases h2 : t.2.1 > acc.length
      · rw [if_pos h2]
        exact .inl ⟨rfl, .inr (.inl rfl)⟩
      · rw [if_neg h2]
        by_cases h3 : max t.2.2 1 > m - acc.length
        · rw [if_pos h3]
          exact .inl ⟨rfl, .inr (.inr rfl)⟩
        · rw [if_neg h3]
          have hl := add_length acc t h1'
          rcases join_any_is ts m (addTok acc t) (by omega) with h4 | ⟨h4, h5, h6, h7⟩
          · exact .inl h4
          · refine .inr ⟨h4, ?_, h6, fun x hx => ?_⟩
            · rw [h5, hl, sumL]
              omega
            · rcases List.mem_cons.1 hx with rfl | hx
              · exact h1'
              · exact h7 x hx
/-- The match at place a of one byte repeated. -/
theorem run_rep (k : Nat) (c : UInt8) (a b : Nat) (h1 : 1 ≤ b) (h2 : b ≤ a) : run (List.replicate k c) a b = cap (List.replicate k c) a := by
  refine (run_eq ⟨Nat.le_refl _, fun j hj => ?_, fun h => by omega⟩).symm
  unfold cap at hj
  rw [List.length_replicate] at hj
  rw [List.getElem?_replicate, List.getElem?_replicate, if_pos (by omega), if_pos (by omega)]
theorem tok_rep (k : Nat) (c : UInt8) (a : Nat) (ha : a < k) (h1 : 1 ≤ a) : if 3 ≤ min 66 (k - a) then tokAt (List.replicate k c) a = (-1, 1, ((min 66 (k - a) : Nat) : Int)) ∧ longAt (List.replicate k c) a = min 66 (k - a) else tokAt (List.replicate k c) a = ((c.toNat : Int), 0, 0) ∧ longAt (List.replicate k c) a = 1 := by
  have hcap : cap (List.replicate k c) a = min 66 (k - a) := by unfold cap; rw [List.length_replicate]
  have hfar : 1 ≤ far a := by unfold far; omega
  have hfar2 : far a ≤ a := by unfold far; omega
  have hr1 := run_rep k c a 1 (Nat.le_refl _) h1
  rw [hcap] at hr1
  unfold tokAt longAt
  have hget : (List.replicate k c).getD a 0 = c := by
    rw [List.getD_eq_getElem?_getD, List.getElem?_replicate, if_pos ha]
    rfl
  split
  · rename_i h3
    rcases best_is (List.replicate k c) a with ⟨_, h⟩ | ⟨g1, g2, g3, g4, g5, g6⟩
    · have := h 1 (Nat.le_refl _) hfar
      omega
    · have e1 : (best (List.replicate k c) a).1 = 1 := by
        rcases Nat.lt_or_ge 1 (best (List.replicate k c) a).1 with h | h
        · have q1 := g6 1 (Nat.le_refl _) h
          have q2 := best_cap (List.replicate k c) a
          omega
        · omega
      have e2 : (best (List.replicate k c) a).2 = min 66 (k - a) := by rw [← g4, e1, hr1]
      rw [if_neg (by omega), if_neg (by omega), e1, e2]
      exact ⟨rfl, rfl⟩
  · rename_i h3
    rcases best_is (List.replicate k c) a with ⟨h, _⟩ | ⟨g1, g2, g3, g4, g5, g6⟩
    · rw [h, if_pos rfl, if_pos rfl, hget]
      exact ⟨rfl, rfl⟩
    · have := best_cap (List.replicate k c) a
      omega
theorem tok_rep0 (k : Nat) (c : UInt8) (hk : 0 < k) : tokAt (List.replicate k c) 0 = ((c.toNat : Int), 0, 0) ∧ longAt (List.replicate k c) 0 = 1 := by
  unfold tokAt longAt
  have hget : (List.replicate k c).getD 0 0 = c := by
    rw [List.getD_eq_getElem?_getD, List.getElem?_replicate, if_pos hk]
    rfl
  rcases best_is (List.replicate k c) 0 with ⟨h, _⟩ | ⟨g1, g2, g3, g4, g5, g6⟩
  · rw [h, if_pos rfl, if_pos rfl, hget]
    exact ⟨rfl, rfl⟩
  · unfold far at g2
    omega
end Go.Proofs.Ythoipfdapmjcfaa.PM
