/- Plain arithmetic of the sums of chapter 15: the modulus is prime, so bytes that differ in one place have different sums. No program in sight. -/
namespace Go.Proofs.Ytobbjhbjjhnicaa.PL
def Prm : Nat := 4294967291
def chk : Nat → Nat → Bool
  | 0, a => Prm % a != 0
  | k + 1, a => chk k a && chk k (a + 2 ^ k)
theorem chk_all : chk 16 2 = true := by decide +kernel
theorem chk_spec : ∀ (k a d : Nat), chk k a = true → a ≤ d → d < a + 2 ^ k → Prm % d ≠ 0 := by
  intro k
  induction k with
  | zero =>
    intro a d h h1 h2
    obtain rfl : d = a := by simp at h2; omega
    simpa [chk] using h
  | succ k ih =>
    intro a d h h1 h2
    simp only [chk, Bool.and_eq_true] at h
    by_cases hd : d < a + 2 ^ k
    · exact ih a d h.1 h1 hd
    · exact ih (a + 2 ^ k) d h.2 (by omega) (by rw [Nat.pow_succ] at h2; omega)
theorem no_div (d : Nat) (h1 : 2 ≤ d) (h2 : d < 65538) : ¬ d ∣ Prm := by
  intro h
  exact chk_spec 16 2 d chk_all h1 (by simpa using h2) (Nat.mod_eq_zero_of_dvd h)
theorem coprime (a : Nat) (h0 : 0 < a) (h1 : a < Prm) : Nat.Coprime a Prm := by
  unfold Nat.Coprime
  obtain ⟨q, hq⟩ := Nat.gcd_dvd_right a Prm
  have hg : Nat.gcd a Prm ≤ a := Nat.gcd_le_left _ h0
  have hpos : 0 < Nat.gcd a Prm := Nat.gcd_pos_of_pos_left _ h0
  have hdv : Nat.gcd a Prm ∣ Prm := Nat.gcd_dvd_right a Prm
  generalize Nat.gcd a Prm = g at *
  apply Classical.byContradiction
  intro hne
  have g2 : 2 ≤ g := by omega
  have q2 : 2 ≤ q := by
    match q, hq with
    | 0, hq => simp [Prm] at hq
    | 1, hq => omega
    | q + 2, _ => omega
  have hg' : 65538 ≤ g := by
    rcases Nat.lt_or_ge g 65538 with h | h
    · exact absurd hdv (no_div g g2 h)
    · exact h
  have hq' : 65538 ≤ q := by
    rcases Nat.lt_or_ge q 65538 with h | h
    · exact absurd ⟨g, by rw [Nat.mul_comm]; exact hq⟩ (no_div q q2 h)
    · exact h
  have := Nat.mul_le_mul hg' hq'
  rw [← hq] at this
  simp [Prm] at this
theorem mul_inj (u v x : Nat) (hu : u < Prm) (hv : v < Prm) (hx : 0 < x) (hx' : x < Prm) (h : u * x % Prm = v * x % Prm) : u = v := by
  have key : ∀ u v : Nat, u ≤ v → v < Prm → u * x % Prm = v * x % Prm → u = v := by
    intro u v huv hv h
    have hd : Prm ∣ (v - u) * x := by
      rw [Nat.sub_mul]
      exact Nat.dvd_of_mod_eq_zero (Nat.sub_mod_eq_zero_of_mod_eq h.symm)
    have hc : Nat.Coprime Prm x := (coprime x hx hx').symm
    have h2 : Prm ∣ v - u := hc.dvd_of_dvd_mul_right hd
    rcases Nat.eq_zero_or_pos (v - u) with h3 | h3
    · omega
    · have := Nat.le_of_dvd h3 h2
      omega
  rcases Nat.le_total u v with h' | h'
  · exact key u v h' hv h
  · exact (key v u h' hu h.symm).symm
def sumStep (x v : Nat) (c : UInt8) : Nat := (v * x % Prm + c.toNat + 1) % Prm
def sumGo (x v : Nat) (l : List UInt8) : Nat := l.foldl (sumStep x) v
def sumOf (r s : Nat) (l : List UInt8) : Nat := (sumGo (r % (Prm - 1) + 1) (s % Prm) l * (r % (Prm - 1) + 1) % Prm + l.length) % Prm
theorem sumStep_lt (x v : Nat) (c : UInt8) : sumStep x v c < Prm := Nat.mod_lt _ (by decide)
theorem sumGo_lt (x : Nat) (l : List UInt8) : ∀ v, v < Prm → sumGo x v l < Prm := by
  induction l with
  | nil => intro v h; exact h
  | cons c l ih => intro v _; exact ih _ (sumStep_lt _ _ _)
theorem sumOf_lt (r s : Nat) (l : List UInt8) : sumOf r s l < Prm := Nat.mod_lt _ (by decide)
theorem sumGo_snoc (x v : Nat) (l : List UInt8) (c : UInt8) : sumGo x v (l ++ [c]) = sumStep x (sumGo x v l) c := by simp [sumGo]
theorem add_inj (a b n : Nat) (ha : a < Prm) (hb : b < Prm) (h : (a + n) % Prm = (b + n) % Prm) : a = b := by
  simp only [Prm] at *
  omega
theorem step_inj (x u v : Nat) (c : UInt8) (hx : 0 < x) (hx' : x < Prm) (hu : u < Prm) (hv : v < Prm) (h : sumStep x u c = sumStep x v c) : u = v := by
  refine mul_inj u v x hu hv hx hx' (add_inj _ _ (c.toNat + 1) (Nat.mod_lt _ (by decide)) (Nat.mod_lt _ (by decide)) ?_)
  simpa [sumStep, Nat.add_assoc] using h
theorem step_byte (x v : Nat) (c d : UInt8) (h : sumStep x v c = sumStep x v d) : c = d := by
  have hc := c.toNat_lt
  have hd := d.toNat_lt
  have hv : v * x % Prm < Prm := Nat.mod_lt _ (by decide)
  unfold sumStep at h
  apply UInt8.toNat_inj.1
  generalize v * x % Prm = m at *
  simp only [Prm] at *
  omega
theorem sumGo_inj (x : Nat) (hx : 0 < x) (hx' : x < Prm) (l : List UInt8) : ∀ u v, u < Prm → v < Prm → sumGo x u l = sumGo x v l → u = v := by
  induction l with
  | nil => intro u v _ _ h; exact h
  | cons c l ih =>
    intro u v hu hv h
    exact step_inj x u v c hx hx' hu hv (ih _ _ (sumStep_lt _ _ _) (sumStep_lt _ _ _) h)
theorem x_ok (r : Nat) : 0 < r % (Prm - 1) + 1 ∧ r % (Prm - 1) + 1 < Prm := by
  have : r % (Prm - 1) < Prm - 1 := Nat.mod_lt _ (by decide)
  omega
/-- Bytes that differ in one byte alone have different sums. -/
theorem sum_turned (r s : Nat) (l : List UInt8) (i : Nat) (c : UInt8) (hi : i < l.length) : (sumOf r s (l.set i c) = sumOf r s l) ↔ c = l[i] := by
  constructor
  · intro h
    obtain ⟨hx, hx'⟩ := x_ok r
    unfold sumOf at h
    rw [List.length_set] at h
    generalize r % (Prm - 1) + 1 = x at *
    have hs : s % Prm < Prm := Nat.mod_lt _ (by decide)
    generalize s % Prm = v at *
    have h1 := mul_inj _ _ x (sumGo_lt x _ v hs) (sumGo_lt x _ v hs) hx hx' (add_inj _ _ l.length (Nat.mod_lt _ (by decide)) (Nat.mod_lt _ (by decide)) h)
    rw [List.set_eq_take_append_cons_drop, if_pos hi] at h1
    have e : l = l.take i ++ l[i] :: l.drop (i + 1) := by rw [List.getElem_cons_drop, List.take_append_drop]
    conv at h1 => rhs; rw [e]
    simp only [sumGo, List.foldl_append, List.foldl_cons] at h1
    exact step_byte _ _ _ _ (sumGo_inj x hx hx' _ _ _ (sumStep_lt _ _ _) (sumStep_lt _ _ _) h1)
  · rintro rfl
    rw [List.set_getElem_self]
/-- The same sum reckoned without the remainder in between. -/
theorem step_plain (x v : Nat) (c : UInt8) : (v * x + c.toNat + 1) % Prm = sumStep x v c := by
  unfold sumStep
  rw [Nat.add_assoc, Nat.add_assoc, Nat.mod_add_mod]
end Go.Proofs.Ytobbjhbjjhnicaa.PL
