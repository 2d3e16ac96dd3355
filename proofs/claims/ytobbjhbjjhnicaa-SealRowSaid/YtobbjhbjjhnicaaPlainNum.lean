/- Plain: the numbers of chapter 9 as bytes, and back. No program in sight. -/
namespace Go.Proofs.Ytobbjhbjjhnicaa.PN
def M64 : Nat := 18446744073709551616
def enc (n : Nat) : List UInt8 := if n < 250 then [UInt8.ofNat n] else 250 :: UInt8.ofNat (n % 250) :: enc (n / 250)
termination_by n
decreasing_by omega
theorem enc_small {n : Nat} (h : n < 250) : enc n = [UInt8.ofNat n] := by rw [enc, if_pos h]
theorem enc_big {n : Nat} (h : ¬ n < 250) : enc n = 250 :: UInt8.ofNat (n % 250) :: enc (n / 250) := by rw [enc, if_neg h]
theorem byte_nat {n : Nat} (h : n < 250) : (UInt8.ofNat n).toNat = n := by rw [UInt8.toNat_ofNat']; omega
theorem enc_pos (n : Nat) : 0 < (enc n).length := by
  by_cases h : n < 250
  · rw [enc_small h]; simp
  · rw [enc_big h]; simp
theorem enc_len : ∀ (k n : Nat), n < 250 ^ (k + 1) → (enc n).length ≤ 2 * k + 1
  | 0, n, h => by rw [enc_small (by simpa using h)]; simp
  | k + 1, n, h => by
    by_cases h1 : n < 250
    · rw [enc_small h1]; simp
    · rw [enc_big h1]
      have : n / 250 < 250 ^ (k + 1) := by
        rw [Nat.div_lt_iff_lt_mul (by decide)]
        rw [Nat.pow_succ] at h
        exact h
      have := enc_len k (n / 250) this
      simp only [List.length_cons]
      omega
theorem enc_len64 (n : Nat) (h : n < M64) : (enc n).length ≤ 17 := enc_len 8 n (by unfold M64 at h; omega)
theorem enc_mono : ∀ (x y : Nat), x ≤ y → (enc x).length ≤ (enc y).length := by
  intro x
  induction x using Nat.strongRecOn with
  | _ x ih =>
    intro y h
    by_cases h1 : x < 250
    · rw [enc_small h1]
      exact enc_pos y
    · rw [enc_big h1, enc_big (n := y) (by omega)]
      have := ih (x / 250) (by omega) (y / 250) (by omega)
      simp only [List.length_cons]
      omega
/-- What a last digit gives. -/
def fin (first : Bool) (n unit d : Nat) : Option (Nat × Nat) :=
  if unit = 0 ∨ M64 ≤ d * unit ∨ M64 ≤ n + d * unit ∨ (d = 0 ∧ first = false) then none else some (n + d * unit, 1)
def up (unit : Nat) : Nat := if unit * 250 < M64 then unit * 250 else 0
/-- The number at the head of bytes, and how many of them it takes. -/
def dec (first : Bool) (n unit : Nat) : List UInt8 → Option (Nat × Nat)
  | [] => none
  | [b] => if b.toNat < 250 then fin first n unit b.toNat else none
  | b :: c :: r =>
    if b.toNat < 250 then fin first n unit b.toNat
    else if b.toNat = 250 ∧ c.toNat < 250 then
      if unit = 0 ∨ M64 ≤ c.toNat * unit ∨ M64 ≤ n + c.toNat * unit then none else (dec false (n + c.toNat * unit) (up unit) r).map fun p => (p.1, p.2 + 2)
    else none
theorem dec_last {first : Bool} {n unit : Nat} {b : UInt8} (h : b.toNat < 250) : ∀ r : List UInt8, dec first n unit (b :: r) = fin first n unit b.toNat
  | [] => by rw [dec, if_pos h]
  | c :: r => by rw [dec, if_pos h]
theorem dec_pair {first : Bool} {n unit : Nat} {b c : UInt8} (hb : b.toNat = 250) (hc : c.toNat < 250) (r : List UInt8) :
    dec first n unit (b :: c :: r) = if unit = 0 ∨ M64 ≤ c.toNat * unit ∨ M64 ≤ n + c.toNat * unit then none else (dec false (n + c.toNat * unit) (up unit) r).map fun p => (p.1, p.2 + 2) := by
  rw [dec, if_neg (by omega), if_pos ⟨hb, hc⟩]
theorem dec_bad {first : Bool} {n unit : Nat} {b : UInt8} (hb : ¬ b.toNat < 250) : ∀ (r : List UInt8), (∀ c, r[0]? = some c → ¬ (b.toNat = 250 ∧ c.toNat < 250)) → dec first n unit (b :: r) = none
  | [], _ => by rw [dec, if_neg hb]
  | c :: r, h => by rw [dec, if_neg hb, if_neg (h c rfl)]
theorem dec_zero : ∀ (l : List UInt8) (first : Bool) (n : Nat), dec first n 0 l = none
  | [], _, _ => rfl
  | [b], first, n => by
    rw [dec]
    split
    · simp [fin]
    · rfl
  | b :: c :: r, first, n => by
    rw [dec]
    split
    · simp [fin]
    · split
      · simp
      · rfl
theorem two50 : (250 : UInt8).toNat = 250 := rfl
/-- What was encoded is decoded. -/
theorem dec_enc : ∀ (m : Nat) (first : Bool) (n unit : Nat) (r : List UInt8), n + m * unit < M64 → 0 < unit → (m ≠ 0 ∨ first = true) → dec first n unit (enc m ++ r) = some (n + m * unit, (enc m).length) := by
  intro m
  induction m using Nat.strongRecOn with
  | _ m ih =>
    intro first n unit r h hu hf
    by_cases h1 : m < 250
    · rw [enc_small h1, List.singleton_append, dec_last (by rw [byte_nat h1]; exact h1), byte_nat h1, fin, if_neg]
      · rfl
      · rintro (h2 | h2 | h2 | ⟨h2, h3⟩)
        · omega
        · omega
        · omega
        · rcases hf with hf | hf
          · exact hf h2
          · rw [hf] at h3; cases h3
    · have hm : m % 250 < 250 := Nat.mod_lt _ (by decide)
      have e1 : m = m % 250 + 250 * (m / 250) := by omega
      have e2 : m * unit = m % 250 * unit + m / 250 * (unit * 250) := by
        conv => lhs; rw [e1, Nat.add_mul]
        rw [Nat.mul_comm unit 250, ← Nat.mul_assoc, Nat.mul_comm 250 (m / 250)]
      have h250 : unit * 250 ≤ m / 250 * (unit * 250) := Nat.le_mul_of_pos_left _ (by omega)
      rw [enc_big h1]
      show dec first n unit (250 :: UInt8.ofNat (m % 250) :: (enc (m / 250) ++ r)) = _
      rw [dec_pair two50 (by rw [byte_nat hm]; exact hm), byte_nat hm, if_neg (by omega)]
      have hup : up unit = unit * 250 := by unfold up; rw [if_pos (by omega)]
      rw [hup, ih (m / 250) (by omega) false _ (unit * 250) r (by omega) (by omega) (.inl (by omega))]
      simp only [Option.map_some, List.length_cons]
      rw [show n + m % 250 * unit + m / 250 * (unit * 250) = n + m * unit by omega]
/-- An encoding that is cut off is no number. -/
theorem dec_cut : ∀ (m : Nat) (first : Bool) (n unit c : Nat), c < (enc m).length → dec first n unit ((enc m).take c) = none := by
  intro m
  induction m using Nat.strongRecOn with
  | _ m ih =>
    intro first n unit c hc
    by_cases h1 : m < 250
    · rw [enc_small h1] at hc ⊢
      obtain rfl : c = 0 := by simpa using hc
      rfl
    · rw [enc_big h1] at hc ⊢
      match c, hc with
      | 0, _ => rfl
      | 1, _ => exact dec_bad (b := 250) (by decide) [] (fun c h => by cases h)
      | c + 2, hc =>
        have hm : m % 250 < 250 := Nat.mod_lt _ (by decide)
        simp only [List.take_succ_cons]
        rw [dec_pair two50 (by rw [byte_nat hm]; exact hm), ih (m / 250) (by omega) false _ _ c (by simpa using hc)]
        split <;> rfl
/-- What is decoded is the encoding of its number. -/
theorem dec_only : ∀ (l : List UInt8) (first : Bool) (n unit v k : Nat), dec first n unit l = some (v, k) → ∃ m, v = n + m * unit ∧ l.take k = enc m ∧ 1 ≤ k ∧ k ≤ l.length ∧ (m ≠ 0 ∨ first = true) ∧ v < M64
  | [], _, _, _, _, _, h => by cases h
  | b :: r, first, n, unit, v, k, h => by
    by_cases hb : b.toNat < 250
    · rw [dec_last hb, fin] at h
      split at h
      · cases h
      · rename_i hn
        simp only [Option.some.injEq, Prod.mk.injEq] at h
        obtain ⟨rfl, rfl⟩ := h
        refine ⟨b.toNat, rfl, ?_, Nat.le_refl _, by simp, ?_, by omega⟩
        · rw [enc_small hb, UInt8.ofNat_toNat]; simp
        · cases first
          · exact .inl fun h0 => hn (.inr (.inr (.inr ⟨h0, rfl⟩)))
          · exact .inr rfl
    · match r with
      | [] => rw [dec_bad hb [] (fun c h => by cases h)] at h; cases h
      | c :: r =>
        by_cases hc : b.toNat = 250 ∧ c.toNat < 250
        · rw [dec_pair hc.1 hc.2] at h
          split at h
          · cases h
          · rename_i hn
            rw [Option.map_eq_some_iff] at h
            obtain ⟨⟨v', k'⟩, h1, h2⟩ := h
            simp only [Prod.mk.injEq] at h2
            obtain ⟨rfl, rfl⟩ := h2
            by_cases hu : unit * 250 < M64
            · have hup : up unit = unit * 250 := by unfold up; rw [if_pos hu]
              rw [hup] at h1
              obtain ⟨m, hv, ht, hk, hl, hm, hlt⟩ := dec_only r false _ _ _ _ h1
              have hm0 : m ≠ 0 := by rcases hm with h | h; exact h; cases h
              refine ⟨c.toNat + 250 * m, ?_, ?_, by omega, by simp; omega, .inl (by omega), hlt⟩
              · rw [hv, Nat.add_mul, Nat.mul_comm unit 250, ← Nat.mul_assoc, Nat.mul_comm m 250]
                omega
              · have e1 : (c.toNat + 250 * m) % 250 = c.toNat := by omega
                have e2 : (c.toNat + 250 * m) / 250 = m := by omega
                rw [enc_big (by omega), e1, e2, UInt8.ofNat_toNat, List.take_succ_cons, List.take_succ_cons, ht]
                have : b = 250 := by apply UInt8.toNat_inj.1; rw [hc.1]; rfl
                rw [this]
            · have hup : up unit = 0 := by unfold up; rw [if_neg hu]
              rw [hup, dec_zero] at h1
              cases h1
        · rw [dec_bad hb (c :: r) (fun c' h => by cases h; exact hc)] at h
          cases h
end Go.Proofs.Ytobbjhbjjhnicaa.PN
