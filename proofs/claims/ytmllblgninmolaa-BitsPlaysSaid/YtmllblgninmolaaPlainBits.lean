/- Plain: bits and bytes, chapter 10. No program in sight. -/
namespace Go.Proofs.Ytmllblgninmolaa.PB
/-- The number that bits make, the first the highest. -/
def val : List Bool → Nat
  | [] => 0
  | b :: r => b.toNat * 2 ^ r.length + val r
theorem val_append (a : List Bool) : ∀ b : List Bool, val (a ++ b) = val a * 2 ^ b.length + val b := by
  induction a with
  | nil => intro b; simp [val]
  | cons x a ih =>
    intro b
    simp only [List.cons_append, val, ih, List.length_append, Nat.pow_add, Nat.add_mul, Nat.mul_assoc, Nat.add_assoc]
theorem val_snoc (a : List Bool) (b : Bool) : val (a ++ [b]) = 2 * val a + b.toNat := by
  rw [val_append]
  simp [val]
  omega
theorem val_lt (a : List Bool) : val a < 2 ^ a.length := by
  induction a with
  | nil => simp [val]
  | cons b a ih =>
    simp only [val, List.length_cons, Nat.pow_succ]
    cases b <;> simp <;> omega
theorem val_zeros : ∀ n, val (List.replicate n false) = 0
  | 0 => rfl
  | n + 1 => by rw [List.replicate_succ, val, val_zeros n]; simp
/-- The lowest k bits of n, the highest first. -/
def bitsOf (n : Nat) : Nat → List Bool
  | 0 => []
  | k + 1 => n.testBit k :: bitsOf n k
theorem bitsOf_length (n : Nat) : ∀ k, (bitsOf n k).length = k
  | 0 => rfl
  | k + 1 => by rw [bitsOf, List.length_cons, bitsOf_length n k]
theorem testBit_toNat (n k : Nat) : (n.testBit k).toNat = n / 2 ^ k % 2 := by
  rw [Nat.testBit_eq_decide_div_mod_eq]
  rcases Nat.mod_two_eq_zero_or_one (n / 2 ^ k) with h | h <;> simp [h]
theorem val_bitsOf (n : Nat) : ∀ k, val (bitsOf n k) = n % 2 ^ k
  | 0 => by simp [bitsOf, val, Nat.mod_one]
  | k + 1 => by
    rw [bitsOf, val, val_bitsOf n k, bitsOf_length, Nat.mod_pow_succ, testBit_toNat, Nat.mul_comm]
    omega
theorem val_inj : ∀ (a b : List Bool), a.length = b.length → val a = val b → a = b
  | [], [], _, _ => rfl
  | [], _ :: _, h, _ => by cases h
  | _ :: _, [], h, _ => by cases h
  | x :: a, y :: b, hl, hv => by
    have hl' : a.length = b.length := by simpa using hl
    have h1 := val_lt a
    have h2 := val_lt b
    simp only [val, hl'] at hv h1
    have hxy : x = y := by
      cases x <;> cases y <;> simp at hv <;> first | rfl | omega
    subst hxy
    have : val a = val b := by omega
    rw [val_inj a b hl' this]
theorem bitsOf_val (c : List Bool) : bitsOf (val c) c.length = c := by
  apply val_inj
  · rw [bitsOf_length]
  · rw [val_bitsOf, Nat.mod_eq_of_lt (val_lt c)]
theorem bitsOf_pad (c : List Bool) (k : Nat) : bitsOf (val c * 2 ^ k) (c.length + k) = c ++ List.replicate k false := by
  apply val_inj
  · rw [bitsOf_length]; simp
  · rw [val_bitsOf, val_append, val_zeros, List.length_replicate, Nat.add_zero]
    apply Nat.mod_eq_of_lt
    rw [Nat.pow_add]
    exact (Nat.mul_lt_mul_right (Nat.two_pow_pos k)).2 (val_lt c)
/-- The byte of at most eight bits, filled up. -/
def byteOf (c : List Bool) : UInt8 := UInt8.ofNat (val c * 2 ^ (8 - c.length))
theorem byteOf_nat (c : List Bool) (h : c.length ≤ 8) : (byteOf c).toNat = val c * 2 ^ (8 - c.length) := by
  unfold byteOf
  rw [UInt8.toNat_ofNat']
  apply Nat.mod_eq_of_lt
  have h1 := val_lt c
  have e : 2 ^ 8 = 2 ^ c.length * 2 ^ (8 - c.length) := by rw [← Nat.pow_add]; congr 1; omega
  rw [e]
  exact (Nat.mul_lt_mul_right (Nat.two_pow_pos _)).2 h1
def bits8 (b : UInt8) : List Bool := bitsOf b.toNat 8
theorem bits8_byteOf (c : List Bool) (h : c.length ≤ 8) : bits8 (byteOf c) = c ++ List.replicate (8 - c.length) false := by
  unfold bits8
  rw [byteOf_nat c h]
  have := bitsOf_pad c (8 - c.length)
  rw [show c.length + (8 - c.length) = 8 by omega] at this
  exact this
def pack (bs : List Bool) : List UInt8 := match bs with
  | [] => []
  | b :: r => byteOf ((b :: r).take 8) :: pack ((b :: r).drop 8)
termination_by bs.length
decreasing_by simp; omega
theorem pack_nil : pack [] = [] := by rw [pack]
theorem pack_step (bs : List Bool) (h : bs ≠ []) : pack bs = byteOf (bs.take 8) :: pack (bs.drop 8) := by
  cases bs with
  | nil => exact absurd rfl h
  | cons b r => rw [pack]
theorem pack_length : ∀ (n : Nat) (bs : List Bool), bs.length = n → (pack bs).length = (n + 7) / 8 := by
  intro n
  induction n using Nat.strongRecOn with
  | _ n ih =>
    intro bs h
    by_cases h0 : bs = []
    · subst h0
      rw [pack_nil]
      simp at h
      subst h
      rfl
    · have hp : 0 < bs.length := List.length_pos_iff.2 h0
      rw [pack_step bs h0, List.length_cons, ih (n - 8) (by omega) (bs.drop 8) (by rw [List.length_drop]; omega)]
      omega
theorem pack_get (i : Nat) : ∀ (bs : List Bool), 8 * i < bs.length → (pack bs)[i]? = some (byteOf ((bs.drop (8 * i)).take 8)) := by
  induction i with
  | zero =>
    intro bs h
    rw [pack_step bs (by intro e; subst e; simp at h)]
    simp
  | succ i ih =>
    intro bs h
    rw [pack_step bs (by intro e; subst e; simp at h), List.getElem?_cons_succ, ih (bs.drop 8) (by rw [List.length_drop]; omega), List.drop_drop]
    congr 4
    omega
theorem pack_append8 (u v : List Bool) (k : Nat) : ∀ (_ : u.length = 8 * k), pack (u ++ v) = pack u ++ pack v := by
  induction k generalizing u with
  | zero =>
    intro h
    have : u = [] := List.eq_nil_of_length_eq_zero (by omega)
    subst this
    simp [pack_nil]
  | succ k ih =>
    intro h
    have h0 : u ≠ [] := by intro e; subst e; simp at h
    have h1 : u ++ v ≠ [] := by simp [h0]
    rw [pack_step _ h1, pack_step _ h0, List.take_append_of_le_length (by omega), List.drop_append_of_le_length (by omega), ih (u.drop 8) (by rw [List.length_drop]; omega)]
    rfl
def toBits (l : List UInt8) : List Bool := l.flatMap bits8
theorem toBits_cons (b : UInt8) (l : List UInt8) : toBits (b :: l) = bits8 b ++ toBits l := by simp [toBits]
theorem bits8_length (b : UInt8) : (bits8 b).length = 8 := bitsOf_length _ 8
theorem toBits_length (l : List UInt8) : (toBits l).length = 8 * l.length := by
  induction l with
  | nil => rfl
  | cons b l ih => rw [toBits_cons, List.length_append, bits8_length, ih, List.length_cons]; omega
def pad (n : Nat) : Nat := (8 - n % 8) % 8
/-- What was packed is there again, and then the filling. -/
theorem toBits_pack : ∀ (n : Nat) (bs : List Bool), bs.length = n → toBits (pack bs) = bs ++ List.replicate (pad n) false := by
  intro n
  induction n using Nat.strongRecOn with
  | _ n ih =>
    intro bs h
    by_cases h0 : bs = []
    · subst h0
      rw [pack_nil]
      simp at h
      subst h
      rfl
    · have hp : 0 < bs.length := List.length_pos_iff.2 h0
      rw [pack_step bs h0, toBits_cons, bits8_byteOf _ (by simp; omega)]
      by_cases h8 : 8 ≤ bs.length
      · rw [ih (n - 8) (by omega) (bs.drop 8) (by rw [List.length_drop]; omega)]
        have e1 : 8 - (bs.take 8).length = 0 := by rw [List.length_take]; omega
        have e2 : pad (n - 8) = pad n := by unfold pad; omega
        rw [e1, e2]
        simp only [List.replicate_zero, List.append_nil]
        rw [← List.append_assoc, List.take_append_drop]
      · have e1 : bs.take 8 = bs := List.take_of_length_le (by omega)
        have e2 : bs.drop 8 = [] := List.drop_eq_nil_of_le (by omega)
        rw [e1, e2, pack_nil]
        have e3 : pad n = 8 - bs.length := by unfold pad; omega
        rw [e3]
        simp [toBits]
theorem bitsOf_get (n : Nat) : ∀ (k i : Nat), i < k → (bitsOf n k)[i]? = some (n.testBit (k - 1 - i))
  | 0, i, h => by omega
  | k + 1, 0, _ => by simp [bitsOf]
  | k + 1, i + 1, h => by
    rw [bitsOf, List.getElem?_cons_succ, bitsOf_get n k i (by omega)]
    congr 2
    omega
theorem toBits_get (l : List UInt8) : ∀ (p : Nat) (b : UInt8), l[p / 8]? = some b → (toBits l)[p]? = some (b.toNat.testBit (7 - p % 8)) := by
  induction l with
  | nil => intro p b h; simp at h
  | cons x l ih =>
    intro p b h
    rw [toBits_cons]
    by_cases hp : p < 8
    · rw [List.getElem?_append_left (by rw [bits8_length]; exact hp)]
      have h0 : p / 8 = 0 := by omega
      rw [h0] at h
      have hx : x = b := by simpa using h
      subst hx
      unfold bits8
      rw [bitsOf_get _ 8 p hp]
      congr 2
      omega
    · rw [List.getElem?_append_right (by rw [bits8_length]; omega), bits8_length]
      have h1 : p / 8 = (p - 8) / 8 + 1 := by omega
      rw [h1, List.getElem?_cons_succ] at h
      rw [ih (p - 8) b h]
      congr 2
      omega
/-- One bit more of what is taken. -/
theorem val_take_succ (bs : List Bool) (k : Nat) (b : Bool) (h : bs[k]? = some b) : val (bs.take (k + 1)) = 2 * val (bs.take k) + b.toNat := by
  have hk : k < bs.length := (List.getElem?_eq_some_iff.1 h).1
  have hb : bs[k] = b := (List.getElem?_eq_some_iff.1 h).2
  rw [List.take_succ_eq_append_getElem hk, val_snoc, hb]
/-- The bytes that spread makes of a word. -/
def packW (x k : Nat) : List UInt8 := (List.range k).map fun i => UInt8.ofNat (x / 2 ^ (56 - 8 * i) % 256)
theorem packW_length (x k : Nat) : (packW x k).length = k := by simp [packW]
theorem packW_get (x k i : Nat) (h : i < k) : (packW x k)[i]? = some (UInt8.ofNat (x / 2 ^ (56 - 8 * i) % 256)) := by simp [packW, h]
theorem packW_pack (u : List Bool) (hm : u.length ≤ 64) : packW (val u * 2 ^ (64 - u.length)) ((u.length + 7) / 8) = pack u := by
  apply List.ext_getElem?
  intro i
  by_cases hi : i < (u.length + 7) / 8
  · rw [packW_get _ _ _ hi, pack_get i u (by omega)]
    congr 1
    unfold byteOf
    obtain ⟨a, c, r, hu, ha, hcd⟩ : ∃ a c r : List Bool, u = a ++ (c ++ r) ∧ a.length = 8 * i ∧ c = (u.drop (8 * i)).take 8 ∧ True := by
      refine ⟨u.take (8 * i), (u.drop (8 * i)).take 8, (u.drop (8 * i)).drop 8, ?_, ?_, rfl, trivial⟩
      · rw [List.take_append_drop, List.take_append_drop]
      · rw [List.length_take]; omega
    obtain ⟨hc, _⟩ := hcd
    rw [← hc]
    have hl : u.length = 8 * i + (c.length + r.length) := by rw [hu, List.length_append, List.length_append, ha]
    have hc8 : c.length = min 8 (u.length - 8 * i) := by rw [hc, List.length_take, List.length_drop]
    have hvc := val_lt c
    have hvr := val_lt r
    rw [hu, val_append, val_append, List.length_append, List.length_append, List.length_append, ha]
    congr 1
    generalize val a = A
    generalize val c = C at *
    generalize val r = R at *
    by_cases h8 : c.length = 8
    · have e1 : 56 - 8 * i = r.length + (64 - (8 * i + (c.length + r.length))) := by omega
      rw [e1, Nat.pow_add 2 r.length, Nat.mul_div_mul_right _ _ (Nat.two_pow_pos _)]
      have e2 : A * 2 ^ (c.length + r.length) + (C * 2 ^ r.length + R) = R + (A * 256 + C) * 2 ^ r.length := by
        rw [h8, Nat.pow_add, Nat.add_mul, Nat.mul_assoc, show (2 : Nat) ^ 8 = 256 from rfl]
        omega
      rw [e2, Nat.add_mul_div_right _ _ (Nat.two_pow_pos _), Nat.div_eq_of_lt hvr, h8]
      rw [h8] at hvc
      simp
      omega
    · have hr0 : r.length = 0 := by omega
      have hR : R = 0 := by rw [hr0] at hvr; omega
      have e1 : 64 - (8 * i + (c.length + r.length)) = (8 - c.length) + (56 - 8 * i) := by omega
      rw [e1, Nat.pow_add 2 (8 - c.length), ← Nat.mul_assoc, Nat.mul_div_cancel _ (Nat.two_pow_pos _), hr0, hR]
      simp only [Nat.add_zero, Nat.pow_zero, Nat.mul_one]
      have e2 : 2 ^ c.length * 2 ^ (8 - c.length) = 256 := by rw [← Nat.pow_add, show c.length + (8 - c.length) = 8 by omega]
      have e3 : C * 2 ^ (8 - c.length) < 256 := by
        rw [← e2]
        exact (Nat.mul_lt_mul_right (Nat.two_pow_pos _)).2 hvc
      rw [Nat.add_mul, Nat.mul_assoc, e2]
      omega
  · rw [List.getElem?_eq_none (by rw [packW_length]; omega), List.getElem?_eq_none (by rw [pack_length _ u rfl]; omega)]
end Go.Proofs.Ytmllblgninmolaa.PB
