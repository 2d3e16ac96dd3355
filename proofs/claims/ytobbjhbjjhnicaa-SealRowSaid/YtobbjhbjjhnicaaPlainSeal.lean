/- Plain: the segments of chapter 17 as bytes, and back. No program in sight. -/
import Derived.Test.YtobbjhbjjhnicaaNumGet
import Derived.Test.YtobbjhbjjhnicaaPlainLane
import Derived.Test.YtobbjhbjjhnicaaOf
namespace Go.Proofs.Ytobbjhbjjhnicaa.PS
open Go.RowKit
/-- A segment. -/
structure Seg where
  kind : Int
  place : Int
  last : Bool
  body : List UInt8
def zero : Seg := ⟨0, 0, false, []⟩
def may (s : Seg) : Bool := decide (1 ≤ s.kind) && decide (s.kind ≤ 3) && decide (0 ≤ s.place) && decide (s.place ≤ 1048576) && decide (s.body.length ≤ 12100) && (s.last == decide (s.kind = 3))
theorem may_is (s : Seg) : may s = true ↔ 1 ≤ s.kind ∧ s.kind ≤ 3 ∧ 0 ≤ s.place ∧ s.place ≤ 1048576 ∧ s.body.length ≤ 12100 ∧ s.last = decide (s.kind = 3) := by
  unfold may
  simp only [Bool.and_eq_true, decide_eq_true_eq, beq_iff_eq]
  constructor
  · rintro ⟨⟨⟨⟨⟨h1, h2⟩, h3⟩, h4⟩, h5⟩, h6⟩
    exact ⟨h1, h2, h3, h4, h5, h6⟩
  · rintro ⟨h1, h2, h3, h4, h5, h6⟩
    exact ⟨⟨⟨⟨⟨h1, h2⟩, h3⟩, h4⟩, h5⟩, h6⟩
/-- The bytes of a tag. -/
def tag (k : PL.K8) (p : Int) (l : List UInt8) : List UInt8 := (List.range 8).map (tagOf k p l)
theorem tag_len (k : PL.K8) (p : Int) (l : List UInt8) : (tag k p l).length = 8 := by simp [tag]
/-- What a tag is made of. -/
def head (k : PL.K8) (s : Seg) : List UInt8 := UInt8.ofNat s.kind.toNat :: (PN.enc s.place.toNat ++ (PN.enc s.body.length ++ PL.xorTo (PL.stream k (placeWord s.place) s.body.length) s.body))
def put (k : PL.K8) (s : Seg) : List UInt8 := head k s ++ tag k s.place (head k s)
/-- Might a number go on behind the end? -/
def runs : Nat → List UInt8 → Bool
  | _, [] => true
  | 0, _ :: _ => false
  | _ + 1, [b] => decide (b.toNat = 250)
  | p + 1, b :: c :: r => decide (b.toNat = 250) && decide (c.toNat < 250) && runs p r
theorem runs_dec : ∀ (p : Nat) (r : List UInt8) (f : Bool) (n u : Nat), runs p r = true → PN.dec f n u r = none
  | _, [], _, _, _, _ => rfl
  | 0, _ :: _, _, _, _, h => by simp [runs] at h
  | p + 1, [b], f, n, u, h => by
    simp [runs] at h
    rw [PN.dec, if_neg (by omega)]
  | p + 1, b :: c :: r, f, n, u, h => by
    simp [runs] at h
    rw [PN.dec, if_neg (by omega), if_pos ⟨by omega, by omega⟩]
    split
    · rfl
    · rw [runs_dec p r _ _ _ h.2]
      rfl
/-- A number of at most m at place a: the number, where it ends, a code. -/
def number (l : List UInt8) (a m : Nat) : Nat × Nat × Nat :=
  if runs 8 (l.drop a) = true then (0, a, 5) else if (getRes l a).2.2 ≠ 0 ∨ m < (getRes l a).1 then (0, a, 3) else ((getRes l a).1, (getRes l a).2.1, 0)
theorem number_ok (l : List UInt8) (a m : Nat) (h : (number l a m).2.2 = 0) : (number l a m).1 ≤ m ∧ a < (number l a m).2.1 ∧ (number l a m).2.1 ≤ l.length := by
  unfold number at *
  split at h
  · simp at h
  · rename_i h1
    rw [if_neg h1]
    split at h
    · simp at h
    · rename_i h2
      rw [if_neg h2]
      have h3 : ¬ (getRes l a).2.2 ≠ 0 := fun e => h2 (.inl e)
      have h4 : ¬ m < (getRes l a).1 := fun e => h2 (.inr e)
      refine ⟨by show (getRes l a).1 ≤ m; omega, ?_⟩
      show a < (getRes l a).2.1 ∧ (getRes l a).2.1 ≤ l.length
      unfold getRes at *
      generalize hd : PN.dec true 0 1 (l.drop a) = r at *
      cases r with
      | none => simp [resOf] at h3
      | some q =>
        obtain ⟨v, k⟩ := q
        obtain ⟨m, _, _, hk1, hk2, _⟩ := PN.dec_only _ _ _ _ _ _ hd
        rw [List.length_drop] at hk2
        show a < a + k ∧ a + k ≤ l.length
        omega
theorem number_bad (l : List UInt8) (a m : Nat) (h : (number l a m).2.2 ≠ 0) : number l a m = (0, a, (number l a m).2.2) := by
  unfold number at *
  split
  · rfl
  · rename_i h1
    rw [if_neg h1] at h
    split
    · rfl
    · rename_i h2
      rw [if_neg h2] at h
      exact absurd rfl h
/-- The segment at place a, where it ends, a code. -/
def get (k : PL.K8) (l : List UInt8) (a : Nat) (place : Int) : Seg × Nat × Nat :=
  if l.length < a then (zero, a, 1)
  else if l.length = a then (zero, a, 5)
  else if (l.getD a 0).toNat < 1 ∨ 3 < (l.getD a 0).toNat then (zero, a, 3)
  else if (number l (a + 1) 1048576).2.2 ≠ 0 then (zero, a, (number l (a + 1) 1048576).2.2)
  else if (number l (number l (a + 1) 1048576).2.1 12100).2.2 ≠ 0 then (zero, a, (number l (number l (a + 1) 1048576).2.1 12100).2.2)
  else body (l.getD a 0).toNat (number l (a + 1) 1048576).1 (number l (number l (a + 1) 1048576).2.1 12100).1 (number l (number l (a + 1) 1048576).2.1 12100).2.1
where
  body (kind p n i : Nat) : Seg × Nat × Nat :=
    if l.length < i + n + 8 then (zero, a, 5)
    else if (l.drop (i + n)).take 8 ≠ tag k p ((l.drop a).take (i + n - a)) then (zero, a, 4)
    else if (p : Int) ≠ place then (zero, a, 2)
    else (⟨kind, p, decide (kind = 3), PL.xorTo (PL.stream k (placeWord p) n) ((l.drop i).take n)⟩, i + n + 8, 0)
theorem body_ok (k : PL.K8) (l : List UInt8) (a : Nat) (place : Int) (kind p n i : Nat) (h : (get.body k l a place kind p n i).2.2 = 0) : (get.body k l a place kind p n i).2.1 = i + n + 8 ∧ i + n + 8 ≤ l.length := by
  unfold get.body at *
  split at h
  · simp at h
  · rename_i h1
    rw [if_neg h1]
    split at h
    · simp at h
    · rename_i h2
      rw [if_neg h2]
      split at h
      · simp at h
      · rename_i h3
        rw [if_neg h3]
        exact ⟨rfl, by omega⟩
theorem get_ok (k : PL.K8) (l : List UInt8) (a : Nat) (place : Int) (h : (get k l a place).2.2 = 0) : a < (get k l a place).2.1 ∧ (get k l a place).2.1 ≤ l.length := by
  unfold get at *
  split at h
  · simp at h
  · rename_i h1
    rw [if_neg h1]
    split at h
    · simp at h
    · rename_i h2
      rw [if_neg h2]
      split at h
      · simp at h
      · rename_i h3
        rw [if_neg h3]
        split at h
        · rename_i h4
          exact absurd h h4
        · rename_i h4
          rw [if_neg h4]
          split at h
          · rename_i h5
            exact absurd h h5
          · rename_i h5
            rw [if_neg h5]
            have q1 := number_ok l (a + 1) 1048576 (by omega)
            have q2 := number_ok l (number l (a + 1) 1048576).2.1 12100 (by omega)
            have q3 := body_ok k l a place _ _ _ _ h
            omega
/-- The segments from place a on. -/
def allGo (k : PL.K8) (l : List UInt8) : Nat → Nat → List Seg → List Seg × Nat × Nat
  | 0, a, acc => (acc, a, 5)
  | f + 1, a, acc => if (get k l a acc.length).2.2 ≠ 0 then (acc, a, (get k l a acc.length).2.2) else if (get k l a acc.length).1.last = true then (acc ++ [(get k l a acc.length).1], (get k l a acc.length).2.1, 0) else allGo k l f (get k l a acc.length).2.1 (acc ++ [(get k l a acc.length).1])
def all (k : PL.K8) (l : List UInt8) (a : Nat) : List Seg × Nat × Nat := allGo k l (l.length + 1) a []
end Go.Proofs.Ytobbjhbjjhnicaa.PS
