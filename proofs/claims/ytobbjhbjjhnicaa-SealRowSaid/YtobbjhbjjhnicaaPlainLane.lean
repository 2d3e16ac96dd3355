/- Plain: the stream of chapter 14 and what it is laid over. No program in sight. -/
import Derived.Test.YtobbjhbjjhnicaaPlainKey
namespace Go.Proofs.Ytobbjhbjjhnicaa.PL
/-- A word's bytes, the lowest first. -/
def four (w : UInt32) : List UInt8 := [w.toUInt8, (w >>> 8).toUInt8, (w >>> 16).toUInt8, (w >>> 24).toUInt8]
/-- The key that a group's key is mixed from. -/
def K8.over (k : K8) (p c : UInt32) : K8 := { k with k0 := k.k0 ^^^ p, k1 := k.k1 ^^^ c }
/-- The bytes of a group's first j words. -/
def wordsTo (m k : K8) : Nat → List UInt8
  | 0 => []
  | j + 1 => wordsTo m k j ++ four (m.get j + k.get j)
/-- The first c groups. -/
def groups (k : K8) (p : UInt32) : Nat → List UInt8
  | 0 => []
  | c + 1 => groups k p c ++ wordsTo (mix (k.over p (UInt32.ofNat c))) k 8
def stream (k : K8) (p : UInt32) (n : Nat) : List UInt8 := (groups k p ((n + 31) / 32)).take n
theorem wordsTo_len (m k : K8) (j : Nat) : (wordsTo m k j).length = 4 * j := by
  induction j with
  | zero => rfl
  | succ j ih => rw [wordsTo, List.length_append, ih]; simp [four]; omega
theorem groups_len (k : K8) (p : UInt32) (c : Nat) : (groups k p c).length = 32 * c := by
  induction c with
  | zero => rfl
  | succ c ih => rw [groups, List.length_append, ih, wordsTo_len]; omega
theorem groups_take (k : K8) (p : UInt32) {n c : Nat} (h : n ≤ 32 * c) (d : Nat) : (groups k p (c + d)).take n = (groups k p c).take n := by
  induction d with
  | zero => rfl
  | succ d ih =>
    rw [← Nat.add_assoc, groups, List.take_append_of_le_length (by rw [groups_len]; omega), ih]
theorem stream_eq (k : K8) (p : UInt32) {n c : Nat} (h : n ≤ 32 * c) : (groups k p c).take n = stream k p n := by
  have e : c = (n + 31) / 32 + (c - (n + 31) / 32) := by omega
  rw [e, groups_take k p (by omega)]
  rfl
theorem stream_len (k : K8) (p : UInt32) (n : Nat) : (stream k p n).length = n := by
  unfold stream
  rw [List.length_take, groups_len]
  omega
theorem stream_take (k : K8) (p : UInt32) {m n : Nat} (h : m ≤ n) : (stream k p n).take m = stream k p m := by
  rw [← stream_eq k p (n := n) (c := n) (by omega), List.take_take, Nat.min_eq_left h, stream_eq k p (by omega)]
/-- Bytes laid over a stream. -/
def xorTo (l b : List UInt8) : List UInt8 := List.zipWith (· ^^^ ·) l b
theorem xorTo_len {l b : List UInt8} (h : l.length = b.length) : (xorTo l b).length = b.length := by
  unfold xorTo
  rw [List.length_zipWith, h, Nat.min_self]
theorem xorTo_get {l b : List UInt8} (i : Nat) (h1 : i < l.length) (h2 : i < b.length) : (xorTo l b)[i]? = some (l[i] ^^^ b[i]) := by
  unfold xorTo
  rw [List.getElem?_zipWith, List.getElem?_eq_getElem h1, List.getElem?_eq_getElem h2]
/-- Laid over i bytes. -/
def xorAt (l b : List UInt8) (i : Nat) : List UInt8 := xorTo (l.take i) (b.take i) ++ l.drop i
theorem xorAt_zero (l b : List UInt8) : xorAt l b 0 = l := rfl
theorem xorAt_all {l b : List UInt8} (h : l.length = b.length) : xorAt l b l.length = xorTo l b := by
  unfold xorAt
  rw [List.take_length, h, List.take_length, ← h, List.drop_length, List.append_nil]
theorem xorAt_len {l b : List UInt8} (h : l.length = b.length) (i : Nat) : (xorAt l b i).length = l.length := by
  unfold xorAt
  rw [List.length_append, xorTo_len (by simp; omega), List.length_take, List.length_drop]
  omega
theorem xorAt_get {l b : List UInt8} (h : l.length = b.length) (i : Nat) (hi : i < l.length) : (xorAt l b i)[i]? = some l[i] := by
  unfold xorAt
  have e : (xorTo (l.take i) (b.take i)).length = i := by rw [xorTo_len (by simp; omega), List.length_take]; omega
  rw [List.getElem?_append_right (by omega), e, Nat.sub_self, List.getElem?_drop, Nat.add_zero, List.getElem?_eq_getElem hi]
theorem xorAt_set {l b : List UInt8} (h : l.length = b.length) (i : Nat) (hi : i < l.length) (hb : i < b.length) : (xorAt l b i).set i (l[i] ^^^ b[i]) = xorAt l b (i + 1) := by
  have e : (xorTo (l.take i) (b.take i)).length = i := by rw [xorTo_len (by simp; omega), List.length_take]; omega
  unfold xorAt
  rw [List.set_append_right _ _ (by omega), e, Nat.sub_self, List.drop_eq_getElem_cons hi, List.set_cons_zero]
  rw [List.take_succ_eq_append_getElem hi, List.take_succ_eq_append_getElem hb]
  unfold xorTo
  rw [List.zipWith_append (by simp; omega)]
  simp
theorem xor_self8 (a b : UInt8) : a ^^^ (a ^^^ b) = b := by rw [← UInt8.xor_assoc, UInt8.xor_self, UInt8.zero_xor]
theorem xorTo_twice {l b : List UInt8} (h : l.length = b.length) : xorTo l (xorTo l b) = b := by
  apply List.ext_getElem?
  intro i
  by_cases hi : i < b.length
  · have h1 : i < (xorTo l b).length := by rw [xorTo_len h]; exact hi
    have h2 := xorTo_get (l := l) (b := b) i (by omega) hi
    rw [List.getElem?_eq_getElem h1] at h2
    injection h2 with h2
    rw [xorTo_get i (by omega) h1, h2, xor_self8, List.getElem?_eq_getElem hi]
  · rw [List.getElem?_eq_none (by rw [xorTo_len (by rw [xorTo_len h]; exact h), xorTo_len h]; omega), List.getElem?_eq_none (by omega)]
theorem xorTo_swap {l m b : List UInt8} (h1 : l.length = b.length) (h2 : m.length = b.length) : xorTo l (xorTo m b) = xorTo m (xorTo l b) := by
  apply List.ext_getElem?
  intro i
  by_cases hi : i < b.length
  · have k1 : i < (xorTo m b).length := by rw [xorTo_len h2]; exact hi
    have k2 : i < (xorTo l b).length := by rw [xorTo_len h1]; exact hi
    have e1 := xorTo_get (l := m) (b := b) i (by omega) hi
    have e2 := xorTo_get (l := l) (b := b) i (by omega) hi
    rw [List.getElem?_eq_getElem k1] at e1
    rw [List.getElem?_eq_getElem k2] at e2
    injection e1 with e1
    injection e2 with e2
    rw [xorTo_get i (by omega) k1, xorTo_get i (by omega) k2, e1, e2, ← UInt8.xor_assoc, ← UInt8.xor_assoc, UInt8.xor_comm l[i] m[i]]
  · rw [List.getElem?_eq_none (by rw [xorTo_len (by rw [xorTo_len h2]; exact h1), xorTo_len h2]; omega), List.getElem?_eq_none (by rw [xorTo_len (by rw [xorTo_len h1]; exact h2), xorTo_len h1]; omega)]
end Go.Proofs.Ytobbjhbjjhnicaa.PL
