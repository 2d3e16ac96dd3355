/- Plain: what was sealed is read again; what was cut, turned or put in another place is told. No program in sight. -/
import Derived.Test.YtobbjhbjjhnicaaPlainSeal
import Derived.Test.YtobbjhbjjhnicaaSealAll
namespace Go.Proofs.Ytobbjhbjjhnicaa.PS
open Go.RowKit
set_option linter.unusedVariables false
theorem runs_cut : ∀ (p n c : Nat), (PN.enc n).length ≤ 2 * p + 1 → c < (PN.enc n).length → runs p ((PN.enc n).take c) = true := by
  intro p
  induction p with
  | zero =>
    intro n c h1 h2
    have hc : c = 0 := by omega
    subst hc
    rw [List.take_zero]
    rfl
  | succ p ih =>
    intro n c h1 h2
    by_cases hn : n < 250
    · rw [PN.enc_small hn] at h2 ⊢
      have hc : c = 0 := by simpa using h2
      subst hc
      rfl
    · rw [PN.enc_big hn] at h1 h2 ⊢
      simp only [List.length_cons] at h1 h2
      rcases c with _ | _ | c
      · rfl
      · show decide ((250 : UInt8).toNat = 250) = true
        rfl
      · show (decide ((250 : UInt8).toNat = 250) && decide ((UInt8.ofNat (n % 250)).toNat < 250) && runs p ((PN.enc (n / 250)).take c)) = true
        rw [ih (n / 250) c (by omega) (by omega), PN.byte_nat (by omega), decide_eq_true (show n % 250 < 250 by omega)]
        rfl
theorem runs_enc : ∀ (p n : Nat) (r : List UInt8), runs p (PN.enc n ++ r) = false := by
  intro p
  induction p with
  | zero =>
    intro n r
    by_cases hn : n < 250
    · rw [PN.enc_small hn]; rfl
    · rw [PN.enc_big hn]; rfl
  | succ p ih =>
    intro n r
    by_cases hn : n < 250
    · rw [PN.enc_small hn]
      have hb : decide ((UInt8.ofNat n).toNat = 250) = false := by rw [PN.byte_nat hn]; exact decide_eq_false (by omega)
      cases r with
      | nil => exact hb
      | cons c r =>
        show (decide ((UInt8.ofNat n).toNat = 250) && _ && _) = false
        rw [hb]
        rfl
    · rw [PN.enc_big hn]
      show (_ && _ && runs p (PN.enc (n / 250) ++ r)) = false
      rw [ih, Bool.and_false]
theorem number_enc {l r : List UInt8} {a n m : Nat} (h : l.drop a = PN.enc n ++ r) (hn : n ≤ m) (hm : m ≤ 1048576) : number l a m = (n, a + (PN.enc n).length, 0) := by
  have hd : getRes l a = (n, a + (PN.enc n).length, 0) := by
    unfold getRes
    rw [h, PN.dec_enc n true 0 1 r (by unfold PN.M64; omega) (by omega) (.inr rfl)]
    simp [resOf]
  unfold number
  rw [h, runs_enc, hd, if_neg (by simp), if_neg (by simp; omega)]
theorem number_cut {l : List UInt8} {a n m c : Nat} (h : l.drop a = (PN.enc n).take c) (hn : n < PN.M64) (hc : c < (PN.enc n).length) : number l a m = (0, a, 5) := by
  unfold number
  rw [h, if_pos (runs_cut 8 n c (PN.enc_len64 n hn) hc)]
theorem take_add_append {α : Type} (x y : List α) (c : Nat) (h : x.length ≤ c) : (x ++ y).take c = x ++ y.take (c - x.length) := by
  rw [List.take_append, List.take_of_length_le h]
theorem put_split (k : PL.K8) (s : Seg) : put k s = UInt8.ofNat s.kind.toNat :: (PN.enc s.place.toNat ++ (PN.enc s.body.length ++ (PL.xorTo (PL.stream k (placeWord s.place) s.body.length) s.body ++ tag k s.place (head k s)))) := by
  unfold put
  conv => lhs; lhs; unfold head
  simp only [List.cons_append, List.append_assoc]
theorem xor_len (k : PL.K8) (s : Seg) : (PL.xorTo (PL.stream k (placeWord s.place) s.body.length) s.body).length = s.body.length := by
  rw [PL.xorTo_len (PL.stream_len _ _ _)]
theorem head_len (k : PL.K8) (s : Seg) : (head k s).length = 1 + (PN.enc s.place.toNat).length + (PN.enc s.body.length).length + s.body.length := by
  unfold head
  simp only [List.length_cons, List.length_append, xor_len]
  omega
theorem put_len (k : PL.K8) (s : Seg) : (put k s).length = 1 + (PN.enc s.place.toNat).length + (PN.enc s.body.length).length + s.body.length + 8 := by
  unfold put
  rw [List.length_append, tag_len, head_len]
theorem put_bound (k : PL.K8) (s : Seg) (hm : may s = true) : (put k s).length ≤ s.body.length + 50 := by
  have h := (may_is s).1 hm
  rw [put_len]
  have h1 := PN.enc_len64 s.place.toNat (by unfold PN.M64; omega)
  have h2 := PN.enc_len64 s.body.length (by unfold PN.M64; omega)
  omega
theorem put_pos (k : PL.K8) (s : Seg) : 0 < (put k s).length := by rw [put_len]; omega
theorem getD_of_drop {l r : List UInt8} {a : Nat} {x d : UInt8} (h : l.drop a = x :: r) : l.getD a d = x := by
  have h1 : (l.drop a)[0]? = l[a + 0]? := List.getElem?_drop
  rw [h] at h1
  rw [List.getD_eq_getElem?_getD, show a = a + 0 from rfl, ← h1]
  rfl
theorem get_put (k : PL.K8) (pre post : List UInt8) (s : Seg) (place : Int) (hm : may s = true) (l : List UInt8) (hl : l = pre ++ (put k s ++ post)) :
    get k l pre.length place = if s.place = place then (s, pre.length + (put k s).length, 0) else (zero, pre.length, 2) := by
  obtain ⟨h1, h2, h3, h4, h5, h6⟩ := (may_is s).1 hm
  have hlen : l.length = pre.length + (put k s).length + post.length := by rw [hl]; simp only [List.length_append]; omega
  have hpl := put_len k s
  have d0 : l.drop pre.length = put k s ++ post := by rw [hl, List.drop_left]
  have hsp := put_split k s
  obtain ⟨X, hX⟩ : ∃ X, X = PL.xorTo (PL.stream k (placeWord s.place) s.body.length) s.body := ⟨_, rfl⟩
  have hXl : X.length = s.body.length := by rw [hX]; exact xor_len k s
  obtain ⟨e1, he1⟩ : ∃ e1, e1 = PN.enc s.place.toNat := ⟨_, rfl⟩
  obtain ⟨e2, he2⟩ : ∃ e2, e2 = PN.enc s.body.length := ⟨_, rfl⟩
  obtain ⟨T, hT⟩ : ∃ T, T = tag k s.place (head k s) := ⟨_, rfl⟩
  have hTl : T.length = 8 := by rw [hT, tag_len]
  rw [← hX, ← he1, ← he2, ← hT] at hsp
  rw [← he1, ← he2] at hpl
  have dd : ∀ n, l.drop (pre.length + n) = (put k s ++ post).drop n := fun n => by rw [← List.drop_drop, d0]
  have g0 : (l.getD pre.length 0).toNat = s.kind.toNat := by
    have : l.getD pre.length 0 = UInt8.ofNat s.kind.toNat := by
      rw [hsp] at d0
      exact getD_of_drop d0
    rw [this, UInt8.toNat_ofNat']
    omega
  have d1 : l.drop (pre.length + 1) = e1 ++ (e2 ++ (X ++ (T ++ post))) := by
    rw [dd, hsp]
    simp only [List.cons_append, List.drop_succ_cons, List.drop_zero, List.append_assoc]
  have n1 : number l (pre.length + 1) 1048576 = (s.place.toNat, pre.length + 1 + e1.length, 0) := by
    rw [he1] at d1 ⊢
    exact number_enc d1 (by omega) (by omega)
  have d2 : l.drop (pre.length + 1 + e1.length) = e2 ++ (X ++ (T ++ post)) := by
    rw [← List.drop_drop, d1, List.drop_left]
  have n2 : number l (pre.length + 1 + e1.length) 12100 = (s.body.length, pre.length + 1 + e1.length + e2.length, 0) := by
    rw [he2] at d2 ⊢
    exact number_enc d2 (by omega) (by omega)
  have d3 : l.drop (pre.length + 1 + e1.length + e2.length) = X ++ (T ++ post) := by
    rw [← List.drop_drop, d2, List.drop_left]
  have d4 : l.drop (pre.length + 1 + e1.length + e2.length + s.body.length) = T ++ post := by
    rw [← List.drop_drop, d3, ← hXl, List.drop_left]
  have hk : ((s.place.toNat : Nat) : Int) = s.place := by omega
  unfold get
  rw [if_neg (by omega), if_neg (by omega), if_neg (by rw [g0]; omega), n1]
  simp only
  rw [if_neg (by simp), n2]
  simp only
  rw [if_neg (by simp)]
  unfold get.body
  rw [if_neg (by omega), d4, g0, hk]
  have ht : (T ++ post).take 8 = T := by rw [← hTl, List.take_left]
  have hh : (l.drop pre.length).take (pre.length + 1 + e1.length + e2.length + s.body.length - pre.length) = head k s := by
    rw [d0]
    have hhl := head_len k s
    rw [← he1, ← he2] at hhl
    rw [show pre.length + 1 + e1.length + e2.length + s.body.length - pre.length = (head k s).length by omega]
    unfold put
    rw [List.append_assoc, List.take_left]
  rw [ht, hh, ← hT, if_neg (by simp), d3]
  have hx : (X ++ (T ++ post)).take s.body.length = X := by rw [← hXl, List.take_left]
  rw [hx, hX, PL.xorTo_twice (PL.stream_len _ _ _)]
  by_cases hp : s.place = place
  · rw [if_neg (fun h => h hp), if_pos hp]
    have hkk : ((s.kind.toNat : Nat) : Int) = s.kind := by omega
    have hlast : decide (s.kind.toNat = 3) = s.last := by
      rw [h6, Bool.eq_iff_iff, decide_eq_true_eq, decide_eq_true_eq]
      omega
    rw [hkk, hlast]
    refine Prod.ext rfl (Prod.ext ?_ rfl)
    show pre.length + 1 + e1.length + e2.length + s.body.length + 8 = pre.length + (put k s).length
    omega
  · rw [if_pos hp, if_neg hp]
theorem get_cut (k : PL.K8) (pre : List UInt8) (s : Seg) (place : Int) (c : Nat) (hm : may s = true) (hc : c < (put k s).length) (l : List UInt8) (hl : l = pre ++ (put k s).take c) :
    get k l pre.length place = (zero, pre.length, 5) := by
  obtain ⟨h1, h2, h3, h4, h5, h6⟩ := (may_is s).1 hm
  have hlen : l.length = pre.length + c := by rw [hl]; simp only [List.length_append, List.length_take]; omega
  have hpl := put_len k s
  have d0 : l.drop pre.length = (put k s).take c := by rw [hl, List.drop_left]
  have hsp := put_split k s
  obtain ⟨X, hX⟩ : ∃ X, X = PL.xorTo (PL.stream k (placeWord s.place) s.body.length) s.body := ⟨_, rfl⟩
  have hXl : X.length = s.body.length := by rw [hX]; exact xor_len k s
  obtain ⟨e1, he1⟩ : ∃ e1, e1 = PN.enc s.place.toNat := ⟨_, rfl⟩
  obtain ⟨e2, he2⟩ : ∃ e2, e2 = PN.enc s.body.length := ⟨_, rfl⟩
  obtain ⟨T, hT⟩ : ∃ T, T = tag k s.place (head k s) := ⟨_, rfl⟩
  have hTl : T.length = 8 := by rw [hT, tag_len]
  rw [← hX, ← he1, ← he2, ← hT] at hsp
  rw [← he1, ← he2] at hpl
  rcases c with _ | c
  · unfold get
    rw [if_neg (by omega), if_pos (by omega)]
  · have d0' : l.drop pre.length = UInt8.ofNat s.kind.toNat :: (e1 ++ (e2 ++ (X ++ T))).take c := by
      rw [d0, hsp]
      rfl
    have g0 : (l.getD pre.length 0).toNat = s.kind.toNat := by
      have : l.getD pre.length 0 = UInt8.ofNat s.kind.toNat := by
        exact getD_of_drop d0'
      rw [this, UInt8.toNat_ofNat']
      omega
    have d1 : l.drop (pre.length + 1) = (e1 ++ (e2 ++ (X ++ T))).take c := by
      rw [← List.drop_drop, d0']
      rfl
    unfold get
    rw [if_neg (by omega), if_neg (by omega), if_neg (by rw [g0]; omega)]
    by_cases hc1 : c < e1.length
    · have n1 : number l (pre.length + 1) 1048576 = (0, pre.length + 1, 5) := by
        rw [List.take_append_of_le_length (by omega)] at d1
        rw [he1] at d1 hc1
        exact number_cut d1 (by unfold PN.M64; omega) hc1
      rw [n1]
      simp
    · have d1' : l.drop (pre.length + 1) = e1 ++ (e2 ++ (X ++ T)).take (c - e1.length) := by
        rw [d1, take_add_append _ _ _ (by omega)]
      have n1 : number l (pre.length + 1) 1048576 = (s.place.toNat, pre.length + 1 + e1.length, 0) := by
        rw [he1] at d1' ⊢
        exact number_enc d1' (by omega) (by omega)
      have d2 : l.drop (pre.length + 1 + e1.length) = (e2 ++ (X ++ T)).take (c - e1.length) := by
        rw [← List.drop_drop, d1', List.drop_left]
      rw [n1]
      simp only
      rw [if_neg (by simp)]
      by_cases hc2 : c - e1.length < e2.length
      · have n2 : number l (pre.length + 1 + e1.length) 12100 = (0, pre.length + 1 + e1.length, 5) := by
          rw [List.take_append_of_le_length (by omega)] at d2
          rw [he2] at d2 hc2
          exact number_cut d2 (by unfold PN.M64; omega) hc2
        rw [n2]
        simp
      · have d2' : l.drop (pre.length + 1 + e1.length) = e2 ++ (X ++ T).take (c - e1.length - e2.length) := by
          rw [d2, take_add_append _ _ _ (by omega)]
        have n2 : number l (pre.length + 1 + e1.length) 12100 = (s.body.length, pre.length + 1 + e1.length + e2.length, 0) := by
          rw [he2] at d2' ⊢
          exact number_enc d2' (by omega) (by omega)
        rw [n2]
        simp only
        rw [if_neg (by simp)]
        unfold get.body
        rw [if_pos (by omega)]
/-- The bytes of segments in a row. -/
def cat (k : PL.K8) : List Seg → List UInt8
  | [] => []
  | s :: r => put k s ++ cat k r
theorem cat_append (k : PL.K8) : ∀ a b, cat k (a ++ b) = cat k a ++ cat k b
  | [], b => rfl
  | s :: a, b => by simp only [List.cons_append, cat, cat_append k a b, List.append_assoc]
theorem cat_len (k : PL.K8) : ∀ a, a.length ≤ (cat k a).length
  | [] => Nat.le_refl _
  | s :: a => by
    have := cat_len k a
    have := put_pos k s
    simp only [cat, List.length_append, List.length_cons]
    omega
/-- Segments that may be, at their places from q on, none the last. -/
def Lines (q : Nat) (o : List Seg) : Prop := ∀ i s, o[i]? = some s → may s = true ∧ s.place = ((q + i : Nat) : Int) ∧ s.last = false
theorem Lines.tail {q : Nat} {s : Seg} {o : List Seg} (h : Lines q (s :: o)) : Lines (q + 1) o := fun i x hx => by
  have := h (i + 1) x hx
  rw [show q + 1 + i = q + (i + 1) by omega]
  exact this
theorem allGo_lines (k : PL.K8) (l : List UInt8) : ∀ (o : List Seg) (pre post : List UInt8) (acc : List Seg) (f : Nat), l = pre ++ (cat k o ++ post) → Lines acc.length o → o.length ≤ f →
    allGo k l f pre.length acc = allGo k l (f - o.length) (pre.length + (cat k o).length) (acc ++ o)
  | [], pre, post, acc, f, _, _, _ => by simp [cat]
  | s :: o, pre, post, acc, f, hl, hL, hf => by
    rcases f with _ | f
    · simp at hf
    obtain ⟨h1, h2, h3⟩ := hL 0 s rfl
    have hg := get_put k pre (cat k o ++ post) s (acc.length : Int) h1 l (by rw [hl]; simp only [cat, List.append_assoc])
    rw [if_pos (by rw [h2]; rfl)] at hg
    rw [allGo, hg]
    simp only
    rw [if_neg (by simp), if_neg (by rw [h3]; simp)]
    have ih := allGo_lines k l o (pre ++ put k s) post (acc ++ [s]) f (by rw [hl]; simp only [cat, List.append_assoc]) (by rw [List.length_append]; exact hL.tail) (by simp only [List.length_cons] at hf; omega)
    rw [List.length_append] at ih
    rw [ih, List.append_assoc]
    simp only [cat, List.length_append, List.length_cons, List.cons_append, List.nil_append]
    rw [show f + 1 - (o.length + 1) = f - o.length by omega, Nat.add_assoc]
theorem allGo_pre (k : PL.K8) (l : List UInt8) : ∀ (f a : Nat) (acc : List Seg), ∃ rest, (allGo k l f a acc).1 = acc ++ rest
  | 0, a, acc => ⟨[], by simp [allGo]⟩
  | f + 1, a, acc => by
    rw [allGo]
    split
    · exact ⟨[], by simp⟩
    · split
      · exact ⟨[(get k l a acc.length).1], rfl⟩
      · obtain ⟨rest, h⟩ := allGo_pre k l f (get k l a acc.length).2.1 (acc ++ [(get k l a acc.length).1])
        exact ⟨(get k l a acc.length).1 :: rest, by rw [h]; simp⟩
theorem allGo_pos (k : PL.K8) (l : List UInt8) : ∀ (f a : Nat) (acc : List Seg), a ≤ l.length → (allGo k l f a acc).2.1 ≤ l.length
  | 0, a, acc, h => h
  | f + 1, a, acc, h => by
    rw [allGo]
    split
    · exact h
    · rename_i h1
      have h2 := get_ok k l a acc.length (by omega)
      split
      · exact h2.2
      · exact allGo_pos k l f _ _ h2.2
/-- A row: segments at their places, the last one the end. -/
def IsRow (r : List Seg) : Prop := ∃ o z, r = o ++ [z] ∧ Lines 0 o ∧ may z = true ∧ z.place = (o.length : Int) ∧ z.last = true
theorem all_from {k : PL.K8} {l : List UInt8} {o : List Seg} {post : List UInt8} (hl : l = cat k o ++ post) (hL : Lines 0 o) : all k l 0 = allGo k l (l.length + 1 - o.length) (cat k o).length o := by
  have h := allGo_lines k l o [] post [] (l.length + 1) (by rw [hl]; rfl) hL (by have := cat_len k o; rw [hl, List.length_append]; omega)
  unfold all
  rw [show (0 : Nat) = ([] : List UInt8).length from rfl, h]
  simp
theorem all_row (k : PL.K8) (r : List Seg) (h : IsRow r) : all k (cat k r) 0 = (r, (cat k r).length, 0) := by
  obtain ⟨o, z, rfl, hL, h1, h2, h3⟩ := h
  have hc : cat k (o ++ [z]) = cat k o ++ (put k z ++ []) := by rw [cat_append]; simp only [cat, List.append_nil]
  rw [all_from hc hL]
  have hlen := cat_len k o
  have hl2 : (cat k (o ++ [z])).length = (cat k o).length + (put k z).length := by rw [hc]; simp
  obtain ⟨f, hf⟩ : ∃ f, (cat k (o ++ [z])).length + 1 - o.length = f + 1 := ⟨(cat k (o ++ [z])).length - o.length, by omega⟩
  rw [hf, allGo, get_put k (cat k o) [] z o.length h1 _ hc, if_pos h2]
  simp only
  rw [if_neg (by simp), if_pos h3, hl2]
theorem Lines.take {q : Nat} {o : List Seg} (h : Lines q o) (w : Nat) : Lines q (o.take w) := fun i s hi => by
  rw [List.getElem?_take] at hi
  split at hi
  · exact h i s hi
  · cases hi
theorem take_row {r : List Seg} (h : IsRow r) {w : Nat} (hw : w < r.length) : Lines 0 (r.take w) ∧ ∃ x, r[w]? = some x ∧ may x = true ∧ x.place = (w : Int) := by
  obtain ⟨o, z, rfl, hL, h1, h2, h3⟩ := h
  rw [List.length_append, List.length_singleton] at hw
  refine ⟨?_, ?_⟩
  · rw [List.take_append_of_le_length (by omega)]
    exact hL.take w
  · by_cases ho : w < o.length
    · refine ⟨o[w], by rw [List.getElem?_append_left ho, List.getElem?_eq_getElem ho], ?_⟩
      have := hL w o[w] (List.getElem?_eq_getElem ho)
      exact ⟨this.1, by rw [this.2.1, Nat.zero_add]⟩
    · have hw2 : w = o.length := by omega
      subst hw2
      exact ⟨z, by simp, h1, h2⟩
theorem all_cut (k : PL.K8) (r : List Seg) (h : IsRow r) (w c : Nat) (hw : w < r.length) (h1 : (cat k (r.take w)).length ≤ c) (h2 : c < (cat k (r.take (w + 1))).length) :
    (all k ((cat k r).take c) 0).1 = r.take w ∧ (all k ((cat k r).take c) 0).2.2 = 5 := by
  obtain ⟨hL, x, hx, hm, hp⟩ := take_row h hw
  have ht : r.take (w + 1) = r.take w ++ [x] := by
    rw [List.take_add_one, hx]
    rfl
  have hr : r = r.take w ++ (x :: r.drop (w + 1)) := by
    conv => lhs; rw [← List.take_append_drop w r]
    congr 1
    obtain ⟨hlt, rfl⟩ := List.getElem?_eq_some_iff.1 hx
    exact List.drop_eq_getElem_cons hlt
  have hc2 : c - (cat k (r.take w)).length < (put k x).length := by
    rw [ht, cat_append] at h2
    simp only [cat, List.append_nil, List.length_append] at h2
    omega
  have hcat : (cat k r).take c = cat k (r.take w) ++ (put k x).take (c - (cat k (r.take w)).length) := by
    conv => lhs; rw [hr, cat_append]
    rw [take_add_append _ _ _ h1, cat, List.take_append_of_le_length (by omega)]
  rw [all_from hcat hL]
  have hlen := cat_len k (r.take w)
  obtain ⟨f, hf⟩ : ∃ f, ((cat k r).take c).length + 1 - (r.take w).length = f + 1 := by
    refine ⟨((cat k r).take c).length - (r.take w).length, ?_⟩
    rw [hcat, List.length_append]
    omega
  rw [hf, allGo, get_cut k (cat k (r.take w)) x _ _ hm hc2 _ hcat]
  simp
theorem all_turned (k : PL.K8) (r : List Seg) (h : IsRow r) (w : Nat) (hw : w < r.length) (t : List UInt8) (ht : t.take (cat k (r.take w)).length = cat k (r.take w)) : ∃ rest, (all k t 0).1 = r.take w ++ rest := by
  obtain ⟨hL, _⟩ := take_row h hw
  have hs : t = cat k (r.take w) ++ t.drop (cat k (r.take w)).length := by
    conv => lhs; rw [← List.take_append_drop (cat k (r.take w)).length t, ht]
  rw [all_from hs hL]
  exact allGo_pre k t _ _ _
theorem all_other (k : PL.K8) (o rest : List Seg) (x : Seg) (hL : Lines 0 o) (hm : may x = true) (hp : x.place ≠ (o.length : Int)) : (all k (cat k (o ++ x :: rest)) 0).1 = o ∧ (all k (cat k (o ++ x :: rest)) 0).2.2 = 2 := by
  have hc : cat k (o ++ x :: rest) = cat k o ++ (put k x ++ cat k rest) := by rw [cat_append, cat]
  rw [all_from hc hL]
  have hlen := cat_len k o
  obtain ⟨f, hf⟩ : ∃ f, (cat k (o ++ x :: rest)).length + 1 - o.length = f + 1 := by
    refine ⟨(cat k (o ++ x :: rest)).length - o.length, ?_⟩
    rw [hc, List.length_append]
    omega
  rw [hf, allGo, get_put k (cat k o) (cat k rest) x o.length hm _ hc, if_neg hp]
  simp
end Go.Proofs.Ytobbjhbjjhnicaa.PS
