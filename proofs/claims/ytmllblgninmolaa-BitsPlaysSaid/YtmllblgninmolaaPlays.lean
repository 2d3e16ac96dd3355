/- The four readers and writers of BitsPlays in memory, apart from one another. -/
import Derived.Test.YtmllblgninmolaaRefBytes
import Derived.Test.YtmllblgninmolaaOpenOps
namespace Go.Proofs.Ytmllblgninmolaa
open Go.RowKit
set_option linter.unusedVariables false
/-- The block of a slice's bytes, if it has any. -/
def InB (A : Option Addr) (n : Nat) (bO : Option Nat) : Prop := 0 < n → ∃ g off, bO = some g ∧ A = some ⟨g, off, none⟩
/-- What From gives, and where its bytes lie. -/
def GaveIn2 (w : World) (l : List UInt8) (e : Ending) (w' : World) : Prop := ∃ gi bO A n c, e = .returned (.pointer (some ⟨gi, 0, none⟩)) ∧ InAt w' gi A n c l 0 ∧ InB A n bO ∧ (∀ g, bO = some g → w.heap.size ≤ g ∧ g < gi) ∧ w.heap.size ≤ gi ∧ Below w.heap.size w w'
set_option maxRecDepth 100000 in
set_option maxHeartbeats 1000000 in
theorem inFrom2 (A : Option Addr) (n c B : Nat) (l : List UInt8) (w : World) (hb : Bytes w B A n l) (hz : A = none → c = 0) (hn : n ≤ 1000000) : Calls Try.prog 16 #[.slice A n c] w (GaveIn2 w l) := by
  have HB := Lib.hid hb
  have HZ := Lib.hid hz
  clear hb hz
  go_enter Try.func16, Try.ntmps16
  go_wp2_with (refine wpList_of_wp rfl (fun K hK => wp_append_bytes (base := w.heap.size) (.const (.slice none 0 0)) (.tmp 3) 23 row_u8 rfl l rfl Own.nil_ B A n c rfl HB.out HZ.out (by show 0 + n ≤ _; omega) (Nat.le_refl _) ?_); intro v1 w1 hO1 hg1 hd1; have HW1 := Lib.hid (below_grown_own (Below.refl _ w) (Own.nil_ (e := 5) (w := w) (base := w.heap.size)) hg1); have HO1 := Lib.hid hO1; obtain ⟨A1, n1, c1, hv1, hB1, hc1, _⟩ := hO1.form_n; have HB1 := Lib.hid hB1; have hn1 : n1 ≤ 1000000 := (by have := hB1.len; have := HB.out.len; simp at *; omega); clear hO1 hg1 hd1 hB1; subst hv1; refine hK _ _ ?_; clear hK K)
  go_ret
  have hown : ∀ g, (Value.slice A1 n1 c1).ownBlock = some g → w.heap.size ≤ g ∧ g < w1.heap.size := by
    intro g hg
    obtain ⟨A', c', h1, h2, h3, h4, h5⟩ := HO1.out.form
    exact ⟨h5 g hg, HO1.out.lt g hg⟩
  refine ⟨w1.heap.size, (Value.slice A1 n1 c1).ownBlock, A1, n1, c1, rfl, ⟨Blk.new _ _ _, ?_, Nat.zero_le _, hn1⟩, ?_, hown, HW1.out.size, HW1.out.alloc HW1.out.size _⟩
  · have := HB1.out.alloc (Nat.le_refl _) (.cells #[.slice A1 n1 c1, .int .i64 0] 67)
    exact this
  · intro hn0
    rcases HO1.out.2 with ⟨h, h0⟩ | ⟨g, cap, cur, he, _⟩
    · cases h
      omega
    · injection he with e1 e2 e3
      subst e1
      exact ⟨g, 0, rfl, rfl⟩
structure Sep (g0 gm gi gj : Nat) (bO : Option Nat) (gs : List Nat) (row : Option Nat) : Prop where
  a1 : g0 ≠ gm
  a2 : g0 ≠ gi
  a3 : g0 ≠ gj
  a4 : gm ≠ gi
  a5 : gm ≠ gj
  a6 : gi ≠ gj
  b1 : ∀ g, bO = some g → g ≠ g0 ∧ g ≠ gm ∧ g ≠ gi ∧ g ≠ gj ∧ g ∉ gs ∧ row ≠ some g
  c1 : ∀ g ∈ gs, g ≠ gm ∧ g ≠ gi ∧ g ≠ gj
  d1 : ∀ r, row = some r → r ≠ g0 ∧ r ≠ gi ∧ r ≠ gj ∧ r ∉ gs
/-- All four, with the same bits and the same place. -/
structure St (w : World) (g0 gm gi gj : Nat) (bO : Option Nat) (p : Option Addr) (gs : List Nat) (us : List (List Bool)) (pt : List Bool) (A : Option Addr) (m c : Nat) (A2 : Option Addr) (n2 c2 : Nat) (lb : List UInt8) (P Q : Nat) (bs : List Bool) : Prop where
  o : OutAt w g0 p gs us pt
  r : ROut w gm A m c bs
  i : InAt w gi A2 n2 c2 lb P
  b : InB A2 n2 bO
  l : ∀ g, bO = some g → g < w.heap.size
  j : RIn w gj ⟨lb.toArray⟩ Q
  s : Sep g0 gm gi gj bO gs (Value.slice A m c).ownBlock
theorem InAt.keep2 {w w' : World} {gi : Nat} {bO : Option Nat} {A : Option Addr} {n c : Nat} {l : List UInt8} {p : Nat} (h : InAt w gi A n c l p) (hA : InB A n bO) (h1 : w'.heap[gi]? = w.heap[gi]?) (h2 : ∀ g, bO = some g → w'.heap[g]? = w.heap[g]?) : InAt w' gi A n c l p := by
  refine ⟨h1.trans h.1, ⟨h.2.1.1, fun hn => ?_⟩, h.2.2⟩
  obtain ⟨b, off, e, hb, hc⟩ := h.2.1.2 hn
  obtain ⟨g, off', eg, e'⟩ := hA hn
  rw [e] at e'
  injection e' with e'
  injection e' with e1 e2
  subst e1
  exact ⟨b, off, e, hb, fun i c hi => (World.cell?_of_block (h2 b eg)).trans (hc i c hi)⟩
section
variable {w w' : World} {g0 gm gi gj : Nat} {bO : Option Nat} {p : Option Addr} {gs : List Nat} {us : List (List Bool)} {pt : List Bool} {A : Option Addr} {m c : Nat} {A2 : Option Addr} {n2 c2 : Nat} {lb : List UInt8} {P Q : Nat} {bs : List Bool}
theorem St.below (h : St w g0 gm gi gj bO p gs us pt A m c A2 n2 c2 lb P Q bs) (hb : Below w.heap.size w w') : St w' g0 gm gi gj bO p gs us pt A m c A2 n2 c2 lb P Q bs :=
  ⟨h.o.below hb, h.r.keep (hb.block gm h.r.1.lt) (fun g hg => hb.block g (h.r.2.1.lt g hg)), h.i.below hb, h.b, (fun g hg => Nat.lt_of_lt_of_le (h.l g hg) hb.size), ⟨(hb.block gj h.j.1.lt).trans h.j.1, h.j.2⟩, h.s⟩
theorem St.oPut (h : St w g0 gm gi gj bO p gs us pt A m c A2 n2 c2 lb P Q bs) {p' : Option Addr} {gs' : List Nat} {us' : List (List Bool)} {pt' : List Bool} (ho : OutAt w' g0 p' gs' us' pt') (hg : w.grownBy w' (some g0)) (hs : ∀ g ∈ gs', g ∈ gs ∨ w.heap.size ≤ g) :
    St w' g0 gm gi gj bO p' gs' us' pt' A m c A2 n2 c2 lb P Q bs := by
  have hk : ∀ g, g < w.heap.size → g ≠ g0 → w'.heap[g]? = w.heap[g]? := fun g hlt hne => hg.block g hlt (fun e => hne (by injection e))
  have hm := h.r.1.lt
  have hi := h.i.1.lt
  have hj := h.j.1.lt
  refine ⟨ho, h.r.keep (hk gm hm (Ne.symm h.s.a1)) (fun g hg => hk g (h.r.2.1.lt g hg) (h.s.d1 g hg).1), h.i.keep2 h.b (hk gi hi (Ne.symm h.s.a2)) (fun g hg => hk g (h.l g hg) (h.s.b1 g hg).1), h.b, (fun g hg' => Nat.lt_of_lt_of_le (h.l g hg') hg.size), ⟨(hk gj hj (Ne.symm h.s.a3)).trans h.j.1, h.j.2⟩, ⟨h.s.a1, h.s.a2, h.s.a3, h.s.a4, h.s.a5, h.s.a6, ?_, ?_, ?_⟩⟩
  · intro g hb
    obtain ⟨x1, x2, x3, x4, x5, x6⟩ := h.s.b1 g hb
    refine ⟨x1, x2, x3, x4, fun hin => ?_, x6⟩
    rcases hs g hin with h1 | h1
    · exact x5 h1
    · have := h.l g hb
      omega
  · intro g hin
    rcases hs g hin with h1 | h1
    · exact h.s.c1 g h1
    · exact ⟨by omega, by omega, by omega⟩
  · intro r hr
    obtain ⟨x1, x2, x3, x4⟩ := h.s.d1 r hr
    refine ⟨x1, x2, x3, fun hin => ?_⟩
    rcases hs r hin with h1 | h1
    · exact x4 h1
    · have := h.r.2.1.lt r hr
      omega
theorem St.mPut (h : St w g0 gm gi gj bO p gs us pt A m c A2 n2 c2 lb P Q bs) {A' : Option Addr} {m' c' : Nat} {bs' : List Bool} (ho : ROut w' gm A' m' c' bs') (ht : Touched w w' gm (Value.slice A m c).ownBlock (Value.slice A' m' c').ownBlock) :
    St w' g0 gm gi gj bO p gs us pt A' m' c' A2 n2 c2 lb P Q bs' := by
  have hk : ∀ g, g < w.heap.size → g ≠ gm → (Value.slice A m c).ownBlock ≠ some g → w'.heap[g]? = w.heap[g]? := fun g hlt hne hr => ht.2.1 g hlt hne (Ne.symm hr)
  have h0 := h.o.1.lt
  have hi := h.i.1.lt
  have hj := h.j.1.lt
  have hgs := h.o.2.1.lt
  refine ⟨h.o.keep (hk g0 h0 h.s.a1 (fun e => (h.s.d1 g0 e).1 rfl)) (fun g hin hlt => hk g hlt (h.s.c1 g hin).1 (fun e => (h.s.d1 g e).2.2.2 hin)), ho, h.i.keep2 h.b (hk gi hi (Ne.symm h.s.a4) (fun e => (h.s.d1 gi e).2.1 rfl)) (fun g hg => hk g (h.l g hg) (h.s.b1 g hg).2.1 (h.s.b1 g hg).2.2.2.2.2), h.b, (fun g hg' => Nat.lt_of_lt_of_le (h.l g hg') ht.1.1), ⟨(hk gj hj (Ne.symm h.s.a5) (fun e => (h.s.d1 gj e).2.2.1 rfl)).trans h.j.1, h.j.2⟩, ⟨h.s.a1, h.s.a2, h.s.a3, h.s.a4, h.s.a5, h.s.a6, ?_, h.s.c1, ?_⟩⟩
  · intro g hb
    obtain ⟨x1, x2, x3, x4, x5, x6⟩ := h.s.b1 g hb
    refine ⟨x1, x2, x3, x4, x5, ?_⟩
    rcases ht.2.2 with e | ⟨g', e, hge⟩
    · rw [e]; exact x6
    · rw [e]
      intro e2
      injection e2 with e2
      have := h.l g hb
      omega
  · intro r hr
    rcases ht.2.2 with e | ⟨g', e, hge⟩
    · rw [e] at hr
      exact h.s.d1 r hr
    · rw [e] at hr
      injection hr with hr
      subst hr
      exact ⟨by omega, by omega, by omega, fun hin => by have := hgs g' hin; omega⟩
theorem St.iGet (h : St w g0 gm gi gj bO p gs us pt A m c A2 n2 c2 lb P Q bs) {P' : Nat} (hi : InAt w' gi A2 n2 c2 lb P') (hg : w.grownBy w' (some gi)) : St w' g0 gm gi gj bO p gs us pt A m c A2 n2 c2 lb P' Q bs := by
  have hk : ∀ g, g < w.heap.size → g ≠ gi → w'.heap[g]? = w.heap[g]? := fun g hlt hne => hg.block g hlt (fun e => hne (by injection e))
  exact ⟨h.o.keep (hk g0 h.o.1.lt h.s.a2) (fun g hin hlt => hk g hlt (h.s.c1 g hin).2.1), h.r.keep (hk gm h.r.1.lt h.s.a4) (fun g hg => hk g (h.r.2.1.lt g hg) (h.s.d1 g hg).2.1), hi, h.b, (fun g hg' => Nat.lt_of_lt_of_le (h.l g hg') hg.size), ⟨(hk gj h.j.1.lt (Ne.symm h.s.a6)).trans h.j.1, h.j.2⟩, h.s⟩
theorem St.jGet (h : St w g0 gm gi gj bO p gs us pt A m c A2 n2 c2 lb P Q bs) {Q' : Nat} (hj : RIn w' gj ⟨lb.toArray⟩ Q') (hg : w.grownBy w' (some gj)) : St w' g0 gm gi gj bO p gs us pt A m c A2 n2 c2 lb P Q' bs := by
  have hk : ∀ g, g < w.heap.size → g ≠ gj → w'.heap[g]? = w.heap[g]? := fun g hlt hne => hg.block g hlt (fun e => hne (by injection e))
  exact ⟨h.o.keep (hk g0 h.o.1.lt h.s.a3) (fun g hin hlt => hk g hlt (h.s.c1 g hin).2.2), h.r.keep (hk gm h.r.1.lt h.s.a5) (fun g hg => hk g (h.r.2.1.lt g hg) (h.s.d1 g hg).2.2.1), h.i.keep2 h.b (hk gi h.i.1.lt h.s.a6) (fun g hg => hk g (h.l g hg) (h.s.b1 g hg).2.2.2.1), h.b, (fun g hg' => Nat.lt_of_lt_of_le (h.l g hg') hg.size), hj, h.s⟩
end
/-- What a step puts, and its code. -/
def StepPut (x : Nat) (z : Int) (nb : List Bool) (code : Int) : Prop := (0 ≤ z ∧ z ≤ 32 ∧ nb = PB.bitsOf x z.toNat ∧ code = 0) ∨ ((z < 0 ∨ 32 < z) ∧ nb = [] ∧ code = 1)
theorem stepPut_some (x : Nat) (z : Int) : ∃ nb code, StepPut x z nb code := by
  by_cases h : 0 ≤ z ∧ z ≤ 32
  · exact ⟨_, _, .inl ⟨h.1, h.2, rfl, rfl⟩⟩
  · exact ⟨_, _, .inr ⟨by omega, rfl, rfl⟩⟩
theorem stepPut_len {x : Nat} {z : Int} {nb : List Bool} {code : Int} (h : StepPut x z nb code) : nb.length ≤ 32 := by
  rcases h with ⟨h1, h2, rfl, _⟩ | ⟨_, rfl, _⟩
  · rw [PB.bitsOf_length]; omega
  · simp
theorem outPutG (go x : Nat) (z : Int) (nb : List Bool) (code : Int) (p0 : Option Addr) (gs0 : List Nat) (us0 : List (List Bool)) (pt0 : List Bool) (w : World) (hx : x < 18446744073709551616) (hs : StepPut x z nb code) (ho : OutAt w go p0 gs0 us0 pt0) (hb : 64 * us0.length + pt0.length ≤ 1000000000) :
    Calls Try.prog 17 #[.pointer (some ⟨go, 0, none⟩), .int .u64 (x : Int), .int .i64 z] w fun e w' => e = .returned (.int .i64 code) ∧ ∃ p gs us pt, OutAt w' go p gs us pt ∧ bitsSt us pt = bitsSt us0 pt0 ++ nb ∧ w.grownBy w' (some go) ∧ ∀ g ∈ gs, g ∈ gs0 ∨ w.heap.size ≤ g := by
  rcases hs with ⟨h1, h2, rfl, rfl⟩ | ⟨h1, rfl, rfl⟩
  · have := outPut go x z.toNat p0 gs0 us0 pt0 w hx (by omega) ho hb
    rw [show ((z.toNat : Nat) : Int) = z by omega] at this
    exact this
  · refine (outPut_bad go x z w h1).mono ?_
    rintro e w' ⟨rfl, rfl⟩
    exact ⟨rfl, p0, gs0, us0, pt0, ho, by rw [List.append_nil], World.grownBy.refl _ _, fun g hg => .inl hg⟩
theorem refPutG (gm x : Nat) (z : Int) (nb : List Bool) (code : Int) (A : Option Addr) (m c : Nat) (bs : List Bool) (w : World) (hx : x < 18446744073709551616) (hs : StepPut x z nb code) (ho : ROut w gm A m c bs) (hb : m ≤ 100000) :
    Calls Try.prog 18 #[.pointer (some ⟨gm, 0, none⟩), .int .u64 (x : Int), .int .i64 z] w fun e w' => e = .returned (.int .i64 code) ∧ ∃ A' m' c', ROut w' gm A' m' c' (bs ++ nb) ∧ Touched w w' gm (Value.slice A m c).ownBlock (Value.slice A' m' c').ownBlock := by
  rcases hs with ⟨h1, h2, rfl, rfl⟩ | ⟨h1, rfl, rfl⟩
  · have := refPut10 gm x z.toNat A m c bs w hx (by omega) ho hb
    rw [show ((z.toNat : Nat) : Int) = z by omega] at this
    exact this
  · refine (refPutBad gm x z w h1).mono ?_
    rintro e w' ⟨rfl, rfl⟩
    exact ⟨rfl, A, m, c, by rw [List.append_nil]; exact ho, ⟨⟨Nat.le_refl _, rfl, rfl, rfl⟩, fun _ _ _ _ => rfl, .inl rfl⟩⟩
/-- What a step gets, its code, and the place behind it. -/
def StepGet (lb : List UInt8) (P : Nat) (z : Int) (v : Nat) (code : Int) (P' : Nat) : Prop :=
  (0 ≤ z ∧ z ≤ 32 ∧ P + z.toNat ≤ 8 * lb.length ∧ v = PB.val (((PB.toBits lb).drop P).take z.toNat) ∧ code = 0 ∧ P' = P + z.toNat) ∨ (0 ≤ z ∧ z ≤ 32 ∧ 8 * lb.length < P + z.toNat ∧ v = 0 ∧ code = 5 ∧ P' = P) ∨ ((z < 0 ∨ 32 < z) ∧ v = 0 ∧ code = 1 ∧ P' = P)
theorem stepGet_some (lb : List UInt8) (P : Nat) (z : Int) : ∃ v code P', StepGet lb P z v code P' := by
  by_cases h : 0 ≤ z ∧ z ≤ 32
  · by_cases h2 : P + z.toNat ≤ 8 * lb.length
    · exact ⟨_, _, _, .inl ⟨h.1, h.2, h2, rfl, rfl, rfl⟩⟩
    · exact ⟨_, _, _, .inr (.inl ⟨h.1, h.2, by omega, rfl, rfl, rfl⟩)⟩
  · exact ⟨_, _, _, .inr (.inr ⟨by omega, rfl, rfl, rfl⟩)⟩
theorem inGetG (gi : Nat) (A : Option Addr) (n c : Nat) (lb : List UInt8) (P P' : Nat) (z : Int) (v : Nat) (code : Int) (w : World) (hi : InAt w gi A n c lb P) (hs : StepGet lb P z v code P') :
    Calls Try.prog 22 #[.pointer (some ⟨gi, 0, none⟩), .int .i64 z] w fun e w' => e = .returned (.tuple #[.int .u64 (v : Int), .int .i64 code]) ∧ InAt w' gi A n c lb P' ∧ w.grownBy w' (some gi) := by
  have hl := hi.2.1.len
  rcases hs with ⟨h1, h2, h3, rfl, rfl, rfl⟩ | ⟨h1, h2, h3, rfl, rfl, rfl⟩ | ⟨h1, rfl, rfl, rfl⟩
  · have := inGet gi A n c lb P z.toNat w hi (by omega) (by omega)
    rw [show ((z.toNat : Nat) : Int) = z by omega] at this
    exact this
  · have := inGet_cut gi A n c lb P' z.toNat w hi (by omega) (by omega)
    rw [show ((z.toNat : Nat) : Int) = z by omega] at this
    refine this.mono ?_
    rintro e w' ⟨rfl, rfl⟩
    exact ⟨rfl, hi.drew, grownBy_drew (World.grownBy.refl w _)⟩
  · refine (inGet_bad gi z w h1).mono ?_
    rintro e w' ⟨rfl, rfl⟩
    exact ⟨rfl, hi, World.grownBy.refl w _⟩
theorem refGetG (gj : Nat) (lb : List UInt8) (P P' : Nat) (z : Int) (v : Nat) (code : Int) (w : World) (hi : RIn w gj ⟨lb.toArray⟩ P) (hs : StepGet lb P z v code P') :
    Calls Try.prog 23 #[.pointer (some ⟨gj, 0, none⟩), .int .i64 z] w fun e w' => e = .returned (.tuple #[.int .u64 (v : Int), .int .i64 code]) ∧ RIn w' gj ⟨lb.toArray⟩ P' ∧ w.grownBy w' (some gj) := by
  have hl : (⟨lb.toArray⟩ : ByteArray).size = lb.length := by show lb.toArray.size = _; simp
  rcases hs with ⟨h1, h2, h3, rfl, rfl, rfl⟩ | ⟨h1, h2, h3, rfl, rfl, rfl⟩ | ⟨h1, rfl, rfl, rfl⟩
  · have := refGet gj ⟨lb.toArray⟩ P z.toNat w hi (by omega) (by omega)
    rw [show ((z.toNat : Nat) : Int) = z by omega] at this
    exact this
  · have := refGetCut gj ⟨lb.toArray⟩ P' z.toNat w hi (by omega) (by omega)
    rw [show ((z.toNat : Nat) : Int) = z by omega] at this
    refine this.mono ?_
    rintro e w' ⟨rfl, rfl⟩
    exact ⟨rfl, hi, grownBy_drew (World.grownBy.refl w _)⟩
  · refine (refGetBad gj z w h1).mono ?_
    rintro e w' ⟨rfl, rfl⟩
    exact ⟨rfl, hi, World.grownBy.refl w _⟩
end Go.Proofs.Ytmllblgninmolaa
