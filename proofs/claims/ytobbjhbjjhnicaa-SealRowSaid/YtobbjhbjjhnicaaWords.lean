/- Words for the walks: a slice of bytes that reads as a list; a jump back to a label. -/
import Derived.WalkKit
import Derived.WalkSpells
import Derived.ScopeJumps
import Derived.WalkMore
import Derived.Lib.Hide
import Derived.Handy
import Derived.Laws.OwnMore
import Derived.Deep.AppendLies
import Derived.Deep.Draws
import Derived.Deep.MidRow
namespace Go.Proofs.Ytobbjhbjjhnicaa
open Go.RowKit
/-- A scope whose run comes to its label in a state J, jumps back to it in a state J only, and lowers a measure each time. -/
theorem wp_scope_goto {P : Program} {Q : Exit → Act → World → Prop} {a : Act} {w : World} {c R : Code} (l : Nat) (J : Act → World → Prop) (μ : Act → World → Nat) (hf : findLabel c l = some (.seq .skip R))
    (start : Hid (∀ a w, J a w → R.wp P (Exit.jump l J Q) a w) → c.wp P (Exit.jump l J Q) a w)
    (pass : ∀ a w, J a w → R.wp P (Exit.jump l (fun a' w' => J a' w' ∧ μ a' w' < μ a w) Q) a w) : (Code.scope c).wp P Q a w := by
  have mono : ∀ a w, J a w → R.wp P (Exit.jump l J Q) a w := by
    intro a w hJ b k cs
    obtain ⟨e, a1, w1, hq, harr⟩ := pass a w hJ b k cs
    refine ⟨e, a1, w1, ?_, harr⟩
    cases e with
    | goto l' => exact ⟨hq.1, hq.2.1⟩
    | normal => exact hq
    | exit id => exact hq
    | ret => exact hq
    | panic ch => exact hq
    | outgrown => exact hq
  refine wp_scope_jumps l J μ hf (start mono) ?_
  intro a w hJ
  exact wp_seq (wp_skip (pass a w hJ))

/-- The same, the measure a number of the state's own. -/
theorem wp_scope_back {P : Program} {Q : Exit → Act → World → Prop} {a : Act} {w : World} {c R : Code} (l : Nat) (J : Nat → Act → World → Prop) (hf : findLabel c l = some (.seq .skip R))
    (start : Hid (∀ m a w, J m a w → R.wp P (Exit.jump l (fun a w => ∃ m, J m a w) Q) a w) → c.wp P (Exit.jump l (fun a w => ∃ m, J m a w) Q) a w)
    (pass : ∀ m a w, J m a w → R.wp P (Exit.jump l (fun a' w' => ∃ m', m' < m ∧ J m' a' w') Q) a w) : (Code.scope c).wp P Q a w := by
  have mono : ∀ m a w, J m a w → R.wp P (Exit.jump l (fun a w => ∃ m, J m a w) Q) a w := by
    intro m a w hJ b k cs
    obtain ⟨e, a1, w1, hq, harr⟩ := pass m a w hJ b k cs
    refine ⟨e, a1, w1, ?_, harr⟩
    cases e with
    | goto l' => exact ⟨hq.1, hq.2.elim fun m' h => ⟨m', h.2⟩⟩
    | normal => exact hq
    | exit id => exact hq
    | ret => exact hq
    | panic ch => exact hq
    | outgrown => exact hq
  intro b k cs
  have hg : gotoIn l (.inScope c :: k) = some (.code (.seq .skip R) :: .inScope c :: k) := by simp [gotoIn, hf]
  have key : ∀ m a w, J m a w → ∃ e a' w', Q e a' w' ∧ Arrives P (lone (b.at a (.code (.seq .skip R) :: .inScope c :: k)) cs w) b k cs e a' w' := by
    intro m
    induction m using Nat.strongRecOn with
    | _ m ih =>
      intro a w hJ
      obtain ⟨e, a₁, w₁, hq, harr⟩ := (wp_seq (wp_skip (pass m a w hJ)) : (Code.seq .skip R).wp P _ a w) b (.inScope c :: k) cs
      cases e with
      | normal => exact ⟨.normal, a₁, w₁, hq, Steps.trans harr (.one step_inScope)⟩
      | exit id => exact ⟨.exit id, a₁, w₁, hq, fun k' hk => harr k' (by simp [exitTo, hk])⟩
      | goto l' =>
        obtain ⟨rfl, m', hlt, hJ'⟩ := hq
        obtain ⟨e₂, a₂, w₂, hq₂, harr₂⟩ := ih m' hlt a₁ w₁ hJ'
        exact ⟨e₂, a₂, w₂, hq₂, .of_steps (harr _ hg) harr₂⟩
      | ret => exact ⟨_, a₁, w₁, hq, harr⟩
      | panic ch => exact ⟨_, a₁, w₁, hq, harr⟩
      | outgrown => exact ⟨_, a₁, w₁, hq, harr⟩
  obtain ⟨e, a₁, w₁, hq, harr⟩ := start mono b (.inScope c :: k) cs
  cases e with
  | normal => exact ⟨.normal, a₁, w₁, hq, .head step_scope (Steps.trans harr (.one step_inScope))⟩
  | exit id => exact ⟨.exit id, a₁, w₁, hq, fun k' hk => .head step_scope (harr k' (by simp [exitTo, hk]))⟩
  | goto l' =>
    obtain ⟨rfl, m, hJ'⟩ := hq
    obtain ⟨e₂, a₂, w₂, hq₂, harr₂⟩ := key m a₁ w₁ hJ'
    exact ⟨e₂, a₂, w₂, hq₂, .of_steps (.head step_scope (harr _ hg)) harr₂⟩
  | ret => exact ⟨_, a₁, w₁, hq, .of_steps (.one step_scope) harr⟩
  | panic ch => exact ⟨_, a₁, w₁, hq, .of_steps (.one step_scope) harr⟩
  | outgrown => exact ⟨_, a₁, w₁, hq, .of_steps (.one step_scope) harr⟩
theorem jump_back {l m m' : Nat} {J : Nat → Act → World → Prop} {Q : Exit → Act → World → Prop} {a : Act} {w : World} (hm : m' < m) (h : J m' a w) : Exit.jump l (fun a' w' => ∃ m', m' < m ∧ J m' a' w') Q (.goto l) a w := ⟨rfl, m', hm, h⟩
theorem jump_goto {l : Nat} {J : Act → World → Prop} {Q : Exit → Act → World → Prop} {a : Act} {w : World} (h : J a w) : Exit.jump l J Q (.goto l) a w := ⟨rfl, h⟩
theorem jump_ret {l : Nat} {J : Act → World → Prop} {Q : Exit → Act → World → Prop} {a : Act} {w : World} (h : Q .ret a w) : Exit.jump l J Q .ret a w := h
theorem val_int {k : IntKind} {a b : Int} (h : a = b) : Value.int k a = .int k b := by rw [h]
theorem ret_int {k : IntKind} {a b : Int} (h : a = b) : Ending.returned (.int k a) = .returned (.int k b) := by rw [h]
/-- Slot i of a list of values. -/
def slot (u : List Value) (i : Nat) : Value := u.getD i undef
/-- The region of number n in a piece of code. -/
def findRegion : Code → Nat → Option Code
  | .region id ops d, n => if id == n then some (.region id ops d) else none
  | .seq a b, n => match findRegion a n with
    | some c => some c
    | none => findRegion b n
  | .block _ c, n => findRegion c n
  | .scope c, n => findRegion c n
  | .loop c, n => findRegion c n
  | .cond _ a b, n => match findRegion a n with
    | some c => some c
    | none => findRegion b n
  | _, _ => none
def regionOf (f : Func) (n : Nat) : Code := (f.body.bind (findRegion · n)).getD .skip
/-- Block g of w is just the cells cs, of element type t; none is frozen. -/
def Blk (w : World) (g : Nat) (t : TypeId) (cs : Array Value) : Prop := w.heap[g]? = some (.cells cs t (0, 0))
section
variable {w w' : World} {g : Nat} {t : TypeId} {cs : Array Value}
theorem Blk.lt (h : Blk w g t cs) : g < w.heap.size := by
  unfold Blk at h
  exact (Array.getElem?_eq_some_iff.1 h).1
theorem Blk.cell (h : Blk w g t cs) (i : Nat) : w.cell? ⟨g, i, none⟩ = cs[i]? := cell_of_row w g i cs t (0, 0) h
theorem Blk.frozen (h : Blk w g t cs) (i : Nat) : w.frozen? ⟨g, i, none⟩ = false := by
  unfold Blk at h
  simp [World.frozen?, h]
theorem Blk.new (w : World) (t : TypeId) (cs : Array Value) : Blk (w.alloc (.cells cs t)) w.heap.size t cs := heap_alloc_new w _
theorem Blk.drew (h : Blk w g t cs) : Blk w.drew g t cs := h
theorem Blk.drewN (h : Blk w g t cs) (n : Nat) : Blk (w.drewN n) g t cs := h
theorem Blk.alloc (h : Blk w g t cs) (o : Obj) : Blk (w.alloc o) g t cs := (Below.heap_alloc w o g h.lt).trans h
theorem Blk.set_ (h : Blk w g t cs) (i : Nat) (u : Value) : Blk (w.setCell ⟨g, i, none⟩ u) g t (cs.setIfInBounds i u) := by
  unfold Blk at h ⊢
  simp [World.setCell, Array.getElem?_modify, h]
theorem Blk.far (h : Blk w g t cs) {p : Addr} (hp : g ≠ p.block) (u : Value) : Blk (w.setCell p u) g t cs := (Below.heap_setCell w p u g hp).trans h
theorem Blk.below {B : Nat} (h : Blk w g t cs) (hb : Below B w w') (hg : g < B) : Blk w' g t cs := (hb.block g hg).trans h
theorem Blk.grown {row : Option Nat} (h : Blk w g t cs) (hb : w.grownBy w' row) (hg : some g ≠ row) : Blk w' g t cs := (hb.block g h.lt hg).trans h
end
theorem grown_setCells (g : Nat) : ∀ (vs : List Value) (o : Nat) (w0 w : World), w0.grownBy w (some g) → w0.grownBy (w.setCells g o vs) (some g)
  | [], _, _, _, h => h
  | v :: r, o, w0, w, h => grown_setCells g r (o + 1) w0 _ ⟨h.os, h.tape, h.output, by simpa [World.setCell] using h.size, fun i hi hne =>
      (Below.heap_setCell w ⟨g, o, none⟩ v i (fun e => hne (by rw [e]))).trans (h.block i hi hne)⟩
theorem size_setCells (g : Nat) : ∀ (vs : List Value) (o : Nat) (w : World), (w.setCells g o vs).heap.size = w.heap.size
  | [], _, _ => rfl
  | v :: r, o, w => by rw [World.setCells, size_setCells g r]; simp [World.setCell]
theorem Blk.setCells_some {g : Nat} {t : TypeId} : ∀ (vs : List Value) (o : Nat) (w : World) (cs : Array Value), Blk w g t cs → ∃ ds : Array Value, ds.size = cs.size ∧ Blk (w.setCells g o vs) g t ds
  | [], _, _, cs, h => ⟨cs, rfl, h⟩
  | v :: r, o, w, cs, h => by
    obtain ⟨ds, h1, h2⟩ := Blk.setCells_some r (o + 1) _ _ (h.set_ o v)
    exact ⟨ds, by rw [h1]; simp, h2⟩
theorem Blk.there_ {w : World} {g : Nat} {t : TypeId} {cs : Array Value} (h : Blk w g t cs) : w.there g 0 cs.size := fun j hj => by
  rw [Nat.zero_add, h.cell, h.frozen]
  simp [hj]
theorem Blk.setCells {w : World} {g : Nat} {t : TypeId} {cs : Array Value} (h : Blk w g t cs) (vs : Array Value) (hl : vs.size = cs.size) : Blk (w.setCells g 0 vs.toList) g t vs := by
  obtain ⟨ds, h1, h2⟩ := Blk.setCells_some vs.toList 0 w cs h
  have hr := World.rangeAt_setCells_same w g 0 vs.toList (by rw [Array.length_toList, hl]; exact h.there_)
  have : ds = vs := by
    apply Array.ext
    · omega
    · intro i hi1 hi2
      have := hr i vs[i] (by simp [hi2])
      rw [Nat.zero_add, h2.cell] at this
      rw [Array.getElem?_eq_getElem hi1] at this
      injection this
  subst this
  exact h2
theorem wpList_store_blk {P : Program} {ops : Array Oper} {rest : List Oper} {op : Oper} {a : Act} {w : World} {Q : Exit → Act → World → Prop} (hgd : op.guard = none) (ty : TypeId) (x y : Operand) (ho : op.op = .store ty x y)
    (g : Nat) (cells : Array Value) (hx : a.eval x = .pointer (some ⟨g, 0, none⟩)) (hy : a.eval y = .agg cells) (t : TypeId) (cs : Array Value)
    (hB : Blk w g t cs) (hsz : cells.size = cs.size) (hi : (P.info? ty).map (·.size) = some cells.size) (h1 : cells.all (·.oneCell') = true)
    (h : ∀ w', Blk w' g t cells → w.grownBy w' (some g) → w'.heap.size = w.heap.size → wpList P ops Q rest (a.put op.dst undef) w') : wpList P ops Q (op :: rest) a w :=
  wpList_store_mid hgd ty x y ho g 0 cells hx hy (by rw [hsz]; exact hB.there_) hi h1 (h _ (hB.setCells cells hsz) (grown_setCells g _ 0 w w (World.grownBy.refl w _)) (size_setCells g _ 0 w))
theorem alloc_cell {w : World} {a : Addr} {v : Value} (o : Obj) (h : w.cell? a = some v) : (w.alloc o).cell? a = some v :=
  (World.cell?_alloc_lt w o a (World.block_lt_of_cell? w a h)).trans h
/-- A byte as the machine holds it. -/
abbrev u8v (c : UInt8) : Value := .int .u8 (c.toNat : Int)
/-- The slice at A, of n elements, holds the bytes l; its block lies below B. -/
def Bytes (w : World) (B : Nat) (A : Option Addr) (n : Nat) (l : List UInt8) : Prop :=
  l.length = n ∧ (0 < n → ∃ b off, A = some ⟨b, off, none⟩ ∧ b < B ∧ ∀ i c, l[i]? = some c → w.cell? ⟨b, off + i, none⟩ = some (u8v c))
section
variable {w w' : World} {B B' n : Nat} {A : Option Addr} {l : List UInt8}
theorem Bytes.len (h : Bytes w B A n l) : l.length = n := h.1
theorem Bytes.empty : Bytes w B A 0 [] := ⟨rfl, fun h => absurd h (by omega)⟩
theorem Bytes.at_ {k : Nat} (h : Bytes w B A n l) (hk : k < n) :
    ∃ (b off : Nat) (hl : k < l.length), A = some ⟨b, off, none⟩ ∧ b < B ∧ w.cell? ⟨b, off + k, none⟩ = some (.int .u8 (l[k].toNat : Int)) := by
  obtain ⟨b, off, e, hb, hc⟩ := h.2 (by omega)
  have hl : k < l.length := by rw [h.1]; exact hk
  exact ⟨b, off, hl, e, hb, hc k _ (List.getElem?_eq_getElem hl)⟩
theorem Bytes.cell_at {b off k : Nat} (h : Bytes w B (some ⟨b, off, none⟩) n l) (hl : k < l.length) : w.cell? ⟨b, off + k, none⟩ = some (.int .u8 (l[k].toNat : Int)) := by
  obtain ⟨b', off', e, _, hc⟩ := h.2 (by rw [← h.1]; omega)
  injection e with e
  injection e with e1 e2
  subst e1 e2
  exact hc k _ (List.getElem?_eq_getElem hl)
theorem Bytes.keep (h : Bytes w B A n l) (hk : ∀ b o, b < B → w'.cell? ⟨b, o, none⟩ = w.cell? ⟨b, o, none⟩) : Bytes w' B A n l :=
  ⟨h.1, fun hn => by
    obtain ⟨b, off, e, hb, hc⟩ := h.2 hn
    exact ⟨b, off, e, hb, fun i c hi => (hk b _ hb).trans (hc i c hi)⟩⟩
theorem Bytes.more (h : Bytes w B A n l) (hB : B ≤ B') : Bytes w B' A n l :=
  ⟨h.1, fun hn => by
    obtain ⟨b, off, e, hb, hc⟩ := h.2 hn
    exact ⟨b, off, e, by omega, hc⟩⟩
theorem Bytes.below (h : Bytes w B A n l) (hb : Below B w w') : Bytes w' B A n l := h.keep fun b o hp => hb.cell (p := ⟨b, o, none⟩) hp
theorem Bytes.drew (h : Bytes w B A n l) : Bytes w.drew B A n l := h
theorem Bytes.drewN (h : Bytes w B A n l) (k : Nat) : Bytes (w.drewN k) B A n l := h
theorem Bytes.alloc (h : Bytes w B A n l) (hB : B ≤ w.heap.size) (o : Obj) : Bytes (w.alloc o) B A n l :=
  h.keep fun b q hp => World.cell?_alloc_lt w o ⟨b, q, none⟩ (by show b < _; omega)
theorem Bytes.setCell (h : Bytes w B A n l) {p : Addr} (hB : B ≤ p.block) (u : Value) : Bytes (w.setCell p u) B A n l :=
  h.keep fun b q hq => World.cell?_setCell_other w p ⟨b, q, none⟩ u (fun e => by rw [e] at hB; exact absurd hB (by show ¬ B ≤ b; omega))
theorem Bytes.grown (h : Bytes w B A n l) {row : Option Nat} (hg : w.grownBy w' row) (hB : B ≤ w.heap.size) (hr : ∀ g, row = some g → B ≤ g) : Bytes w' B A n l :=
  h.keep fun b q hp => World.cell?_of_block (hg.block b (by omega) (fun e => by have := hr _ e.symm; omega))
theorem Bytes.of_own {base : Nat} {e : TypeId} {c : Nat} (h : w.ownsRow base e 1 (.slice A n c) n (l.map u8v)) : Bytes w w.heap.size A n l := by
  refine ⟨by have := h.1; simpa using this, fun hn => ?_⟩
  obtain ⟨g, cap, hv, _, hlt⟩ := h.form hn
  have hA : A = some ⟨g, 0, none⟩ := by injection hv
  subst hA
  refine ⟨g, 0, rfl, hlt, fun i c hi => ?_⟩
  have := h.cells (g := g) rfl i (u8v c) (by simp [hi])
  have e : (⟨g, 0, none⟩ : Addr).add i = ⟨g, 0 + i, none⟩ := by
    unfold Addr.add
    by_cases h0 : i = 0 <;> simp [h0]
  rw [e] at this
  exact this
end
end Go.Proofs.Ytobbjhbjjhnicaa
