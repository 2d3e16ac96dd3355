/- Segments in memory: a row of four cells each; appending some; one field's cell. -/
import Derived.Test.YtobbjhbjjhnicaaNumPut
import Derived.Test.YtobbjhbjjhnicaaXor
import Derived.Test.YtobbjhbjjhnicaaOf
import Derived.Test.YtobbjhbjjhnicaaSame
import Derived.Test.YtobbjhbjjhnicaaSlices
import Derived.Test.YtobbjhbjjhnicaaPlanC
import Derived.Test.YtobbjhbjjhnicaaPlainSeal
namespace Go.Proofs.Ytobbjhbjjhnicaa
open Go.RowKit
set_option linter.unusedVariables false
/-- A segment as it lies: its parts, and where its bytes are. -/
structure SegV where
  seg : PS.Seg
  A : Option Addr
  n : Nat
  c : Nat
abbrev segCells (x : SegV) : Array Value := #[.int .i64 x.seg.kind, .int .i64 x.seg.place, .bool x.seg.last, .slice x.A x.n x.c]
def segRow : List SegV → List Value
  | [] => []
  | x :: xs => .int .i64 x.seg.kind :: .int .i64 x.seg.place :: .bool x.seg.last :: .slice x.A x.n x.c :: segRow xs
theorem segRow_len : ∀ xs, (segRow xs).length = xs.length * 4
  | [] => rfl
  | x :: xs => by simp only [segRow, List.length_cons, segRow_len xs]; omega
theorem segRow_append : ∀ a b, segRow (a ++ b) = segRow a ++ segRow b
  | [], b => rfl
  | x :: a, b => by simp only [List.cons_append, segRow, segRow_append a b]
theorem segRow_one : ∀ (xs : List SegV) u, u ∈ segRow xs → u.oneCell' = true
  | [], u, h => by cases h
  | x :: xs, u, h => by
    simp only [segRow, List.mem_cons] at h
    rcases h with rfl | rfl | rfl | rfl | h
    · rfl
    · rfl
    · rfl
    · rfl
    · exact segRow_one xs u h
theorem segRow_at : ∀ (xs : List SegV) (i : Nat) (x : SegV), xs[i]? = some x → (segRow xs)[i * 4]? = some (.int .i64 x.seg.kind) ∧ (segRow xs)[i * 4 + 1]? = some (.int .i64 x.seg.place) ∧ (segRow xs)[i * 4 + 2]? = some (.bool x.seg.last) ∧ (segRow xs)[i * 4 + 3]? = some (.slice x.A x.n x.c)
  | [], i, t, h => by cases h
  | x :: xs, 0, t, h => by
    simp at h
    subst h
    exact ⟨rfl, rfl, rfl, rfl⟩
  | x :: xs, i + 1, t, h => by
    have := segRow_at xs i t (by simpa using h)
    rw [show (i + 1) * 4 = i * 4 + 4 from by omega]
    exact this
theorem segRow_get : ∀ (xs : List SegV) (i : Nat) (u : Value), (segRow xs)[i]? = some u → ∃ (k r : Nat) (x : SegV), i = k * 4 + r ∧ r < 4 ∧ xs[k]? = some x ∧ (segCells x)[r]? = some u
  | [], i, u, h => by cases h
  | x :: xs, 0, u, h => ⟨0, 0, x, rfl, by omega, rfl, h⟩
  | x :: xs, 1, u, h => ⟨0, 1, x, rfl, by omega, rfl, h⟩
  | x :: xs, 2, u, h => ⟨0, 2, x, rfl, by omega, rfl, h⟩
  | x :: xs, 3, u, h => ⟨0, 3, x, rfl, by omega, rfl, h⟩
  | x :: xs, i + 4, u, h => by
    obtain ⟨k, r, t, h1, h2, h3, h4⟩ := segRow_get xs i u h
    exact ⟨k + 1, r, t, by omega, h2, h3, h4⟩
/-- The bytes of each segment lie below B. -/
def Bodies (w : World) (B : Nat) (xs : List SegV) : Prop := ∀ x ∈ xs, Bytes w B x.A x.n x.seg.body ∧ x.n ≤ x.c ∧ (x.A = none → x.c = 0)
theorem Bodies.nil {w : World} {B : Nat} : Bodies w B [] := fun _ h => by cases h
theorem Bodies.below {w w' : World} {B : Nat} {xs : List SegV} (h : Bodies w B xs) (hb : Below B w w') : Bodies w' B xs := fun x hx => ⟨(h x hx).1.below hb, (h x hx).2⟩
theorem Bodies.more {w : World} {B B' : Nat} {xs : List SegV} (h : Bodies w B xs) (hb : B ≤ B') : Bodies w B' xs := fun x hx => ⟨(h x hx).1.more hb, (h x hx).2⟩
theorem Bodies.append {w : World} {B : Nat} {xs ys : List SegV} (h : Bodies w B xs) (h2 : Bodies w B ys) : Bodies w B (xs ++ ys) := fun x hx => by
  rcases List.mem_append.1 hx with hx | hx
  · exact h x hx
  · exact h2 x hx
/-- The slice at A, of n elements, holds the segments xs; its block lies below B. -/
def Segs (w : World) (B : Nat) (A : Option Addr) (n : Nat) (xs : List SegV) : Prop :=
  xs.length = n ∧ (0 < n → ∃ b off, A = some ⟨b, off, none⟩ ∧ b < B ∧ ∀ i u, (segRow xs)[i]? = some u → w.cell? ⟨b, off + i, none⟩ = some u)
section
variable {w w' : World} {B B' n : Nat} {A : Option Addr} {l : List SegV}
theorem Segs.len (h : Segs w B A n l) : l.length = n := h.1
theorem Segs.keep (h : Segs w B A n l) (hk : ∀ b o, b < B → w'.cell? ⟨b, o, none⟩ = w.cell? ⟨b, o, none⟩) : Segs w' B A n l :=
  ⟨h.1, fun hn => by
    obtain ⟨b, off, e, hb, hc⟩ := h.2 hn
    exact ⟨b, off, e, hb, fun i u hi => (hk b _ hb).trans (hc i u hi)⟩⟩
theorem Segs.below (h : Segs w B A n l) (hb : Below B w w') : Segs w' B A n l := h.keep fun b o hp => hb.cell (p := ⟨b, o, none⟩) hp
theorem Segs.more (h : Segs w B A n l) (hB : B ≤ B') : Segs w B' A n l :=
  ⟨h.1, fun hn => by
    obtain ⟨b, off, e, hb, hc⟩ := h.2 hn
    exact ⟨b, off, e, by omega, hc⟩⟩
theorem Segs.drew (h : Segs w B A n l) : Segs w.drew B A n l := h
theorem Segs.pick {k : Nat} (h : Segs w B A n l) (hk : k < n) : ∃ (b off : Nat) (x : SegV), A = some ⟨b, off, none⟩ ∧ b < B ∧ l[k]? = some x ∧
    w.cell? ⟨b, off + k * 4, none⟩ = some (.int .i64 x.seg.kind) ∧ w.cell? ⟨b, off + k * 4 + 1, none⟩ = some (.int .i64 x.seg.place) ∧ w.cell? ⟨b, off + k * 4 + 2, none⟩ = some (.bool x.seg.last) ∧ w.cell? ⟨b, off + k * 4 + 3, none⟩ = some (.slice x.A x.n x.c) := by
  obtain ⟨b, off, e, hb, hc⟩ := h.2 (by omega)
  have hl : k < l.length := by rw [h.1]; exact hk
  obtain ⟨h0, h1, h2, h3⟩ := segRow_at l k _ (List.getElem?_eq_getElem hl)
  exact ⟨b, off, l[k], e, hb, List.getElem?_eq_getElem hl, hc _ _ h0, hc _ _ h1, hc _ _ h2, hc _ _ h3⟩
end
/-- The slice value v owns the segments l, in a block from base on. -/
def OwnS (w : World) (base : Nat) (v : Value) (l : List SegV) : Prop := w.ownsRow base 50 4 v l.length (segRow l)
section
variable {w w' : World} {base : Nat} {v : Value} {l : List SegV}
theorem OwnS.nil_ : OwnS w base (.slice none 0 0) [] := World.ownsRow_nil _ _ _ _
theorem OwnS.alloc (h : OwnS w base v l) (o : Obj) : OwnS (w.alloc o) base v l := World.ownsRow.alloc h o
theorem OwnS.drew (h : OwnS w base v l) : OwnS w.drew base v l := World.ownsRow.drew h
theorem OwnS.form (h : OwnS w base v l) : ∃ A n c, v = .slice A n c ∧ Segs w w.heap.size A n l ∧ n ≤ c ∧ (A = none → c = 0) := by
  rcases h.2 with ⟨rfl, h0⟩ | ⟨g, cap, cur, rfl, hg, hh, hc, _⟩
  · exact ⟨none, 0, 0, rfl, ⟨h0, fun hn => by omega⟩, Nat.le_refl _, fun _ => rfl⟩
  · refine ⟨_, l.length, cap, rfl, ⟨rfl, fun hn => ⟨g, 0, rfl, (Array.getElem?_eq_some_iff.1 hh).1, fun i u hi => ?_⟩⟩, hc, fun h => by cases h⟩
    have := World.ownsRow.cells h (g := g) rfl i u hi
    rw [Addr.add_mid] at this
    exact this
theorem OwnS.below {B : Nat} (h : OwnS w base v l) (hb : Below B w w') (hlt : ∀ g, v.ownBlock = some g → g < B) : OwnS w' base v l := by
  refine ⟨h.1, ?_⟩
  rcases h.2 with h | ⟨g, cap, cur, rfl, h2, h3, h4⟩
  · exact .inl h
  · exact .inr ⟨g, cap, cur, rfl, h2, (hb.block g (hlt g rfl)).trans h3, h4⟩
theorem OwnS.lt (h : OwnS w base v l) : ∀ g, v.ownBlock = some g → g < w.heap.size := fun g hg => (World.ownsRow.lt h g hg).2
theorem OwnS.base_ (h : OwnS w base v l) : ∀ g, v.ownBlock = some g → base ≤ g := fun g hg => (World.ownsRow.lt h g hg).1
/-- The element type's row of the table: a segment. -/
theorem row_seg : Try.prog.underlying 43 = some (.slice 50) ∧ ∃ i z, Try.prog.info? 50 = some i ∧ i.zero = some z ∧ z.cells.size = 4 ∧ i.size = 4 ∧ i.bytes = 48 := by
  have h : (Try.prog.info? 50).map (fun i => (i.zero.map (fun z => z.cells.size), i.size, i.bytes)) = some (some 4, 4, 48) := by kernel_rfl
  obtain ⟨i, h1, h2⟩ := Option.map_eq_some_iff.1 h
  simp only [Prod.mk.injEq] at h2
  obtain ⟨z, hz, hz2⟩ := Option.map_eq_some_iff.1 h2.1
  exact ⟨Try.underlying43, i, z, h1, hz, hz2, h2.2.1, h2.2.2⟩
/-- Some segments appended. -/
theorem wp_append_segs {o : Oper} {a : Act} {K : Act → World → Prop} {Q : Exit → Act → World → Prop} (s x : Operand)
    (ho : o.op = .call { callee := .builtin .append, args := #[s, x], argTypes := #[43, 43] }) (l2 : List SegV)
    (hs : a.eval s = v) (hown : OwnS w base v l) (B : Nat) (A : Option Addr) (n c : Nat) (hx : a.eval x = .slice A n c) (hb : Segs w B A n l2) (hnil : A = none → c = 0)
    (hsz : l.length + n ≤ 1000000) (hbase : base ≤ w.heap.size)
    (h : ∀ v' w', OwnS w' base v' (l ++ l2) → w.grownBy w' v.ownBlock → (v'.ownBlock = v.ownBlock ∨ v'.ownBlock = some w.heap.size) → K (a.put o.dst v') w') : o.wp Try.prog a w K Q := by
  obtain ⟨ht, i, z, hi, hz, hzs, hsi, hby⟩ := row_seg
  have hlen := hb.len
  rcases A with _ | ad
  · have hn : n = 0 := by
      rcases Nat.eq_zero_or_pos n with h0 | h0
      · exact h0
      · obtain ⟨b, off, hh, _⟩ := hb.2 h0
        cases hh
    have hc := hnil rfl
    subst hn hc
    have hl : l2 = [] := List.eq_nil_of_length_eq_zero hlen
    subst hl
    have hrun := run_append_owned_none (P := Try.prog) (w := w) base 43 o.type 50 i 4 ht hi v l.length (segRow l) hown
    unfold Oper.wp execOp
    simp only [ho, resolve, invoke, builtin, Sem.run_bind, Sem.run_pure, Result.andThen_ok, List.map_toArray, List.map_cons, List.map_nil, hs, hx, hrun]
    exact h v w (by rw [List.append_nil]; exact hown) (World.grownBy.refl w _) (.inl rfl)
  · have hcells : ∀ j u, (segRow l2)[j]? = some u → w.cell? (ad.add j) = some u := by
      intro j u hu
      have hj : j < (segRow l2).length := (List.getElem?_eq_some_iff.1 hu).1
      rw [segRow_len] at hj
      obtain ⟨b, off, hh, _, hcc⟩ := hb.2 (by omega)
      injection hh with hh
      subst hh
      rw [Addr.add_mid, hcc j _ hu]
    obtain ⟨v', w', hrun, h2, h3, _, h5⟩ := run_append_own_at (P := Try.prog) (w := w) base 43 o.type 50 i z 4 48 ht hi hz hsi hby hzs (by omega) v l.length (segRow l) hown ad n c (segRow l2) (by rw [segRow_len]; omega) hcells (fun u hu => segRow_one _ u hu) (by unfold maxLen; omega) (by omega) hbase
    unfold Oper.wp execOp
    simp only [ho, resolve, invoke, builtin, Sem.run_bind, Sem.run_pure, Result.andThen_ok, List.map_toArray, List.map_cons, List.map_nil, hs, hx, hrun]
    refine h v' w' ?_ h3 h5
    unfold OwnS
    rw [List.length_append, segRow_append, hlen]
    exact h2
end
theorem Segs.of_blk {w : World} {g B : Nat} {e : TypeId} {x : SegV} (h : Blk w g e (segCells x)) (hg : g < B) : Segs w B (some ⟨g, 0, none⟩) 1 [x] := by
  refine ⟨rfl, fun _ => ⟨g, 0, rfl, hg, fun i u hu => ?_⟩⟩
  rw [Nat.zero_add, h.cell i]
  match i, hu with
  | 0, hu => exact hu
  | 1, hu => exact hu
  | 2, hu => exact hu
  | 3, hu => exact hu
end Go.Proofs.Ytobbjhbjjhnicaa
