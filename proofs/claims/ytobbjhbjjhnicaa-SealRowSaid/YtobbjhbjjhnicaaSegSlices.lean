/- Parts of a slice of segments; a row of numbers of the call's own; where segments end. -/
import Derived.Test.YtobbjhbjjhnicaaSegs
import Derived.Test.YtobbjhbjjhnicaaPlainSeal2
import Derived.Test.YtobbjhbjjhnicaaAppend
import Derived.Test.YtobbjhbjjhnicaaSlices
namespace Go.Proofs.Ytobbjhbjjhnicaa
open Go.RowKit
set_option linter.unusedVariables false
def cut4 (A : Option Addr) (i m : Nat) : Option Addr := if m = i then A else A.map (·.add (i * 4))
theorem cut4_none {A : Option Addr} {i m : Nat} (h : cut4 A i m = none) : A = none := by
  unfold cut4 at h
  split at h
  · exact h
  · cases A
    · rfl
    · cases h
theorem seg_elem : Try.prog.underlying 43 = some (.slice (Try.prog.elem 43)) ∧ Try.prog.elem 43 = 50 := by
  have h : Try.prog.elem 43 = 50 := by simp [Program.elem, Try.underlying43]
  exact ⟨by rw [h]; exact Try.underlying43, h⟩
theorem seg_size (w : World) : (sizeOf (Try.prog.elem 43)).run Try.prog w = .ok 4 w := by
  obtain ⟨ht, i, z, hi, hz, hzs, hsi, hby⟩ := row_seg
  rw [seg_elem.2]
  simp [sizeOf, typeInfo, hi, hsi]
theorem run_segs_front (A : Option Addr) (n c j : Nat) (hj : j ≤ c) (w : World) :
    (Instr.slice 43 (.slice A n c) none (some (.int .i64 (j : Int))) none).run Try.prog w = .ok (.slice A j c) w := by
  rw [run_slice_h w _ A n c seg_elem.1 .i64 (j : Int) (by omega) (by omega), seg_size]
  have : (if c = 0 then A else A.map (·.add (0 * 4))) = A := by
    split
    · rfl
    · cases A <;> simp [Addr.add]
  simp [Result.andThen, sliced] at this ⊢
  exact this
theorem run_segs_rest (A : Option Addr) (n c i : Nat) (hi : i ≤ n) (w : World) :
    (Instr.slice 43 (.slice A n c) (some (.int .i64 (i : Int))) none none).run Try.prog w = .ok (.slice (cut4 A i c) (n - i) (c - i)) w := by
  rw [run_slice_l w _ A n c seg_elem.1 .i64 (i : Int) (by omega) (by omega), seg_size]
  simp [Result.andThen, sliced, cut4]
theorem run_segs_front_at (A : Option Addr) (n c j : Nat) (hj : j ≤ c) (w : World) :
    (Instr.sliceAt 43 (.slice A n c) none (some (.int .i64 (j : Int))) none).run Try.prog w = .ok (.slice A j c) w := by
  rw [run_sliceAt_slice _ _ _ _ _ _ seg_elem.1, run_segs_front A n c j hj]
theorem run_segs_rest_at (A : Option Addr) (n c i : Nat) (hi : i ≤ n) (w : World) :
    (Instr.sliceAt 43 (.slice A n c) (some (.int .i64 (i : Int))) none none).run Try.prog w = .ok (.slice (cut4 A i c) (n - i) (c - i)) w := by
  rw [run_sliceAt_slice _ _ _ _ _ _ seg_elem.1, run_segs_rest A n c i hi]
theorem segRow_take : ∀ (l : List SegV) (j i : Nat) (u : Value), (segRow (l.take j))[i]? = some u → (segRow l)[i]? = some u := by
  intro l j i u h
  obtain ⟨k, r, x, rfl, hr, hx, hu⟩ := segRow_get _ i u h
  have hx' : l[k]? = some x := by
    rw [List.getElem?_take] at hx
    split at hx
    · exact hx
    · cases hx
  obtain ⟨h0, h1, h2, h3⟩ := segRow_at l k x hx'
  match r, hr, hu with
  | 0, _, hu => rw [← hu]; exact h0
  | 1, _, hu => rw [← hu]; exact h1
  | 2, _, hu => rw [← hu]; exact h2
  | 3, _, hu => rw [← hu]; exact h3
theorem segRow_drop : ∀ (l : List SegV) (j i : Nat) (u : Value), (segRow (l.drop j))[i]? = some u → (segRow l)[j * 4 + i]? = some u := by
  intro l j i u h
  obtain ⟨k, r, x, rfl, hr, hx, hu⟩ := segRow_get _ i u h
  rw [List.getElem?_drop] at hx
  obtain ⟨h0, h1, h2, h3⟩ := segRow_at l (j + k) x hx
  match r, hr, hu with
  | 0, _, hu => rw [← hu, show j * 4 + (k * 4 + 0) = (j + k) * 4 by omega]; exact h0
  | 1, _, hu => rw [← hu, show j * 4 + (k * 4 + 1) = (j + k) * 4 + 1 by omega]; exact h1
  | 2, _, hu => rw [← hu, show j * 4 + (k * 4 + 2) = (j + k) * 4 + 2 by omega]; exact h2
  | 3, _, hu => rw [← hu, show j * 4 + (k * 4 + 3) = (j + k) * 4 + 3 by omega]; exact h3
section
variable {w : World} {B n : Nat} {A : Option Addr} {l : List SegV}
theorem Segs.front (h : Segs w B A n l) {j : Nat} (hj : j ≤ n) : Segs w B A j (l.take j) := by
  refine ⟨by rw [List.length_take, h.1]; omega, fun hn => ?_⟩
  obtain ⟨b, off, e, hb, hc⟩ := h.2 (by omega)
  exact ⟨b, off, e, hb, fun i u hi => hc i u (segRow_take l j i u hi)⟩
theorem Segs.rest (h : Segs w B A n l) {i c : Nat} (hi : i ≤ n) (hc : n ≤ c) : Segs w B (cut4 A i c) (n - i) (l.drop i) := by
  refine ⟨by rw [List.length_drop, h.1], fun hn => ?_⟩
  obtain ⟨b, off, e, hb, hcc⟩ := h.2 (by omega)
  refine ⟨b, off + i * 4, ?_, hb, fun k u hk => ?_⟩
  · unfold cut4
    rw [if_neg (by omega), e]
    simp [Addr.add_mid]
  · rw [Nat.add_assoc]
    exact hcc _ u (segRow_drop l i k u hk)
end
theorem OwnS.empty_ (w : World) (e : TypeId) (c : Array Value) (hc : c.size = 0) : OwnS (w.alloc (.cells c 50)) w.heap.size (.slice (some ⟨w.heap.size, 0, none⟩) 0 0) [] := by
  refine ⟨rfl, .inr ⟨w.heap.size, 0, c, rfl, Nat.le_refl _, heap_alloc_new w _, Nat.le_refl _, Nat.zero_le _, by rw [hc], by simp [segRow]⟩⟩
theorem Segs.two {w : World} {g B : Nat} {e : TypeId} {x y : SegV} (h : Blk w g e #[.int .i64 x.seg.kind, .int .i64 x.seg.place, .bool x.seg.last, .slice x.A x.n x.c, .int .i64 y.seg.kind, .int .i64 y.seg.place, .bool y.seg.last, .slice y.A y.n y.c]) (hg : g < B) : Segs w B (some ⟨g, 0, none⟩) 2 [x, y] := by
  refine ⟨rfl, fun _ => ⟨g, 0, rfl, hg, fun i u hu => ?_⟩⟩
  rw [Nat.zero_add, h.cell i]
  match i, hu with
  | 0, hu => exact hu
  | 1, hu => exact hu
  | 2, hu => exact hu
  | 3, hu => exact hu
  | 4, hu => exact hu
  | 5, hu => exact hu
  | 6, hu => exact hu
  | 7, hu => exact hu
abbrev i64v (z : Int) : Value := .int .i64 z
/-- The slice value v owns the numbers l, in a block from base on. -/
def OwnI (w : World) (base : Nat) (v : Value) (l : List Int) : Prop := w.ownsRow base 3 1 v l.length (l.map i64v)
section
variable {w w' : World} {base : Nat} {v : Value} {l : List Int}
theorem OwnI.nil_ : OwnI w base (.slice none 0 0) [] := World.ownsRow_nil _ _ _ _
theorem OwnI.alloc (h : OwnI w base v l) (o : Obj) : OwnI (w.alloc o) base v l := World.ownsRow.alloc h o
theorem OwnI.drew (h : OwnI w base v l) : OwnI w.drew base v l := World.ownsRow.drew h
theorem OwnI.lt (h : OwnI w base v l) : ∀ g, v.ownBlock = some g → g < w.heap.size := fun g hg => (World.ownsRow.lt h g hg).2
theorem OwnI.base_ (h : OwnI w base v l) : ∀ g, v.ownBlock = some g → base ≤ g := fun g hg => (World.ownsRow.lt h g hg).1
theorem OwnI.below {B : Nat} (h : OwnI w base v l) (hb : Below B w w') (hlt : ∀ g, v.ownBlock = some g → g < B) : OwnI w' base v l := by
  refine ⟨h.1, ?_⟩
  rcases h.2 with h | ⟨g, cap, cur, rfl, h2, h3, h4⟩
  · exact .inl h
  · exact .inr ⟨g, cap, cur, rfl, h2, (hb.block g (hlt g rfl)).trans h3, h4⟩
theorem OwnI.form (h : OwnI w base v l) (n : Nat) (hn : l.length = n) (hl : 0 < n) : ∃ g c, v = .slice (some ⟨g, 0, none⟩) n c ∧ n ≤ c ∧ base ≤ g ∧ g < w.heap.size ∧ ∀ i z, l[i]? = some z → w.cell? ⟨g, i, none⟩ = some (.int .i64 z) := by
  subst hn
  have h' := h
  rcases h.2 with ⟨rfl, h0⟩ | ⟨g, cap, cur, rfl, hg, hh, hc, _⟩
  · omega
  · refine ⟨g, cap, rfl, hc, hg, (Array.getElem?_eq_some_iff.1 hh).1, fun i z hi => ?_⟩
    have := World.ownsRow.cells h' (g := g) rfl i (i64v z) (by rw [List.getElem?_map, hi]; rfl)
    rw [Addr.add_mid, Nat.zero_add] at this
    exact this
theorem row_int : Try.prog.underlying 46 = some (.slice 3) ∧ ∃ i z, Try.prog.info? 3 = some i ∧ i.zero = some z ∧ z.cells.size = 1 ∧ i.size = 1 ∧ i.bytes = 8 := by
  have h : (Try.prog.info? 3).map (fun i => (i.zero.map (fun z => z.cells.size), i.size, i.bytes)) = some (some 1, 1, 8) := by kernel_rfl
  obtain ⟨i, h1, h2⟩ := Option.map_eq_some_iff.1 h
  simp only [Prod.mk.injEq] at h2
  obtain ⟨z, hz, hz2⟩ := Option.map_eq_some_iff.1 h2.1
  exact ⟨Try.underlying46, i, z, h1, hz, hz2, h2.2.1, h2.2.2⟩
/-- One number appended. -/
theorem wp_append_int {o : Oper} {a : Act} {K : Act → World → Prop} {Q : Exit → Act → World → Prop} (s x : Operand)
    (ho : o.op = .call { callee := .builtin .append, args := #[s, x], argTypes := #[46, 46] }) (z : Int)
    (hs : a.eval s = v) (hown : OwnI w base v l) (g : Nat) (hx : a.eval x = .slice (some ⟨g, 0, none⟩) 1 1) (hc : w.cell? ⟨g, 0, none⟩ = some (.int .i64 z))
    (hsz : l.length ≤ 1000000) (hbase : base ≤ w.heap.size)
    (h : ∀ v' w', OwnI w' base v' (l ++ [z]) → w.grownBy w' v.ownBlock → (v'.ownBlock = v.ownBlock ∨ v'.ownBlock = some w.heap.size) → K (a.put o.dst v') w') : o.wp Try.prog a w K Q := by
  obtain ⟨ht, i, zz, hi, hz, hzs, hsi, hby⟩ := row_int
  obtain ⟨v', w', hrun, h2, h3, _, h5⟩ := run_append_own_at (P := Try.prog) (w := w) base 46 o.type 3 i zz 1 8 ht hi hz hsi hby hzs (by omega) v l.length (l.map i64v) hown ⟨g, 0, none⟩ 1 1 [i64v z] rfl (fun j u hu => by
    match j, hu with
    | 0, hu => cases hu; rw [Addr.add_mid]; exact hc) (fun u hu => by rcases List.mem_singleton.1 hu with rfl; rfl) (by unfold maxLen; omega) (by omega) hbase
  unfold Oper.wp execOp
  simp only [ho, resolve, invoke, builtin, Sem.run_bind, Sem.run_pure, Result.andThen_ok, List.map_toArray, List.map_cons, List.map_nil, hs, hx, hrun]
  refine h v' w' ?_ h3 h5
  unfold OwnI
  rw [List.length_append, List.map_append]
  exact h2
end
theorem ownBlock_ne {v u : Value} (hd : ∀ g, v.ownBlock = some g → u.ownBlock = some g → False) : u.ownBlock = none ∨ u.ownBlock ≠ v.ownBlock := by
  cases hu : u.ownBlock with
  | none => exact .inl rfl
  | some g => exact .inr (fun e => hd g e.symm hu)
theorem sep_next {v u v' : Value} {h : Nat} (hd : ∀ g, v.ownBlock = some g → u.ownBlock = some g → False) (hn : v'.ownBlock = v.ownBlock ∨ v'.ownBlock = some h) (hu : ∀ g, u.ownBlock = some g → g < h) : ∀ g, v'.ownBlock = some g → u.ownBlock = some g → False := by
  intro g h1 h2
  rcases hn with e | e
  · exact hd g (by rw [← e]; exact h1) h2
  · rw [e] at h1
    injection h1 with h1
    have := hu g h2
    omega
theorem sep_swap {v u : Value} (hd : ∀ g, v.ownBlock = some g → u.ownBlock = some g → False) : ∀ g, u.ownBlock = some g → v.ownBlock = some g → False := fun g h1 h2 => hd g h2 h1
theorem OwnI.kept {w w' : World} {base : Nat} {v : Value} {l : List Int} {row : Option Nat} (h : OwnI w base v l) (hg : w.grownBy w' row) (hne : v.ownBlock = none ∨ v.ownBlock ≠ row) : OwnI w' base v l := World.ownsRow.kept h hg hne
theorem Own.kept {w w' : World} {e : TypeId} {base : Nat} {v : Value} {l : List UInt8} {row : Option Nat} (h : Own e w base v l) (hg : w.grownBy w' row) (hne : v.ownBlock = none ∨ v.ownBlock ≠ row) : Own e w' base v l := World.ownsRow.kept h hg hne
namespace PS
/-- Where the segments of a row end. -/
def ends (k : PL.K8) (r : List Seg) (j : Nat) : List Int := (List.range j).map fun i => ((cat k (r.take (i + 1))).length : Int)
theorem ends_len (k : PL.K8) (r : List Seg) (j : Nat) : (ends k r j).length = j := by simp [ends]
theorem ends_next (k : PL.K8) (r : List Seg) (j : Nat) : ends k r (j + 1) = ends k r j ++ [((cat k (r.take (j + 1))).length : Int)] := by
  unfold ends
  rw [List.range_succ, List.map_append]
  rfl
theorem ends_get (k : PL.K8) (r : List Seg) (j i : Nat) (h : i < j) : (ends k r j)[i]? = some ((cat k (r.take (i + 1))).length : Int) := by
  unfold ends
  rw [List.getElem?_map, List.getElem?_range h]
  rfl
theorem cat_mono (k : PL.K8) (r : List Seg) {i j : Nat} (h : i ≤ j) : (cat k (r.take i)).length ≤ (cat k (r.take j)).length := by
  have e : r.take j = r.take i ++ (r.take j).drop i := by
    conv => lhs; rw [← List.take_append_drop i (r.take j), List.take_take, Nat.min_eq_left h]
  rw [e, cat_append, List.length_append]
  omega
theorem cat_zero (k : PL.K8) (r : List Seg) : (cat k (r.take 0)).length = 0 := rfl
/-- The segment in which a byte lies. -/
theorem whole_at (k : PL.K8) (r : List Seg) (c : Nat) (hc : c < (cat k r).length) : ∃ w, w < r.length ∧ (cat k (r.take w)).length ≤ c ∧ c < (cat k (r.take (w + 1))).length := by
  have key : ∀ m, c < (cat k (r.take m)).length → ∃ w, w < m ∧ (cat k (r.take w)).length ≤ c ∧ c < (cat k (r.take (w + 1))).length := by
    intro m
    induction m with
    | zero => intro h; simp [cat] at h
    | succ m ih =>
      intro h
      by_cases h2 : c < (cat k (r.take m)).length
      · obtain ⟨w, h3, h4⟩ := ih h2
        exact ⟨w, by omega, h4⟩
      · exact ⟨m, by omega, by omega, h⟩
  exact key r.length (by rw [List.take_length]; exact hc)
theorem cat_take (k : PL.K8) (r : List Seg) (w : Nat) : (cat k r).take (cat k (r.take w)).length = cat k (r.take w) := by
  conv => lhs; rw [← List.take_append_drop w r, cat_append]
  rw [List.take_append_drop, List.take_left]
theorem set_take {l : List UInt8} {j m : Nat} {x : UInt8} (h : m ≤ j) : (l.set j x).take m = l.take m := by
  apply List.ext_getElem?
  intro i
  rw [List.getElem?_take, List.getElem?_take]
  by_cases hi : i < m
  · rw [if_pos hi, if_pos hi, List.getElem?_set_ne (by omega)]
  · rw [if_neg hi, if_neg hi]
theorem allGo_count (k : PL.K8) (l : List UInt8) : ∀ (f a : Nat) (acc : List Seg), (allGo k l f a acc).1.length ≤ acc.length + f
  | 0, a, acc => Nat.le_refl _
  | f + 1, a, acc => by
    rw [allGo]
    split
    · show acc.length ≤ _
      omega
    · split
      · show (acc ++ [_]).length ≤ _
        rw [List.length_append, List.length_singleton]
        omega
      · have := allGo_count k l f (get k l a acc.length).2.1 (acc ++ [(get k l a acc.length).1])
        rw [List.length_append, List.length_singleton] at this
        omega
theorem all_count (k : PL.K8) (l : List UInt8) : (all k l 0).1.length ≤ l.length + 1 := by
  have := allGo_count k l (l.length + 1) 0 []
  simp only [List.length_nil, Nat.zero_add] at this
  exact this
theorem all_pos (k : PL.K8) (l : List UInt8) : (all k l 0).2.1 ≤ l.length := allGo_pos k l _ _ _ (Nat.zero_le _)
end PS
end Go.Proofs.Ytobbjhbjjhnicaa
