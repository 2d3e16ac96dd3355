/- append onto a row of bytes of the call's own, whatever the source: nil, empty or not; in a plain region, in a guarded operation, in a region that draws its order. -/
import Derived.Test.YtobbjhbjjhnicaaWords
import Derived.Maps.AppendAt
import Derived.Laws.AppendOwnNone
namespace Go.Proofs.Ytobbjhbjjhnicaa
open Go.RowKit
/-- The slice value v owns the bytes l, in a block from base on. -/
def Own (e : TypeId) (w : World) (base : Nat) (v : Value) (l : List UInt8) : Prop := w.ownsRow base e 1 v l.length (l.map u8v)
section
variable {P : Program} {w w' : World} {e : TypeId} {base : Nat} {v : Value} {l : List UInt8}
theorem Own.nil_ : Own e w base (.slice none 0 0) [] := World.ownsRow_nil _ _ _ _
theorem Own.alloc (h : Own e w base v l) (o : Obj) : Own e (w.alloc o) base v l := World.ownsRow.alloc h o
theorem Own.drew (h : Own e w base v l) : Own e w.drew base v l := World.ownsRow.drew h
/-- The shape of what owns. -/
theorem Own.form (h : Own e w base v l) : ∃ A c, v = .slice A l.length c ∧ Bytes w w.heap.size A l.length l ∧ l.length ≤ c ∧ (A = none → c = 0) ∧ (∀ g, v.ownBlock = some g → base ≤ g) := by
  have h' := h
  rcases h.2 with ⟨rfl, h0⟩ | ⟨g, cap, cur, rfl, hg, _, hc, _⟩
  · refine ⟨none, 0, by rw [h0], ⟨rfl, fun hn => by omega⟩, by omega, fun _ => rfl, fun g hg => by simp [Value.ownBlock] at hg⟩
  · exact ⟨_, cap, rfl, Bytes.of_own h', hc, (fun h => by cases h), fun g' hg' => by simp [Value.ownBlock] at hg'; omega⟩
theorem Own.empty_ (w : World) (e : TypeId) (c : Array Value) (hc : c.size = 0) : Own e (w.alloc (.cells c e)) w.heap.size (.slice (some ⟨w.heap.size, 0, none⟩) 0 0) [] := by
  refine ⟨rfl, .inr ⟨w.heap.size, 0, c, rfl, Nat.le_refl _, heap_alloc_new w _, Nat.le_refl _, Nat.zero_le _, by rw [hc], by simp⟩⟩
theorem Own.one_ (w : World) (e : TypeId) (c : UInt8) : Own e (w.alloc (.cells #[u8v c] e)) w.heap.size (.slice (some ⟨w.heap.size, 0, none⟩) 1 1) [c] := by
  refine ⟨rfl, .inr ⟨w.heap.size, 1, #[u8v c], rfl, Nat.le_refl _, heap_alloc_new w _, Nat.le_refl _, by unfold maxLen; omega, rfl, rfl⟩⟩
theorem one_bytes (w : World) (e : TypeId) (c : UInt8) : Bytes (w.alloc (.cells #[u8v c] e)) (w.heap.size + 1) (some ⟨w.heap.size, 0, none⟩) 1 [c] := by
  have := Bytes.of_own (Own.one_ w e c)
  rw [World.size_alloc] at this
  exact this
theorem Own.mono (h : Own e w base v l) {b : Nat} (hb : b ≤ base) : Own e w b v l := by
  refine ⟨h.1, ?_⟩
  rcases h.2 with h | ⟨g, cap, cur, h1, h2, h3⟩
  · exact .inl h
  · exact .inr ⟨g, cap, cur, h1, by omega, h3⟩
/-- What is owned stays so where the world grows elsewhere. -/
theorem Own.below {B : Nat} (h : Own e w base v l) (hb : Below B w w') (hlt : ∀ g, v.ownBlock = some g → g < B) : Own e w' base v l := by
  refine ⟨h.1, ?_⟩
  rcases h.2 with h | ⟨g, cap, cur, rfl, h2, h3, h4⟩
  · exact .inl h
  · exact .inr ⟨g, cap, cur, rfl, h2, (hb.block g (hlt g rfl)).trans h3, h4⟩
theorem Own.lt (h : Own e w base v l) : ∀ g, v.ownBlock = some g → g < w.heap.size := by
  intro g hg
  rcases h.2 with ⟨rfl, _⟩ | ⟨g', cap, cur, rfl, _, h3, _⟩
  · simp [Value.ownBlock] at hg
  · simp [Value.ownBlock] at hg
    subst hg
    exact (Array.getElem?_eq_some_iff.1 h3).1
/-- The element type's row of the table: a byte. -/
def ByteRow (P : Program) (t e : TypeId) : Prop := P.underlying t = some (.slice e) ∧ ∃ i, P.info? e = some i ∧ i.zero = some (.int .u8 0) ∧ i.size = 1 ∧ i.bytes = 1
theorem wp_append_bytes {o : Oper} {a : Act} {K : Act → World → Prop} {Q : Exit → Act → World → Prop} (s x : Operand) (t : TypeId) (hr : ByteRow P t e)
    (ho : o.op = .call { callee := .builtin .append, args := #[s, x], argTypes := #[t, t] }) (l₂ : List UInt8)
    (hs : a.eval s = v) (hown : Own e w base v l) (B : Nat) (A : Option Addr) (n c : Nat) (hx : a.eval x = .slice A n c) (hb : Bytes w B A n l₂) (hnil : A = none → c = 0)
    (hsz : l.length + n ≤ 1000000000000) (hbase : base ≤ w.heap.size)
    (h : ∀ v' w', Own e w' base v' (l ++ l₂) → w.grownBy w' v.ownBlock → (v'.ownBlock = v.ownBlock ∨ v'.ownBlock = some w.heap.size) → K (a.put o.dst v') w') : o.wp P a w K Q := by
  obtain ⟨ht, i, hi, hz, hsi, hby⟩ := hr
  have hlen := hb.len
  rcases A with _ | ad
  · have hn : n = 0 := by
      rcases Nat.eq_zero_or_pos n with h0 | h0
      · exact h0
      · obtain ⟨b, off, hh, _⟩ := hb.2 h0
        cases hh
    have hc := hnil rfl
    subst hn hc
    have hl : l₂ = [] := List.eq_nil_of_length_eq_zero hlen
    subst hl
    have hrun := run_append_owned_none (P := P) (w := w) base t o.type e i 1 ht hi v l.length (l.map u8v) hown
    unfold Oper.wp execOp
    simp only [ho, resolve, invoke, builtin, Sem.run_bind, Sem.run_pure, Result.andThen_ok, List.map_toArray, List.map_cons, List.map_nil, hs, hx, hrun]
    exact h v w (by rw [List.append_nil]; exact hown) (World.grownBy.refl w _) (.inl rfl)
  · have hcells : ∀ j u, (l₂.map u8v)[j]? = some u → w.cell? (ad.add j) = some u := by
      intro j u hu
      have hj : j < l₂.length := by simpa using (List.getElem?_eq_some_iff.1 hu).1
      obtain ⟨b, off, hh, _, hcc⟩ := hb.2 (by omega)
      injection hh with hh
      subst hh
      rw [Addr.add_mid, hcc j _ (List.getElem?_eq_getElem hj), ← hu]
      simp [List.getElem?_eq_getElem hj]
    obtain ⟨v', w', hrun, h2, h3, _, h5⟩ := run_append_own_at (P := P) w base t o.type e i (.int .u8 0) 1 1 ht hi hz hsi hby rfl (by omega) v l.length (l.map u8v) hown ad n c (l₂.map u8v) (by simp; omega) hcells (fun u hu => by
      simp only [List.mem_map] at hu
      obtain ⟨q, _, rfl⟩ := hu
      rfl) (by unfold maxLen; omega) (by omega) hbase
    unfold Oper.wp execOp
    simp only [ho, resolve, invoke, builtin, Sem.run_bind, Sem.run_pure, Result.andThen_ok, List.map_toArray, List.map_cons, List.map_nil, hs, hx, hrun]
    refine h v' w' ?_ h3 h5
    unfold Own
    rw [List.length_append, List.map_append, hlen]
    exact h2
/-- An operation of a plain region met by a law at the operation. -/
theorem wpList_of_wp {ops : Array Oper} {rest : List Oper} {o : Oper} {a : Act} {Q : Exit → Act → World → Prop} (hw : Region.wanted o (yielded ops a.tmps) = true)
    (h : ∀ K : Act → World → Prop, (∀ a w, wpList P ops Q rest a w → K a w) → o.wp P a w K Q) : wpList P ops Q (o :: rest) a w := by
  refine wpList_step (fun K hK => ?_)
  rw [if_pos hw]
  exact h K hK
end
end Go.Proofs.Ytobbjhbjjhnicaa
