/- Tokens in memory: a row of three cells each; appending one; one field's cell. -/
import Derived.Test.YthoipfdapmjcfaaGave
import Derived.Test.YthoipfdapmjcfaaPlainMatch
namespace Go.Proofs.Ythoipfdapmjcfaa
open Go.RowKit
set_option linter.unusedVariables false
/-- A token's cells. -/
abbrev tokCells (t : PM.Tok) : Array Value := #[.int .i64 t.1, .int .i64 t.2.1, .int .i64 t.2.2]
def tokRow : List PM.Tok → List Value
  | [] => []
  | t :: ts => .int .i64 t.1 :: .int .i64 t.2.1 :: .int .i64 t.2.2 :: tokRow ts
theorem tokRow_len : ∀ ts, (tokRow ts).length = ts.length * 3
  | [] => rfl
  | t :: ts => by simp only [tokRow, List.length_cons, tokRow_len ts]; omega
theorem tokRow_append : ∀ a b, tokRow (a ++ b) = tokRow a ++ tokRow b
  | [], b => rfl
  | t :: a, b => by simp only [List.cons_append, tokRow, tokRow_append a b]
theorem tokRow_one : ∀ (ts : List PM.Tok) u, u ∈ tokRow ts → u.oneCell' = true
  | [], u, h => by cases h
  | t :: ts, u, h => by
    simp only [tokRow, List.mem_cons] at h
    rcases h with rfl | rfl | rfl | h
    · rfl
    · rfl
    · rfl
    · exact tokRow_one ts u h
theorem tokRow_at : ∀ (ts : List PM.Tok) (i : Nat) (t : PM.Tok), ts[i]? = some t → (tokRow ts)[i * 3]? = some (.int .i64 t.1) ∧ (tokRow ts)[i * 3 + 1]? = some (.int .i64 t.2.1) ∧ (tokRow ts)[i * 3 + 2]? = some (.int .i64 t.2.2)
  | [], i, t, h => by cases h
  | x :: ts, 0, t, h => by
    simp at h
    subst h
    exact ⟨rfl, rfl, rfl⟩
  | x :: ts, i + 1, t, h => by
    have := tokRow_at ts i t (by simpa using h)
    rw [show (i + 1) * 3 = i * 3 + 3 from by omega]
    exact this
/-- The slice at A, of n elements, holds the tokens l; its block lies below B. -/
def Toks (w : World) (B : Nat) (A : Option Addr) (n : Nat) (l : List PM.Tok) : Prop :=
  l.length = n ∧ (0 < n → ∃ b off, A = some ⟨b, off, none⟩ ∧ b < B ∧ ∀ i u, (tokRow l)[i]? = some u → w.cell? ⟨b, off + i, none⟩ = some u)
section
variable {w w' : World} {B B' n : Nat} {A : Option Addr} {l : List PM.Tok}
theorem Toks.len (h : Toks w B A n l) : l.length = n := h.1
theorem Toks.keep (h : Toks w B A n l) (hk : ∀ b o, b < B → w'.cell? ⟨b, o, none⟩ = w.cell? ⟨b, o, none⟩) : Toks w' B A n l :=
  ⟨h.1, fun hn => by
    obtain ⟨b, off, e, hb, hc⟩ := h.2 hn
    exact ⟨b, off, e, hb, fun i c hi => (hk b _ hb).trans (hc i c hi)⟩⟩
theorem Toks.more (h : Toks w B A n l) (hB : B ≤ B') : Toks w B' A n l :=
  ⟨h.1, fun hn => by
    obtain ⟨b, off, e, hb, hc⟩ := h.2 hn
    exact ⟨b, off, e, by omega, hc⟩⟩
theorem Toks.below (h : Toks w B A n l) (hb : Below B w w') : Toks w' B A n l := h.keep fun b o hp => hb.cell (p := ⟨b, o, none⟩) hp
theorem Toks.drew (h : Toks w B A n l) : Toks w.drew B A n l := h
theorem Toks.pick {k : Nat} (h : Toks w B A n l) (hk : k < n) : ∃ (b off : Nat) (t : PM.Tok), A = some ⟨b, off, none⟩ ∧ b < B ∧ l[k]? = some t ∧
    w.cell? ⟨b, off + k * 3, none⟩ = some (.int .i64 t.1) ∧ w.cell? ⟨b, off + k * 3 + 1, none⟩ = some (.int .i64 t.2.1) ∧ w.cell? ⟨b, off + k * 3 + 2, none⟩ = some (.int .i64 t.2.2) := by
  obtain ⟨b, off, e, hb, hc⟩ := h.2 (by omega)
  have hl : k < l.length := by rw [h.1]; exact hk
  obtain ⟨h0, h1, h2⟩ := tokRow_at l k _ (List.getElem?_eq_getElem hl)
  exact ⟨b, off, l[k], e, hb, List.getElem?_eq_getElem hl, hc _ _ h0, hc _ _ h1, hc _ _ h2⟩
end
/-- The slice value v owns the tokens l, in a block from base on. -/
def OwnT (e : TypeId) (w : World) (base : Nat) (v : Value) (l : List PM.Tok) : Prop := w.ownsRow base e 3 v l.length (tokRow l)
section
variable {P : Program} {w w' : World} {e : TypeId} {base : Nat} {v : Value} {l : List PM.Tok}
theorem OwnT.nil_ : OwnT e w base (.slice none 0 0) [] := World.ownsRow_nil _ _ _ _
theorem OwnT.alloc (h : OwnT e w base v l) (o : Obj) : OwnT e (w.alloc o) base v l := World.ownsRow.alloc h o
theorem OwnT.drew (h : OwnT e w base v l) : OwnT e w.drew base v l := World.ownsRow.drew h
theorem OwnT.form (h : OwnT e w base v l) : ∃ A n c, v = .slice A n c ∧ Toks w w.heap.size A n l ∧ n ≤ c ∧ (A = none → c = 0) := by
  rcases h.2 with ⟨rfl, h0⟩ | ⟨g, cap, cur, rfl, hg, hh, hc, _⟩
  · exact ⟨none, 0, 0, rfl, ⟨h0, fun hn => by omega⟩, Nat.le_refl _, fun _ => rfl⟩
  · refine ⟨_, l.length, cap, rfl, ⟨rfl, fun hn => ⟨g, 0, rfl, (Array.getElem?_eq_some_iff.1 hh).1, fun i u hi => ?_⟩⟩, hc, fun h => by cases h⟩
    have := World.ownsRow.cells h (g := g) rfl i u hi
    rw [Addr.add_mid] at this
    exact this
theorem OwnT.below {B : Nat} (h : OwnT e w base v l) (hb : Below B w w') (hlt : ∀ g, v.ownBlock = some g → g < B) : OwnT e w' base v l := by
  refine ⟨h.1, ?_⟩
  rcases h.2 with h | ⟨g, cap, cur, rfl, h2, h3, h4⟩
  · exact .inl h
  · exact .inr ⟨g, cap, cur, rfl, h2, (hb.block g (hlt g rfl)).trans h3, h4⟩
theorem OwnT.lt (h : OwnT e w base v l) : ∀ g, v.ownBlock = some g → g < w.heap.size := fun g hg => (World.ownsRow.lt h g hg).2
theorem OwnT.base_ (h : OwnT e w base v l) : ∀ g, v.ownBlock = some g → base ≤ g := fun g hg => (World.ownsRow.lt h g hg).1
/-- The element type's row of the table: a token. -/
def TokRow (P : Program) (t e : TypeId) : Prop := P.underlying t = some (.slice e) ∧ ∃ i z, P.info? e = some i ∧ i.zero = some z ∧ z.cells.size = 3 ∧ i.size = 3 ∧ i.bytes = 24
theorem wp_append_tok {o : Oper} {a : Act} {K : Act → World → Prop} {Q : Exit → Act → World → Prop} (s x : Operand) (t : TypeId) (hr : TokRow P t e)
    (ho : o.op = .call { callee := .builtin .append, args := #[s, x], argTypes := #[t, t] }) (y : PM.Tok)
    (hs : a.eval s = v) (hown : OwnT e w base v l) (g c : Nat) (hx : a.eval x = .slice (some ⟨g, 0, none⟩) 1 c) (e' : TypeId) (hb : Blk w g e' (tokCells y))
    (hsz : l.length ≤ 1000000) (hbase : base ≤ w.heap.size)
    (h : ∀ v' w', OwnT e w' base v' (l ++ [y]) → w.grownBy w' v.ownBlock → (v'.ownBlock = v.ownBlock ∨ v'.ownBlock = some w.heap.size) → K (a.put o.dst v') w') : o.wp P a w K Q := by
  obtain ⟨ht, i, z, hi, hz, hzs, hsi, hby⟩ := hr
  obtain ⟨v', w', hrun, h2, h3, _, h5⟩ := run_append_own_at (P := P) (w := w) base t o.type e i z 3 24 ht hi hz hsi hby hzs (by omega) v l.length (tokRow l) hown ⟨g, 0, none⟩ 1 c (tokRow [y]) (tokRow_len _) (fun j u hu => by
    rw [Addr.add_mid, Nat.zero_add, hb.cell j]
    match j, hu with
    | 0, hu => exact hu
    | 1, hu => exact hu
    | 2, hu => exact hu) (fun u hu => tokRow_one _ u hu) (by unfold maxLen; omega) (by omega) hbase
  unfold Oper.wp execOp
  simp only [ho, resolve, invoke, builtin, Sem.run_bind, Sem.run_pure, Result.andThen_ok, List.map_toArray, List.map_cons, List.map_nil, hs, hx, hrun]
  refine h v' w' ?_ h3 h5
  unfold OwnT
  rw [List.length_append, tokRow_append]
  exact h2
end
theorem row_tok : TokRow Try.prog 24 34 := by
  have h : (Try.prog.info? 34).map (fun i => (i.zero.map (fun z => z.cells.size), i.size, i.bytes)) = some (some 3, 3, 24) := by kernel_rfl
  obtain ⟨i, h1, h2⟩ := Option.map_eq_some_iff.1 h
  simp only [Prod.mk.injEq] at h2
  obtain ⟨z, hz, hz2⟩ := Option.map_eq_some_iff.1 h2.1
  exact ⟨Try.underlying24, i, z, h1, hz, hz2, h2.2.1, h2.2.2⟩
theorem row_rtok : TokRow Try.prog 31 35 := by
  have h : (Try.prog.info? 35).map (fun i => (i.zero.map (fun z => z.cells.size), i.size, i.bytes)) = some (some 3, 3, 24) := by kernel_rfl
  obtain ⟨i, h1, h2⟩ := Option.map_eq_some_iff.1 h
  simp only [Prod.mk.injEq] at h2
  obtain ⟨z, hz, hz2⟩ := Option.map_eq_some_iff.1 h2.1
  exact ⟨Try.underlying31, i, z, h1, hz, hz2, h2.2.1, h2.2.2⟩
end Go.Proofs.Ythoipfdapmjcfaa
