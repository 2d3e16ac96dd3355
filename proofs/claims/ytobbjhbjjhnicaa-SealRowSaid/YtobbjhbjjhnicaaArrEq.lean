/- Equality of arrays of integers, cell by cell. -/
import Derived.Test.YtobbjhbjjhnicaaWords
import Derived.ChangeKeysEq
namespace Go.Proofs.Ytobbjhbjjhnicaa
open Go.RowKit
theorem eqItems_ints {P : Program} (w : World) (d : Nat) (e : TypeId) (k : IntKind) (hu : P.underlying e = some (.int k)) (xs ys : Array Value) (f g : Nat → Int) : ∀ (is : List Nat), (∀ i ∈ is, xs[i]? = some (.int k (f i))) → (∀ i ∈ is, ys[i]? = some (.int k (g i))) →
    (Op.eqItems (d + 1) e 1 xs ys is).run P w = .ok (is.all fun i => f i == g i) w
  | [], _, _ => by simp [Op.eqItems]
  | i :: is, hx, hy => by
    have h1 := hx i (List.mem_cons_self ..)
    have h2 := hy i (List.mem_cons_self ..)
    have ih := eqItems_ints w d e k hu xs ys f g is (fun j hj => hx j (List.mem_cons_of_mem _ hj)) (fun j hj => hy j (List.mem_cons_of_mem _ hj))
    have p1 : (part e xs (i * 1)).run P w = .ok (.int k (f i)) w := by simp [part, isAgg, run_underlying hu, h1]
    have p2 : (part e ys (i * 1)).run P w = .ok (.int k (g i)) w := by simp [part, isAgg, run_underlying hu, h2]
    simp only [Op.eqItems, Sem.run_bind, p1, p2, Result.andThen_ok, run_equalIn_int w d e k k (f i) (g i) hu]
    cases hb : (f i == g i)
    · simp [hb]
    · simp [hb, ih]
theorem equal_ints {P : Program} (w : World) (d : Nat) (t e : TypeId) (n : Nat) (k : IntKind) (i : TypeInfo) (ht : P.underlying t = some (.array n e)) (hi : P.info? e = some i) (hc : P.cellsOf e = 1) (hu : P.underlying e = some (.int k)) (xs ys : Array Value) (f g : Nat → Int)
    (hx : ∀ i, i < n → xs[i]? = some (.int k (f i))) (hy : ∀ i, i < n → ys[i]? = some (.int k (g i))) :
    (Op.equalIn (d + 1 + 1) t (.agg xs) (.agg ys)).run P w = .ok ((List.range n).all fun i => f i == g i) w := by
  rw [run_equalIn_array w (d + 1) xs ys ht hi, hc]
  exact eqItems_ints w d e k hu xs ys f g _ (fun i h => hx i (List.mem_range.1 h)) (fun i h => hy i (List.mem_range.1 h))
end Go.Proofs.Ytobbjhbjjhnicaa
