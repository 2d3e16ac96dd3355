/- A plan's operations that are not wanted. -/
import Derived.Test.YtobbjhbjjhnicaaOrders
namespace Go.Proofs.Ytobbjhbjjhnicaa
open Go.RowKit
section
variable {P : Program} {ops : Array Oper} {Q : Exit → Act → World → Prop} {S : World → Prop}
/-- An operation that comes up alone and is not wanted; the state behind it is laid out by the walk's own simp: intro K hK; go_simp; exact hK. -/
theorem plan_pass {a a1 : Act} {w : World} {i : Nat} {r : List (Bool × Nat)} {o : Oper} (ho : ops[i]? = some o) (hw : Region.wanted o (yielded ops a.tmps) = false) (hS : S w)
    (h1 : ∀ K : Act → Prop, K a1 → K (a.put o.dst undef)) (h : wpPlan P ops Q S r a1 w) : wpPlan P ops Q S ((true, i) :: r) a w := by
  refine wpOp_step ho (fun K hK => ?_)
  rw [if_neg (by rw [hw]; simp)]
  exact h1 (fun a => K a w) (hK _ _ ⟨hS, h⟩)
/-- The same of an operation that is taken first. -/
theorem plan_drop {a a1 : Act} {w : World} {i : Nat} {r : List (Bool × Nat)} {o : Oper} {d : Nat} (ho : ops[i]? = some o) (hw : Region.wanted o (yielded ops a.tmps) = false) (hd : o.dst = some d) (hlt : decide (d < a.tmps.size) = true)
    (h1 : ∀ K : Act → Prop, K a1 → K (a.put o.dst undef)) (h2 : wpPlan P ops Q S r a1 w) : wpPlan P ops Q S ((false, i) :: r) a w :=
  plan_skip ho hw hd hlt (h1 (fun x => x = a1) rfl) h2
end
end Go.Proofs.Ytobbjhbjjhnicaa
