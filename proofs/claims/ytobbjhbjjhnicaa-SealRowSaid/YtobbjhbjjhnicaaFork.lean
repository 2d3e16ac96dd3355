/- Regions that draw their order: a plan with forks (two operations that both change the world may come up in either order). -/
import Derived.Test.YtobbjhbjjhnicaaOrders
namespace Go.Proofs.Ytobbjhbjjhnicaa
open Go.RowKit
section
variable {P : Program} {ops : Array Oper} {Q : Exit → Act → World → Prop} {md : Region.Mode} {S : World → Prop}
/-- The first part of a plan; what is behind it is K. -/
def wpPlanK (P : Program) (ops : Array Oper) (Q : Exit → Act → World → Prop) (S : World → Prop) (K : Act → World → Prop) : List (Bool × Nat) → Act → World → Prop
  | [], a, w => S w → K a w
  | (false, i) :: r, a, w => ∃ a1 : Act, (∃ d, dstOf ops i = some d ∧ d < a.tmps.size) ∧ (∀ w', S w' → stOp P ops w' i (fun x => x = a1) a) ∧ wpPlanK P ops Q S K r a1 w
  | (true, i) :: r, a, w => wpOp P ops Q i (fun a' w' => S w' ∧ wpPlanK P ops Q S K r a' w') a w
def planP (md : Region.Mode) (ops : Array Oper) : List (Bool × Nat) → Array Bool → Bool
  | [], _ => true
  | (false, i) :: r, L => Region.free md ops L i && (Region.ready md ops L).contains i && decide (i < ops.size) && planP md ops r (L.setIfInBounds i true)
  | (true, i) :: r, L => (Region.ready md ops L == [i]) && planP md ops r (L.setIfInBounds i true)
def setAll : List (Bool × Nat) → Array Bool → Array Bool
  | [], L => L
  | (_, i) :: r, L => setAll r (L.setIfInBounds i true)
theorem planK_nil {K : Act → World → Prop} {a : Act} {w : World} (h : S w → K a w) : wpPlanK P ops Q S K [] a w := h
theorem planK_take {K : Act → World → Prop} {a a1 : Act} {w : World} {i : Nat} {r : List (Bool × Nat)} {o : Oper} {d : Nat} (ho : ops[i]? = some o) (hw : Region.wanted o (yielded ops a.tmps) = true) (hd : o.dst = some d) (hlt : decide (d < a.tmps.size) = true)
    (h : ∀ w', S w' → ∀ K : Act → Prop, K a1 → o.still P a w' K) (h2 : wpPlanK P ops Q S K r a1 w) : wpPlanK P ops Q S K ((false, i) :: r) a w := by
  refine ⟨a1, ⟨d, by simp [dstOf, ho, hd], of_decide_eq_true hlt⟩, fun w' hw' => ?_, h2⟩
  unfold stOp
  simp only [ho]
  rw [if_pos hw]
  exact h w' hw' _ rfl
theorem planK_force {K : Act → World → Prop} {a : Act} {w : World} {i : Nat} {r : List (Bool × Nat)} {o : Oper} (ho : ops[i]? = some o) (hw : Region.wanted o (yielded ops a.tmps) = true)
    (h : ∀ K' : Act → World → Prop, Hid (∀ a w, S w → wpPlanK P ops Q S K r a w → K' a w) → o.wp P a w K' Q) : wpPlanK P ops Q S K ((true, i) :: r) a w := by
  refine wpOp_step ho (fun K' hK => ?_)
  rw [if_pos hw]
  exact h K' (fun a w h0 h1 => hK a w ⟨h0, h1⟩)
theorem setAll_size : ∀ (r : List (Bool × Nat)) (L : Array Bool), (setAll r L).size = L.size
  | [], _ => rfl
  | (_, i) :: r, L => by rw [setAll, setAll_size r]; simp
theorem wpAnyG_prefix (hs : Region.noSelect ops = true) (hQ : ∀ ch (a : Act) d v w, Q (.panic ch) (a.put d v) w → Q (.panic ch) a w) (fuel : Nat) :
    ∀ (r : List (Bool × Nat)) (L : Array Bool) (a : Act) (w : World), L.size = ops.size → planP md ops r L = true → S w →
      wpPlanK P ops Q S (wpAnyG P md ops Q S (fun _ => True) ops.size fuel (setAll r L)) r a w → wpAnyG P md ops Q S (fun _ => True) ops.size (fuel + r.length) L a w
  | [], L, a, w, _, _, hS, h => h hS
  | (false, i) :: r, L, a, w, hL, hok, hS, h => by
    simp only [planP, Bool.and_eq_true, decide_eq_true_eq] at hok
    obtain ⟨⟨⟨hf, hr⟩, hlt⟩, hok'⟩ := hok
    obtain ⟨a1, ⟨d, hd, hdn⟩, hy, h2⟩ := h
    cases ho : ops[i]? with
    | none => simp [dstOf, ho] at hd
    | some o =>
      have hod : o.dst = some d := by simpa [dstOf, ho] using hd
      have key : ∀ w', S w' → YieldsAt P ops w' o (a1.tmps.getD d undef) a ∧ a.put o.dst (a1.tmps.getD d undef) = a1 := by
        intro w' hw'
        obtain ⟨v, hy, h2⟩ := yieldsAt_of_stOp ho (hy w' hw')
        have h3 : a.put o.dst v = a1 := h2
        have hv : a1.tmps.getD d undef = v := by rw [← h3, hod]; simp [Act.put, hdn]
        rw [hv]
        exact ⟨hy, h3⟩
      have hri : i ∈ Region.ready md ops L := by simpa using hr
      have hcl : Closed md ops ops.size L := by
        intro h
        simp [← hL] at h
      refine wpAnyG_first S ho (by omega) (Region.noSelect_spec hs) (.inl fun _ h => h) (fun ch a w => hQ ch a _ _ w) (fuel + r.length) L a w (Region.free_spec ho hf) hri hcl (fun w' hw' => (key w' hw').1) ⟨hS, .inr trivial⟩ ?_
      rw [(key w hS).2]
      exact wpAnyG_prefix hs hQ fuel r _ a1 w (by simpa using hL) hok' hS h2
  | (true, i) :: r, L, a, w, hL, hok, hS, h => by
    simp only [planP, Bool.and_eq_true, beq_iff_eq] at hok
    obtain ⟨hr, hok'⟩ := hok
    refine ⟨fun h0 => (by rw [hr] at h0; cases h0), fun j hj => ?_⟩
    rw [hr] at hj
    obtain rfl : j = i := by simpa using hj
    exact wpOp_mono (fun a' w' h' => ⟨⟨h'.1, .inr trivial⟩, wpAnyG_prefix hs hQ fuel r _ a' w' (by simpa using hL) hok' h'.1 h'.2⟩) h
/-- Two may come up: both ways. -/
theorem wpAnyG_fork {i j : Nat} {oi oj : Oper} {fuel : Nat} {L : Array Bool} {a : Act} {w : World} (hr : (Region.ready md ops L == [i, j]) = true) (hi : ops[i]? = some oi) (hj : ops[j]? = some oj)
    (hwi : Region.wanted oi (yielded ops a.tmps) = true) (hwj : Region.wanted oj (yielded ops a.tmps) = true)
    (h1 : ∀ K : Act → World → Prop, Hid (∀ a w, S w → (S w → wpAnyG P md ops Q S (fun _ => True) ops.size fuel (L.setIfInBounds i true) a w) → K a w) → oi.wp P a w K Q)
    (h2 : ∀ K : Act → World → Prop, Hid (∀ a w, S w → (S w → wpAnyG P md ops Q S (fun _ => True) ops.size fuel (L.setIfInBounds j true) a w) → K a w) → oj.wp P a w K Q) :
    wpAnyG P md ops Q S (fun _ => True) ops.size (fuel + 1) L a w := by
  have hr' : Region.ready md ops L = [i, j] := by simpa using hr
  refine ⟨fun h0 => (by rw [hr'] at h0; cases h0), fun k hk => ?_⟩
  rw [hr'] at hk
  simp only [List.mem_cons, List.not_mem_nil, or_false] at hk
  rcases hk with rfl | rfl
  · refine wpOp_step hi (fun K hK => ?_)
    rw [if_pos hwi]
    exact h1 K (fun a w h0 h3 => hK a w ⟨⟨h0, .inr trivial⟩, h3 h0⟩)
  · refine wpOp_step hj (fun K hK => ?_)
    rw [if_pos hwj]
    exact h2 K (fun a w h0 h3 => hK a w ⟨⟨h0, .inr trivial⟩, h3 h0⟩)
theorem wp_region_forks {id : Nat} {a : Act} {w : World} (S : World → Prop) (hm : P.follows .mixedOrders = true)
    (h : wpAnyG P .any ops Q S (fun _ => True) ops.size ops.size (Array.replicate ops.size false) a w.drew) : (Code.region id ops true).wp P Q a w :=
  wp_region_any hm (wpAny_of_g (S0 := S) (S1 := fun _ => True) (c := ops.size) _ _ _ _ h)
end
end Go.Proofs.Ytobbjhbjjhnicaa
