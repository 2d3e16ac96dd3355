/- A plan in which some loads read what a later store, c, changes: c waits for them. Kinds: 0 taken first under S; 1 taken first under S and S1 (c waits for it); 2 comes up alone. S holds throughout, S1 till c has come up. -/
import Derived.Test.YtobbjhbjjhnicaaPass
namespace Go.Proofs.Ytobbjhbjjhnicaa
open Go.RowKit
section
variable {P : Program} {ops : Array Oper} {Q : Exit → Act → World → Prop} {md : Region.Mode} {S S1 : World → Prop} {c : Nat}
def wpPlanC (P : Program) (ops : Array Oper) (Q : Exit → Act → World → Prop) (S S1 : World → Prop) (c : Nat) : Bool → List (Nat × Nat) → Act → World → Prop
  | _, [], a, w => Q .normal a w
  | d, (0, i) :: r, a, w => ∃ a1 : Act, (∃ t, dstOf ops i = some t ∧ t < a.tmps.size) ∧ (∀ w', S w' → stOp P ops w' i (fun x => x = a1) a) ∧ wpPlanC P ops Q S S1 c d r a1 w
  | d, (1, i) :: r, a, w => ∃ a1 : Act, (∃ t, dstOf ops i = some t ∧ t < a.tmps.size) ∧ (∀ w', S w' → S1 w' → stOp P ops w' i (fun x => x = a1) a) ∧ wpPlanC P ops Q S S1 c d r a1 w
  | d, (_ + 2, i) :: r, a, w => wpOp P ops Q i (fun a' w' => S w' ∧ ((d || i == c) = true ∨ S1 w') ∧ wpPlanC P ops Q S S1 c (d || i == c) r a' w') a w
def planC (md : Region.Mode) (ops : Array Oper) (c : Nat) : List (Nat × Nat) → Array Bool → Bool
  | [], L => (Region.ready md ops L).isEmpty
  | (0, i) :: r, L => Region.free md ops L i && (Region.ready md ops L).contains i && i != c && planC md ops c r (L.setIfInBounds i true)
  | (1, i) :: r, L => Region.free md ops L i && (Region.ready md ops L).contains i && i != c && waitsB md ops c i && !(L.getD c false) && planC md ops c r (L.setIfInBounds i true)
  | (_ + 2, i) :: r, L => (Region.ready md ops L == [i]) && planC md ops c r (L.setIfInBounds i true)
theorem planC_nil {d : Bool} {a : Act} {w : World} (h : Q .normal a w) : wpPlanC P ops Q S S1 c d [] a w := h
theorem planC_take {b : Bool} {a a1 : Act} {w : World} {i : Nat} {r : List (Nat × Nat)} {o : Oper} {d : Nat} (ho : ops[i]? = some o) (hw : Region.wanted o (yielded ops a.tmps) = true) (hd : o.dst = some d) (hlt : decide (d < a.tmps.size) = true)
    (h : ∀ w', S w' → ∀ K : Act → Prop, K a1 → o.still P a w' K) (h2 : wpPlanC P ops Q S S1 c b r a1 w) : wpPlanC P ops Q S S1 c b ((0, i) :: r) a w := by
  refine ⟨a1, ⟨d, by simp [dstOf, ho, hd], of_decide_eq_true hlt⟩, fun w' hw' => ?_, h2⟩
  unfold stOp
  simp only [ho]
  rw [if_pos hw]
  exact h w' hw' _ rfl
theorem planC_read {b : Bool} {a a1 : Act} {w : World} {i : Nat} {r : List (Nat × Nat)} {o : Oper} {d : Nat} (ho : ops[i]? = some o) (hw : Region.wanted o (yielded ops a.tmps) = true) (hd : o.dst = some d) (hlt : decide (d < a.tmps.size) = true)
    (h : ∀ w', S w' → S1 w' → ∀ K : Act → Prop, K a1 → o.still P a w' K) (h2 : wpPlanC P ops Q S S1 c b r a1 w) : wpPlanC P ops Q S S1 c b ((1, i) :: r) a w := by
  refine ⟨a1, ⟨d, by simp [dstOf, ho, hd], of_decide_eq_true hlt⟩, fun w' hw' hw1 => ?_, h2⟩
  unfold stOp
  simp only [ho]
  rw [if_pos hw]
  exact h w' hw' hw1 _ rfl
/-- Alone, before c. -/
theorem planC_force {a : Act} {w : World} {i : Nat} {r : List (Nat × Nat)} {o : Oper} (ho : ops[i]? = some o) (hw : Region.wanted o (yielded ops a.tmps) = true) (hic : (i == c) = false)
    (h : ∀ K : Act → World → Prop, Hid (∀ a w, S w → S1 w → wpPlanC P ops Q S S1 c false r a w → K a w) → o.wp P a w K Q) : wpPlanC P ops Q S S1 c false ((2, i) :: r) a w := by
  refine wpOp_step ho (fun K hK => ?_)
  rw [if_pos hw]
  refine h K (fun a w h0 h1 h2 => hK a w ⟨h0, .inr h1, ?_⟩)
  rw [hic]
  exact h2
/-- c itself. -/
theorem planC_turn {a : Act} {w : World} {r : List (Nat × Nat)} {o : Oper} (ho : ops[c]? = some o) (hw : Region.wanted o (yielded ops a.tmps) = true)
    (h : ∀ K : Act → World → Prop, Hid (∀ a w, S w → wpPlanC P ops Q S S1 c true r a w → K a w) → o.wp P a w K Q) : wpPlanC P ops Q S S1 c false ((2, c) :: r) a w := by
  refine wpOp_step ho (fun K hK => ?_)
  rw [if_pos hw]
  refine h K (fun a w h0 h2 => hK a w ⟨h0, .inl (by simp), ?_⟩)
  rw [beq_self_eq_true, Bool.or_true]
  exact h2
/-- Alone, behind c. -/
theorem planC_after {a : Act} {w : World} {i : Nat} {r : List (Nat × Nat)} {o : Oper} (ho : ops[i]? = some o) (hw : Region.wanted o (yielded ops a.tmps) = true)
    (h : ∀ K : Act → World → Prop, Hid (∀ a w, S w → wpPlanC P ops Q S S1 c true r a w → K a w) → o.wp P a w K Q) : wpPlanC P ops Q S S1 c true ((2, i) :: r) a w := by
  refine wpOp_step ho (fun K hK => ?_)
  rw [if_pos hw]
  exact h K (fun a w h0 h2 => hK a w ⟨h0, .inl (by simp), h2⟩)
theorem wpAnyG_planC (hs : Region.noSelect ops = true) (hQ : ∀ ch (a : Act) d v w, Q (.panic ch) (a.put d v) w → Q (.panic ch) a w) :
    ∀ (r : List (Nat × Nat)) (d : Bool) (L : Array Bool) (a : Act) (w : World), (d = true → L.getD c false = true) → (d = false → S1 w) → Closed md ops c L → planC md ops c r L = true → S w → wpPlanC P ops Q S S1 c d r a w → wpAnyG P md ops Q S S1 c r.length L a w
  | [], d, L, a, w, _, _, _, hok, _, h => ⟨by simpa [planC] using hok, h⟩
  | (0, i) :: r, d, L, a, w, hd, hd1, hcl, hok, hS, h => by
    simp only [planC, Bool.and_eq_true, bne_iff_ne] at hok
    obtain ⟨⟨⟨hf, hr⟩, hic⟩, hok'⟩ := hok
    obtain ⟨a1, ⟨t, ht, htn⟩, hy, h2⟩ := h
    cases ho : ops[i]? with
    | none => simp [dstOf, ho] at ht
    | some o =>
      have hod : o.dst = some t := by simpa [dstOf, ho] using ht
      have key : ∀ w', S w' → YieldsAt P ops w' o (a1.tmps.getD t undef) a ∧ a.put o.dst (a1.tmps.getD t undef) = a1 := by
        intro w' hw'
        obtain ⟨v, hy, h2⟩ := yieldsAt_of_stOp ho (hy w' hw')
        have h3 : a.put o.dst v = a1 := h2
        have hv : a1.tmps.getD t undef = v := by rw [← h3, hod]; simp [Act.put, htn]
        rw [hv]
        exact ⟨hy, h3⟩
      have hri : i ∈ Region.ready md ops L := by simpa using hr
      have hst : Stands S S1 c L w := ⟨hS, by cases d; exact .inr (hd1 rfl); exact .inl (hd rfl)⟩
      refine wpAnyG_first S ho hic (Region.noSelect_spec hs) (.inl fun _ h => h) (fun ch a w => hQ ch a _ _ w) r.length L a w (Region.free_spec ho hf) hri hcl (fun w' hw' => (key w' hw').1) hst ?_
      rw [(key w hS).2]
      exact wpAnyG_planC hs hQ r d _ a1 w (fun h => getD_set_true (hd h)) hd1 (closed_set hcl hri) hok' hS h2
  | (1, i) :: r, d, L, a, w, hd, hd1, hcl, hok, hS, h => by
    simp only [planC, Bool.and_eq_true, bne_iff_ne, Bool.not_eq_true'] at hok
    obtain ⟨⟨⟨⟨⟨hf, hr⟩, hic⟩, hwt⟩, hnc⟩, hok'⟩ := hok
    obtain ⟨a1, ⟨t, ht, htn⟩, hy, h2⟩ := h
    have hdf : d = false := by
      cases d
      · rfl
      · rw [hd rfl] at hnc; cases hnc
    cases ho : ops[i]? with
    | none => simp [dstOf, ho] at ht
    | some o =>
      have hod : o.dst = some t := by simpa [dstOf, ho] using ht
      have key : ∀ w', S w' ∧ S1 w' → YieldsAt P ops w' o (a1.tmps.getD t undef) a ∧ a.put o.dst (a1.tmps.getD t undef) = a1 := by
        intro w' hw'
        obtain ⟨v, hy, h2⟩ := yieldsAt_of_stOp ho (hy w' hw'.1 hw'.2)
        have h3 : a.put o.dst v = a1 := h2
        have hv : a1.tmps.getD t undef = v := by rw [← h3, hod]; simp [Act.put, htn]
        rw [hv]
        exact ⟨hy, h3⟩
      have hri : i ∈ Region.ready md ops L := by simpa using hr
      have hst : Stands S S1 c L w := ⟨hS, .inr (hd1 hdf)⟩
      have hw2 : ∃ oc, ops[c]? = some oc ∧ ∃ e ∈ oc.after, Region.binds md e = true ∧ e.on = i := by
        unfold waitsB at hwt
        cases hoc : ops[c]? with
        | none => rw [hoc] at hwt; simp at hwt
        | some oc =>
          rw [hoc] at hwt
          simp only [Array.any_eq_true, Bool.and_eq_true, beq_iff_eq] at hwt
          obtain ⟨k, hk, h1, h2⟩ := hwt
          exact ⟨oc, rfl, _, Array.getElem_mem hk, h1, h2⟩
      refine wpAnyG_first (fun w => S w ∧ S1 w) ho hic (Region.noSelect_spec hs) (.inr ⟨fun _ h h' => ⟨h, h'⟩, hw2⟩) (fun ch a w => hQ ch a _ _ w) r.length L a w (Region.free_spec ho hf) hri hcl (fun w' hw' => (key w' hw').1) hst ?_
      rw [(key w ⟨hS, hd1 hdf⟩).2]
      exact wpAnyG_planC hs hQ r d _ a1 w (fun h => getD_set_true (hd h)) hd1 (closed_set hcl hri) hok' hS h2
  | (n + 2, i) :: r, d, L, a, w, hd, hd1, hcl, hok, hS, h => by
    simp only [planC, Bool.and_eq_true, beq_iff_eq] at hok
    obtain ⟨hr, hok'⟩ := hok
    refine ⟨fun h0 => (by rw [hr] at h0; cases h0), fun j hj => ?_⟩
    have hj' := hj
    rw [hr] at hj
    obtain rfl : j = i := by simpa using hj
    have hlist : (d || j == c) = true → (L.setIfInBounds j true).getD c false = true := by
      intro h
      rcases Bool.or_eq_true_iff.1 h with h | h
      · exact getD_set_true (hd h)
      · have hjc : j = c := by simpa using h
        subst hjc
        have h0 := (mem_ready.1 hj').1
        rcases Nat.lt_or_ge j L.size with h' | h'
        · simp [h']
        · simp [Array.getElem?_eq_none h'] at h0
    refine wpOp_mono (fun a' w' h' => ?_) h
    obtain ⟨h1, h2, h3⟩ := h'
    refine ⟨⟨h1, ?_⟩, wpAnyG_planC hs hQ r (d || j == c) _ a' w' hlist ?_ (closed_set hcl hj') hok' h1 h3⟩
    · rcases h2 with h2 | h2
      · exact .inl (hlist h2)
      · exact .inr h2
    · intro hf
      rcases h2 with h2 | h2
      · rw [hf] at h2; cases h2
      · exact h2
theorem wp_region_planC {id : Nat} {a : Act} {w : World} (S S1 : World → Prop) (c : Nat) (r : List (Nat × Nat)) (hm : P.follows .mixedOrders = true)
    (hok : (planC .any ops c r (Array.replicate ops.size false) && Region.noSelect ops && decide (r.length = ops.size) && decide (c < ops.size)) = true)
    (hQ : ∀ ch (a : Act) d v w, Q (.panic ch) (a.put d v) w → Q (.panic ch) a w) (h0 : S w.drew) (h1 : S1 w.drew) (h : wpPlanC P ops Q S S1 c false r a w.drew) : (Code.region id ops true).wp P Q a w := by
  simp only [Bool.and_eq_true, decide_eq_true_eq] at hok
  obtain ⟨⟨⟨o1, hs⟩, hl⟩, hc⟩ := hok
  refine wp_region_any hm (wpAny_of_g (S0 := S) (S1 := S1) (c := c) _ _ _ _ ?_)
  have hcl : Closed .any ops c (Array.replicate ops.size false) := by
    intro h
    simp [hc] at h
  have := wpAnyG_planC hs hQ r false _ a w.drew (fun h => by cases h) (fun _ => h1) hcl o1 h0 h
  rw [hl] at this
  exact this
end
end Go.Proofs.Ytobbjhbjjhnicaa
