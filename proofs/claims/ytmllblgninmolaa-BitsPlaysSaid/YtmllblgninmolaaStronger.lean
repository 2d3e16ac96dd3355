/- Regions that draw their order: what is known of the worlds may grow on the way. -/
import Derived.Test.YtmllblgninmolaaFork
namespace Go.Proofs.Ytmllblgninmolaa
open Go.RowKit
section
variable {P : Program} {ops : Array Oper} {Q : Exit → Act → World → Prop} {md : Region.Mode}
theorem wpAnyG_stronger {S S' S1 : World → Prop} {c : Nat} (h : ∀ w, S' w → S w) : ∀ (fuel : Nat) (L : Array Bool) (a : Act) (w : World), wpAnyG P md ops Q S' S1 c fuel L a w → wpAnyG P md ops Q S S1 c fuel L a w
  | 0, _, _, _, hh => hh
  | fuel + 1, _, _, _, hh => ⟨hh.1, fun i hi => wpOp_mono (fun a' w' h' => ⟨⟨h _ h'.1.1, h'.1.2⟩, wpAnyG_stronger h fuel _ a' w' h'.2⟩) (hh.2 i hi)⟩
/-- The first part of a plan under S; then the rest under a stronger S', which is chosen where the first part has ended. -/
theorem wp_region_two {id : Nat} {a : Act} {w : World} (S : World → Prop) (r1 r2 : List (Bool × Nat)) (hm : P.follows .mixedOrders = true)
    (hok : (planP .any ops r1 (Array.replicate ops.size false) && planB .any ops r2 (setAll r1 (Array.replicate ops.size false)) && Region.noSelect ops && decide (r2.length + r1.length = ops.size)) = true)
    (hQ : ∀ ch (a : Act) d v w, Q (.panic ch) (a.put d v) w → Q (.panic ch) a w) (h0 : S w.drew)
    (h : wpPlanK P ops Q S (fun a w => ∃ S' : World → Prop, (∀ w, S' w → S w) ∧ S' w ∧ wpPlan P ops Q S' r2 a w) r1 a w.drew) : (Code.region id ops true).wp P Q a w := by
  simp only [Bool.and_eq_true, decide_eq_true_eq] at hok
  obtain ⟨⟨⟨o1, o2⟩, hs⟩, hl⟩ := hok
  refine wp_region_forks S hm ?_
  suffices hh : wpPlanK P ops Q S (wpAnyG P .any ops Q S (fun _ => True) ops.size r2.length (setAll r1 (Array.replicate ops.size false))) r1 a w.drew by
    have := wpAnyG_prefix hs hQ r2.length r1 _ a w.drew (by simp) o1 h0 hh
    rw [hl] at this
    exact this
  have mono : ∀ (r : List (Bool × Nat)) (K K' : Act → World → Prop) (a : Act) (w : World), (∀ a w, K a w → K' a w) → wpPlanK P ops Q S K r a w → wpPlanK P ops Q S K' r a w := by
    intro r
    induction r with
    | nil => intro K K' a w hk h hS; exact hk _ _ (h hS)
    | cons x r ih =>
      obtain ⟨b, i⟩ := x
      intro K K' a w hk h
      cases b with
      | false =>
        obtain ⟨a1, h1, h2, h3⟩ := h
        exact ⟨a1, h1, h2, ih K K' a1 w hk h3⟩
      | true => exact wpOp_mono (fun a' w' h' => ⟨h'.1, ih K K' a' w' hk h'.2⟩) h
  refine mono r1 _ _ a w.drew ?_ h
  rintro a' w' ⟨S', h1, h2, h3⟩
  refine wpAnyG_stronger h1 _ _ _ _ ?_
  exact wpAnyG_plan hs hQ r2 _ a' w' (by rw [setAll_size]; simp) o2 h2 h3
end
end Go.Proofs.Ytmllblgninmolaa
