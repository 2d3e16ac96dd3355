/- Regions that draw their order: what is known of the worlds may grow on the way. -/
import Derived.Test.YtobbjhbjjhnicaaFork
namespace Go.Proofs.Ytobbjhbjjhnicaa
open Go.RowKit
section
variable {P : Program} {ops : Array Oper} {Q : Exit → Act → World → Prop} {md : Region.Mode}
theorem wpAnyG_stronger {S S' S1 : World → Prop} {c : Nat} (h : ∀ w, S' w → S w) : ∀ (fuel : Nat) (L : Array Bool) (a : Act) (w : World), wpAnyG P md ops Q S' S1 c fuel L a w → wpAnyG P md ops Q S S1 c fuel L a w
  | 0, _, _, _, hh => hh
  | fuel + 1, _, _, _, hh => ⟨hh.1, fun i hi => wpOp_mono (fun a' w' h' => ⟨⟨h _ h'.1.1, h'.1.2⟩, wpAnyG_stronger h fuel _ a' w' h'.2⟩) (hh.2 i hi)⟩
/-- The first part of a plan under S; then the rest under a stronger S', which is chosen where the first part has ended. -/
theorem wp_region_two {id : Nat} {a : Act} {w : World} (S : World → Prop) (r1 r2 : List (Bool × Nat)) (hm : P.follows .mixedOrders = true)
    (hok : (planP .any ops r1 (Array.replicate ops.size false) && planB .any ops r2 (setAll r1 (Array.replicate ops.size false)) && Region.noSelect ops && decide (r2.length + r1.length = ops.size)) = true)
    (hQ : ∀ ch (a : Act) d v w, Q (.panic ch) (a.put d v) w → Q (.panic ch) a w) (h0 : S w.drew)
    (h : wpPlanK P ops Q S (fun a w => ∃ S' : World → Prop, (∀ w, S' w → S w) ∧ S' w ∧ wpPlan P ops Q S' r2 a w) r1 a w.drew) : (Code.region id ops true).wp P Q a w := by
  simp only [Bool.and_eq_true, decide_eq_true_eq] at hok
  obtain ⟨⟨⟨o1, o2⟩, hs⟩, hl⟩ := hok
  refine wp_region_forks S hm ?_
  suffices hh : wpPlanK P ops Q S (wpAnyG P .any ops Q S (fun _ => True) ops.size r2.length (setAll r1 (Array.replicate ops.size false))) r1 a w.drew by
    have := wpAnyG_prefix hs hQ r2.length r1 _ a w.drew (by simp) o1 h0 hh
    rw [hl] at this
    exact this
  have mono : ∀ (r : List (Bool × Nat)) (K K' : Act → World → Prop) (a : Act) (w : World), (∀ a w, K a w → K' a w) → wpPlanK P ops Q S K r a w → wpPlanK P ops Q S K' r a w := by
    intro r
    induction r with
    | nil => intro K K' a w hk h hS; exact hk _ _ (h hS)
    | cons x r ih =>
      obtain ⟨b, i⟩ := x
      intro K K' a w hk h
      cases b with
      | false =>
        obtain ⟨a1, h1, h2, h3⟩ := h
        exact ⟨a1, h1, h2, ih K K' a1 w hk h3⟩
      | true => exact wpOp_mono (fun a' w' h' => ⟨h'.1, ih K K' a' w' hk h'.2⟩) h
  refine mono r1 _ _ a w.drew ?_ h
  rintro a' w' ⟨S', h1, h2, h3⟩
  refine wpAnyG_stronger h1 _ _ _ _ ?_
  exact wpAnyG_plan hs hQ r2 _ a' w' (by rw [setAll_size]; simp) o2 h2 h3
/-- A plan in parts: behind each part what is known of the worlds may grow. -/
def wpPlans (P : Program) (ops : Array Oper) (Q : Exit → Act → World → Prop) : List (List (Bool × Nat)) → (World → Prop) → Act → World → Prop
  | [], _, a, w => Q .normal a w
  | r :: rs, S, a, w => wpPlanK P ops Q S (fun a w => ∃ S' : World → Prop, (∀ w, S' w → S w) ∧ S' w ∧ wpPlans P ops Q rs S' a w) r a w
def plansB (md : Region.Mode) (ops : Array Oper) : List (List (Bool × Nat)) → Array Bool → Bool
  | [], L => (Region.ready md ops L).isEmpty
  | r :: rs, L => planP md ops r L && plansB md ops rs (setAll r L)
def plansLen : List (List (Bool × Nat)) → Nat
  | [] => 0
  | r :: rs => plansLen rs + r.length
theorem plans_nil {S : World → Prop} {a : Act} {w : World} (h : Q .normal a w) : wpPlans P ops Q [] S a w := h
theorem plans_cons {S : World → Prop} {r : List (Bool × Nat)} {rs : List (List (Bool × Nat))} {a : Act} {w : World} (h : wpPlanK P ops Q S (fun a w => ∃ S' : World → Prop, (∀ w, S' w → S w) ∧ S' w ∧ wpPlans P ops Q rs S' a w) r a w) : wpPlans P ops Q (r :: rs) S a w := h
theorem planK_mono {S : World → Prop} : ∀ (r : List (Bool × Nat)) (K K' : Act → World → Prop) (a : Act) (w : World), (∀ a w, K a w → K' a w) → wpPlanK P ops Q S K r a w → wpPlanK P ops Q S K' r a w := by
  intro r
  induction r with
  | nil => intro K K' a w hk h hS; exact hk _ _ (h hS)
  | cons x r ih =>
    obtain ⟨b, i⟩ := x
    intro K K' a w hk h
    cases b with
    | false =>
      obtain ⟨a1, h1, h2, h3⟩ := h
      exact ⟨a1, h1, h2, ih K K' a1 w hk h3⟩
    | true => exact wpOp_mono (fun a' w' h' => ⟨h'.1, ih K K' a' w' hk h'.2⟩) h
theorem wpAnyG_plans (hs : Region.noSelect ops = true) (hQ : ∀ ch (a : Act) d v w, Q (.panic ch) (a.put d v) w → Q (.panic ch) a w) : ∀ (rs : List (List (Bool × Nat))) (S : World → Prop) (L : Array Bool) (a : Act) (w : World), L.size = ops.size → plansB md ops rs L = true → S w →
    wpPlans P ops Q rs S a w → wpAnyG P md ops Q S (fun _ => True) ops.size (plansLen rs) L a w
  | [], S, L, a, w, _, hok, _, h => ⟨by simpa [plansB] using hok, h⟩
  | r :: rs, S, L, a, w, hL, hok, hS, h => by
    simp only [plansB, Bool.and_eq_true] at hok
    refine wpAnyG_prefix hs hQ (plansLen rs) r L a w hL hok.1 hS (planK_mono r _ _ a w ?_ h)
    rintro a' w' ⟨S', h1, h2, h3⟩
    exact wpAnyG_stronger h1 _ _ _ _ (wpAnyG_plans hs hQ rs S' _ a' w' (by rw [setAll_size]; exact hL) hok.2 h2 h3)
theorem wp_region_plans {id : Nat} {a : Act} {w : World} (S : World → Prop) (rs : List (List (Bool × Nat))) (hm : P.follows .mixedOrders = true)
    (hok : (plansB .any ops rs (Array.replicate ops.size false) && Region.noSelect ops && decide (plansLen rs = ops.size)) = true)
    (hQ : ∀ ch (a : Act) d v w, Q (.panic ch) (a.put d v) w → Q (.panic ch) a w) (h0 : S w.drew)
    (h : wpPlans P ops Q rs S a w.drew) : (Code.region id ops true).wp P Q a w := by
  simp only [Bool.and_eq_true, decide_eq_true_eq] at hok
  obtain ⟨⟨o1, hs⟩, hl⟩ := hok
  refine wp_region_forks S hm ?_
  have := wpAnyG_plans hs hQ rs S _ a w.drew (by simp) o1 h0 h
  rw [hl] at this
  exact this
end
end Go.Proofs.Ytobbjhbjjhnicaa
