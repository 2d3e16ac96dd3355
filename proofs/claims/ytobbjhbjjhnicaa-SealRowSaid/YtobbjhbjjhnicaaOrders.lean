/- Regions that draw their order: loads taken first although a store that ends the region changes what they read, because that store waits for them. -/
import Derived.WalkKit
import Derived.Still
import Derived.StillTactics
import Derived.Deep.RegionHeld3
namespace Go.Proofs.Ytobbjhbjjhnicaa
open Go.RowKit
section
variable {P : Program} {ops : Array Oper} {Q : Exit → Act → World → Prop} {md : Region.Mode} {S0 S1 : World → Prop} {c : Nat}

/-- In state a operation o leaves v in its temporary and does nothing else, in every world that meets S (a call that leaves the world alone is let in). -/
def YieldsS (P : Program) (ops : Array Oper) (S : World → Prop) (o : Oper) (v : Value) (a : Act) : Prop := ∀ w, S w → YieldsAt P ops w o v a

theorem yieldsS_wpOp {S : World → Prop} {i : Nat} {o : Oper} {v : Value} {a : Act} (hi : ops[i]? = some o) (hy : YieldsS P ops S o v a)
    {K : Act → World → Prop} {w : World} (hS : S w) (h : K (a.put o.dst v) w) : wpOp P ops Q i K a w := by
  have := (hy w hS).stOp hi (K := fun x => K x w) h
  exact wpOp_of_stOp (K := fun x => K x w) (fun _ h => h) this

theorem yieldsS_of_same {S : World → Prop} {o : Oper} {v : Value} {a a' : Act} (hy : YieldsS P ops S o v a) (he : execOp a'.eval o = execOp a.eval o)
    (hw : Region.wanted o (yielded ops a'.tmps) = Region.wanted o (yielded ops a.tmps)) : YieldsS P ops S o v a' := fun w hS => (hy w hS).of_same he hw

theorem wpOp_putS {S : World → Prop} {j : Nat} {oi oj : Oper} {v : Value} (hj : ops[j]? = some oj) (hap : oi.apart ops oj = true)
    (hsi : ∀ cs b, oi.op ≠ .select cs b) (hsj : ∀ cs b, oj.op ≠ .select cs b)
    (hQ : ∀ c a w, Q (.panic c) (a.put oi.dst v) w → Q (.panic c) a w) {K : Act → World → Prop} {a : Act} {w : World}
    (hy : YieldsS P ops S oi v a) (h : wpOp P ops Q j K (a.put oi.dst v) w) :
    wpOp P ops Q j (fun a' w' => YieldsS P ops S oi v a' ∧ K (a'.put oi.dst v) w') a w := by
  obtain ⟨h1, h2, h3⟩ := Oper.apart_spec hap
  have keep : ∀ (a : Act), YieldsS P ops S oi v a → ∀ u, YieldsS P ops S oi v (a.put oj.dst u) := fun a hy u =>
    yieldsS_of_same hy (execOp_put oi hsi a oj.dst u h3) (wanted_put oi a oj.dst u h3)
  have keepD : ∀ d, YieldsS P ops S oi v { a with defers := d :: a.defers } := fun d => yieldsS_of_same hy rfl rfl
  unfold wpOp at *
  simp only [hj] at *
  rw [wanted_put oj a oi.dst v h1] at h
  split
  · rename_i hw
    simp only [hw, if_true] at h
    rcases h with h | ⟨hasks, hlets⟩
    case inr => exact .inr ⟨by unfold Oper.asks at *; rw [execOp_put oj hsj a oi.dst v h1] at hasks; exact hasks, hlets⟩
    refine .inl ?_
    unfold Oper.wp at *
    rw [execOp_put oj hsj a oi.dst v h1] at h
    generalize (execOp a.eval oj).run P w = r at *
    cases r with
    | ok n w' =>
      cases n <;> simp only [Oper.upon] at h ⊢
      case value u => exact ⟨keep a hy u, by rw [← Act.put_comm a v u h2]; exact h⟩
      case skip => exact ⟨keep a hy _, by rw [← Act.put_comm a v undef h2]; exact h⟩
      case defer d =>
        refine ⟨keep _ (keepD d) _, ?_⟩
        rw [← Act.put_comm _ v undef h2, ← Act.put_defers]
        exact h
      case enter f args =>
        refine Calls.mono h fun e w'' he => ?_
        cases e with
        | returned u => exact ⟨keep a hy u, by rw [← Act.put_comm a v u h2]; exact he⟩
        | panicked c => exact hQ _ _ _ he
        | outgrown => exact he
      case row row args => exact Rows.mono h fun u w'' he => ⟨keep a hy u, by rw [← Act.put_comm a v u h2]; exact he⟩
    | halt x w' =>
      cases x <;> simp only [Oper.upon] at h ⊢
      case panic u => exact hQ _ _ _ h
  · rename_i hw
    simp only [hw] at h
    exact ⟨keep a hy _, by rw [← Act.put_comm a v undef h2]; exact h⟩

/-- S0 holds throughout, S1 till operation c has come up. -/
def Stands (S0 S1 : World → Prop) (c : Nat) (listed : Array Bool) (w : World) : Prop := S0 w ∧ (listed.getD c false = true ∨ S1 w)
/-- Where c has come up, all that it waits for has. -/
def Closed (md : Region.Mode) (ops : Array Oper) (c : Nat) (listed : Array Bool) : Prop :=
  listed.getD c false = true → ∀ oc, ops[c]? = some oc → ∀ e ∈ oc.after, Region.binds md e = true → listed.getD e.on false = true

def wpAnyG (P : Program) (md : Region.Mode) (ops : Array Oper) (Q : Exit → Act → World → Prop) (S0 S1 : World → Prop) (c : Nat) : Nat → Array Bool → Act → World → Prop
  | 0, listed, a, w => Region.ready md ops listed = [] ∧ Q .normal a w
  | fuel + 1, listed, a, w =>
    (Region.ready md ops listed = [] → Q .normal a w) ∧
    ∀ i ∈ Region.ready md ops listed, wpOp P ops Q i (fun a' w' => Stands S0 S1 c (listed.setIfInBounds i true) w' ∧ wpAnyG P md ops Q S0 S1 c fuel (listed.setIfInBounds i true) a' w') a w

theorem wpAny_of_g : ∀ (fuel : Nat) (listed : Array Bool) (a : Act) (w : World), wpAnyG P md ops Q S0 S1 c fuel listed a w → wpAny P md ops Q fuel listed a w
  | 0, _, _, _, h => h
  | fuel + 1, _, _, _, h => ⟨h.1, fun i hi => wpOp_mono (fun a' w' h' => wpAny_of_g fuel _ a' w' h'.2) (h.2 i hi)⟩

theorem closed_set {j : Nat} {listed : Array Bool} (h : Closed md ops c listed) (hj : j ∈ Region.ready md ops listed) : Closed md ops c (listed.setIfInBounds j true) := by
  intro hc oc hoc e he hb
  by_cases hjc : j = c
  · subst hjc
    obtain ⟨_, o, ho, hall⟩ := mem_ready.1 hj
    rw [hoc] at ho
    injection ho with ho
    subst ho
    exact getD_set_true (hall e he hb)
  · rw [getD_set_ne false hjc] at hc
    exact getD_set_true (h hc oc hoc e he hb)

/-- An operation that may come up now may be taken first: it yields under S0 alone; or under S0 and S1 if c waits for it. -/
theorem wpAnyG_first {i : Nat} {oi : Oper} {v : Value} (S : World → Prop) (hi : ops[i]? = some oi) (hic : i ≠ c) (hsel : ∀ (j : Nat) (o : Oper) cs b, ops[j]? = some o → o.op ≠ .select cs b)
    (hS : (∀ w, S0 w → S w) ∨ ((∀ w, S0 w → S1 w → S w) ∧ ∃ oc, ops[c]? = some oc ∧ ∃ e ∈ oc.after, Region.binds md e = true ∧ e.on = i))
    (hQ : ∀ c a w, Q (.panic c) (a.put oi.dst v) w → Q (.panic c) a w) :
    ∀ (fuel : Nat) (listed : Array Bool) (a : Act) (w : World),
      (∀ j oj, ops[j]? = some oj → j ≠ i → listed.getD j true = false → (∀ e ∈ oj.after, Region.binds md e = true → e.on ≠ i) → oi.apart ops oj = true) →
      i ∈ Region.ready md ops listed → Closed md ops c listed → YieldsS P ops S oi v a → Stands S0 S1 c listed w →
      wpAnyG P md ops Q S0 S1 c fuel (listed.setIfInBounds i true) (a.put oi.dst v) w → wpAnyG P md ops Q S0 S1 c (fuel + 1) listed a w := by
  have up : ∀ (listed : Array Bool) (w : World), i ∈ Region.ready md ops listed → Closed md ops c listed → Stands S0 S1 c listed w → S w := by
    intro listed w hr hcl hst
    rcases hS with h | ⟨h, oc, hoc, e, he, hb, heq⟩
    · exact h w hst.1
    · rcases hst.2 with hc | h1
      · have h2 := hcl hc oc hoc e he hb
        have h0 := (mem_ready.1 hr).1
        rw [heq] at h2
        rcases Nat.lt_or_ge i listed.size with h' | h'
        · simp [h'] at h0 h2; rw [h0] at h2; cases h2
        · simp [Array.getElem?_eq_none h'] at h2
      · exact h w hst.1 h1
  have down : ∀ (listed : Array Bool) (w : World), Stands S0 S1 c (listed.setIfInBounds i true) w → Stands S0 S1 c listed w := by
    intro listed w h
    refine ⟨h.1, ?_⟩
    rw [← getD_set_ne false hic]
    exact h.2
  intro fuel
  induction fuel with
  | zero =>
    intro listed a w _ hr hcl hy hst H
    refine ⟨fun h => (by rw [h] at hr; cases hr), fun j hj => ?_⟩
    by_cases hji : j = i
    · subst hji
      refine yieldsS_wpOp hi hy (up _ _ hr hcl hst) ⟨⟨hst.1, ?_⟩, H⟩
      rw [getD_set_ne false hic]; exact hst.2
    · have := ready_mono hj hji
      rw [H.1] at this
      cases this
  | succ fuel ih =>
    intro listed a w hfree hr hcl hy hst H
    refine ⟨fun h => (by rw [h] at hr; cases hr), fun j hj => ?_⟩
    by_cases hji : j = i
    · subst hji
      refine yieldsS_wpOp hi hy (up _ _ hr hcl hst) ⟨⟨hst.1, ?_⟩, H⟩
      rw [getD_set_ne false hic]; exact hst.2
    · have h1 := H.2 j (ready_mono hj hji)
      obtain ⟨hjun, oj, hoj, hall⟩ := mem_ready.1 hj
      have hnot : ∀ e ∈ oj.after, Region.binds md e = true → e.on ≠ i := fun e he hb heq => by
        have h1 := hall e he hb
        have h0 := (mem_ready.1 hr).1
        rw [heq] at h1
        rcases Nat.lt_or_ge i listed.size with h' | h'
        · simp [h'] at h0 h1; rw [h0] at h1; cases h1
        · simp [Array.getElem?_eq_none h'] at h1
      have h2 := wpOp_putS hoj (hfree j oj hoj hji hjun hnot) (fun cs b => hsel i oi cs b hi) (fun cs b => hsel j oj cs b hoj) hQ hy h1
      have hfree' : ∀ k ok, ops[k]? = some ok → k ≠ i → (listed.setIfInBounds j true).getD k true = false →
          (∀ e ∈ ok.after, Region.binds md e = true → e.on ≠ i) → oi.apart ops ok = true := fun k ok hk hki hun hno => by
        refine hfree k ok hk hki ?_ hno
        by_cases hjk : j = k
        · subst hjk; exact hjun
        · rw [getD_set_ne true hjk] at hun; exact hun
      refine wpOp_mono (fun a' w' h3 => ?_) h2
      have hd : Stands S0 S1 c (listed.setIfInBounds j true) w' := by
        have := h3.2.1
        rw [Array.setIfInBounds_comm _ _ (Ne.symm hji)] at this
        exact down _ _ this
      refine ⟨hd, ih (listed.setIfInBounds j true) a' w' hfree' (ready_mono hr (Ne.symm hji)) (closed_set hcl hj) h3.1 hd ?_⟩
      rw [Array.setIfInBounds_comm _ _ hji]
      exact h3.2.2

/-- The operations of these numbers, one after another, each leaving the world as it is. -/
def wpStillI (P : Program) (ops : Array Oper) (w : World) (Q : Act → Prop) : List Nat → Act → Prop
  | [], a => Q a
  | i :: is, a => stOp P ops w i (wpStillI P ops w Q is) a
theorem stillI_nil {w : World} {R : Act → Prop} {a : Act} (h : R a) : wpStillI P ops w R [] a := h
theorem stillI_step {w : World} {R : Act → Prop} {a : Act} {i : Nat} {is : List Nat} {o : Oper} (ho : ops[i]? = some o) (hg : o.guard = none)
    (h : ∀ K : Act → Prop, (∀ a, wpStillI P ops w R is a → K a) → o.still P a w K) : wpStillI P ops w R (i :: is) a := by
  have := h _ (fun _ h => h)
  unfold wpStillI stOp
  simp only [ho]
  have hw : Region.wanted o (yielded ops a.tmps) = true := by simp [Region.wanted, hg]
  rw [if_pos hw]
  exact this

def waitsB (md : Region.Mode) (ops : Array Oper) (c i : Nat) : Bool :=
  match ops[c]? with
  | some oc => oc.after.any fun e => Region.binds md e && e.on == i
  | none => false
def dstOf (ops : Array Oper) (i : Nat) : Option Nat := (ops[i]?).bind (·.dst)
def takesOk (md : Region.Mode) (ops : Array Oper) (c n : Nat) (b : Bool) : List Nat → Array Bool → Bool
  | [], _ => true
  | i :: is, L => i != c && (match dstOf ops i with | some d => decide (d < n) && is.all (fun j => dstOf ops j != some d) | none => false) &&
      Region.free md ops L i && (Region.ready md ops L).contains i && (!b || waitsB md ops c i) && takesOk md ops c n b is (L.setIfInBounds i true)
def listAll (is : List Nat) (L : Array Bool) : Array Bool := is.foldl (fun L i => L.setIfInBounds i true) L
theorem put_size (a : Act) (d : Option Nat) (v : Value) : (a.put d v).tmps.size = a.tmps.size := by
  cases d <;> simp [Act.put]
theorem still_keeps {w : World} {a' : Act} {d : Nat} : ∀ (is : List Nat) (a : Act), wpStillI P ops w (fun x => x = a') is a → (∀ j ∈ is, dstOf ops j ≠ some d) →
    a'.tmps.getD d undef = a.tmps.getD d undef
  | [], a, h, _ => by rw [show a = a' from h]
  | i :: is, a, h, hd => by
    have hi := hd i (List.mem_cons_self ..)
    cases ho : ops[i]? with
    | none =>
      unfold wpStillI stOp at h
      simp only [ho] at h
      exact still_keeps is a h (fun j hj => hd j (List.mem_cons_of_mem _ hj))
    | some o =>
      obtain ⟨v, _, h2⟩ := yieldsAt_of_stOp ho h
      rw [still_keeps is _ h2 (fun j hj => hd j (List.mem_cons_of_mem _ hj))]
      have hne : o.dst ≠ some d := by simpa [dstOf, ho] using hi
      cases hdst : o.dst with
      | none => simp [Act.put]
      | some d' =>
        have : d' ≠ d := fun e => hne (by rw [hdst, e])
        simp [Act.put, Array.getElem?_setIfInBounds_ne this]

theorem wpAnyG_takes (b : Bool) (S : World → Prop) (hS : ∀ w, S0 w → (b = true → S1 w) → S w) (hs : Region.noSelect ops = true)
    (hQ : ∀ ch (a : Act) d v w, Q (.panic ch) (a.put d v) w → Q (.panic ch) a w) (n : Nat) {a' : Act} {w : World} {fuel : Nat} (hSw : S w) :
    ∀ (is : List Nat) (L : Array Bool) (a : Act), takesOk md ops c n b is L = true → a.tmps.size = n → (∀ w', S w' → wpStillI P ops w' (fun x => x = a') is a) →
      Closed md ops c L → Stands S0 S1 c L w → (Closed md ops c (listAll is L) → Stands S0 S1 c (listAll is L) w → wpAnyG P md ops Q S0 S1 c fuel (listAll is L) a' w) →
      wpAnyG P md ops Q S0 S1 c (fuel + is.length) L a w
  | [], L, a, _, _, hst, hcl, hsd, H => by
    have : a = a' := hst w hSw
    subst this
    exact H hcl hsd
  | i :: is, L, a, hok, hn, hst, hcl, hsd, H => by
    simp only [takesOk, Bool.and_eq_true, bne_iff_ne] at hok
    obtain ⟨⟨⟨⟨⟨hic, hd⟩, hf⟩, hr⟩, hwt⟩, hok'⟩ := hok
    cases hdst : dstOf ops i with
    | none => rw [hdst] at hd; simp at hd
    | some d =>
      rw [hdst] at hd
      simp only [Bool.and_eq_true, decide_eq_true_eq, List.all_eq_true, bne_iff_ne] at hd
      obtain ⟨hdn, hdis⟩ := hd
      cases ho : ops[i]? with
      | none => simp [dstOf, ho] at hdst
      | some o =>
        have hod : o.dst = some d := by simpa [dstOf, ho] using hdst
        have key : ∀ w', S w' → YieldsAt P ops w' o (a'.tmps.getD d undef) a ∧ wpStillI P ops w' (fun x => x = a') is (a.put o.dst (a'.tmps.getD d undef)) := by
          intro w' hw'
          obtain ⟨v, hy, h2⟩ := yieldsAt_of_stOp ho (hst w' hw')
          have hk := still_keeps is _ h2 hdis
          have hv : (a.put o.dst v).tmps.getD d undef = v := by
            rw [hod]; simp [Act.put, hn, hdn]
          rw [hv] at hk
          rw [hk]
          exact ⟨hy, h2⟩
        have hri : i ∈ Region.ready md ops L := by simpa using hr
        have hsd' : Stands S0 S1 c (L.setIfInBounds i true) w := ⟨hsd.1, by rw [getD_set_ne false hic]; exact hsd.2⟩
        refine wpAnyG_first S ho hic (Region.noSelect_spec hs) ?_ (fun ch a w => hQ ch a _ _ w) (fuel + is.length) L a w (Region.free_spec ho hf) hri hcl (fun w' hw' => (key w' hw').1) hsd ?_
        · cases b with
          | false => exact .inl fun w h0 => hS w h0 (fun h => by cases h)
          | true =>
            refine .inr ⟨fun w h0 h1 => hS w h0 (fun _ => h1), ?_⟩
            simp only [Bool.not_true, Bool.false_or, waitsB] at hwt
            cases hoc : ops[c]? with
            | none => rw [hoc] at hwt; simp at hwt
            | some oc =>
              rw [hoc] at hwt
              simp only [Array.any_eq_true, Bool.and_eq_true, beq_iff_eq] at hwt
              obtain ⟨k, hk, h1, h2⟩ := hwt
              exact ⟨oc, rfl, _, Array.getElem_mem hk, h1, h2⟩
        · exact wpAnyG_takes b S hS hs hQ n hSw is _ _ hok' (by rw [put_size]; exact hn) (fun w' hw' => (key w' hw').2) (closed_set hcl hri) hsd' H

/-- The operations of these numbers, one after another, each the only one that may come up; S0 holds behind each. -/
def wpTail (P : Program) (ops : Array Oper) (Q : Exit → Act → World → Prop) (S0 : World → Prop) : List Nat → Act → World → Prop
  | [], a, w => Q .normal a w
  | i :: is, a, w => wpOp P ops Q i (fun a' w' => S0 w' ∧ wpTail P ops Q S0 is a' w') a w
theorem tail_nil {a : Act} {w : World} (h : Q .normal a w) : wpTail P ops Q S0 [] a w := h
theorem tail_step {a : Act} {w : World} {i : Nat} {is : List Nat} {o : Oper} (ho : ops[i]? = some o) (hg : o.guard = none)
    (h : ∀ K : Act → World → Prop, Hid (∀ a w, S0 w → wpTail P ops Q S0 is a w → K a w) → o.wp P a w K Q) : wpTail P ops Q S0 (i :: is) a w := by
  refine wpOp_step ho (fun K hK => ?_)
  have hw : Region.wanted o (yielded ops a.tmps) = true := by simp [Region.wanted, hg]
  rw [if_pos hw]
  exact h K (fun a w h0 h1 => hK a w ⟨h0, h1⟩)
def tailOk (md : Region.Mode) (ops : Array Oper) (c : Nat) : List Nat → Array Bool → Bool
  | [], L => (Region.ready md ops L).isEmpty
  | i :: is, L => (Region.ready md ops L == [i]) && (i == c || L.getD c false) && tailOk md ops c is (L.setIfInBounds i true)
theorem wpAnyG_tail : ∀ (is : List Nat) (L : Array Bool) (a : Act) (w : World), tailOk md ops c is L = true → wpTail P ops Q S0 is a w → wpAnyG P md ops Q S0 S1 c is.length L a w
  | [], L, a, w, hok, h => ⟨by simpa [tailOk] using hok, h⟩
  | i :: is, L, a, w, hok, h => by
    simp only [tailOk, Bool.and_eq_true, beq_iff_eq, Bool.or_eq_true] at hok
    obtain ⟨⟨hr, hc⟩, hok'⟩ := hok
    refine ⟨fun h0 => (by rw [hr] at h0; cases h0), fun j hj => ?_⟩
    have hj' := hj
    rw [hr] at hj
    obtain rfl : j = i := by simpa using hj
    refine wpOp_mono (fun a' w' h' => ⟨⟨h'.1, .inl ?_⟩, wpAnyG_tail is _ a' w' hok' h'.2⟩) h
    rcases hc with rfl | hc
    · have h0 := (mem_ready.1 hj').1
      rcases Nat.lt_or_ge j L.size with h' | h'
      · simp [h']
      · simp [Array.getElem?_eq_none h'] at h0
    · exact getD_set_true hc
def planOk (ops : Array Oper) (c n : Nat) (isA isB isC isT : List Nat) : Bool :=
  let L := Array.replicate ops.size false
  let LA := listAll isA L
  let LB := listAll isB LA
  let LC := listAll isC LB
  takesOk .any ops c n false isA L && takesOk .any ops c n true isB LA && takesOk .any ops c n false isC LB && tailOk .any ops c isT LC && Region.noSelect ops &&
    decide (isA.length + isB.length + isC.length + isT.length = ops.size) && decide (c < ops.size)
/-- A region that draws its order: first isA (they read what S0 tells), then isB (what S1 tells, and c waits for each), then isC (S0 again), then isT, forced. -/
theorem wp_region_plan {id : Nat} {a a1 a2 a3 : Act} {w : World} (S0 S1 : World → Prop) (c n : Nat) (isA isB isC isT : List Nat) (hm : P.follows .mixedOrders = true)
    (hok : planOk ops c n isA isB isC isT = true) (hn : a.tmps.size = n) (hn1 : a1.tmps.size = n) (hn2 : a2.tmps.size = n)
    (hQ : ∀ ch (a : Act) d v w, Q (.panic ch) (a.put d v) w → Q (.panic ch) a w) (h0 : S0 w.drew) (h1 : S1 w.drew)
    (hA : ∀ w', S0 w' → wpStillI P ops w' (fun x => x = a1) isA a) (hB : ∀ w', S0 w' → S1 w' → wpStillI P ops w' (fun x => x = a2) isB a1)
    (hC : ∀ w', S0 w' → wpStillI P ops w' (fun x => x = a3) isC a2) (hT : wpTail P ops Q S0 isT a3 w.drew) : (Code.region id ops true).wp P Q a w := by
  simp only [planOk, Bool.and_eq_true, decide_eq_true_eq] at hok
  obtain ⟨⟨⟨⟨⟨⟨o1, o2⟩, o3⟩, o4⟩, hs⟩, hl⟩, hc⟩ := hok
  refine wp_region_any hm (wpAny_of_g (S0 := S0) (S1 := S1) (c := c) _ _ _ _ ?_)
  show wpAnyG P .any ops Q S0 S1 c ops.size (Array.replicate ops.size false) a w.drew
  have hz : ops.size = ((isT.length + isC.length) + isB.length) + isA.length := by omega
  generalize hL : Array.replicate ops.size false = L at *
  rw [hz]
  have hcl : Closed .any ops c L := by
    intro h
    rw [← hL] at h
    simp [hc] at h
  refine wpAnyG_takes false S0 (fun _ h _ => h) hs hQ n h0 isA _ a o1 hn hA hcl ⟨h0, .inr h1⟩ (fun hcl hsd => ?_)
  refine wpAnyG_takes true (fun w => S0 w ∧ S1 w) (fun _ h h' => ⟨h, h' rfl⟩) hs hQ n ⟨h0, h1⟩ isB _ a1 o2 hn1 (fun w' h => hB w' h.1 h.2) hcl hsd (fun hcl hsd => ?_)
  refine wpAnyG_takes false S0 (fun _ h _ => h) hs hQ n h0 isC _ a2 o3 hn2 hC hcl hsd (fun hcl hsd => ?_)
  exact wpAnyG_tail isT _ a3 _ o4 hT
/-- The same with one list taken first: all that reads what S0 tells; then isT, forced. -/
theorem wp_region_first {id : Nat} {a : Act} {w : World} (S0 : World → Prop) (c n : Nat) (isA isT : List Nat) (hm : P.follows .mixedOrders = true)
    (hok : planOk ops c n isA [] [] isT = true) (hn : a.tmps.size = n)
    (hQ : ∀ ch (a : Act) d v w, Q (.panic ch) (a.put d v) w → Q (.panic ch) a w) (h0 : S0 w.drew)
    (hA : ∃ a1 : Act, (∀ w', S0 w' → wpStillI P ops w' (fun x => x = a1) isA a) ∧ a1.tmps.size = n ∧ wpTail P ops Q S0 isT a1 w.drew) : (Code.region id ops true).wp P Q a w := by
  obtain ⟨a1, h1, h2, h3⟩ := hA
  exact wp_region_plan (a1 := a1) (a2 := a1) (a3 := a1) S0 (fun _ => True) c n isA [] [] isT hm hok hn h2 h2 hQ h0 trivial h1 (fun _ _ _ => rfl) (fun _ _ => rfl) h3

/-! ### A plan: some operations are taken first (false), the others come up alone (true). S holds throughout. -/
def wpPlan (P : Program) (ops : Array Oper) (Q : Exit → Act → World → Prop) (S : World → Prop) : List (Bool × Nat) → Act → World → Prop
  | [], a, w => Q .normal a w
  | (false, i) :: r, a, w => ∃ a1 : Act, (∃ d, dstOf ops i = some d ∧ d < a.tmps.size) ∧ (∀ w', S w' → stOp P ops w' i (fun x => x = a1) a) ∧ wpPlan P ops Q S r a1 w
  | (true, i) :: r, a, w => wpOp P ops Q i (fun a' w' => S w' ∧ wpPlan P ops Q S r a' w') a w
def planB (md : Region.Mode) (ops : Array Oper) : List (Bool × Nat) → Array Bool → Bool
  | [], L => (Region.ready md ops L).isEmpty
  | (false, i) :: r, L => Region.free md ops L i && (Region.ready md ops L).contains i && decide (i < ops.size) && planB md ops r (L.setIfInBounds i true)
  | (true, i) :: r, L => (Region.ready md ops L == [i]) && planB md ops r (L.setIfInBounds i true)
theorem plan_nil {S : World → Prop} {a : Act} {w : World} (h : Q .normal a w) : wpPlan P ops Q S [] a w := h
theorem plan_take {S : World → Prop} {a a1 : Act} {w : World} {i : Nat} {r : List (Bool × Nat)} {o : Oper} {d : Nat} (ho : ops[i]? = some o) (hw : Region.wanted o (yielded ops a.tmps) = true) (hd : o.dst = some d) (hlt : decide (d < a.tmps.size) = true)
    (h : ∀ w', S w' → ∀ K : Act → Prop, K a1 → o.still P a w' K) (h2 : wpPlan P ops Q S r a1 w) : wpPlan P ops Q S ((false, i) :: r) a w := by
  refine ⟨a1, ⟨d, by simp [dstOf, ho, hd], of_decide_eq_true hlt⟩, fun w' hw' => ?_, h2⟩
  unfold stOp
  simp only [ho]
  rw [if_pos hw]
  exact h w' hw' _ rfl
theorem plan_skip {S : World → Prop} {a a1 : Act} {w : World} {i : Nat} {r : List (Bool × Nat)} {o : Oper} {d : Nat} (ho : ops[i]? = some o) (hw : Region.wanted o (yielded ops a.tmps) = false) (hd : o.dst = some d) (hlt : decide (d < a.tmps.size) = true)
    (h1 : a.put o.dst undef = a1) (h2 : wpPlan P ops Q S r a1 w) : wpPlan P ops Q S ((false, i) :: r) a w := by
  refine ⟨a1, ⟨d, by simp [dstOf, ho, hd], of_decide_eq_true hlt⟩, fun w' hw' => ?_, h2⟩
  unfold stOp
  simp only [ho]
  rw [if_neg (by rw [hw]; simp)]
  exact h1
theorem plan_force {S : World → Prop} {a : Act} {w : World} {i : Nat} {r : List (Bool × Nat)} {o : Oper} (ho : ops[i]? = some o) (hw : Region.wanted o (yielded ops a.tmps) = true)
    (h : ∀ K : Act → World → Prop, Hid (∀ a w, S w → wpPlan P ops Q S r a w → K a w) → o.wp P a w K Q) : wpPlan P ops Q S ((true, i) :: r) a w := by
  refine wpOp_step ho (fun K hK => ?_)
  rw [if_pos hw]
  exact h K (fun a w h0 h1 => hK a w ⟨h0, h1⟩)
theorem wpAnyG_plan {S : World → Prop} (hs : Region.noSelect ops = true) (hQ : ∀ ch (a : Act) d v w, Q (.panic ch) (a.put d v) w → Q (.panic ch) a w) :
    ∀ (r : List (Bool × Nat)) (L : Array Bool) (a : Act) (w : World), L.size = ops.size → planB md ops r L = true → S w → wpPlan P ops Q S r a w → wpAnyG P md ops Q S (fun _ => True) ops.size r.length L a w
  | [], L, a, w, _, hok, _, h => ⟨by simpa [planB] using hok, h⟩
  | (false, i) :: r, L, a, w, hL, hok, hS, h => by
    simp only [planB, Bool.and_eq_true, decide_eq_true_eq] at hok
    obtain ⟨⟨⟨hf, hr⟩, hlt⟩, hok'⟩ := hok
    obtain ⟨a1, ⟨d, hd, hdn⟩, hy, h2⟩ := h
    cases ho : ops[i]? with
    | none => simp [dstOf, ho] at hd
    | some o =>
      have hod : o.dst = some d := by simpa [dstOf, ho] using hd
      have key : ∀ w', S w' → YieldsAt P ops w' o (a1.tmps.getD d undef) a ∧ a.put o.dst (a1.tmps.getD d undef) = a1 := by
        intro w' hw'
        obtain ⟨v, hy, h2⟩ := yieldsAt_of_stOp ho (hy w' hw')
        have h3 : a.put o.dst v = a1 := h2
        have hv : a1.tmps.getD d undef = v := by rw [← h3, hod]; simp [Act.put, hdn]
        rw [hv]
        exact ⟨hy, h3⟩
      have hri : i ∈ Region.ready md ops L := by simpa using hr
      have hcl : ∀ L : Array Bool, L.size = ops.size → Closed md ops ops.size L := by
        intro L hL h
        simp [← hL] at h
      refine wpAnyG_first S ho (by omega) (Region.noSelect_spec hs) (.inl fun _ h => h) (fun ch a w => hQ ch a _ _ w) r.length L a w (Region.free_spec ho hf) hri (hcl L hL) (fun w' hw' => (key w' hw').1) ⟨hS, .inr trivial⟩ ?_
      rw [(key w hS).2]
      exact wpAnyG_plan hs hQ r _ a1 w (by simpa using hL) hok' hS h2
  | (true, i) :: r, L, a, w, hL, hok, hS, h => by
    simp only [planB, Bool.and_eq_true, beq_iff_eq] at hok
    obtain ⟨hr, hok'⟩ := hok
    refine ⟨fun h0 => (by rw [hr] at h0; cases h0), fun j hj => ?_⟩
    rw [hr] at hj
    obtain rfl : j = i := by simpa using hj
    exact wpOp_mono (fun a' w' h' => ⟨⟨h'.1, .inr trivial⟩, wpAnyG_plan hs hQ r _ a' w' (by simpa using hL) hok' h'.1 h'.2⟩) h
theorem wp_region_seq {id : Nat} {a : Act} {w : World} (S : World → Prop) (r : List (Bool × Nat)) (hm : P.follows .mixedOrders = true)
    (hok : (planB .any ops r (Array.replicate ops.size false) && Region.noSelect ops && decide (r.length = ops.size)) = true)
    (hQ : ∀ ch (a : Act) d v w, Q (.panic ch) (a.put d v) w → Q (.panic ch) a w) (h0 : S w.drew) (h : wpPlan P ops Q S r a w.drew) : (Code.region id ops true).wp P Q a w := by
  simp only [Bool.and_eq_true, decide_eq_true_eq] at hok
  obtain ⟨⟨o1, hs⟩, hl⟩ := hok
  refine wp_region_any hm (wpAny_of_g (S0 := S) (S1 := fun _ => True) (c := ops.size) _ _ _ _ ?_)
  have := wpAnyG_plan hs hQ r _ a w.drew (by simp) o1 h0 h
  rw [hl] at this
  exact this
end
end Go.Proofs.Ytobbjhbjjhnicaa
