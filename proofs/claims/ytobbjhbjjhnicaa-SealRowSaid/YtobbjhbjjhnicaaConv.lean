/- A slice of bytes turned into a string. -/
import Derived.Test.YtobbjhbjjhnicaaAppend
import Derived.Laws.IdiomStrings
namespace Go.Proofs.Ytobbjhbjjhnicaa
open Go.RowKit
/-- The three types of the conversion. -/
def ConvRow (P : Program) (src dst e : TypeId) : Prop := P.underlying src = some (.slice e) ∧ P.underlying e = some (.int .u8) ∧ P.underlying dst = some .string
theorem conv_bytes {P : Program} {w : World} {src dst e : TypeId} (hr : ConvRow P src dst e) {B : Nat} {A : Option Addr} {n : Nat} (c : Nat) {l : List UInt8} (hb : Bytes w B A n l) :
    (convert src dst (.slice A n c)).run P w = .ok (.string ⟨l.toArray⟩) w := by
  obtain ⟨hs, he, hd⟩ := hr
  have hl := hb.len
  rcases A with _ | ad
  · have hn : n = 0 := by
      rcases Nat.eq_zero_or_pos n with h0 | h0
      · exact h0
      · obtain ⟨b, off, hh, _⟩ := hb.2 h0
        cases hh
    subst hn
    have hl' : l = [] := List.eq_nil_of_length_eq_zero hl
    subst hl'
    rw [run_convert_bytes_string w src dst e none 0 c hs he hd]
    rfl
  · subst hl
    refine run_convert_bytes_back w src dst e ad c l hs he hd (fun j hj => ?_)
    obtain ⟨b, off, hh, _, hcc⟩ := hb.2 (by omega)
    injection hh with hh
    subst hh
    rw [Addr.add_mid, hcc j _ (List.getElem?_eq_getElem hj)]
theorem wp_conv_bytes {P : Program} {w : World} {o : Oper} {a : Act} {K : Act → World → Prop} {Q : Exit → Act → World → Prop} (src dst e : TypeId) (x : Operand) (hr : ConvRow P src dst e)
    (ho : o.op = .convert src dst x) (B : Nat) (A : Option Addr) (n c : Nat) (l : List UInt8) (hx : a.eval x = .slice A n c) (hb : Bytes w B A n l)
    (h : K (a.put o.dst (.string ⟨l.toArray⟩)) w) : o.wp P a w K Q := by
  unfold Oper.wp execOp
  simp only [ho, hx, Sem.run_bind, conv_bytes hr c hb, Result.andThen_ok, Sem.run_pure]
  exact h
end Go.Proofs.Ytobbjhbjjhnicaa
