/- The rows of the table that the walks ask for: a byte; the conversions between bytes and strings. -/
import Derived.Test.YtobbjhbjjhnicaaProg
import Derived.Test.YtobbjhbjjhnicaaConv
namespace Go.Proofs.Ytobbjhbjjhnicaa
open Go.RowKit
theorem row_u8 : ByteRow Try.prog 30 5 := by
  have h : (Try.prog.info? 5).map (fun i => (i.zero, i.size, i.bytes)) = some (some (.int .u8 0), 1, 1) := by kernel_rfl
  obtain ⟨i, h1, h2⟩ := Option.map_eq_some_iff.1 h
  simp only [Prod.mk.injEq] at h2
  exact ⟨Try.underlying30, i, h1, h2.1, h2.2.1, h2.2.2⟩
theorem conv_u8 : ConvRow Try.prog 30 9 5 := ⟨Try.underlying30, Try.underlying5, Try.underlying9⟩
end Go.Proofs.Ytobbjhbjjhnicaa
