/-
  No cell of these rows narrows 'for every input' (looked for: loops, veiled, ifaces, maps, wideKeys, modest, calm, conditions, laid).
  DERIVED. THE GIVEN ROWS OF THIS SEAT. 9 by the template 'for every input the law returns true; each argument reads behind the call as it read before'; 0 by the template 'total and deterministic' (their statements: YtobbjhbjjhnicaaTotals.lean).
  GIVEN WITH THE SEED: the statements are not yours to turn. If you find one false, say at which input.
  Laid BY PROGRAM, IN A SANDBOX (cutbox-rows.mjs): the forced cells as the released guide's own fill.sh prints them over the translation 80e0ef261637f3fb… (all of the seat's roots in one cut). By AI agents, Wed Nov 11 2026. No macro, syntax, notation, axiom, sorry.
-/
import Derived.Test.YtobbjhbjjhnicaaChecked
import GoSem.Claim
import GoSem.ClaimJoined
import GoSem.ClaimMapViews
import Derived.JoinedTies
import Derived.KernelRfl
namespace Go.Proofs.Ytobbjhbjjhnicaa
/- THE CELL 'sum', in the pinned program and in every row, IS THE sha256 OF THE DUMP (.gsa) THAT YtobbjhbjjhnicaaProg.lean LOADS. Nothing in Lean hashes anything: it is a label: what it is worth is what the hold of that sum in a sandbox is worth. -/
noncomputable def Try.pinned : Pinned := { name := "ytobbjhbjjhnicaa", sum := "80e0ef261637f3fb28c0e7352177237182043d8812f157e11367d0f42652f6a3", checked := Try.checked }
namespace Rows
def none {H : Type} : Left H := { results := [], args := [] }

/-- 'steamerlaw14.LaneQuarters': WHATEVER THE INPUT: true; the input reads as it did. -/
def laneQuartersSpec : ChangeSpec := { name := "laneQuarters", fn := fun _ => fun
  | [d1, d2, d3, d4, d5, d6] => { results := [.lit (.bool true)], args := [d1, d2, d3, d4, d5, d6] }
  | _ => none }
def laneQuartersRow : OpenClaim := { program := "ytobbjhbjjhnicaa", sum := "80e0ef261637f3fb28c0e7352177237182043d8812f157e11367d0f42652f6a3", func := "steamer/steamerlaw14.LaneQuarters", spec := "laneQuarters", apart := false }
def LaneQuartersSaid : Prop := laneQuartersRow.holds Try.pinned (OpenSpec.ofChange laneQuartersSpec)

/-- ITS FALSE NEIGHBOUR: 'it returns false'. Refute it at one input. -/
def laneQuartersWrong : ChangeSpec := { name := "laneQuarters", fn := fun _ => fun
  | [d1, d2, d3, d4, d5, d6] => { results := [.lit (.bool false)], args := [d1, d2, d3, d4, d5, d6] }
  | _ => none }
def LaneQuartersWrongFalsely : Prop := laneQuartersRow.holds Try.pinned (OpenSpec.ofChange laneQuartersWrong)

/-- 'steamerlaw14.LaneAsks': WHATEVER THE INPUT: true; the input reads as it did. -/
def laneAsksSpec : ChangeSpec := { name := "laneAsks", fn := fun _ => fun
  | [d1, d2, d3, d4] => { results := [.lit (.bool true)], args := [d1, d2, d3, d4] }
  | _ => none }
def laneAsksRow : OpenClaim := { program := "ytobbjhbjjhnicaa", sum := "80e0ef261637f3fb28c0e7352177237182043d8812f157e11367d0f42652f6a3", func := "steamer/steamerlaw14.LaneAsks", spec := "laneAsks", apart := false }
def LaneAsksSaid : Prop := laneAsksRow.holds Try.pinned (OpenSpec.ofChange laneAsksSpec)

/-- ITS FALSE NEIGHBOUR: 'it returns false'. Refute it at one input. -/
def laneAsksWrong : ChangeSpec := { name := "laneAsks", fn := fun _ => fun
  | [d1, d2, d3, d4] => { results := [.lit (.bool false)], args := [d1, d2, d3, d4] }
  | _ => none }
def LaneAsksWrongFalsely : Prop := laneAsksRow.holds Try.pinned (OpenSpec.ofChange laneAsksWrong)

/-- 'steamerlaw14.LaneBack': WHATEVER THE INPUT: true; the input reads as it did. -/
def laneBackSpec : ChangeSpec := { name := "laneBack", fn := fun _ => fun
  | [d1, d2, d3] => { results := [.lit (.bool true)], args := [d1, d2, d3] }
  | _ => none }
def laneBackRow : OpenClaim := { program := "ytobbjhbjjhnicaa", sum := "80e0ef261637f3fb28c0e7352177237182043d8812f157e11367d0f42652f6a3", func := "steamer/steamerlaw14.LaneBack", spec := "laneBack", apart := false }
def LaneBackSaid : Prop := laneBackRow.holds Try.pinned (OpenSpec.ofChange laneBackSpec)

/-- ITS FALSE NEIGHBOUR: 'it returns false'. Refute it at one input. -/
def laneBackWrong : ChangeSpec := { name := "laneBack", fn := fun _ => fun
  | [d1, d2, d3] => { results := [.lit (.bool false)], args := [d1, d2, d3] }
  | _ => none }
def LaneBackWrongFalsely : Prop := laneBackRow.holds Try.pinned (OpenSpec.ofChange laneBackWrong)

/-- 'steamerlaw14.LaneParts': WHATEVER THE INPUT: true; the input reads as it did. -/
def lanePartsSpec : ChangeSpec := { name := "laneParts", fn := fun _ => fun
  | [d1, d2, d3, d4] => { results := [.lit (.bool true)], args := [d1, d2, d3, d4] }
  | _ => none }
def lanePartsRow : OpenClaim := { program := "ytobbjhbjjhnicaa", sum := "80e0ef261637f3fb28c0e7352177237182043d8812f157e11367d0f42652f6a3", func := "steamer/steamerlaw14.LaneParts", spec := "laneParts", apart := false }
def LanePartsSaid : Prop := lanePartsRow.holds Try.pinned (OpenSpec.ofChange lanePartsSpec)

/-- ITS FALSE NEIGHBOUR: 'it returns false'. Refute it at one input. -/
def lanePartsWrong : ChangeSpec := { name := "laneParts", fn := fun _ => fun
  | [d1, d2, d3, d4] => { results := [.lit (.bool false)], args := [d1, d2, d3, d4] }
  | _ => none }
def LanePartsWrongFalsely : Prop := lanePartsRow.holds Try.pinned (OpenSpec.ofChange lanePartsWrong)

/-- 'steamerlaw14.LaneKeys': WHATEVER THE INPUT: true; the input reads as it did. -/
def laneKeysSpec : ChangeSpec := { name := "laneKeys", fn := fun _ => fun
  | [d1, d2, d3, d4, d5] => { results := [.lit (.bool true)], args := [d1, d2, d3, d4, d5] }
  | _ => none }
def laneKeysRow : OpenClaim := { program := "ytobbjhbjjhnicaa", sum := "80e0ef261637f3fb28c0e7352177237182043d8812f157e11367d0f42652f6a3", func := "steamer/steamerlaw14.LaneKeys", spec := "laneKeys", apart := false }
def LaneKeysSaid : Prop := laneKeysRow.holds Try.pinned (OpenSpec.ofChange laneKeysSpec)

/-- ITS FALSE NEIGHBOUR: 'it returns false'. Refute it at one input. -/
def laneKeysWrong : ChangeSpec := { name := "laneKeys", fn := fun _ => fun
  | [d1, d2, d3, d4, d5] => { results := [.lit (.bool false)], args := [d1, d2, d3, d4, d5] }
  | _ => none }
def LaneKeysWrongFalsely : Prop := laneKeysRow.holds Try.pinned (OpenSpec.ofChange laneKeysWrong)

/-- 'steamerlaw17.SealRow': WHATEVER THE INPUT: true; the input reads as it did. -/
def sealRowSpec : ChangeSpec := { name := "sealRow", fn := fun _ => fun
  | [d1, d2, d3, d4, d5] => { results := [.lit (.bool true)], args := [d1, d2, d3, d4, d5] }
  | _ => none }
def sealRowRow : OpenClaim := { program := "ytobbjhbjjhnicaa", sum := "80e0ef261637f3fb28c0e7352177237182043d8812f157e11367d0f42652f6a3", func := "steamer/steamerlaw17.SealRow", spec := "sealRow", inPlace := ["math/bits.Add64"], apart := false }
def SealRowSaid : Prop := sealRowRow.holds Try.pinned (OpenSpec.ofChange sealRowSpec)

/-- ITS FALSE NEIGHBOUR: 'it returns false'. Refute it at one input. -/
def sealRowWrong : ChangeSpec := { name := "sealRow", fn := fun _ => fun
  | [d1, d2, d3, d4, d5] => { results := [.lit (.bool false)], args := [d1, d2, d3, d4, d5] }
  | _ => none }
def SealRowWrongFalsely : Prop := sealRowRow.holds Try.pinned (OpenSpec.ofChange sealRowWrong)

/-- 'steamerlaw17.SealOrders': WHATEVER THE INPUT: true; the input reads as it did. -/
def sealOrdersSpec : ChangeSpec := { name := "sealOrders", fn := fun _ => fun
  | [d1, d2, d3, d4] => { results := [.lit (.bool true)], args := [d1, d2, d3, d4] }
  | _ => none }
def sealOrdersRow : OpenClaim := { program := "ytobbjhbjjhnicaa", sum := "80e0ef261637f3fb28c0e7352177237182043d8812f157e11367d0f42652f6a3", func := "steamer/steamerlaw17.SealOrders", spec := "sealOrders", inPlace := ["math/bits.Add64"], apart := false }
def SealOrdersSaid : Prop := sealOrdersRow.holds Try.pinned (OpenSpec.ofChange sealOrdersSpec)

/-- ITS FALSE NEIGHBOUR: 'it returns false'. Refute it at one input. -/
def sealOrdersWrong : ChangeSpec := { name := "sealOrders", fn := fun _ => fun
  | [d1, d2, d3, d4] => { results := [.lit (.bool false)], args := [d1, d2, d3, d4] }
  | _ => none }
def SealOrdersWrongFalsely : Prop := sealOrdersRow.holds Try.pinned (OpenSpec.ofChange sealOrdersWrong)

/-- 'steamerlaw17.SealBack': WHATEVER THE INPUT: true; the input reads as it did. -/
def sealBackSpec : ChangeSpec := { name := "sealBack", fn := fun _ => fun
  | [d1, d2, d3, d4, d5] => { results := [.lit (.bool true)], args := [d1, d2, d3, d4, d5] }
  | _ => none }
def sealBackRow : OpenClaim := { program := "ytobbjhbjjhnicaa", sum := "80e0ef261637f3fb28c0e7352177237182043d8812f157e11367d0f42652f6a3", func := "steamer/steamerlaw17.SealBack", spec := "sealBack", inPlace := ["math/bits.Add64"], apart := false }
def SealBackSaid : Prop := sealBackRow.holds Try.pinned (OpenSpec.ofChange sealBackSpec)

/-- ITS FALSE NEIGHBOUR: 'it returns false'. Refute it at one input. -/
def sealBackWrong : ChangeSpec := { name := "sealBack", fn := fun _ => fun
  | [d1, d2, d3, d4, d5] => { results := [.lit (.bool false)], args := [d1, d2, d3, d4, d5] }
  | _ => none }
def SealBackWrongFalsely : Prop := sealBackRow.holds Try.pinned (OpenSpec.ofChange sealBackWrong)

/-- 'steamerlaw17.SealBounds': WHATEVER THE INPUT: true; the input reads as it did. -/
def sealBoundsSpec : ChangeSpec := { name := "sealBounds", fn := fun _ => fun
  | [d1, d2, d3] => { results := [.lit (.bool true)], args := [d1, d2, d3] }
  | _ => none }
def sealBoundsRow : OpenClaim := { program := "ytobbjhbjjhnicaa", sum := "80e0ef261637f3fb28c0e7352177237182043d8812f157e11367d0f42652f6a3", func := "steamer/steamerlaw17.SealBounds", spec := "sealBounds", inPlace := ["math/bits.Add64"], apart := false }
def SealBoundsSaid : Prop := sealBoundsRow.holds Try.pinned (OpenSpec.ofChange sealBoundsSpec)

/-- ITS FALSE NEIGHBOUR: 'it returns false'. Refute it at one input. -/
def sealBoundsWrong : ChangeSpec := { name := "sealBounds", fn := fun _ => fun
  | [d1, d2, d3] => { results := [.lit (.bool false)], args := [d1, d2, d3] }
  | _ => none }
def SealBoundsWrongFalsely : Prop := sealBoundsRow.holds Try.pinned (OpenSpec.ofChange sealBoundsWrong)

/- THE SECOND FORM. 'bulk': how many values and letters a reading holds, each counted each time it is reached (what is shared counts as often as it is met; a slice's spare places count too). A statement '..UptoSaid' is the law's where the arguments, and the package variables that the reading takes, are together of bulk at most 1048576: NARROWER than '..Said'. Prove '..Said' where nothing that the law and all that it calls make is longer than what came in: it says more and counts as full. Else prove '..UptoSaid'. A law counts once. -/
mutual
def uptoBulk {H : Type} : DataW H → Nat
  | .lit (.string bytes) => bytes.length + 1
  | .lit _ => 1
  | .nil => 1
  | .ptr d => uptoBulk d + 1
  | .slice elems spare => uptoBulkAll elems + uptoBulkAll spare + 1
  | .agg parts => uptoBulkAll parts + 1
  | .iface _ d => uptoBulk d + 1
  | .map entries => uptoBulkEntries entries + 1
  | .held _ => 1
def uptoBulkAll {H : Type} : List (DataW H) → Nat
  | [] => 0
  | d :: r => uptoBulk d + uptoBulkAll r
def uptoBulkEntries {H : Type} : List (Lit × DataW H) → Nat
  | [] => 0
  | x :: r => uptoBulkEntry x + uptoBulkEntries r
def uptoBulkEntry {H : Type} : Lit × DataW H → Nat
  | (.string bytes, d) => bytes.length + uptoBulk d + 1
  | (_, d) => uptoBulk d + 1
 end
def uptoSmall : (H : Type) → List (DataW H) → Bool := fun _ ds => decide (uptoBulkAll ds ≤ 1048576)
def OpenSpec.upto (s : _root_.Go.ChangeSpec) : _root_.Go.OpenSpec := { _root_.Go.OpenSpec.ofChange s with cond := some uptoSmall }

/-- 'steamerlaw14.LaneQuarters', WHERE WHAT IT READS IS OF BULK AT MOST 1048576: true; the input reads as it did. -/
def laneQuartersUptoRow : OpenClaim := { program := "ytobbjhbjjhnicaa", sum := "80e0ef261637f3fb28c0e7352177237182043d8812f157e11367d0f42652f6a3", func := "steamer/steamerlaw14.LaneQuarters", spec := "laneQuarters", apart := false, narrowed := true }
def LaneQuartersUptoSaid : Prop := laneQuartersUptoRow.holds Try.pinned (OpenSpec.upto laneQuartersSpec)

/-- 'steamerlaw14.LaneAsks', WHERE WHAT IT READS IS OF BULK AT MOST 1048576: true; the input reads as it did. -/
def laneAsksUptoRow : OpenClaim := { program := "ytobbjhbjjhnicaa", sum := "80e0ef261637f3fb28c0e7352177237182043d8812f157e11367d0f42652f6a3", func := "steamer/steamerlaw14.LaneAsks", spec := "laneAsks", apart := false, narrowed := true }
def LaneAsksUptoSaid : Prop := laneAsksUptoRow.holds Try.pinned (OpenSpec.upto laneAsksSpec)

/-- 'steamerlaw14.LaneBack', WHERE WHAT IT READS IS OF BULK AT MOST 1048576: true; the input reads as it did. -/
def laneBackUptoRow : OpenClaim := { program := "ytobbjhbjjhnicaa", sum := "80e0ef261637f3fb28c0e7352177237182043d8812f157e11367d0f42652f6a3", func := "steamer/steamerlaw14.LaneBack", spec := "laneBack", apart := false, narrowed := true }
def LaneBackUptoSaid : Prop := laneBackUptoRow.holds Try.pinned (OpenSpec.upto laneBackSpec)

/-- 'steamerlaw14.LaneParts', WHERE WHAT IT READS IS OF BULK AT MOST 1048576: true; the input reads as it did. -/
def lanePartsUptoRow : OpenClaim := { program := "ytobbjhbjjhnicaa", sum := "80e0ef261637f3fb28c0e7352177237182043d8812f157e11367d0f42652f6a3", func := "steamer/steamerlaw14.LaneParts", spec := "laneParts", apart := false, narrowed := true }
def LanePartsUptoSaid : Prop := lanePartsUptoRow.holds Try.pinned (OpenSpec.upto lanePartsSpec)

/-- 'steamerlaw14.LaneKeys', WHERE WHAT IT READS IS OF BULK AT MOST 1048576: true; the input reads as it did. -/
def laneKeysUptoRow : OpenClaim := { program := "ytobbjhbjjhnicaa", sum := "80e0ef261637f3fb28c0e7352177237182043d8812f157e11367d0f42652f6a3", func := "steamer/steamerlaw14.LaneKeys", spec := "laneKeys", apart := false, narrowed := true }
def LaneKeysUptoSaid : Prop := laneKeysUptoRow.holds Try.pinned (OpenSpec.upto laneKeysSpec)

/-- 'steamerlaw17.SealRow', WHERE WHAT IT READS IS OF BULK AT MOST 1048576: true; the input reads as it did. -/
def sealRowUptoRow : OpenClaim := { program := "ytobbjhbjjhnicaa", sum := "80e0ef261637f3fb28c0e7352177237182043d8812f157e11367d0f42652f6a3", func := "steamer/steamerlaw17.SealRow", spec := "sealRow", inPlace := ["math/bits.Add64"], apart := false, narrowed := true }
def SealRowUptoSaid : Prop := sealRowUptoRow.holds Try.pinned (OpenSpec.upto sealRowSpec)

/-- 'steamerlaw17.SealOrders', WHERE WHAT IT READS IS OF BULK AT MOST 1048576: true; the input reads as it did. -/
def sealOrdersUptoRow : OpenClaim := { program := "ytobbjhbjjhnicaa", sum := "80e0ef261637f3fb28c0e7352177237182043d8812f157e11367d0f42652f6a3", func := "steamer/steamerlaw17.SealOrders", spec := "sealOrders", inPlace := ["math/bits.Add64"], apart := false, narrowed := true }
def SealOrdersUptoSaid : Prop := sealOrdersUptoRow.holds Try.pinned (OpenSpec.upto sealOrdersSpec)

/-- 'steamerlaw17.SealBack', WHERE WHAT IT READS IS OF BULK AT MOST 1048576: true; the input reads as it did. -/
def sealBackUptoRow : OpenClaim := { program := "ytobbjhbjjhnicaa", sum := "80e0ef261637f3fb28c0e7352177237182043d8812f157e11367d0f42652f6a3", func := "steamer/steamerlaw17.SealBack", spec := "sealBack", inPlace := ["math/bits.Add64"], apart := false, narrowed := true }
def SealBackUptoSaid : Prop := sealBackUptoRow.holds Try.pinned (OpenSpec.upto sealBackSpec)

/-- 'steamerlaw17.SealBounds', WHERE WHAT IT READS IS OF BULK AT MOST 1048576: true; the input reads as it did. -/
def sealBoundsUptoRow : OpenClaim := { program := "ytobbjhbjjhnicaa", sum := "80e0ef261637f3fb28c0e7352177237182043d8812f157e11367d0f42652f6a3", func := "steamer/steamerlaw17.SealBounds", spec := "sealBounds", inPlace := ["math/bits.Add64"], apart := false, narrowed := true }
def SealBoundsUptoSaid : Prop := sealBoundsUptoRow.holds Try.pinned (OpenSpec.upto sealBoundsSpec)

end Rows
end Go.Proofs.Ytobbjhbjjhnicaa
