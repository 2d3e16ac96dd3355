/-
  No cell of these rows narrows 'for every input' (looked for: loops, veiled, ifaces, maps, wideKeys, modest, calm, conditions, laid).
  DERIVED. THE GIVEN ROWS OF THIS SEAT. 9 by the template 'for every input the law returns true; each argument reads behind the call as it read before'; 0 by the template 'total and deterministic' (their statements: YtbmccgiffplpjaaTotals.lean).
  GIVEN WITH THE SEED: the statements are not yours to turn. If you find one false, say at which input.
  Laid BY PROGRAM, IN A SANDBOX (cutbox-rows.mjs): the forced cells as the released guide's own fill.sh prints them over the translation cbabc4b188c58ea2… (all of the seat's roots in one cut). By AI agents, Wed Nov 11 2026. No macro, syntax, notation, axiom, sorry.
-/
import Derived.Test.YtbmccgiffplpjaaChecked
import GoSem.Claim
import GoSem.ClaimJoined
import GoSem.ClaimMapViews
import Derived.JoinedTies
import Derived.KernelRfl
namespace Go.Proofs.Ytbmccgiffplpjaa
/- THE CELL 'sum', in the pinned program and in every row, IS THE sha256 OF THE DUMP (.gsa) THAT YtbmccgiffplpjaaProg.lean LOADS. Nothing in Lean hashes anything: it is a label: what it is worth is what the hold of that sum in a sandbox is worth. -/
noncomputable def Try.pinned : Pinned := { name := "ytbmccgiffplpjaa", sum := "cbabc4b188c58ea2276a1d31f9644e7921160bc37492f8b707193fd36548a34c", checked := Try.checked }
namespace Rows
def none {H : Type} : Left H := { results := [], args := [] }

/-- 'steamerlaw15.TagAsks': WHATEVER THE INPUT: true; the input reads as it did. -/
def tagAsksSpec : ChangeSpec := { name := "tagAsks", fn := fun _ => fun
  | [d1, d2, d3, d4, d5] => { results := [.lit (.bool true)], args := [d1, d2, d3, d4, d5] }
  | _ => none }
def tagAsksRow : OpenClaim := { program := "ytbmccgiffplpjaa", sum := "cbabc4b188c58ea2276a1d31f9644e7921160bc37492f8b707193fd36548a34c", func := "steamer/steamerlaw15.TagAsks", spec := "tagAsks", apart := false }
def TagAsksSaid : Prop := tagAsksRow.holds Try.pinned (OpenSpec.ofChange tagAsksSpec)

/-- ITS FALSE NEIGHBOUR: 'it returns false'. Refute it at one input. -/
def tagAsksWrong : ChangeSpec := { name := "tagAsks", fn := fun _ => fun
  | [d1, d2, d3, d4, d5] => { results := [.lit (.bool false)], args := [d1, d2, d3, d4, d5] }
  | _ => none }
def TagAsksWrongFalsely : Prop := tagAsksRow.holds Try.pinned (OpenSpec.ofChange tagAsksWrong)

/-- 'steamerlaw15.TagTurned': WHATEVER THE INPUT: true; the input reads as it did. -/
def tagTurnedSpec : ChangeSpec := { name := "tagTurned", fn := fun _ => fun
  | [d1, d2, d3, d4, d5, d6, d7] => { results := [.lit (.bool true)], args := [d1, d2, d3, d4, d5, d6, d7] }
  | _ => none }
def tagTurnedRow : OpenClaim := { program := "ytbmccgiffplpjaa", sum := "cbabc4b188c58ea2276a1d31f9644e7921160bc37492f8b707193fd36548a34c", func := "steamer/steamerlaw15.TagTurned", spec := "tagTurned", apart := false }
def TagTurnedSaid : Prop := tagTurnedRow.holds Try.pinned (OpenSpec.ofChange tagTurnedSpec)

/-- ITS FALSE NEIGHBOUR: 'it returns false'. Refute it at one input. -/
def tagTurnedWrong : ChangeSpec := { name := "tagTurned", fn := fun _ => fun
  | [d1, d2, d3, d4, d5, d6, d7] => { results := [.lit (.bool false)], args := [d1, d2, d3, d4, d5, d6, d7] }
  | _ => none }
def TagTurnedWrongFalsely : Prop := tagTurnedRow.holds Try.pinned (OpenSpec.ofChange tagTurnedWrong)

/-- 'steamerlaw15.TagSames': WHATEVER THE INPUT: true; the input reads as it did. -/
def tagSamesSpec : ChangeSpec := { name := "tagSames", fn := fun _ => fun
  | [d1, d2, d3] => { results := [.lit (.bool true)], args := [d1, d2, d3] }
  | _ => none }
def tagSamesRow : OpenClaim := { program := "ytbmccgiffplpjaa", sum := "cbabc4b188c58ea2276a1d31f9644e7921160bc37492f8b707193fd36548a34c", func := "steamer/steamerlaw15.TagSames", spec := "tagSames", apart := false }
def TagSamesSaid : Prop := tagSamesRow.holds Try.pinned (OpenSpec.ofChange tagSamesSpec)

/-- ITS FALSE NEIGHBOUR: 'it returns false'. Refute it at one input. -/
def tagSamesWrong : ChangeSpec := { name := "tagSames", fn := fun _ => fun
  | [d1, d2, d3] => { results := [.lit (.bool false)], args := [d1, d2, d3] }
  | _ => none }
def TagSamesWrongFalsely : Prop := tagSamesRow.holds Try.pinned (OpenSpec.ofChange tagSamesWrong)

/-- 'steamerlaw15.TagLong': WHATEVER THE INPUT: true; the input reads as it did. -/
def tagLongSpec : ChangeSpec := { name := "tagLong", fn := fun _ => fun
  | [d1, d2, d3, d4] => { results := [.lit (.bool true)], args := [d1, d2, d3, d4] }
  | _ => none }
def tagLongRow : OpenClaim := { program := "ytbmccgiffplpjaa", sum := "cbabc4b188c58ea2276a1d31f9644e7921160bc37492f8b707193fd36548a34c", func := "steamer/steamerlaw15.TagLong", spec := "tagLong", apart := false }
def TagLongSaid : Prop := tagLongRow.holds Try.pinned (OpenSpec.ofChange tagLongSpec)

/-- ITS FALSE NEIGHBOUR: 'it returns false'. Refute it at one input. -/
def tagLongWrong : ChangeSpec := { name := "tagLong", fn := fun _ => fun
  | [d1, d2, d3, d4] => { results := [.lit (.bool false)], args := [d1, d2, d3, d4] }
  | _ => none }
def TagLongWrongFalsely : Prop := tagLongRow.holds Try.pinned (OpenSpec.ofChange tagLongWrong)

/-- 'steamerlaw15.TagPlaces': WHATEVER THE INPUT: true; the input reads as it did. -/
def tagPlacesSpec : ChangeSpec := { name := "tagPlaces", fn := fun _ => fun
  | [d1, d2, d3] => { results := [.lit (.bool true)], args := [d1, d2, d3] }
  | _ => none }
def tagPlacesRow : OpenClaim := { program := "ytbmccgiffplpjaa", sum := "cbabc4b188c58ea2276a1d31f9644e7921160bc37492f8b707193fd36548a34c", func := "steamer/steamerlaw15.TagPlaces", spec := "tagPlaces", apart := false }
def TagPlacesSaid : Prop := tagPlacesRow.holds Try.pinned (OpenSpec.ofChange tagPlacesSpec)

/-- ITS FALSE NEIGHBOUR: 'it returns false'. Refute it at one input. -/
def tagPlacesWrong : ChangeSpec := { name := "tagPlaces", fn := fun _ => fun
  | [d1, d2, d3] => { results := [.lit (.bool false)], args := [d1, d2, d3] }
  | _ => none }
def TagPlacesWrongFalsely : Prop := tagPlacesRow.holds Try.pinned (OpenSpec.ofChange tagPlacesWrong)

/-- 'steamerlaw16.KeyAsks': WHATEVER THE INPUT: true; the input reads as it did. -/
def keyAsksSpec : ChangeSpec := { name := "keyAsks", fn := fun _ => fun
  | [d1, d2, d3, d4] => { results := [.lit (.bool true)], args := [d1, d2, d3, d4] }
  | _ => none }
def keyAsksRow : OpenClaim := { program := "ytbmccgiffplpjaa", sum := "cbabc4b188c58ea2276a1d31f9644e7921160bc37492f8b707193fd36548a34c", func := "steamer/steamerlaw16.KeyAsks", spec := "keyAsks", apart := false }
def KeyAsksSaid : Prop := keyAsksRow.holds Try.pinned (OpenSpec.ofChange keyAsksSpec)

/-- ITS FALSE NEIGHBOUR: 'it returns false'. Refute it at one input. -/
def keyAsksWrong : ChangeSpec := { name := "keyAsks", fn := fun _ => fun
  | [d1, d2, d3, d4] => { results := [.lit (.bool false)], args := [d1, d2, d3, d4] }
  | _ => none }
def KeyAsksWrongFalsely : Prop := keyAsksRow.holds Try.pinned (OpenSpec.ofChange keyAsksWrong)

/-- 'steamerlaw16.KeyRounds': WHATEVER THE INPUT: true; the input reads as it did. -/
def keyRoundsSpec : ChangeSpec := { name := "keyRounds", fn := fun _ => fun
  | [d1, d2, d3] => { results := [.lit (.bool true)], args := [d1, d2, d3] }
  | _ => none }
def keyRoundsRow : OpenClaim := { program := "ytbmccgiffplpjaa", sum := "cbabc4b188c58ea2276a1d31f9644e7921160bc37492f8b707193fd36548a34c", func := "steamer/steamerlaw16.KeyRounds", spec := "keyRounds", apart := false }
def KeyRoundsSaid : Prop := keyRoundsRow.holds Try.pinned (OpenSpec.ofChange keyRoundsSpec)

/-- ITS FALSE NEIGHBOUR: 'it returns false'. Refute it at one input. -/
def keyRoundsWrong : ChangeSpec := { name := "keyRounds", fn := fun _ => fun
  | [d1, d2, d3] => { results := [.lit (.bool false)], args := [d1, d2, d3] }
  | _ => none }
def KeyRoundsWrongFalsely : Prop := keyRoundsRow.holds Try.pinned (OpenSpec.ofChange keyRoundsWrong)

/-- 'steamerlaw16.KeySalts': WHATEVER THE INPUT: true; the input reads as it did. -/
def keySaltsSpec : ChangeSpec := { name := "keySalts", fn := fun _ => fun
  | [d1, d2, d3, d4, d5] => { results := [.lit (.bool true)], args := [d1, d2, d3, d4, d5] }
  | _ => none }
def keySaltsRow : OpenClaim := { program := "ytbmccgiffplpjaa", sum := "cbabc4b188c58ea2276a1d31f9644e7921160bc37492f8b707193fd36548a34c", func := "steamer/steamerlaw16.KeySalts", spec := "keySalts", apart := false }
def KeySaltsSaid : Prop := keySaltsRow.holds Try.pinned (OpenSpec.ofChange keySaltsSpec)

/-- ITS FALSE NEIGHBOUR: 'it returns false'. Refute it at one input. -/
def keySaltsWrong : ChangeSpec := { name := "keySalts", fn := fun _ => fun
  | [d1, d2, d3, d4, d5] => { results := [.lit (.bool false)], args := [d1, d2, d3, d4, d5] }
  | _ => none }
def KeySaltsWrongFalsely : Prop := keySaltsRow.holds Try.pinned (OpenSpec.ofChange keySaltsWrong)

/-- 'steamerlaw16.KeyBounds': WHATEVER THE INPUT: true; the input reads as it did. -/
def keyBoundsSpec : ChangeSpec := { name := "keyBounds", fn := fun _ => fun
  | [d1, d2] => { results := [.lit (.bool true)], args := [d1, d2] }
  | _ => none }
def keyBoundsRow : OpenClaim := { program := "ytbmccgiffplpjaa", sum := "cbabc4b188c58ea2276a1d31f9644e7921160bc37492f8b707193fd36548a34c", func := "steamer/steamerlaw16.KeyBounds", spec := "keyBounds", apart := false }
def KeyBoundsSaid : Prop := keyBoundsRow.holds Try.pinned (OpenSpec.ofChange keyBoundsSpec)

/-- ITS FALSE NEIGHBOUR: 'it returns false'. Refute it at one input. -/
def keyBoundsWrong : ChangeSpec := { name := "keyBounds", fn := fun _ => fun
  | [d1, d2] => { results := [.lit (.bool false)], args := [d1, d2] }
  | _ => none }
def KeyBoundsWrongFalsely : Prop := keyBoundsRow.holds Try.pinned (OpenSpec.ofChange keyBoundsWrong)

/- THE SECOND FORM. 'bulk': how many values and letters a reading holds, each counted each time it is reached (what is shared counts as often as it is met; a slice's spare places count too). A statement '..UptoSaid' is the law's where the arguments, and the package variables that the reading takes, are together of bulk at most 1048576: NARROWER than '..Said'. Prove '..Said' where nothing that the law and all that it calls make is longer than what came in: it says more and counts as full. Else prove '..UptoSaid'. A law counts once. -/
mutual
def uptoBulk {H : Type} : DataW H → Nat
  | .lit (.string bytes) => bytes.length + 1
  | .lit _ => 1
  | .nil => 1
  | .ptr d => uptoBulk d + 1
  | .slice elems spare => uptoBulkAll elems + uptoBulkAll spare + 1
  | .agg parts => uptoBulkAll parts + 1
  | .iface _ d => uptoBulk d + 1
  | .map entries => uptoBulkEntries entries + 1
  | .held _ => 1
def uptoBulkAll {H : Type} : List (DataW H) → Nat
  | [] => 0
  | d :: r => uptoBulk d + uptoBulkAll r
def uptoBulkEntries {H : Type} : List (Lit × DataW H) → Nat
  | [] => 0
  | x :: r => uptoBulkEntry x + uptoBulkEntries r
def uptoBulkEntry {H : Type} : Lit × DataW H → Nat
  | (.string bytes, d) => bytes.length + uptoBulk d + 1
  | (_, d) => uptoBulk d + 1
 end
def uptoSmall : (H : Type) → List (DataW H) → Bool := fun _ ds => decide (uptoBulkAll ds ≤ 1048576)
def OpenSpec.upto (s : _root_.Go.ChangeSpec) : _root_.Go.OpenSpec := { _root_.Go.OpenSpec.ofChange s with cond := some uptoSmall }

/-- 'steamerlaw15.TagAsks', WHERE WHAT IT READS IS OF BULK AT MOST 1048576: true; the input reads as it did. -/
def tagAsksUptoRow : OpenClaim := { program := "ytbmccgiffplpjaa", sum := "cbabc4b188c58ea2276a1d31f9644e7921160bc37492f8b707193fd36548a34c", func := "steamer/steamerlaw15.TagAsks", spec := "tagAsks", apart := false, narrowed := true }
def TagAsksUptoSaid : Prop := tagAsksUptoRow.holds Try.pinned (OpenSpec.upto tagAsksSpec)

/-- 'steamerlaw15.TagTurned', WHERE WHAT IT READS IS OF BULK AT MOST 1048576: true; the input reads as it did. -/
def tagTurnedUptoRow : OpenClaim := { program := "ytbmccgiffplpjaa", sum := "cbabc4b188c58ea2276a1d31f9644e7921160bc37492f8b707193fd36548a34c", func := "steamer/steamerlaw15.TagTurned", spec := "tagTurned", apart := false, narrowed := true }
def TagTurnedUptoSaid : Prop := tagTurnedUptoRow.holds Try.pinned (OpenSpec.upto tagTurnedSpec)

/-- 'steamerlaw15.TagSames', WHERE WHAT IT READS IS OF BULK AT MOST 1048576: true; the input reads as it did. -/
def tagSamesUptoRow : OpenClaim := { program := "ytbmccgiffplpjaa", sum := "cbabc4b188c58ea2276a1d31f9644e7921160bc37492f8b707193fd36548a34c", func := "steamer/steamerlaw15.TagSames", spec := "tagSames", apart := false, narrowed := true }
def TagSamesUptoSaid : Prop := tagSamesUptoRow.holds Try.pinned (OpenSpec.upto tagSamesSpec)

/-- 'steamerlaw15.TagLong', WHERE WHAT IT READS IS OF BULK AT MOST 1048576: true; the input reads as it did. -/
def tagLongUptoRow : OpenClaim := { program := "ytbmccgiffplpjaa", sum := "cbabc4b188c58ea2276a1d31f9644e7921160bc37492f8b707193fd36548a34c", func := "steamer/steamerlaw15.TagLong", spec := "tagLong", apart := false, narrowed := true }
def TagLongUptoSaid : Prop := tagLongUptoRow.holds Try.pinned (OpenSpec.upto tagLongSpec)

/-- 'steamerlaw15.TagPlaces', WHERE WHAT IT READS IS OF BULK AT MOST 1048576: true; the input reads as it did. -/
def tagPlacesUptoRow : OpenClaim := { program := "ytbmccgiffplpjaa", sum := "cbabc4b188c58ea2276a1d31f9644e7921160bc37492f8b707193fd36548a34c", func := "steamer/steamerlaw15.TagPlaces", spec := "tagPlaces", apart := false, narrowed := true }
def TagPlacesUptoSaid : Prop := tagPlacesUptoRow.holds Try.pinned (OpenSpec.upto tagPlacesSpec)

/-- 'steamerlaw16.KeyAsks', WHERE WHAT IT READS IS OF BULK AT MOST 1048576: true; the input reads as it did. -/
def keyAsksUptoRow : OpenClaim := { program := "ytbmccgiffplpjaa", sum := "cbabc4b188c58ea2276a1d31f9644e7921160bc37492f8b707193fd36548a34c", func := "steamer/steamerlaw16.KeyAsks", spec := "keyAsks", apart := false, narrowed := true }
def KeyAsksUptoSaid : Prop := keyAsksUptoRow.holds Try.pinned (OpenSpec.upto keyAsksSpec)

/-- 'steamerlaw16.KeyRounds', WHERE WHAT IT READS IS OF BULK AT MOST 1048576: true; the input reads as it did. -/
def keyRoundsUptoRow : OpenClaim := { program := "ytbmccgiffplpjaa", sum := "cbabc4b188c58ea2276a1d31f9644e7921160bc37492f8b707193fd36548a34c", func := "steamer/steamerlaw16.KeyRounds", spec := "keyRounds", apart := false, narrowed := true }
def KeyRoundsUptoSaid : Prop := keyRoundsUptoRow.holds Try.pinned (OpenSpec.upto keyRoundsSpec)

/-- 'steamerlaw16.KeySalts', WHERE WHAT IT READS IS OF BULK AT MOST 1048576: true; the input reads as it did. -/
def keySaltsUptoRow : OpenClaim := { program := "ytbmccgiffplpjaa", sum := "cbabc4b188c58ea2276a1d31f9644e7921160bc37492f8b707193fd36548a34c", func := "steamer/steamerlaw16.KeySalts", spec := "keySalts", apart := false, narrowed := true }
def KeySaltsUptoSaid : Prop := keySaltsUptoRow.holds Try.pinned (OpenSpec.upto keySaltsSpec)

/-- 'steamerlaw16.KeyBounds', WHERE WHAT IT READS IS OF BULK AT MOST 1048576: true; the input reads as it did. -/
def keyBoundsUptoRow : OpenClaim := { program := "ytbmccgiffplpjaa", sum := "cbabc4b188c58ea2276a1d31f9644e7921160bc37492f8b707193fd36548a34c", func := "steamer/steamerlaw16.KeyBounds", spec := "keyBounds", apart := false, narrowed := true }
def KeyBoundsUptoSaid : Prop := keyBoundsUptoRow.holds Try.pinned (OpenSpec.upto keyBoundsSpec)

end Rows
end Go.Proofs.Ytbmccgiffplpjaa
