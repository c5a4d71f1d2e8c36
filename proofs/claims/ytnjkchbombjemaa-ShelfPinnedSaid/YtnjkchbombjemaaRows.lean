/-
  No cell of these rows narrows 'for every input' (looked for: loops, veiled, ifaces, maps, wideKeys, modest, calm, conditions, laid).
  DERIVED. THE GIVEN ROWS OF THIS SEAT. 9 by the template 'for every input the law returns true; each argument reads behind the call as it read before'; 0 by the template 'total and deterministic' (their statements: YtnjkchbombjemaaTotals.lean).
  GIVEN WITH THE SEED: the statements are not yours to turn. If you find one false, say at which input.
  Laid BY PROGRAM, IN A SANDBOX (cutbox-rows.mjs): the forced cells as the released guide's own fill.sh prints them over the translation 28a55d9f89a081cc… (all of the seat's roots in one cut). By AI agents, Wed Nov 11 2026. No macro, syntax, notation, axiom, sorry.
-/
import Derived.Test.YtnjkchbombjemaaChecked
import GoSem.Claim
import GoSem.ClaimJoined
import GoSem.ClaimMapViews
import Derived.JoinedTies
import Derived.KernelRfl
namespace Go.Proofs.Ytnjkchbombjemaa
/- THE CELL 'sum', in the pinned program and in every row, IS THE sha256 OF THE DUMP (.gsa) THAT YtnjkchbombjemaaProg.lean LOADS. Nothing in Lean hashes anything: it is a label: what it is worth is what the hold of that sum in a sandbox is worth. -/
noncomputable def Try.pinned : Pinned := { name := "ytnjkchbombjemaa", sum := "28a55d9f89a081ccac939fbf239c2687634c177e4b865aa001da4c154a3a7a50", checked := Try.checked }
namespace Rows
def none {H : Type} : Left H := { results := [], args := [] }

/-- 'manglelaw10.ShelfIs': WHATEVER THE INPUT: true; the input reads as it did. -/
def shelfIsSpec : ChangeSpec := { name := "shelfIs", fn := fun _ => fun
  | [d1, d2, d3] => { results := [.lit (.bool true)], args := [d1, d2, d3] }
  | _ => none }
def shelfIsRow : OpenClaim := { program := "ytnjkchbombjemaa", sum := "28a55d9f89a081ccac939fbf239c2687634c177e4b865aa001da4c154a3a7a50", func := "mangle/manglelaw10.ShelfIs", spec := "shelfIs", apart := false }
def ShelfIsSaid : Prop := shelfIsRow.holds Try.pinned (OpenSpec.ofChange shelfIsSpec)

/-- ITS FALSE NEIGHBOUR: 'it returns false'. Refute it at one input. -/
def shelfIsWrong : ChangeSpec := { name := "shelfIs", fn := fun _ => fun
  | [d1, d2, d3] => { results := [.lit (.bool false)], args := [d1, d2, d3] }
  | _ => none }
def ShelfIsWrongFalsely : Prop := shelfIsRow.holds Try.pinned (OpenSpec.ofChange shelfIsWrong)

/-- 'manglelaw10.ShelfOwn': WHATEVER THE INPUT: true; the input reads as it did. -/
def shelfOwnSpec : ChangeSpec := { name := "shelfOwn", fn := fun _ => fun
  | [d] => { results := [.lit (.bool true)], args := [d] }
  | _ => none }
def shelfOwnRow : OpenClaim := { program := "ytnjkchbombjemaa", sum := "28a55d9f89a081ccac939fbf239c2687634c177e4b865aa001da4c154a3a7a50", func := "mangle/manglelaw10.ShelfOwn", spec := "shelfOwn", apart := false }
def ShelfOwnSaid : Prop := shelfOwnRow.holds Try.pinned (OpenSpec.ofChange shelfOwnSpec)

/-- ITS FALSE NEIGHBOUR: 'it returns false'. Refute it at one input. -/
def shelfOwnWrong : ChangeSpec := { name := "shelfOwn", fn := fun _ => fun
  | [d] => { results := [.lit (.bool false)], args := [d] }
  | _ => none }
def ShelfOwnWrongFalsely : Prop := shelfOwnRow.holds Try.pinned (OpenSpec.ofChange shelfOwnWrong)

/-- 'manglelaw10.ShelfBytes': WHATEVER THE INPUT: true; the input reads as it did. -/
def shelfBytesSpec : ChangeSpec := { name := "shelfBytes", fn := fun _ => fun
  | [d1, d2] => { results := [.lit (.bool true)], args := [d1, d2] }
  | _ => none }
def shelfBytesRow : OpenClaim := { program := "ytnjkchbombjemaa", sum := "28a55d9f89a081ccac939fbf239c2687634c177e4b865aa001da4c154a3a7a50", func := "mangle/manglelaw10.ShelfBytes", spec := "shelfBytes", apart := false }
def ShelfBytesSaid : Prop := shelfBytesRow.holds Try.pinned (OpenSpec.ofChange shelfBytesSpec)

/-- ITS FALSE NEIGHBOUR: 'it returns false'. Refute it at one input. -/
def shelfBytesWrong : ChangeSpec := { name := "shelfBytes", fn := fun _ => fun
  | [d1, d2] => { results := [.lit (.bool false)], args := [d1, d2] }
  | _ => none }
def ShelfBytesWrongFalsely : Prop := shelfBytesRow.holds Try.pinned (OpenSpec.ofChange shelfBytesWrong)

/-- 'manglelaw10.ShelfNames': WHATEVER THE INPUT: true; the input reads as it did. -/
def shelfNamesSpec : ChangeSpec := { name := "shelfNames", fn := fun _ => fun
  | [d] => { results := [.lit (.bool true)], args := [d] }
  | _ => none }
def shelfNamesRow : OpenClaim := { program := "ytnjkchbombjemaa", sum := "28a55d9f89a081ccac939fbf239c2687634c177e4b865aa001da4c154a3a7a50", func := "mangle/manglelaw10.ShelfNames", spec := "shelfNames", apart := false }
def ShelfNamesSaid : Prop := shelfNamesRow.holds Try.pinned (OpenSpec.ofChange shelfNamesSpec)

/-- ITS FALSE NEIGHBOUR: 'it returns false'. Refute it at one input. -/
def shelfNamesWrong : ChangeSpec := { name := "shelfNames", fn := fun _ => fun
  | [d] => { results := [.lit (.bool false)], args := [d] }
  | _ => none }
def ShelfNamesWrongFalsely : Prop := shelfNamesRow.holds Try.pinned (OpenSpec.ofChange shelfNamesWrong)

/-- 'manglelaw10.ShelfFreed': WHATEVER THE INPUT: true; the input reads as it did. -/
def shelfFreedSpec : ChangeSpec := { name := "shelfFreed", fn := fun _ => fun
  | [d1, d2] => { results := [.lit (.bool true)], args := [d1, d2] }
  | _ => none }
def shelfFreedRow : OpenClaim := { program := "ytnjkchbombjemaa", sum := "28a55d9f89a081ccac939fbf239c2687634c177e4b865aa001da4c154a3a7a50", func := "mangle/manglelaw10.ShelfFreed", spec := "shelfFreed", apart := false }
def ShelfFreedSaid : Prop := shelfFreedRow.holds Try.pinned (OpenSpec.ofChange shelfFreedSpec)

/-- ITS FALSE NEIGHBOUR: 'it returns false'. Refute it at one input. -/
def shelfFreedWrong : ChangeSpec := { name := "shelfFreed", fn := fun _ => fun
  | [d1, d2] => { results := [.lit (.bool false)], args := [d1, d2] }
  | _ => none }
def ShelfFreedWrongFalsely : Prop := shelfFreedRow.holds Try.pinned (OpenSpec.ofChange shelfFreedWrong)

/-- 'manglelaw10.ShelfPlays': WHATEVER THE INPUT: true; the input reads as it did. -/
def shelfPlaysSpec : ChangeSpec := { name := "shelfPlays", fn := fun _ => fun
  | [d] => { results := [.lit (.bool true)], args := [d] }
  | _ => none }
def shelfPlaysRow : OpenClaim := { program := "ytnjkchbombjemaa", sum := "28a55d9f89a081ccac939fbf239c2687634c177e4b865aa001da4c154a3a7a50", func := "mangle/manglelaw10.ShelfPlays", spec := "shelfPlays", apart := false }
def ShelfPlaysSaid : Prop := shelfPlaysRow.holds Try.pinned (OpenSpec.ofChange shelfPlaysSpec)

/-- ITS FALSE NEIGHBOUR: 'it returns false'. Refute it at one input. -/
def shelfPlaysWrong : ChangeSpec := { name := "shelfPlays", fn := fun _ => fun
  | [d] => { results := [.lit (.bool false)], args := [d] }
  | _ => none }
def ShelfPlaysWrongFalsely : Prop := shelfPlaysRow.holds Try.pinned (OpenSpec.ofChange shelfPlaysWrong)

/-- 'manglelaw10.ShelfPinned': WHATEVER THE INPUT: true; the input reads as it did. -/
def shelfPinnedSpec : ChangeSpec := { name := "shelfPinned", fn := fun _ => fun
  | [d1, d2] => { results := [.lit (.bool true)], args := [d1, d2] }
  | _ => none }
def shelfPinnedRow : OpenClaim := { program := "ytnjkchbombjemaa", sum := "28a55d9f89a081ccac939fbf239c2687634c177e4b865aa001da4c154a3a7a50", func := "mangle/manglelaw10.ShelfPinned", spec := "shelfPinned", apart := false }
def ShelfPinnedSaid : Prop := shelfPinnedRow.holds Try.pinned (OpenSpec.ofChange shelfPinnedSpec)

/-- ITS FALSE NEIGHBOUR: 'it returns false'. Refute it at one input. -/
def shelfPinnedWrong : ChangeSpec := { name := "shelfPinned", fn := fun _ => fun
  | [d1, d2] => { results := [.lit (.bool false)], args := [d1, d2] }
  | _ => none }
def ShelfPinnedWrongFalsely : Prop := shelfPinnedRow.holds Try.pinned (OpenSpec.ofChange shelfPinnedWrong)

/-- 'manglelaw10.ShelfOfNothing': WHATEVER THE INPUT: true; the input reads as it did. -/
def shelfOfNothingSpec : ChangeSpec := { name := "shelfOfNothing", fn := fun _ => fun
  | [d1, d2] => { results := [.lit (.bool true)], args := [d1, d2] }
  | _ => none }
def shelfOfNothingRow : OpenClaim := { program := "ytnjkchbombjemaa", sum := "28a55d9f89a081ccac939fbf239c2687634c177e4b865aa001da4c154a3a7a50", func := "mangle/manglelaw10.ShelfOfNothing", spec := "shelfOfNothing", apart := false }
def ShelfOfNothingSaid : Prop := shelfOfNothingRow.holds Try.pinned (OpenSpec.ofChange shelfOfNothingSpec)

/-- ITS FALSE NEIGHBOUR: 'it returns false'. Refute it at one input. -/
def shelfOfNothingWrong : ChangeSpec := { name := "shelfOfNothing", fn := fun _ => fun
  | [d1, d2] => { results := [.lit (.bool false)], args := [d1, d2] }
  | _ => none }
def ShelfOfNothingWrongFalsely : Prop := shelfOfNothingRow.holds Try.pinned (OpenSpec.ofChange shelfOfNothingWrong)

/-- 'manglelaw10.ShelfUnpin': WHATEVER THE INPUT: true; the input reads as it did. -/
def shelfUnpinSpec : ChangeSpec := { name := "shelfUnpin", fn := fun _ => fun
  | [d1, d2] => { results := [.lit (.bool true)], args := [d1, d2] }
  | _ => none }
def shelfUnpinRow : OpenClaim := { program := "ytnjkchbombjemaa", sum := "28a55d9f89a081ccac939fbf239c2687634c177e4b865aa001da4c154a3a7a50", func := "mangle/manglelaw10.ShelfUnpin", spec := "shelfUnpin", apart := false }
def ShelfUnpinSaid : Prop := shelfUnpinRow.holds Try.pinned (OpenSpec.ofChange shelfUnpinSpec)

/-- ITS FALSE NEIGHBOUR: 'it returns false'. Refute it at one input. -/
def shelfUnpinWrong : ChangeSpec := { name := "shelfUnpin", fn := fun _ => fun
  | [d1, d2] => { results := [.lit (.bool false)], args := [d1, d2] }
  | _ => none }
def ShelfUnpinWrongFalsely : Prop := shelfUnpinRow.holds Try.pinned (OpenSpec.ofChange shelfUnpinWrong)

/- THE SECOND FORM. 'bulk': how many values and letters a reading holds, each counted each time it is reached (what is shared counts as often as it is met; a slice's spare places count too). A statement '..UptoSaid' is the law's where the arguments, and the package variables that the reading takes, are together of bulk at most 1048576: NARROWER than '..Said'. Prove '..Said' where nothing that the law and all that it calls make is longer than what came in: it says more and counts as full. Else prove '..UptoSaid'. A law counts once. -/
mutual
def uptoBulk {H : Type} : DataW H → Nat
  | .lit (.string bytes) => bytes.length + 1
  | .lit _ => 1
  | .nil => 1
  | .ptr d => uptoBulk d + 1
  | .slice elems spare => uptoBulkAll elems + uptoBulkAll spare + 1
  | .agg parts => uptoBulkAll parts + 1
  | .iface _ d => uptoBulk d + 1
  | .map entries => uptoBulkEntries entries + 1
  | .held _ => 1
def uptoBulkAll {H : Type} : List (DataW H) → Nat
  | [] => 0
  | d :: r => uptoBulk d + uptoBulkAll r
def uptoBulkEntries {H : Type} : List (Lit × DataW H) → Nat
  | [] => 0
  | x :: r => uptoBulkEntry x + uptoBulkEntries r
def uptoBulkEntry {H : Type} : Lit × DataW H → Nat
  | (.string bytes, d) => bytes.length + uptoBulk d + 1
  | (_, d) => uptoBulk d + 1
 end
def uptoSmall : (H : Type) → List (DataW H) → Bool := fun _ ds => decide (uptoBulkAll ds ≤ 1048576)
def OpenSpec.upto (s : _root_.Go.ChangeSpec) : _root_.Go.OpenSpec := { _root_.Go.OpenSpec.ofChange s with cond := some uptoSmall }

/-- 'manglelaw10.ShelfIs', WHERE WHAT IT READS IS OF BULK AT MOST 1048576: true; the input reads as it did. -/
def shelfIsUptoRow : OpenClaim := { program := "ytnjkchbombjemaa", sum := "28a55d9f89a081ccac939fbf239c2687634c177e4b865aa001da4c154a3a7a50", func := "mangle/manglelaw10.ShelfIs", spec := "shelfIs", apart := false, narrowed := true }
def ShelfIsUptoSaid : Prop := shelfIsUptoRow.holds Try.pinned (OpenSpec.upto shelfIsSpec)

/-- 'manglelaw10.ShelfOwn', WHERE WHAT IT READS IS OF BULK AT MOST 1048576: true; the input reads as it did. -/
def shelfOwnUptoRow : OpenClaim := { program := "ytnjkchbombjemaa", sum := "28a55d9f89a081ccac939fbf239c2687634c177e4b865aa001da4c154a3a7a50", func := "mangle/manglelaw10.ShelfOwn", spec := "shelfOwn", apart := false, narrowed := true }
def ShelfOwnUptoSaid : Prop := shelfOwnUptoRow.holds Try.pinned (OpenSpec.upto shelfOwnSpec)

/-- 'manglelaw10.ShelfBytes', WHERE WHAT IT READS IS OF BULK AT MOST 1048576: true; the input reads as it did. -/
def shelfBytesUptoRow : OpenClaim := { program := "ytnjkchbombjemaa", sum := "28a55d9f89a081ccac939fbf239c2687634c177e4b865aa001da4c154a3a7a50", func := "mangle/manglelaw10.ShelfBytes", spec := "shelfBytes", apart := false, narrowed := true }
def ShelfBytesUptoSaid : Prop := shelfBytesUptoRow.holds Try.pinned (OpenSpec.upto shelfBytesSpec)

/-- 'manglelaw10.ShelfNames', WHERE WHAT IT READS IS OF BULK AT MOST 1048576: true; the input reads as it did. -/
def shelfNamesUptoRow : OpenClaim := { program := "ytnjkchbombjemaa", sum := "28a55d9f89a081ccac939fbf239c2687634c177e4b865aa001da4c154a3a7a50", func := "mangle/manglelaw10.ShelfNames", spec := "shelfNames", apart := false, narrowed := true }
def ShelfNamesUptoSaid : Prop := shelfNamesUptoRow.holds Try.pinned (OpenSpec.upto shelfNamesSpec)

/-- 'manglelaw10.ShelfFreed', WHERE WHAT IT READS IS OF BULK AT MOST 1048576: true; the input reads as it did. -/
def shelfFreedUptoRow : OpenClaim := { program := "ytnjkchbombjemaa", sum := "28a55d9f89a081ccac939fbf239c2687634c177e4b865aa001da4c154a3a7a50", func := "mangle/manglelaw10.ShelfFreed", spec := "shelfFreed", apart := false, narrowed := true }
def ShelfFreedUptoSaid : Prop := shelfFreedUptoRow.holds Try.pinned (OpenSpec.upto shelfFreedSpec)

/-- 'manglelaw10.ShelfPlays', WHERE WHAT IT READS IS OF BULK AT MOST 1048576: true; the input reads as it did. -/
def shelfPlaysUptoRow : OpenClaim := { program := "ytnjkchbombjemaa", sum := "28a55d9f89a081ccac939fbf239c2687634c177e4b865aa001da4c154a3a7a50", func := "mangle/manglelaw10.ShelfPlays", spec := "shelfPlays", apart := false, narrowed := true }
def ShelfPlaysUptoSaid : Prop := shelfPlaysUptoRow.holds Try.pinned (OpenSpec.upto shelfPlaysSpec)

/-- 'manglelaw10.ShelfPinned', WHERE WHAT IT READS IS OF BULK AT MOST 1048576: true; the input reads as it did. -/
def shelfPinnedUptoRow : OpenClaim := { program := "ytnjkchbombjemaa", sum := "28a55d9f89a081ccac939fbf239c2687634c177e4b865aa001da4c154a3a7a50", func := "mangle/manglelaw10.ShelfPinned", spec := "shelfPinned", apart := false, narrowed := true }
def ShelfPinnedUptoSaid : Prop := shelfPinnedUptoRow.holds Try.pinned (OpenSpec.upto shelfPinnedSpec)

/-- 'manglelaw10.ShelfOfNothing', WHERE WHAT IT READS IS OF BULK AT MOST 1048576: true; the input reads as it did. -/
def shelfOfNothingUptoRow : OpenClaim := { program := "ytnjkchbombjemaa", sum := "28a55d9f89a081ccac939fbf239c2687634c177e4b865aa001da4c154a3a7a50", func := "mangle/manglelaw10.ShelfOfNothing", spec := "shelfOfNothing", apart := false, narrowed := true }
def ShelfOfNothingUptoSaid : Prop := shelfOfNothingUptoRow.holds Try.pinned (OpenSpec.upto shelfOfNothingSpec)

/-- 'manglelaw10.ShelfUnpin', WHERE WHAT IT READS IS OF BULK AT MOST 1048576: true; the input reads as it did. -/
def shelfUnpinUptoRow : OpenClaim := { program := "ytnjkchbombjemaa", sum := "28a55d9f89a081ccac939fbf239c2687634c177e4b865aa001da4c154a3a7a50", func := "mangle/manglelaw10.ShelfUnpin", spec := "shelfUnpin", apart := false, narrowed := true }
def ShelfUnpinUptoSaid : Prop := shelfUnpinUptoRow.holds Try.pinned (OpenSpec.upto shelfUnpinSpec)

end Rows
end Go.Proofs.Ytnjkchbombjemaa
