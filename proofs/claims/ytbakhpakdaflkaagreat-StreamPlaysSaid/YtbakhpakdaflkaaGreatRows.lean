/-
  No cell of these rows narrows 'for every input' (looked for: loops, veiled, ifaces, maps, wideKeys, modest, calm, conditions, laid).
  DERIVED. THE GIVEN ROWS OF THIS SEAT. 9 by the template 'for every input the law returns true; each argument reads behind the call as it read before'; 0 by the template 'total and deterministic' (their statements: YtbakhpakdaflkaaGreatTotals.lean).
  GIVEN WITH THE SEED: the statements are not yours to turn. If you find one false, say at which input.
  Laid BY PROGRAM, IN A SANDBOX (cutbox-rows.mjs): the forced cells as the released guide's own fill.sh prints them over the translation 8302c945c394a96e… (all of the seat's roots in one cut). By AI agents, Wed Nov 11 2026. No macro, syntax, notation, axiom, sorry.
-/
import Derived.Test.YtbakhpakdaflkaaGreatChecked
import GoSem.Claim
import GoSem.ClaimJoined
import GoSem.ClaimMapViews
import Derived.JoinedTies
import Derived.KernelRfl
namespace Go.Proofs.YtbakhpakdaflkaaGreat
/- THE CELL 'sum', in the pinned program and in every row, IS THE sha256 OF THE DUMP (.gsa) THAT YtbakhpakdaflkaaGreatProg.lean LOADS. Nothing in Lean hashes anything: it is a label: what it is worth is what the hold of that sum in a sandbox is worth. -/
noncomputable def Tryz.pinned : Pinned := { name := "ytbakhpakdaflkaagreat", sum := "8302c945c394a96e17f9dbbd1d5c8146ed24856ef26564daaaaadc7f8c7b73f4", checked := Tryz.checked }
namespace Rows
def none {H : Type} : Left H := { results := [], args := [] }

/-- 'manglelaw9.StreamKeeps': WHATEVER THE INPUT: true; the input reads as it did. -/
def streamKeepsSpec : ChangeSpec := { name := "streamKeeps", fn := fun _ => fun
  | [d1, d2] => { results := [.lit (.bool true)], args := [d1, d2] }
  | _ => none }
def streamKeepsRow : OpenClaim := { program := "ytbakhpakdaflkaagreat", sum := "8302c945c394a96e17f9dbbd1d5c8146ed24856ef26564daaaaadc7f8c7b73f4", func := "mangle/manglelaw9.StreamKeeps", spec := "streamKeeps", inPlace := ["internal/bytealg.Count", "internal/bytealg.IndexByte", "internal/bytealg.Index"], unfollowed := true, recurses := true, named := ["internal/bytealg.MaxLen"], apart := false }
def StreamKeepsSaid : Prop := streamKeepsRow.holds Tryz.pinned (OpenSpec.ofChange streamKeepsSpec)

/-- ITS FALSE NEIGHBOUR: 'it returns false'. Refute it at one input. -/
def streamKeepsWrong : ChangeSpec := { name := "streamKeeps", fn := fun _ => fun
  | [d1, d2] => { results := [.lit (.bool false)], args := [d1, d2] }
  | _ => none }
def StreamKeepsWrongFalsely : Prop := streamKeepsRow.holds Tryz.pinned (OpenSpec.ofChange streamKeepsWrong)

/-- 'manglelaw9.StreamLast': WHATEVER THE INPUT: true; the input reads as it did. -/
def streamLastSpec : ChangeSpec := { name := "streamLast", fn := fun _ => fun
  | [d1, d2] => { results := [.lit (.bool true)], args := [d1, d2] }
  | _ => none }
def streamLastRow : OpenClaim := { program := "ytbakhpakdaflkaagreat", sum := "8302c945c394a96e17f9dbbd1d5c8146ed24856ef26564daaaaadc7f8c7b73f4", func := "mangle/manglelaw9.StreamLast", spec := "streamLast", inPlace := ["internal/bytealg.Count", "internal/bytealg.IndexByte", "internal/bytealg.Index"], unfollowed := true, recurses := true, named := ["internal/bytealg.MaxLen"], apart := false }
def StreamLastSaid : Prop := streamLastRow.holds Tryz.pinned (OpenSpec.ofChange streamLastSpec)

/-- ITS FALSE NEIGHBOUR: 'it returns false'. Refute it at one input. -/
def streamLastWrong : ChangeSpec := { name := "streamLast", fn := fun _ => fun
  | [d1, d2] => { results := [.lit (.bool false)], args := [d1, d2] }
  | _ => none }
def StreamLastWrongFalsely : Prop := streamLastRow.holds Tryz.pinned (OpenSpec.ofChange streamLastWrong)

/-- 'manglelaw9.StreamParts': WHATEVER THE INPUT: true; the input reads as it did. -/
def streamPartsSpec : ChangeSpec := { name := "streamParts", fn := fun _ => fun
  | [d1, d2, d3] => { results := [.lit (.bool true)], args := [d1, d2, d3] }
  | _ => none }
def streamPartsRow : OpenClaim := { program := "ytbakhpakdaflkaagreat", sum := "8302c945c394a96e17f9dbbd1d5c8146ed24856ef26564daaaaadc7f8c7b73f4", func := "mangle/manglelaw9.StreamParts", spec := "streamParts", inPlace := ["internal/bytealg.Count", "internal/bytealg.IndexByte", "internal/bytealg.Index"], unfollowed := true, recurses := true, named := ["internal/bytealg.MaxLen"], apart := false }
def StreamPartsSaid : Prop := streamPartsRow.holds Tryz.pinned (OpenSpec.ofChange streamPartsSpec)

/-- ITS FALSE NEIGHBOUR: 'it returns false'. Refute it at one input. -/
def streamPartsWrong : ChangeSpec := { name := "streamParts", fn := fun _ => fun
  | [d1, d2, d3] => { results := [.lit (.bool false)], args := [d1, d2, d3] }
  | _ => none }
def StreamPartsWrongFalsely : Prop := streamPartsRow.holds Tryz.pinned (OpenSpec.ofChange streamPartsWrong)

/-- 'manglelaw9.StreamTwo': WHATEVER THE INPUT: true; the input reads as it did. -/
def streamTwoSpec : ChangeSpec := { name := "streamTwo", fn := fun _ => fun
  | [d1, d2, d3] => { results := [.lit (.bool true)], args := [d1, d2, d3] }
  | _ => none }
def streamTwoRow : OpenClaim := { program := "ytbakhpakdaflkaagreat", sum := "8302c945c394a96e17f9dbbd1d5c8146ed24856ef26564daaaaadc7f8c7b73f4", func := "mangle/manglelaw9.StreamTwo", spec := "streamTwo", inPlace := ["internal/bytealg.Count", "internal/bytealg.IndexByte", "internal/bytealg.Index"], unfollowed := true, recurses := true, named := ["internal/bytealg.MaxLen"], apart := false }
def StreamTwoSaid : Prop := streamTwoRow.holds Tryz.pinned (OpenSpec.ofChange streamTwoSpec)

/-- ITS FALSE NEIGHBOUR: 'it returns false'. Refute it at one input. -/
def streamTwoWrong : ChangeSpec := { name := "streamTwo", fn := fun _ => fun
  | [d1, d2, d3] => { results := [.lit (.bool false)], args := [d1, d2, d3] }
  | _ => none }
def StreamTwoWrongFalsely : Prop := streamTwoRow.holds Tryz.pinned (OpenSpec.ofChange streamTwoWrong)

/-- 'manglelaw9.StreamDict': WHATEVER THE INPUT: true; the input reads as it did. -/
def streamDictSpec : ChangeSpec := { name := "streamDict", fn := fun _ => fun
  | [d1, d2] => { results := [.lit (.bool true)], args := [d1, d2] }
  | _ => none }
def streamDictRow : OpenClaim := { program := "ytbakhpakdaflkaagreat", sum := "8302c945c394a96e17f9dbbd1d5c8146ed24856ef26564daaaaadc7f8c7b73f4", func := "mangle/manglelaw9.StreamDict", spec := "streamDict", inPlace := ["internal/bytealg.Count", "internal/bytealg.IndexByte", "internal/bytealg.Index"], unfollowed := true, recurses := true, named := ["internal/bytealg.MaxLen"], apart := false }
def StreamDictSaid : Prop := streamDictRow.holds Tryz.pinned (OpenSpec.ofChange streamDictSpec)

/-- ITS FALSE NEIGHBOUR: 'it returns false'. Refute it at one input. -/
def streamDictWrong : ChangeSpec := { name := "streamDict", fn := fun _ => fun
  | [d1, d2] => { results := [.lit (.bool false)], args := [d1, d2] }
  | _ => none }
def StreamDictWrongFalsely : Prop := streamDictRow.holds Tryz.pinned (OpenSpec.ofChange streamDictWrong)

/-- 'manglelaw9.StreamPlays': WHATEVER THE INPUT: true; the input reads as it did. -/
def streamPlaysSpec : ChangeSpec := { name := "streamPlays", fn := fun _ => fun
  | [d1, d2, d3, d4] => { results := [.lit (.bool true)], args := [d1, d2, d3, d4] }
  | _ => none }
def streamPlaysRow : OpenClaim := { program := "ytbakhpakdaflkaagreat", sum := "8302c945c394a96e17f9dbbd1d5c8146ed24856ef26564daaaaadc7f8c7b73f4", func := "mangle/manglelaw9.StreamPlays", spec := "streamPlays", inPlace := ["internal/bytealg.Count", "internal/bytealg.IndexByte", "internal/bytealg.Index"], unfollowed := true, recurses := true, named := ["internal/bytealg.MaxLen"], apart := false }
def StreamPlaysSaid : Prop := streamPlaysRow.holds Tryz.pinned (OpenSpec.ofChange streamPlaysSpec)

/-- ITS FALSE NEIGHBOUR: 'it returns false'. Refute it at one input. -/
def streamPlaysWrong : ChangeSpec := { name := "streamPlays", fn := fun _ => fun
  | [d1, d2, d3, d4] => { results := [.lit (.bool false)], args := [d1, d2, d3, d4] }
  | _ => none }
def StreamPlaysWrongFalsely : Prop := streamPlaysRow.holds Tryz.pinned (OpenSpec.ofChange streamPlaysWrong)

/-- 'manglelaw9.StreamBack': WHATEVER THE INPUT: true; the input reads as it did. -/
def streamBackSpec : ChangeSpec := { name := "streamBack", fn := fun _ => fun
  | [d1, d2, d3, d4] => { results := [.lit (.bool true)], args := [d1, d2, d3, d4] }
  | _ => none }
def streamBackRow : OpenClaim := { program := "ytbakhpakdaflkaagreat", sum := "8302c945c394a96e17f9dbbd1d5c8146ed24856ef26564daaaaadc7f8c7b73f4", func := "mangle/manglelaw9.StreamBack", spec := "streamBack", inPlace := ["internal/bytealg.Count", "internal/bytealg.IndexByte", "internal/bytealg.Index"], unfollowed := true, recurses := true, named := ["internal/bytealg.MaxLen"], apart := false }
def StreamBackSaid : Prop := streamBackRow.holds Tryz.pinned (OpenSpec.ofChange streamBackSpec)

/-- ITS FALSE NEIGHBOUR: 'it returns false'. Refute it at one input. -/
def streamBackWrong : ChangeSpec := { name := "streamBack", fn := fun _ => fun
  | [d1, d2, d3, d4] => { results := [.lit (.bool false)], args := [d1, d2, d3, d4] }
  | _ => none }
def StreamBackWrongFalsely : Prop := streamBackRow.holds Tryz.pinned (OpenSpec.ofChange streamBackWrong)

/-- 'manglelaw9.StreamEnds': WHATEVER THE INPUT: true; the input reads as it did. -/
def streamEndsSpec : ChangeSpec := { name := "streamEnds", fn := fun _ => fun
  | [d1, d2, d3] => { results := [.lit (.bool true)], args := [d1, d2, d3] }
  | _ => none }
def streamEndsRow : OpenClaim := { program := "ytbakhpakdaflkaagreat", sum := "8302c945c394a96e17f9dbbd1d5c8146ed24856ef26564daaaaadc7f8c7b73f4", func := "mangle/manglelaw9.StreamEnds", spec := "streamEnds", inPlace := ["internal/bytealg.Count", "internal/bytealg.IndexByte", "internal/bytealg.Index"], unfollowed := true, recurses := true, named := ["internal/bytealg.MaxLen"], apart := false }
def StreamEndsSaid : Prop := streamEndsRow.holds Tryz.pinned (OpenSpec.ofChange streamEndsSpec)

/-- ITS FALSE NEIGHBOUR: 'it returns false'. Refute it at one input. -/
def streamEndsWrong : ChangeSpec := { name := "streamEnds", fn := fun _ => fun
  | [d1, d2, d3] => { results := [.lit (.bool false)], args := [d1, d2, d3] }
  | _ => none }
def StreamEndsWrongFalsely : Prop := streamEndsRow.holds Tryz.pinned (OpenSpec.ofChange streamEndsWrong)

/-- 'manglelaw9.StreamTotal': WHATEVER THE INPUT: true; the input reads as it did. -/
def streamTotalSpec : ChangeSpec := { name := "streamTotal", fn := fun _ => fun
  | [d1, d2, d3] => { results := [.lit (.bool true)], args := [d1, d2, d3] }
  | _ => none }
def streamTotalRow : OpenClaim := { program := "ytbakhpakdaflkaagreat", sum := "8302c945c394a96e17f9dbbd1d5c8146ed24856ef26564daaaaadc7f8c7b73f4", func := "mangle/manglelaw9.StreamTotal", spec := "streamTotal", inPlace := ["internal/bytealg.Count", "internal/bytealg.IndexByte", "internal/bytealg.Index"], unfollowed := true, recurses := true, named := ["internal/bytealg.MaxLen"], apart := false }
def StreamTotalSaid : Prop := streamTotalRow.holds Tryz.pinned (OpenSpec.ofChange streamTotalSpec)

/-- ITS FALSE NEIGHBOUR: 'it returns false'. Refute it at one input. -/
def streamTotalWrong : ChangeSpec := { name := "streamTotal", fn := fun _ => fun
  | [d1, d2, d3] => { results := [.lit (.bool false)], args := [d1, d2, d3] }
  | _ => none }
def StreamTotalWrongFalsely : Prop := streamTotalRow.holds Tryz.pinned (OpenSpec.ofChange streamTotalWrong)

/- THE SECOND FORM. 'bulk': how many values and letters a reading holds, each counted each time it is reached (what is shared counts as often as it is met; a slice's spare places count too). A statement '..UptoSaid' is the law's where the arguments, and the package variables that the reading takes, are together of bulk at most 1048576: NARROWER than '..Said'. Prove '..Said' where nothing that the law and all that it calls make is longer than what came in: it says more and counts as full. Else prove '..UptoSaid'. A law counts once. -/
mutual
def uptoBulk {H : Type} : DataW H → Nat
  | .lit (.string bytes) => bytes.length + 1
  | .lit _ => 1
  | .nil => 1
  | .ptr d => uptoBulk d + 1
  | .slice elems spare => uptoBulkAll elems + uptoBulkAll spare + 1
  | .agg parts => uptoBulkAll parts + 1
  | .iface _ d => uptoBulk d + 1
  | .map entries => uptoBulkEntries entries + 1
  | .held _ => 1
def uptoBulkAll {H : Type} : List (DataW H) → Nat
  | [] => 0
  | d :: r => uptoBulk d + uptoBulkAll r
def uptoBulkEntries {H : Type} : List (Lit × DataW H) → Nat
  | [] => 0
  | x :: r => uptoBulkEntry x + uptoBulkEntries r
def uptoBulkEntry {H : Type} : Lit × DataW H → Nat
  | (.string bytes, d) => bytes.length + uptoBulk d + 1
  | (_, d) => uptoBulk d + 1
 end
def uptoSmall : (H : Type) → List (DataW H) → Bool := fun _ ds => decide (uptoBulkAll ds ≤ 1048576)
def OpenSpec.upto (s : _root_.Go.ChangeSpec) : _root_.Go.OpenSpec := { _root_.Go.OpenSpec.ofChange s with cond := some uptoSmall }

/-- 'manglelaw9.StreamKeeps', WHERE WHAT IT READS IS OF BULK AT MOST 1048576: true; the input reads as it did. -/
def streamKeepsUptoRow : OpenClaim := { program := "ytbakhpakdaflkaagreat", sum := "8302c945c394a96e17f9dbbd1d5c8146ed24856ef26564daaaaadc7f8c7b73f4", func := "mangle/manglelaw9.StreamKeeps", spec := "streamKeeps", inPlace := ["internal/bytealg.Count", "internal/bytealg.IndexByte", "internal/bytealg.Index"], unfollowed := true, recurses := true, named := ["internal/bytealg.MaxLen"], apart := false, narrowed := true }
def StreamKeepsUptoSaid : Prop := streamKeepsUptoRow.holds Tryz.pinned (OpenSpec.upto streamKeepsSpec)

/-- 'manglelaw9.StreamLast', WHERE WHAT IT READS IS OF BULK AT MOST 1048576: true; the input reads as it did. -/
def streamLastUptoRow : OpenClaim := { program := "ytbakhpakdaflkaagreat", sum := "8302c945c394a96e17f9dbbd1d5c8146ed24856ef26564daaaaadc7f8c7b73f4", func := "mangle/manglelaw9.StreamLast", spec := "streamLast", inPlace := ["internal/bytealg.Count", "internal/bytealg.IndexByte", "internal/bytealg.Index"], unfollowed := true, recurses := true, named := ["internal/bytealg.MaxLen"], apart := false, narrowed := true }
def StreamLastUptoSaid : Prop := streamLastUptoRow.holds Tryz.pinned (OpenSpec.upto streamLastSpec)

/-- 'manglelaw9.StreamParts', WHERE WHAT IT READS IS OF BULK AT MOST 1048576: true; the input reads as it did. -/
def streamPartsUptoRow : OpenClaim := { program := "ytbakhpakdaflkaagreat", sum := "8302c945c394a96e17f9dbbd1d5c8146ed24856ef26564daaaaadc7f8c7b73f4", func := "mangle/manglelaw9.StreamParts", spec := "streamParts", inPlace := ["internal/bytealg.Count", "internal/bytealg.IndexByte", "internal/bytealg.Index"], unfollowed := true, recurses := true, named := ["internal/bytealg.MaxLen"], apart := false, narrowed := true }
def StreamPartsUptoSaid : Prop := streamPartsUptoRow.holds Tryz.pinned (OpenSpec.upto streamPartsSpec)

/-- 'manglelaw9.StreamTwo', WHERE WHAT IT READS IS OF BULK AT MOST 1048576: true; the input reads as it did. -/
def streamTwoUptoRow : OpenClaim := { program := "ytbakhpakdaflkaagreat", sum := "8302c945c394a96e17f9dbbd1d5c8146ed24856ef26564daaaaadc7f8c7b73f4", func := "mangle/manglelaw9.StreamTwo", spec := "streamTwo", inPlace := ["internal/bytealg.Count", "internal/bytealg.IndexByte", "internal/bytealg.Index"], unfollowed := true, recurses := true, named := ["internal/bytealg.MaxLen"], apart := false, narrowed := true }
def StreamTwoUptoSaid : Prop := streamTwoUptoRow.holds Tryz.pinned (OpenSpec.upto streamTwoSpec)

/-- 'manglelaw9.StreamDict', WHERE WHAT IT READS IS OF BULK AT MOST 1048576: true; the input reads as it did. -/
def streamDictUptoRow : OpenClaim := { program := "ytbakhpakdaflkaagreat", sum := "8302c945c394a96e17f9dbbd1d5c8146ed24856ef26564daaaaadc7f8c7b73f4", func := "mangle/manglelaw9.StreamDict", spec := "streamDict", inPlace := ["internal/bytealg.Count", "internal/bytealg.IndexByte", "internal/bytealg.Index"], unfollowed := true, recurses := true, named := ["internal/bytealg.MaxLen"], apart := false, narrowed := true }
def StreamDictUptoSaid : Prop := streamDictUptoRow.holds Tryz.pinned (OpenSpec.upto streamDictSpec)

/-- 'manglelaw9.StreamPlays', WHERE WHAT IT READS IS OF BULK AT MOST 1048576: true; the input reads as it did. -/
def streamPlaysUptoRow : OpenClaim := { program := "ytbakhpakdaflkaagreat", sum := "8302c945c394a96e17f9dbbd1d5c8146ed24856ef26564daaaaadc7f8c7b73f4", func := "mangle/manglelaw9.StreamPlays", spec := "streamPlays", inPlace := ["internal/bytealg.Count", "internal/bytealg.IndexByte", "internal/bytealg.Index"], unfollowed := true, recurses := true, named := ["internal/bytealg.MaxLen"], apart := false, narrowed := true }
def StreamPlaysUptoSaid : Prop := streamPlaysUptoRow.holds Tryz.pinned (OpenSpec.upto streamPlaysSpec)

/-- 'manglelaw9.StreamBack', WHERE WHAT IT READS IS OF BULK AT MOST 1048576: true; the input reads as it did. -/
def streamBackUptoRow : OpenClaim := { program := "ytbakhpakdaflkaagreat", sum := "8302c945c394a96e17f9dbbd1d5c8146ed24856ef26564daaaaadc7f8c7b73f4", func := "mangle/manglelaw9.StreamBack", spec := "streamBack", inPlace := ["internal/bytealg.Count", "internal/bytealg.IndexByte", "internal/bytealg.Index"], unfollowed := true, recurses := true, named := ["internal/bytealg.MaxLen"], apart := false, narrowed := true }
def StreamBackUptoSaid : Prop := streamBackUptoRow.holds Tryz.pinned (OpenSpec.upto streamBackSpec)

/-- 'manglelaw9.StreamEnds', WHERE WHAT IT READS IS OF BULK AT MOST 1048576: true; the input reads as it did. -/
def streamEndsUptoRow : OpenClaim := { program := "ytbakhpakdaflkaagreat", sum := "8302c945c394a96e17f9dbbd1d5c8146ed24856ef26564daaaaadc7f8c7b73f4", func := "mangle/manglelaw9.StreamEnds", spec := "streamEnds", inPlace := ["internal/bytealg.Count", "internal/bytealg.IndexByte", "internal/bytealg.Index"], unfollowed := true, recurses := true, named := ["internal/bytealg.MaxLen"], apart := false, narrowed := true }
def StreamEndsUptoSaid : Prop := streamEndsUptoRow.holds Tryz.pinned (OpenSpec.upto streamEndsSpec)

/-- 'manglelaw9.StreamTotal', WHERE WHAT IT READS IS OF BULK AT MOST 1048576: true; the input reads as it did. -/
def streamTotalUptoRow : OpenClaim := { program := "ytbakhpakdaflkaagreat", sum := "8302c945c394a96e17f9dbbd1d5c8146ed24856ef26564daaaaadc7f8c7b73f4", func := "mangle/manglelaw9.StreamTotal", spec := "streamTotal", inPlace := ["internal/bytealg.Count", "internal/bytealg.IndexByte", "internal/bytealg.Index"], unfollowed := true, recurses := true, named := ["internal/bytealg.MaxLen"], apart := false, narrowed := true }
def StreamTotalUptoSaid : Prop := streamTotalUptoRow.holds Tryz.pinned (OpenSpec.upto streamTotalSpec)

end Rows
end Go.Proofs.YtbakhpakdaflkaaGreat
