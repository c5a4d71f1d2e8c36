/-
  No cell of these rows narrows 'for every input' (looked for: loops, veiled, ifaces, maps, wideKeys, modest, calm, conditions, laid).
  DERIVED. THE GIVEN ROWS OF THIS SEAT. 12 by the template 'for every input the law returns true; each argument reads behind the call as it read before'; 0 by the template 'total and deterministic' (their statements: YtcecnkmhhbncdaaTotals.lean).
  GIVEN WITH THE SEED: the statements are not yours to turn. If you find one false, say at which input.
  Laid BY PROGRAM, IN A SANDBOX (cutbox-rows.mjs): the forced cells as the released guide's own fill.sh prints them over the translation 26dd13fecc189d9e… (all of the seat's roots in one cut). By AI agents, Wed Nov 11 2026. No macro, syntax, notation, axiom, sorry.
-/
import Derived.Test.YtcecnkmhhbncdaaChecked
import GoSem.Claim
import GoSem.ClaimJoined
import GoSem.ClaimMapViews
import Derived.JoinedTies
import Derived.KernelRfl
namespace Go.Proofs.Ytcecnkmhhbncdaa
/- THE CELL 'sum', in the pinned program and in every row, IS THE sha256 OF THE DUMP (.gsa) THAT YtcecnkmhhbncdaaProg.lean LOADS. Nothing in Lean hashes anything: it is a label: what it is worth is what the hold of that sum in a sandbox is worth. -/
noncomputable def Try.pinned : Pinned := { name := "ytcecnkmhhbncdaa", sum := "26dd13fecc189d9e579d8ad9ddeadd38b3b173f77b14176fad7022ed56765532", checked := Try.checked }
namespace Rows
def none {H : Type} : Left H := { results := [], args := [] }

/-- 'manglelaw3.HuffLengths': WHATEVER THE INPUT: true; the input reads as it did. -/
def huffLengthsSpec : ChangeSpec := { name := "huffLengths", fn := fun _ => fun
  | [d] => { results := [.lit (.bool true)], args := [d] }
  | _ => none }
def huffLengthsRow : OpenClaim := { program := "ytcecnkmhhbncdaa", sum := "26dd13fecc189d9e579d8ad9ddeadd38b3b173f77b14176fad7022ed56765532", func := "mangle/manglelaw3.HuffLengths", spec := "huffLengths", unfollowed := true, recurses := true, apart := false }
def HuffLengthsSaid : Prop := huffLengthsRow.holds Try.pinned (OpenSpec.ofChange huffLengthsSpec)

/-- ITS FALSE NEIGHBOUR: 'it returns false'. Refute it at one input. -/
def huffLengthsWrong : ChangeSpec := { name := "huffLengths", fn := fun _ => fun
  | [d] => { results := [.lit (.bool false)], args := [d] }
  | _ => none }
def HuffLengthsWrongFalsely : Prop := huffLengthsRow.holds Try.pinned (OpenSpec.ofChange huffLengthsWrong)

/-- 'manglelaw3.HuffIs': WHATEVER THE INPUT: true; the input reads as it did. -/
def huffIsSpec : ChangeSpec := { name := "huffIs", fn := fun _ => fun
  | [d] => { results := [.lit (.bool true)], args := [d] }
  | _ => none }
def huffIsRow : OpenClaim := { program := "ytcecnkmhhbncdaa", sum := "26dd13fecc189d9e579d8ad9ddeadd38b3b173f77b14176fad7022ed56765532", func := "mangle/manglelaw3.HuffIs", spec := "huffIs", unfollowed := true, recurses := true, apart := false }
def HuffIsSaid : Prop := huffIsRow.holds Try.pinned (OpenSpec.ofChange huffIsSpec)

/-- ITS FALSE NEIGHBOUR: 'it returns false'. Refute it at one input. -/
def huffIsWrong : ChangeSpec := { name := "huffIs", fn := fun _ => fun
  | [d] => { results := [.lit (.bool false)], args := [d] }
  | _ => none }
def HuffIsWrongFalsely : Prop := huffIsRow.holds Try.pinned (OpenSpec.ofChange huffIsWrong)

/-- 'manglelaw3.HuffMay': WHATEVER THE INPUT: true; the input reads as it did. -/
def huffMaySpec : ChangeSpec := { name := "huffMay", fn := fun _ => fun
  | [d] => { results := [.lit (.bool true)], args := [d] }
  | _ => none }
def huffMayRow : OpenClaim := { program := "ytcecnkmhhbncdaa", sum := "26dd13fecc189d9e579d8ad9ddeadd38b3b173f77b14176fad7022ed56765532", func := "mangle/manglelaw3.HuffMay", spec := "huffMay", unfollowed := true, recurses := true, apart := false }
def HuffMaySaid : Prop := huffMayRow.holds Try.pinned (OpenSpec.ofChange huffMaySpec)

/-- ITS FALSE NEIGHBOUR: 'it returns false'. Refute it at one input. -/
def huffMayWrong : ChangeSpec := { name := "huffMay", fn := fun _ => fun
  | [d] => { results := [.lit (.bool false)], args := [d] }
  | _ => none }
def HuffMayWrongFalsely : Prop := huffMayRow.holds Try.pinned (OpenSpec.ofChange huffMayWrong)

/-- 'manglelaw3.HuffFree': WHATEVER THE INPUT: true; the input reads as it did. -/
def huffFreeSpec : ChangeSpec := { name := "huffFree", fn := fun _ => fun
  | [d] => { results := [.lit (.bool true)], args := [d] }
  | _ => none }
def huffFreeRow : OpenClaim := { program := "ytcecnkmhhbncdaa", sum := "26dd13fecc189d9e579d8ad9ddeadd38b3b173f77b14176fad7022ed56765532", func := "mangle/manglelaw3.HuffFree", spec := "huffFree", unfollowed := true, recurses := true, apart := false }
def HuffFreeSaid : Prop := huffFreeRow.holds Try.pinned (OpenSpec.ofChange huffFreeSpec)

/-- ITS FALSE NEIGHBOUR: 'it returns false'. Refute it at one input. -/
def huffFreeWrong : ChangeSpec := { name := "huffFree", fn := fun _ => fun
  | [d] => { results := [.lit (.bool false)], args := [d] }
  | _ => none }
def HuffFreeWrongFalsely : Prop := huffFreeRow.holds Try.pinned (OpenSpec.ofChange huffFreeWrong)

/-- 'manglelaw3.HuffLimit': WHATEVER THE INPUT: true; the input reads as it did. -/
def huffLimitSpec : ChangeSpec := { name := "huffLimit", fn := fun _ => fun
  | [d1, d2] => { results := [.lit (.bool true)], args := [d1, d2] }
  | _ => none }
def huffLimitRow : OpenClaim := { program := "ytcecnkmhhbncdaa", sum := "26dd13fecc189d9e579d8ad9ddeadd38b3b173f77b14176fad7022ed56765532", func := "mangle/manglelaw3.HuffLimit", spec := "huffLimit", unfollowed := true, recurses := true, apart := false }
def HuffLimitSaid : Prop := huffLimitRow.holds Try.pinned (OpenSpec.ofChange huffLimitSpec)

/-- ITS FALSE NEIGHBOUR: 'it returns false'. Refute it at one input. -/
def huffLimitWrong : ChangeSpec := { name := "huffLimit", fn := fun _ => fun
  | [d1, d2] => { results := [.lit (.bool false)], args := [d1, d2] }
  | _ => none }
def HuffLimitWrongFalsely : Prop := huffLimitRow.holds Try.pinned (OpenSpec.ofChange huffLimitWrong)

/-- 'manglelaw3.HuffEven': WHATEVER THE INPUT: true; the input reads as it did. -/
def huffEvenSpec : ChangeSpec := { name := "huffEven", fn := fun _ => fun
  | [d1, d2] => { results := [.lit (.bool true)], args := [d1, d2] }
  | _ => none }
def huffEvenRow : OpenClaim := { program := "ytcecnkmhhbncdaa", sum := "26dd13fecc189d9e579d8ad9ddeadd38b3b173f77b14176fad7022ed56765532", func := "mangle/manglelaw3.HuffEven", spec := "huffEven", unfollowed := true, recurses := true, apart := false }
def HuffEvenSaid : Prop := huffEvenRow.holds Try.pinned (OpenSpec.ofChange huffEvenSpec)

/-- ITS FALSE NEIGHBOUR: 'it returns false'. Refute it at one input. -/
def huffEvenWrong : ChangeSpec := { name := "huffEven", fn := fun _ => fun
  | [d1, d2] => { results := [.lit (.bool false)], args := [d1, d2] }
  | _ => none }
def HuffEvenWrongFalsely : Prop := huffEvenRow.holds Try.pinned (OpenSpec.ofChange huffEvenWrong)

/-- 'manglelaw3.HuffCodes': WHATEVER THE INPUT: true; the input reads as it did. -/
def huffCodesSpec : ChangeSpec := { name := "huffCodes", fn := fun _ => fun
  | [d1, d2] => { results := [.lit (.bool true)], args := [d1, d2] }
  | _ => none }
def huffCodesRow : OpenClaim := { program := "ytcecnkmhhbncdaa", sum := "26dd13fecc189d9e579d8ad9ddeadd38b3b173f77b14176fad7022ed56765532", func := "mangle/manglelaw3.HuffCodes", spec := "huffCodes", unfollowed := true, recurses := true, apart := false }
def HuffCodesSaid : Prop := huffCodesRow.holds Try.pinned (OpenSpec.ofChange huffCodesSpec)

/-- ITS FALSE NEIGHBOUR: 'it returns false'. Refute it at one input. -/
def huffCodesWrong : ChangeSpec := { name := "huffCodes", fn := fun _ => fun
  | [d1, d2] => { results := [.lit (.bool false)], args := [d1, d2] }
  | _ => none }
def HuffCodesWrongFalsely : Prop := huffCodesRow.holds Try.pinned (OpenSpec.ofChange huffCodesWrong)

/-- 'manglelaw3.HuffReads': WHATEVER THE INPUT: true; the input reads as it did. -/
def huffReadsSpec : ChangeSpec := { name := "huffReads", fn := fun _ => fun
  | [d1, d2, d3] => { results := [.lit (.bool true)], args := [d1, d2, d3] }
  | _ => none }
def huffReadsRow : OpenClaim := { program := "ytcecnkmhhbncdaa", sum := "26dd13fecc189d9e579d8ad9ddeadd38b3b173f77b14176fad7022ed56765532", func := "mangle/manglelaw3.HuffReads", spec := "huffReads", unfollowed := true, recurses := true, apart := false }
def HuffReadsSaid : Prop := huffReadsRow.holds Try.pinned (OpenSpec.ofChange huffReadsSpec)

/-- ITS FALSE NEIGHBOUR: 'it returns false'. Refute it at one input. -/
def huffReadsWrong : ChangeSpec := { name := "huffReads", fn := fun _ => fun
  | [d1, d2, d3] => { results := [.lit (.bool false)], args := [d1, d2, d3] }
  | _ => none }
def HuffReadsWrongFalsely : Prop := huffReadsRow.holds Try.pinned (OpenSpec.ofChange huffReadsWrong)

/-- 'manglelaw3.HuffTurned': WHATEVER THE INPUT: true; the input reads as it did. -/
def huffTurnedSpec : ChangeSpec := { name := "huffTurned", fn := fun _ => fun
  | [d1, d2, d3] => { results := [.lit (.bool true)], args := [d1, d2, d3] }
  | _ => none }
def huffTurnedRow : OpenClaim := { program := "ytcecnkmhhbncdaa", sum := "26dd13fecc189d9e579d8ad9ddeadd38b3b173f77b14176fad7022ed56765532", func := "mangle/manglelaw3.HuffTurned", spec := "huffTurned", unfollowed := true, recurses := true, apart := false }
def HuffTurnedSaid : Prop := huffTurnedRow.holds Try.pinned (OpenSpec.ofChange huffTurnedSpec)

/-- ITS FALSE NEIGHBOUR: 'it returns false'. Refute it at one input. -/
def huffTurnedWrong : ChangeSpec := { name := "huffTurned", fn := fun _ => fun
  | [d1, d2, d3] => { results := [.lit (.bool false)], args := [d1, d2, d3] }
  | _ => none }
def HuffTurnedWrongFalsely : Prop := huffTurnedRow.holds Try.pinned (OpenSpec.ofChange huffTurnedWrong)

/-- 'manglelaw3.HuffBack': WHATEVER THE INPUT: true; the input reads as it did. -/
def huffBackSpec : ChangeSpec := { name := "huffBack", fn := fun _ => fun
  | [d] => { results := [.lit (.bool true)], args := [d] }
  | _ => none }
def huffBackRow : OpenClaim := { program := "ytcecnkmhhbncdaa", sum := "26dd13fecc189d9e579d8ad9ddeadd38b3b173f77b14176fad7022ed56765532", func := "mangle/manglelaw3.HuffBack", spec := "huffBack", unfollowed := true, recurses := true, apart := false }
def HuffBackSaid : Prop := huffBackRow.holds Try.pinned (OpenSpec.ofChange huffBackSpec)

/-- ITS FALSE NEIGHBOUR: 'it returns false'. Refute it at one input. -/
def huffBackWrong : ChangeSpec := { name := "huffBack", fn := fun _ => fun
  | [d] => { results := [.lit (.bool false)], args := [d] }
  | _ => none }
def HuffBackWrongFalsely : Prop := huffBackRow.holds Try.pinned (OpenSpec.ofChange huffBackWrong)

/-- 'manglelaw3.HuffAlone': WHATEVER THE INPUT: true; the input reads as it did. -/
def huffAloneSpec : ChangeSpec := { name := "huffAlone", fn := fun _ => fun
  | [d1, d2, d3] => { results := [.lit (.bool true)], args := [d1, d2, d3] }
  | _ => none }
def huffAloneRow : OpenClaim := { program := "ytcecnkmhhbncdaa", sum := "26dd13fecc189d9e579d8ad9ddeadd38b3b173f77b14176fad7022ed56765532", func := "mangle/manglelaw3.HuffAlone", spec := "huffAlone", unfollowed := true, recurses := true, apart := false }
def HuffAloneSaid : Prop := huffAloneRow.holds Try.pinned (OpenSpec.ofChange huffAloneSpec)

/-- ITS FALSE NEIGHBOUR: 'it returns false'. Refute it at one input. -/
def huffAloneWrong : ChangeSpec := { name := "huffAlone", fn := fun _ => fun
  | [d1, d2, d3] => { results := [.lit (.bool false)], args := [d1, d2, d3] }
  | _ => none }
def HuffAloneWrongFalsely : Prop := huffAloneRow.holds Try.pinned (OpenSpec.ofChange huffAloneWrong)

/-- 'manglelaw3.HuffShort': WHATEVER THE INPUT: true; the input reads as it did. -/
def huffShortSpec : ChangeSpec := { name := "huffShort", fn := fun _ => fun
  | [d1, d2] => { results := [.lit (.bool true)], args := [d1, d2] }
  | _ => none }
def huffShortRow : OpenClaim := { program := "ytcecnkmhhbncdaa", sum := "26dd13fecc189d9e579d8ad9ddeadd38b3b173f77b14176fad7022ed56765532", func := "mangle/manglelaw3.HuffShort", spec := "huffShort", unfollowed := true, recurses := true, apart := false }
def HuffShortSaid : Prop := huffShortRow.holds Try.pinned (OpenSpec.ofChange huffShortSpec)

/-- ITS FALSE NEIGHBOUR: 'it returns false'. Refute it at one input. -/
def huffShortWrong : ChangeSpec := { name := "huffShort", fn := fun _ => fun
  | [d1, d2] => { results := [.lit (.bool false)], args := [d1, d2] }
  | _ => none }
def HuffShortWrongFalsely : Prop := huffShortRow.holds Try.pinned (OpenSpec.ofChange huffShortWrong)

/- THE SECOND FORM. 'bulk': how many values and letters a reading holds, each counted each time it is reached (what is shared counts as often as it is met; a slice's spare places count too). A statement '..UptoSaid' is the law's where the arguments, and the package variables that the reading takes, are together of bulk at most 1048576: NARROWER than '..Said'. Prove '..Said' where nothing that the law and all that it calls make is longer than what came in: it says more and counts as full. Else prove '..UptoSaid'. A law counts once. -/
mutual
def uptoBulk {H : Type} : DataW H → Nat
  | .lit (.string bytes) => bytes.length + 1
  | .lit _ => 1
  | .nil => 1
  | .ptr d => uptoBulk d + 1
  | .slice elems spare => uptoBulkAll elems + uptoBulkAll spare + 1
  | .agg parts => uptoBulkAll parts + 1
  | .iface _ d => uptoBulk d + 1
  | .map entries => uptoBulkEntries entries + 1
  | .held _ => 1
def uptoBulkAll {H : Type} : List (DataW H) → Nat
  | [] => 0
  | d :: r => uptoBulk d + uptoBulkAll r
def uptoBulkEntries {H : Type} : List (Lit × DataW H) → Nat
  | [] => 0
  | x :: r => uptoBulkEntry x + uptoBulkEntries r
def uptoBulkEntry {H : Type} : Lit × DataW H → Nat
  | (.string bytes, d) => bytes.length + uptoBulk d + 1
  | (_, d) => uptoBulk d + 1
 end
def uptoSmall : (H : Type) → List (DataW H) → Bool := fun _ ds => decide (uptoBulkAll ds ≤ 1048576)
def OpenSpec.upto (s : _root_.Go.ChangeSpec) : _root_.Go.OpenSpec := { _root_.Go.OpenSpec.ofChange s with cond := some uptoSmall }

/-- 'manglelaw3.HuffLengths', WHERE WHAT IT READS IS OF BULK AT MOST 1048576: true; the input reads as it did. -/
def huffLengthsUptoRow : OpenClaim := { program := "ytcecnkmhhbncdaa", sum := "26dd13fecc189d9e579d8ad9ddeadd38b3b173f77b14176fad7022ed56765532", func := "mangle/manglelaw3.HuffLengths", spec := "huffLengths", unfollowed := true, recurses := true, apart := false, narrowed := true }
def HuffLengthsUptoSaid : Prop := huffLengthsUptoRow.holds Try.pinned (OpenSpec.upto huffLengthsSpec)

/-- 'manglelaw3.HuffIs', WHERE WHAT IT READS IS OF BULK AT MOST 1048576: true; the input reads as it did. -/
def huffIsUptoRow : OpenClaim := { program := "ytcecnkmhhbncdaa", sum := "26dd13fecc189d9e579d8ad9ddeadd38b3b173f77b14176fad7022ed56765532", func := "mangle/manglelaw3.HuffIs", spec := "huffIs", unfollowed := true, recurses := true, apart := false, narrowed := true }
def HuffIsUptoSaid : Prop := huffIsUptoRow.holds Try.pinned (OpenSpec.upto huffIsSpec)

/-- 'manglelaw3.HuffMay', WHERE WHAT IT READS IS OF BULK AT MOST 1048576: true; the input reads as it did. -/
def huffMayUptoRow : OpenClaim := { program := "ytcecnkmhhbncdaa", sum := "26dd13fecc189d9e579d8ad9ddeadd38b3b173f77b14176fad7022ed56765532", func := "mangle/manglelaw3.HuffMay", spec := "huffMay", unfollowed := true, recurses := true, apart := false, narrowed := true }
def HuffMayUptoSaid : Prop := huffMayUptoRow.holds Try.pinned (OpenSpec.upto huffMaySpec)

/-- 'manglelaw3.HuffFree', WHERE WHAT IT READS IS OF BULK AT MOST 1048576: true; the input reads as it did. -/
def huffFreeUptoRow : OpenClaim := { program := "ytcecnkmhhbncdaa", sum := "26dd13fecc189d9e579d8ad9ddeadd38b3b173f77b14176fad7022ed56765532", func := "mangle/manglelaw3.HuffFree", spec := "huffFree", unfollowed := true, recurses := true, apart := false, narrowed := true }
def HuffFreeUptoSaid : Prop := huffFreeUptoRow.holds Try.pinned (OpenSpec.upto huffFreeSpec)

/-- 'manglelaw3.HuffLimit', WHERE WHAT IT READS IS OF BULK AT MOST 1048576: true; the input reads as it did. -/
def huffLimitUptoRow : OpenClaim := { program := "ytcecnkmhhbncdaa", sum := "26dd13fecc189d9e579d8ad9ddeadd38b3b173f77b14176fad7022ed56765532", func := "mangle/manglelaw3.HuffLimit", spec := "huffLimit", unfollowed := true, recurses := true, apart := false, narrowed := true }
def HuffLimitUptoSaid : Prop := huffLimitUptoRow.holds Try.pinned (OpenSpec.upto huffLimitSpec)

/-- 'manglelaw3.HuffEven', WHERE WHAT IT READS IS OF BULK AT MOST 1048576: true; the input reads as it did. -/
def huffEvenUptoRow : OpenClaim := { program := "ytcecnkmhhbncdaa", sum := "26dd13fecc189d9e579d8ad9ddeadd38b3b173f77b14176fad7022ed56765532", func := "mangle/manglelaw3.HuffEven", spec := "huffEven", unfollowed := true, recurses := true, apart := false, narrowed := true }
def HuffEvenUptoSaid : Prop := huffEvenUptoRow.holds Try.pinned (OpenSpec.upto huffEvenSpec)

/-- 'manglelaw3.HuffCodes', WHERE WHAT IT READS IS OF BULK AT MOST 1048576: true; the input reads as it did. -/
def huffCodesUptoRow : OpenClaim := { program := "ytcecnkmhhbncdaa", sum := "26dd13fecc189d9e579d8ad9ddeadd38b3b173f77b14176fad7022ed56765532", func := "mangle/manglelaw3.HuffCodes", spec := "huffCodes", unfollowed := true, recurses := true, apart := false, narrowed := true }
def HuffCodesUptoSaid : Prop := huffCodesUptoRow.holds Try.pinned (OpenSpec.upto huffCodesSpec)

/-- 'manglelaw3.HuffReads', WHERE WHAT IT READS IS OF BULK AT MOST 1048576: true; the input reads as it did. -/
def huffReadsUptoRow : OpenClaim := { program := "ytcecnkmhhbncdaa", sum := "26dd13fecc189d9e579d8ad9ddeadd38b3b173f77b14176fad7022ed56765532", func := "mangle/manglelaw3.HuffReads", spec := "huffReads", unfollowed := true, recurses := true, apart := false, narrowed := true }
def HuffReadsUptoSaid : Prop := huffReadsUptoRow.holds Try.pinned (OpenSpec.upto huffReadsSpec)

/-- 'manglelaw3.HuffTurned', WHERE WHAT IT READS IS OF BULK AT MOST 1048576: true; the input reads as it did. -/
def huffTurnedUptoRow : OpenClaim := { program := "ytcecnkmhhbncdaa", sum := "26dd13fecc189d9e579d8ad9ddeadd38b3b173f77b14176fad7022ed56765532", func := "mangle/manglelaw3.HuffTurned", spec := "huffTurned", unfollowed := true, recurses := true, apart := false, narrowed := true }
def HuffTurnedUptoSaid : Prop := huffTurnedUptoRow.holds Try.pinned (OpenSpec.upto huffTurnedSpec)

/-- 'manglelaw3.HuffBack', WHERE WHAT IT READS IS OF BULK AT MOST 1048576: true; the input reads as it did. -/
def huffBackUptoRow : OpenClaim := { program := "ytcecnkmhhbncdaa", sum := "26dd13fecc189d9e579d8ad9ddeadd38b3b173f77b14176fad7022ed56765532", func := "mangle/manglelaw3.HuffBack", spec := "huffBack", unfollowed := true, recurses := true, apart := false, narrowed := true }
def HuffBackUptoSaid : Prop := huffBackUptoRow.holds Try.pinned (OpenSpec.upto huffBackSpec)

/-- 'manglelaw3.HuffAlone', WHERE WHAT IT READS IS OF BULK AT MOST 1048576: true; the input reads as it did. -/
def huffAloneUptoRow : OpenClaim := { program := "ytcecnkmhhbncdaa", sum := "26dd13fecc189d9e579d8ad9ddeadd38b3b173f77b14176fad7022ed56765532", func := "mangle/manglelaw3.HuffAlone", spec := "huffAlone", unfollowed := true, recurses := true, apart := false, narrowed := true }
def HuffAloneUptoSaid : Prop := huffAloneUptoRow.holds Try.pinned (OpenSpec.upto huffAloneSpec)

/-- 'manglelaw3.HuffShort', WHERE WHAT IT READS IS OF BULK AT MOST 1048576: true; the input reads as it did. -/
def huffShortUptoRow : OpenClaim := { program := "ytcecnkmhhbncdaa", sum := "26dd13fecc189d9e579d8ad9ddeadd38b3b173f77b14176fad7022ed56765532", func := "mangle/manglelaw3.HuffShort", spec := "huffShort", unfollowed := true, recurses := true, apart := false, narrowed := true }
def HuffShortUptoSaid : Prop := huffShortUptoRow.holds Try.pinned (OpenSpec.upto huffShortSpec)

end Rows
end Go.Proofs.Ytcecnkmhhbncdaa
