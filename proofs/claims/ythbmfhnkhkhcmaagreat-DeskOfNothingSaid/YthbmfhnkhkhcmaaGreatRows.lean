/-
  No cell of these rows narrows 'for every input' (looked for: loops, veiled, ifaces, maps, wideKeys, modest, calm, conditions, laid).
  DERIVED. THE GIVEN ROWS OF THIS SEAT. 5 by the template 'for every input the law returns true; each argument reads behind the call as it read before'; 0 by the template 'total and deterministic' (their statements: YthbmfhnkhkhcmaaGreatTotals.lean).
  GIVEN WITH THE SEED: the statements are not yours to turn. If you find one false, say at which input.
  Laid BY PROGRAM, IN A SANDBOX (cutbox-rows.mjs): the forced cells as the released guide's own fill.sh prints them over the translation 8a3dd98ca6f53e96… (all of the seat's roots in one cut). By AI agents, Wed Nov 11 2026. No macro, syntax, notation, axiom, sorry.
-/
import Derived.Test.YthbmfhnkhkhcmaaGreatChecked
import GoSem.Claim
import GoSem.ClaimJoined
import GoSem.ClaimMapViews
import Derived.JoinedTies
import Derived.KernelRfl
namespace Go.Proofs.YthbmfhnkhkhcmaaGreat
/- THE CELL 'sum', in the pinned program and in every row, IS THE sha256 OF THE DUMP (.gsa) THAT YthbmfhnkhkhcmaaGreatProg.lean LOADS. Nothing in Lean hashes anything: it is a label: what it is worth is what the hold of that sum in a sandbox is worth. -/
noncomputable def Tryz.pinned : Pinned := { name := "ythbmfhnkhkhcmaagreat", sum := "8a3dd98ca6f53e9634e9ce52cf5b4dd04947ad06e14c2f06cbf02775843b40fb", checked := Tryz.checked }
namespace Rows
def none {H : Type} : Left H := { results := [], args := [] }

/-- 'manglelaw14.ShopOfNothing': WHATEVER THE INPUT: true; the input reads as it did. -/
def shopOfNothingSpec : ChangeSpec := { name := "shopOfNothing", fn := fun _ => fun
  | [d1, d2] => { results := [.lit (.bool true)], args := [d1, d2] }
  | _ => none }
def shopOfNothingRow : OpenClaim := { program := "ythbmfhnkhkhcmaagreat", sum := "8a3dd98ca6f53e9634e9ce52cf5b4dd04947ad06e14c2f06cbf02775843b40fb", func := "mangle/manglelaw14.ShopOfNothing", spec := "shopOfNothing", inPlace := ["internal/bytealg.Count", "internal/bytealg.IndexByte", "internal/bytealg.Index"], unfollowed := true, recurses := true, named := ["internal/bytealg.MaxLen"], apart := false }
def ShopOfNothingSaid : Prop := shopOfNothingRow.holds Tryz.pinned (OpenSpec.ofChange shopOfNothingSpec)

/-- ITS FALSE NEIGHBOUR: 'it returns false'. Refute it at one input. -/
def shopOfNothingWrong : ChangeSpec := { name := "shopOfNothing", fn := fun _ => fun
  | [d1, d2] => { results := [.lit (.bool false)], args := [d1, d2] }
  | _ => none }
def ShopOfNothingWrongFalsely : Prop := shopOfNothingRow.holds Tryz.pinned (OpenSpec.ofChange shopOfNothingWrong)

/-- 'manglelaw9.StreamNew': WHATEVER THE INPUT: true; the input reads as it did. -/
def streamNewSpec : ChangeSpec := { name := "streamNew", fn := fun _ => fun
  | [d1, d2, d3] => { results := [.lit (.bool true)], args := [d1, d2, d3] }
  | _ => none }
def streamNewRow : OpenClaim := { program := "ythbmfhnkhkhcmaagreat", sum := "8a3dd98ca6f53e9634e9ce52cf5b4dd04947ad06e14c2f06cbf02775843b40fb", func := "mangle/manglelaw9.StreamNew", spec := "streamNew", inPlace := ["internal/bytealg.Count", "internal/bytealg.IndexByte", "internal/bytealg.Index"], unfollowed := true, recurses := true, named := ["internal/bytealg.MaxLen"], apart := false }
def StreamNewSaid : Prop := streamNewRow.holds Tryz.pinned (OpenSpec.ofChange streamNewSpec)

/-- ITS FALSE NEIGHBOUR: 'it returns false'. Refute it at one input. -/
def streamNewWrong : ChangeSpec := { name := "streamNew", fn := fun _ => fun
  | [d1, d2, d3] => { results := [.lit (.bool false)], args := [d1, d2, d3] }
  | _ => none }
def StreamNewWrongFalsely : Prop := streamNewRow.holds Tryz.pinned (OpenSpec.ofChange streamNewWrong)

/-- 'manglelaw9.StreamOfNothing': WHATEVER THE INPUT: true; the input reads as it did. -/
def streamOfNothingSpec : ChangeSpec := { name := "streamOfNothing", fn := fun _ => fun
  | [d] => { results := [.lit (.bool true)], args := [d] }
  | _ => none }
def streamOfNothingRow : OpenClaim := { program := "ythbmfhnkhkhcmaagreat", sum := "8a3dd98ca6f53e9634e9ce52cf5b4dd04947ad06e14c2f06cbf02775843b40fb", func := "mangle/manglelaw9.StreamOfNothing", spec := "streamOfNothing", inPlace := ["internal/bytealg.Count", "internal/bytealg.IndexByte", "internal/bytealg.Index"], unfollowed := true, recurses := true, named := ["internal/bytealg.MaxLen"], apart := false }
def StreamOfNothingSaid : Prop := streamOfNothingRow.holds Tryz.pinned (OpenSpec.ofChange streamOfNothingSpec)

/-- ITS FALSE NEIGHBOUR: 'it returns false'. Refute it at one input. -/
def streamOfNothingWrong : ChangeSpec := { name := "streamOfNothing", fn := fun _ => fun
  | [d] => { results := [.lit (.bool false)], args := [d] }
  | _ => none }
def StreamOfNothingWrongFalsely : Prop := streamOfNothingRow.holds Tryz.pinned (OpenSpec.ofChange streamOfNothingWrong)

/-- 'manglelaw12.PlanOfNothing': WHATEVER THE INPUT: true; the input reads as it did. -/
def planOfNothingSpec : ChangeSpec := { name := "planOfNothing", fn := fun _ => fun
  | [d] => { results := [.lit (.bool true)], args := [d] }
  | _ => none }
def planOfNothingRow : OpenClaim := { program := "ythbmfhnkhkhcmaagreat", sum := "8a3dd98ca6f53e9634e9ce52cf5b4dd04947ad06e14c2f06cbf02775843b40fb", func := "mangle/manglelaw12.PlanOfNothing", spec := "planOfNothing", inPlace := ["internal/bytealg.Count", "internal/bytealg.IndexByte", "internal/bytealg.Index"], unfollowed := true, recurses := true, named := ["internal/bytealg.MaxLen"], apart := false }
def PlanOfNothingSaid : Prop := planOfNothingRow.holds Tryz.pinned (OpenSpec.ofChange planOfNothingSpec)

/-- ITS FALSE NEIGHBOUR: 'it returns false'. Refute it at one input. -/
def planOfNothingWrong : ChangeSpec := { name := "planOfNothing", fn := fun _ => fun
  | [d] => { results := [.lit (.bool false)], args := [d] }
  | _ => none }
def PlanOfNothingWrongFalsely : Prop := planOfNothingRow.holds Tryz.pinned (OpenSpec.ofChange planOfNothingWrong)

/-- 'manglelaw13.DeskOfNothing': WHATEVER THE INPUT: true; the input reads as it did. -/
def deskOfNothingSpec : ChangeSpec := { name := "deskOfNothing", fn := fun _ => fun
  | [d] => { results := [.lit (.bool true)], args := [d] }
  | _ => none }
def deskOfNothingRow : OpenClaim := { program := "ythbmfhnkhkhcmaagreat", sum := "8a3dd98ca6f53e9634e9ce52cf5b4dd04947ad06e14c2f06cbf02775843b40fb", func := "mangle/manglelaw13.DeskOfNothing", spec := "deskOfNothing", inPlace := ["internal/bytealg.Count", "internal/bytealg.IndexByte", "internal/bytealg.Index"], unfollowed := true, recurses := true, named := ["internal/bytealg.MaxLen"], apart := false }
def DeskOfNothingSaid : Prop := deskOfNothingRow.holds Tryz.pinned (OpenSpec.ofChange deskOfNothingSpec)

/-- ITS FALSE NEIGHBOUR: 'it returns false'. Refute it at one input. -/
def deskOfNothingWrong : ChangeSpec := { name := "deskOfNothing", fn := fun _ => fun
  | [d] => { results := [.lit (.bool false)], args := [d] }
  | _ => none }
def DeskOfNothingWrongFalsely : Prop := deskOfNothingRow.holds Tryz.pinned (OpenSpec.ofChange deskOfNothingWrong)

/- THE SECOND FORM. 'bulk': how many values and letters a reading holds, each counted each time it is reached (what is shared counts as often as it is met; a slice's spare places count too). A statement '..UptoSaid' is the law's where the arguments, and the package variables that the reading takes, are together of bulk at most 1048576: NARROWER than '..Said'. Prove '..Said' where nothing that the law and all that it calls make is longer than what came in: it says more and counts as full. Else prove '..UptoSaid'. A law counts once. -/
mutual
def uptoBulk {H : Type} : DataW H → Nat
  | .lit (.string bytes) => bytes.length + 1
  | .lit _ => 1
  | .nil => 1
  | .ptr d => uptoBulk d + 1
  | .slice elems spare => uptoBulkAll elems + uptoBulkAll spare + 1
  | .agg parts => uptoBulkAll parts + 1
  | .iface _ d => uptoBulk d + 1
  | .map entries => uptoBulkEntries entries + 1
  | .held _ => 1
def uptoBulkAll {H : Type} : List (DataW H) → Nat
  | [] => 0
  | d :: r => uptoBulk d + uptoBulkAll r
def uptoBulkEntries {H : Type} : List (Lit × DataW H) → Nat
  | [] => 0
  | x :: r => uptoBulkEntry x + uptoBulkEntries r
def uptoBulkEntry {H : Type} : Lit × DataW H → Nat
  | (.string bytes, d) => bytes.length + uptoBulk d + 1
  | (_, d) => uptoBulk d + 1
 end
def uptoSmall : (H : Type) → List (DataW H) → Bool := fun _ ds => decide (uptoBulkAll ds ≤ 1048576)
def OpenSpec.upto (s : _root_.Go.ChangeSpec) : _root_.Go.OpenSpec := { _root_.Go.OpenSpec.ofChange s with cond := some uptoSmall }

/-- 'manglelaw14.ShopOfNothing', WHERE WHAT IT READS IS OF BULK AT MOST 1048576: true; the input reads as it did. -/
def shopOfNothingUptoRow : OpenClaim := { program := "ythbmfhnkhkhcmaagreat", sum := "8a3dd98ca6f53e9634e9ce52cf5b4dd04947ad06e14c2f06cbf02775843b40fb", func := "mangle/manglelaw14.ShopOfNothing", spec := "shopOfNothing", inPlace := ["internal/bytealg.Count", "internal/bytealg.IndexByte", "internal/bytealg.Index"], unfollowed := true, recurses := true, named := ["internal/bytealg.MaxLen"], apart := false, narrowed := true }
def ShopOfNothingUptoSaid : Prop := shopOfNothingUptoRow.holds Tryz.pinned (OpenSpec.upto shopOfNothingSpec)

/-- 'manglelaw9.StreamNew', WHERE WHAT IT READS IS OF BULK AT MOST 1048576: true; the input reads as it did. -/
def streamNewUptoRow : OpenClaim := { program := "ythbmfhnkhkhcmaagreat", sum := "8a3dd98ca6f53e9634e9ce52cf5b4dd04947ad06e14c2f06cbf02775843b40fb", func := "mangle/manglelaw9.StreamNew", spec := "streamNew", inPlace := ["internal/bytealg.Count", "internal/bytealg.IndexByte", "internal/bytealg.Index"], unfollowed := true, recurses := true, named := ["internal/bytealg.MaxLen"], apart := false, narrowed := true }
def StreamNewUptoSaid : Prop := streamNewUptoRow.holds Tryz.pinned (OpenSpec.upto streamNewSpec)

/-- 'manglelaw9.StreamOfNothing', WHERE WHAT IT READS IS OF BULK AT MOST 1048576: true; the input reads as it did. -/
def streamOfNothingUptoRow : OpenClaim := { program := "ythbmfhnkhkhcmaagreat", sum := "8a3dd98ca6f53e9634e9ce52cf5b4dd04947ad06e14c2f06cbf02775843b40fb", func := "mangle/manglelaw9.StreamOfNothing", spec := "streamOfNothing", inPlace := ["internal/bytealg.Count", "internal/bytealg.IndexByte", "internal/bytealg.Index"], unfollowed := true, recurses := true, named := ["internal/bytealg.MaxLen"], apart := false, narrowed := true }
def StreamOfNothingUptoSaid : Prop := streamOfNothingUptoRow.holds Tryz.pinned (OpenSpec.upto streamOfNothingSpec)

/-- 'manglelaw12.PlanOfNothing', WHERE WHAT IT READS IS OF BULK AT MOST 1048576: true; the input reads as it did. -/
def planOfNothingUptoRow : OpenClaim := { program := "ythbmfhnkhkhcmaagreat", sum := "8a3dd98ca6f53e9634e9ce52cf5b4dd04947ad06e14c2f06cbf02775843b40fb", func := "mangle/manglelaw12.PlanOfNothing", spec := "planOfNothing", inPlace := ["internal/bytealg.Count", "internal/bytealg.IndexByte", "internal/bytealg.Index"], unfollowed := true, recurses := true, named := ["internal/bytealg.MaxLen"], apart := false, narrowed := true }
def PlanOfNothingUptoSaid : Prop := planOfNothingUptoRow.holds Tryz.pinned (OpenSpec.upto planOfNothingSpec)

/-- 'manglelaw13.DeskOfNothing', WHERE WHAT IT READS IS OF BULK AT MOST 1048576: true; the input reads as it did. -/
def deskOfNothingUptoRow : OpenClaim := { program := "ythbmfhnkhkhcmaagreat", sum := "8a3dd98ca6f53e9634e9ce52cf5b4dd04947ad06e14c2f06cbf02775843b40fb", func := "mangle/manglelaw13.DeskOfNothing", spec := "deskOfNothing", inPlace := ["internal/bytealg.Count", "internal/bytealg.IndexByte", "internal/bytealg.Index"], unfollowed := true, recurses := true, named := ["internal/bytealg.MaxLen"], apart := false, narrowed := true }
def DeskOfNothingUptoSaid : Prop := deskOfNothingUptoRow.holds Tryz.pinned (OpenSpec.upto deskOfNothingSpec)

end Rows
end Go.Proofs.YthbmfhnkhkhcmaaGreat
