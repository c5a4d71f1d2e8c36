/-
  No cell of these rows narrows 'for every input' (looked for: loops, veiled, ifaces, maps, wideKeys, modest, calm, conditions, laid).
  DERIVED. THE GIVEN ROWS OF THIS SEAT. 9 by the template 'for every input the law returns true; each argument reads behind the call as it read before'; 0 by the template 'total and deterministic' (their statements: YtmioiaeiflbmhaaGreatTotals.lean).
  GIVEN WITH THE SEED: the statements are not yours to turn. If you find one false, say at which input.
  Laid BY PROGRAM, IN A SANDBOX (cutbox-rows.mjs): the forced cells as the released guide's own fill.sh prints them over the translation f09e56f823f7b6e2… (all of the seat's roots in one cut). By AI agents, Wed Nov 11 2026. No macro, syntax, notation, axiom, sorry.
-/
import Derived.Test.YtmioiaeiflbmhaaGreatChecked
import GoSem.Claim
import GoSem.ClaimJoined
import GoSem.ClaimMapViews
import Derived.JoinedTies
import Derived.KernelRfl
namespace Go.Proofs.YtmioiaeiflbmhaaGreat
/- THE CELL 'sum', in the pinned program and in every row, IS THE sha256 OF THE DUMP (.gsa) THAT YtmioiaeiflbmhaaGreatProg.lean LOADS. Nothing in Lean hashes anything: it is a label: what it is worth is what the hold of that sum in a sandbox is worth. -/
noncomputable def Tryz.pinned : Pinned := { name := "ytmioiaeiflbmhaagreat", sum := "f09e56f823f7b6e2cbe73c17152b8056d6238c72e966a1732db8a6625e12f253", checked := Tryz.checked }
namespace Rows
def none {H : Type} : Left H := { results := [], args := [] }

/-- 'manglelaw12.PlanErrs': WHATEVER THE INPUT: true; the input reads as it did. -/
def planErrsSpec : ChangeSpec := { name := "planErrs", fn := fun _ => fun
  | [d1, d2, d3] => { results := [.lit (.bool true)], args := [d1, d2, d3] }
  | _ => none }
def planErrsRow : OpenClaim := { program := "ytmioiaeiflbmhaagreat", sum := "f09e56f823f7b6e2cbe73c17152b8056d6238c72e966a1732db8a6625e12f253", func := "mangle/manglelaw12.PlanErrs", spec := "planErrs", inPlace := ["internal/bytealg.Count", "internal/bytealg.IndexByte", "internal/bytealg.Index"], unfollowed := true, recurses := true, named := ["internal/bytealg.MaxLen"], apart := false }
def PlanErrsSaid : Prop := planErrsRow.holds Tryz.pinned (OpenSpec.ofChange planErrsSpec)

/-- ITS FALSE NEIGHBOUR: 'it returns false'. Refute it at one input. -/
def planErrsWrong : ChangeSpec := { name := "planErrs", fn := fun _ => fun
  | [d1, d2, d3] => { results := [.lit (.bool false)], args := [d1, d2, d3] }
  | _ => none }
def PlanErrsWrongFalsely : Prop := planErrsRow.holds Tryz.pinned (OpenSpec.ofChange planErrsWrong)

/-- 'manglelaw12.PlanUses': WHATEVER THE INPUT: true; the input reads as it did. -/
def planUsesSpec : ChangeSpec := { name := "planUses", fn := fun _ => fun
  | [d] => { results := [.lit (.bool true)], args := [d] }
  | _ => none }
def planUsesRow : OpenClaim := { program := "ytmioiaeiflbmhaagreat", sum := "f09e56f823f7b6e2cbe73c17152b8056d6238c72e966a1732db8a6625e12f253", func := "mangle/manglelaw12.PlanUses", spec := "planUses", inPlace := ["internal/bytealg.Count", "internal/bytealg.IndexByte", "internal/bytealg.Index"], unfollowed := true, recurses := true, named := ["internal/bytealg.MaxLen"], apart := false }
def PlanUsesSaid : Prop := planUsesRow.holds Tryz.pinned (OpenSpec.ofChange planUsesSpec)

/-- ITS FALSE NEIGHBOUR: 'it returns false'. Refute it at one input. -/
def planUsesWrong : ChangeSpec := { name := "planUses", fn := fun _ => fun
  | [d] => { results := [.lit (.bool false)], args := [d] }
  | _ => none }
def PlanUsesWrongFalsely : Prop := planUsesRow.holds Tryz.pinned (OpenSpec.ofChange planUsesWrong)

/-- 'manglelaw12.PlanOwner': WHATEVER THE INPUT: true; the input reads as it did. -/
def planOwnerSpec : ChangeSpec := { name := "planOwner", fn := fun _ => fun
  | [d1, d2, d3] => { results := [.lit (.bool true)], args := [d1, d2, d3] }
  | _ => none }
def planOwnerRow : OpenClaim := { program := "ytmioiaeiflbmhaagreat", sum := "f09e56f823f7b6e2cbe73c17152b8056d6238c72e966a1732db8a6625e12f253", func := "mangle/manglelaw12.PlanOwner", spec := "planOwner", inPlace := ["internal/bytealg.Count", "internal/bytealg.IndexByte", "internal/bytealg.Index"], unfollowed := true, recurses := true, named := ["internal/bytealg.MaxLen"], apart := false }
def PlanOwnerSaid : Prop := planOwnerRow.holds Tryz.pinned (OpenSpec.ofChange planOwnerSpec)

/-- ITS FALSE NEIGHBOUR: 'it returns false'. Refute it at one input. -/
def planOwnerWrong : ChangeSpec := { name := "planOwner", fn := fun _ => fun
  | [d1, d2, d3] => { results := [.lit (.bool false)], args := [d1, d2, d3] }
  | _ => none }
def PlanOwnerWrongFalsely : Prop := planOwnerRow.holds Tryz.pinned (OpenSpec.ofChange planOwnerWrong)

/-- 'manglelaw12.PlanOpen': WHATEVER THE INPUT: true; the input reads as it did. -/
def planOpenSpec : ChangeSpec := { name := "planOpen", fn := fun _ => fun
  | [d] => { results := [.lit (.bool true)], args := [d] }
  | _ => none }
def planOpenRow : OpenClaim := { program := "ytmioiaeiflbmhaagreat", sum := "f09e56f823f7b6e2cbe73c17152b8056d6238c72e966a1732db8a6625e12f253", func := "mangle/manglelaw12.PlanOpen", spec := "planOpen", inPlace := ["internal/bytealg.Count", "internal/bytealg.IndexByte", "internal/bytealg.Index"], unfollowed := true, recurses := true, named := ["internal/bytealg.MaxLen"], apart := false }
def PlanOpenSaid : Prop := planOpenRow.holds Tryz.pinned (OpenSpec.ofChange planOpenSpec)

/-- ITS FALSE NEIGHBOUR: 'it returns false'. Refute it at one input. -/
def planOpenWrong : ChangeSpec := { name := "planOpen", fn := fun _ => fun
  | [d] => { results := [.lit (.bool false)], args := [d] }
  | _ => none }
def PlanOpenWrongFalsely : Prop := planOpenRow.holds Tryz.pinned (OpenSpec.ofChange planOpenWrong)

/-- 'manglelaw12.PlanAborts': WHATEVER THE INPUT: true; the input reads as it did. -/
def planAbortsSpec : ChangeSpec := { name := "planAborts", fn := fun _ => fun
  | [d1, d2] => { results := [.lit (.bool true)], args := [d1, d2] }
  | _ => none }
def planAbortsRow : OpenClaim := { program := "ytmioiaeiflbmhaagreat", sum := "f09e56f823f7b6e2cbe73c17152b8056d6238c72e966a1732db8a6625e12f253", func := "mangle/manglelaw12.PlanAborts", spec := "planAborts", inPlace := ["internal/bytealg.Count", "internal/bytealg.IndexByte", "internal/bytealg.Index"], unfollowed := true, recurses := true, named := ["internal/bytealg.MaxLen"], apart := false }
def PlanAbortsSaid : Prop := planAbortsRow.holds Tryz.pinned (OpenSpec.ofChange planAbortsSpec)

/-- ITS FALSE NEIGHBOUR: 'it returns false'. Refute it at one input. -/
def planAbortsWrong : ChangeSpec := { name := "planAborts", fn := fun _ => fun
  | [d1, d2] => { results := [.lit (.bool false)], args := [d1, d2] }
  | _ => none }
def PlanAbortsWrongFalsely : Prop := planAbortsRow.holds Tryz.pinned (OpenSpec.ofChange planAbortsWrong)

/-- 'manglelaw12.PlanQuota': WHATEVER THE INPUT: true; the input reads as it did. -/
def planQuotaSpec : ChangeSpec := { name := "planQuota", fn := fun _ => fun
  | [d1, d2, d3] => { results := [.lit (.bool true)], args := [d1, d2, d3] }
  | _ => none }
def planQuotaRow : OpenClaim := { program := "ytmioiaeiflbmhaagreat", sum := "f09e56f823f7b6e2cbe73c17152b8056d6238c72e966a1732db8a6625e12f253", func := "mangle/manglelaw12.PlanQuota", spec := "planQuota", inPlace := ["internal/bytealg.Count", "internal/bytealg.IndexByte", "internal/bytealg.Index"], unfollowed := true, recurses := true, named := ["internal/bytealg.MaxLen"], apart := false }
def PlanQuotaSaid : Prop := planQuotaRow.holds Tryz.pinned (OpenSpec.ofChange planQuotaSpec)

/-- ITS FALSE NEIGHBOUR: 'it returns false'. Refute it at one input. -/
def planQuotaWrong : ChangeSpec := { name := "planQuota", fn := fun _ => fun
  | [d1, d2, d3] => { results := [.lit (.bool false)], args := [d1, d2, d3] }
  | _ => none }
def PlanQuotaWrongFalsely : Prop := planQuotaRow.holds Tryz.pinned (OpenSpec.ofChange planQuotaWrong)

/-- 'manglelaw12.PlanLoads': WHATEVER THE INPUT: true; the input reads as it did. -/
def planLoadsSpec : ChangeSpec := { name := "planLoads", fn := fun _ => fun
  | [d1, d2, d3] => { results := [.lit (.bool true)], args := [d1, d2, d3] }
  | _ => none }
def planLoadsRow : OpenClaim := { program := "ytmioiaeiflbmhaagreat", sum := "f09e56f823f7b6e2cbe73c17152b8056d6238c72e966a1732db8a6625e12f253", func := "mangle/manglelaw12.PlanLoads", spec := "planLoads", inPlace := ["internal/bytealg.Count", "internal/bytealg.IndexByte", "internal/bytealg.Index"], unfollowed := true, recurses := true, named := ["internal/bytealg.MaxLen"], apart := false }
def PlanLoadsSaid : Prop := planLoadsRow.holds Tryz.pinned (OpenSpec.ofChange planLoadsSpec)

/-- ITS FALSE NEIGHBOUR: 'it returns false'. Refute it at one input. -/
def planLoadsWrong : ChangeSpec := { name := "planLoads", fn := fun _ => fun
  | [d1, d2, d3] => { results := [.lit (.bool false)], args := [d1, d2, d3] }
  | _ => none }
def PlanLoadsWrongFalsely : Prop := planLoadsRow.holds Tryz.pinned (OpenSpec.ofChange planLoadsWrong)

/-- 'manglelaw12.PlanSession': WHATEVER THE INPUT: true; the input reads as it did. -/
def planSessionSpec : ChangeSpec := { name := "planSession", fn := fun _ => fun
  | [d1, d2, d3, d4, d5] => { results := [.lit (.bool true)], args := [d1, d2, d3, d4, d5] }
  | _ => none }
def planSessionRow : OpenClaim := { program := "ytmioiaeiflbmhaagreat", sum := "f09e56f823f7b6e2cbe73c17152b8056d6238c72e966a1732db8a6625e12f253", func := "mangle/manglelaw12.PlanSession", spec := "planSession", inPlace := ["internal/bytealg.Count", "internal/bytealg.IndexByte", "internal/bytealg.Index"], unfollowed := true, recurses := true, named := ["internal/bytealg.MaxLen"], apart := false }
def PlanSessionSaid : Prop := planSessionRow.holds Tryz.pinned (OpenSpec.ofChange planSessionSpec)

/-- ITS FALSE NEIGHBOUR: 'it returns false'. Refute it at one input. -/
def planSessionWrong : ChangeSpec := { name := "planSession", fn := fun _ => fun
  | [d1, d2, d3, d4, d5] => { results := [.lit (.bool false)], args := [d1, d2, d3, d4, d5] }
  | _ => none }
def PlanSessionWrongFalsely : Prop := planSessionRow.holds Tryz.pinned (OpenSpec.ofChange planSessionWrong)

/-- 'manglelaw12.PlanPlays': WHATEVER THE INPUT: true; the input reads as it did. -/
def planPlaysSpec : ChangeSpec := { name := "planPlays", fn := fun _ => fun
  | [d1, d2, d3] => { results := [.lit (.bool true)], args := [d1, d2, d3] }
  | _ => none }
def planPlaysRow : OpenClaim := { program := "ytmioiaeiflbmhaagreat", sum := "f09e56f823f7b6e2cbe73c17152b8056d6238c72e966a1732db8a6625e12f253", func := "mangle/manglelaw12.PlanPlays", spec := "planPlays", inPlace := ["internal/bytealg.Count", "internal/bytealg.IndexByte", "internal/bytealg.Index"], unfollowed := true, recurses := true, named := ["internal/bytealg.MaxLen"], apart := false }
def PlanPlaysSaid : Prop := planPlaysRow.holds Tryz.pinned (OpenSpec.ofChange planPlaysSpec)

/-- ITS FALSE NEIGHBOUR: 'it returns false'. Refute it at one input. -/
def planPlaysWrong : ChangeSpec := { name := "planPlays", fn := fun _ => fun
  | [d1, d2, d3] => { results := [.lit (.bool false)], args := [d1, d2, d3] }
  | _ => none }
def PlanPlaysWrongFalsely : Prop := planPlaysRow.holds Tryz.pinned (OpenSpec.ofChange planPlaysWrong)

/- THE SECOND FORM. 'bulk': how many values and letters a reading holds, each counted each time it is reached (what is shared counts as often as it is met; a slice's spare places count too). A statement '..UptoSaid' is the law's where the arguments, and the package variables that the reading takes, are together of bulk at most 1048576: NARROWER than '..Said'. Prove '..Said' where nothing that the law and all that it calls make is longer than what came in: it says more and counts as full. Else prove '..UptoSaid'. A law counts once. -/
mutual
def uptoBulk {H : Type} : DataW H → Nat
  | .lit (.string bytes) => bytes.length + 1
  | .lit _ => 1
  | .nil => 1
  | .ptr d => uptoBulk d + 1
  | .slice elems spare => uptoBulkAll elems + uptoBulkAll spare + 1
  | .agg parts => uptoBulkAll parts + 1
  | .iface _ d => uptoBulk d + 1
  | .map entries => uptoBulkEntries entries + 1
  | .held _ => 1
def uptoBulkAll {H : Type} : List (DataW H) → Nat
  | [] => 0
  | d :: r => uptoBulk d + uptoBulkAll r
def uptoBulkEntries {H : Type} : List (Lit × DataW H) → Nat
  | [] => 0
  | x :: r => uptoBulkEntry x + uptoBulkEntries r
def uptoBulkEntry {H : Type} : Lit × DataW H → Nat
  | (.string bytes, d) => bytes.length + uptoBulk d + 1
  | (_, d) => uptoBulk d + 1
 end
def uptoSmall : (H : Type) → List (DataW H) → Bool := fun _ ds => decide (uptoBulkAll ds ≤ 1048576)
def OpenSpec.upto (s : _root_.Go.ChangeSpec) : _root_.Go.OpenSpec := { _root_.Go.OpenSpec.ofChange s with cond := some uptoSmall }

/-- 'manglelaw12.PlanErrs', WHERE WHAT IT READS IS OF BULK AT MOST 1048576: true; the input reads as it did. -/
def planErrsUptoRow : OpenClaim := { program := "ytmioiaeiflbmhaagreat", sum := "f09e56f823f7b6e2cbe73c17152b8056d6238c72e966a1732db8a6625e12f253", func := "mangle/manglelaw12.PlanErrs", spec := "planErrs", inPlace := ["internal/bytealg.Count", "internal/bytealg.IndexByte", "internal/bytealg.Index"], unfollowed := true, recurses := true, named := ["internal/bytealg.MaxLen"], apart := false, narrowed := true }
def PlanErrsUptoSaid : Prop := planErrsUptoRow.holds Tryz.pinned (OpenSpec.upto planErrsSpec)

/-- 'manglelaw12.PlanUses', WHERE WHAT IT READS IS OF BULK AT MOST 1048576: true; the input reads as it did. -/
def planUsesUptoRow : OpenClaim := { program := "ytmioiaeiflbmhaagreat", sum := "f09e56f823f7b6e2cbe73c17152b8056d6238c72e966a1732db8a6625e12f253", func := "mangle/manglelaw12.PlanUses", spec := "planUses", inPlace := ["internal/bytealg.Count", "internal/bytealg.IndexByte", "internal/bytealg.Index"], unfollowed := true, recurses := true, named := ["internal/bytealg.MaxLen"], apart := false, narrowed := true }
def PlanUsesUptoSaid : Prop := planUsesUptoRow.holds Tryz.pinned (OpenSpec.upto planUsesSpec)

/-- 'manglelaw12.PlanOwner', WHERE WHAT IT READS IS OF BULK AT MOST 1048576: true; the input reads as it did. -/
def planOwnerUptoRow : OpenClaim := { program := "ytmioiaeiflbmhaagreat", sum := "f09e56f823f7b6e2cbe73c17152b8056d6238c72e966a1732db8a6625e12f253", func := "mangle/manglelaw12.PlanOwner", spec := "planOwner", inPlace := ["internal/bytealg.Count", "internal/bytealg.IndexByte", "internal/bytealg.Index"], unfollowed := true, recurses := true, named := ["internal/bytealg.MaxLen"], apart := false, narrowed := true }
def PlanOwnerUptoSaid : Prop := planOwnerUptoRow.holds Tryz.pinned (OpenSpec.upto planOwnerSpec)

/-- 'manglelaw12.PlanOpen', WHERE WHAT IT READS IS OF BULK AT MOST 1048576: true; the input reads as it did. -/
def planOpenUptoRow : OpenClaim := { program := "ytmioiaeiflbmhaagreat", sum := "f09e56f823f7b6e2cbe73c17152b8056d6238c72e966a1732db8a6625e12f253", func := "mangle/manglelaw12.PlanOpen", spec := "planOpen", inPlace := ["internal/bytealg.Count", "internal/bytealg.IndexByte", "internal/bytealg.Index"], unfollowed := true, recurses := true, named := ["internal/bytealg.MaxLen"], apart := false, narrowed := true }
def PlanOpenUptoSaid : Prop := planOpenUptoRow.holds Tryz.pinned (OpenSpec.upto planOpenSpec)

/-- 'manglelaw12.PlanAborts', WHERE WHAT IT READS IS OF BULK AT MOST 1048576: true; the input reads as it did. -/
def planAbortsUptoRow : OpenClaim := { program := "ytmioiaeiflbmhaagreat", sum := "f09e56f823f7b6e2cbe73c17152b8056d6238c72e966a1732db8a6625e12f253", func := "mangle/manglelaw12.PlanAborts", spec := "planAborts", inPlace := ["internal/bytealg.Count", "internal/bytealg.IndexByte", "internal/bytealg.Index"], unfollowed := true, recurses := true, named := ["internal/bytealg.MaxLen"], apart := false, narrowed := true }
def PlanAbortsUptoSaid : Prop := planAbortsUptoRow.holds Tryz.pinned (OpenSpec.upto planAbortsSpec)

/-- 'manglelaw12.PlanQuota', WHERE WHAT IT READS IS OF BULK AT MOST 1048576: true; the input reads as it did. -/
def planQuotaUptoRow : OpenClaim := { program := "ytmioiaeiflbmhaagreat", sum := "f09e56f823f7b6e2cbe73c17152b8056d6238c72e966a1732db8a6625e12f253", func := "mangle/manglelaw12.PlanQuota", spec := "planQuota", inPlace := ["internal/bytealg.Count", "internal/bytealg.IndexByte", "internal/bytealg.Index"], unfollowed := true, recurses := true, named := ["internal/bytealg.MaxLen"], apart := false, narrowed := true }
def PlanQuotaUptoSaid : Prop := planQuotaUptoRow.holds Tryz.pinned (OpenSpec.upto planQuotaSpec)

/-- 'manglelaw12.PlanLoads', WHERE WHAT IT READS IS OF BULK AT MOST 1048576: true; the input reads as it did. -/
def planLoadsUptoRow : OpenClaim := { program := "ytmioiaeiflbmhaagreat", sum := "f09e56f823f7b6e2cbe73c17152b8056d6238c72e966a1732db8a6625e12f253", func := "mangle/manglelaw12.PlanLoads", spec := "planLoads", inPlace := ["internal/bytealg.Count", "internal/bytealg.IndexByte", "internal/bytealg.Index"], unfollowed := true, recurses := true, named := ["internal/bytealg.MaxLen"], apart := false, narrowed := true }
def PlanLoadsUptoSaid : Prop := planLoadsUptoRow.holds Tryz.pinned (OpenSpec.upto planLoadsSpec)

/-- 'manglelaw12.PlanSession', WHERE WHAT IT READS IS OF BULK AT MOST 1048576: true; the input reads as it did. -/
def planSessionUptoRow : OpenClaim := { program := "ytmioiaeiflbmhaagreat", sum := "f09e56f823f7b6e2cbe73c17152b8056d6238c72e966a1732db8a6625e12f253", func := "mangle/manglelaw12.PlanSession", spec := "planSession", inPlace := ["internal/bytealg.Count", "internal/bytealg.IndexByte", "internal/bytealg.Index"], unfollowed := true, recurses := true, named := ["internal/bytealg.MaxLen"], apart := false, narrowed := true }
def PlanSessionUptoSaid : Prop := planSessionUptoRow.holds Tryz.pinned (OpenSpec.upto planSessionSpec)

/-- 'manglelaw12.PlanPlays', WHERE WHAT IT READS IS OF BULK AT MOST 1048576: true; the input reads as it did. -/
def planPlaysUptoRow : OpenClaim := { program := "ytmioiaeiflbmhaagreat", sum := "f09e56f823f7b6e2cbe73c17152b8056d6238c72e966a1732db8a6625e12f253", func := "mangle/manglelaw12.PlanPlays", spec := "planPlays", inPlace := ["internal/bytealg.Count", "internal/bytealg.IndexByte", "internal/bytealg.Index"], unfollowed := true, recurses := true, named := ["internal/bytealg.MaxLen"], apart := false, narrowed := true }
def PlanPlaysUptoSaid : Prop := planPlaysUptoRow.holds Tryz.pinned (OpenSpec.upto planPlaysSpec)

end Rows
end Go.Proofs.YtmioiaeiflbmhaaGreat
