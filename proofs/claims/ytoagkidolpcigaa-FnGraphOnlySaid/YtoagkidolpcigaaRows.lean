/-
  No cell of these rows narrows 'for every input' (looked for: loops, veiled, ifaces, maps, wideKeys, modest, calm, conditions, laid).
  DERIVED. THE GIVEN ROWS OF THIS SEAT. 8 by the template 'for every input the law returns true; each argument reads behind the call as it read before'; 0 by the template 'total and deterministic' (their statements: YtoagkidolpcigaaTotals.lean).
  GIVEN WITH THE SEED: the statements are not yours to turn. If you find one false, say at which input.
  Laid BY PROGRAM, IN A SANDBOX (cutbox-rows.mjs): the forced cells as the released guide's own fill.sh prints them over the translation 561ea3040f94022b… (all of the seat's roots in one cut). By AI agents, Wed Nov 11 2026. No macro, syntax, notation, axiom, sorry.
-/
import Derived.Test.YtoagkidolpcigaaChecked
import GoSem.Claim
import GoSem.ClaimJoined
import GoSem.ClaimMapViews
import Derived.JoinedTies
import Derived.KernelRfl
namespace Go.Proofs.Ytoagkidolpcigaa
/- THE CELL 'sum', in the pinned program and in every row, IS THE sha256 OF THE DUMP (.gsa) THAT YtoagkidolpcigaaProg.lean LOADS. Nothing in Lean hashes anything: it is a label: what it is worth is what the hold of that sum in a sandbox is worth. -/
noncomputable def Try.pinned : Pinned := { name := "ytoagkidolpcigaa", sum := "561ea3040f94022b4ecd4c62fc972009b71b01298d2ec7d5ac6a156291842491", checked := Try.checked }
namespace Rows
def none {H : Type} : Left H := { results := [], args := [] }

/-- 'laws.FnKeepReach': WHATEVER THE INPUT: true; the input reads as it did. -/
def fnKeepReachSpec : ChangeSpec := { name := "fnKeepReach", fn := fun _ => fun
  | [d] => { results := [.lit (.bool true)], args := [d] }
  | _ => none }
def fnKeepReachRow : OpenClaim := { program := "ytoagkidolpcigaa", sum := "561ea3040f94022b4ecd4c62fc972009b71b01298d2ec7d5ac6a156291842491", func := "loop.example/stepstone/laws.FnKeepReach", spec := "fnKeepReach", unfollowed := true, recurses := true, apart := false }
def FnKeepReachSaid : Prop := fnKeepReachRow.holds Try.pinned (OpenSpec.ofChange fnKeepReachSpec)

/-- ITS FALSE NEIGHBOUR: 'it returns false'. Refute it at one input. -/
def fnKeepReachWrong : ChangeSpec := { name := "fnKeepReach", fn := fun _ => fun
  | [d] => { results := [.lit (.bool false)], args := [d] }
  | _ => none }
def FnKeepReachWrongFalsely : Prop := fnKeepReachRow.holds Try.pinned (OpenSpec.ofChange fnKeepReachWrong)

/-- 'laws.FnKeepUnion': WHATEVER THE INPUT: true; the input reads as it did. -/
def fnKeepUnionSpec : ChangeSpec := { name := "fnKeepUnion", fn := fun _ => fun
  | [d] => { results := [.lit (.bool true)], args := [d] }
  | _ => none }
def fnKeepUnionRow : OpenClaim := { program := "ytoagkidolpcigaa", sum := "561ea3040f94022b4ecd4c62fc972009b71b01298d2ec7d5ac6a156291842491", func := "loop.example/stepstone/laws.FnKeepUnion", spec := "fnKeepUnion", unfollowed := true, recurses := true, apart := false }
def FnKeepUnionSaid : Prop := fnKeepUnionRow.holds Try.pinned (OpenSpec.ofChange fnKeepUnionSpec)

/-- ITS FALSE NEIGHBOUR: 'it returns false'. Refute it at one input. -/
def fnKeepUnionWrong : ChangeSpec := { name := "fnKeepUnion", fn := fun _ => fun
  | [d] => { results := [.lit (.bool false)], args := [d] }
  | _ => none }
def FnKeepUnionWrongFalsely : Prop := fnKeepUnionRow.holds Try.pinned (OpenSpec.ofChange fnKeepUnionWrong)

/-- 'laws.FnGraphLeaf': WHATEVER THE INPUT: true; the input reads as it did. -/
def fnGraphLeafSpec : ChangeSpec := { name := "fnGraphLeaf", fn := fun _ => fun
  | [d] => { results := [.lit (.bool true)], args := [d] }
  | _ => none }
def fnGraphLeafRow : OpenClaim := { program := "ytoagkidolpcigaa", sum := "561ea3040f94022b4ecd4c62fc972009b71b01298d2ec7d5ac6a156291842491", func := "loop.example/stepstone/laws.FnGraphLeaf", spec := "fnGraphLeaf", unfollowed := true, recurses := true, apart := false }
def FnGraphLeafSaid : Prop := fnGraphLeafRow.holds Try.pinned (OpenSpec.ofChange fnGraphLeafSpec)

/-- ITS FALSE NEIGHBOUR: 'it returns false'. Refute it at one input. -/
def fnGraphLeafWrong : ChangeSpec := { name := "fnGraphLeaf", fn := fun _ => fun
  | [d] => { results := [.lit (.bool false)], args := [d] }
  | _ => none }
def FnGraphLeafWrongFalsely : Prop := fnGraphLeafRow.holds Try.pinned (OpenSpec.ofChange fnGraphLeafWrong)

/-- 'laws.FnKeepOnly': WHATEVER THE INPUT: true; the input reads as it did. -/
def fnKeepOnlySpec : ChangeSpec := { name := "fnKeepOnly", fn := fun _ => fun
  | [d] => { results := [.lit (.bool true)], args := [d] }
  | _ => none }
def fnKeepOnlyRow : OpenClaim := { program := "ytoagkidolpcigaa", sum := "561ea3040f94022b4ecd4c62fc972009b71b01298d2ec7d5ac6a156291842491", func := "loop.example/stepstone/laws.FnKeepOnly", spec := "fnKeepOnly", unfollowed := true, recurses := true, apart := false }
def FnKeepOnlySaid : Prop := fnKeepOnlyRow.holds Try.pinned (OpenSpec.ofChange fnKeepOnlySpec)

/-- ITS FALSE NEIGHBOUR: 'it returns false'. Refute it at one input. -/
def fnKeepOnlyWrong : ChangeSpec := { name := "fnKeepOnly", fn := fun _ => fun
  | [d] => { results := [.lit (.bool false)], args := [d] }
  | _ => none }
def FnKeepOnlyWrongFalsely : Prop := fnKeepOnlyRow.holds Try.pinned (OpenSpec.ofChange fnKeepOnlyWrong)

/-- 'laws.FnGraphBack': WHATEVER THE INPUT: true; the input reads as it did. -/
def fnGraphBackSpec : ChangeSpec := { name := "fnGraphBack", fn := fun _ => fun
  | [d] => { results := [.lit (.bool true)], args := [d] }
  | _ => none }
def fnGraphBackRow : OpenClaim := { program := "ytoagkidolpcigaa", sum := "561ea3040f94022b4ecd4c62fc972009b71b01298d2ec7d5ac6a156291842491", func := "loop.example/stepstone/laws.FnGraphBack", spec := "fnGraphBack", unfollowed := true, recurses := true, apart := false }
def FnGraphBackSaid : Prop := fnGraphBackRow.holds Try.pinned (OpenSpec.ofChange fnGraphBackSpec)

/-- ITS FALSE NEIGHBOUR: 'it returns false'. Refute it at one input. -/
def fnGraphBackWrong : ChangeSpec := { name := "fnGraphBack", fn := fun _ => fun
  | [d] => { results := [.lit (.bool false)], args := [d] }
  | _ => none }
def FnGraphBackWrongFalsely : Prop := fnGraphBackRow.holds Try.pinned (OpenSpec.ofChange fnGraphBackWrong)

/-- 'laws.FnKeepSame': WHATEVER THE INPUT: true; the input reads as it did. -/
def fnKeepSameSpec : ChangeSpec := { name := "fnKeepSame", fn := fun _ => fun
  | [d] => { results := [.lit (.bool true)], args := [d] }
  | _ => none }
def fnKeepSameRow : OpenClaim := { program := "ytoagkidolpcigaa", sum := "561ea3040f94022b4ecd4c62fc972009b71b01298d2ec7d5ac6a156291842491", func := "loop.example/stepstone/laws.FnKeepSame", spec := "fnKeepSame", unfollowed := true, recurses := true, apart := false }
def FnKeepSameSaid : Prop := fnKeepSameRow.holds Try.pinned (OpenSpec.ofChange fnKeepSameSpec)

/-- ITS FALSE NEIGHBOUR: 'it returns false'. Refute it at one input. -/
def fnKeepSameWrong : ChangeSpec := { name := "fnKeepSame", fn := fun _ => fun
  | [d] => { results := [.lit (.bool false)], args := [d] }
  | _ => none }
def FnKeepSameWrongFalsely : Prop := fnKeepSameRow.holds Try.pinned (OpenSpec.ofChange fnKeepSameWrong)

/-- 'laws.FnGraphOnly': WHATEVER THE INPUT: true; the input reads as it did. -/
def fnGraphOnlySpec : ChangeSpec := { name := "fnGraphOnly", fn := fun _ => fun
  | [d] => { results := [.lit (.bool true)], args := [d] }
  | _ => none }
def fnGraphOnlyRow : OpenClaim := { program := "ytoagkidolpcigaa", sum := "561ea3040f94022b4ecd4c62fc972009b71b01298d2ec7d5ac6a156291842491", func := "loop.example/stepstone/laws.FnGraphOnly", spec := "fnGraphOnly", unfollowed := true, recurses := true, apart := false }
def FnGraphOnlySaid : Prop := fnGraphOnlyRow.holds Try.pinned (OpenSpec.ofChange fnGraphOnlySpec)

/-- ITS FALSE NEIGHBOUR: 'it returns false'. Refute it at one input. -/
def fnGraphOnlyWrong : ChangeSpec := { name := "fnGraphOnly", fn := fun _ => fun
  | [d] => { results := [.lit (.bool false)], args := [d] }
  | _ => none }
def FnGraphOnlyWrongFalsely : Prop := fnGraphOnlyRow.holds Try.pinned (OpenSpec.ofChange fnGraphOnlyWrong)

/-- 'laws.FnMachOnly': WHATEVER THE INPUT: true; the input reads as it did. -/
def fnMachOnlySpec : ChangeSpec := { name := "fnMachOnly", fn := fun _ => fun
  | [d] => { results := [.lit (.bool true)], args := [d] }
  | _ => none }
def fnMachOnlyRow : OpenClaim := { program := "ytoagkidolpcigaa", sum := "561ea3040f94022b4ecd4c62fc972009b71b01298d2ec7d5ac6a156291842491", func := "loop.example/stepstone/laws.FnMachOnly", spec := "fnMachOnly", unfollowed := true, recurses := true, apart := false }
def FnMachOnlySaid : Prop := fnMachOnlyRow.holds Try.pinned (OpenSpec.ofChange fnMachOnlySpec)

/-- ITS FALSE NEIGHBOUR: 'it returns false'. Refute it at one input. -/
def fnMachOnlyWrong : ChangeSpec := { name := "fnMachOnly", fn := fun _ => fun
  | [d] => { results := [.lit (.bool false)], args := [d] }
  | _ => none }
def FnMachOnlyWrongFalsely : Prop := fnMachOnlyRow.holds Try.pinned (OpenSpec.ofChange fnMachOnlyWrong)

/- THE SECOND FORM. 'bulk': how many values and letters a reading holds, each counted each time it is reached (what is shared counts as often as it is met; a slice's spare places count too). A statement '..UptoSaid' is the law's where the arguments, and the package variables that the reading takes, are together of bulk at most 1048576: NARROWER than '..Said'. Prove '..Said' where nothing that the law and all that it calls make is longer than what came in: it says more and counts as full. Else prove '..UptoSaid'. A law counts once. -/
mutual
def uptoBulk {H : Type} : DataW H → Nat
  | .lit (.string bytes) => bytes.length + 1
  | .lit _ => 1
  | .nil => 1
  | .ptr d => uptoBulk d + 1
  | .slice elems spare => uptoBulkAll elems + uptoBulkAll spare + 1
  | .agg parts => uptoBulkAll parts + 1
  | .iface _ d => uptoBulk d + 1
  | .map entries => uptoBulkEntries entries + 1
  | .held _ => 1
def uptoBulkAll {H : Type} : List (DataW H) → Nat
  | [] => 0
  | d :: r => uptoBulk d + uptoBulkAll r
def uptoBulkEntries {H : Type} : List (Lit × DataW H) → Nat
  | [] => 0
  | x :: r => uptoBulkEntry x + uptoBulkEntries r
def uptoBulkEntry {H : Type} : Lit × DataW H → Nat
  | (.string bytes, d) => bytes.length + uptoBulk d + 1
  | (_, d) => uptoBulk d + 1
 end
def uptoSmall : (H : Type) → List (DataW H) → Bool := fun _ ds => decide (uptoBulkAll ds ≤ 1048576)
def OpenSpec.upto (s : _root_.Go.ChangeSpec) : _root_.Go.OpenSpec := { _root_.Go.OpenSpec.ofChange s with cond := some uptoSmall }

/-- 'laws.FnKeepReach', WHERE WHAT IT READS IS OF BULK AT MOST 1048576: true; the input reads as it did. -/
def fnKeepReachUptoRow : OpenClaim := { program := "ytoagkidolpcigaa", sum := "561ea3040f94022b4ecd4c62fc972009b71b01298d2ec7d5ac6a156291842491", func := "loop.example/stepstone/laws.FnKeepReach", spec := "fnKeepReach", unfollowed := true, recurses := true, apart := false, narrowed := true }
def FnKeepReachUptoSaid : Prop := fnKeepReachUptoRow.holds Try.pinned (OpenSpec.upto fnKeepReachSpec)

/-- 'laws.FnKeepUnion', WHERE WHAT IT READS IS OF BULK AT MOST 1048576: true; the input reads as it did. -/
def fnKeepUnionUptoRow : OpenClaim := { program := "ytoagkidolpcigaa", sum := "561ea3040f94022b4ecd4c62fc972009b71b01298d2ec7d5ac6a156291842491", func := "loop.example/stepstone/laws.FnKeepUnion", spec := "fnKeepUnion", unfollowed := true, recurses := true, apart := false, narrowed := true }
def FnKeepUnionUptoSaid : Prop := fnKeepUnionUptoRow.holds Try.pinned (OpenSpec.upto fnKeepUnionSpec)

/-- 'laws.FnGraphLeaf', WHERE WHAT IT READS IS OF BULK AT MOST 1048576: true; the input reads as it did. -/
def fnGraphLeafUptoRow : OpenClaim := { program := "ytoagkidolpcigaa", sum := "561ea3040f94022b4ecd4c62fc972009b71b01298d2ec7d5ac6a156291842491", func := "loop.example/stepstone/laws.FnGraphLeaf", spec := "fnGraphLeaf", unfollowed := true, recurses := true, apart := false, narrowed := true }
def FnGraphLeafUptoSaid : Prop := fnGraphLeafUptoRow.holds Try.pinned (OpenSpec.upto fnGraphLeafSpec)

/-- 'laws.FnKeepOnly', WHERE WHAT IT READS IS OF BULK AT MOST 1048576: true; the input reads as it did. -/
def fnKeepOnlyUptoRow : OpenClaim := { program := "ytoagkidolpcigaa", sum := "561ea3040f94022b4ecd4c62fc972009b71b01298d2ec7d5ac6a156291842491", func := "loop.example/stepstone/laws.FnKeepOnly", spec := "fnKeepOnly", unfollowed := true, recurses := true, apart := false, narrowed := true }
def FnKeepOnlyUptoSaid : Prop := fnKeepOnlyUptoRow.holds Try.pinned (OpenSpec.upto fnKeepOnlySpec)

/-- 'laws.FnGraphBack', WHERE WHAT IT READS IS OF BULK AT MOST 1048576: true; the input reads as it did. -/
def fnGraphBackUptoRow : OpenClaim := { program := "ytoagkidolpcigaa", sum := "561ea3040f94022b4ecd4c62fc972009b71b01298d2ec7d5ac6a156291842491", func := "loop.example/stepstone/laws.FnGraphBack", spec := "fnGraphBack", unfollowed := true, recurses := true, apart := false, narrowed := true }
def FnGraphBackUptoSaid : Prop := fnGraphBackUptoRow.holds Try.pinned (OpenSpec.upto fnGraphBackSpec)

/-- 'laws.FnKeepSame', WHERE WHAT IT READS IS OF BULK AT MOST 1048576: true; the input reads as it did. -/
def fnKeepSameUptoRow : OpenClaim := { program := "ytoagkidolpcigaa", sum := "561ea3040f94022b4ecd4c62fc972009b71b01298d2ec7d5ac6a156291842491", func := "loop.example/stepstone/laws.FnKeepSame", spec := "fnKeepSame", unfollowed := true, recurses := true, apart := false, narrowed := true }
def FnKeepSameUptoSaid : Prop := fnKeepSameUptoRow.holds Try.pinned (OpenSpec.upto fnKeepSameSpec)

/-- 'laws.FnGraphOnly', WHERE WHAT IT READS IS OF BULK AT MOST 1048576: true; the input reads as it did. -/
def fnGraphOnlyUptoRow : OpenClaim := { program := "ytoagkidolpcigaa", sum := "561ea3040f94022b4ecd4c62fc972009b71b01298d2ec7d5ac6a156291842491", func := "loop.example/stepstone/laws.FnGraphOnly", spec := "fnGraphOnly", unfollowed := true, recurses := true, apart := false, narrowed := true }
def FnGraphOnlyUptoSaid : Prop := fnGraphOnlyUptoRow.holds Try.pinned (OpenSpec.upto fnGraphOnlySpec)

/-- 'laws.FnMachOnly', WHERE WHAT IT READS IS OF BULK AT MOST 1048576: true; the input reads as it did. -/
def fnMachOnlyUptoRow : OpenClaim := { program := "ytoagkidolpcigaa", sum := "561ea3040f94022b4ecd4c62fc972009b71b01298d2ec7d5ac6a156291842491", func := "loop.example/stepstone/laws.FnMachOnly", spec := "fnMachOnly", unfollowed := true, recurses := true, apart := false, narrowed := true }
def FnMachOnlyUptoSaid : Prop := fnMachOnlyUptoRow.holds Try.pinned (OpenSpec.upto fnMachOnlySpec)

end Rows
end Go.Proofs.Ytoagkidolpcigaa
