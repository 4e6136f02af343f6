/-
  No cell of these rows narrows 'for every input' (looked for: loops, veiled, ifaces, maps, wideKeys, modest, calm, conditions, laid).
  DERIVED. THE GIVEN ROWS OF THIS SEAT. 5 by the template 'for every input the law returns true; each argument reads behind the call as it read before'; 0 by the template 'total and deterministic' (their statements: YteenlfeglffnoaaTotals.lean).
  GIVEN WITH THE SEED: the statements are not yours to turn. If you find one false, say at which input.
  Laid BY PROGRAM, IN A SANDBOX (cutbox-rows.mjs): the forced cells as the released guide's own fill.sh prints them over the translation 881576e79f6075e3… (all of the seat's roots in one cut). By AI agents, Wed Nov 11 2026. No macro, syntax, notation, axiom, sorry.
-/
import Derived.Test.YteenlfeglffnoaaChecked
import GoSem.Claim
import GoSem.ClaimJoined
import GoSem.ClaimMapViews
import Derived.JoinedTies
import Derived.KernelRfl
namespace Go.Proofs.Yteenlfeglffnoaa
/- THE CELL 'sum', in the pinned program and in every row, IS THE sha256 OF THE DUMP (.gsa) THAT YteenlfeglffnoaaProg.lean LOADS. Nothing in Lean hashes anything: it is a label: what it is worth is what the hold of that sum in a sandbox is worth. -/
noncomputable def Try.pinned : Pinned := { name := "yteenlfeglffnoaa", sum := "881576e79f6075e32a9fca39b14a587dd1204cad6781d0679b7501595301fc47", checked := Try.checked }
namespace Rows
def none {H : Type} : Left H := { results := [], args := [] }

/-- 'laws.FnExactCpuStep': WHATEVER THE INPUT: true; the input reads as it did. -/
def fnExactCpuStepSpec : ChangeSpec := { name := "fnExactCpuStep", fn := fun _ => fun
  | [d1, d2] => { results := [.lit (.bool true)], args := [d1, d2] }
  | _ => none }
def fnExactCpuStepRow : OpenClaim := { program := "yteenlfeglffnoaa", sum := "881576e79f6075e32a9fca39b14a587dd1204cad6781d0679b7501595301fc47", func := "loop.example/stepstone/laws.FnExactCpuStep", spec := "fnExactCpuStep", unfollowed := true, recurses := true, apart := false }
def FnExactCpuStepSaid : Prop := fnExactCpuStepRow.holds Try.pinned (OpenSpec.ofChange fnExactCpuStepSpec)

/-- ITS FALSE NEIGHBOUR: 'it returns false'. Refute it at one input. -/
def fnExactCpuStepWrong : ChangeSpec := { name := "fnExactCpuStep", fn := fun _ => fun
  | [d1, d2] => { results := [.lit (.bool false)], args := [d1, d2] }
  | _ => none }
def FnExactCpuStepWrongFalsely : Prop := fnExactCpuStepRow.holds Try.pinned (OpenSpec.ofChange fnExactCpuStepWrong)

/-- 'laws.FnExactLaySize': WHATEVER THE INPUT: true; the input reads as it did. -/
def fnExactLaySizeSpec : ChangeSpec := { name := "fnExactLaySize", fn := fun _ => fun
  | [d1, d2] => { results := [.lit (.bool true)], args := [d1, d2] }
  | _ => none }
def fnExactLaySizeRow : OpenClaim := { program := "yteenlfeglffnoaa", sum := "881576e79f6075e32a9fca39b14a587dd1204cad6781d0679b7501595301fc47", func := "loop.example/stepstone/laws.FnExactLaySize", spec := "fnExactLaySize", unfollowed := true, recurses := true, apart := false }
def FnExactLaySizeSaid : Prop := fnExactLaySizeRow.holds Try.pinned (OpenSpec.ofChange fnExactLaySizeSpec)

/-- ITS FALSE NEIGHBOUR: 'it returns false'. Refute it at one input. -/
def fnExactLaySizeWrong : ChangeSpec := { name := "fnExactLaySize", fn := fun _ => fun
  | [d1, d2] => { results := [.lit (.bool false)], args := [d1, d2] }
  | _ => none }
def FnExactLaySizeWrongFalsely : Prop := fnExactLaySizeRow.holds Try.pinned (OpenSpec.ofChange fnExactLaySizeWrong)

/-- 'laws.FnExactLayTo': WHATEVER THE INPUT: true; the input reads as it did. -/
def fnExactLayToSpec : ChangeSpec := { name := "fnExactLayTo", fn := fun _ => fun
  | [d1, d2, d3, d4, d5] => { results := [.lit (.bool true)], args := [d1, d2, d3, d4, d5] }
  | _ => none }
def fnExactLayToRow : OpenClaim := { program := "yteenlfeglffnoaa", sum := "881576e79f6075e32a9fca39b14a587dd1204cad6781d0679b7501595301fc47", func := "loop.example/stepstone/laws.FnExactLayTo", spec := "fnExactLayTo", unfollowed := true, recurses := true, apart := false }
def FnExactLayToSaid : Prop := fnExactLayToRow.holds Try.pinned (OpenSpec.ofChange fnExactLayToSpec)

/-- ITS FALSE NEIGHBOUR: 'it returns false'. Refute it at one input. -/
def fnExactLayToWrong : ChangeSpec := { name := "fnExactLayTo", fn := fun _ => fun
  | [d1, d2, d3, d4, d5] => { results := [.lit (.bool false)], args := [d1, d2, d3, d4, d5] }
  | _ => none }
def FnExactLayToWrongFalsely : Prop := fnExactLayToRow.holds Try.pinned (OpenSpec.ofChange fnExactLayToWrong)

/-- 'laws.FnExactLayOk': WHATEVER THE INPUT: true; the input reads as it did. -/
def fnExactLayOkSpec : ChangeSpec := { name := "fnExactLayOk", fn := fun _ => fun
  | [d1, d2, d3] => { results := [.lit (.bool true)], args := [d1, d2, d3] }
  | _ => none }
def fnExactLayOkRow : OpenClaim := { program := "yteenlfeglffnoaa", sum := "881576e79f6075e32a9fca39b14a587dd1204cad6781d0679b7501595301fc47", func := "loop.example/stepstone/laws.FnExactLayOk", spec := "fnExactLayOk", unfollowed := true, recurses := true, apart := false }
def FnExactLayOkSaid : Prop := fnExactLayOkRow.holds Try.pinned (OpenSpec.ofChange fnExactLayOkSpec)

/-- ITS FALSE NEIGHBOUR: 'it returns false'. Refute it at one input. -/
def fnExactLayOkWrong : ChangeSpec := { name := "fnExactLayOk", fn := fun _ => fun
  | [d1, d2, d3] => { results := [.lit (.bool false)], args := [d1, d2, d3] }
  | _ => none }
def FnExactLayOkWrongFalsely : Prop := fnExactLayOkRow.holds Try.pinned (OpenSpec.ofChange fnExactLayOkWrong)

/-- 'laws.FnExactMachRun': WHATEVER THE INPUT: true; the input reads as it did. -/
def fnExactMachRunSpec : ChangeSpec := { name := "fnExactMachRun", fn := fun _ => fun
  | [d1, d2] => { results := [.lit (.bool true)], args := [d1, d2] }
  | _ => none }
def fnExactMachRunRow : OpenClaim := { program := "yteenlfeglffnoaa", sum := "881576e79f6075e32a9fca39b14a587dd1204cad6781d0679b7501595301fc47", func := "loop.example/stepstone/laws.FnExactMachRun", spec := "fnExactMachRun", unfollowed := true, recurses := true, apart := false }
def FnExactMachRunSaid : Prop := fnExactMachRunRow.holds Try.pinned (OpenSpec.ofChange fnExactMachRunSpec)

/-- ITS FALSE NEIGHBOUR: 'it returns false'. Refute it at one input. -/
def fnExactMachRunWrong : ChangeSpec := { name := "fnExactMachRun", fn := fun _ => fun
  | [d1, d2] => { results := [.lit (.bool false)], args := [d1, d2] }
  | _ => none }
def FnExactMachRunWrongFalsely : Prop := fnExactMachRunRow.holds Try.pinned (OpenSpec.ofChange fnExactMachRunWrong)

/- THE SECOND FORM. 'bulk': how many values and letters a reading holds, each counted each time it is reached (what is shared counts as often as it is met; a slice's spare places count too). A statement '..UptoSaid' is the law's where the arguments, and the package variables that the reading takes, are together of bulk at most 1048576: NARROWER than '..Said'. Prove '..Said' where nothing that the law and all that it calls make is longer than what came in: it says more and counts as full. Else prove '..UptoSaid'. A law counts once. -/
mutual
def uptoBulk {H : Type} : DataW H → Nat
  | .lit (.string bytes) => bytes.length + 1
  | .lit _ => 1
  | .nil => 1
  | .ptr d => uptoBulk d + 1
  | .slice elems spare => uptoBulkAll elems + uptoBulkAll spare + 1
  | .agg parts => uptoBulkAll parts + 1
  | .iface _ d => uptoBulk d + 1
  | .map entries => uptoBulkEntries entries + 1
  | .held _ => 1
def uptoBulkAll {H : Type} : List (DataW H) → Nat
  | [] => 0
  | d :: r => uptoBulk d + uptoBulkAll r
def uptoBulkEntries {H : Type} : List (Lit × DataW H) → Nat
  | [] => 0
  | x :: r => uptoBulkEntry x + uptoBulkEntries r
def uptoBulkEntry {H : Type} : Lit × DataW H → Nat
  | (.string bytes, d) => bytes.length + uptoBulk d + 1
  | (_, d) => uptoBulk d + 1
 end
def uptoSmall : (H : Type) → List (DataW H) → Bool := fun _ ds => decide (uptoBulkAll ds ≤ 1048576)
def OpenSpec.upto (s : _root_.Go.ChangeSpec) : _root_.Go.OpenSpec := { _root_.Go.OpenSpec.ofChange s with cond := some uptoSmall }

/-- 'laws.FnExactCpuStep', WHERE WHAT IT READS IS OF BULK AT MOST 1048576: true; the input reads as it did. -/
def fnExactCpuStepUptoRow : OpenClaim := { program := "yteenlfeglffnoaa", sum := "881576e79f6075e32a9fca39b14a587dd1204cad6781d0679b7501595301fc47", func := "loop.example/stepstone/laws.FnExactCpuStep", spec := "fnExactCpuStep", unfollowed := true, recurses := true, apart := false, narrowed := true }
def FnExactCpuStepUptoSaid : Prop := fnExactCpuStepUptoRow.holds Try.pinned (OpenSpec.upto fnExactCpuStepSpec)

/-- 'laws.FnExactLaySize', WHERE WHAT IT READS IS OF BULK AT MOST 1048576: true; the input reads as it did. -/
def fnExactLaySizeUptoRow : OpenClaim := { program := "yteenlfeglffnoaa", sum := "881576e79f6075e32a9fca39b14a587dd1204cad6781d0679b7501595301fc47", func := "loop.example/stepstone/laws.FnExactLaySize", spec := "fnExactLaySize", unfollowed := true, recurses := true, apart := false, narrowed := true }
def FnExactLaySizeUptoSaid : Prop := fnExactLaySizeUptoRow.holds Try.pinned (OpenSpec.upto fnExactLaySizeSpec)

/-- 'laws.FnExactLayTo', WHERE WHAT IT READS IS OF BULK AT MOST 1048576: true; the input reads as it did. -/
def fnExactLayToUptoRow : OpenClaim := { program := "yteenlfeglffnoaa", sum := "881576e79f6075e32a9fca39b14a587dd1204cad6781d0679b7501595301fc47", func := "loop.example/stepstone/laws.FnExactLayTo", spec := "fnExactLayTo", unfollowed := true, recurses := true, apart := false, narrowed := true }
def FnExactLayToUptoSaid : Prop := fnExactLayToUptoRow.holds Try.pinned (OpenSpec.upto fnExactLayToSpec)

/-- 'laws.FnExactLayOk', WHERE WHAT IT READS IS OF BULK AT MOST 1048576: true; the input reads as it did. -/
def fnExactLayOkUptoRow : OpenClaim := { program := "yteenlfeglffnoaa", sum := "881576e79f6075e32a9fca39b14a587dd1204cad6781d0679b7501595301fc47", func := "loop.example/stepstone/laws.FnExactLayOk", spec := "fnExactLayOk", unfollowed := true, recurses := true, apart := false, narrowed := true }
def FnExactLayOkUptoSaid : Prop := fnExactLayOkUptoRow.holds Try.pinned (OpenSpec.upto fnExactLayOkSpec)

/-- 'laws.FnExactMachRun', WHERE WHAT IT READS IS OF BULK AT MOST 1048576: true; the input reads as it did. -/
def fnExactMachRunUptoRow : OpenClaim := { program := "yteenlfeglffnoaa", sum := "881576e79f6075e32a9fca39b14a587dd1204cad6781d0679b7501595301fc47", func := "loop.example/stepstone/laws.FnExactMachRun", spec := "fnExactMachRun", unfollowed := true, recurses := true, apart := false, narrowed := true }
def FnExactMachRunUptoSaid : Prop := fnExactMachRunUptoRow.holds Try.pinned (OpenSpec.upto fnExactMachRunSpec)

end Rows
end Go.Proofs.Yteenlfeglffnoaa
