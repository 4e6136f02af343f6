/-
  No cell of these rows narrows 'for every input' (looked for: loops, veiled, ifaces, maps, wideKeys, modest, calm, conditions, laid).
  DERIVED. THE GIVEN ROWS OF THIS SEAT. 5 by the template 'for every input the law returns true; each argument reads behind the call as it read before'; 0 by the template 'total and deterministic' (their statements: YtaolhoohjnbfkaaTotals.lean).
  GIVEN WITH THE SEED: the statements are not yours to turn. If you find one false, say at which input.
  Laid BY PROGRAM, IN A SANDBOX (cutbox-rows.mjs): the forced cells as the released guide's own fill.sh prints them over the translation 96f1c0e77bb33a53… (all of the seat's roots in one cut). By AI agents, Wed Nov 11 2026. No macro, syntax, notation, axiom, sorry.
-/
import Derived.Test.YtaolhoohjnbfkaaChecked
import GoSem.Claim
import GoSem.ClaimJoined
import GoSem.ClaimMapViews
import Derived.JoinedTies
import Derived.KernelRfl
namespace Go.Proofs.Ytaolhoohjnbfkaa
/- THE CELL 'sum', in the pinned program and in every row, IS THE sha256 OF THE DUMP (.gsa) THAT YtaolhoohjnbfkaaProg.lean LOADS. Nothing in Lean hashes anything: it is a label: what it is worth is what the hold of that sum in a sandbox is worth. -/
noncomputable def Try.pinned : Pinned := { name := "ytaolhoohjnbfkaa", sum := "96f1c0e77bb33a5333fc43afdef4309e8a77be19cc6564d4d112bdced3037ea5", checked := Try.checked }
namespace Rows
def none {H : Type} : Left H := { results := [], args := [] }

/-- 'laws.FnExactImageSame': WHATEVER THE INPUT: true; the input reads as it did. -/
def fnExactImageSameSpec : ChangeSpec := { name := "fnExactImageSame", fn := fun _ => fun
  | [d1, d2] => { results := [.lit (.bool true)], args := [d1, d2] }
  | _ => none }
def fnExactImageSameRow : OpenClaim := { program := "ytaolhoohjnbfkaa", sum := "96f1c0e77bb33a5333fc43afdef4309e8a77be19cc6564d4d112bdced3037ea5", func := "loop.example/stepstone/laws.FnExactImageSame", spec := "fnExactImageSame", apart := false }
def FnExactImageSameSaid : Prop := fnExactImageSameRow.holds Try.pinned (OpenSpec.ofChange fnExactImageSameSpec)

/-- ITS FALSE NEIGHBOUR: 'it returns false'. Refute it at one input. -/
def fnExactImageSameWrong : ChangeSpec := { name := "fnExactImageSame", fn := fun _ => fun
  | [d1, d2] => { results := [.lit (.bool false)], args := [d1, d2] }
  | _ => none }
def FnExactImageSameWrongFalsely : Prop := fnExactImageSameRow.holds Try.pinned (OpenSpec.ofChange fnExactImageSameWrong)

/-- 'laws.FnExactCpuSame': WHATEVER THE INPUT: true; the input reads as it did. -/
def fnExactCpuSameSpec : ChangeSpec := { name := "fnExactCpuSame", fn := fun _ => fun
  | [d1, d2] => { results := [.lit (.bool true)], args := [d1, d2] }
  | _ => none }
def fnExactCpuSameRow : OpenClaim := { program := "ytaolhoohjnbfkaa", sum := "96f1c0e77bb33a5333fc43afdef4309e8a77be19cc6564d4d112bdced3037ea5", func := "loop.example/stepstone/laws.FnExactCpuSame", spec := "fnExactCpuSame", apart := false }
def FnExactCpuSameSaid : Prop := fnExactCpuSameRow.holds Try.pinned (OpenSpec.ofChange fnExactCpuSameSpec)

/-- ITS FALSE NEIGHBOUR: 'it returns false'. Refute it at one input. -/
def fnExactCpuSameWrong : ChangeSpec := { name := "fnExactCpuSame", fn := fun _ => fun
  | [d1, d2] => { results := [.lit (.bool false)], args := [d1, d2] }
  | _ => none }
def FnExactCpuSameWrongFalsely : Prop := fnExactCpuSameRow.holds Try.pinned (OpenSpec.ofChange fnExactCpuSameWrong)

/-- 'laws.FnExactImageOk': WHATEVER THE INPUT: true; the input reads as it did. -/
def fnExactImageOkSpec : ChangeSpec := { name := "fnExactImageOk", fn := fun _ => fun
  | [d1, d2] => { results := [.lit (.bool true)], args := [d1, d2] }
  | _ => none }
def fnExactImageOkRow : OpenClaim := { program := "ytaolhoohjnbfkaa", sum := "96f1c0e77bb33a5333fc43afdef4309e8a77be19cc6564d4d112bdced3037ea5", func := "loop.example/stepstone/laws.FnExactImageOk", spec := "fnExactImageOk", apart := false }
def FnExactImageOkSaid : Prop := fnExactImageOkRow.holds Try.pinned (OpenSpec.ofChange fnExactImageOkSpec)

/-- ITS FALSE NEIGHBOUR: 'it returns false'. Refute it at one input. -/
def fnExactImageOkWrong : ChangeSpec := { name := "fnExactImageOk", fn := fun _ => fun
  | [d1, d2] => { results := [.lit (.bool false)], args := [d1, d2] }
  | _ => none }
def FnExactImageOkWrongFalsely : Prop := fnExactImageOkRow.holds Try.pinned (OpenSpec.ofChange fnExactImageOkWrong)

/-- 'laws.FnExactCpuOk': WHATEVER THE INPUT: true; the input reads as it did. -/
def fnExactCpuOkSpec : ChangeSpec := { name := "fnExactCpuOk", fn := fun _ => fun
  | [d1, d2] => { results := [.lit (.bool true)], args := [d1, d2] }
  | _ => none }
def fnExactCpuOkRow : OpenClaim := { program := "ytaolhoohjnbfkaa", sum := "96f1c0e77bb33a5333fc43afdef4309e8a77be19cc6564d4d112bdced3037ea5", func := "loop.example/stepstone/laws.FnExactCpuOk", spec := "fnExactCpuOk", unfollowed := true, recurses := true, apart := false }
def FnExactCpuOkSaid : Prop := fnExactCpuOkRow.holds Try.pinned (OpenSpec.ofChange fnExactCpuOkSpec)

/-- ITS FALSE NEIGHBOUR: 'it returns false'. Refute it at one input. -/
def fnExactCpuOkWrong : ChangeSpec := { name := "fnExactCpuOk", fn := fun _ => fun
  | [d1, d2] => { results := [.lit (.bool false)], args := [d1, d2] }
  | _ => none }
def FnExactCpuOkWrongFalsely : Prop := fnExactCpuOkRow.holds Try.pinned (OpenSpec.ofChange fnExactCpuOkWrong)

/-- 'laws.FnExactCpuRun': WHATEVER THE INPUT: true; the input reads as it did. -/
def fnExactCpuRunSpec : ChangeSpec := { name := "fnExactCpuRun", fn := fun _ => fun
  | [d1, d2] => { results := [.lit (.bool true)], args := [d1, d2] }
  | _ => none }
def fnExactCpuRunRow : OpenClaim := { program := "ytaolhoohjnbfkaa", sum := "96f1c0e77bb33a5333fc43afdef4309e8a77be19cc6564d4d112bdced3037ea5", func := "loop.example/stepstone/laws.FnExactCpuRun", spec := "fnExactCpuRun", apart := false }
def FnExactCpuRunSaid : Prop := fnExactCpuRunRow.holds Try.pinned (OpenSpec.ofChange fnExactCpuRunSpec)

/-- ITS FALSE NEIGHBOUR: 'it returns false'. Refute it at one input. -/
def fnExactCpuRunWrong : ChangeSpec := { name := "fnExactCpuRun", fn := fun _ => fun
  | [d1, d2] => { results := [.lit (.bool false)], args := [d1, d2] }
  | _ => none }
def FnExactCpuRunWrongFalsely : Prop := fnExactCpuRunRow.holds Try.pinned (OpenSpec.ofChange fnExactCpuRunWrong)

/- THE SECOND FORM. 'bulk': how many values and letters a reading holds, each counted each time it is reached (what is shared counts as often as it is met; a slice's spare places count too). A statement '..UptoSaid' is the law's where the arguments, and the package variables that the reading takes, are together of bulk at most 1048576: NARROWER than '..Said'. Prove '..Said' where nothing that the law and all that it calls make is longer than what came in: it says more and counts as full. Else prove '..UptoSaid'. A law counts once. -/
mutual
def uptoBulk {H : Type} : DataW H → Nat
  | .lit (.string bytes) => bytes.length + 1
  | .lit _ => 1
  | .nil => 1
  | .ptr d => uptoBulk d + 1
  | .slice elems spare => uptoBulkAll elems + uptoBulkAll spare + 1
  | .agg parts => uptoBulkAll parts + 1
  | .iface _ d => uptoBulk d + 1
  | .map entries => uptoBulkEntries entries + 1
  | .held _ => 1
def uptoBulkAll {H : Type} : List (DataW H) → Nat
  | [] => 0
  | d :: r => uptoBulk d + uptoBulkAll r
def uptoBulkEntries {H : Type} : List (Lit × DataW H) → Nat
  | [] => 0
  | x :: r => uptoBulkEntry x + uptoBulkEntries r
def uptoBulkEntry {H : Type} : Lit × DataW H → Nat
  | (.string bytes, d) => bytes.length + uptoBulk d + 1
  | (_, d) => uptoBulk d + 1
 end
def uptoSmall : (H : Type) → List (DataW H) → Bool := fun _ ds => decide (uptoBulkAll ds ≤ 1048576)
def OpenSpec.upto (s : _root_.Go.ChangeSpec) : _root_.Go.OpenSpec := { _root_.Go.OpenSpec.ofChange s with cond := some uptoSmall }

/-- 'laws.FnExactImageSame', WHERE WHAT IT READS IS OF BULK AT MOST 1048576: true; the input reads as it did. -/
def fnExactImageSameUptoRow : OpenClaim := { program := "ytaolhoohjnbfkaa", sum := "96f1c0e77bb33a5333fc43afdef4309e8a77be19cc6564d4d112bdced3037ea5", func := "loop.example/stepstone/laws.FnExactImageSame", spec := "fnExactImageSame", apart := false, narrowed := true }
def FnExactImageSameUptoSaid : Prop := fnExactImageSameUptoRow.holds Try.pinned (OpenSpec.upto fnExactImageSameSpec)

/-- 'laws.FnExactCpuSame', WHERE WHAT IT READS IS OF BULK AT MOST 1048576: true; the input reads as it did. -/
def fnExactCpuSameUptoRow : OpenClaim := { program := "ytaolhoohjnbfkaa", sum := "96f1c0e77bb33a5333fc43afdef4309e8a77be19cc6564d4d112bdced3037ea5", func := "loop.example/stepstone/laws.FnExactCpuSame", spec := "fnExactCpuSame", apart := false, narrowed := true }
def FnExactCpuSameUptoSaid : Prop := fnExactCpuSameUptoRow.holds Try.pinned (OpenSpec.upto fnExactCpuSameSpec)

/-- 'laws.FnExactImageOk', WHERE WHAT IT READS IS OF BULK AT MOST 1048576: true; the input reads as it did. -/
def fnExactImageOkUptoRow : OpenClaim := { program := "ytaolhoohjnbfkaa", sum := "96f1c0e77bb33a5333fc43afdef4309e8a77be19cc6564d4d112bdced3037ea5", func := "loop.example/stepstone/laws.FnExactImageOk", spec := "fnExactImageOk", apart := false, narrowed := true }
def FnExactImageOkUptoSaid : Prop := fnExactImageOkUptoRow.holds Try.pinned (OpenSpec.upto fnExactImageOkSpec)

/-- 'laws.FnExactCpuOk', WHERE WHAT IT READS IS OF BULK AT MOST 1048576: true; the input reads as it did. -/
def fnExactCpuOkUptoRow : OpenClaim := { program := "ytaolhoohjnbfkaa", sum := "96f1c0e77bb33a5333fc43afdef4309e8a77be19cc6564d4d112bdced3037ea5", func := "loop.example/stepstone/laws.FnExactCpuOk", spec := "fnExactCpuOk", unfollowed := true, recurses := true, apart := false, narrowed := true }
def FnExactCpuOkUptoSaid : Prop := fnExactCpuOkUptoRow.holds Try.pinned (OpenSpec.upto fnExactCpuOkSpec)

/-- 'laws.FnExactCpuRun', WHERE WHAT IT READS IS OF BULK AT MOST 1048576: true; the input reads as it did. -/
def fnExactCpuRunUptoRow : OpenClaim := { program := "ytaolhoohjnbfkaa", sum := "96f1c0e77bb33a5333fc43afdef4309e8a77be19cc6564d4d112bdced3037ea5", func := "loop.example/stepstone/laws.FnExactCpuRun", spec := "fnExactCpuRun", apart := false, narrowed := true }
def FnExactCpuRunUptoSaid : Prop := fnExactCpuRunUptoRow.holds Try.pinned (OpenSpec.upto fnExactCpuRunSpec)

end Rows
end Go.Proofs.Ytaolhoohjnbfkaa
