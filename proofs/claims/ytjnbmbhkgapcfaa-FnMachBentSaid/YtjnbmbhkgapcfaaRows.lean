/-
  No cell of these rows narrows 'for every input' (looked for: loops, veiled, ifaces, maps, wideKeys, modest, calm, conditions, laid).
  DERIVED. THE GIVEN ROWS OF THIS SEAT. 4 by the template 'for every input the law returns true; each argument reads behind the call as it read before'; 0 by the template 'total and deterministic' (their statements: YtjnbmbhkgapcfaaTotals.lean).
  GIVEN WITH THE SEED: the statements are not yours to turn. If you find one false, say at which input.
  Laid BY PROGRAM, IN A SANDBOX (cutbox-rows.mjs): the forced cells as the released guide's own fill.sh prints them over the translation a9d0008ee61f1638… (all of the seat's roots in one cut). By AI agents, Wed Nov 11 2026. No macro, syntax, notation, axiom, sorry.
-/
import Derived.Test.YtjnbmbhkgapcfaaChecked
import GoSem.Claim
import GoSem.ClaimJoined
import GoSem.ClaimMapViews
import Derived.JoinedTies
import Derived.KernelRfl
namespace Go.Proofs.Ytjnbmbhkgapcfaa
/- THE CELL 'sum', in the pinned program and in every row, IS THE sha256 OF THE DUMP (.gsa) THAT YtjnbmbhkgapcfaaProg.lean LOADS. Nothing in Lean hashes anything: it is a label: what it is worth is what the hold of that sum in a sandbox is worth. -/
noncomputable def Try.pinned : Pinned := { name := "ytjnbmbhkgapcfaa", sum := "a9d0008ee61f16388cdc6c0c19a02d9f1493a38965ee0b7c7c9a11400a7c7419", checked := Try.checked }
namespace Rows
def none {H : Type} : Left H := { results := [], args := [] }

/-- 'laws.FnMachCount': WHATEVER THE INPUT: true; the input reads as it did. -/
def fnMachCountSpec : ChangeSpec := { name := "fnMachCount", fn := fun _ => fun
  | [d] => { results := [.lit (.bool true)], args := [d] }
  | _ => none }
def fnMachCountRow : OpenClaim := { program := "ytjnbmbhkgapcfaa", sum := "a9d0008ee61f16388cdc6c0c19a02d9f1493a38965ee0b7c7c9a11400a7c7419", func := "loop.example/stepstone/laws.FnMachCount", spec := "fnMachCount", unfollowed := true, recurses := true, apart := false }
def FnMachCountSaid : Prop := fnMachCountRow.holds Try.pinned (OpenSpec.ofChange fnMachCountSpec)

/-- ITS FALSE NEIGHBOUR: 'it returns false'. Refute it at one input. -/
def fnMachCountWrong : ChangeSpec := { name := "fnMachCount", fn := fun _ => fun
  | [d] => { results := [.lit (.bool false)], args := [d] }
  | _ => none }
def FnMachCountWrongFalsely : Prop := fnMachCountRow.holds Try.pinned (OpenSpec.ofChange fnMachCountWrong)

/-- 'laws.FnMachLeaf': WHATEVER THE INPUT: true; the input reads as it did. -/
def fnMachLeafSpec : ChangeSpec := { name := "fnMachLeaf", fn := fun _ => fun
  | [d1, d2] => { results := [.lit (.bool true)], args := [d1, d2] }
  | _ => none }
def fnMachLeafRow : OpenClaim := { program := "ytjnbmbhkgapcfaa", sum := "a9d0008ee61f16388cdc6c0c19a02d9f1493a38965ee0b7c7c9a11400a7c7419", func := "loop.example/stepstone/laws.FnMachLeaf", spec := "fnMachLeaf", unfollowed := true, recurses := true, apart := false }
def FnMachLeafSaid : Prop := fnMachLeafRow.holds Try.pinned (OpenSpec.ofChange fnMachLeafSpec)

/-- ITS FALSE NEIGHBOUR: 'it returns false'. Refute it at one input. -/
def fnMachLeafWrong : ChangeSpec := { name := "fnMachLeaf", fn := fun _ => fun
  | [d1, d2] => { results := [.lit (.bool false)], args := [d1, d2] }
  | _ => none }
def FnMachLeafWrongFalsely : Prop := fnMachLeafRow.holds Try.pinned (OpenSpec.ofChange fnMachLeafWrong)

/-- 'laws.FnMachBent': WHATEVER THE INPUT: true; the input reads as it did. -/
def fnMachBentSpec : ChangeSpec := { name := "fnMachBent", fn := fun _ => fun
  | [d] => { results := [.lit (.bool true)], args := [d] }
  | _ => none }
def fnMachBentRow : OpenClaim := { program := "ytjnbmbhkgapcfaa", sum := "a9d0008ee61f16388cdc6c0c19a02d9f1493a38965ee0b7c7c9a11400a7c7419", func := "loop.example/stepstone/laws.FnMachBent", spec := "fnMachBent", unfollowed := true, recurses := true, apart := false }
def FnMachBentSaid : Prop := fnMachBentRow.holds Try.pinned (OpenSpec.ofChange fnMachBentSpec)

/-- ITS FALSE NEIGHBOUR: 'it returns false'. Refute it at one input. -/
def fnMachBentWrong : ChangeSpec := { name := "fnMachBent", fn := fun _ => fun
  | [d] => { results := [.lit (.bool false)], args := [d] }
  | _ => none }
def FnMachBentWrongFalsely : Prop := fnMachBentRow.holds Try.pinned (OpenSpec.ofChange fnMachBentWrong)

/-- 'laws.FnMachOrder': WHATEVER THE INPUT: true; the input reads as it did. -/
def fnMachOrderSpec : ChangeSpec := { name := "fnMachOrder", fn := fun _ => fun
  | [d] => { results := [.lit (.bool true)], args := [d] }
  | _ => none }
def fnMachOrderRow : OpenClaim := { program := "ytjnbmbhkgapcfaa", sum := "a9d0008ee61f16388cdc6c0c19a02d9f1493a38965ee0b7c7c9a11400a7c7419", func := "loop.example/stepstone/laws.FnMachOrder", spec := "fnMachOrder", unfollowed := true, recurses := true, apart := false }
def FnMachOrderSaid : Prop := fnMachOrderRow.holds Try.pinned (OpenSpec.ofChange fnMachOrderSpec)

/-- ITS FALSE NEIGHBOUR: 'it returns false'. Refute it at one input. -/
def fnMachOrderWrong : ChangeSpec := { name := "fnMachOrder", fn := fun _ => fun
  | [d] => { results := [.lit (.bool false)], args := [d] }
  | _ => none }
def FnMachOrderWrongFalsely : Prop := fnMachOrderRow.holds Try.pinned (OpenSpec.ofChange fnMachOrderWrong)

/- THE SECOND FORM. 'bulk': how many values and letters a reading holds, each counted each time it is reached (what is shared counts as often as it is met; a slice's spare places count too). A statement '..UptoSaid' is the law's where the arguments, and the package variables that the reading takes, are together of bulk at most 1048576: NARROWER than '..Said'. Prove '..Said' where nothing that the law and all that it calls make is longer than what came in: it says more and counts as full. Else prove '..UptoSaid'. A law counts once. -/
mutual
def uptoBulk {H : Type} : DataW H → Nat
  | .lit (.string bytes) => bytes.length + 1
  | .lit _ => 1
  | .nil => 1
  | .ptr d => uptoBulk d + 1
  | .slice elems spare => uptoBulkAll elems + uptoBulkAll spare + 1
  | .agg parts => uptoBulkAll parts + 1
  | .iface _ d => uptoBulk d + 1
  | .map entries => uptoBulkEntries entries + 1
  | .held _ => 1
def uptoBulkAll {H : Type} : List (DataW H) → Nat
  | [] => 0
  | d :: r => uptoBulk d + uptoBulkAll r
def uptoBulkEntries {H : Type} : List (Lit × DataW H) → Nat
  | [] => 0
  | x :: r => uptoBulkEntry x + uptoBulkEntries r
def uptoBulkEntry {H : Type} : Lit × DataW H → Nat
  | (.string bytes, d) => bytes.length + uptoBulk d + 1
  | (_, d) => uptoBulk d + 1
 end
def uptoSmall : (H : Type) → List (DataW H) → Bool := fun _ ds => decide (uptoBulkAll ds ≤ 1048576)
def OpenSpec.upto (s : _root_.Go.ChangeSpec) : _root_.Go.OpenSpec := { _root_.Go.OpenSpec.ofChange s with cond := some uptoSmall }

/-- 'laws.FnMachCount', WHERE WHAT IT READS IS OF BULK AT MOST 1048576: true; the input reads as it did. -/
def fnMachCountUptoRow : OpenClaim := { program := "ytjnbmbhkgapcfaa", sum := "a9d0008ee61f16388cdc6c0c19a02d9f1493a38965ee0b7c7c9a11400a7c7419", func := "loop.example/stepstone/laws.FnMachCount", spec := "fnMachCount", unfollowed := true, recurses := true, apart := false, narrowed := true }
def FnMachCountUptoSaid : Prop := fnMachCountUptoRow.holds Try.pinned (OpenSpec.upto fnMachCountSpec)

/-- 'laws.FnMachLeaf', WHERE WHAT IT READS IS OF BULK AT MOST 1048576: true; the input reads as it did. -/
def fnMachLeafUptoRow : OpenClaim := { program := "ytjnbmbhkgapcfaa", sum := "a9d0008ee61f16388cdc6c0c19a02d9f1493a38965ee0b7c7c9a11400a7c7419", func := "loop.example/stepstone/laws.FnMachLeaf", spec := "fnMachLeaf", unfollowed := true, recurses := true, apart := false, narrowed := true }
def FnMachLeafUptoSaid : Prop := fnMachLeafUptoRow.holds Try.pinned (OpenSpec.upto fnMachLeafSpec)

/-- 'laws.FnMachBent', WHERE WHAT IT READS IS OF BULK AT MOST 1048576: true; the input reads as it did. -/
def fnMachBentUptoRow : OpenClaim := { program := "ytjnbmbhkgapcfaa", sum := "a9d0008ee61f16388cdc6c0c19a02d9f1493a38965ee0b7c7c9a11400a7c7419", func := "loop.example/stepstone/laws.FnMachBent", spec := "fnMachBent", unfollowed := true, recurses := true, apart := false, narrowed := true }
def FnMachBentUptoSaid : Prop := fnMachBentUptoRow.holds Try.pinned (OpenSpec.upto fnMachBentSpec)

/-- 'laws.FnMachOrder', WHERE WHAT IT READS IS OF BULK AT MOST 1048576: true; the input reads as it did. -/
def fnMachOrderUptoRow : OpenClaim := { program := "ytjnbmbhkgapcfaa", sum := "a9d0008ee61f16388cdc6c0c19a02d9f1493a38965ee0b7c7c9a11400a7c7419", func := "loop.example/stepstone/laws.FnMachOrder", spec := "fnMachOrder", unfollowed := true, recurses := true, apart := false, narrowed := true }
def FnMachOrderUptoSaid : Prop := fnMachOrderUptoRow.holds Try.pinned (OpenSpec.upto fnMachOrderSpec)

end Rows
end Go.Proofs.Ytjnbmbhkgapcfaa
