/-
  No cell of these rows narrows 'for every input' (looked for: loops, veiled, ifaces, maps, wideKeys, modest, calm, conditions, laid).
  DERIVED. THE GIVEN ROWS OF THIS SEAT. 8 by the template 'for every input the law returns true; each argument reads behind the call as it read before'; 0 by the template 'total and deterministic' (their statements: YtendgiieolkleaaTotals.lean).
  GIVEN WITH THE SEED: the statements are not yours to turn. If you find one false, say at which input.
  Laid BY PROGRAM, IN A SANDBOX (cutbox-rows.mjs): the forced cells as the released guide's own fill.sh prints them over the translation 6fd71ae84e403d90… (all of the seat's roots in one cut). By AI agents, Wed Nov 11 2026. No macro, syntax, notation, axiom, sorry.
-/
import Derived.Test.YtendgiieolkleaaChecked
import GoSem.Claim
import GoSem.ClaimJoined
import GoSem.ClaimMapViews
import Derived.JoinedTies
import Derived.KernelRfl
namespace Go.Proofs.Ytendgiieolkleaa
/- THE CELL 'sum', in the pinned program and in every row, IS THE sha256 OF THE DUMP (.gsa) THAT YtendgiieolkleaaProg.lean LOADS. Nothing in Lean hashes anything: it is a label: what it is worth is what the hold of that sum in a sandbox is worth. -/
noncomputable def Try.pinned : Pinned := { name := "ytendgiieolkleaa", sum := "6fd71ae84e403d9063a6d3f0e56a6d8edc4a605ad891f799ab38515c875de0c8", checked := Try.checked }
namespace Rows
def none {H : Type} : Left H := { results := [], args := [] }

/-- 'laws.FnExactQuadWindow': WHATEVER THE INPUT: true; the input reads as it did. -/
def fnExactQuadWindowSpec : ChangeSpec := { name := "fnExactQuadWindow", fn := fun _ => fun
  | [d1, d2, d3] => { results := [.lit (.bool true)], args := [d1, d2, d3] }
  | _ => none }
def fnExactQuadWindowRow : OpenClaim := { program := "ytendgiieolkleaa", sum := "6fd71ae84e403d9063a6d3f0e56a6d8edc4a605ad891f799ab38515c875de0c8", func := "loop.example/g00225/laws.FnExactQuadWindow", spec := "fnExactQuadWindow", recurses := true, apart := false }
def FnExactQuadWindowSaid : Prop := fnExactQuadWindowRow.holds Try.pinned (OpenSpec.ofChange fnExactQuadWindowSpec)

/-- ITS FALSE NEIGHBOUR: 'it returns false'. Refute it at one input. -/
def fnExactQuadWindowWrong : ChangeSpec := { name := "fnExactQuadWindow", fn := fun _ => fun
  | [d1, d2, d3] => { results := [.lit (.bool false)], args := [d1, d2, d3] }
  | _ => none }
def FnExactQuadWindowWrongFalsely : Prop := fnExactQuadWindowRow.holds Try.pinned (OpenSpec.ofChange fnExactQuadWindowWrong)

/-- 'laws.FnQuadLeaves': WHATEVER THE INPUT: true; the input reads as it did. -/
def fnQuadLeavesSpec : ChangeSpec := { name := "fnQuadLeaves", fn := fun _ => fun
  | [d] => { results := [.lit (.bool true)], args := [d] }
  | _ => none }
def fnQuadLeavesRow : OpenClaim := { program := "ytendgiieolkleaa", sum := "6fd71ae84e403d9063a6d3f0e56a6d8edc4a605ad891f799ab38515c875de0c8", func := "loop.example/g00225/laws.FnQuadLeaves", spec := "fnQuadLeaves", recurses := true, apart := false }
def FnQuadLeavesSaid : Prop := fnQuadLeavesRow.holds Try.pinned (OpenSpec.ofChange fnQuadLeavesSpec)

/-- ITS FALSE NEIGHBOUR: 'it returns false'. Refute it at one input. -/
def fnQuadLeavesWrong : ChangeSpec := { name := "fnQuadLeaves", fn := fun _ => fun
  | [d] => { results := [.lit (.bool false)], args := [d] }
  | _ => none }
def FnQuadLeavesWrongFalsely : Prop := fnQuadLeavesRow.holds Try.pinned (OpenSpec.ofChange fnQuadLeavesWrong)

/-- 'laws.FnExactQuadCut': WHATEVER THE INPUT: true; the input reads as it did. -/
def fnExactQuadCutSpec : ChangeSpec := { name := "fnExactQuadCut", fn := fun _ => fun
  | [d1, d2] => { results := [.lit (.bool true)], args := [d1, d2] }
  | _ => none }
def fnExactQuadCutRow : OpenClaim := { program := "ytendgiieolkleaa", sum := "6fd71ae84e403d9063a6d3f0e56a6d8edc4a605ad891f799ab38515c875de0c8", func := "loop.example/g00225/laws.FnExactQuadCut", spec := "fnExactQuadCut", unfollowed := true, recurses := true, apart := false }
def FnExactQuadCutSaid : Prop := fnExactQuadCutRow.holds Try.pinned (OpenSpec.ofChange fnExactQuadCutSpec)

/-- ITS FALSE NEIGHBOUR: 'it returns false'. Refute it at one input. -/
def fnExactQuadCutWrong : ChangeSpec := { name := "fnExactQuadCut", fn := fun _ => fun
  | [d1, d2] => { results := [.lit (.bool false)], args := [d1, d2] }
  | _ => none }
def FnExactQuadCutWrongFalsely : Prop := fnExactQuadCutRow.holds Try.pinned (OpenSpec.ofChange fnExactQuadCutWrong)

/-- 'laws.FnQuadKept': WHATEVER THE INPUT: true; the input reads as it did. -/
def fnQuadKeptSpec : ChangeSpec := { name := "fnQuadKept", fn := fun _ => fun
  | [d] => { results := [.lit (.bool true)], args := [d] }
  | _ => none }
def fnQuadKeptRow : OpenClaim := { program := "ytendgiieolkleaa", sum := "6fd71ae84e403d9063a6d3f0e56a6d8edc4a605ad891f799ab38515c875de0c8", func := "loop.example/g00225/laws.FnQuadKept", spec := "fnQuadKept", inPlace := ["slices.overlaps[loop.example/g00225/impl.Item]"], unfollowed := true, recurses := true, apart := false }
def FnQuadKeptSaid : Prop := fnQuadKeptRow.holds Try.pinned (OpenSpec.ofChange fnQuadKeptSpec)

/-- ITS FALSE NEIGHBOUR: 'it returns false'. Refute it at one input. -/
def fnQuadKeptWrong : ChangeSpec := { name := "fnQuadKept", fn := fun _ => fun
  | [d] => { results := [.lit (.bool false)], args := [d] }
  | _ => none }
def FnQuadKeptWrongFalsely : Prop := fnQuadKeptRow.holds Try.pinned (OpenSpec.ofChange fnQuadKeptWrong)

/-- 'laws.FnQuadWindows': WHATEVER THE INPUT: true; the input reads as it did. -/
def fnQuadWindowsSpec : ChangeSpec := { name := "fnQuadWindows", fn := fun _ => fun
  | [d] => { results := [.lit (.bool true)], args := [d] }
  | _ => none }
def fnQuadWindowsRow : OpenClaim := { program := "ytendgiieolkleaa", sum := "6fd71ae84e403d9063a6d3f0e56a6d8edc4a605ad891f799ab38515c875de0c8", func := "loop.example/g00225/laws.FnQuadWindows", spec := "fnQuadWindows", inPlace := ["slices.overlaps[loop.example/g00225/impl.Item]"], unfollowed := true, recurses := true, apart := false }
def FnQuadWindowsSaid : Prop := fnQuadWindowsRow.holds Try.pinned (OpenSpec.ofChange fnQuadWindowsSpec)

/-- ITS FALSE NEIGHBOUR: 'it returns false'. Refute it at one input. -/
def fnQuadWindowsWrong : ChangeSpec := { name := "fnQuadWindows", fn := fun _ => fun
  | [d] => { results := [.lit (.bool false)], args := [d] }
  | _ => none }
def FnQuadWindowsWrongFalsely : Prop := fnQuadWindowsRow.holds Try.pinned (OpenSpec.ofChange fnQuadWindowsWrong)

/-- 'laws.FnExactQuadPut': WHATEVER THE INPUT: true; the input reads as it did. -/
def fnExactQuadPutSpec : ChangeSpec := { name := "fnExactQuadPut", fn := fun _ => fun
  | [d1, d2, d3] => { results := [.lit (.bool true)], args := [d1, d2, d3] }
  | _ => none }
def fnExactQuadPutRow : OpenClaim := { program := "ytendgiieolkleaa", sum := "6fd71ae84e403d9063a6d3f0e56a6d8edc4a605ad891f799ab38515c875de0c8", func := "loop.example/g00225/laws.FnExactQuadPut", spec := "fnExactQuadPut", inPlace := ["slices.overlaps[loop.example/g00225/impl.Item]"], unfollowed := true, recurses := true, apart := false }
def FnExactQuadPutSaid : Prop := fnExactQuadPutRow.holds Try.pinned (OpenSpec.ofChange fnExactQuadPutSpec)

/-- ITS FALSE NEIGHBOUR: 'it returns false'. Refute it at one input. -/
def fnExactQuadPutWrong : ChangeSpec := { name := "fnExactQuadPut", fn := fun _ => fun
  | [d1, d2, d3] => { results := [.lit (.bool false)], args := [d1, d2, d3] }
  | _ => none }
def FnExactQuadPutWrongFalsely : Prop := fnExactQuadPutRow.holds Try.pinned (OpenSpec.ofChange fnExactQuadPutWrong)

/-- 'laws.FnExactFree': WHATEVER THE INPUT: true; the input reads as it did. -/
def fnExactFreeSpec : ChangeSpec := { name := "fnExactFree", fn := fun _ => fun
  | [d1, d2] => { results := [.lit (.bool true)], args := [d1, d2] }
  | _ => none }
def fnExactFreeRow : OpenClaim := { program := "ytendgiieolkleaa", sum := "6fd71ae84e403d9063a6d3f0e56a6d8edc4a605ad891f799ab38515c875de0c8", func := "loop.example/g00225/laws.FnExactFree", spec := "fnExactFree", inPlace := ["math/bits.Add64", "math/bits.Sub64"], unfollowed := true, recurses := true, named := ["math/bits.divideError", "math/bits.overflowError"], apart := false }
def FnExactFreeSaid : Prop := fnExactFreeRow.holds Try.pinned (OpenSpec.ofChange fnExactFreeSpec)

/-- ITS FALSE NEIGHBOUR: 'it returns false'. Refute it at one input. -/
def fnExactFreeWrong : ChangeSpec := { name := "fnExactFree", fn := fun _ => fun
  | [d1, d2] => { results := [.lit (.bool false)], args := [d1, d2] }
  | _ => none }
def FnExactFreeWrongFalsely : Prop := fnExactFreeRow.holds Try.pinned (OpenSpec.ofChange fnExactFreeWrong)

/-- 'laws.FnExactSessionOk': WHATEVER THE INPUT: true; the input reads as it did. -/
def fnExactSessionOkSpec : ChangeSpec := { name := "fnExactSessionOk", fn := fun _ => fun
  | [d] => { results := [.lit (.bool true)], args := [d] }
  | _ => none }
def fnExactSessionOkRow : OpenClaim := { program := "ytendgiieolkleaa", sum := "6fd71ae84e403d9063a6d3f0e56a6d8edc4a605ad891f799ab38515c875de0c8", func := "loop.example/g00225/laws.FnExactSessionOk", spec := "fnExactSessionOk", inPlace := ["math/bits.Add64", "math/bits.Sub64"], unfollowed := true, recurses := true, named := ["math/bits.divideError", "math/bits.overflowError"], apart := false }
def FnExactSessionOkSaid : Prop := fnExactSessionOkRow.holds Try.pinned (OpenSpec.ofChange fnExactSessionOkSpec)

/-- ITS FALSE NEIGHBOUR: 'it returns false'. Refute it at one input. -/
def fnExactSessionOkWrong : ChangeSpec := { name := "fnExactSessionOk", fn := fun _ => fun
  | [d] => { results := [.lit (.bool false)], args := [d] }
  | _ => none }
def FnExactSessionOkWrongFalsely : Prop := fnExactSessionOkRow.holds Try.pinned (OpenSpec.ofChange fnExactSessionOkWrong)

/- THE SECOND FORM. 'bulk': how many values and letters a reading holds, each counted each time it is reached (what is shared counts as often as it is met; a slice's spare places count too). A statement '..UptoSaid' is the law's where the arguments, and the package variables that the reading takes, are together of bulk at most 1048576: NARROWER than '..Said'. Prove '..Said' where nothing that the law and all that it calls make is longer than what came in: it says more and counts as full. Else prove '..UptoSaid'. A law counts once. -/
mutual
def uptoBulk {H : Type} : DataW H → Nat
  | .lit (.string bytes) => bytes.length + 1
  | .lit _ => 1
  | .nil => 1
  | .ptr d => uptoBulk d + 1
  | .slice elems spare => uptoBulkAll elems + uptoBulkAll spare + 1
  | .agg parts => uptoBulkAll parts + 1
  | .iface _ d => uptoBulk d + 1
  | .map entries => uptoBulkEntries entries + 1
  | .held _ => 1
def uptoBulkAll {H : Type} : List (DataW H) → Nat
  | [] => 0
  | d :: r => uptoBulk d + uptoBulkAll r
def uptoBulkEntries {H : Type} : List (Lit × DataW H) → Nat
  | [] => 0
  | x :: r => uptoBulkEntry x + uptoBulkEntries r
def uptoBulkEntry {H : Type} : Lit × DataW H → Nat
  | (.string bytes, d) => bytes.length + uptoBulk d + 1
  | (_, d) => uptoBulk d + 1
 end
def uptoSmall : (H : Type) → List (DataW H) → Bool := fun _ ds => decide (uptoBulkAll ds ≤ 1048576)
def OpenSpec.upto (s : _root_.Go.ChangeSpec) : _root_.Go.OpenSpec := { _root_.Go.OpenSpec.ofChange s with cond := some uptoSmall }

/-- 'laws.FnExactQuadWindow', WHERE WHAT IT READS IS OF BULK AT MOST 1048576: true; the input reads as it did. -/
def fnExactQuadWindowUptoRow : OpenClaim := { program := "ytendgiieolkleaa", sum := "6fd71ae84e403d9063a6d3f0e56a6d8edc4a605ad891f799ab38515c875de0c8", func := "loop.example/g00225/laws.FnExactQuadWindow", spec := "fnExactQuadWindow", recurses := true, apart := false, narrowed := true }
def FnExactQuadWindowUptoSaid : Prop := fnExactQuadWindowUptoRow.holds Try.pinned (OpenSpec.upto fnExactQuadWindowSpec)

/-- 'laws.FnQuadLeaves', WHERE WHAT IT READS IS OF BULK AT MOST 1048576: true; the input reads as it did. -/
def fnQuadLeavesUptoRow : OpenClaim := { program := "ytendgiieolkleaa", sum := "6fd71ae84e403d9063a6d3f0e56a6d8edc4a605ad891f799ab38515c875de0c8", func := "loop.example/g00225/laws.FnQuadLeaves", spec := "fnQuadLeaves", recurses := true, apart := false, narrowed := true }
def FnQuadLeavesUptoSaid : Prop := fnQuadLeavesUptoRow.holds Try.pinned (OpenSpec.upto fnQuadLeavesSpec)

/-- 'laws.FnExactQuadCut', WHERE WHAT IT READS IS OF BULK AT MOST 1048576: true; the input reads as it did. -/
def fnExactQuadCutUptoRow : OpenClaim := { program := "ytendgiieolkleaa", sum := "6fd71ae84e403d9063a6d3f0e56a6d8edc4a605ad891f799ab38515c875de0c8", func := "loop.example/g00225/laws.FnExactQuadCut", spec := "fnExactQuadCut", unfollowed := true, recurses := true, apart := false, narrowed := true }
def FnExactQuadCutUptoSaid : Prop := fnExactQuadCutUptoRow.holds Try.pinned (OpenSpec.upto fnExactQuadCutSpec)

/-- 'laws.FnQuadKept', WHERE WHAT IT READS IS OF BULK AT MOST 1048576: true; the input reads as it did. -/
def fnQuadKeptUptoRow : OpenClaim := { program := "ytendgiieolkleaa", sum := "6fd71ae84e403d9063a6d3f0e56a6d8edc4a605ad891f799ab38515c875de0c8", func := "loop.example/g00225/laws.FnQuadKept", spec := "fnQuadKept", inPlace := ["slices.overlaps[loop.example/g00225/impl.Item]"], unfollowed := true, recurses := true, apart := false, narrowed := true }
def FnQuadKeptUptoSaid : Prop := fnQuadKeptUptoRow.holds Try.pinned (OpenSpec.upto fnQuadKeptSpec)

/-- 'laws.FnQuadWindows', WHERE WHAT IT READS IS OF BULK AT MOST 1048576: true; the input reads as it did. -/
def fnQuadWindowsUptoRow : OpenClaim := { program := "ytendgiieolkleaa", sum := "6fd71ae84e403d9063a6d3f0e56a6d8edc4a605ad891f799ab38515c875de0c8", func := "loop.example/g00225/laws.FnQuadWindows", spec := "fnQuadWindows", inPlace := ["slices.overlaps[loop.example/g00225/impl.Item]"], unfollowed := true, recurses := true, apart := false, narrowed := true }
def FnQuadWindowsUptoSaid : Prop := fnQuadWindowsUptoRow.holds Try.pinned (OpenSpec.upto fnQuadWindowsSpec)

/-- 'laws.FnExactQuadPut', WHERE WHAT IT READS IS OF BULK AT MOST 1048576: true; the input reads as it did. -/
def fnExactQuadPutUptoRow : OpenClaim := { program := "ytendgiieolkleaa", sum := "6fd71ae84e403d9063a6d3f0e56a6d8edc4a605ad891f799ab38515c875de0c8", func := "loop.example/g00225/laws.FnExactQuadPut", spec := "fnExactQuadPut", inPlace := ["slices.overlaps[loop.example/g00225/impl.Item]"], unfollowed := true, recurses := true, apart := false, narrowed := true }
def FnExactQuadPutUptoSaid : Prop := fnExactQuadPutUptoRow.holds Try.pinned (OpenSpec.upto fnExactQuadPutSpec)

/-- 'laws.FnExactFree', WHERE WHAT IT READS IS OF BULK AT MOST 1048576: true; the input reads as it did. -/
def fnExactFreeUptoRow : OpenClaim := { program := "ytendgiieolkleaa", sum := "6fd71ae84e403d9063a6d3f0e56a6d8edc4a605ad891f799ab38515c875de0c8", func := "loop.example/g00225/laws.FnExactFree", spec := "fnExactFree", inPlace := ["math/bits.Add64", "math/bits.Sub64"], unfollowed := true, recurses := true, named := ["math/bits.divideError", "math/bits.overflowError"], apart := false, narrowed := true }
def FnExactFreeUptoSaid : Prop := fnExactFreeUptoRow.holds Try.pinned (OpenSpec.upto fnExactFreeSpec)

/-- 'laws.FnExactSessionOk', WHERE WHAT IT READS IS OF BULK AT MOST 1048576: true; the input reads as it did. -/
def fnExactSessionOkUptoRow : OpenClaim := { program := "ytendgiieolkleaa", sum := "6fd71ae84e403d9063a6d3f0e56a6d8edc4a605ad891f799ab38515c875de0c8", func := "loop.example/g00225/laws.FnExactSessionOk", spec := "fnExactSessionOk", inPlace := ["math/bits.Add64", "math/bits.Sub64"], unfollowed := true, recurses := true, named := ["math/bits.divideError", "math/bits.overflowError"], apart := false, narrowed := true }
def FnExactSessionOkUptoSaid : Prop := fnExactSessionOkUptoRow.holds Try.pinned (OpenSpec.upto fnExactSessionOkSpec)

end Rows
end Go.Proofs.Ytendgiieolkleaa
