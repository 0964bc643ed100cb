/-
  No cell of these rows narrows 'for every input' (looked for: loops, veiled, ifaces, maps, wideKeys, modest, calm, conditions, laid).
  DERIVED. THE GIVEN ROWS OF THIS SEAT. 9 by the template 'for every input the law returns true; each argument reads behind the call as it read before'; 0 by the template 'total and deterministic' (their statements: YtnikilcpaonkaaaTotals.lean).
  GIVEN WITH THE SEED: the statements are not yours to turn. If you find one false, say at which input.
  Laid BY PROGRAM, IN A SANDBOX (cutbox-rows.mjs): the forced cells as the released guide's own fill.sh prints them over the translation 2d851bb830bf39e5… (all of the seat's roots in one cut). By AI agents, Wed Nov 11 2026. No macro, syntax, notation, axiom, sorry.
-/
import Derived.Test.YtnikilcpaonkaaaChecked
import GoSem.Claim
import GoSem.ClaimJoined
import GoSem.ClaimMapViews
import Derived.JoinedTies
import Derived.KernelRfl
namespace Go.Proofs.Ytnikilcpaonkaaa
/- THE CELL 'sum', in the pinned program and in every row, IS THE sha256 OF THE DUMP (.gsa) THAT YtnikilcpaonkaaaProg.lean LOADS. Nothing in Lean hashes anything: it is a label: what it is worth is what the hold of that sum in a sandbox is worth. -/
noncomputable def Try.pinned : Pinned := { name := "ytnikilcpaonkaaa", sum := "2d851bb830bf39e5e11fbc22da0d17a612c921fb97885d88f4698c3a18a3d04f", checked := Try.checked }
namespace Rows
def none {H : Type} : Left H := { results := [], args := [] }

/-- 'laws.FnExactFibonacciOf': WHATEVER THE INPUT: true; the input reads as it did. -/
def fnExactFibonacciOfSpec : ChangeSpec := { name := "fnExactFibonacciOf", fn := fun _ => fun
  | [d] => { results := [.lit (.bool true)], args := [d] }
  | _ => none }
def fnExactFibonacciOfRow : OpenClaim := { program := "ytnikilcpaonkaaa", sum := "2d851bb830bf39e5e11fbc22da0d17a612c921fb97885d88f4698c3a18a3d04f", func := "loop.example/g01364/laws.FnExactFibonacciOf", spec := "fnExactFibonacciOf", apart := false }
def FnExactFibonacciOfSaid : Prop := fnExactFibonacciOfRow.holds Try.pinned (OpenSpec.ofChange fnExactFibonacciOfSpec)

/-- ITS FALSE NEIGHBOUR: 'it returns false'. Refute it at one input. -/
def fnExactFibonacciOfWrong : ChangeSpec := { name := "fnExactFibonacciOf", fn := fun _ => fun
  | [d] => { results := [.lit (.bool false)], args := [d] }
  | _ => none }
def FnExactFibonacciOfWrongFalsely : Prop := fnExactFibonacciOfRow.holds Try.pinned (OpenSpec.ofChange fnExactFibonacciOfWrong)

/-- 'laws.FnExactOrderedCode': WHATEVER THE INPUT: true; the input reads as it did. -/
def fnExactOrderedCodeSpec : ChangeSpec := { name := "fnExactOrderedCode", fn := fun _ => fun
  | [d] => { results := [.lit (.bool true)], args := [d] }
  | _ => none }
def fnExactOrderedCodeRow : OpenClaim := { program := "ytnikilcpaonkaaa", sum := "2d851bb830bf39e5e11fbc22da0d17a612c921fb97885d88f4698c3a18a3d04f", func := "loop.example/g01364/laws.FnExactOrderedCode", spec := "fnExactOrderedCode", unfollowed := true, recurses := true, apart := false }
def FnExactOrderedCodeSaid : Prop := fnExactOrderedCodeRow.holds Try.pinned (OpenSpec.ofChange fnExactOrderedCodeSpec)

/-- ITS FALSE NEIGHBOUR: 'it returns false'. Refute it at one input. -/
def fnExactOrderedCodeWrong : ChangeSpec := { name := "fnExactOrderedCode", fn := fun _ => fun
  | [d] => { results := [.lit (.bool false)], args := [d] }
  | _ => none }
def FnExactOrderedCodeWrongFalsely : Prop := fnExactOrderedCodeRow.holds Try.pinned (OpenSpec.ofChange fnExactOrderedCodeWrong)

/-- 'laws.FnExactBitsOfRuns': WHATEVER THE INPUT: true; the input reads as it did. -/
def fnExactBitsOfRunsSpec : ChangeSpec := { name := "fnExactBitsOfRuns", fn := fun _ => fun
  | [d1, d2] => { results := [.lit (.bool true)], args := [d1, d2] }
  | _ => none }
def fnExactBitsOfRunsRow : OpenClaim := { program := "ytnikilcpaonkaaa", sum := "2d851bb830bf39e5e11fbc22da0d17a612c921fb97885d88f4698c3a18a3d04f", func := "loop.example/g01364/laws.FnExactBitsOfRuns", spec := "fnExactBitsOfRuns", inPlace := ["internal/abi.NoEscape", "internal/bytealg.MakeNoZero"], apart := false }
def FnExactBitsOfRunsSaid : Prop := fnExactBitsOfRunsRow.holds Try.pinned (OpenSpec.ofChange fnExactBitsOfRunsSpec)

/-- ITS FALSE NEIGHBOUR: 'it returns false'. Refute it at one input. -/
def fnExactBitsOfRunsWrong : ChangeSpec := { name := "fnExactBitsOfRuns", fn := fun _ => fun
  | [d1, d2] => { results := [.lit (.bool false)], args := [d1, d2] }
  | _ => none }
def FnExactBitsOfRunsWrongFalsely : Prop := fnExactBitsOfRunsRow.holds Try.pinned (OpenSpec.ofChange fnExactBitsOfRunsWrong)

/-- 'laws.FnExactTurnsOf': WHATEVER THE INPUT: true; the input reads as it did. -/
def fnExactTurnsOfSpec : ChangeSpec := { name := "fnExactTurnsOf", fn := fun _ => fun
  | [d] => { results := [.lit (.bool true)], args := [d] }
  | _ => none }
def fnExactTurnsOfRow : OpenClaim := { program := "ytnikilcpaonkaaa", sum := "2d851bb830bf39e5e11fbc22da0d17a612c921fb97885d88f4698c3a18a3d04f", func := "loop.example/g01364/laws.FnExactTurnsOf", spec := "fnExactTurnsOf", unfollowed := true, recurses := true, apart := false }
def FnExactTurnsOfSaid : Prop := fnExactTurnsOfRow.holds Try.pinned (OpenSpec.ofChange fnExactTurnsOfSpec)

/-- ITS FALSE NEIGHBOUR: 'it returns false'. Refute it at one input. -/
def fnExactTurnsOfWrong : ChangeSpec := { name := "fnExactTurnsOf", fn := fun _ => fun
  | [d] => { results := [.lit (.bool false)], args := [d] }
  | _ => none }
def FnExactTurnsOfWrongFalsely : Prop := fnExactTurnsOfRow.holds Try.pinned (OpenSpec.ofChange fnExactTurnsOfWrong)

/-- 'laws.FnExactUnaryOf': WHATEVER THE INPUT: true; the input reads as it did. -/
def fnExactUnaryOfSpec : ChangeSpec := { name := "fnExactUnaryOf", fn := fun _ => fun
  | [d] => { results := [.lit (.bool true)], args := [d] }
  | _ => none }
def fnExactUnaryOfRow : OpenClaim := { program := "ytnikilcpaonkaaa", sum := "2d851bb830bf39e5e11fbc22da0d17a612c921fb97885d88f4698c3a18a3d04f", func := "loop.example/g01364/laws.FnExactUnaryOf", spec := "fnExactUnaryOf", inPlace := ["internal/abi.NoEscape", "internal/bytealg.MakeNoZero"], apart := false }
def FnExactUnaryOfSaid : Prop := fnExactUnaryOfRow.holds Try.pinned (OpenSpec.ofChange fnExactUnaryOfSpec)

/-- ITS FALSE NEIGHBOUR: 'it returns false'. Refute it at one input. -/
def fnExactUnaryOfWrong : ChangeSpec := { name := "fnExactUnaryOf", fn := fun _ => fun
  | [d] => { results := [.lit (.bool false)], args := [d] }
  | _ => none }
def FnExactUnaryOfWrongFalsely : Prop := fnExactUnaryOfRow.holds Try.pinned (OpenSpec.ofChange fnExactUnaryOfWrong)

/-- 'laws.FnExactRiceOf': WHATEVER THE INPUT: true; the input reads as it did. -/
def fnExactRiceOfSpec : ChangeSpec := { name := "fnExactRiceOf", fn := fun _ => fun
  | [d1, d2] => { results := [.lit (.bool true)], args := [d1, d2] }
  | _ => none }
def fnExactRiceOfRow : OpenClaim := { program := "ytnikilcpaonkaaa", sum := "2d851bb830bf39e5e11fbc22da0d17a612c921fb97885d88f4698c3a18a3d04f", func := "loop.example/g01364/laws.FnExactRiceOf", spec := "fnExactRiceOf", inPlace := ["internal/abi.NoEscape", "internal/bytealg.MakeNoZero"], apart := false }
def FnExactRiceOfSaid : Prop := fnExactRiceOfRow.holds Try.pinned (OpenSpec.ofChange fnExactRiceOfSpec)

/-- ITS FALSE NEIGHBOUR: 'it returns false'. Refute it at one input. -/
def fnExactRiceOfWrong : ChangeSpec := { name := "fnExactRiceOf", fn := fun _ => fun
  | [d1, d2] => { results := [.lit (.bool false)], args := [d1, d2] }
  | _ => none }
def FnExactRiceOfWrongFalsely : Prop := fnExactRiceOfRow.holds Try.pinned (OpenSpec.ofChange fnExactRiceOfWrong)

/-- 'laws.FnExactBackOfTurns': WHATEVER THE INPUT: true; the input reads as it did. -/
def fnExactBackOfTurnsSpec : ChangeSpec := { name := "fnExactBackOfTurns", fn := fun _ => fun
  | [d1, d2] => { results := [.lit (.bool true)], args := [d1, d2] }
  | _ => none }
def fnExactBackOfTurnsRow : OpenClaim := { program := "ytnikilcpaonkaaa", sum := "2d851bb830bf39e5e11fbc22da0d17a612c921fb97885d88f4698c3a18a3d04f", func := "loop.example/g01364/laws.FnExactBackOfTurns", spec := "fnExactBackOfTurns", unfollowed := true, recurses := true, apart := false }
def FnExactBackOfTurnsSaid : Prop := fnExactBackOfTurnsRow.holds Try.pinned (OpenSpec.ofChange fnExactBackOfTurnsSpec)

/-- ITS FALSE NEIGHBOUR: 'it returns false'. Refute it at one input. -/
def fnExactBackOfTurnsWrong : ChangeSpec := { name := "fnExactBackOfTurns", fn := fun _ => fun
  | [d1, d2] => { results := [.lit (.bool false)], args := [d1, d2] }
  | _ => none }
def FnExactBackOfTurnsWrongFalsely : Prop := fnExactBackOfTurnsRow.holds Try.pinned (OpenSpec.ofChange fnExactBackOfTurnsWrong)

/-- 'laws.FnExactGammaOf': WHATEVER THE INPUT: true; the input reads as it did. -/
def fnExactGammaOfSpec : ChangeSpec := { name := "fnExactGammaOf", fn := fun _ => fun
  | [d] => { results := [.lit (.bool true)], args := [d] }
  | _ => none }
def fnExactGammaOfRow : OpenClaim := { program := "ytnikilcpaonkaaa", sum := "2d851bb830bf39e5e11fbc22da0d17a612c921fb97885d88f4698c3a18a3d04f", func := "loop.example/g01364/laws.FnExactGammaOf", spec := "fnExactGammaOf", inPlace := ["internal/abi.NoEscape", "internal/bytealg.MakeNoZero"], apart := false }
def FnExactGammaOfSaid : Prop := fnExactGammaOfRow.holds Try.pinned (OpenSpec.ofChange fnExactGammaOfSpec)

/-- ITS FALSE NEIGHBOUR: 'it returns false'. Refute it at one input. -/
def fnExactGammaOfWrong : ChangeSpec := { name := "fnExactGammaOf", fn := fun _ => fun
  | [d] => { results := [.lit (.bool false)], args := [d] }
  | _ => none }
def FnExactGammaOfWrongFalsely : Prop := fnExactGammaOfRow.holds Try.pinned (OpenSpec.ofChange fnExactGammaOfWrong)

/-- 'laws.FnExactDeltaOf': WHATEVER THE INPUT: true; the input reads as it did. -/
def fnExactDeltaOfSpec : ChangeSpec := { name := "fnExactDeltaOf", fn := fun _ => fun
  | [d] => { results := [.lit (.bool true)], args := [d] }
  | _ => none }
def fnExactDeltaOfRow : OpenClaim := { program := "ytnikilcpaonkaaa", sum := "2d851bb830bf39e5e11fbc22da0d17a612c921fb97885d88f4698c3a18a3d04f", func := "loop.example/g01364/laws.FnExactDeltaOf", spec := "fnExactDeltaOf", inPlace := ["internal/abi.NoEscape", "internal/bytealg.MakeNoZero"], apart := false }
def FnExactDeltaOfSaid : Prop := fnExactDeltaOfRow.holds Try.pinned (OpenSpec.ofChange fnExactDeltaOfSpec)

/-- ITS FALSE NEIGHBOUR: 'it returns false'. Refute it at one input. -/
def fnExactDeltaOfWrong : ChangeSpec := { name := "fnExactDeltaOf", fn := fun _ => fun
  | [d] => { results := [.lit (.bool false)], args := [d] }
  | _ => none }
def FnExactDeltaOfWrongFalsely : Prop := fnExactDeltaOfRow.holds Try.pinned (OpenSpec.ofChange fnExactDeltaOfWrong)

/- THE SECOND FORM. 'bulk': how many values and letters a reading holds, each counted each time it is reached (what is shared counts as often as it is met; a slice's spare places count too). A statement '..UptoSaid' is the law's where the arguments, and the package variables that the reading takes, are together of bulk at most 1048576: NARROWER than '..Said'. Prove '..Said' where nothing that the law and all that it calls make is longer than what came in: it says more and counts as full. Else prove '..UptoSaid'. A law counts once. -/
mutual
def uptoBulk {H : Type} : DataW H → Nat
  | .lit (.string bytes) => bytes.length + 1
  | .lit _ => 1
  | .nil => 1
  | .ptr d => uptoBulk d + 1
  | .slice elems spare => uptoBulkAll elems + uptoBulkAll spare + 1
  | .agg parts => uptoBulkAll parts + 1
  | .iface _ d => uptoBulk d + 1
  | .map entries => uptoBulkEntries entries + 1
  | .held _ => 1
def uptoBulkAll {H : Type} : List (DataW H) → Nat
  | [] => 0
  | d :: r => uptoBulk d + uptoBulkAll r
def uptoBulkEntries {H : Type} : List (Lit × DataW H) → Nat
  | [] => 0
  | x :: r => uptoBulkEntry x + uptoBulkEntries r
def uptoBulkEntry {H : Type} : Lit × DataW H → Nat
  | (.string bytes, d) => bytes.length + uptoBulk d + 1
  | (_, d) => uptoBulk d + 1
 end
def uptoSmall : (H : Type) → List (DataW H) → Bool := fun _ ds => decide (uptoBulkAll ds ≤ 1048576)
def OpenSpec.upto (s : _root_.Go.ChangeSpec) : _root_.Go.OpenSpec := { _root_.Go.OpenSpec.ofChange s with cond := some uptoSmall }

/-- 'laws.FnExactFibonacciOf', WHERE WHAT IT READS IS OF BULK AT MOST 1048576: true; the input reads as it did. -/
def fnExactFibonacciOfUptoRow : OpenClaim := { program := "ytnikilcpaonkaaa", sum := "2d851bb830bf39e5e11fbc22da0d17a612c921fb97885d88f4698c3a18a3d04f", func := "loop.example/g01364/laws.FnExactFibonacciOf", spec := "fnExactFibonacciOf", apart := false, narrowed := true }
def FnExactFibonacciOfUptoSaid : Prop := fnExactFibonacciOfUptoRow.holds Try.pinned (OpenSpec.upto fnExactFibonacciOfSpec)

/-- 'laws.FnExactOrderedCode', WHERE WHAT IT READS IS OF BULK AT MOST 1048576: true; the input reads as it did. -/
def fnExactOrderedCodeUptoRow : OpenClaim := { program := "ytnikilcpaonkaaa", sum := "2d851bb830bf39e5e11fbc22da0d17a612c921fb97885d88f4698c3a18a3d04f", func := "loop.example/g01364/laws.FnExactOrderedCode", spec := "fnExactOrderedCode", unfollowed := true, recurses := true, apart := false, narrowed := true }
def FnExactOrderedCodeUptoSaid : Prop := fnExactOrderedCodeUptoRow.holds Try.pinned (OpenSpec.upto fnExactOrderedCodeSpec)

/-- 'laws.FnExactBitsOfRuns', WHERE WHAT IT READS IS OF BULK AT MOST 1048576: true; the input reads as it did. -/
def fnExactBitsOfRunsUptoRow : OpenClaim := { program := "ytnikilcpaonkaaa", sum := "2d851bb830bf39e5e11fbc22da0d17a612c921fb97885d88f4698c3a18a3d04f", func := "loop.example/g01364/laws.FnExactBitsOfRuns", spec := "fnExactBitsOfRuns", inPlace := ["internal/abi.NoEscape", "internal/bytealg.MakeNoZero"], apart := false, narrowed := true }
def FnExactBitsOfRunsUptoSaid : Prop := fnExactBitsOfRunsUptoRow.holds Try.pinned (OpenSpec.upto fnExactBitsOfRunsSpec)

/-- 'laws.FnExactTurnsOf', WHERE WHAT IT READS IS OF BULK AT MOST 1048576: true; the input reads as it did. -/
def fnExactTurnsOfUptoRow : OpenClaim := { program := "ytnikilcpaonkaaa", sum := "2d851bb830bf39e5e11fbc22da0d17a612c921fb97885d88f4698c3a18a3d04f", func := "loop.example/g01364/laws.FnExactTurnsOf", spec := "fnExactTurnsOf", unfollowed := true, recurses := true, apart := false, narrowed := true }
def FnExactTurnsOfUptoSaid : Prop := fnExactTurnsOfUptoRow.holds Try.pinned (OpenSpec.upto fnExactTurnsOfSpec)

/-- 'laws.FnExactUnaryOf', WHERE WHAT IT READS IS OF BULK AT MOST 1048576: true; the input reads as it did. -/
def fnExactUnaryOfUptoRow : OpenClaim := { program := "ytnikilcpaonkaaa", sum := "2d851bb830bf39e5e11fbc22da0d17a612c921fb97885d88f4698c3a18a3d04f", func := "loop.example/g01364/laws.FnExactUnaryOf", spec := "fnExactUnaryOf", inPlace := ["internal/abi.NoEscape", "internal/bytealg.MakeNoZero"], apart := false, narrowed := true }
def FnExactUnaryOfUptoSaid : Prop := fnExactUnaryOfUptoRow.holds Try.pinned (OpenSpec.upto fnExactUnaryOfSpec)

/-- 'laws.FnExactRiceOf', WHERE WHAT IT READS IS OF BULK AT MOST 1048576: true; the input reads as it did. -/
def fnExactRiceOfUptoRow : OpenClaim := { program := "ytnikilcpaonkaaa", sum := "2d851bb830bf39e5e11fbc22da0d17a612c921fb97885d88f4698c3a18a3d04f", func := "loop.example/g01364/laws.FnExactRiceOf", spec := "fnExactRiceOf", inPlace := ["internal/abi.NoEscape", "internal/bytealg.MakeNoZero"], apart := false, narrowed := true }
def FnExactRiceOfUptoSaid : Prop := fnExactRiceOfUptoRow.holds Try.pinned (OpenSpec.upto fnExactRiceOfSpec)

/-- 'laws.FnExactBackOfTurns', WHERE WHAT IT READS IS OF BULK AT MOST 1048576: true; the input reads as it did. -/
def fnExactBackOfTurnsUptoRow : OpenClaim := { program := "ytnikilcpaonkaaa", sum := "2d851bb830bf39e5e11fbc22da0d17a612c921fb97885d88f4698c3a18a3d04f", func := "loop.example/g01364/laws.FnExactBackOfTurns", spec := "fnExactBackOfTurns", unfollowed := true, recurses := true, apart := false, narrowed := true }
def FnExactBackOfTurnsUptoSaid : Prop := fnExactBackOfTurnsUptoRow.holds Try.pinned (OpenSpec.upto fnExactBackOfTurnsSpec)

/-- 'laws.FnExactGammaOf', WHERE WHAT IT READS IS OF BULK AT MOST 1048576: true; the input reads as it did. -/
def fnExactGammaOfUptoRow : OpenClaim := { program := "ytnikilcpaonkaaa", sum := "2d851bb830bf39e5e11fbc22da0d17a612c921fb97885d88f4698c3a18a3d04f", func := "loop.example/g01364/laws.FnExactGammaOf", spec := "fnExactGammaOf", inPlace := ["internal/abi.NoEscape", "internal/bytealg.MakeNoZero"], apart := false, narrowed := true }
def FnExactGammaOfUptoSaid : Prop := fnExactGammaOfUptoRow.holds Try.pinned (OpenSpec.upto fnExactGammaOfSpec)

/-- 'laws.FnExactDeltaOf', WHERE WHAT IT READS IS OF BULK AT MOST 1048576: true; the input reads as it did. -/
def fnExactDeltaOfUptoRow : OpenClaim := { program := "ytnikilcpaonkaaa", sum := "2d851bb830bf39e5e11fbc22da0d17a612c921fb97885d88f4698c3a18a3d04f", func := "loop.example/g01364/laws.FnExactDeltaOf", spec := "fnExactDeltaOf", inPlace := ["internal/abi.NoEscape", "internal/bytealg.MakeNoZero"], apart := false, narrowed := true }
def FnExactDeltaOfUptoSaid : Prop := fnExactDeltaOfUptoRow.holds Try.pinned (OpenSpec.upto fnExactDeltaOfSpec)

end Rows
end Go.Proofs.Ytnikilcpaonkaaa
