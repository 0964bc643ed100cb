/-
  No cell of these rows narrows 'for every input' (looked for: loops, veiled, ifaces, maps, wideKeys, modest, calm, conditions, laid).
  DERIVED. THE GIVEN ROWS OF THIS SEAT. 12 by the template 'for every input the law returns true; each argument reads behind the call as it read before'; 0 by the template 'total and deterministic' (their statements: YtgjgekoejdgabaaTotals.lean).
  GIVEN WITH THE SEED: the statements are not yours to turn. If you find one false, say at which input.
  Laid BY PROGRAM, IN A SANDBOX (cutbox-rows.mjs): the forced cells as the released guide's own fill.sh prints them over the translation ac6f6780bb6e8b28… (all of the seat's roots in one cut). By AI agents, Wed Nov 11 2026. No macro, syntax, notation, axiom, sorry.
-/
import Derived.Test.YtgjgekoejdgabaaChecked
import GoSem.Claim
import GoSem.ClaimJoined
import GoSem.ClaimMapViews
import Derived.JoinedTies
import Derived.KernelRfl
namespace Go.Proofs.Ytgjgekoejdgabaa
/- THE CELL 'sum', in the pinned program and in every row, IS THE sha256 OF THE DUMP (.gsa) THAT YtgjgekoejdgabaaProg.lean LOADS. Nothing in Lean hashes anything: it is a label: what it is worth is what the hold of that sum in a sandbox is worth. -/
noncomputable def Try.pinned : Pinned := { name := "ytgjgekoejdgabaa", sum := "ac6f6780bb6e8b28a025bca90a8c9f77eebf3e9394f840922079537837b03dd1", checked := Try.checked }
namespace Rows
def none {H : Type} : Left H := { results := [], args := [] }

/-- 'laws.FnExactSpreadOf': WHATEVER THE INPUT: true; the input reads as it did. -/
def fnExactSpreadOfSpec : ChangeSpec := { name := "fnExactSpreadOf", fn := fun _ => fun
  | [d1, d2] => { results := [.lit (.bool true)], args := [d1, d2] }
  | _ => none }
def fnExactSpreadOfRow : OpenClaim := { program := "ytgjgekoejdgabaa", sum := "ac6f6780bb6e8b28a025bca90a8c9f77eebf3e9394f840922079537837b03dd1", func := "loop.example/g01364/laws.FnExactSpreadOf", spec := "fnExactSpreadOf", inPlace := ["math.Float64frombits", "math.Float64bits"], apart := false }
def FnExactSpreadOfSaid : Prop := fnExactSpreadOfRow.holds Try.pinned (OpenSpec.ofChange fnExactSpreadOfSpec)

/-- ITS FALSE NEIGHBOUR: 'it returns false'. Refute it at one input. -/
def fnExactSpreadOfWrong : ChangeSpec := { name := "fnExactSpreadOf", fn := fun _ => fun
  | [d1, d2] => { results := [.lit (.bool false)], args := [d1, d2] }
  | _ => none }
def FnExactSpreadOfWrongFalsely : Prop := fnExactSpreadOfRow.holds Try.pinned (OpenSpec.ofChange fnExactSpreadOfWrong)

/-- 'laws.FnExactJointOf': WHATEVER THE INPUT: true; the input reads as it did. -/
def fnExactJointOfSpec : ChangeSpec := { name := "fnExactJointOf", fn := fun _ => fun
  | [d1, d2] => { results := [.lit (.bool true)], args := [d1, d2] }
  | _ => none }
def fnExactJointOfRow : OpenClaim := { program := "ytgjgekoejdgabaa", sum := "ac6f6780bb6e8b28a025bca90a8c9f77eebf3e9394f840922079537837b03dd1", func := "loop.example/g01364/laws.FnExactJointOf", spec := "fnExactJointOf", apart := false }
def FnExactJointOfSaid : Prop := fnExactJointOfRow.holds Try.pinned (OpenSpec.ofChange fnExactJointOfSpec)

/-- ITS FALSE NEIGHBOUR: 'it returns false'. Refute it at one input. -/
def fnExactJointOfWrong : ChangeSpec := { name := "fnExactJointOf", fn := fun _ => fun
  | [d1, d2] => { results := [.lit (.bool false)], args := [d1, d2] }
  | _ => none }
def FnExactJointOfWrongFalsely : Prop := fnExactJointOfRow.holds Try.pinned (OpenSpec.ofChange fnExactJointOfWrong)

/-- 'laws.FnExactTableEntropy': WHATEVER THE INPUT: true; the input reads as it did. -/
def fnExactTableEntropySpec : ChangeSpec := { name := "fnExactTableEntropy", fn := fun _ => fun
  | [d] => { results := [.lit (.bool true)], args := [d] }
  | _ => none }
def fnExactTableEntropyRow : OpenClaim := { program := "ytgjgekoejdgabaa", sum := "ac6f6780bb6e8b28a025bca90a8c9f77eebf3e9394f840922079537837b03dd1", func := "loop.example/g01364/laws.FnExactTableEntropy", spec := "fnExactTableEntropy", inPlace := ["math.Float64frombits", "math.Float64bits"], apart := false }
def FnExactTableEntropySaid : Prop := fnExactTableEntropyRow.holds Try.pinned (OpenSpec.ofChange fnExactTableEntropySpec)

/-- ITS FALSE NEIGHBOUR: 'it returns false'. Refute it at one input. -/
def fnExactTableEntropyWrong : ChangeSpec := { name := "fnExactTableEntropy", fn := fun _ => fun
  | [d] => { results := [.lit (.bool false)], args := [d] }
  | _ => none }
def FnExactTableEntropyWrongFalsely : Prop := fnExactTableEntropyRow.holds Try.pinned (OpenSpec.ofChange fnExactTableEntropyWrong)

/-- 'laws.FnExactOrderEntropy': WHATEVER THE INPUT: true; the input reads as it did. -/
def fnExactOrderEntropySpec : ChangeSpec := { name := "fnExactOrderEntropy", fn := fun _ => fun
  | [d1, d2] => { results := [.lit (.bool true)], args := [d1, d2] }
  | _ => none }
def fnExactOrderEntropyRow : OpenClaim := { program := "ytgjgekoejdgabaa", sum := "ac6f6780bb6e8b28a025bca90a8c9f77eebf3e9394f840922079537837b03dd1", func := "loop.example/g01364/laws.FnExactOrderEntropy", spec := "fnExactOrderEntropy", inPlace := ["math.Float64frombits", "math.Float64bits"], apart := false }
def FnExactOrderEntropySaid : Prop := fnExactOrderEntropyRow.holds Try.pinned (OpenSpec.ofChange fnExactOrderEntropySpec)

/-- ITS FALSE NEIGHBOUR: 'it returns false'. Refute it at one input. -/
def fnExactOrderEntropyWrong : ChangeSpec := { name := "fnExactOrderEntropy", fn := fun _ => fun
  | [d1, d2] => { results := [.lit (.bool false)], args := [d1, d2] }
  | _ => none }
def FnExactOrderEntropyWrongFalsely : Prop := fnExactOrderEntropyRow.holds Try.pinned (OpenSpec.ofChange fnExactOrderEntropyWrong)

/-- 'laws.FnExactRateOnce': WHATEVER THE INPUT: true; the input reads as it did. -/
def fnExactRateOnceSpec : ChangeSpec := { name := "fnExactRateOnce", fn := fun _ => fun
  | [d1, d2, d3, d4] => { results := [.lit (.bool true)], args := [d1, d2, d3, d4] }
  | _ => none }
def fnExactRateOnceRow : OpenClaim := { program := "ytgjgekoejdgabaa", sum := "ac6f6780bb6e8b28a025bca90a8c9f77eebf3e9394f840922079537837b03dd1", func := "loop.example/g01364/laws.FnExactRateOnce", spec := "fnExactRateOnce", inPlace := ["math.Float64frombits"], apart := false }
def FnExactRateOnceSaid : Prop := fnExactRateOnceRow.holds Try.pinned (OpenSpec.ofChange fnExactRateOnceSpec)

/-- ITS FALSE NEIGHBOUR: 'it returns false'. Refute it at one input. -/
def fnExactRateOnceWrong : ChangeSpec := { name := "fnExactRateOnce", fn := fun _ => fun
  | [d1, d2, d3, d4] => { results := [.lit (.bool false)], args := [d1, d2, d3, d4] }
  | _ => none }
def FnExactRateOnceWrongFalsely : Prop := fnExactRateOnceRow.holds Try.pinned (OpenSpec.ofChange fnExactRateOnceWrong)

/-- 'laws.FnExactBackOf': WHATEVER THE INPUT: true; the input reads as it did. -/
def fnExactBackOfSpec : ChangeSpec := { name := "fnExactBackOf", fn := fun _ => fun
  | [d1, d2, d3] => { results := [.lit (.bool true)], args := [d1, d2, d3] }
  | _ => none }
def fnExactBackOfRow : OpenClaim := { program := "ytgjgekoejdgabaa", sum := "ac6f6780bb6e8b28a025bca90a8c9f77eebf3e9394f840922079537837b03dd1", func := "loop.example/g01364/laws.FnExactBackOf", spec := "fnExactBackOf", apart := false }
def FnExactBackOfSaid : Prop := fnExactBackOfRow.holds Try.pinned (OpenSpec.ofChange fnExactBackOfSpec)

/-- ITS FALSE NEIGHBOUR: 'it returns false'. Refute it at one input. -/
def fnExactBackOfWrong : ChangeSpec := { name := "fnExactBackOf", fn := fun _ => fun
  | [d1, d2, d3] => { results := [.lit (.bool false)], args := [d1, d2, d3] }
  | _ => none }
def FnExactBackOfWrongFalsely : Prop := fnExactBackOfRow.holds Try.pinned (OpenSpec.ofChange fnExactBackOfWrong)

/-- 'laws.FnExactBestGuesses': WHATEVER THE INPUT: true; the input reads as it did. -/
def fnExactBestGuessesSpec : ChangeSpec := { name := "fnExactBestGuesses", fn := fun _ => fun
  | [d1, d2] => { results := [.lit (.bool true)], args := [d1, d2] }
  | _ => none }
def fnExactBestGuessesRow : OpenClaim := { program := "ytgjgekoejdgabaa", sum := "ac6f6780bb6e8b28a025bca90a8c9f77eebf3e9394f840922079537837b03dd1", func := "loop.example/g01364/laws.FnExactBestGuesses", spec := "fnExactBestGuesses", apart := false }
def FnExactBestGuessesSaid : Prop := fnExactBestGuessesRow.holds Try.pinned (OpenSpec.ofChange fnExactBestGuessesSpec)

/-- ITS FALSE NEIGHBOUR: 'it returns false'. Refute it at one input. -/
def fnExactBestGuessesWrong : ChangeSpec := { name := "fnExactBestGuesses", fn := fun _ => fun
  | [d1, d2] => { results := [.lit (.bool false)], args := [d1, d2] }
  | _ => none }
def FnExactBestGuessesWrongFalsely : Prop := fnExactBestGuessesRow.holds Try.pinned (OpenSpec.ofChange fnExactBestGuessesWrong)

/-- 'laws.FnExactFarBits': WHATEVER THE INPUT: true; the input reads as it did. -/
def fnExactFarBitsSpec : ChangeSpec := { name := "fnExactFarBits", fn := fun _ => fun
  | [d1, d2, d3] => { results := [.lit (.bool true)], args := [d1, d2, d3] }
  | _ => none }
def fnExactFarBitsRow : OpenClaim := { program := "ytgjgekoejdgabaa", sum := "ac6f6780bb6e8b28a025bca90a8c9f77eebf3e9394f840922079537837b03dd1", func := "loop.example/g01364/laws.FnExactFarBits", spec := "fnExactFarBits", inPlace := ["math.Float64frombits", "math.Float64bits"], unfollowed := true, recurses := true, apart := false }
def FnExactFarBitsSaid : Prop := fnExactFarBitsRow.holds Try.pinned (OpenSpec.ofChange fnExactFarBitsSpec)

/-- ITS FALSE NEIGHBOUR: 'it returns false'. Refute it at one input. -/
def fnExactFarBitsWrong : ChangeSpec := { name := "fnExactFarBits", fn := fun _ => fun
  | [d1, d2, d3] => { results := [.lit (.bool false)], args := [d1, d2, d3] }
  | _ => none }
def FnExactFarBitsWrongFalsely : Prop := fnExactFarBitsRow.holds Try.pinned (OpenSpec.ofChange fnExactFarBitsWrong)

/-- 'laws.FnExactEntropiesShared': WHATEVER THE INPUT: true; the input reads as it did. -/
def fnExactEntropiesSharedSpec : ChangeSpec := { name := "fnExactEntropiesShared", fn := fun _ => fun
  | [d1, d2] => { results := [.lit (.bool true)], args := [d1, d2] }
  | _ => none }
def fnExactEntropiesSharedRow : OpenClaim := { program := "ytgjgekoejdgabaa", sum := "ac6f6780bb6e8b28a025bca90a8c9f77eebf3e9394f840922079537837b03dd1", func := "loop.example/g01364/laws.FnExactEntropiesShared", spec := "fnExactEntropiesShared", inPlace := ["math.Float64frombits", "math.Float64bits"], apart := false }
def FnExactEntropiesSharedSaid : Prop := fnExactEntropiesSharedRow.holds Try.pinned (OpenSpec.ofChange fnExactEntropiesSharedSpec)

/-- ITS FALSE NEIGHBOUR: 'it returns false'. Refute it at one input. -/
def fnExactEntropiesSharedWrong : ChangeSpec := { name := "fnExactEntropiesShared", fn := fun _ => fun
  | [d1, d2] => { results := [.lit (.bool false)], args := [d1, d2] }
  | _ => none }
def FnExactEntropiesSharedWrongFalsely : Prop := fnExactEntropiesSharedRow.holds Try.pinned (OpenSpec.ofChange fnExactEntropiesSharedWrong)

/-- 'laws.FnExactGivenEntropy': WHATEVER THE INPUT: true; the input reads as it did. -/
def fnExactGivenEntropySpec : ChangeSpec := { name := "fnExactGivenEntropy", fn := fun _ => fun
  | [d] => { results := [.lit (.bool true)], args := [d] }
  | _ => none }
def fnExactGivenEntropyRow : OpenClaim := { program := "ytgjgekoejdgabaa", sum := "ac6f6780bb6e8b28a025bca90a8c9f77eebf3e9394f840922079537837b03dd1", func := "loop.example/g01364/laws.FnExactGivenEntropy", spec := "fnExactGivenEntropy", inPlace := ["math.Float64frombits", "math.Float64bits"], apart := false }
def FnExactGivenEntropySaid : Prop := fnExactGivenEntropyRow.holds Try.pinned (OpenSpec.ofChange fnExactGivenEntropySpec)

/-- ITS FALSE NEIGHBOUR: 'it returns false'. Refute it at one input. -/
def fnExactGivenEntropyWrong : ChangeSpec := { name := "fnExactGivenEntropy", fn := fun _ => fun
  | [d] => { results := [.lit (.bool false)], args := [d] }
  | _ => none }
def FnExactGivenEntropyWrongFalsely : Prop := fnExactGivenEntropyRow.holds Try.pinned (OpenSpec.ofChange fnExactGivenEntropyWrong)

/-- 'laws.FnExactCommonBits': WHATEVER THE INPUT: true; the input reads as it did. -/
def fnExactCommonBitsSpec : ChangeSpec := { name := "fnExactCommonBits", fn := fun _ => fun
  | [d] => { results := [.lit (.bool true)], args := [d] }
  | _ => none }
def fnExactCommonBitsRow : OpenClaim := { program := "ytgjgekoejdgabaa", sum := "ac6f6780bb6e8b28a025bca90a8c9f77eebf3e9394f840922079537837b03dd1", func := "loop.example/g01364/laws.FnExactCommonBits", spec := "fnExactCommonBits", inPlace := ["math.Float64frombits", "math.Float64bits"], apart := false }
def FnExactCommonBitsSaid : Prop := fnExactCommonBitsRow.holds Try.pinned (OpenSpec.ofChange fnExactCommonBitsSpec)

/-- ITS FALSE NEIGHBOUR: 'it returns false'. Refute it at one input. -/
def fnExactCommonBitsWrong : ChangeSpec := { name := "fnExactCommonBits", fn := fun _ => fun
  | [d] => { results := [.lit (.bool false)], args := [d] }
  | _ => none }
def FnExactCommonBitsWrongFalsely : Prop := fnExactCommonBitsRow.holds Try.pinned (OpenSpec.ofChange fnExactCommonBitsWrong)

/-- 'laws.FnExactFarthestBits': WHATEVER THE INPUT: true; the input reads as it did. -/
def fnExactFarthestBitsSpec : ChangeSpec := { name := "fnExactFarthestBits", fn := fun _ => fun
  | [d1, d2] => { results := [.lit (.bool true)], args := [d1, d2] }
  | _ => none }
def fnExactFarthestBitsRow : OpenClaim := { program := "ytgjgekoejdgabaa", sum := "ac6f6780bb6e8b28a025bca90a8c9f77eebf3e9394f840922079537837b03dd1", func := "loop.example/g01364/laws.FnExactFarthestBits", spec := "fnExactFarthestBits", inPlace := ["math.Float64frombits", "math.Float64bits"], unfollowed := true, recurses := true, apart := false }
def FnExactFarthestBitsSaid : Prop := fnExactFarthestBitsRow.holds Try.pinned (OpenSpec.ofChange fnExactFarthestBitsSpec)

/-- ITS FALSE NEIGHBOUR: 'it returns false'. Refute it at one input. -/
def fnExactFarthestBitsWrong : ChangeSpec := { name := "fnExactFarthestBits", fn := fun _ => fun
  | [d1, d2] => { results := [.lit (.bool false)], args := [d1, d2] }
  | _ => none }
def FnExactFarthestBitsWrongFalsely : Prop := fnExactFarthestBitsRow.holds Try.pinned (OpenSpec.ofChange fnExactFarthestBitsWrong)

/- THE SECOND FORM. 'bulk': how many values and letters a reading holds, each counted each time it is reached (what is shared counts as often as it is met; a slice's spare places count too). A statement '..UptoSaid' is the law's where the arguments, and the package variables that the reading takes, are together of bulk at most 1048576: NARROWER than '..Said'. Prove '..Said' where nothing that the law and all that it calls make is longer than what came in: it says more and counts as full. Else prove '..UptoSaid'. A law counts once. -/
mutual
def uptoBulk {H : Type} : DataW H → Nat
  | .lit (.string bytes) => bytes.length + 1
  | .lit _ => 1
  | .nil => 1
  | .ptr d => uptoBulk d + 1
  | .slice elems spare => uptoBulkAll elems + uptoBulkAll spare + 1
  | .agg parts => uptoBulkAll parts + 1
  | .iface _ d => uptoBulk d + 1
  | .map entries => uptoBulkEntries entries + 1
  | .held _ => 1
def uptoBulkAll {H : Type} : List (DataW H) → Nat
  | [] => 0
  | d :: r => uptoBulk d + uptoBulkAll r
def uptoBulkEntries {H : Type} : List (Lit × DataW H) → Nat
  | [] => 0
  | x :: r => uptoBulkEntry x + uptoBulkEntries r
def uptoBulkEntry {H : Type} : Lit × DataW H → Nat
  | (.string bytes, d) => bytes.length + uptoBulk d + 1
  | (_, d) => uptoBulk d + 1
 end
def uptoSmall : (H : Type) → List (DataW H) → Bool := fun _ ds => decide (uptoBulkAll ds ≤ 1048576)
def OpenSpec.upto (s : _root_.Go.ChangeSpec) : _root_.Go.OpenSpec := { _root_.Go.OpenSpec.ofChange s with cond := some uptoSmall }

/-- 'laws.FnExactSpreadOf', WHERE WHAT IT READS IS OF BULK AT MOST 1048576: true; the input reads as it did. -/
def fnExactSpreadOfUptoRow : OpenClaim := { program := "ytgjgekoejdgabaa", sum := "ac6f6780bb6e8b28a025bca90a8c9f77eebf3e9394f840922079537837b03dd1", func := "loop.example/g01364/laws.FnExactSpreadOf", spec := "fnExactSpreadOf", inPlace := ["math.Float64frombits", "math.Float64bits"], apart := false, narrowed := true }
def FnExactSpreadOfUptoSaid : Prop := fnExactSpreadOfUptoRow.holds Try.pinned (OpenSpec.upto fnExactSpreadOfSpec)

/-- 'laws.FnExactJointOf', WHERE WHAT IT READS IS OF BULK AT MOST 1048576: true; the input reads as it did. -/
def fnExactJointOfUptoRow : OpenClaim := { program := "ytgjgekoejdgabaa", sum := "ac6f6780bb6e8b28a025bca90a8c9f77eebf3e9394f840922079537837b03dd1", func := "loop.example/g01364/laws.FnExactJointOf", spec := "fnExactJointOf", apart := false, narrowed := true }
def FnExactJointOfUptoSaid : Prop := fnExactJointOfUptoRow.holds Try.pinned (OpenSpec.upto fnExactJointOfSpec)

/-- 'laws.FnExactTableEntropy', WHERE WHAT IT READS IS OF BULK AT MOST 1048576: true; the input reads as it did. -/
def fnExactTableEntropyUptoRow : OpenClaim := { program := "ytgjgekoejdgabaa", sum := "ac6f6780bb6e8b28a025bca90a8c9f77eebf3e9394f840922079537837b03dd1", func := "loop.example/g01364/laws.FnExactTableEntropy", spec := "fnExactTableEntropy", inPlace := ["math.Float64frombits", "math.Float64bits"], apart := false, narrowed := true }
def FnExactTableEntropyUptoSaid : Prop := fnExactTableEntropyUptoRow.holds Try.pinned (OpenSpec.upto fnExactTableEntropySpec)

/-- 'laws.FnExactOrderEntropy', WHERE WHAT IT READS IS OF BULK AT MOST 1048576: true; the input reads as it did. -/
def fnExactOrderEntropyUptoRow : OpenClaim := { program := "ytgjgekoejdgabaa", sum := "ac6f6780bb6e8b28a025bca90a8c9f77eebf3e9394f840922079537837b03dd1", func := "loop.example/g01364/laws.FnExactOrderEntropy", spec := "fnExactOrderEntropy", inPlace := ["math.Float64frombits", "math.Float64bits"], apart := false, narrowed := true }
def FnExactOrderEntropyUptoSaid : Prop := fnExactOrderEntropyUptoRow.holds Try.pinned (OpenSpec.upto fnExactOrderEntropySpec)

/-- 'laws.FnExactRateOnce', WHERE WHAT IT READS IS OF BULK AT MOST 1048576: true; the input reads as it did. -/
def fnExactRateOnceUptoRow : OpenClaim := { program := "ytgjgekoejdgabaa", sum := "ac6f6780bb6e8b28a025bca90a8c9f77eebf3e9394f840922079537837b03dd1", func := "loop.example/g01364/laws.FnExactRateOnce", spec := "fnExactRateOnce", inPlace := ["math.Float64frombits"], apart := false, narrowed := true }
def FnExactRateOnceUptoSaid : Prop := fnExactRateOnceUptoRow.holds Try.pinned (OpenSpec.upto fnExactRateOnceSpec)

/-- 'laws.FnExactBackOf', WHERE WHAT IT READS IS OF BULK AT MOST 1048576: true; the input reads as it did. -/
def fnExactBackOfUptoRow : OpenClaim := { program := "ytgjgekoejdgabaa", sum := "ac6f6780bb6e8b28a025bca90a8c9f77eebf3e9394f840922079537837b03dd1", func := "loop.example/g01364/laws.FnExactBackOf", spec := "fnExactBackOf", apart := false, narrowed := true }
def FnExactBackOfUptoSaid : Prop := fnExactBackOfUptoRow.holds Try.pinned (OpenSpec.upto fnExactBackOfSpec)

/-- 'laws.FnExactBestGuesses', WHERE WHAT IT READS IS OF BULK AT MOST 1048576: true; the input reads as it did. -/
def fnExactBestGuessesUptoRow : OpenClaim := { program := "ytgjgekoejdgabaa", sum := "ac6f6780bb6e8b28a025bca90a8c9f77eebf3e9394f840922079537837b03dd1", func := "loop.example/g01364/laws.FnExactBestGuesses", spec := "fnExactBestGuesses", apart := false, narrowed := true }
def FnExactBestGuessesUptoSaid : Prop := fnExactBestGuessesUptoRow.holds Try.pinned (OpenSpec.upto fnExactBestGuessesSpec)

/-- 'laws.FnExactFarBits', WHERE WHAT IT READS IS OF BULK AT MOST 1048576: true; the input reads as it did. -/
def fnExactFarBitsUptoRow : OpenClaim := { program := "ytgjgekoejdgabaa", sum := "ac6f6780bb6e8b28a025bca90a8c9f77eebf3e9394f840922079537837b03dd1", func := "loop.example/g01364/laws.FnExactFarBits", spec := "fnExactFarBits", inPlace := ["math.Float64frombits", "math.Float64bits"], unfollowed := true, recurses := true, apart := false, narrowed := true }
def FnExactFarBitsUptoSaid : Prop := fnExactFarBitsUptoRow.holds Try.pinned (OpenSpec.upto fnExactFarBitsSpec)

/-- 'laws.FnExactEntropiesShared', WHERE WHAT IT READS IS OF BULK AT MOST 1048576: true; the input reads as it did. -/
def fnExactEntropiesSharedUptoRow : OpenClaim := { program := "ytgjgekoejdgabaa", sum := "ac6f6780bb6e8b28a025bca90a8c9f77eebf3e9394f840922079537837b03dd1", func := "loop.example/g01364/laws.FnExactEntropiesShared", spec := "fnExactEntropiesShared", inPlace := ["math.Float64frombits", "math.Float64bits"], apart := false, narrowed := true }
def FnExactEntropiesSharedUptoSaid : Prop := fnExactEntropiesSharedUptoRow.holds Try.pinned (OpenSpec.upto fnExactEntropiesSharedSpec)

/-- 'laws.FnExactGivenEntropy', WHERE WHAT IT READS IS OF BULK AT MOST 1048576: true; the input reads as it did. -/
def fnExactGivenEntropyUptoRow : OpenClaim := { program := "ytgjgekoejdgabaa", sum := "ac6f6780bb6e8b28a025bca90a8c9f77eebf3e9394f840922079537837b03dd1", func := "loop.example/g01364/laws.FnExactGivenEntropy", spec := "fnExactGivenEntropy", inPlace := ["math.Float64frombits", "math.Float64bits"], apart := false, narrowed := true }
def FnExactGivenEntropyUptoSaid : Prop := fnExactGivenEntropyUptoRow.holds Try.pinned (OpenSpec.upto fnExactGivenEntropySpec)

/-- 'laws.FnExactCommonBits', WHERE WHAT IT READS IS OF BULK AT MOST 1048576: true; the input reads as it did. -/
def fnExactCommonBitsUptoRow : OpenClaim := { program := "ytgjgekoejdgabaa", sum := "ac6f6780bb6e8b28a025bca90a8c9f77eebf3e9394f840922079537837b03dd1", func := "loop.example/g01364/laws.FnExactCommonBits", spec := "fnExactCommonBits", inPlace := ["math.Float64frombits", "math.Float64bits"], apart := false, narrowed := true }
def FnExactCommonBitsUptoSaid : Prop := fnExactCommonBitsUptoRow.holds Try.pinned (OpenSpec.upto fnExactCommonBitsSpec)

/-- 'laws.FnExactFarthestBits', WHERE WHAT IT READS IS OF BULK AT MOST 1048576: true; the input reads as it did. -/
def fnExactFarthestBitsUptoRow : OpenClaim := { program := "ytgjgekoejdgabaa", sum := "ac6f6780bb6e8b28a025bca90a8c9f77eebf3e9394f840922079537837b03dd1", func := "loop.example/g01364/laws.FnExactFarthestBits", spec := "fnExactFarthestBits", inPlace := ["math.Float64frombits", "math.Float64bits"], unfollowed := true, recurses := true, apart := false, narrowed := true }
def FnExactFarthestBitsUptoSaid : Prop := fnExactFarthestBitsUptoRow.holds Try.pinned (OpenSpec.upto fnExactFarthestBitsSpec)

end Rows
end Go.Proofs.Ytgjgekoejdgabaa
