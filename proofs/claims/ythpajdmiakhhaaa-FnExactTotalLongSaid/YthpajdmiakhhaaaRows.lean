/-
  No cell of these rows narrows 'for every input' (looked for: loops, veiled, ifaces, maps, wideKeys, modest, calm, conditions, laid).
  DERIVED. THE GIVEN ROWS OF THIS SEAT. 7 by the template 'for every input the law returns true; each argument reads behind the call as it read before'; 0 by the template 'total and deterministic' (their statements: YthpajdmiakhhaaaTotals.lean).
  GIVEN WITH THE SEED: the statements are not yours to turn. If you find one false, say at which input.
  Laid BY PROGRAM, IN A SANDBOX (cutbox-rows.mjs): the forced cells as the released guide's own fill.sh prints them over the translation 5426bcc675e9044d… (all of the seat's roots in one cut). By AI agents, Wed Nov 11 2026. No macro, syntax, notation, axiom, sorry.
-/
import Derived.Test.YthpajdmiakhhaaaChecked
import GoSem.Claim
import GoSem.ClaimJoined
import GoSem.ClaimMapViews
import Derived.JoinedTies
import Derived.KernelRfl
namespace Go.Proofs.Ythpajdmiakhhaaa
/- THE CELL 'sum', in the pinned program and in every row, IS THE sha256 OF THE DUMP (.gsa) THAT YthpajdmiakhhaaaProg.lean LOADS. Nothing in Lean hashes anything: it is a label: what it is worth is what the hold of that sum in a sandbox is worth. -/
noncomputable def Try.pinned : Pinned := { name := "ythpajdmiakhhaaa", sum := "5426bcc675e9044d26ebb800195a892a177599df87e8791952b1a7bd7b93031d", checked := Try.checked }
namespace Rows
def none {H : Type} : Left H := { results := [], args := [] }

/-- 'laws.FnExactSameCode': WHATEVER THE INPUT: true; the input reads as it did. -/
def fnExactSameCodeSpec : ChangeSpec := { name := "fnExactSameCode", fn := fun _ => fun
  | [d1, d2] => { results := [.lit (.bool true)], args := [d1, d2] }
  | _ => none }
def fnExactSameCodeRow : OpenClaim := { program := "ythpajdmiakhhaaa", sum := "5426bcc675e9044d26ebb800195a892a177599df87e8791952b1a7bd7b93031d", func := "loop.example/g01364/laws.FnExactSameCode", spec := "fnExactSameCode", apart := false }
def FnExactSameCodeSaid : Prop := fnExactSameCodeRow.holds Try.pinned (OpenSpec.ofChange fnExactSameCodeSpec)

/-- ITS FALSE NEIGHBOUR: 'it returns false'. Refute it at one input. -/
def fnExactSameCodeWrong : ChangeSpec := { name := "fnExactSameCode", fn := fun _ => fun
  | [d1, d2] => { results := [.lit (.bool false)], args := [d1, d2] }
  | _ => none }
def FnExactSameCodeWrongFalsely : Prop := fnExactSameCodeRow.holds Try.pinned (OpenSpec.ofChange fnExactSameCodeWrong)

/-- 'laws.FnExactValidCode': WHATEVER THE INPUT: true; the input reads as it did. -/
def fnExactValidCodeSpec : ChangeSpec := { name := "fnExactValidCode", fn := fun _ => fun
  | [d] => { results := [.lit (.bool true)], args := [d] }
  | _ => none }
def fnExactValidCodeRow : OpenClaim := { program := "ythpajdmiakhhaaa", sum := "5426bcc675e9044d26ebb800195a892a177599df87e8791952b1a7bd7b93031d", func := "loop.example/g01364/laws.FnExactValidCode", spec := "fnExactValidCode", apart := false }
def FnExactValidCodeSaid : Prop := fnExactValidCodeRow.holds Try.pinned (OpenSpec.ofChange fnExactValidCodeSpec)

/-- ITS FALSE NEIGHBOUR: 'it returns false'. Refute it at one input. -/
def fnExactValidCodeWrong : ChangeSpec := { name := "fnExactValidCode", fn := fun _ => fun
  | [d] => { results := [.lit (.bool false)], args := [d] }
  | _ => none }
def FnExactValidCodeWrongFalsely : Prop := fnExactValidCodeRow.holds Try.pinned (OpenSpec.ofChange fnExactValidCodeWrong)

/-- 'laws.FnExactKraftOf': WHATEVER THE INPUT: true; the input reads as it did. -/
def fnExactKraftOfSpec : ChangeSpec := { name := "fnExactKraftOf", fn := fun _ => fun
  | [d] => { results := [.lit (.bool true)], args := [d] }
  | _ => none }
def fnExactKraftOfRow : OpenClaim := { program := "ythpajdmiakhhaaa", sum := "5426bcc675e9044d26ebb800195a892a177599df87e8791952b1a7bd7b93031d", func := "loop.example/g01364/laws.FnExactKraftOf", spec := "fnExactKraftOf", apart := false }
def FnExactKraftOfSaid : Prop := fnExactKraftOfRow.holds Try.pinned (OpenSpec.ofChange fnExactKraftOfSpec)

/-- ITS FALSE NEIGHBOUR: 'it returns false'. Refute it at one input. -/
def fnExactKraftOfWrong : ChangeSpec := { name := "fnExactKraftOf", fn := fun _ => fun
  | [d] => { results := [.lit (.bool false)], args := [d] }
  | _ => none }
def FnExactKraftOfWrongFalsely : Prop := fnExactKraftOfRow.holds Try.pinned (OpenSpec.ofChange fnExactKraftOfWrong)

/-- 'laws.FnExactSameChannel': WHATEVER THE INPUT: true; the input reads as it did. -/
def fnExactSameChannelSpec : ChangeSpec := { name := "fnExactSameChannel", fn := fun _ => fun
  | [d1, d2] => { results := [.lit (.bool true)], args := [d1, d2] }
  | _ => none }
def fnExactSameChannelRow : OpenClaim := { program := "ythpajdmiakhhaaa", sum := "5426bcc675e9044d26ebb800195a892a177599df87e8791952b1a7bd7b93031d", func := "loop.example/g01364/laws.FnExactSameChannel", spec := "fnExactSameChannel", inPlace := ["math.Float32bits", "math.Float64bits"], unfollowed := true, recurses := true, apart := false }
def FnExactSameChannelSaid : Prop := fnExactSameChannelRow.holds Try.pinned (OpenSpec.ofChange fnExactSameChannelSpec)

/-- ITS FALSE NEIGHBOUR: 'it returns false'. Refute it at one input. -/
def fnExactSameChannelWrong : ChangeSpec := { name := "fnExactSameChannel", fn := fun _ => fun
  | [d1, d2] => { results := [.lit (.bool false)], args := [d1, d2] }
  | _ => none }
def FnExactSameChannelWrongFalsely : Prop := fnExactSameChannelRow.holds Try.pinned (OpenSpec.ofChange fnExactSameChannelWrong)

/-- 'laws.FnExactBackOfFront': WHATEVER THE INPUT: true; the input reads as it did. -/
def fnExactBackOfFrontSpec : ChangeSpec := { name := "fnExactBackOfFront", fn := fun _ => fun
  | [d1, d2] => { results := [.lit (.bool true)], args := [d1, d2] }
  | _ => none }
def fnExactBackOfFrontRow : OpenClaim := { program := "ythpajdmiakhhaaa", sum := "5426bcc675e9044d26ebb800195a892a177599df87e8791952b1a7bd7b93031d", func := "loop.example/g01364/laws.FnExactBackOfFront", spec := "fnExactBackOfFront", apart := false }
def FnExactBackOfFrontSaid : Prop := fnExactBackOfFrontRow.holds Try.pinned (OpenSpec.ofChange fnExactBackOfFrontSpec)

/-- ITS FALSE NEIGHBOUR: 'it returns false'. Refute it at one input. -/
def fnExactBackOfFrontWrong : ChangeSpec := { name := "fnExactBackOfFront", fn := fun _ => fun
  | [d1, d2] => { results := [.lit (.bool false)], args := [d1, d2] }
  | _ => none }
def FnExactBackOfFrontWrongFalsely : Prop := fnExactBackOfFrontRow.holds Try.pinned (OpenSpec.ofChange fnExactBackOfFrontWrong)

/-- 'laws.FnExactTotalLong': WHATEVER THE INPUT: true; the input reads as it did. -/
def fnExactTotalLongSpec : ChangeSpec := { name := "fnExactTotalLong", fn := fun _ => fun
  | [d1, d2] => { results := [.lit (.bool true)], args := [d1, d2] }
  | _ => none }
def fnExactTotalLongRow : OpenClaim := { program := "ythpajdmiakhhaaa", sum := "5426bcc675e9044d26ebb800195a892a177599df87e8791952b1a7bd7b93031d", func := "loop.example/g01364/laws.FnExactTotalLong", spec := "fnExactTotalLong", apart := false }
def FnExactTotalLongSaid : Prop := fnExactTotalLongRow.holds Try.pinned (OpenSpec.ofChange fnExactTotalLongSpec)

/-- ITS FALSE NEIGHBOUR: 'it returns false'. Refute it at one input. -/
def fnExactTotalLongWrong : ChangeSpec := { name := "fnExactTotalLong", fn := fun _ => fun
  | [d1, d2] => { results := [.lit (.bool false)], args := [d1, d2] }
  | _ => none }
def FnExactTotalLongWrongFalsely : Prop := fnExactTotalLongRow.holds Try.pinned (OpenSpec.ofChange fnExactTotalLongWrong)

/-- 'laws.FnExactFrontOf': WHATEVER THE INPUT: true; the input reads as it did. -/
def fnExactFrontOfSpec : ChangeSpec := { name := "fnExactFrontOf", fn := fun _ => fun
  | [d1, d2] => { results := [.lit (.bool true)], args := [d1, d2] }
  | _ => none }
def fnExactFrontOfRow : OpenClaim := { program := "ythpajdmiakhhaaa", sum := "5426bcc675e9044d26ebb800195a892a177599df87e8791952b1a7bd7b93031d", func := "loop.example/g01364/laws.FnExactFrontOf", spec := "fnExactFrontOf", apart := false }
def FnExactFrontOfSaid : Prop := fnExactFrontOfRow.holds Try.pinned (OpenSpec.ofChange fnExactFrontOfSpec)

/-- ITS FALSE NEIGHBOUR: 'it returns false'. Refute it at one input. -/
def fnExactFrontOfWrong : ChangeSpec := { name := "fnExactFrontOf", fn := fun _ => fun
  | [d1, d2] => { results := [.lit (.bool false)], args := [d1, d2] }
  | _ => none }
def FnExactFrontOfWrongFalsely : Prop := fnExactFrontOfRow.holds Try.pinned (OpenSpec.ofChange fnExactFrontOfWrong)

/- THE SECOND FORM. 'bulk': how many values and letters a reading holds, each counted each time it is reached (what is shared counts as often as it is met; a slice's spare places count too). A statement '..UptoSaid' is the law's where the arguments, and the package variables that the reading takes, are together of bulk at most 1048576: NARROWER than '..Said'. Prove '..Said' where nothing that the law and all that it calls make is longer than what came in: it says more and counts as full. Else prove '..UptoSaid'. A law counts once. -/
mutual
def uptoBulk {H : Type} : DataW H → Nat
  | .lit (.string bytes) => bytes.length + 1
  | .lit _ => 1
  | .nil => 1
  | .ptr d => uptoBulk d + 1
  | .slice elems spare => uptoBulkAll elems + uptoBulkAll spare + 1
  | .agg parts => uptoBulkAll parts + 1
  | .iface _ d => uptoBulk d + 1
  | .map entries => uptoBulkEntries entries + 1
  | .held _ => 1
def uptoBulkAll {H : Type} : List (DataW H) → Nat
  | [] => 0
  | d :: r => uptoBulk d + uptoBulkAll r
def uptoBulkEntries {H : Type} : List (Lit × DataW H) → Nat
  | [] => 0
  | x :: r => uptoBulkEntry x + uptoBulkEntries r
def uptoBulkEntry {H : Type} : Lit × DataW H → Nat
  | (.string bytes, d) => bytes.length + uptoBulk d + 1
  | (_, d) => uptoBulk d + 1
 end
def uptoSmall : (H : Type) → List (DataW H) → Bool := fun _ ds => decide (uptoBulkAll ds ≤ 1048576)
def OpenSpec.upto (s : _root_.Go.ChangeSpec) : _root_.Go.OpenSpec := { _root_.Go.OpenSpec.ofChange s with cond := some uptoSmall }

/-- 'laws.FnExactSameCode', WHERE WHAT IT READS IS OF BULK AT MOST 1048576: true; the input reads as it did. -/
def fnExactSameCodeUptoRow : OpenClaim := { program := "ythpajdmiakhhaaa", sum := "5426bcc675e9044d26ebb800195a892a177599df87e8791952b1a7bd7b93031d", func := "loop.example/g01364/laws.FnExactSameCode", spec := "fnExactSameCode", apart := false, narrowed := true }
def FnExactSameCodeUptoSaid : Prop := fnExactSameCodeUptoRow.holds Try.pinned (OpenSpec.upto fnExactSameCodeSpec)

/-- 'laws.FnExactValidCode', WHERE WHAT IT READS IS OF BULK AT MOST 1048576: true; the input reads as it did. -/
def fnExactValidCodeUptoRow : OpenClaim := { program := "ythpajdmiakhhaaa", sum := "5426bcc675e9044d26ebb800195a892a177599df87e8791952b1a7bd7b93031d", func := "loop.example/g01364/laws.FnExactValidCode", spec := "fnExactValidCode", apart := false, narrowed := true }
def FnExactValidCodeUptoSaid : Prop := fnExactValidCodeUptoRow.holds Try.pinned (OpenSpec.upto fnExactValidCodeSpec)

/-- 'laws.FnExactKraftOf', WHERE WHAT IT READS IS OF BULK AT MOST 1048576: true; the input reads as it did. -/
def fnExactKraftOfUptoRow : OpenClaim := { program := "ythpajdmiakhhaaa", sum := "5426bcc675e9044d26ebb800195a892a177599df87e8791952b1a7bd7b93031d", func := "loop.example/g01364/laws.FnExactKraftOf", spec := "fnExactKraftOf", apart := false, narrowed := true }
def FnExactKraftOfUptoSaid : Prop := fnExactKraftOfUptoRow.holds Try.pinned (OpenSpec.upto fnExactKraftOfSpec)

/-- 'laws.FnExactSameChannel', WHERE WHAT IT READS IS OF BULK AT MOST 1048576: true; the input reads as it did. -/
def fnExactSameChannelUptoRow : OpenClaim := { program := "ythpajdmiakhhaaa", sum := "5426bcc675e9044d26ebb800195a892a177599df87e8791952b1a7bd7b93031d", func := "loop.example/g01364/laws.FnExactSameChannel", spec := "fnExactSameChannel", inPlace := ["math.Float32bits", "math.Float64bits"], unfollowed := true, recurses := true, apart := false, narrowed := true }
def FnExactSameChannelUptoSaid : Prop := fnExactSameChannelUptoRow.holds Try.pinned (OpenSpec.upto fnExactSameChannelSpec)

/-- 'laws.FnExactBackOfFront', WHERE WHAT IT READS IS OF BULK AT MOST 1048576: true; the input reads as it did. -/
def fnExactBackOfFrontUptoRow : OpenClaim := { program := "ythpajdmiakhhaaa", sum := "5426bcc675e9044d26ebb800195a892a177599df87e8791952b1a7bd7b93031d", func := "loop.example/g01364/laws.FnExactBackOfFront", spec := "fnExactBackOfFront", apart := false, narrowed := true }
def FnExactBackOfFrontUptoSaid : Prop := fnExactBackOfFrontUptoRow.holds Try.pinned (OpenSpec.upto fnExactBackOfFrontSpec)

/-- 'laws.FnExactTotalLong', WHERE WHAT IT READS IS OF BULK AT MOST 1048576: true; the input reads as it did. -/
def fnExactTotalLongUptoRow : OpenClaim := { program := "ythpajdmiakhhaaa", sum := "5426bcc675e9044d26ebb800195a892a177599df87e8791952b1a7bd7b93031d", func := "loop.example/g01364/laws.FnExactTotalLong", spec := "fnExactTotalLong", apart := false, narrowed := true }
def FnExactTotalLongUptoSaid : Prop := fnExactTotalLongUptoRow.holds Try.pinned (OpenSpec.upto fnExactTotalLongSpec)

/-- 'laws.FnExactFrontOf', WHERE WHAT IT READS IS OF BULK AT MOST 1048576: true; the input reads as it did. -/
def fnExactFrontOfUptoRow : OpenClaim := { program := "ythpajdmiakhhaaa", sum := "5426bcc675e9044d26ebb800195a892a177599df87e8791952b1a7bd7b93031d", func := "loop.example/g01364/laws.FnExactFrontOf", spec := "fnExactFrontOf", apart := false, narrowed := true }
def FnExactFrontOfUptoSaid : Prop := fnExactFrontOfUptoRow.holds Try.pinned (OpenSpec.upto fnExactFrontOfSpec)

end Rows
end Go.Proofs.Ythpajdmiakhhaaa
