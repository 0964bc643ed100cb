/-
  No cell of these rows narrows 'for every input' (looked for: loops, veiled, ifaces, maps, wideKeys, modest, calm, conditions, laid).
  DERIVED. THE GIVEN ROWS OF THIS SEAT. 12 by the template 'for every input the law returns true; each argument reads behind the call as it read before'; 0 by the template 'total and deterministic' (their statements: YtadakijlihibeaaTotals.lean).
  GIVEN WITH THE SEED: the statements are not yours to turn. If you find one false, say at which input.
  Laid BY PROGRAM, IN A SANDBOX (cutbox-rows.mjs): the forced cells as the released guide's own fill.sh prints them over the translation d394992d4c1cb246… (all of the seat's roots in one cut). By AI agents, Wed Nov 11 2026. No macro, syntax, notation, axiom, sorry.
-/
import Derived.Test.YtadakijlihibeaaChecked
import GoSem.Claim
import GoSem.ClaimJoined
import GoSem.ClaimMapViews
import Derived.JoinedTies
import Derived.KernelRfl
namespace Go.Proofs.Ytadakijlihibeaa
/- THE CELL 'sum', in the pinned program and in every row, IS THE sha256 OF THE DUMP (.gsa) THAT YtadakijlihibeaaProg.lean LOADS. Nothing in Lean hashes anything: it is a label: what it is worth is what the hold of that sum in a sandbox is worth. -/
noncomputable def Try.pinned : Pinned := { name := "ytadakijlihibeaa", sum := "d394992d4c1cb2466462a656f97f05fda5419fa92727fa42b34b7ebbd5ee4607", checked := Try.checked }
namespace Rows
def none {H : Type} : Left H := { results := [], args := [] }

/-- 'laws.FnExactSameChannel': WHATEVER THE INPUT: true; the input reads as it did. -/
def fnExactSameChannelSpec : ChangeSpec := { name := "fnExactSameChannel", fn := fun _ => fun
  | [d1, d2] => { results := [.lit (.bool true)], args := [d1, d2] }
  | _ => none }
def fnExactSameChannelRow : OpenClaim := { program := "ytadakijlihibeaa", sum := "d394992d4c1cb2466462a656f97f05fda5419fa92727fa42b34b7ebbd5ee4607", func := "loop.example/g01364/laws.FnExactSameChannel", spec := "fnExactSameChannel", inPlace := ["math.Float32bits", "math.Float64bits"], unfollowed := true, recurses := true, apart := false }
def FnExactSameChannelSaid : Prop := fnExactSameChannelRow.holds Try.pinned (OpenSpec.ofChange fnExactSameChannelSpec)

/-- ITS FALSE NEIGHBOUR: 'it returns false'. Refute it at one input. -/
def fnExactSameChannelWrong : ChangeSpec := { name := "fnExactSameChannel", fn := fun _ => fun
  | [d1, d2] => { results := [.lit (.bool false)], args := [d1, d2] }
  | _ => none }
def FnExactSameChannelWrongFalsely : Prop := fnExactSameChannelRow.holds Try.pinned (OpenSpec.ofChange fnExactSameChannelWrong)

/-- 'laws.FnExactValidChannel': WHATEVER THE INPUT: true; the input reads as it did. -/
def fnExactValidChannelSpec : ChangeSpec := { name := "fnExactValidChannel", fn := fun _ => fun
  | [d] => { results := [.lit (.bool true)], args := [d] }
  | _ => none }
def fnExactValidChannelRow : OpenClaim := { program := "ytadakijlihibeaa", sum := "d394992d4c1cb2466462a656f97f05fda5419fa92727fa42b34b7ebbd5ee4607", func := "loop.example/g01364/laws.FnExactValidChannel", spec := "fnExactValidChannel", apart := false }
def FnExactValidChannelSaid : Prop := fnExactValidChannelRow.holds Try.pinned (OpenSpec.ofChange fnExactValidChannelSpec)

/-- ITS FALSE NEIGHBOUR: 'it returns false'. Refute it at one input. -/
def fnExactValidChannelWrong : ChangeSpec := { name := "fnExactValidChannel", fn := fun _ => fun
  | [d] => { results := [.lit (.bool false)], args := [d] }
  | _ => none }
def FnExactValidChannelWrongFalsely : Prop := fnExactValidChannelRow.holds Try.pinned (OpenSpec.ofChange fnExactValidChannelWrong)

/-- 'laws.FnExactRowPart': WHATEVER THE INPUT: true; the input reads as it did. -/
def fnExactRowPartSpec : ChangeSpec := { name := "fnExactRowPart", fn := fun _ => fun
  | [d] => { results := [.lit (.bool true)], args := [d] }
  | _ => none }
def fnExactRowPartRow : OpenClaim := { program := "ytadakijlihibeaa", sum := "d394992d4c1cb2466462a656f97f05fda5419fa92727fa42b34b7ebbd5ee4607", func := "loop.example/g01364/laws.FnExactRowPart", spec := "fnExactRowPart", apart := false }
def FnExactRowPartSaid : Prop := fnExactRowPartRow.holds Try.pinned (OpenSpec.ofChange fnExactRowPartSpec)

/-- ITS FALSE NEIGHBOUR: 'it returns false'. Refute it at one input. -/
def fnExactRowPartWrong : ChangeSpec := { name := "fnExactRowPart", fn := fun _ => fun
  | [d] => { results := [.lit (.bool false)], args := [d] }
  | _ => none }
def FnExactRowPartWrongFalsely : Prop := fnExactRowPartRow.holds Try.pinned (OpenSpec.ofChange fnExactRowPartWrong)

/-- 'laws.FnExactLoseChannel': WHATEVER THE INPUT: true; the input reads as it did. -/
def fnExactLoseChannelSpec : ChangeSpec := { name := "fnExactLoseChannel", fn := fun _ => fun
  | [d1, d2] => { results := [.lit (.bool true)], args := [d1, d2] }
  | _ => none }
def fnExactLoseChannelRow : OpenClaim := { program := "ytadakijlihibeaa", sum := "d394992d4c1cb2466462a656f97f05fda5419fa92727fa42b34b7ebbd5ee4607", func := "loop.example/g01364/laws.FnExactLoseChannel", spec := "fnExactLoseChannel", unfollowed := true, recurses := true, apart := false }
def FnExactLoseChannelSaid : Prop := fnExactLoseChannelRow.holds Try.pinned (OpenSpec.ofChange fnExactLoseChannelSpec)

/-- ITS FALSE NEIGHBOUR: 'it returns false'. Refute it at one input. -/
def fnExactLoseChannelWrong : ChangeSpec := { name := "fnExactLoseChannel", fn := fun _ => fun
  | [d1, d2] => { results := [.lit (.bool false)], args := [d1, d2] }
  | _ => none }
def FnExactLoseChannelWrongFalsely : Prop := fnExactLoseChannelRow.holds Try.pinned (OpenSpec.ofChange fnExactLoseChannelWrong)

/-- 'laws.FnExactNextChannel': WHATEVER THE INPUT: true; the input reads as it did. -/
def fnExactNextChannelSpec : ChangeSpec := { name := "fnExactNextChannel", fn := fun _ => fun
  | [d1, d2] => { results := [.lit (.bool true)], args := [d1, d2] }
  | _ => none }
def fnExactNextChannelRow : OpenClaim := { program := "ytadakijlihibeaa", sum := "d394992d4c1cb2466462a656f97f05fda5419fa92727fa42b34b7ebbd5ee4607", func := "loop.example/g01364/laws.FnExactNextChannel", spec := "fnExactNextChannel", unfollowed := true, recurses := true, apart := false }
def FnExactNextChannelSaid : Prop := fnExactNextChannelRow.holds Try.pinned (OpenSpec.ofChange fnExactNextChannelSpec)

/-- ITS FALSE NEIGHBOUR: 'it returns false'. Refute it at one input. -/
def fnExactNextChannelWrong : ChangeSpec := { name := "fnExactNextChannel", fn := fun _ => fun
  | [d1, d2] => { results := [.lit (.bool false)], args := [d1, d2] }
  | _ => none }
def FnExactNextChannelWrongFalsely : Prop := fnExactNextChannelRow.holds Try.pinned (OpenSpec.ofChange fnExactNextChannelWrong)

/-- 'laws.FnExactFlipChannel': WHATEVER THE INPUT: true; the input reads as it did. -/
def fnExactFlipChannelSpec : ChangeSpec := { name := "fnExactFlipChannel", fn := fun _ => fun
  | [d1, d2] => { results := [.lit (.bool true)], args := [d1, d2] }
  | _ => none }
def fnExactFlipChannelRow : OpenClaim := { program := "ytadakijlihibeaa", sum := "d394992d4c1cb2466462a656f97f05fda5419fa92727fa42b34b7ebbd5ee4607", func := "loop.example/g01364/laws.FnExactFlipChannel", spec := "fnExactFlipChannel", unfollowed := true, recurses := true, apart := false }
def FnExactFlipChannelSaid : Prop := fnExactFlipChannelRow.holds Try.pinned (OpenSpec.ofChange fnExactFlipChannelSpec)

/-- ITS FALSE NEIGHBOUR: 'it returns false'. Refute it at one input. -/
def fnExactFlipChannelWrong : ChangeSpec := { name := "fnExactFlipChannel", fn := fun _ => fun
  | [d1, d2] => { results := [.lit (.bool false)], args := [d1, d2] }
  | _ => none }
def FnExactFlipChannelWrongFalsely : Prop := fnExactFlipChannelRow.holds Try.pinned (OpenSpec.ofChange fnExactFlipChannelWrong)

/-- 'laws.FnExactTurnTable': WHATEVER THE INPUT: true; the input reads as it did. -/
def fnExactTurnTableSpec : ChangeSpec := { name := "fnExactTurnTable", fn := fun _ => fun
  | [d] => { results := [.lit (.bool true)], args := [d] }
  | _ => none }
def fnExactTurnTableRow : OpenClaim := { program := "ytadakijlihibeaa", sum := "d394992d4c1cb2466462a656f97f05fda5419fa92727fa42b34b7ebbd5ee4607", func := "loop.example/g01364/laws.FnExactTurnTable", spec := "fnExactTurnTable", apart := false }
def FnExactTurnTableSaid : Prop := fnExactTurnTableRow.holds Try.pinned (OpenSpec.ofChange fnExactTurnTableSpec)

/-- ITS FALSE NEIGHBOUR: 'it returns false'. Refute it at one input. -/
def fnExactTurnTableWrong : ChangeSpec := { name := "fnExactTurnTable", fn := fun _ => fun
  | [d] => { results := [.lit (.bool false)], args := [d] }
  | _ => none }
def FnExactTurnTableWrongFalsely : Prop := fnExactTurnTableRow.holds Try.pinned (OpenSpec.ofChange fnExactTurnTableWrong)

/-- 'laws.FnExactGivenRow': WHATEVER THE INPUT: true; the input reads as it did. -/
def fnExactGivenRowSpec : ChangeSpec := { name := "fnExactGivenRow", fn := fun _ => fun
  | [d1, d2] => { results := [.lit (.bool true)], args := [d1, d2] }
  | _ => none }
def fnExactGivenRowRow : OpenClaim := { program := "ytadakijlihibeaa", sum := "d394992d4c1cb2466462a656f97f05fda5419fa92727fa42b34b7ebbd5ee4607", func := "loop.example/g01364/laws.FnExactGivenRow", spec := "fnExactGivenRow", apart := false }
def FnExactGivenRowSaid : Prop := fnExactGivenRowRow.holds Try.pinned (OpenSpec.ofChange fnExactGivenRowSpec)

/-- ITS FALSE NEIGHBOUR: 'it returns false'. Refute it at one input. -/
def fnExactGivenRowWrong : ChangeSpec := { name := "fnExactGivenRow", fn := fun _ => fun
  | [d1, d2] => { results := [.lit (.bool false)], args := [d1, d2] }
  | _ => none }
def FnExactGivenRowWrongFalsely : Prop := fnExactGivenRowRow.holds Try.pinned (OpenSpec.ofChange fnExactGivenRowWrong)

/-- 'laws.FnExactMeanLong': WHATEVER THE INPUT: true; the input reads as it did. -/
def fnExactMeanLongSpec : ChangeSpec := { name := "fnExactMeanLong", fn := fun _ => fun
  | [d1, d2] => { results := [.lit (.bool true)], args := [d1, d2] }
  | _ => none }
def fnExactMeanLongRow : OpenClaim := { program := "ytadakijlihibeaa", sum := "d394992d4c1cb2466462a656f97f05fda5419fa92727fa42b34b7ebbd5ee4607", func := "loop.example/g01364/laws.FnExactMeanLong", spec := "fnExactMeanLong", apart := false }
def FnExactMeanLongSaid : Prop := fnExactMeanLongRow.holds Try.pinned (OpenSpec.ofChange fnExactMeanLongSpec)

/-- ITS FALSE NEIGHBOUR: 'it returns false'. Refute it at one input. -/
def fnExactMeanLongWrong : ChangeSpec := { name := "fnExactMeanLong", fn := fun _ => fun
  | [d1, d2] => { results := [.lit (.bool false)], args := [d1, d2] }
  | _ => none }
def FnExactMeanLongWrongFalsely : Prop := fnExactMeanLongRow.holds Try.pinned (OpenSpec.ofChange fnExactMeanLongWrong)

/-- 'laws.FnExactWordChance': WHATEVER THE INPUT: true; the input reads as it did. -/
def fnExactWordChanceSpec : ChangeSpec := { name := "fnExactWordChance", fn := fun _ => fun
  | [d1, d2, d3] => { results := [.lit (.bool true)], args := [d1, d2, d3] }
  | _ => none }
def fnExactWordChanceRow : OpenClaim := { program := "ytadakijlihibeaa", sum := "d394992d4c1cb2466462a656f97f05fda5419fa92727fa42b34b7ebbd5ee4607", func := "loop.example/g01364/laws.FnExactWordChance", spec := "fnExactWordChance", apart := false }
def FnExactWordChanceSaid : Prop := fnExactWordChanceRow.holds Try.pinned (OpenSpec.ofChange fnExactWordChanceSpec)

/-- ITS FALSE NEIGHBOUR: 'it returns false'. Refute it at one input. -/
def fnExactWordChanceWrong : ChangeSpec := { name := "fnExactWordChance", fn := fun _ => fun
  | [d1, d2, d3] => { results := [.lit (.bool false)], args := [d1, d2, d3] }
  | _ => none }
def FnExactWordChanceWrongFalsely : Prop := fnExactWordChanceRow.holds Try.pinned (OpenSpec.ofChange fnExactWordChanceWrong)

/-- 'laws.FnExactColumnPart': WHATEVER THE INPUT: true; the input reads as it did. -/
def fnExactColumnPartSpec : ChangeSpec := { name := "fnExactColumnPart", fn := fun _ => fun
  | [d] => { results := [.lit (.bool true)], args := [d] }
  | _ => none }
def fnExactColumnPartRow : OpenClaim := { program := "ytadakijlihibeaa", sum := "d394992d4c1cb2466462a656f97f05fda5419fa92727fa42b34b7ebbd5ee4607", func := "loop.example/g01364/laws.FnExactColumnPart", spec := "fnExactColumnPart", apart := false }
def FnExactColumnPartSaid : Prop := fnExactColumnPartRow.holds Try.pinned (OpenSpec.ofChange fnExactColumnPartSpec)

/-- ITS FALSE NEIGHBOUR: 'it returns false'. Refute it at one input. -/
def fnExactColumnPartWrong : ChangeSpec := { name := "fnExactColumnPart", fn := fun _ => fun
  | [d] => { results := [.lit (.bool false)], args := [d] }
  | _ => none }
def FnExactColumnPartWrongFalsely : Prop := fnExactColumnPartRow.holds Try.pinned (OpenSpec.ofChange fnExactColumnPartWrong)

/-- 'laws.FnExactSideChannels': WHATEVER THE INPUT: true; the input reads as it did. -/
def fnExactSideChannelsSpec : ChangeSpec := { name := "fnExactSideChannels", fn := fun _ => fun
  | [d1, d2] => { results := [.lit (.bool true)], args := [d1, d2] }
  | _ => none }
def fnExactSideChannelsRow : OpenClaim := { program := "ytadakijlihibeaa", sum := "d394992d4c1cb2466462a656f97f05fda5419fa92727fa42b34b7ebbd5ee4607", func := "loop.example/g01364/laws.FnExactSideChannels", spec := "fnExactSideChannels", unfollowed := true, recurses := true, apart := false }
def FnExactSideChannelsSaid : Prop := fnExactSideChannelsRow.holds Try.pinned (OpenSpec.ofChange fnExactSideChannelsSpec)

/-- ITS FALSE NEIGHBOUR: 'it returns false'. Refute it at one input. -/
def fnExactSideChannelsWrong : ChangeSpec := { name := "fnExactSideChannels", fn := fun _ => fun
  | [d1, d2] => { results := [.lit (.bool false)], args := [d1, d2] }
  | _ => none }
def FnExactSideChannelsWrongFalsely : Prop := fnExactSideChannelsRow.holds Try.pinned (OpenSpec.ofChange fnExactSideChannelsWrong)

/- THE SECOND FORM. 'bulk': how many values and letters a reading holds, each counted each time it is reached (what is shared counts as often as it is met; a slice's spare places count too). A statement '..UptoSaid' is the law's where the arguments, and the package variables that the reading takes, are together of bulk at most 1048576: NARROWER than '..Said'. Prove '..Said' where nothing that the law and all that it calls make is longer than what came in: it says more and counts as full. Else prove '..UptoSaid'. A law counts once. -/
mutual
def uptoBulk {H : Type} : DataW H → Nat
  | .lit (.string bytes) => bytes.length + 1
  | .lit _ => 1
  | .nil => 1
  | .ptr d => uptoBulk d + 1
  | .slice elems spare => uptoBulkAll elems + uptoBulkAll spare + 1
  | .agg parts => uptoBulkAll parts + 1
  | .iface _ d => uptoBulk d + 1
  | .map entries => uptoBulkEntries entries + 1
  | .held _ => 1
def uptoBulkAll {H : Type} : List (DataW H) → Nat
  | [] => 0
  | d :: r => uptoBulk d + uptoBulkAll r
def uptoBulkEntries {H : Type} : List (Lit × DataW H) → Nat
  | [] => 0
  | x :: r => uptoBulkEntry x + uptoBulkEntries r
def uptoBulkEntry {H : Type} : Lit × DataW H → Nat
  | (.string bytes, d) => bytes.length + uptoBulk d + 1
  | (_, d) => uptoBulk d + 1
 end
def uptoSmall : (H : Type) → List (DataW H) → Bool := fun _ ds => decide (uptoBulkAll ds ≤ 1048576)
def OpenSpec.upto (s : _root_.Go.ChangeSpec) : _root_.Go.OpenSpec := { _root_.Go.OpenSpec.ofChange s with cond := some uptoSmall }

/-- 'laws.FnExactSameChannel', WHERE WHAT IT READS IS OF BULK AT MOST 1048576: true; the input reads as it did. -/
def fnExactSameChannelUptoRow : OpenClaim := { program := "ytadakijlihibeaa", sum := "d394992d4c1cb2466462a656f97f05fda5419fa92727fa42b34b7ebbd5ee4607", func := "loop.example/g01364/laws.FnExactSameChannel", spec := "fnExactSameChannel", inPlace := ["math.Float32bits", "math.Float64bits"], unfollowed := true, recurses := true, apart := false, narrowed := true }
def FnExactSameChannelUptoSaid : Prop := fnExactSameChannelUptoRow.holds Try.pinned (OpenSpec.upto fnExactSameChannelSpec)

/-- 'laws.FnExactValidChannel', WHERE WHAT IT READS IS OF BULK AT MOST 1048576: true; the input reads as it did. -/
def fnExactValidChannelUptoRow : OpenClaim := { program := "ytadakijlihibeaa", sum := "d394992d4c1cb2466462a656f97f05fda5419fa92727fa42b34b7ebbd5ee4607", func := "loop.example/g01364/laws.FnExactValidChannel", spec := "fnExactValidChannel", apart := false, narrowed := true }
def FnExactValidChannelUptoSaid : Prop := fnExactValidChannelUptoRow.holds Try.pinned (OpenSpec.upto fnExactValidChannelSpec)

/-- 'laws.FnExactRowPart', WHERE WHAT IT READS IS OF BULK AT MOST 1048576: true; the input reads as it did. -/
def fnExactRowPartUptoRow : OpenClaim := { program := "ytadakijlihibeaa", sum := "d394992d4c1cb2466462a656f97f05fda5419fa92727fa42b34b7ebbd5ee4607", func := "loop.example/g01364/laws.FnExactRowPart", spec := "fnExactRowPart", apart := false, narrowed := true }
def FnExactRowPartUptoSaid : Prop := fnExactRowPartUptoRow.holds Try.pinned (OpenSpec.upto fnExactRowPartSpec)

/-- 'laws.FnExactLoseChannel', WHERE WHAT IT READS IS OF BULK AT MOST 1048576: true; the input reads as it did. -/
def fnExactLoseChannelUptoRow : OpenClaim := { program := "ytadakijlihibeaa", sum := "d394992d4c1cb2466462a656f97f05fda5419fa92727fa42b34b7ebbd5ee4607", func := "loop.example/g01364/laws.FnExactLoseChannel", spec := "fnExactLoseChannel", unfollowed := true, recurses := true, apart := false, narrowed := true }
def FnExactLoseChannelUptoSaid : Prop := fnExactLoseChannelUptoRow.holds Try.pinned (OpenSpec.upto fnExactLoseChannelSpec)

/-- 'laws.FnExactNextChannel', WHERE WHAT IT READS IS OF BULK AT MOST 1048576: true; the input reads as it did. -/
def fnExactNextChannelUptoRow : OpenClaim := { program := "ytadakijlihibeaa", sum := "d394992d4c1cb2466462a656f97f05fda5419fa92727fa42b34b7ebbd5ee4607", func := "loop.example/g01364/laws.FnExactNextChannel", spec := "fnExactNextChannel", unfollowed := true, recurses := true, apart := false, narrowed := true }
def FnExactNextChannelUptoSaid : Prop := fnExactNextChannelUptoRow.holds Try.pinned (OpenSpec.upto fnExactNextChannelSpec)

/-- 'laws.FnExactFlipChannel', WHERE WHAT IT READS IS OF BULK AT MOST 1048576: true; the input reads as it did. -/
def fnExactFlipChannelUptoRow : OpenClaim := { program := "ytadakijlihibeaa", sum := "d394992d4c1cb2466462a656f97f05fda5419fa92727fa42b34b7ebbd5ee4607", func := "loop.example/g01364/laws.FnExactFlipChannel", spec := "fnExactFlipChannel", unfollowed := true, recurses := true, apart := false, narrowed := true }
def FnExactFlipChannelUptoSaid : Prop := fnExactFlipChannelUptoRow.holds Try.pinned (OpenSpec.upto fnExactFlipChannelSpec)

/-- 'laws.FnExactTurnTable', WHERE WHAT IT READS IS OF BULK AT MOST 1048576: true; the input reads as it did. -/
def fnExactTurnTableUptoRow : OpenClaim := { program := "ytadakijlihibeaa", sum := "d394992d4c1cb2466462a656f97f05fda5419fa92727fa42b34b7ebbd5ee4607", func := "loop.example/g01364/laws.FnExactTurnTable", spec := "fnExactTurnTable", apart := false, narrowed := true }
def FnExactTurnTableUptoSaid : Prop := fnExactTurnTableUptoRow.holds Try.pinned (OpenSpec.upto fnExactTurnTableSpec)

/-- 'laws.FnExactGivenRow', WHERE WHAT IT READS IS OF BULK AT MOST 1048576: true; the input reads as it did. -/
def fnExactGivenRowUptoRow : OpenClaim := { program := "ytadakijlihibeaa", sum := "d394992d4c1cb2466462a656f97f05fda5419fa92727fa42b34b7ebbd5ee4607", func := "loop.example/g01364/laws.FnExactGivenRow", spec := "fnExactGivenRow", apart := false, narrowed := true }
def FnExactGivenRowUptoSaid : Prop := fnExactGivenRowUptoRow.holds Try.pinned (OpenSpec.upto fnExactGivenRowSpec)

/-- 'laws.FnExactMeanLong', WHERE WHAT IT READS IS OF BULK AT MOST 1048576: true; the input reads as it did. -/
def fnExactMeanLongUptoRow : OpenClaim := { program := "ytadakijlihibeaa", sum := "d394992d4c1cb2466462a656f97f05fda5419fa92727fa42b34b7ebbd5ee4607", func := "loop.example/g01364/laws.FnExactMeanLong", spec := "fnExactMeanLong", apart := false, narrowed := true }
def FnExactMeanLongUptoSaid : Prop := fnExactMeanLongUptoRow.holds Try.pinned (OpenSpec.upto fnExactMeanLongSpec)

/-- 'laws.FnExactWordChance', WHERE WHAT IT READS IS OF BULK AT MOST 1048576: true; the input reads as it did. -/
def fnExactWordChanceUptoRow : OpenClaim := { program := "ytadakijlihibeaa", sum := "d394992d4c1cb2466462a656f97f05fda5419fa92727fa42b34b7ebbd5ee4607", func := "loop.example/g01364/laws.FnExactWordChance", spec := "fnExactWordChance", apart := false, narrowed := true }
def FnExactWordChanceUptoSaid : Prop := fnExactWordChanceUptoRow.holds Try.pinned (OpenSpec.upto fnExactWordChanceSpec)

/-- 'laws.FnExactColumnPart', WHERE WHAT IT READS IS OF BULK AT MOST 1048576: true; the input reads as it did. -/
def fnExactColumnPartUptoRow : OpenClaim := { program := "ytadakijlihibeaa", sum := "d394992d4c1cb2466462a656f97f05fda5419fa92727fa42b34b7ebbd5ee4607", func := "loop.example/g01364/laws.FnExactColumnPart", spec := "fnExactColumnPart", apart := false, narrowed := true }
def FnExactColumnPartUptoSaid : Prop := fnExactColumnPartUptoRow.holds Try.pinned (OpenSpec.upto fnExactColumnPartSpec)

/-- 'laws.FnExactSideChannels', WHERE WHAT IT READS IS OF BULK AT MOST 1048576: true; the input reads as it did. -/
def fnExactSideChannelsUptoRow : OpenClaim := { program := "ytadakijlihibeaa", sum := "d394992d4c1cb2466462a656f97f05fda5419fa92727fa42b34b7ebbd5ee4607", func := "loop.example/g01364/laws.FnExactSideChannels", spec := "fnExactSideChannels", unfollowed := true, recurses := true, apart := false, narrowed := true }
def FnExactSideChannelsUptoSaid : Prop := fnExactSideChannelsUptoRow.holds Try.pinned (OpenSpec.upto fnExactSideChannelsSpec)

end Rows
end Go.Proofs.Ytadakijlihibeaa
