/-
  No cell of these rows narrows 'for every input' (looked for: loops, veiled, ifaces, maps, wideKeys, modest, calm, conditions, laid).
  DERIVED. THE GIVEN ROWS OF THIS SEAT. 8 by the template 'for every input the law returns true; each argument reads behind the call as it read before'; 0 by the template 'total and deterministic' (their statements: YtlahmdnlamifnaaTotals.lean).
  GIVEN WITH THE SEED: the statements are not yours to turn. If you find one false, say at which input.
  Laid BY PROGRAM, IN A SANDBOX (cutbox-rows.mjs): the forced cells as the released guide's own fill.sh prints them over the translation 51e7698949c2f798… (all of the seat's roots in one cut). By AI agents, Wed Nov 11 2026. No macro, syntax, notation, axiom, sorry.
-/
import Derived.Test.YtlahmdnlamifnaaChecked
import GoSem.Claim
import GoSem.ClaimJoined
import GoSem.ClaimMapViews
import Derived.JoinedTies
import Derived.KernelRfl
namespace Go.Proofs.Ytlahmdnlamifnaa
/- THE CELL 'sum', in the pinned program and in every row, IS THE sha256 OF THE DUMP (.gsa) THAT YtlahmdnlamifnaaProg.lean LOADS. Nothing in Lean hashes anything: it is a label: what it is worth is what the hold of that sum in a sandbox is worth. -/
noncomputable def Try.pinned : Pinned := { name := "ytlahmdnlamifnaa", sum := "51e7698949c2f798904c6a1a45bf1d2df912e4fc5e4d1dccd073fa47f23bc4aa", checked := Try.checked }
namespace Rows
def none {H : Type} : Left H := { results := [], args := [] }

/-- 'laws.FnExactLoseChannel': WHATEVER THE INPUT: true; the input reads as it did. -/
def fnExactLoseChannelSpec : ChangeSpec := { name := "fnExactLoseChannel", fn := fun _ => fun
  | [d1, d2] => { results := [.lit (.bool true)], args := [d1, d2] }
  | _ => none }
def fnExactLoseChannelRow : OpenClaim := { program := "ytlahmdnlamifnaa", sum := "51e7698949c2f798904c6a1a45bf1d2df912e4fc5e4d1dccd073fa47f23bc4aa", func := "loop.example/g01364/laws.FnExactLoseChannel", spec := "fnExactLoseChannel", unfollowed := true, recurses := true, apart := false }
def FnExactLoseChannelSaid : Prop := fnExactLoseChannelRow.holds Try.pinned (OpenSpec.ofChange fnExactLoseChannelSpec)

/-- ITS FALSE NEIGHBOUR: 'it returns false'. Refute it at one input. -/
def fnExactLoseChannelWrong : ChangeSpec := { name := "fnExactLoseChannel", fn := fun _ => fun
  | [d1, d2] => { results := [.lit (.bool false)], args := [d1, d2] }
  | _ => none }
def FnExactLoseChannelWrongFalsely : Prop := fnExactLoseChannelRow.holds Try.pinned (OpenSpec.ofChange fnExactLoseChannelWrong)

/-- 'laws.FnExactNextChannel': WHATEVER THE INPUT: true; the input reads as it did. -/
def fnExactNextChannelSpec : ChangeSpec := { name := "fnExactNextChannel", fn := fun _ => fun
  | [d1, d2] => { results := [.lit (.bool true)], args := [d1, d2] }
  | _ => none }
def fnExactNextChannelRow : OpenClaim := { program := "ytlahmdnlamifnaa", sum := "51e7698949c2f798904c6a1a45bf1d2df912e4fc5e4d1dccd073fa47f23bc4aa", func := "loop.example/g01364/laws.FnExactNextChannel", spec := "fnExactNextChannel", unfollowed := true, recurses := true, apart := false }
def FnExactNextChannelSaid : Prop := fnExactNextChannelRow.holds Try.pinned (OpenSpec.ofChange fnExactNextChannelSpec)

/-- ITS FALSE NEIGHBOUR: 'it returns false'. Refute it at one input. -/
def fnExactNextChannelWrong : ChangeSpec := { name := "fnExactNextChannel", fn := fun _ => fun
  | [d1, d2] => { results := [.lit (.bool false)], args := [d1, d2] }
  | _ => none }
def FnExactNextChannelWrongFalsely : Prop := fnExactNextChannelRow.holds Try.pinned (OpenSpec.ofChange fnExactNextChannelWrong)

/-- 'laws.FnExactFlipChannel': WHATEVER THE INPUT: true; the input reads as it did. -/
def fnExactFlipChannelSpec : ChangeSpec := { name := "fnExactFlipChannel", fn := fun _ => fun
  | [d1, d2] => { results := [.lit (.bool true)], args := [d1, d2] }
  | _ => none }
def fnExactFlipChannelRow : OpenClaim := { program := "ytlahmdnlamifnaa", sum := "51e7698949c2f798904c6a1a45bf1d2df912e4fc5e4d1dccd073fa47f23bc4aa", func := "loop.example/g01364/laws.FnExactFlipChannel", spec := "fnExactFlipChannel", unfollowed := true, recurses := true, apart := false }
def FnExactFlipChannelSaid : Prop := fnExactFlipChannelRow.holds Try.pinned (OpenSpec.ofChange fnExactFlipChannelSpec)

/-- ITS FALSE NEIGHBOUR: 'it returns false'. Refute it at one input. -/
def fnExactFlipChannelWrong : ChangeSpec := { name := "fnExactFlipChannel", fn := fun _ => fun
  | [d1, d2] => { results := [.lit (.bool false)], args := [d1, d2] }
  | _ => none }
def FnExactFlipChannelWrongFalsely : Prop := fnExactFlipChannelRow.holds Try.pinned (OpenSpec.ofChange fnExactFlipChannelWrong)

/-- 'laws.FnExactSideChannels': WHATEVER THE INPUT: true; the input reads as it did. -/
def fnExactSideChannelsSpec : ChangeSpec := { name := "fnExactSideChannels", fn := fun _ => fun
  | [d1, d2] => { results := [.lit (.bool true)], args := [d1, d2] }
  | _ => none }
def fnExactSideChannelsRow : OpenClaim := { program := "ytlahmdnlamifnaa", sum := "51e7698949c2f798904c6a1a45bf1d2df912e4fc5e4d1dccd073fa47f23bc4aa", func := "loop.example/g01364/laws.FnExactSideChannels", spec := "fnExactSideChannels", unfollowed := true, recurses := true, apart := false }
def FnExactSideChannelsSaid : Prop := fnExactSideChannelsRow.holds Try.pinned (OpenSpec.ofChange fnExactSideChannelsSpec)

/-- ITS FALSE NEIGHBOUR: 'it returns false'. Refute it at one input. -/
def fnExactSideChannelsWrong : ChangeSpec := { name := "fnExactSideChannels", fn := fun _ => fun
  | [d1, d2] => { results := [.lit (.bool false)], args := [d1, d2] }
  | _ => none }
def FnExactSideChannelsWrongFalsely : Prop := fnExactSideChannelsRow.holds Try.pinned (OpenSpec.ofChange fnExactSideChannelsWrong)

/-- 'laws.FnExactJointOf': WHATEVER THE INPUT: true; the input reads as it did. -/
def fnExactJointOfSpec : ChangeSpec := { name := "fnExactJointOf", fn := fun _ => fun
  | [d1, d2] => { results := [.lit (.bool true)], args := [d1, d2] }
  | _ => none }
def fnExactJointOfRow : OpenClaim := { program := "ytlahmdnlamifnaa", sum := "51e7698949c2f798904c6a1a45bf1d2df912e4fc5e4d1dccd073fa47f23bc4aa", func := "loop.example/g01364/laws.FnExactJointOf", spec := "fnExactJointOf", apart := false }
def FnExactJointOfSaid : Prop := fnExactJointOfRow.holds Try.pinned (OpenSpec.ofChange fnExactJointOfSpec)

/-- ITS FALSE NEIGHBOUR: 'it returns false'. Refute it at one input. -/
def fnExactJointOfWrong : ChangeSpec := { name := "fnExactJointOf", fn := fun _ => fun
  | [d1, d2] => { results := [.lit (.bool false)], args := [d1, d2] }
  | _ => none }
def FnExactJointOfWrongFalsely : Prop := fnExactJointOfRow.holds Try.pinned (OpenSpec.ofChange fnExactJointOfWrong)

/-- 'laws.FnExactEntropiesShared': WHATEVER THE INPUT: true; the input reads as it did. -/
def fnExactEntropiesSharedSpec : ChangeSpec := { name := "fnExactEntropiesShared", fn := fun _ => fun
  | [d1, d2] => { results := [.lit (.bool true)], args := [d1, d2] }
  | _ => none }
def fnExactEntropiesSharedRow : OpenClaim := { program := "ytlahmdnlamifnaa", sum := "51e7698949c2f798904c6a1a45bf1d2df912e4fc5e4d1dccd073fa47f23bc4aa", func := "loop.example/g01364/laws.FnExactEntropiesShared", spec := "fnExactEntropiesShared", inPlace := ["math.Float64frombits", "math.Float64bits"], apart := false }
def FnExactEntropiesSharedSaid : Prop := fnExactEntropiesSharedRow.holds Try.pinned (OpenSpec.ofChange fnExactEntropiesSharedSpec)

/-- ITS FALSE NEIGHBOUR: 'it returns false'. Refute it at one input. -/
def fnExactEntropiesSharedWrong : ChangeSpec := { name := "fnExactEntropiesShared", fn := fun _ => fun
  | [d1, d2] => { results := [.lit (.bool false)], args := [d1, d2] }
  | _ => none }
def FnExactEntropiesSharedWrongFalsely : Prop := fnExactEntropiesSharedRow.holds Try.pinned (OpenSpec.ofChange fnExactEntropiesSharedWrong)

/-- 'laws.FnExactFarBits': WHATEVER THE INPUT: true; the input reads as it did. -/
def fnExactFarBitsSpec : ChangeSpec := { name := "fnExactFarBits", fn := fun _ => fun
  | [d1, d2, d3] => { results := [.lit (.bool true)], args := [d1, d2, d3] }
  | _ => none }
def fnExactFarBitsRow : OpenClaim := { program := "ytlahmdnlamifnaa", sum := "51e7698949c2f798904c6a1a45bf1d2df912e4fc5e4d1dccd073fa47f23bc4aa", func := "loop.example/g01364/laws.FnExactFarBits", spec := "fnExactFarBits", inPlace := ["math.Float64frombits", "math.Float64bits"], unfollowed := true, recurses := true, apart := false }
def FnExactFarBitsSaid : Prop := fnExactFarBitsRow.holds Try.pinned (OpenSpec.ofChange fnExactFarBitsSpec)

/-- ITS FALSE NEIGHBOUR: 'it returns false'. Refute it at one input. -/
def fnExactFarBitsWrong : ChangeSpec := { name := "fnExactFarBits", fn := fun _ => fun
  | [d1, d2, d3] => { results := [.lit (.bool false)], args := [d1, d2, d3] }
  | _ => none }
def FnExactFarBitsWrongFalsely : Prop := fnExactFarBitsRow.holds Try.pinned (OpenSpec.ofChange fnExactFarBitsWrong)

/-- 'laws.FnExactFarthestBits': WHATEVER THE INPUT: true; the input reads as it did. -/
def fnExactFarthestBitsSpec : ChangeSpec := { name := "fnExactFarthestBits", fn := fun _ => fun
  | [d1, d2] => { results := [.lit (.bool true)], args := [d1, d2] }
  | _ => none }
def fnExactFarthestBitsRow : OpenClaim := { program := "ytlahmdnlamifnaa", sum := "51e7698949c2f798904c6a1a45bf1d2df912e4fc5e4d1dccd073fa47f23bc4aa", func := "loop.example/g01364/laws.FnExactFarthestBits", spec := "fnExactFarthestBits", inPlace := ["math.Float64frombits", "math.Float64bits"], unfollowed := true, recurses := true, apart := false }
def FnExactFarthestBitsSaid : Prop := fnExactFarthestBitsRow.holds Try.pinned (OpenSpec.ofChange fnExactFarthestBitsSpec)

/-- ITS FALSE NEIGHBOUR: 'it returns false'. Refute it at one input. -/
def fnExactFarthestBitsWrong : ChangeSpec := { name := "fnExactFarthestBits", fn := fun _ => fun
  | [d1, d2] => { results := [.lit (.bool false)], args := [d1, d2] }
  | _ => none }
def FnExactFarthestBitsWrongFalsely : Prop := fnExactFarthestBitsRow.holds Try.pinned (OpenSpec.ofChange fnExactFarthestBitsWrong)

/- THE SECOND FORM. 'bulk': how many values and letters a reading holds, each counted each time it is reached (what is shared counts as often as it is met; a slice's spare places count too). A statement '..UptoSaid' is the law's where the arguments, and the package variables that the reading takes, are together of bulk at most 1048576: NARROWER than '..Said'. Prove '..Said' where nothing that the law and all that it calls make is longer than what came in: it says more and counts as full. Else prove '..UptoSaid'. A law counts once. -/
mutual
def uptoBulk {H : Type} : DataW H → Nat
  | .lit (.string bytes) => bytes.length + 1
  | .lit _ => 1
  | .nil => 1
  | .ptr d => uptoBulk d + 1
  | .slice elems spare => uptoBulkAll elems + uptoBulkAll spare + 1
  | .agg parts => uptoBulkAll parts + 1
  | .iface _ d => uptoBulk d + 1
  | .map entries => uptoBulkEntries entries + 1
  | .held _ => 1
def uptoBulkAll {H : Type} : List (DataW H) → Nat
  | [] => 0
  | d :: r => uptoBulk d + uptoBulkAll r
def uptoBulkEntries {H : Type} : List (Lit × DataW H) → Nat
  | [] => 0
  | x :: r => uptoBulkEntry x + uptoBulkEntries r
def uptoBulkEntry {H : Type} : Lit × DataW H → Nat
  | (.string bytes, d) => bytes.length + uptoBulk d + 1
  | (_, d) => uptoBulk d + 1
 end
def uptoSmall : (H : Type) → List (DataW H) → Bool := fun _ ds => decide (uptoBulkAll ds ≤ 1048576)
def OpenSpec.upto (s : _root_.Go.ChangeSpec) : _root_.Go.OpenSpec := { _root_.Go.OpenSpec.ofChange s with cond := some uptoSmall }

/-- 'laws.FnExactLoseChannel', WHERE WHAT IT READS IS OF BULK AT MOST 1048576: true; the input reads as it did. -/
def fnExactLoseChannelUptoRow : OpenClaim := { program := "ytlahmdnlamifnaa", sum := "51e7698949c2f798904c6a1a45bf1d2df912e4fc5e4d1dccd073fa47f23bc4aa", func := "loop.example/g01364/laws.FnExactLoseChannel", spec := "fnExactLoseChannel", unfollowed := true, recurses := true, apart := false, narrowed := true }
def FnExactLoseChannelUptoSaid : Prop := fnExactLoseChannelUptoRow.holds Try.pinned (OpenSpec.upto fnExactLoseChannelSpec)

/-- 'laws.FnExactNextChannel', WHERE WHAT IT READS IS OF BULK AT MOST 1048576: true; the input reads as it did. -/
def fnExactNextChannelUptoRow : OpenClaim := { program := "ytlahmdnlamifnaa", sum := "51e7698949c2f798904c6a1a45bf1d2df912e4fc5e4d1dccd073fa47f23bc4aa", func := "loop.example/g01364/laws.FnExactNextChannel", spec := "fnExactNextChannel", unfollowed := true, recurses := true, apart := false, narrowed := true }
def FnExactNextChannelUptoSaid : Prop := fnExactNextChannelUptoRow.holds Try.pinned (OpenSpec.upto fnExactNextChannelSpec)

/-- 'laws.FnExactFlipChannel', WHERE WHAT IT READS IS OF BULK AT MOST 1048576: true; the input reads as it did. -/
def fnExactFlipChannelUptoRow : OpenClaim := { program := "ytlahmdnlamifnaa", sum := "51e7698949c2f798904c6a1a45bf1d2df912e4fc5e4d1dccd073fa47f23bc4aa", func := "loop.example/g01364/laws.FnExactFlipChannel", spec := "fnExactFlipChannel", unfollowed := true, recurses := true, apart := false, narrowed := true }
def FnExactFlipChannelUptoSaid : Prop := fnExactFlipChannelUptoRow.holds Try.pinned (OpenSpec.upto fnExactFlipChannelSpec)

/-- 'laws.FnExactSideChannels', WHERE WHAT IT READS IS OF BULK AT MOST 1048576: true; the input reads as it did. -/
def fnExactSideChannelsUptoRow : OpenClaim := { program := "ytlahmdnlamifnaa", sum := "51e7698949c2f798904c6a1a45bf1d2df912e4fc5e4d1dccd073fa47f23bc4aa", func := "loop.example/g01364/laws.FnExactSideChannels", spec := "fnExactSideChannels", unfollowed := true, recurses := true, apart := false, narrowed := true }
def FnExactSideChannelsUptoSaid : Prop := fnExactSideChannelsUptoRow.holds Try.pinned (OpenSpec.upto fnExactSideChannelsSpec)

/-- 'laws.FnExactJointOf', WHERE WHAT IT READS IS OF BULK AT MOST 1048576: true; the input reads as it did. -/
def fnExactJointOfUptoRow : OpenClaim := { program := "ytlahmdnlamifnaa", sum := "51e7698949c2f798904c6a1a45bf1d2df912e4fc5e4d1dccd073fa47f23bc4aa", func := "loop.example/g01364/laws.FnExactJointOf", spec := "fnExactJointOf", apart := false, narrowed := true }
def FnExactJointOfUptoSaid : Prop := fnExactJointOfUptoRow.holds Try.pinned (OpenSpec.upto fnExactJointOfSpec)

/-- 'laws.FnExactEntropiesShared', WHERE WHAT IT READS IS OF BULK AT MOST 1048576: true; the input reads as it did. -/
def fnExactEntropiesSharedUptoRow : OpenClaim := { program := "ytlahmdnlamifnaa", sum := "51e7698949c2f798904c6a1a45bf1d2df912e4fc5e4d1dccd073fa47f23bc4aa", func := "loop.example/g01364/laws.FnExactEntropiesShared", spec := "fnExactEntropiesShared", inPlace := ["math.Float64frombits", "math.Float64bits"], apart := false, narrowed := true }
def FnExactEntropiesSharedUptoSaid : Prop := fnExactEntropiesSharedUptoRow.holds Try.pinned (OpenSpec.upto fnExactEntropiesSharedSpec)

/-- 'laws.FnExactFarBits', WHERE WHAT IT READS IS OF BULK AT MOST 1048576: true; the input reads as it did. -/
def fnExactFarBitsUptoRow : OpenClaim := { program := "ytlahmdnlamifnaa", sum := "51e7698949c2f798904c6a1a45bf1d2df912e4fc5e4d1dccd073fa47f23bc4aa", func := "loop.example/g01364/laws.FnExactFarBits", spec := "fnExactFarBits", inPlace := ["math.Float64frombits", "math.Float64bits"], unfollowed := true, recurses := true, apart := false, narrowed := true }
def FnExactFarBitsUptoSaid : Prop := fnExactFarBitsUptoRow.holds Try.pinned (OpenSpec.upto fnExactFarBitsSpec)

/-- 'laws.FnExactFarthestBits', WHERE WHAT IT READS IS OF BULK AT MOST 1048576: true; the input reads as it did. -/
def fnExactFarthestBitsUptoRow : OpenClaim := { program := "ytlahmdnlamifnaa", sum := "51e7698949c2f798904c6a1a45bf1d2df912e4fc5e4d1dccd073fa47f23bc4aa", func := "loop.example/g01364/laws.FnExactFarthestBits", spec := "fnExactFarthestBits", inPlace := ["math.Float64frombits", "math.Float64bits"], unfollowed := true, recurses := true, apart := false, narrowed := true }
def FnExactFarthestBitsUptoSaid : Prop := fnExactFarthestBitsUptoRow.holds Try.pinned (OpenSpec.upto fnExactFarthestBitsSpec)

end Rows
end Go.Proofs.Ytlahmdnlamifnaa
