/-
  No cell of these rows narrows 'for every input' (looked for: loops, veiled, ifaces, maps, wideKeys, modest, calm, conditions, laid).
  DERIVED. THE GIVEN ROWS OF THIS SEAT. 6 by the template 'for every input the law returns true; each argument reads behind the call as it read before'; 0 by the template 'total and deterministic' (their statements: YtjobgobeiiakgaaTotals.lean).
  GIVEN WITH THE SEED: the statements are not yours to turn. If you find one false, say at which input.
  Laid BY PROGRAM, IN A SANDBOX (cutbox-rows.mjs): the forced cells as the released guide's own fill.sh prints them over the translation 6c68bbc501687189… (all of the seat's roots in one cut). By AI agents, Wed Nov 11 2026. No macro, syntax, notation, axiom, sorry.
-/
import Derived.Test.YtjobgobeiiakgaaChecked
import GoSem.Claim
import GoSem.ClaimJoined
import GoSem.ClaimMapViews
import Derived.JoinedTies
import Derived.KernelRfl
namespace Go.Proofs.Ytjobgobeiiakgaa
/- THE CELL 'sum', in the pinned program and in every row, IS THE sha256 OF THE DUMP (.gsa) THAT YtjobgobeiiakgaaProg.lean LOADS. Nothing in Lean hashes anything: it is a label: what it is worth is what the hold of that sum in a sandbox is worth. -/
noncomputable def Try.pinned : Pinned := { name := "ytjobgobeiiakgaa", sum := "6c68bbc501687189d9f345fe9f052464f51c6daf942a9c77bc443a9518433f7a", checked := Try.checked }
namespace Rows
def none {H : Type} : Left H := { results := [], args := [] }

/-- 'laws.FnExactTurnsOf': WHATEVER THE INPUT: true; the input reads as it did. -/
def fnExactTurnsOfSpec : ChangeSpec := { name := "fnExactTurnsOf", fn := fun _ => fun
  | [d] => { results := [.lit (.bool true)], args := [d] }
  | _ => none }
def fnExactTurnsOfRow : OpenClaim := { program := "ytjobgobeiiakgaa", sum := "6c68bbc501687189d9f345fe9f052464f51c6daf942a9c77bc443a9518433f7a", func := "loop.example/g01364/laws.FnExactTurnsOf", spec := "fnExactTurnsOf", unfollowed := true, recurses := true, apart := false }
def FnExactTurnsOfSaid : Prop := fnExactTurnsOfRow.holds Try.pinned (OpenSpec.ofChange fnExactTurnsOfSpec)

/-- ITS FALSE NEIGHBOUR: 'it returns false'. Refute it at one input. -/
def fnExactTurnsOfWrong : ChangeSpec := { name := "fnExactTurnsOf", fn := fun _ => fun
  | [d] => { results := [.lit (.bool false)], args := [d] }
  | _ => none }
def FnExactTurnsOfWrongFalsely : Prop := fnExactTurnsOfRow.holds Try.pinned (OpenSpec.ofChange fnExactTurnsOfWrong)

/-- 'laws.FnExactBackOfTurns': WHATEVER THE INPUT: true; the input reads as it did. -/
def fnExactBackOfTurnsSpec : ChangeSpec := { name := "fnExactBackOfTurns", fn := fun _ => fun
  | [d1, d2] => { results := [.lit (.bool true)], args := [d1, d2] }
  | _ => none }
def fnExactBackOfTurnsRow : OpenClaim := { program := "ytjobgobeiiakgaa", sum := "6c68bbc501687189d9f345fe9f052464f51c6daf942a9c77bc443a9518433f7a", func := "loop.example/g01364/laws.FnExactBackOfTurns", spec := "fnExactBackOfTurns", unfollowed := true, recurses := true, apart := false }
def FnExactBackOfTurnsSaid : Prop := fnExactBackOfTurnsRow.holds Try.pinned (OpenSpec.ofChange fnExactBackOfTurnsSpec)

/-- ITS FALSE NEIGHBOUR: 'it returns false'. Refute it at one input. -/
def fnExactBackOfTurnsWrong : ChangeSpec := { name := "fnExactBackOfTurns", fn := fun _ => fun
  | [d1, d2] => { results := [.lit (.bool false)], args := [d1, d2] }
  | _ => none }
def FnExactBackOfTurnsWrongFalsely : Prop := fnExactBackOfTurnsRow.holds Try.pinned (OpenSpec.ofChange fnExactBackOfTurnsWrong)

/-- 'laws.FnExactIsMoreEven': WHATEVER THE INPUT: true; the input reads as it did. -/
def fnExactIsMoreEvenSpec : ChangeSpec := { name := "fnExactIsMoreEven", fn := fun _ => fun
  | [d1, d2] => { results := [.lit (.bool true)], args := [d1, d2] }
  | _ => none }
def fnExactIsMoreEvenRow : OpenClaim := { program := "ytjobgobeiiakgaa", sum := "6c68bbc501687189d9f345fe9f052464f51c6daf942a9c77bc443a9518433f7a", func := "loop.example/g01364/laws.FnExactIsMoreEven", spec := "fnExactIsMoreEven", unfollowed := true, recurses := true, apart := false }
def FnExactIsMoreEvenSaid : Prop := fnExactIsMoreEvenRow.holds Try.pinned (OpenSpec.ofChange fnExactIsMoreEvenSpec)

/-- ITS FALSE NEIGHBOUR: 'it returns false'. Refute it at one input. -/
def fnExactIsMoreEvenWrong : ChangeSpec := { name := "fnExactIsMoreEven", fn := fun _ => fun
  | [d1, d2] => { results := [.lit (.bool false)], args := [d1, d2] }
  | _ => none }
def FnExactIsMoreEvenWrongFalsely : Prop := fnExactIsMoreEvenRow.holds Try.pinned (OpenSpec.ofChange fnExactIsMoreEvenWrong)

/-- 'laws.FnExactTestErrors': WHATEVER THE INPUT: true; the input reads as it did. -/
def fnExactTestErrorsSpec : ChangeSpec := { name := "fnExactTestErrors", fn := fun _ => fun
  | [d1, d2, d3, d4] => { results := [.lit (.bool true)], args := [d1, d2, d3, d4] }
  | _ => none }
def fnExactTestErrorsRow : OpenClaim := { program := "ytjobgobeiiakgaa", sum := "6c68bbc501687189d9f345fe9f052464f51c6daf942a9c77bc443a9518433f7a", func := "loop.example/g01364/laws.FnExactTestErrors", spec := "fnExactTestErrors", inPlace := ["math.Float64frombits", "math.Float64bits"], unfollowed := true, recurses := true, apart := false }
def FnExactTestErrorsSaid : Prop := fnExactTestErrorsRow.holds Try.pinned (OpenSpec.ofChange fnExactTestErrorsSpec)

/-- ITS FALSE NEIGHBOUR: 'it returns false'. Refute it at one input. -/
def fnExactTestErrorsWrong : ChangeSpec := { name := "fnExactTestErrors", fn := fun _ => fun
  | [d1, d2, d3, d4] => { results := [.lit (.bool false)], args := [d1, d2, d3, d4] }
  | _ => none }
def FnExactTestErrorsWrongFalsely : Prop := fnExactTestErrorsRow.holds Try.pinned (OpenSpec.ofChange fnExactTestErrorsWrong)

/-- 'laws.FnExactIsFair': WHATEVER THE INPUT: true; the input reads as it did. -/
def fnExactIsFairSpec : ChangeSpec := { name := "fnExactIsFair", fn := fun _ => fun
  | [d] => { results := [.lit (.bool true)], args := [d] }
  | _ => none }
def fnExactIsFairRow : OpenClaim := { program := "ytjobgobeiiakgaa", sum := "6c68bbc501687189d9f345fe9f052464f51c6daf942a9c77bc443a9518433f7a", func := "loop.example/g01364/laws.FnExactIsFair", spec := "fnExactIsFair", unfollowed := true, recurses := true, apart := false }
def FnExactIsFairSaid : Prop := fnExactIsFairRow.holds Try.pinned (OpenSpec.ofChange fnExactIsFairSpec)

/-- ITS FALSE NEIGHBOUR: 'it returns false'. Refute it at one input. -/
def fnExactIsFairWrong : ChangeSpec := { name := "fnExactIsFair", fn := fun _ => fun
  | [d] => { results := [.lit (.bool false)], args := [d] }
  | _ => none }
def FnExactIsFairWrongFalsely : Prop := fnExactIsFairRow.holds Try.pinned (OpenSpec.ofChange fnExactIsFairWrong)

/-- 'laws.FnTypes': WHATEVER THE INPUT: true; the input reads as it did. -/
def fnTypesSpec : ChangeSpec := { name := "fnTypes", fn := fun _ => fun
  | [d1, d2] => { results := [.lit (.bool true)], args := [d1, d2] }
  | _ => none }
def fnTypesRow : OpenClaim := { program := "ytjobgobeiiakgaa", sum := "6c68bbc501687189d9f345fe9f052464f51c6daf942a9c77bc443a9518433f7a", func := "loop.example/g01364/laws.FnTypes", spec := "fnTypes", apart := false }
def FnTypesSaid : Prop := fnTypesRow.holds Try.pinned (OpenSpec.ofChange fnTypesSpec)

/-- ITS FALSE NEIGHBOUR: 'it returns false'. Refute it at one input. -/
def fnTypesWrong : ChangeSpec := { name := "fnTypes", fn := fun _ => fun
  | [d1, d2] => { results := [.lit (.bool false)], args := [d1, d2] }
  | _ => none }
def FnTypesWrongFalsely : Prop := fnTypesRow.holds Try.pinned (OpenSpec.ofChange fnTypesWrong)

/- THE SECOND FORM. 'bulk': how many values and letters a reading holds, each counted each time it is reached (what is shared counts as often as it is met; a slice's spare places count too). A statement '..UptoSaid' is the law's where the arguments, and the package variables that the reading takes, are together of bulk at most 1048576: NARROWER than '..Said'. Prove '..Said' where nothing that the law and all that it calls make is longer than what came in: it says more and counts as full. Else prove '..UptoSaid'. A law counts once. -/
mutual
def uptoBulk {H : Type} : DataW H → Nat
  | .lit (.string bytes) => bytes.length + 1
  | .lit _ => 1
  | .nil => 1
  | .ptr d => uptoBulk d + 1
  | .slice elems spare => uptoBulkAll elems + uptoBulkAll spare + 1
  | .agg parts => uptoBulkAll parts + 1
  | .iface _ d => uptoBulk d + 1
  | .map entries => uptoBulkEntries entries + 1
  | .held _ => 1
def uptoBulkAll {H : Type} : List (DataW H) → Nat
  | [] => 0
  | d :: r => uptoBulk d + uptoBulkAll r
def uptoBulkEntries {H : Type} : List (Lit × DataW H) → Nat
  | [] => 0
  | x :: r => uptoBulkEntry x + uptoBulkEntries r
def uptoBulkEntry {H : Type} : Lit × DataW H → Nat
  | (.string bytes, d) => bytes.length + uptoBulk d + 1
  | (_, d) => uptoBulk d + 1
 end
def uptoSmall : (H : Type) → List (DataW H) → Bool := fun _ ds => decide (uptoBulkAll ds ≤ 1048576)
def OpenSpec.upto (s : _root_.Go.ChangeSpec) : _root_.Go.OpenSpec := { _root_.Go.OpenSpec.ofChange s with cond := some uptoSmall }

/-- 'laws.FnExactTurnsOf', WHERE WHAT IT READS IS OF BULK AT MOST 1048576: true; the input reads as it did. -/
def fnExactTurnsOfUptoRow : OpenClaim := { program := "ytjobgobeiiakgaa", sum := "6c68bbc501687189d9f345fe9f052464f51c6daf942a9c77bc443a9518433f7a", func := "loop.example/g01364/laws.FnExactTurnsOf", spec := "fnExactTurnsOf", unfollowed := true, recurses := true, apart := false, narrowed := true }
def FnExactTurnsOfUptoSaid : Prop := fnExactTurnsOfUptoRow.holds Try.pinned (OpenSpec.upto fnExactTurnsOfSpec)

/-- 'laws.FnExactBackOfTurns', WHERE WHAT IT READS IS OF BULK AT MOST 1048576: true; the input reads as it did. -/
def fnExactBackOfTurnsUptoRow : OpenClaim := { program := "ytjobgobeiiakgaa", sum := "6c68bbc501687189d9f345fe9f052464f51c6daf942a9c77bc443a9518433f7a", func := "loop.example/g01364/laws.FnExactBackOfTurns", spec := "fnExactBackOfTurns", unfollowed := true, recurses := true, apart := false, narrowed := true }
def FnExactBackOfTurnsUptoSaid : Prop := fnExactBackOfTurnsUptoRow.holds Try.pinned (OpenSpec.upto fnExactBackOfTurnsSpec)

/-- 'laws.FnExactIsMoreEven', WHERE WHAT IT READS IS OF BULK AT MOST 1048576: true; the input reads as it did. -/
def fnExactIsMoreEvenUptoRow : OpenClaim := { program := "ytjobgobeiiakgaa", sum := "6c68bbc501687189d9f345fe9f052464f51c6daf942a9c77bc443a9518433f7a", func := "loop.example/g01364/laws.FnExactIsMoreEven", spec := "fnExactIsMoreEven", unfollowed := true, recurses := true, apart := false, narrowed := true }
def FnExactIsMoreEvenUptoSaid : Prop := fnExactIsMoreEvenUptoRow.holds Try.pinned (OpenSpec.upto fnExactIsMoreEvenSpec)

/-- 'laws.FnExactTestErrors', WHERE WHAT IT READS IS OF BULK AT MOST 1048576: true; the input reads as it did. -/
def fnExactTestErrorsUptoRow : OpenClaim := { program := "ytjobgobeiiakgaa", sum := "6c68bbc501687189d9f345fe9f052464f51c6daf942a9c77bc443a9518433f7a", func := "loop.example/g01364/laws.FnExactTestErrors", spec := "fnExactTestErrors", inPlace := ["math.Float64frombits", "math.Float64bits"], unfollowed := true, recurses := true, apart := false, narrowed := true }
def FnExactTestErrorsUptoSaid : Prop := fnExactTestErrorsUptoRow.holds Try.pinned (OpenSpec.upto fnExactTestErrorsSpec)

/-- 'laws.FnExactIsFair', WHERE WHAT IT READS IS OF BULK AT MOST 1048576: true; the input reads as it did. -/
def fnExactIsFairUptoRow : OpenClaim := { program := "ytjobgobeiiakgaa", sum := "6c68bbc501687189d9f345fe9f052464f51c6daf942a9c77bc443a9518433f7a", func := "loop.example/g01364/laws.FnExactIsFair", spec := "fnExactIsFair", unfollowed := true, recurses := true, apart := false, narrowed := true }
def FnExactIsFairUptoSaid : Prop := fnExactIsFairUptoRow.holds Try.pinned (OpenSpec.upto fnExactIsFairSpec)

/-- 'laws.FnTypes', WHERE WHAT IT READS IS OF BULK AT MOST 1048576: true; the input reads as it did. -/
def fnTypesUptoRow : OpenClaim := { program := "ytjobgobeiiakgaa", sum := "6c68bbc501687189d9f345fe9f052464f51c6daf942a9c77bc443a9518433f7a", func := "loop.example/g01364/laws.FnTypes", spec := "fnTypes", apart := false, narrowed := true }
def FnTypesUptoSaid : Prop := fnTypesUptoRow.holds Try.pinned (OpenSpec.upto fnTypesSpec)

end Rows
end Go.Proofs.Ytjobgobeiiakgaa
