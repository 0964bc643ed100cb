/-
  No cell of these rows narrows 'for every input' (looked for: loops, veiled, ifaces, maps, wideKeys, modest, calm, conditions, laid).
  DERIVED. THE GIVEN ROWS OF THIS SEAT. 5 by the template 'for every input the law returns true; each argument reads behind the call as it read before'; 0 by the template 'total and deterministic' (their statements: YtmocfnpbofeiiaaTotals.lean).
  GIVEN WITH THE SEED: the statements are not yours to turn. If you find one false, say at which input.
  Laid BY PROGRAM, IN A SANDBOX (cutbox-rows.mjs): the forced cells as the released guide's own fill.sh prints them over the translation bb19290d93785e27… (all of the seat's roots in one cut). By AI agents, Wed Nov 11 2026. No macro, syntax, notation, axiom, sorry.
-/
import Derived.Test.YtmocfnpbofeiiaaChecked
import GoSem.Claim
import GoSem.ClaimJoined
import GoSem.ClaimMapViews
import Derived.JoinedTies
import Derived.KernelRfl
namespace Go.Proofs.Ytmocfnpbofeiiaa
/- THE CELL 'sum', in the pinned program and in every row, IS THE sha256 OF THE DUMP (.gsa) THAT YtmocfnpbofeiiaaProg.lean LOADS. Nothing in Lean hashes anything: it is a label: what it is worth is what the hold of that sum in a sandbox is worth. -/
noncomputable def Try.pinned : Pinned := { name := "ytmocfnpbofeiiaa", sum := "bb19290d93785e276a6d88617ee91ca0efa5e5b3df551ca6ecf78e2ed027d28a", checked := Try.checked }
namespace Rows
def none {H : Type} : Left H := { results := [], args := [] }

/-- 'laws.FnTypes': WHATEVER THE INPUT: true; the input reads as it did. -/
def fnTypesSpec : ChangeSpec := { name := "fnTypes", fn := fun _ => fun
  | [d1, d2] => { results := [.lit (.bool true)], args := [d1, d2] }
  | _ => none }
def fnTypesRow : OpenClaim := { program := "ytmocfnpbofeiiaa", sum := "bb19290d93785e276a6d88617ee91ca0efa5e5b3df551ca6ecf78e2ed027d28a", func := "loop.example/g01364/laws.FnTypes", spec := "fnTypes", apart := false }
def FnTypesSaid : Prop := fnTypesRow.holds Try.pinned (OpenSpec.ofChange fnTypesSpec)

/-- ITS FALSE NEIGHBOUR: 'it returns false'. Refute it at one input. -/
def fnTypesWrong : ChangeSpec := { name := "fnTypes", fn := fun _ => fun
  | [d1, d2] => { results := [.lit (.bool false)], args := [d1, d2] }
  | _ => none }
def FnTypesWrongFalsely : Prop := fnTypesRow.holds Try.pinned (OpenSpec.ofChange fnTypesWrong)

/-- 'laws.FnTests': WHATEVER THE INPUT: true; the input reads as it did. -/
def fnTestsSpec : ChangeSpec := { name := "fnTests", fn := fun _ => fun
  | [d1, d2] => { results := [.lit (.bool true)], args := [d1, d2] }
  | _ => none }
def fnTestsRow : OpenClaim := { program := "ytmocfnpbofeiiaa", sum := "bb19290d93785e276a6d88617ee91ca0efa5e5b3df551ca6ecf78e2ed027d28a", func := "loop.example/g01364/laws.FnTests", spec := "fnTests", inPlace := ["math.Float64frombits"], unfollowed := true, recurses := true, apart := false }
def FnTestsSaid : Prop := fnTestsRow.holds Try.pinned (OpenSpec.ofChange fnTestsSpec)

/-- ITS FALSE NEIGHBOUR: 'it returns false'. Refute it at one input. -/
def fnTestsWrong : ChangeSpec := { name := "fnTests", fn := fun _ => fun
  | [d1, d2] => { results := [.lit (.bool false)], args := [d1, d2] }
  | _ => none }
def FnTestsWrongFalsely : Prop := fnTestsRow.holds Try.pinned (OpenSpec.ofChange fnTestsWrong)

/-- 'laws.FnTables': WHATEVER THE INPUT: true; the input reads as it did. -/
def fnTablesSpec : ChangeSpec := { name := "fnTables", fn := fun _ => fun
  | [d1, d2] => { results := [.lit (.bool true)], args := [d1, d2] }
  | _ => none }
def fnTablesRow : OpenClaim := { program := "ytmocfnpbofeiiaa", sum := "bb19290d93785e276a6d88617ee91ca0efa5e5b3df551ca6ecf78e2ed027d28a", func := "loop.example/g01364/laws.FnTables", spec := "fnTables", inPlace := ["math.Float64frombits", "math.Float64bits"], unfollowed := true, recurses := true, apart := false }
def FnTablesSaid : Prop := fnTablesRow.holds Try.pinned (OpenSpec.ofChange fnTablesSpec)

/-- ITS FALSE NEIGHBOUR: 'it returns false'. Refute it at one input. -/
def fnTablesWrong : ChangeSpec := { name := "fnTables", fn := fun _ => fun
  | [d1, d2] => { results := [.lit (.bool false)], args := [d1, d2] }
  | _ => none }
def FnTablesWrongFalsely : Prop := fnTablesRow.holds Try.pinned (OpenSpec.ofChange fnTablesWrong)

/-- 'laws.FnGuessed': WHATEVER THE INPUT: true; the input reads as it did. -/
def fnGuessedSpec : ChangeSpec := { name := "fnGuessed", fn := fun _ => fun
  | [d1, d2] => { results := [.lit (.bool true)], args := [d1, d2] }
  | _ => none }
def fnGuessedRow : OpenClaim := { program := "ytmocfnpbofeiiaa", sum := "bb19290d93785e276a6d88617ee91ca0efa5e5b3df551ca6ecf78e2ed027d28a", func := "loop.example/g01364/laws.FnGuessed", spec := "fnGuessed", inPlace := ["math.Float64frombits", "math.Float64bits"], apart := false }
def FnGuessedSaid : Prop := fnGuessedRow.holds Try.pinned (OpenSpec.ofChange fnGuessedSpec)

/-- ITS FALSE NEIGHBOUR: 'it returns false'. Refute it at one input. -/
def fnGuessedWrong : ChangeSpec := { name := "fnGuessed", fn := fun _ => fun
  | [d1, d2] => { results := [.lit (.bool false)], args := [d1, d2] }
  | _ => none }
def FnGuessedWrongFalsely : Prop := fnGuessedRow.holds Try.pinned (OpenSpec.ofChange fnGuessedWrong)

/-- 'laws.FnEntropies': WHATEVER THE INPUT: true; the input reads as it did. -/
def fnEntropiesSpec : ChangeSpec := { name := "fnEntropies", fn := fun _ => fun
  | [d1, d2] => { results := [.lit (.bool true)], args := [d1, d2] }
  | _ => none }
def fnEntropiesRow : OpenClaim := { program := "ytmocfnpbofeiiaa", sum := "bb19290d93785e276a6d88617ee91ca0efa5e5b3df551ca6ecf78e2ed027d28a", func := "loop.example/g01364/laws.FnEntropies", spec := "fnEntropies", inPlace := ["math.Float64frombits", "math.sqrt"], unfollowed := true, recurses := true, apart := false }
def FnEntropiesSaid : Prop := fnEntropiesRow.holds Try.pinned (OpenSpec.ofChange fnEntropiesSpec)

/-- ITS FALSE NEIGHBOUR: 'it returns false'. Refute it at one input. -/
def fnEntropiesWrong : ChangeSpec := { name := "fnEntropies", fn := fun _ => fun
  | [d1, d2] => { results := [.lit (.bool false)], args := [d1, d2] }
  | _ => none }
def FnEntropiesWrongFalsely : Prop := fnEntropiesRow.holds Try.pinned (OpenSpec.ofChange fnEntropiesWrong)

/- THE SECOND FORM. 'bulk': how many values and letters a reading holds, each counted each time it is reached (what is shared counts as often as it is met; a slice's spare places count too). A statement '..UptoSaid' is the law's where the arguments, and the package variables that the reading takes, are together of bulk at most 1048576: NARROWER than '..Said'. Prove '..Said' where nothing that the law and all that it calls make is longer than what came in: it says more and counts as full. Else prove '..UptoSaid'. A law counts once. -/
mutual
def uptoBulk {H : Type} : DataW H → Nat
  | .lit (.string bytes) => bytes.length + 1
  | .lit _ => 1
  | .nil => 1
  | .ptr d => uptoBulk d + 1
  | .slice elems spare => uptoBulkAll elems + uptoBulkAll spare + 1
  | .agg parts => uptoBulkAll parts + 1
  | .iface _ d => uptoBulk d + 1
  | .map entries => uptoBulkEntries entries + 1
  | .held _ => 1
def uptoBulkAll {H : Type} : List (DataW H) → Nat
  | [] => 0
  | d :: r => uptoBulk d + uptoBulkAll r
def uptoBulkEntries {H : Type} : List (Lit × DataW H) → Nat
  | [] => 0
  | x :: r => uptoBulkEntry x + uptoBulkEntries r
def uptoBulkEntry {H : Type} : Lit × DataW H → Nat
  | (.string bytes, d) => bytes.length + uptoBulk d + 1
  | (_, d) => uptoBulk d + 1
 end
def uptoSmall : (H : Type) → List (DataW H) → Bool := fun _ ds => decide (uptoBulkAll ds ≤ 1048576)
def OpenSpec.upto (s : _root_.Go.ChangeSpec) : _root_.Go.OpenSpec := { _root_.Go.OpenSpec.ofChange s with cond := some uptoSmall }

/-- 'laws.FnTypes', WHERE WHAT IT READS IS OF BULK AT MOST 1048576: true; the input reads as it did. -/
def fnTypesUptoRow : OpenClaim := { program := "ytmocfnpbofeiiaa", sum := "bb19290d93785e276a6d88617ee91ca0efa5e5b3df551ca6ecf78e2ed027d28a", func := "loop.example/g01364/laws.FnTypes", spec := "fnTypes", apart := false, narrowed := true }
def FnTypesUptoSaid : Prop := fnTypesUptoRow.holds Try.pinned (OpenSpec.upto fnTypesSpec)

/-- 'laws.FnTests', WHERE WHAT IT READS IS OF BULK AT MOST 1048576: true; the input reads as it did. -/
def fnTestsUptoRow : OpenClaim := { program := "ytmocfnpbofeiiaa", sum := "bb19290d93785e276a6d88617ee91ca0efa5e5b3df551ca6ecf78e2ed027d28a", func := "loop.example/g01364/laws.FnTests", spec := "fnTests", inPlace := ["math.Float64frombits"], unfollowed := true, recurses := true, apart := false, narrowed := true }
def FnTestsUptoSaid : Prop := fnTestsUptoRow.holds Try.pinned (OpenSpec.upto fnTestsSpec)

/-- 'laws.FnTables', WHERE WHAT IT READS IS OF BULK AT MOST 1048576: true; the input reads as it did. -/
def fnTablesUptoRow : OpenClaim := { program := "ytmocfnpbofeiiaa", sum := "bb19290d93785e276a6d88617ee91ca0efa5e5b3df551ca6ecf78e2ed027d28a", func := "loop.example/g01364/laws.FnTables", spec := "fnTables", inPlace := ["math.Float64frombits", "math.Float64bits"], unfollowed := true, recurses := true, apart := false, narrowed := true }
def FnTablesUptoSaid : Prop := fnTablesUptoRow.holds Try.pinned (OpenSpec.upto fnTablesSpec)

/-- 'laws.FnGuessed', WHERE WHAT IT READS IS OF BULK AT MOST 1048576: true; the input reads as it did. -/
def fnGuessedUptoRow : OpenClaim := { program := "ytmocfnpbofeiiaa", sum := "bb19290d93785e276a6d88617ee91ca0efa5e5b3df551ca6ecf78e2ed027d28a", func := "loop.example/g01364/laws.FnGuessed", spec := "fnGuessed", inPlace := ["math.Float64frombits", "math.Float64bits"], apart := false, narrowed := true }
def FnGuessedUptoSaid : Prop := fnGuessedUptoRow.holds Try.pinned (OpenSpec.upto fnGuessedSpec)

/-- 'laws.FnEntropies', WHERE WHAT IT READS IS OF BULK AT MOST 1048576: true; the input reads as it did. -/
def fnEntropiesUptoRow : OpenClaim := { program := "ytmocfnpbofeiiaa", sum := "bb19290d93785e276a6d88617ee91ca0efa5e5b3df551ca6ecf78e2ed027d28a", func := "loop.example/g01364/laws.FnEntropies", spec := "fnEntropies", inPlace := ["math.Float64frombits", "math.sqrt"], unfollowed := true, recurses := true, apart := false, narrowed := true }
def FnEntropiesUptoSaid : Prop := fnEntropiesUptoRow.holds Try.pinned (OpenSpec.upto fnEntropiesSpec)

end Rows
end Go.Proofs.Ytmocfnpbofeiiaa
