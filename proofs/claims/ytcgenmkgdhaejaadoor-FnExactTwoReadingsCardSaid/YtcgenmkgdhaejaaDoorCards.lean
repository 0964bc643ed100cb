/-
  DERIVED. GIVEN WITH THE SEED: THE CARDS: each row of YtcgenmkgdhaejaaDoorRows.lean that lists a variable, with what it lists TIED to the program's text (the seventh form; the later family's looks); each row that meets fmt, with fmt's text TOLD by the authors' own Lean function (tested against real Go, not proved from fmt's source: count such statements apart). THE CARD IS WHAT COUNTS. Prove the row's statement (the work); the ties are given (YtcgenmkgdhaejaaDoorTie.lean); close each card by the builder's one call (the guide's Derived/Test/ToyasCard.lean, 'card_holds'). Laid BY PROGRAM, IN A SANDBOX (cutbox-door.mjs). By AI agents, Wed Nov 11 2026. No macro, syntax, notation, axiom, sorry.
-/
import Derived.Test.YtcgenmkgdhaejaaDoorRows
import GoSem.ClaimSeven
namespace Go.Proofs.YtcgenmkgdhaejaaDoor
namespace Rows

/-- THE TIED CARD OF 'laws.FnExactNumbersOfBits'. -/
def fnExactNumbersOfBitsCard : Claim7 := { stood := { row := fnExactNumbersOfBitsRow, standIns := [], harness := (true, "41f6d070b99af25843485979828ac4377c3027784d951150422a9904ba9ac46b"), looks := false }, kinds := [], alts := [], laidByText := true, laidKinds := [.data, .pinned], laidTests := true, laidLooks := .later }
def FnExactNumbersOfBitsCardSaid : Prop := Claim7.holds Tryd.pinned (.plain (OpenSpec.ofChange fnExactNumbersOfBitsSpec)) fnExactNumbersOfBitsCard

/-- THE TIED CARD OF 'laws.FnExactIsUnique'. -/
def fnExactIsUniqueCard : Claim7 := { stood := { row := fnExactIsUniqueRow, standIns := [], harness := (true, "41f6d070b99af25843485979828ac4377c3027784d951150422a9904ba9ac46b"), looks := false }, kinds := [], alts := [], laidByText := true, laidKinds := [.data, .pinned], laidTests := true, laidLooks := .later }
def FnExactIsUniqueCardSaid : Prop := Claim7.holds Tryd.pinned (.plain (OpenSpec.ofChange fnExactIsUniqueSpec)) fnExactIsUniqueCard

/-- THE TIED CARD OF 'laws.FnExactTwoReadings'. -/
def fnExactTwoReadingsCard : Claim7 := { stood := { row := fnExactTwoReadingsRow, standIns := [], harness := (true, "41f6d070b99af25843485979828ac4377c3027784d951150422a9904ba9ac46b"), looks := false }, kinds := [], alts := [], laidByText := true, laidKinds := [.data, .pinned], laidTests := true, laidLooks := .later }
def FnExactTwoReadingsCardSaid : Prop := Claim7.holds Tryd.pinned (.plain (OpenSpec.ofChange fnExactTwoReadingsSpec)) fnExactTwoReadingsCard

/-- THE TIED CARD OF 'laws.FnReadings'. -/
def fnReadingsCard : Claim7 := { stood := { row := fnReadingsRow, standIns := [], harness := (true, "41f6d070b99af25843485979828ac4377c3027784d951150422a9904ba9ac46b"), looks := false }, kinds := [], alts := [], laidByText := true, laidKinds := [.data, .pinned], laidTests := true, laidLooks := .later }
def FnReadingsCardSaid : Prop := Claim7.holds Tryd.pinned (.plain (OpenSpec.ofChange fnReadingsSpec)) fnReadingsCard

/-- THE SECOND FORM's CARD OF 'laws.FnExactNumbersOfBits'. -/
def fnExactNumbersOfBitsUptoCard : Claim7 := { stood := { row := fnExactNumbersOfBitsUptoRow, standIns := [], harness := (true, "41f6d070b99af25843485979828ac4377c3027784d951150422a9904ba9ac46b"), looks := false }, kinds := [], alts := [], laidByText := true, laidKinds := [.data, .pinned], laidTests := true, laidLooks := .later }
def FnExactNumbersOfBitsUptoCardSaid : Prop := Claim7.holds Tryd.pinned (.plain (OpenSpec.upto fnExactNumbersOfBitsSpec)) fnExactNumbersOfBitsUptoCard

/-- THE SECOND FORM's CARD OF 'laws.FnExactIsUnique'. -/
def fnExactIsUniqueUptoCard : Claim7 := { stood := { row := fnExactIsUniqueUptoRow, standIns := [], harness := (true, "41f6d070b99af25843485979828ac4377c3027784d951150422a9904ba9ac46b"), looks := false }, kinds := [], alts := [], laidByText := true, laidKinds := [.data, .pinned], laidTests := true, laidLooks := .later }
def FnExactIsUniqueUptoCardSaid : Prop := Claim7.holds Tryd.pinned (.plain (OpenSpec.upto fnExactIsUniqueSpec)) fnExactIsUniqueUptoCard

/-- THE SECOND FORM's CARD OF 'laws.FnExactTwoReadings'. -/
def fnExactTwoReadingsUptoCard : Claim7 := { stood := { row := fnExactTwoReadingsUptoRow, standIns := [], harness := (true, "41f6d070b99af25843485979828ac4377c3027784d951150422a9904ba9ac46b"), looks := false }, kinds := [], alts := [], laidByText := true, laidKinds := [.data, .pinned], laidTests := true, laidLooks := .later }
def FnExactTwoReadingsUptoCardSaid : Prop := Claim7.holds Tryd.pinned (.plain (OpenSpec.upto fnExactTwoReadingsSpec)) fnExactTwoReadingsUptoCard

/-- THE SECOND FORM's CARD OF 'laws.FnReadings'. -/
def fnReadingsUptoCard : Claim7 := { stood := { row := fnReadingsUptoRow, standIns := [], harness := (true, "41f6d070b99af25843485979828ac4377c3027784d951150422a9904ba9ac46b"), looks := false }, kinds := [], alts := [], laidByText := true, laidKinds := [.data, .pinned], laidTests := true, laidLooks := .later }
def FnReadingsUptoCardSaid : Prop := Claim7.holds Tryd.pinned (.plain (OpenSpec.upto fnReadingsSpec)) fnReadingsUptoCard
end Rows
end Go.Proofs.YtcgenmkgdhaejaaDoor
