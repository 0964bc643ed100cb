/-
  DERIVED. GIVEN WITH THE SEED: THE CARDS: each row of YtmconcfgldiceaaDoorRows.lean that lists a variable, with what it lists TIED to the program's text (the seventh form; the later family's looks); each row that meets fmt, with fmt's text TOLD by the authors' own Lean function (tested against real Go, not proved from fmt's source: count such statements apart). THE CARD IS WHAT COUNTS. Prove the row's statement (the work); the ties are given (YtmconcfgldiceaaDoorTie.lean); close each card by the builder's one call (the guide's Derived/Test/ToyasCard.lean, 'card_holds'). Laid BY PROGRAM, IN A SANDBOX (cutbox-door.mjs). By AI agents, Wed Nov 11 2026. No macro, syntax, notation, axiom, sorry.
-/
import Derived.Test.YtmconcfgldiceaaDoorRows
import GoSem.ClaimSeven
namespace Go.Proofs.YtmconcfgldiceaaDoor
namespace Rows

/-- THE TIED CARD OF 'laws.FnExactRunsOf'. -/
def fnExactRunsOfCard : Claim7 := { stood := { row := fnExactRunsOfRow, standIns := [], harness := (true, "fe90462bde321e4f59666a08c8dd5a85ca30a896f2309d5e75fd2344b0fd805a"), looks := false }, kinds := [], alts := [], laidByText := true, laidKinds := [.data, .pinned], laidTests := true, laidLooks := .later }
def FnExactRunsOfCardSaid : Prop := Claim7.holds Tryd.pinned (.plain (OpenSpec.ofChange fnExactRunsOfSpec)) fnExactRunsOfCard

/-- THE TIED CARD OF 'laws.FnExactIsPrefixFree'. -/
def fnExactIsPrefixFreeCard : Claim7 := { stood := { row := fnExactIsPrefixFreeRow, standIns := [], harness := (true, "fe90462bde321e4f59666a08c8dd5a85ca30a896f2309d5e75fd2344b0fd805a"), looks := false }, kinds := [], alts := [], laidByText := true, laidKinds := [.data, .pinned], laidTests := true, laidLooks := .later }
def FnExactIsPrefixFreeCardSaid : Prop := Claim7.holds Tryd.pinned (.plain (OpenSpec.ofChange fnExactIsPrefixFreeSpec)) fnExactIsPrefixFreeCard

/-- THE TIED CARD OF 'laws.FnExactDecodeLetters'. -/
def fnExactDecodeLettersCard : Claim7 := { stood := { row := fnExactDecodeLettersRow, standIns := [], harness := (true, "fe90462bde321e4f59666a08c8dd5a85ca30a896f2309d5e75fd2344b0fd805a"), looks := false }, kinds := [], alts := [], laidByText := true, laidKinds := [.data, .pinned], laidTests := true, laidLooks := .later }
def FnExactDecodeLettersCardSaid : Prop := Claim7.holds Tryd.pinned (.plain (OpenSpec.ofChange fnExactDecodeLettersSpec)) fnExactDecodeLettersCard

/-- THE TIED CARD OF 'laws.FnExactNumbersOfBits'. -/
def fnExactNumbersOfBitsCard : Claim7 := { stood := { row := fnExactNumbersOfBitsRow, standIns := [], harness := (true, "fe90462bde321e4f59666a08c8dd5a85ca30a896f2309d5e75fd2344b0fd805a"), looks := false }, kinds := [], alts := [], laidByText := true, laidKinds := [.data, .pinned], laidTests := true, laidLooks := .later }
def FnExactNumbersOfBitsCardSaid : Prop := Claim7.holds Tryd.pinned (.plain (OpenSpec.ofChange fnExactNumbersOfBitsSpec)) fnExactNumbersOfBitsCard

/-- THE SECOND FORM's CARD OF 'laws.FnExactRunsOf'. -/
def fnExactRunsOfUptoCard : Claim7 := { stood := { row := fnExactRunsOfUptoRow, standIns := [], harness := (true, "fe90462bde321e4f59666a08c8dd5a85ca30a896f2309d5e75fd2344b0fd805a"), looks := false }, kinds := [], alts := [], laidByText := true, laidKinds := [.data, .pinned], laidTests := true, laidLooks := .later }
def FnExactRunsOfUptoCardSaid : Prop := Claim7.holds Tryd.pinned (.plain (OpenSpec.upto fnExactRunsOfSpec)) fnExactRunsOfUptoCard

/-- THE SECOND FORM's CARD OF 'laws.FnExactIsPrefixFree'. -/
def fnExactIsPrefixFreeUptoCard : Claim7 := { stood := { row := fnExactIsPrefixFreeUptoRow, standIns := [], harness := (true, "fe90462bde321e4f59666a08c8dd5a85ca30a896f2309d5e75fd2344b0fd805a"), looks := false }, kinds := [], alts := [], laidByText := true, laidKinds := [.data, .pinned], laidTests := true, laidLooks := .later }
def FnExactIsPrefixFreeUptoCardSaid : Prop := Claim7.holds Tryd.pinned (.plain (OpenSpec.upto fnExactIsPrefixFreeSpec)) fnExactIsPrefixFreeUptoCard

/-- THE SECOND FORM's CARD OF 'laws.FnExactDecodeLetters'. -/
def fnExactDecodeLettersUptoCard : Claim7 := { stood := { row := fnExactDecodeLettersUptoRow, standIns := [], harness := (true, "fe90462bde321e4f59666a08c8dd5a85ca30a896f2309d5e75fd2344b0fd805a"), looks := false }, kinds := [], alts := [], laidByText := true, laidKinds := [.data, .pinned], laidTests := true, laidLooks := .later }
def FnExactDecodeLettersUptoCardSaid : Prop := Claim7.holds Tryd.pinned (.plain (OpenSpec.upto fnExactDecodeLettersSpec)) fnExactDecodeLettersUptoCard

/-- THE SECOND FORM's CARD OF 'laws.FnExactNumbersOfBits'. -/
def fnExactNumbersOfBitsUptoCard : Claim7 := { stood := { row := fnExactNumbersOfBitsUptoRow, standIns := [], harness := (true, "fe90462bde321e4f59666a08c8dd5a85ca30a896f2309d5e75fd2344b0fd805a"), looks := false }, kinds := [], alts := [], laidByText := true, laidKinds := [.data, .pinned], laidTests := true, laidLooks := .later }
def FnExactNumbersOfBitsUptoCardSaid : Prop := Claim7.holds Tryd.pinned (.plain (OpenSpec.upto fnExactNumbersOfBitsSpec)) fnExactNumbersOfBitsUptoCard
end Rows
end Go.Proofs.YtmconcfgldiceaaDoor
