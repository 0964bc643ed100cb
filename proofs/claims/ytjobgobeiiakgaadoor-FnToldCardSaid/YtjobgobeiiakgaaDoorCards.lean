/-
  DERIVED. GIVEN WITH THE SEED: THE CARDS: each row of YtjobgobeiiakgaaDoorRows.lean that lists a variable, with what it lists TIED to the program's text (the seventh form; the later family's looks); each row that meets fmt, with fmt's text TOLD by the authors' own Lean function (tested against real Go, not proved from fmt's source: count such statements apart). THE CARD IS WHAT COUNTS. Prove the row's statement (the work); the ties are given (YtjobgobeiiakgaaDoorTie.lean); close each card by the builder's one call (the guide's Derived/Test/ToyasCard.lean, 'card_holds'). Laid BY PROGRAM, IN A SANDBOX (cutbox-door.mjs). By AI agents, Wed Nov 11 2026. No macro, syntax, notation, axiom, sorry.
-/
import Derived.Test.YtjobgobeiiakgaaDoorRows
import GoSem.ClaimSeven
namespace Go.Proofs.YtjobgobeiiakgaaDoor
namespace Rows

/-- THE TIED CARD OF 'laws.FnReadings'. -/
def fnReadingsCard : Claim7 := { stood := { row := fnReadingsRow, standIns := [], harness := (true, "0b74823ce78d01c7d10f3f22ce49f5f158f569ca799ec71437e8d6e3e33157b0"), looks := false }, kinds := [], alts := [], laidByText := true, laidKinds := [.data, .pinned], laidTests := true, laidLooks := .later }
def FnReadingsCardSaid : Prop := Claim7.holds Tryd.pinned (.plain (OpenSpec.ofChange fnReadingsSpec)) fnReadingsCard

/-- THE TIED CARD OF 'laws.FnTold'. -/
def fnToldCard : Claim7 := { stood := { row := fnToldRow, standIns := [], harness := (true, "0b74823ce78d01c7d10f3f22ce49f5f158f569ca799ec71437e8d6e3e33157b0"), looks := false }, kinds := [], alts := [], laidByText := true, laidKinds := [.data, .pinned], laidTests := true, laidLooks := .later }
def FnToldCardSaid : Prop := Claim7.holds Tryd.pinned (.plain (OpenSpec.ofChange fnToldSpec)) fnToldCard

/-- THE SECOND FORM's CARD OF 'laws.FnReadings'. -/
def fnReadingsUptoCard : Claim7 := { stood := { row := fnReadingsUptoRow, standIns := [], harness := (true, "0b74823ce78d01c7d10f3f22ce49f5f158f569ca799ec71437e8d6e3e33157b0"), looks := false }, kinds := [], alts := [], laidByText := true, laidKinds := [.data, .pinned], laidTests := true, laidLooks := .later }
def FnReadingsUptoCardSaid : Prop := Claim7.holds Tryd.pinned (.plain (OpenSpec.upto fnReadingsSpec)) fnReadingsUptoCard

/-- THE SECOND FORM's CARD OF 'laws.FnTold'. -/
def fnToldUptoCard : Claim7 := { stood := { row := fnToldUptoRow, standIns := [], harness := (true, "0b74823ce78d01c7d10f3f22ce49f5f158f569ca799ec71437e8d6e3e33157b0"), looks := false }, kinds := [], alts := [], laidByText := true, laidKinds := [.data, .pinned], laidTests := true, laidLooks := .later }
def FnToldUptoCardSaid : Prop := Claim7.holds Tryd.pinned (.plain (OpenSpec.upto fnToldSpec)) fnToldUptoCard
end Rows
end Go.Proofs.YtjobgobeiiakgaaDoor
