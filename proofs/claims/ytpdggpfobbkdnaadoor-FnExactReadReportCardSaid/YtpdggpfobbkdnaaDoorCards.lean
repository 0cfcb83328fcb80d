/-
  DERIVED. GIVEN WITH THE SEED: THE CARDS: each row of YtpdggpfobbkdnaaDoorRows.lean that lists a variable, with what it lists TIED to the program's text (the seventh form; the later family's looks); each row that meets fmt, with fmt's text TOLD by the authors' own Lean function (tested against real Go, not proved from fmt's source: count such statements apart). THE CARD IS WHAT COUNTS. Prove the row's statement (the work); the ties are given (YtpdggpfobbkdnaaDoorTie.lean); close each card by the builder's one call (the guide's Derived/Test/ToyasCard.lean, 'card_holds'). Laid BY PROGRAM, IN A SANDBOX (cutbox-door.mjs). By AI agents, Wed Nov 11 2026. No macro, syntax, notation, axiom, sorry.
-/
import Derived.Test.YtpdggpfobbkdnaaDoorRows
import GoSem.ClaimSeven
namespace Go.Proofs.YtpdggpfobbkdnaaDoor
namespace Rows

/-- THE TIED CARD OF 'laws.FnExactReadReport'. -/
def fnExactReadReportCard : Claim7 := { stood := { row := fnExactReadReportRow, standIns := [], harness := (true, "3be33dc9f652516a81e443f716d3a15da3117ce5fe462bada7a1cdf96d06bd11"), looks := false }, kinds := [], alts := [], laidByText := true, laidKinds := [.data, .pinned], laidTests := true, laidLooks := .later }
def FnExactReadReportCardSaid : Prop := Claim7.holds Tryd.pinned (.plain (OpenSpec.ofChange fnExactReadReportSpec)) fnExactReadReportCard

/-- THE SECOND FORM's CARD OF 'laws.FnExactReadReport'. -/
def fnExactReadReportUptoCard : Claim7 := { stood := { row := fnExactReadReportUptoRow, standIns := [], harness := (true, "3be33dc9f652516a81e443f716d3a15da3117ce5fe462bada7a1cdf96d06bd11"), looks := false }, kinds := [], alts := [], laidByText := true, laidKinds := [.data, .pinned], laidTests := true, laidLooks := .later }
def FnExactReadReportUptoCardSaid : Prop := Claim7.holds Tryd.pinned (.plain (OpenSpec.upto fnExactReadReportSpec)) fnExactReadReportUptoCard
end Rows
end Go.Proofs.YtpdggpfobbkdnaaDoor
