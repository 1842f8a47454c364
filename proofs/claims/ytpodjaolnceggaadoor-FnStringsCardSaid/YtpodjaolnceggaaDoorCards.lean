/-
  DERIVED. GIVEN WITH THE SEED: THE CARDS: each row of YtpodjaolnceggaaDoorRows.lean that lists a variable, with what it lists TIED to the program's text (the seventh form; the later family's looks); each row that meets fmt, with fmt's text TOLD by the authors' own Lean function (tested against real Go, not proved from fmt's source: count such statements apart). THE CARD IS WHAT COUNTS. Prove the row's statement (the work); the ties are given (YtpodjaolnceggaaDoorTie.lean); close each card by the builder's one call (the guide's Derived/Test/ToyasCard.lean, 'card_holds'). Laid BY PROGRAM, IN A SANDBOX (cutbox-door.mjs). By AI agents, Wed Nov 11 2026. No macro, syntax, notation, axiom, sorry.
-/
import Derived.Test.YtpodjaolnceggaaDoorRows
import GoSem.ClaimSeven
namespace Go.Proofs.YtpodjaolnceggaaDoor
namespace Rows

/-- THE TIED CARD OF 'laws.FnNoise'. -/
def fnNoiseCard : Claim7 := { stood := { row := fnNoiseRow, standIns := [], harness := (true, "d9d73d943df9f7e09e614a9385048491a7857c3dc02c873ea83c08210fe3a680"), looks := true }, kinds := [], alts := [], laidByText := true, laidKinds := [.data, .pinned], laidTests := true, laidLooks := .later }
def FnNoiseCardSaid : Prop := Claim7.holds Tryd.pinned (.plain (OpenSpec.ofChange fnNoiseSpec)) fnNoiseCard

/-- THE TIED CARD OF 'laws.FnStrings'. -/
def fnStringsCard : Claim7 := { stood := { row := fnStringsRow, standIns := [], harness := (true, "d9d73d943df9f7e09e614a9385048491a7857c3dc02c873ea83c08210fe3a680"), looks := true }, kinds := [], alts := [], laidByText := true, laidKinds := [.data, .data, .data, .sentinel, .sentinel], laidTests := true, laidLooks := .later }
def FnStringsCardSaid : Prop := Claim7.holds Tryd.pinned (.plain (OpenSpec.ofChange fnStringsSpec)) fnStringsCard

/-- THE TIED CARD OF 'laws.FnReadings'. -/
def fnReadingsCard : Claim7 := { stood := { row := fnReadingsRow, standIns := [], harness := (true, "d9d73d943df9f7e09e614a9385048491a7857c3dc02c873ea83c08210fe3a680"), looks := true }, kinds := [], alts := [], laidByText := true, laidKinds := [.data, .pinned], laidTests := true, laidLooks := .later }
def FnReadingsCardSaid : Prop := Claim7.holds Tryd.pinned (.plain (OpenSpec.ofChange fnReadingsSpec)) fnReadingsCard

/-- THE TIED CARD OF 'laws.FnMistakeWays'. -/
def fnMistakeWaysCard : Claim7 := { stood := { row := fnMistakeWaysRow, standIns := [], harness := (true, "d9d73d943df9f7e09e614a9385048491a7857c3dc02c873ea83c08210fe3a680"), looks := true }, kinds := [], alts := [], laidByText := true, laidKinds := [.data, .pinned], laidTests := true, laidLooks := .later }
def FnMistakeWaysCardSaid : Prop := Claim7.holds Tryd.pinned (.plain (OpenSpec.ofChange fnMistakeWaysSpec)) fnMistakeWaysCard

/-- THE TIED CARD OF 'laws.FnMistakes'. -/
def fnMistakesCard : Claim7 := { stood := { row := fnMistakesRow, standIns := [], harness := (true, "d9d73d943df9f7e09e614a9385048491a7857c3dc02c873ea83c08210fe3a680"), looks := true }, kinds := [], alts := [], laidByText := true, laidKinds := [.data, .pinned], laidTests := true, laidLooks := .later }
def FnMistakesCardSaid : Prop := Claim7.holds Tryd.pinned (.plain (OpenSpec.ofChange fnMistakesSpec)) fnMistakesCard

/-- THE SECOND FORM's CARD OF 'laws.FnNoise'. -/
def fnNoiseUptoCard : Claim7 := { stood := { row := fnNoiseUptoRow, standIns := [], harness := (true, "d9d73d943df9f7e09e614a9385048491a7857c3dc02c873ea83c08210fe3a680"), looks := true }, kinds := [], alts := [], laidByText := true, laidKinds := [.data, .pinned], laidTests := true, laidLooks := .later }
def FnNoiseUptoCardSaid : Prop := Claim7.holds Tryd.pinned (.plain (OpenSpec.upto fnNoiseSpec)) fnNoiseUptoCard

/-- THE SECOND FORM's CARD OF 'laws.FnStrings'. -/
def fnStringsUptoCard : Claim7 := { stood := { row := fnStringsUptoRow, standIns := [], harness := (true, "d9d73d943df9f7e09e614a9385048491a7857c3dc02c873ea83c08210fe3a680"), looks := true }, kinds := [], alts := [], laidByText := true, laidKinds := [.data, .data, .data, .sentinel, .sentinel], laidTests := true, laidLooks := .later }
def FnStringsUptoCardSaid : Prop := Claim7.holds Tryd.pinned (.plain (OpenSpec.upto fnStringsSpec)) fnStringsUptoCard

/-- THE SECOND FORM's CARD OF 'laws.FnReadings'. -/
def fnReadingsUptoCard : Claim7 := { stood := { row := fnReadingsUptoRow, standIns := [], harness := (true, "d9d73d943df9f7e09e614a9385048491a7857c3dc02c873ea83c08210fe3a680"), looks := true }, kinds := [], alts := [], laidByText := true, laidKinds := [.data, .pinned], laidTests := true, laidLooks := .later }
def FnReadingsUptoCardSaid : Prop := Claim7.holds Tryd.pinned (.plain (OpenSpec.upto fnReadingsSpec)) fnReadingsUptoCard

/-- THE SECOND FORM's CARD OF 'laws.FnMistakeWays'. -/
def fnMistakeWaysUptoCard : Claim7 := { stood := { row := fnMistakeWaysUptoRow, standIns := [], harness := (true, "d9d73d943df9f7e09e614a9385048491a7857c3dc02c873ea83c08210fe3a680"), looks := true }, kinds := [], alts := [], laidByText := true, laidKinds := [.data, .pinned], laidTests := true, laidLooks := .later }
def FnMistakeWaysUptoCardSaid : Prop := Claim7.holds Tryd.pinned (.plain (OpenSpec.upto fnMistakeWaysSpec)) fnMistakeWaysUptoCard

/-- THE SECOND FORM's CARD OF 'laws.FnMistakes'. -/
def fnMistakesUptoCard : Claim7 := { stood := { row := fnMistakesUptoRow, standIns := [], harness := (true, "d9d73d943df9f7e09e614a9385048491a7857c3dc02c873ea83c08210fe3a680"), looks := true }, kinds := [], alts := [], laidByText := true, laidKinds := [.data, .pinned], laidTests := true, laidLooks := .later }
def FnMistakesUptoCardSaid : Prop := Claim7.holds Tryd.pinned (.plain (OpenSpec.upto fnMistakesSpec)) fnMistakesUptoCard
end Rows
end Go.Proofs.YtpodjaolnceggaaDoor
