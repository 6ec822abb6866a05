/-
  DERIVED. GIVEN WITH THE SEED: THE CARDS: each row of YtmgbmoiefgfemaaDoorRows.lean that lists a variable, with what it lists TIED to the program's text (the seventh form; the later family's looks); each row that meets fmt, with fmt's text TOLD by the authors' own Lean function (tested against real Go, not proved from fmt's source: count such statements apart). THE CARD IS WHAT COUNTS. Prove the row's statement (the work); the ties are given (YtmgbmoiefgfemaaDoorTie.lean); close each card by the builder's one call (the guide's Derived/Test/ToyasCard.lean, 'card_holds'). Laid BY PROGRAM, IN A SANDBOX (cutbox-door.mjs). By AI agents, Wed Nov 11 2026. No macro, syntax, notation, axiom, sorry.
-/
import Derived.Test.YtmgbmoiefgfemaaDoorRows
import GoSem.ClaimSeven
namespace Go.Proofs.YtmgbmoiefgfemaaDoor
namespace Rows

/-- THE TIED CARD OF 'headendlaw10.EdgeRulesMatchSpec'. -/
def edgeRulesMatchSpecCard : Claim7 := { stood := { row := edgeRulesMatchSpecRow, standIns := [], harness := (true, "f0da7cb3c76a5e3813adbdc6a4264bf8dcbd64a7e4446a20b4c054ed9aacb6d9"), looks := false }, kinds := [], alts := [], laidByText := true, laidKinds := [.data, .pinned], laidTests := true, laidLooks := .later }
def EdgeRulesMatchSpecCardSaid : Prop := Claim7.holds Tryd.pinned (.plain (OpenSpec.ofChange edgeRulesMatchSpecSpec)) edgeRulesMatchSpecCard

/-- THE TIED CARD OF 'headendlaw10.EdgeChecksMatchSpec'. -/
def edgeChecksMatchSpecCard : Claim7 := { stood := { row := edgeChecksMatchSpecRow, standIns := [], harness := (true, "f0da7cb3c76a5e3813adbdc6a4264bf8dcbd64a7e4446a20b4c054ed9aacb6d9"), looks := false }, kinds := [], alts := [], laidByText := true, laidKinds := [.data, .pinned], laidTests := true, laidLooks := .later }
def EdgeChecksMatchSpecCardSaid : Prop := Claim7.holds Tryd.pinned (.plain (OpenSpec.ofChange edgeChecksMatchSpecSpec)) edgeChecksMatchSpecCard

/-- THE TIED CARD OF 'headendlaw10.EdgeKeysMatchSpec'. -/
def edgeKeysMatchSpecCard : Claim7 := { stood := { row := edgeKeysMatchSpecRow, standIns := [], harness := (true, "f0da7cb3c76a5e3813adbdc6a4264bf8dcbd64a7e4446a20b4c054ed9aacb6d9"), looks := false }, kinds := [], alts := [], laidByText := true, laidKinds := [.data, .pinned], laidTests := true, laidLooks := .later }
def EdgeKeysMatchSpecCardSaid : Prop := Claim7.holds Tryd.pinned (.plain (OpenSpec.ofChange edgeKeysMatchSpecSpec)) edgeKeysMatchSpecCard

/-- THE TIED CARD OF 'headendlaw10.EdgeCurvesMatchSpec'. -/
def edgeCurvesMatchSpecCard : Claim7 := { stood := { row := edgeCurvesMatchSpecRow, standIns := [], harness := (true, "f0da7cb3c76a5e3813adbdc6a4264bf8dcbd64a7e4446a20b4c054ed9aacb6d9"), looks := false }, kinds := [], alts := [], laidByText := true, laidKinds := [.data, .pinned], laidTests := true, laidLooks := .later }
def EdgeCurvesMatchSpecCardSaid : Prop := Claim7.holds Tryd.pinned (.plain (OpenSpec.ofChange edgeCurvesMatchSpecSpec)) edgeCurvesMatchSpecCard

/-- THE TIED CARD OF 'headendlaw10.EdgeReadsMatchSpec'. -/
def edgeReadsMatchSpecCard : Claim7 := { stood := { row := edgeReadsMatchSpecRow, standIns := [], harness := (true, "f0da7cb3c76a5e3813adbdc6a4264bf8dcbd64a7e4446a20b4c054ed9aacb6d9"), looks := false }, kinds := [], alts := [], laidByText := true, laidKinds := [.data, .data, .data, .data, .pinned], laidTests := true, laidLooks := .later }
def EdgeReadsMatchSpecCardSaid : Prop := Claim7.holds Tryd.pinned (.plain (OpenSpec.ofChange edgeReadsMatchSpecSpec)) edgeReadsMatchSpecCard

/-- THE TIED CARD OF 'headendlaw10.EdgeTextsMatchSpec'. -/
def edgeTextsMatchSpecCard : Claim7 := { stood := { row := edgeTextsMatchSpecRow, standIns := [], harness := (true, "f0da7cb3c76a5e3813adbdc6a4264bf8dcbd64a7e4446a20b4c054ed9aacb6d9"), looks := false }, kinds := [], alts := [], laidByText := true, laidKinds := [.data, .data, .data, .data, .pinned], laidTests := true, laidLooks := .later }
def EdgeTextsMatchSpecCardSaid : Prop := Claim7.holds Tryd.pinned (.plain (OpenSpec.ofChange edgeTextsMatchSpecSpec)) edgeTextsMatchSpecCard

/-- THE TIED CARD OF 'headendlaw10.EdgeBestIsBest'. -/
def edgeBestIsBestCard : Claim7 := { stood := { row := edgeBestIsBestRow, standIns := [], harness := (true, "f0da7cb3c76a5e3813adbdc6a4264bf8dcbd64a7e4446a20b4c054ed9aacb6d9"), looks := false }, kinds := [], alts := [], laidByText := true, laidKinds := [.data, .pinned], laidTests := true, laidLooks := .later }
def EdgeBestIsBestCardSaid : Prop := Claim7.holds Tryd.pinned (.plain (OpenSpec.ofChange edgeBestIsBestSpec)) edgeBestIsBestCard

/-- THE SECOND FORM's CARD OF 'headendlaw10.EdgeRulesMatchSpec'. -/
def edgeRulesMatchSpecUptoCard : Claim7 := { stood := { row := edgeRulesMatchSpecUptoRow, standIns := [], harness := (true, "f0da7cb3c76a5e3813adbdc6a4264bf8dcbd64a7e4446a20b4c054ed9aacb6d9"), looks := false }, kinds := [], alts := [], laidByText := true, laidKinds := [.data, .pinned], laidTests := true, laidLooks := .later }
def EdgeRulesMatchSpecUptoCardSaid : Prop := Claim7.holds Tryd.pinned (.plain (OpenSpec.upto edgeRulesMatchSpecSpec)) edgeRulesMatchSpecUptoCard

/-- THE SECOND FORM's CARD OF 'headendlaw10.EdgeChecksMatchSpec'. -/
def edgeChecksMatchSpecUptoCard : Claim7 := { stood := { row := edgeChecksMatchSpecUptoRow, standIns := [], harness := (true, "f0da7cb3c76a5e3813adbdc6a4264bf8dcbd64a7e4446a20b4c054ed9aacb6d9"), looks := false }, kinds := [], alts := [], laidByText := true, laidKinds := [.data, .pinned], laidTests := true, laidLooks := .later }
def EdgeChecksMatchSpecUptoCardSaid : Prop := Claim7.holds Tryd.pinned (.plain (OpenSpec.upto edgeChecksMatchSpecSpec)) edgeChecksMatchSpecUptoCard

/-- THE SECOND FORM's CARD OF 'headendlaw10.EdgeKeysMatchSpec'. -/
def edgeKeysMatchSpecUptoCard : Claim7 := { stood := { row := edgeKeysMatchSpecUptoRow, standIns := [], harness := (true, "f0da7cb3c76a5e3813adbdc6a4264bf8dcbd64a7e4446a20b4c054ed9aacb6d9"), looks := false }, kinds := [], alts := [], laidByText := true, laidKinds := [.data, .pinned], laidTests := true, laidLooks := .later }
def EdgeKeysMatchSpecUptoCardSaid : Prop := Claim7.holds Tryd.pinned (.plain (OpenSpec.upto edgeKeysMatchSpecSpec)) edgeKeysMatchSpecUptoCard

/-- THE SECOND FORM's CARD OF 'headendlaw10.EdgeCurvesMatchSpec'. -/
def edgeCurvesMatchSpecUptoCard : Claim7 := { stood := { row := edgeCurvesMatchSpecUptoRow, standIns := [], harness := (true, "f0da7cb3c76a5e3813adbdc6a4264bf8dcbd64a7e4446a20b4c054ed9aacb6d9"), looks := false }, kinds := [], alts := [], laidByText := true, laidKinds := [.data, .pinned], laidTests := true, laidLooks := .later }
def EdgeCurvesMatchSpecUptoCardSaid : Prop := Claim7.holds Tryd.pinned (.plain (OpenSpec.upto edgeCurvesMatchSpecSpec)) edgeCurvesMatchSpecUptoCard

/-- THE SECOND FORM's CARD OF 'headendlaw10.EdgeReadsMatchSpec'. -/
def edgeReadsMatchSpecUptoCard : Claim7 := { stood := { row := edgeReadsMatchSpecUptoRow, standIns := [], harness := (true, "f0da7cb3c76a5e3813adbdc6a4264bf8dcbd64a7e4446a20b4c054ed9aacb6d9"), looks := false }, kinds := [], alts := [], laidByText := true, laidKinds := [.data, .data, .data, .data, .pinned], laidTests := true, laidLooks := .later }
def EdgeReadsMatchSpecUptoCardSaid : Prop := Claim7.holds Tryd.pinned (.plain (OpenSpec.upto edgeReadsMatchSpecSpec)) edgeReadsMatchSpecUptoCard

/-- THE SECOND FORM's CARD OF 'headendlaw10.EdgeTextsMatchSpec'. -/
def edgeTextsMatchSpecUptoCard : Claim7 := { stood := { row := edgeTextsMatchSpecUptoRow, standIns := [], harness := (true, "f0da7cb3c76a5e3813adbdc6a4264bf8dcbd64a7e4446a20b4c054ed9aacb6d9"), looks := false }, kinds := [], alts := [], laidByText := true, laidKinds := [.data, .data, .data, .data, .pinned], laidTests := true, laidLooks := .later }
def EdgeTextsMatchSpecUptoCardSaid : Prop := Claim7.holds Tryd.pinned (.plain (OpenSpec.upto edgeTextsMatchSpecSpec)) edgeTextsMatchSpecUptoCard

/-- THE SECOND FORM's CARD OF 'headendlaw10.EdgeBestIsBest'. -/
def edgeBestIsBestUptoCard : Claim7 := { stood := { row := edgeBestIsBestUptoRow, standIns := [], harness := (true, "f0da7cb3c76a5e3813adbdc6a4264bf8dcbd64a7e4446a20b4c054ed9aacb6d9"), looks := false }, kinds := [], alts := [], laidByText := true, laidKinds := [.data, .pinned], laidTests := true, laidLooks := .later }
def EdgeBestIsBestUptoCardSaid : Prop := Claim7.holds Tryd.pinned (.plain (OpenSpec.upto edgeBestIsBestSpec)) edgeBestIsBestUptoCard
end Rows
end Go.Proofs.YtmgbmoiefgfemaaDoor
