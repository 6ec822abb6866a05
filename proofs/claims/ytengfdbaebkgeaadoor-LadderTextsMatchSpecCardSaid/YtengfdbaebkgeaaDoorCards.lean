/-
  DERIVED. GIVEN WITH THE SEED: THE CARDS: each row of YtengfdbaebkgeaaDoorRows.lean that lists a variable, with what it lists TIED to the program's text (the seventh form; the later family's looks); each row that meets fmt, with fmt's text TOLD by the authors' own Lean function (tested against real Go, not proved from fmt's source: count such statements apart). THE CARD IS WHAT COUNTS. Prove the row's statement (the work); the ties are given (YtengfdbaebkgeaaDoorTie.lean); close each card by the builder's one call (the guide's Derived/Test/ToyasCard.lean, 'card_holds'). Laid BY PROGRAM, IN A SANDBOX (cutbox-door.mjs). By AI agents, Wed Nov 11 2026. No macro, syntax, notation, axiom, sorry.
-/
import Derived.Test.YtengfdbaebkgeaaDoorRows
import GoSem.ClaimSeven
namespace Go.Proofs.YtengfdbaebkgeaaDoor
namespace Rows

/-- THE TIED CARD OF 'headendlaw5.LadderReadsMatchSpec'. -/
def ladderReadsMatchSpecCard : Claim7 := { stood := { row := ladderReadsMatchSpecRow, standIns := [], harness := (true, "b4b0a77631ae1af1b05077a33f0b09412ee2a088ca0c4a3ce5d0b54333dc65a7"), looks := false }, kinds := [], alts := [], laidByText := true, laidKinds := [.data, .pinned], laidTests := true, laidLooks := .later }
def LadderReadsMatchSpecCardSaid : Prop := Claim7.holds Tryd.pinned (.plain (OpenSpec.ofChange ladderReadsMatchSpecSpec)) ladderReadsMatchSpecCard

/-- THE TIED CARD OF 'headendlaw5.LadderTextsMatchSpec'. -/
def ladderTextsMatchSpecCard : Claim7 := { stood := { row := ladderTextsMatchSpecRow, standIns := [], harness := (true, "b4b0a77631ae1af1b05077a33f0b09412ee2a088ca0c4a3ce5d0b54333dc65a7"), looks := false }, kinds := [], alts := [], laidByText := true, laidKinds := [.data, .data, .data, .data, .pinned], laidTests := true, laidLooks := .later }
def LadderTextsMatchSpecCardSaid : Prop := Claim7.holds Tryd.pinned (.plain (OpenSpec.ofChange ladderTextsMatchSpecSpec)) ladderTextsMatchSpecCard

/-- THE SECOND FORM's CARD OF 'headendlaw5.LadderReadsMatchSpec'. -/
def ladderReadsMatchSpecUptoCard : Claim7 := { stood := { row := ladderReadsMatchSpecUptoRow, standIns := [], harness := (true, "b4b0a77631ae1af1b05077a33f0b09412ee2a088ca0c4a3ce5d0b54333dc65a7"), looks := false }, kinds := [], alts := [], laidByText := true, laidKinds := [.data, .pinned], laidTests := true, laidLooks := .later }
def LadderReadsMatchSpecUptoCardSaid : Prop := Claim7.holds Tryd.pinned (.plain (OpenSpec.upto ladderReadsMatchSpecSpec)) ladderReadsMatchSpecUptoCard

/-- THE SECOND FORM's CARD OF 'headendlaw5.LadderTextsMatchSpec'. -/
def ladderTextsMatchSpecUptoCard : Claim7 := { stood := { row := ladderTextsMatchSpecUptoRow, standIns := [], harness := (true, "b4b0a77631ae1af1b05077a33f0b09412ee2a088ca0c4a3ce5d0b54333dc65a7"), looks := false }, kinds := [], alts := [], laidByText := true, laidKinds := [.data, .data, .data, .data, .pinned], laidTests := true, laidLooks := .later }
def LadderTextsMatchSpecUptoCardSaid : Prop := Claim7.holds Tryd.pinned (.plain (OpenSpec.upto ladderTextsMatchSpecSpec)) ladderTextsMatchSpecUptoCard
end Rows
end Go.Proofs.YtengfdbaebkgeaaDoor
