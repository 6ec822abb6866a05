/-
  DERIVED. GIVEN WITH THE SEED: THE CARDS: each row of YtgohddfnhofjhaaGreatDoorRows.lean that lists a variable, with what it lists TIED to the program's text (the seventh form; the later family's looks); each row that meets fmt, with fmt's text TOLD by the authors' own Lean function (tested against real Go, not proved from fmt's source: count such statements apart). THE CARD IS WHAT COUNTS. Prove the row's statement (the work); the ties are given (YtgohddfnhofjhaaGreatDoorTie.lean); close each card by the builder's one call (the guide's Derived/Test/ToyasCard.lean, 'card_holds'). Laid BY PROGRAM, IN A SANDBOX (cutbox-door.mjs). By AI agents, Wed Nov 11 2026. No macro, syntax, notation, axiom, sorry.
-/
import Derived.Test.YtgohddfnhofjhaaGreatDoorRows
import GoSem.ClaimSeven
namespace Go.Proofs.YtgohddfnhofjhaaGreatDoor
namespace Rows

/-- THE TIED CARD OF 'headendlaw10.EdgeServesNothingOld'. -/
def edgeServesNothingOldCard : Claim7 := { stood := { row := edgeServesNothingOldRow, standIns := [], harness := (true, "4f73bc97ccb0c7732e381e82b4b386f4e0e0f98fe33e6cbddd5397fda8e6a372"), looks := true }, kinds := [], alts := [], laidByText := true, laidKinds := [.data, .pinned], laidTests := true, laidLooks := .later }
def EdgeServesNothingOldCardSaid : Prop := Claim7.holds Tryz.pinned (.plain (OpenSpec.ofChange edgeServesNothingOldSpec)) edgeServesNothingOldCard

/-- THE TIED CARD OF 'headendlaw10.EdgeLaterGetsChangeNothing'. -/
def edgeLaterGetsChangeNothingCard : Claim7 := { stood := { row := edgeLaterGetsChangeNothingRow, standIns := [], harness := (true, "4f73bc97ccb0c7732e381e82b4b386f4e0e0f98fe33e6cbddd5397fda8e6a372"), looks := true }, kinds := [], alts := [], laidByText := true, laidKinds := [.data, .pinned], laidTests := true, laidLooks := .later }
def EdgeLaterGetsChangeNothingCardSaid : Prop := Claim7.holds Tryz.pinned (.plain (OpenSpec.ofChange edgeLaterGetsChangeNothingSpec)) edgeLaterGetsChangeNothingCard

/-- THE TIED CARD OF 'headendlaw10.EdgeLoadsAddUp'. -/
def edgeLoadsAddUpCard : Claim7 := { stood := { row := edgeLoadsAddUpRow, standIns := [], harness := (true, "4f73bc97ccb0c7732e381e82b4b386f4e0e0f98fe33e6cbddd5397fda8e6a372"), looks := true }, kinds := [], alts := [], laidByText := true, laidKinds := [.data, .pinned], laidTests := true, laidLooks := .later }
def EdgeLoadsAddUpCardSaid : Prop := Claim7.holds Tryz.pinned (.plain (OpenSpec.ofChange edgeLoadsAddUpSpec)) edgeLoadsAddUpCard

/-- THE TIED CARD OF 'headendlaw10.EdgeServesMatchSpec'. -/
def edgeServesMatchSpecCard : Claim7 := { stood := { row := edgeServesMatchSpecRow, standIns := [], harness := (true, "4f73bc97ccb0c7732e381e82b4b386f4e0e0f98fe33e6cbddd5397fda8e6a372"), looks := true }, kinds := [], alts := [], laidByText := true, laidKinds := [.data, .pinned], laidTests := true, laidLooks := .later }
def EdgeServesMatchSpecCardSaid : Prop := Claim7.holds Tryz.pinned (.plain (OpenSpec.ofChange edgeServesMatchSpecSpec)) edgeServesMatchSpecCard

/-- THE TIED CARD OF 'headendlaw10.EdgeLoadsMatchSpec'. -/
def edgeLoadsMatchSpecCard : Claim7 := { stood := { row := edgeLoadsMatchSpecRow, standIns := [], harness := (true, "4f73bc97ccb0c7732e381e82b4b386f4e0e0f98fe33e6cbddd5397fda8e6a372"), looks := true }, kinds := [], alts := [], laidByText := true, laidKinds := [.data, .pinned], laidTests := true, laidLooks := .later }
def EdgeLoadsMatchSpecCardSaid : Prop := Claim7.holds Tryz.pinned (.plain (OpenSpec.ofChange edgeLoadsMatchSpecSpec)) edgeLoadsMatchSpecCard

/-- THE TIED CARD OF 'headendlaw10.EdgeHoldsFit'. -/
def edgeHoldsFitCard : Claim7 := { stood := { row := edgeHoldsFitRow, standIns := [], harness := (true, "4f73bc97ccb0c7732e381e82b4b386f4e0e0f98fe33e6cbddd5397fda8e6a372"), looks := true }, kinds := [], alts := [], laidByText := true, laidKinds := [.data, .pinned], laidTests := true, laidLooks := .later }
def EdgeHoldsFitCardSaid : Prop := Claim7.holds Tryz.pinned (.plain (OpenSpec.ofChange edgeHoldsFitSpec)) edgeHoldsFitCard

/-- THE TIED CARD OF 'headendlaw10.EdgeHoldsMatchSpec'. -/
def edgeHoldsMatchSpecCard : Claim7 := { stood := { row := edgeHoldsMatchSpecRow, standIns := [], harness := (true, "4f73bc97ccb0c7732e381e82b4b386f4e0e0f98fe33e6cbddd5397fda8e6a372"), looks := true }, kinds := [], alts := [], laidByText := true, laidKinds := [.data, .pinned], laidTests := true, laidLooks := .later }
def EdgeHoldsMatchSpecCardSaid : Prop := Claim7.holds Tryz.pinned (.plain (OpenSpec.ofChange edgeHoldsMatchSpecSpec)) edgeHoldsMatchSpecCard

/-- THE SECOND FORM's CARD OF 'headendlaw10.EdgeServesNothingOld'. -/
def edgeServesNothingOldUptoCard : Claim7 := { stood := { row := edgeServesNothingOldUptoRow, standIns := [], harness := (true, "4f73bc97ccb0c7732e381e82b4b386f4e0e0f98fe33e6cbddd5397fda8e6a372"), looks := true }, kinds := [], alts := [], laidByText := true, laidKinds := [.data, .pinned], laidTests := true, laidLooks := .later }
def EdgeServesNothingOldUptoCardSaid : Prop := Claim7.holds Tryz.pinned (.plain (OpenSpec.upto edgeServesNothingOldSpec)) edgeServesNothingOldUptoCard

/-- THE SECOND FORM's CARD OF 'headendlaw10.EdgeLaterGetsChangeNothing'. -/
def edgeLaterGetsChangeNothingUptoCard : Claim7 := { stood := { row := edgeLaterGetsChangeNothingUptoRow, standIns := [], harness := (true, "4f73bc97ccb0c7732e381e82b4b386f4e0e0f98fe33e6cbddd5397fda8e6a372"), looks := true }, kinds := [], alts := [], laidByText := true, laidKinds := [.data, .pinned], laidTests := true, laidLooks := .later }
def EdgeLaterGetsChangeNothingUptoCardSaid : Prop := Claim7.holds Tryz.pinned (.plain (OpenSpec.upto edgeLaterGetsChangeNothingSpec)) edgeLaterGetsChangeNothingUptoCard

/-- THE SECOND FORM's CARD OF 'headendlaw10.EdgeLoadsAddUp'. -/
def edgeLoadsAddUpUptoCard : Claim7 := { stood := { row := edgeLoadsAddUpUptoRow, standIns := [], harness := (true, "4f73bc97ccb0c7732e381e82b4b386f4e0e0f98fe33e6cbddd5397fda8e6a372"), looks := true }, kinds := [], alts := [], laidByText := true, laidKinds := [.data, .pinned], laidTests := true, laidLooks := .later }
def EdgeLoadsAddUpUptoCardSaid : Prop := Claim7.holds Tryz.pinned (.plain (OpenSpec.upto edgeLoadsAddUpSpec)) edgeLoadsAddUpUptoCard

/-- THE SECOND FORM's CARD OF 'headendlaw10.EdgeServesMatchSpec'. -/
def edgeServesMatchSpecUptoCard : Claim7 := { stood := { row := edgeServesMatchSpecUptoRow, standIns := [], harness := (true, "4f73bc97ccb0c7732e381e82b4b386f4e0e0f98fe33e6cbddd5397fda8e6a372"), looks := true }, kinds := [], alts := [], laidByText := true, laidKinds := [.data, .pinned], laidTests := true, laidLooks := .later }
def EdgeServesMatchSpecUptoCardSaid : Prop := Claim7.holds Tryz.pinned (.plain (OpenSpec.upto edgeServesMatchSpecSpec)) edgeServesMatchSpecUptoCard

/-- THE SECOND FORM's CARD OF 'headendlaw10.EdgeLoadsMatchSpec'. -/
def edgeLoadsMatchSpecUptoCard : Claim7 := { stood := { row := edgeLoadsMatchSpecUptoRow, standIns := [], harness := (true, "4f73bc97ccb0c7732e381e82b4b386f4e0e0f98fe33e6cbddd5397fda8e6a372"), looks := true }, kinds := [], alts := [], laidByText := true, laidKinds := [.data, .pinned], laidTests := true, laidLooks := .later }
def EdgeLoadsMatchSpecUptoCardSaid : Prop := Claim7.holds Tryz.pinned (.plain (OpenSpec.upto edgeLoadsMatchSpecSpec)) edgeLoadsMatchSpecUptoCard

/-- THE SECOND FORM's CARD OF 'headendlaw10.EdgeHoldsFit'. -/
def edgeHoldsFitUptoCard : Claim7 := { stood := { row := edgeHoldsFitUptoRow, standIns := [], harness := (true, "4f73bc97ccb0c7732e381e82b4b386f4e0e0f98fe33e6cbddd5397fda8e6a372"), looks := true }, kinds := [], alts := [], laidByText := true, laidKinds := [.data, .pinned], laidTests := true, laidLooks := .later }
def EdgeHoldsFitUptoCardSaid : Prop := Claim7.holds Tryz.pinned (.plain (OpenSpec.upto edgeHoldsFitSpec)) edgeHoldsFitUptoCard

/-- THE SECOND FORM's CARD OF 'headendlaw10.EdgeHoldsMatchSpec'. -/
def edgeHoldsMatchSpecUptoCard : Claim7 := { stood := { row := edgeHoldsMatchSpecUptoRow, standIns := [], harness := (true, "4f73bc97ccb0c7732e381e82b4b386f4e0e0f98fe33e6cbddd5397fda8e6a372"), looks := true }, kinds := [], alts := [], laidByText := true, laidKinds := [.data, .pinned], laidTests := true, laidLooks := .later }
def EdgeHoldsMatchSpecUptoCardSaid : Prop := Claim7.holds Tryz.pinned (.plain (OpenSpec.upto edgeHoldsMatchSpecSpec)) edgeHoldsMatchSpecUptoCard
end Rows
end Go.Proofs.YtgohddfnhofjhaaGreatDoor
