/-
  DERIVED. GIVEN WITH THE SEED: THE CARDS: each row of YteepbfpcdhdgfaaDoorRows.lean that lists a variable, with what it lists TIED to the program's text (the seventh form; the later family's looks); each row that meets fmt, with fmt's text TOLD by the authors' own Lean function (tested against real Go, not proved from fmt's source: count such statements apart). THE CARD IS WHAT COUNTS. Prove the row's statement (the work); the ties are given (YteepbfpcdhdgfaaDoorTie.lean); close each card by the builder's one call (the guide's Derived/Test/ToyasCard.lean, 'card_holds'). Laid BY PROGRAM, IN A SANDBOX (cutbox-door.mjs). By AI agents, Wed Nov 11 2026. No macro, syntax, notation, axiom, sorry.
-/
import Derived.Test.YteepbfpcdhdgfaaDoorRows
import GoSem.ClaimSeven
namespace Go.Proofs.YteepbfpcdhdgfaaDoor
namespace Rows

/-- THE TIED CARD OF 'headendlaw10.EdgePicksStay'. -/
def edgePicksStayCard : Claim7 := { stood := { row := edgePicksStayRow, standIns := [], harness := (true, "2a7f2dddf9c4f9a19c24de0a2588c53b43fdd86688ac363216c068ff912ad1ce"), looks := false }, kinds := [], alts := [], laidByText := true, laidKinds := [.data, .pinned], laidTests := true, laidLooks := .later }
def EdgePicksStayCardSaid : Prop := Claim7.holds Tryd.pinned (.plain (OpenSpec.ofChange edgePicksStaySpec)) edgePicksStayCard

/-- THE TIED CARD OF 'headendlaw10.EdgePicksMatchSpec'. -/
def edgePicksMatchSpecCard : Claim7 := { stood := { row := edgePicksMatchSpecRow, standIns := [], harness := (true, "2a7f2dddf9c4f9a19c24de0a2588c53b43fdd86688ac363216c068ff912ad1ce"), looks := false }, kinds := [], alts := [], laidByText := true, laidKinds := [.data, .pinned], laidTests := true, laidLooks := .later }
def EdgePicksMatchSpecCardSaid : Prop := Claim7.holds Tryd.pinned (.plain (OpenSpec.ofChange edgePicksMatchSpecSpec)) edgePicksMatchSpecCard

/-- THE SECOND FORM's CARD OF 'headendlaw10.EdgePicksStay'. -/
def edgePicksStayUptoCard : Claim7 := { stood := { row := edgePicksStayUptoRow, standIns := [], harness := (true, "2a7f2dddf9c4f9a19c24de0a2588c53b43fdd86688ac363216c068ff912ad1ce"), looks := false }, kinds := [], alts := [], laidByText := true, laidKinds := [.data, .pinned], laidTests := true, laidLooks := .later }
def EdgePicksStayUptoCardSaid : Prop := Claim7.holds Tryd.pinned (.plain (OpenSpec.upto edgePicksStaySpec)) edgePicksStayUptoCard

/-- THE SECOND FORM's CARD OF 'headendlaw10.EdgePicksMatchSpec'. -/
def edgePicksMatchSpecUptoCard : Claim7 := { stood := { row := edgePicksMatchSpecUptoRow, standIns := [], harness := (true, "2a7f2dddf9c4f9a19c24de0a2588c53b43fdd86688ac363216c068ff912ad1ce"), looks := false }, kinds := [], alts := [], laidByText := true, laidKinds := [.data, .pinned], laidTests := true, laidLooks := .later }
def EdgePicksMatchSpecUptoCardSaid : Prop := Claim7.holds Tryd.pinned (.plain (OpenSpec.upto edgePicksMatchSpecSpec)) edgePicksMatchSpecUptoCard
end Rows
end Go.Proofs.YteepbfpcdhdgfaaDoor
