/-
  DERIVED. GIVEN WITH THE SEED: THE CARDS: each row of YtehbmnkbmgnkfaaGreatDoorRows.lean that lists a variable, with what it lists TIED to the program's text (the seventh form; the later family's looks); each row that meets fmt, with fmt's text TOLD by the authors' own Lean function (tested against real Go, not proved from fmt's source: count such statements apart). THE CARD IS WHAT COUNTS. Prove the row's statement (the work); the ties are given (YtehbmnkbmgnkfaaGreatDoorTie.lean); close each card by the builder's one call (the guide's Derived/Test/ToyasCard.lean, 'card_holds'). Laid BY PROGRAM, IN A SANDBOX (cutbox-door.mjs). By AI agents, Wed Nov 11 2026. No macro, syntax, notation, axiom, sorry.
-/
import Derived.Test.YtehbmnkbmgnkfaaGreatDoorRows
import GoSem.ClaimSeven
namespace Go.Proofs.YtehbmnkbmgnkfaaGreatDoor
namespace Rows

/-- THE TIED CARD OF 'headendtop.TopPlaylistsNeverGoBack'. -/
def topPlaylistsNeverGoBackCard : Claim7 := { stood := { row := topPlaylistsNeverGoBackRow, standIns := [], harness := (true, "90b5970a3b4ba151a71d3a99ba723e6c4f2068533dcbd63f64ca0e22e6072147"), looks := true }, kinds := [], alts := [], laidByText := true, laidKinds := [.data, .data, .data], laidTests := true, laidLooks := .later }
def TopPlaylistsNeverGoBackCardSaid : Prop := Claim7.holds Tryz.pinned (.plain (OpenSpec.ofChange topPlaylistsNeverGoBackSpec)) topPlaylistsNeverGoBackCard

/-- THE SECOND FORM's CARD OF 'headendtop.TopPlaylistsNeverGoBack'. -/
def topPlaylistsNeverGoBackUptoCard : Claim7 := { stood := { row := topPlaylistsNeverGoBackUptoRow, standIns := [], harness := (true, "90b5970a3b4ba151a71d3a99ba723e6c4f2068533dcbd63f64ca0e22e6072147"), looks := true }, kinds := [], alts := [], laidByText := true, laidKinds := [.data, .data, .data], laidTests := true, laidLooks := .later }
def TopPlaylistsNeverGoBackUptoCardSaid : Prop := Claim7.holds Tryz.pinned (.plain (OpenSpec.upto topPlaylistsNeverGoBackSpec)) topPlaylistsNeverGoBackUptoCard
end Rows
end Go.Proofs.YtehbmnkbmgnkfaaGreatDoor
