/-
  DERIVED. GIVEN WITH THE SEED: THE CARDS: each row of YtgpkcooipadnpaaDoorRows.lean that lists a variable, with what it lists TIED to the program's text (the seventh form; the later family's looks); each row that meets fmt, with fmt's text TOLD by the authors' own Lean function (tested against real Go, not proved from fmt's source: count such statements apart). THE CARD IS WHAT COUNTS. Prove the row's statement (the work); the ties are given (YtgpkcooipadnpaaDoorTie.lean); close each card by the builder's one call (the guide's Derived/Test/ToyasCard.lean, 'card_holds'). Laid BY PROGRAM, IN A SANDBOX (cutbox-door.mjs). By AI agents, Wed Nov 11 2026. No macro, syntax, notation, axiom, sorry.
-/
import Derived.Test.YtgpkcooipadnpaaDoorRows
import GoSem.ClaimSeven
namespace Go.Proofs.YtgpkcooipadnpaaDoor
namespace Rows

/-- THE TIED CARD OF 'ganseylaw14.WrittenShorten'. -/
def writtenShortenCard : Claim7 := { stood := { row := writtenShortenRow, standIns := [], harness := (true, "155a4a617ee21aaee3bb0b46393232a81c5a1cd2621e07606de2ce6cf7561429"), looks := true }, kinds := [], alts := [], laidByText := true, laidKinds := [.data, .data, .data, .sentinel, .sentinel], laidTests := true, laidLooks := .later }
def WrittenShortenCardSaid : Prop := Claim7.holds Tryd.pinned (.plain (OpenSpec.ofChange writtenShortenSpec)) writtenShortenCard

/-- THE TIED CARD OF 'ganseylaw14.WrittenLeast'. -/
def writtenLeastCard : Claim7 := { stood := { row := writtenLeastRow, standIns := [], harness := (true, "155a4a617ee21aaee3bb0b46393232a81c5a1cd2621e07606de2ce6cf7561429"), looks := true }, kinds := [], alts := [], laidByText := true, laidKinds := [.data, .data, .data, .sentinel, .sentinel], laidTests := true, laidLooks := .later }
def WrittenLeastCardSaid : Prop := Claim7.holds Tryd.pinned (.plain (OpenSpec.ofChange writtenLeastSpec)) writtenLeastCard

/-- THE TIED CARD OF 'ganseylaw14.WrittenTwice'. -/
def writtenTwiceCard : Claim7 := { stood := { row := writtenTwiceRow, standIns := [], harness := (true, "155a4a617ee21aaee3bb0b46393232a81c5a1cd2621e07606de2ce6cf7561429"), looks := true }, kinds := [], alts := [], laidByText := true, laidKinds := [.data, .data, .data, .sentinel, .sentinel], laidTests := true, laidLooks := .later }
def WrittenTwiceCardSaid : Prop := Claim7.holds Tryd.pinned (.plain (OpenSpec.ofChange writtenTwiceSpec)) writtenTwiceCard

/-- THE SECOND FORM's CARD OF 'ganseylaw14.WrittenShorten'. -/
def writtenShortenUptoCard : Claim7 := { stood := { row := writtenShortenUptoRow, standIns := [], harness := (true, "155a4a617ee21aaee3bb0b46393232a81c5a1cd2621e07606de2ce6cf7561429"), looks := true }, kinds := [], alts := [], laidByText := true, laidKinds := [.data, .data, .data, .sentinel, .sentinel], laidTests := true, laidLooks := .later }
def WrittenShortenUptoCardSaid : Prop := Claim7.holds Tryd.pinned (.plain (OpenSpec.upto writtenShortenSpec)) writtenShortenUptoCard

/-- THE SECOND FORM's CARD OF 'ganseylaw14.WrittenLeast'. -/
def writtenLeastUptoCard : Claim7 := { stood := { row := writtenLeastUptoRow, standIns := [], harness := (true, "155a4a617ee21aaee3bb0b46393232a81c5a1cd2621e07606de2ce6cf7561429"), looks := true }, kinds := [], alts := [], laidByText := true, laidKinds := [.data, .data, .data, .sentinel, .sentinel], laidTests := true, laidLooks := .later }
def WrittenLeastUptoCardSaid : Prop := Claim7.holds Tryd.pinned (.plain (OpenSpec.upto writtenLeastSpec)) writtenLeastUptoCard

/-- THE SECOND FORM's CARD OF 'ganseylaw14.WrittenTwice'. -/
def writtenTwiceUptoCard : Claim7 := { stood := { row := writtenTwiceUptoRow, standIns := [], harness := (true, "155a4a617ee21aaee3bb0b46393232a81c5a1cd2621e07606de2ce6cf7561429"), looks := true }, kinds := [], alts := [], laidByText := true, laidKinds := [.data, .data, .data, .sentinel, .sentinel], laidTests := true, laidLooks := .later }
def WrittenTwiceUptoCardSaid : Prop := Claim7.holds Tryd.pinned (.plain (OpenSpec.upto writtenTwiceSpec)) writtenTwiceUptoCard
end Rows
end Go.Proofs.YtgpkcooipadnpaaDoor
