/-
  DERIVED. GIVEN WITH THE SEED: THE CARDS: each row of YtlbhkndjmfcocaaDoorRows.lean that lists a variable, with what it lists TIED to the program's text (the seventh form; the later family's looks); each row that meets fmt, with fmt's text TOLD by the authors' own Lean function (tested against real Go, not proved from fmt's source: count such statements apart). THE CARD IS WHAT COUNTS. Prove the row's statement (the work); the ties are given (YtlbhkndjmfcocaaDoorTie.lean); close each card by the builder's one call (the guide's Derived/Test/ToyasCard.lean, 'card_holds'). Laid BY PROGRAM, IN A SANDBOX (cutbox-door.mjs). By AI agents, Wed Nov 11 2026. No macro, syntax, notation, axiom, sorry.
-/
import Derived.Test.YtlbhkndjmfcocaaDoorRows
import GoSem.ClaimSeven
namespace Go.Proofs.YtlbhkndjmfcocaaDoor
namespace Rows

/-- THE TIED CARD OF 'lychgatelaw12.LinesAll'. -/
def linesAllCard : Claim7 := { stood := { row := linesAllRow, standIns := [], harness := (true, "a1e36c86e1af1e42c85489f20162f7efa8b5023bd0748c29a79645a56b5ecb77"), looks := false }, kinds := [], alts := [], laidByText := true, laidKinds := [.data, .data, .data, .data, .pinned], laidTests := true, laidLooks := .later }
def LinesAllCardSaid : Prop := Claim7.holds Tryd.pinned (.plain (OpenSpec.ofChange linesAllSpec)) linesAllCard

/-- THE TIED CARD OF 'lychgatelaw12.LinesNumber'. -/
def linesNumberCard : Claim7 := { stood := { row := linesNumberRow, standIns := [], harness := (true, "a1e36c86e1af1e42c85489f20162f7efa8b5023bd0748c29a79645a56b5ecb77"), looks := false }, kinds := [], alts := [], laidByText := true, laidKinds := [.data, .data, .data, .data, .pinned], laidTests := true, laidLooks := .later }
def LinesNumberCardSaid : Prop := Claim7.holds Tryd.pinned (.plain (OpenSpec.ofChange linesNumberSpec)) linesNumberCard

/-- THE SECOND FORM's CARD OF 'lychgatelaw12.LinesAll'. -/
def linesAllUptoCard : Claim7 := { stood := { row := linesAllUptoRow, standIns := [], harness := (true, "a1e36c86e1af1e42c85489f20162f7efa8b5023bd0748c29a79645a56b5ecb77"), looks := false }, kinds := [], alts := [], laidByText := true, laidKinds := [.data, .data, .data, .data, .pinned], laidTests := true, laidLooks := .later }
def LinesAllUptoCardSaid : Prop := Claim7.holds Tryd.pinned (.plain (OpenSpec.upto linesAllSpec)) linesAllUptoCard

/-- THE SECOND FORM's CARD OF 'lychgatelaw12.LinesNumber'. -/
def linesNumberUptoCard : Claim7 := { stood := { row := linesNumberUptoRow, standIns := [], harness := (true, "a1e36c86e1af1e42c85489f20162f7efa8b5023bd0748c29a79645a56b5ecb77"), looks := false }, kinds := [], alts := [], laidByText := true, laidKinds := [.data, .data, .data, .data, .pinned], laidTests := true, laidLooks := .later }
def LinesNumberUptoCardSaid : Prop := Claim7.holds Tryd.pinned (.plain (OpenSpec.upto linesNumberSpec)) linesNumberUptoCard
end Rows
end Go.Proofs.YtlbhkndjmfcocaaDoor
