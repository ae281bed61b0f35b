/-
  DERIVED. GIVEN WITH THE SEED: THE CARDS: each row of YthejchmhjcfdiaaDoorRows.lean that lists a variable, with what it lists TIED to the program's text (the seventh form; the later family's looks); each row that meets fmt, with fmt's text TOLD by the authors' own Lean function (tested against real Go, not proved from fmt's source: count such statements apart). THE CARD IS WHAT COUNTS. Prove the row's statement (the work); the ties are given (YthejchmhjcfdiaaDoorTie.lean); close each card by the builder's one call (the guide's Derived/Test/ToyasCard.lean, 'card_holds'). Laid BY PROGRAM, IN A SANDBOX (cutbox-door.mjs). By AI agents, Wed Nov 11 2026. No macro, syntax, notation, axiom, sorry.
-/
import Derived.Test.YthejchmhjcfdiaaDoorRows
import GoSem.ClaimSeven
namespace Go.Proofs.YthejchmhjcfdiaaDoor
namespace Rows

/-- THE TIED CARD OF 'lychgatelaw4.BitsAll'. -/
def bitsAllCard : Claim7 := { stood := { row := bitsAllRow, standIns := [], harness := (true, "36eedd649ba05e170a16bbe798d55a6a545549318d8924772c93e8addfeeabfd"), looks := true }, kinds := [], alts := [], laidByText := true, laidKinds := [.data, .data, .data], laidTests := true, laidLooks := .later }
def BitsAllCardSaid : Prop := Claim7.holds Tryd.pinned (.plain (OpenSpec.ofChange bitsAllSpec)) bitsAllCard

/-- THE TIED CARD OF 'lychgatelaw1.DiskOrder'. -/
def diskOrderCard : Claim7 := { stood := { row := diskOrderRow, standIns := [], harness := (true, "36eedd649ba05e170a16bbe798d55a6a545549318d8924772c93e8addfeeabfd"), looks := true }, kinds := [], alts := [], laidByText := true, laidKinds := [.data, .data, .data], laidTests := true, laidLooks := .later }
def DiskOrderCardSaid : Prop := Claim7.holds Tryd.pinned (.plain (OpenSpec.ofChange diskOrderSpec)) diskOrderCard

/-- THE TIED CARD OF 'lychgatelaw1.DiskNone'. -/
def diskNoneCard : Claim7 := { stood := { row := diskNoneRow, standIns := [], harness := (true, "36eedd649ba05e170a16bbe798d55a6a545549318d8924772c93e8addfeeabfd"), looks := true }, kinds := [], alts := [], laidByText := true, laidKinds := [.data, .data, .data], laidTests := true, laidLooks := .later }
def DiskNoneCardSaid : Prop := Claim7.holds Tryd.pinned (.plain (OpenSpec.ofChange diskNoneSpec)) diskNoneCard

/-- THE TIED CARD OF 'lychgatelaw1.DiskLimit'. -/
def diskLimitCard : Claim7 := { stood := { row := diskLimitRow, standIns := [], harness := (true, "36eedd649ba05e170a16bbe798d55a6a545549318d8924772c93e8addfeeabfd"), looks := true }, kinds := [], alts := [], laidByText := true, laidKinds := [.data, .data, .data], laidTests := true, laidLooks := .later }
def DiskLimitCardSaid : Prop := Claim7.holds Tryd.pinned (.plain (OpenSpec.ofChange diskLimitSpec)) diskLimitCard

/-- THE SECOND FORM's CARD OF 'lychgatelaw4.BitsAll'. -/
def bitsAllUptoCard : Claim7 := { stood := { row := bitsAllUptoRow, standIns := [], harness := (true, "36eedd649ba05e170a16bbe798d55a6a545549318d8924772c93e8addfeeabfd"), looks := true }, kinds := [], alts := [], laidByText := true, laidKinds := [.data, .data, .data], laidTests := true, laidLooks := .later }
def BitsAllUptoCardSaid : Prop := Claim7.holds Tryd.pinned (.plain (OpenSpec.upto bitsAllSpec)) bitsAllUptoCard

/-- THE SECOND FORM's CARD OF 'lychgatelaw1.DiskOrder'. -/
def diskOrderUptoCard : Claim7 := { stood := { row := diskOrderUptoRow, standIns := [], harness := (true, "36eedd649ba05e170a16bbe798d55a6a545549318d8924772c93e8addfeeabfd"), looks := true }, kinds := [], alts := [], laidByText := true, laidKinds := [.data, .data, .data], laidTests := true, laidLooks := .later }
def DiskOrderUptoCardSaid : Prop := Claim7.holds Tryd.pinned (.plain (OpenSpec.upto diskOrderSpec)) diskOrderUptoCard

/-- THE SECOND FORM's CARD OF 'lychgatelaw1.DiskNone'. -/
def diskNoneUptoCard : Claim7 := { stood := { row := diskNoneUptoRow, standIns := [], harness := (true, "36eedd649ba05e170a16bbe798d55a6a545549318d8924772c93e8addfeeabfd"), looks := true }, kinds := [], alts := [], laidByText := true, laidKinds := [.data, .data, .data], laidTests := true, laidLooks := .later }
def DiskNoneUptoCardSaid : Prop := Claim7.holds Tryd.pinned (.plain (OpenSpec.upto diskNoneSpec)) diskNoneUptoCard

/-- THE SECOND FORM's CARD OF 'lychgatelaw1.DiskLimit'. -/
def diskLimitUptoCard : Claim7 := { stood := { row := diskLimitUptoRow, standIns := [], harness := (true, "36eedd649ba05e170a16bbe798d55a6a545549318d8924772c93e8addfeeabfd"), looks := true }, kinds := [], alts := [], laidByText := true, laidKinds := [.data, .data, .data], laidTests := true, laidLooks := .later }
def DiskLimitUptoCardSaid : Prop := Claim7.holds Tryd.pinned (.plain (OpenSpec.upto diskLimitSpec)) diskLimitUptoCard
end Rows
end Go.Proofs.YthejchmhjcfdiaaDoor
