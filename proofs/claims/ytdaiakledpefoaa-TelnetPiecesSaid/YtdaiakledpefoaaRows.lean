/-
  No cell of these rows narrows 'for every input' (looked for: loops, veiled, ifaces, maps, wideKeys, modest, calm, conditions, laid).
  DERIVED. THE GIVEN ROWS OF THIS SEAT. 5 by the template 'for every input the law returns true; each argument reads behind the call as it read before'; 0 by the template 'total and deterministic' (their statements: YtdaiakledpefoaaTotals.lean).
  GIVEN WITH THE SEED: the statements are not yours to turn. If you find one false, say at which input.
  Laid BY PROGRAM, IN A SANDBOX (cutbox-rows.mjs): the forced cells as the released guide's own fill.sh prints them over the translation 21ad66e175c539bd… (all of the seat's roots in one cut). By AI agents, Wed Nov 11 2026. No macro, syntax, notation, axiom, sorry.
-/
import Derived.Test.YtdaiakledpefoaaChecked
import GoSem.Claim
import GoSem.ClaimJoined
import GoSem.ClaimMapViews
import Derived.JoinedTies
import Derived.KernelRfl
namespace Go.Proofs.Ytdaiakledpefoaa
/- THE CELL 'sum', in the pinned program and in every row, IS THE sha256 OF THE DUMP (.gsa) THAT YtdaiakledpefoaaProg.lean LOADS. Nothing in Lean hashes anything: it is a label: what it is worth is what the hold of that sum in a sandbox is worth. -/
noncomputable def Try.pinned : Pinned := { name := "ytdaiakledpefoaa", sum := "21ad66e175c539bd99a2659376670b1793efc25cb573754f7f6496a8f274c31a", checked := Try.checked }
namespace Rows
def none {H : Type} : Left H := { results := [], args := [] }

/-- 'lychgatelaw26.TelnetPieces': WHATEVER THE INPUT: true; the input reads as it did. -/
def telnetPiecesSpec : ChangeSpec := { name := "telnetPieces", fn := fun _ => fun
  | [d1, d2] => { results := [.lit (.bool true)], args := [d1, d2] }
  | _ => none }
def telnetPiecesRow : OpenClaim := { program := "ytdaiakledpefoaa", sum := "21ad66e175c539bd99a2659376670b1793efc25cb573754f7f6496a8f274c31a", func := "lychgate/lychgatelaw26.TelnetPieces", spec := "telnetPieces", apart := false }
def TelnetPiecesSaid : Prop := telnetPiecesRow.holds Try.pinned (OpenSpec.ofChange telnetPiecesSpec)

/-- ITS FALSE NEIGHBOUR: 'it returns false'. Refute it at one input. -/
def telnetPiecesWrong : ChangeSpec := { name := "telnetPieces", fn := fun _ => fun
  | [d1, d2] => { results := [.lit (.bool false)], args := [d1, d2] }
  | _ => none }
def TelnetPiecesWrongFalsely : Prop := telnetPiecesRow.holds Try.pinned (OpenSpec.ofChange telnetPiecesWrong)

/-- 'lychgatelaw26.TelnetText': WHATEVER THE INPUT: true; the input reads as it did. -/
def telnetTextSpec : ChangeSpec := { name := "telnetText", fn := fun _ => fun
  | [d] => { results := [.lit (.bool true)], args := [d] }
  | _ => none }
def telnetTextRow : OpenClaim := { program := "ytdaiakledpefoaa", sum := "21ad66e175c539bd99a2659376670b1793efc25cb573754f7f6496a8f274c31a", func := "lychgate/lychgatelaw26.TelnetText", spec := "telnetText", apart := false }
def TelnetTextSaid : Prop := telnetTextRow.holds Try.pinned (OpenSpec.ofChange telnetTextSpec)

/-- ITS FALSE NEIGHBOUR: 'it returns false'. Refute it at one input. -/
def telnetTextWrong : ChangeSpec := { name := "telnetText", fn := fun _ => fun
  | [d] => { results := [.lit (.bool false)], args := [d] }
  | _ => none }
def TelnetTextWrongFalsely : Prop := telnetTextRow.holds Try.pinned (OpenSpec.ofChange telnetTextWrong)

/-- 'lychgatelaw26.TelnetLong': WHATEVER THE INPUT: true; the input reads as it did. -/
def telnetLongSpec : ChangeSpec := { name := "telnetLong", fn := fun _ => fun
  | [d1, d2] => { results := [.lit (.bool true)], args := [d1, d2] }
  | _ => none }
def telnetLongRow : OpenClaim := { program := "ytdaiakledpefoaa", sum := "21ad66e175c539bd99a2659376670b1793efc25cb573754f7f6496a8f274c31a", func := "lychgate/lychgatelaw26.TelnetLong", spec := "telnetLong", apart := false }
def TelnetLongSaid : Prop := telnetLongRow.holds Try.pinned (OpenSpec.ofChange telnetLongSpec)

/-- ITS FALSE NEIGHBOUR: 'it returns false'. Refute it at one input. -/
def telnetLongWrong : ChangeSpec := { name := "telnetLong", fn := fun _ => fun
  | [d1, d2] => { results := [.lit (.bool false)], args := [d1, d2] }
  | _ => none }
def TelnetLongWrongFalsely : Prop := telnetLongRow.holds Try.pinned (OpenSpec.ofChange telnetLongWrong)

/-- 'lychgatelaw26.TelnetOptions': WHATEVER THE INPUT: true; the input reads as it did. -/
def telnetOptionsSpec : ChangeSpec := { name := "telnetOptions", fn := fun _ => fun
  | [d1, d2, d3] => { results := [.lit (.bool true)], args := [d1, d2, d3] }
  | _ => none }
def telnetOptionsRow : OpenClaim := { program := "ytdaiakledpefoaa", sum := "21ad66e175c539bd99a2659376670b1793efc25cb573754f7f6496a8f274c31a", func := "lychgate/lychgatelaw26.TelnetOptions", spec := "telnetOptions", apart := false }
def TelnetOptionsSaid : Prop := telnetOptionsRow.holds Try.pinned (OpenSpec.ofChange telnetOptionsSpec)

/-- ITS FALSE NEIGHBOUR: 'it returns false'. Refute it at one input. -/
def telnetOptionsWrong : ChangeSpec := { name := "telnetOptions", fn := fun _ => fun
  | [d1, d2, d3] => { results := [.lit (.bool false)], args := [d1, d2, d3] }
  | _ => none }
def TelnetOptionsWrongFalsely : Prop := telnetOptionsRow.holds Try.pinned (OpenSpec.ofChange telnetOptionsWrong)

/-- 'lychgatelaw26.TelnetErase': WHATEVER THE INPUT: true; the input reads as it did. -/
def telnetEraseSpec : ChangeSpec := { name := "telnetErase", fn := fun _ => fun
  | [d1, d2, d3] => { results := [.lit (.bool true)], args := [d1, d2, d3] }
  | _ => none }
def telnetEraseRow : OpenClaim := { program := "ytdaiakledpefoaa", sum := "21ad66e175c539bd99a2659376670b1793efc25cb573754f7f6496a8f274c31a", func := "lychgate/lychgatelaw26.TelnetErase", spec := "telnetErase", apart := false }
def TelnetEraseSaid : Prop := telnetEraseRow.holds Try.pinned (OpenSpec.ofChange telnetEraseSpec)

/-- ITS FALSE NEIGHBOUR: 'it returns false'. Refute it at one input. -/
def telnetEraseWrong : ChangeSpec := { name := "telnetErase", fn := fun _ => fun
  | [d1, d2, d3] => { results := [.lit (.bool false)], args := [d1, d2, d3] }
  | _ => none }
def TelnetEraseWrongFalsely : Prop := telnetEraseRow.holds Try.pinned (OpenSpec.ofChange telnetEraseWrong)

/- THE SECOND FORM. 'bulk': how many values and letters a reading holds, each counted each time it is reached (what is shared counts as often as it is met; a slice's spare places count too). A statement '..UptoSaid' is the law's where the arguments, and the package variables that the reading takes, are together of bulk at most 1048576: NARROWER than '..Said'. Prove '..Said' where nothing that the law and all that it calls make is longer than what came in: it says more and counts as full. Else prove '..UptoSaid'. A law counts once. -/
mutual
def uptoBulk {H : Type} : DataW H → Nat
  | .lit (.string bytes) => bytes.length + 1
  | .lit _ => 1
  | .nil => 1
  | .ptr d => uptoBulk d + 1
  | .slice elems spare => uptoBulkAll elems + uptoBulkAll spare + 1
  | .agg parts => uptoBulkAll parts + 1
  | .iface _ d => uptoBulk d + 1
  | .map entries => uptoBulkEntries entries + 1
  | .held _ => 1
def uptoBulkAll {H : Type} : List (DataW H) → Nat
  | [] => 0
  | d :: r => uptoBulk d + uptoBulkAll r
def uptoBulkEntries {H : Type} : List (Lit × DataW H) → Nat
  | [] => 0
  | x :: r => uptoBulkEntry x + uptoBulkEntries r
def uptoBulkEntry {H : Type} : Lit × DataW H → Nat
  | (.string bytes, d) => bytes.length + uptoBulk d + 1
  | (_, d) => uptoBulk d + 1
 end
def uptoSmall : (H : Type) → List (DataW H) → Bool := fun _ ds => decide (uptoBulkAll ds ≤ 1048576)
def OpenSpec.upto (s : _root_.Go.ChangeSpec) : _root_.Go.OpenSpec := { _root_.Go.OpenSpec.ofChange s with cond := some uptoSmall }

/-- 'lychgatelaw26.TelnetPieces', WHERE WHAT IT READS IS OF BULK AT MOST 1048576: true; the input reads as it did. -/
def telnetPiecesUptoRow : OpenClaim := { program := "ytdaiakledpefoaa", sum := "21ad66e175c539bd99a2659376670b1793efc25cb573754f7f6496a8f274c31a", func := "lychgate/lychgatelaw26.TelnetPieces", spec := "telnetPieces", apart := false, narrowed := true }
def TelnetPiecesUptoSaid : Prop := telnetPiecesUptoRow.holds Try.pinned (OpenSpec.upto telnetPiecesSpec)

/-- 'lychgatelaw26.TelnetText', WHERE WHAT IT READS IS OF BULK AT MOST 1048576: true; the input reads as it did. -/
def telnetTextUptoRow : OpenClaim := { program := "ytdaiakledpefoaa", sum := "21ad66e175c539bd99a2659376670b1793efc25cb573754f7f6496a8f274c31a", func := "lychgate/lychgatelaw26.TelnetText", spec := "telnetText", apart := false, narrowed := true }
def TelnetTextUptoSaid : Prop := telnetTextUptoRow.holds Try.pinned (OpenSpec.upto telnetTextSpec)

/-- 'lychgatelaw26.TelnetLong', WHERE WHAT IT READS IS OF BULK AT MOST 1048576: true; the input reads as it did. -/
def telnetLongUptoRow : OpenClaim := { program := "ytdaiakledpefoaa", sum := "21ad66e175c539bd99a2659376670b1793efc25cb573754f7f6496a8f274c31a", func := "lychgate/lychgatelaw26.TelnetLong", spec := "telnetLong", apart := false, narrowed := true }
def TelnetLongUptoSaid : Prop := telnetLongUptoRow.holds Try.pinned (OpenSpec.upto telnetLongSpec)

/-- 'lychgatelaw26.TelnetOptions', WHERE WHAT IT READS IS OF BULK AT MOST 1048576: true; the input reads as it did. -/
def telnetOptionsUptoRow : OpenClaim := { program := "ytdaiakledpefoaa", sum := "21ad66e175c539bd99a2659376670b1793efc25cb573754f7f6496a8f274c31a", func := "lychgate/lychgatelaw26.TelnetOptions", spec := "telnetOptions", apart := false, narrowed := true }
def TelnetOptionsUptoSaid : Prop := telnetOptionsUptoRow.holds Try.pinned (OpenSpec.upto telnetOptionsSpec)

/-- 'lychgatelaw26.TelnetErase', WHERE WHAT IT READS IS OF BULK AT MOST 1048576: true; the input reads as it did. -/
def telnetEraseUptoRow : OpenClaim := { program := "ytdaiakledpefoaa", sum := "21ad66e175c539bd99a2659376670b1793efc25cb573754f7f6496a8f274c31a", func := "lychgate/lychgatelaw26.TelnetErase", spec := "telnetErase", apart := false, narrowed := true }
def TelnetEraseUptoSaid : Prop := telnetEraseUptoRow.holds Try.pinned (OpenSpec.upto telnetEraseSpec)

end Rows
end Go.Proofs.Ytdaiakledpefoaa
