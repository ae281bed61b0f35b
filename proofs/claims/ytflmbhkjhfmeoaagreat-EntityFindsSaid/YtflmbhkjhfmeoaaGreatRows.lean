/-
  No cell of these rows narrows 'for every input' (looked for: loops, veiled, ifaces, maps, wideKeys, modest, calm, conditions, laid).
  DERIVED. THE GIVEN ROWS OF THIS SEAT. 4 by the template 'for every input the law returns true; each argument reads behind the call as it read before'; 0 by the template 'total and deterministic' (their statements: YtflmbhkjhfmeoaaGreatTotals.lean).
  GIVEN WITH THE SEED: the statements are not yours to turn. If you find one false, say at which input.
  Laid BY PROGRAM, IN A SANDBOX (cutbox-rows.mjs): the forced cells as the released guide's own fill.sh prints them over the translation e2c529db8619e51a… (all of the seat's roots in one cut). By AI agents, Wed Nov 11 2026. No macro, syntax, notation, axiom, sorry.
-/
import Derived.Test.YtflmbhkjhfmeoaaGreatChecked
import GoSem.Claim
import GoSem.ClaimJoined
import GoSem.ClaimMapViews
import Derived.JoinedTies
import Derived.KernelRfl
namespace Go.Proofs.YtflmbhkjhfmeoaaGreat
/- THE CELL 'sum', in the pinned program and in every row, IS THE sha256 OF THE DUMP (.gsa) THAT YtflmbhkjhfmeoaaGreatProg.lean LOADS. Nothing in Lean hashes anything: it is a label: what it is worth is what the hold of that sum in a sandbox is worth. -/
noncomputable def Tryz.pinned : Pinned := { name := "ytflmbhkjhfmeoaagreat", sum := "e2c529db8619e51a51e1a3aa149a924f0a036985e8824ddcd41c7fd7c306505d", checked := Tryz.checked }
namespace Rows
def none {H : Type} : Left H := { results := [], args := [] }

/-- 'lychgatelaw19.CombatKill': WHATEVER THE INPUT: true; the input reads as it did. -/
def combatKillSpec : ChangeSpec := { name := "combatKill", fn := fun _ => fun
  | [d1, d2, d3, d4] => { results := [.lit (.bool true)], args := [d1, d2, d3, d4] }
  | _ => none }
def combatKillRow : OpenClaim := { program := "ytflmbhkjhfmeoaagreat", sum := "e2c529db8619e51a51e1a3aa149a924f0a036985e8824ddcd41c7fd7c306505d", func := "lychgate/lychgatelaw19.CombatKill", spec := "combatKill", inPlace := ["internal/bytealg.IndexByteString", "internal/bytealg.IndexString"], unfollowed := true, recurses := true, named := ["internal/bytealg.MaxLen"], apart := false }
def CombatKillSaid : Prop := combatKillRow.holds Tryz.pinned (OpenSpec.ofChange combatKillSpec)

/-- ITS FALSE NEIGHBOUR: 'it returns false'. Refute it at one input. -/
def combatKillWrong : ChangeSpec := { name := "combatKill", fn := fun _ => fun
  | [d1, d2, d3, d4] => { results := [.lit (.bool false)], args := [d1, d2, d3, d4] }
  | _ => none }
def CombatKillWrongFalsely : Prop := combatKillRow.holds Tryz.pinned (OpenSpec.ofChange combatKillWrong)

/-- 'lychgatelaw18.MotionGo': WHATEVER THE INPUT: true; the input reads as it did. -/
def motionGoSpec : ChangeSpec := { name := "motionGo", fn := fun _ => fun
  | [d1, d2, d3, d4, d5] => { results := [.lit (.bool true)], args := [d1, d2, d3, d4, d5] }
  | _ => none }
def motionGoRow : OpenClaim := { program := "ytflmbhkjhfmeoaagreat", sum := "e2c529db8619e51a51e1a3aa149a924f0a036985e8824ddcd41c7fd7c306505d", func := "lychgate/lychgatelaw18.MotionGo", spec := "motionGo", inPlace := ["internal/bytealg.IndexByteString", "internal/bytealg.IndexString"], unfollowed := true, recurses := true, named := ["internal/bytealg.MaxLen"], apart := false }
def MotionGoSaid : Prop := motionGoRow.holds Tryz.pinned (OpenSpec.ofChange motionGoSpec)

/-- ITS FALSE NEIGHBOUR: 'it returns false'. Refute it at one input. -/
def motionGoWrong : ChangeSpec := { name := "motionGo", fn := fun _ => fun
  | [d1, d2, d3, d4, d5] => { results := [.lit (.bool false)], args := [d1, d2, d3, d4, d5] }
  | _ => none }
def MotionGoWrongFalsely : Prop := motionGoRow.holds Tryz.pinned (OpenSpec.ofChange motionGoWrong)

/-- 'lychgatelaw16.EntityMakes': WHATEVER THE INPUT: true; the input reads as it did. -/
def entityMakesSpec : ChangeSpec := { name := "entityMakes", fn := fun _ => fun
  | [d1, d2, d3, d4] => { results := [.lit (.bool true)], args := [d1, d2, d3, d4] }
  | _ => none }
def entityMakesRow : OpenClaim := { program := "ytflmbhkjhfmeoaagreat", sum := "e2c529db8619e51a51e1a3aa149a924f0a036985e8824ddcd41c7fd7c306505d", func := "lychgate/lychgatelaw16.EntityMakes", spec := "entityMakes", unfollowed := true, recurses := true, apart := false }
def EntityMakesSaid : Prop := entityMakesRow.holds Tryz.pinned (OpenSpec.ofChange entityMakesSpec)

/-- ITS FALSE NEIGHBOUR: 'it returns false'. Refute it at one input. -/
def entityMakesWrong : ChangeSpec := { name := "entityMakes", fn := fun _ => fun
  | [d1, d2, d3, d4] => { results := [.lit (.bool false)], args := [d1, d2, d3, d4] }
  | _ => none }
def EntityMakesWrongFalsely : Prop := entityMakesRow.holds Tryz.pinned (OpenSpec.ofChange entityMakesWrong)

/-- 'lychgatelaw16.EntityFinds': WHATEVER THE INPUT: true; the input reads as it did. -/
def entityFindsSpec : ChangeSpec := { name := "entityFinds", fn := fun _ => fun
  | [d1, d2, d3, d4] => { results := [.lit (.bool true)], args := [d1, d2, d3, d4] }
  | _ => none }
def entityFindsRow : OpenClaim := { program := "ytflmbhkjhfmeoaagreat", sum := "e2c529db8619e51a51e1a3aa149a924f0a036985e8824ddcd41c7fd7c306505d", func := "lychgate/lychgatelaw16.EntityFinds", spec := "entityFinds", inPlace := ["internal/bytealg.IndexByteString", "internal/bytealg.IndexString"], unfollowed := true, recurses := true, named := ["internal/bytealg.MaxLen"], apart := false }
def EntityFindsSaid : Prop := entityFindsRow.holds Tryz.pinned (OpenSpec.ofChange entityFindsSpec)

/-- ITS FALSE NEIGHBOUR: 'it returns false'. Refute it at one input. -/
def entityFindsWrong : ChangeSpec := { name := "entityFinds", fn := fun _ => fun
  | [d1, d2, d3, d4] => { results := [.lit (.bool false)], args := [d1, d2, d3, d4] }
  | _ => none }
def EntityFindsWrongFalsely : Prop := entityFindsRow.holds Tryz.pinned (OpenSpec.ofChange entityFindsWrong)

/- THE SECOND FORM. 'bulk': how many values and letters a reading holds, each counted each time it is reached (what is shared counts as often as it is met; a slice's spare places count too). A statement '..UptoSaid' is the law's where the arguments, and the package variables that the reading takes, are together of bulk at most 1048576: NARROWER than '..Said'. Prove '..Said' where nothing that the law and all that it calls make is longer than what came in: it says more and counts as full. Else prove '..UptoSaid'. A law counts once. -/
mutual
def uptoBulk {H : Type} : DataW H → Nat
  | .lit (.string bytes) => bytes.length + 1
  | .lit _ => 1
  | .nil => 1
  | .ptr d => uptoBulk d + 1
  | .slice elems spare => uptoBulkAll elems + uptoBulkAll spare + 1
  | .agg parts => uptoBulkAll parts + 1
  | .iface _ d => uptoBulk d + 1
  | .map entries => uptoBulkEntries entries + 1
  | .held _ => 1
def uptoBulkAll {H : Type} : List (DataW H) → Nat
  | [] => 0
  | d :: r => uptoBulk d + uptoBulkAll r
def uptoBulkEntries {H : Type} : List (Lit × DataW H) → Nat
  | [] => 0
  | x :: r => uptoBulkEntry x + uptoBulkEntries r
def uptoBulkEntry {H : Type} : Lit × DataW H → Nat
  | (.string bytes, d) => bytes.length + uptoBulk d + 1
  | (_, d) => uptoBulk d + 1
 end
def uptoSmall : (H : Type) → List (DataW H) → Bool := fun _ ds => decide (uptoBulkAll ds ≤ 1048576)
def OpenSpec.upto (s : _root_.Go.ChangeSpec) : _root_.Go.OpenSpec := { _root_.Go.OpenSpec.ofChange s with cond := some uptoSmall }

/-- 'lychgatelaw19.CombatKill', WHERE WHAT IT READS IS OF BULK AT MOST 1048576: true; the input reads as it did. -/
def combatKillUptoRow : OpenClaim := { program := "ytflmbhkjhfmeoaagreat", sum := "e2c529db8619e51a51e1a3aa149a924f0a036985e8824ddcd41c7fd7c306505d", func := "lychgate/lychgatelaw19.CombatKill", spec := "combatKill", inPlace := ["internal/bytealg.IndexByteString", "internal/bytealg.IndexString"], unfollowed := true, recurses := true, named := ["internal/bytealg.MaxLen"], apart := false, narrowed := true }
def CombatKillUptoSaid : Prop := combatKillUptoRow.holds Tryz.pinned (OpenSpec.upto combatKillSpec)

/-- 'lychgatelaw18.MotionGo', WHERE WHAT IT READS IS OF BULK AT MOST 1048576: true; the input reads as it did. -/
def motionGoUptoRow : OpenClaim := { program := "ytflmbhkjhfmeoaagreat", sum := "e2c529db8619e51a51e1a3aa149a924f0a036985e8824ddcd41c7fd7c306505d", func := "lychgate/lychgatelaw18.MotionGo", spec := "motionGo", inPlace := ["internal/bytealg.IndexByteString", "internal/bytealg.IndexString"], unfollowed := true, recurses := true, named := ["internal/bytealg.MaxLen"], apart := false, narrowed := true }
def MotionGoUptoSaid : Prop := motionGoUptoRow.holds Tryz.pinned (OpenSpec.upto motionGoSpec)

/-- 'lychgatelaw16.EntityMakes', WHERE WHAT IT READS IS OF BULK AT MOST 1048576: true; the input reads as it did. -/
def entityMakesUptoRow : OpenClaim := { program := "ytflmbhkjhfmeoaagreat", sum := "e2c529db8619e51a51e1a3aa149a924f0a036985e8824ddcd41c7fd7c306505d", func := "lychgate/lychgatelaw16.EntityMakes", spec := "entityMakes", unfollowed := true, recurses := true, apart := false, narrowed := true }
def EntityMakesUptoSaid : Prop := entityMakesUptoRow.holds Tryz.pinned (OpenSpec.upto entityMakesSpec)

/-- 'lychgatelaw16.EntityFinds', WHERE WHAT IT READS IS OF BULK AT MOST 1048576: true; the input reads as it did. -/
def entityFindsUptoRow : OpenClaim := { program := "ytflmbhkjhfmeoaagreat", sum := "e2c529db8619e51a51e1a3aa149a924f0a036985e8824ddcd41c7fd7c306505d", func := "lychgate/lychgatelaw16.EntityFinds", spec := "entityFinds", inPlace := ["internal/bytealg.IndexByteString", "internal/bytealg.IndexString"], unfollowed := true, recurses := true, named := ["internal/bytealg.MaxLen"], apart := false, narrowed := true }
def EntityFindsUptoSaid : Prop := entityFindsUptoRow.holds Tryz.pinned (OpenSpec.upto entityFindsSpec)

end Rows
end Go.Proofs.YtflmbhkjhfmeoaaGreat
