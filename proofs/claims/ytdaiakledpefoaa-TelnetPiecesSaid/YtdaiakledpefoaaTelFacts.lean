/-
  What this seat's program says of its types and functions.
-/
import Derived.Test.YtdaiakledpefoaaProg
import Derived.Test.YtdaiakledpefoaaSLMore
import Derived.KernelRfl
namespace Go.Proofs.Ytdaiakledpefoaa
open Go.SL
instance : FieldOff Try.prog 40 0 0 := .of (by kernel_rfl)
instance : FieldOff Try.prog 40 1 1 := .of (by kernel_rfl)
instance : FieldOff Try.prog 40 2 2 := .of (by kernel_rfl)
instance : FieldOff Try.prog 40 3 3 := .of (by kernel_rfl)
instance : FieldOff Try.prog 40 4 4 := .of (by kernel_rfl)
instance : FieldOff Try.prog 42 0 0 := .of (by kernel_rfl)
instance : FieldOff Try.prog 42 1 1 := .of (by kernel_rfl)
instance : One Try.prog 3 := .of (by kernel_rfl)
instance : One Try.prog 4 := .of (by kernel_rfl)
instance : One Try.prog 5 := .of (by kernel_rfl)
instance : One Try.prog 9 := .of (by kernel_rfl)
instance : One Try.prog 22 := .of (by kernel_rfl)
instance : One Try.prog 28 := .of (by kernel_rfl)
instance : One Try.prog 26 := .of (by kernel_rfl)
instance : One Try.prog 44 := .of (by kernel_rfl)
instance : Zero Try.prog 42 (.agg #[.slice none 0 0, .slice none 0 0]) := .of (by kernel_rfl)
instance : SliceTy Try.prog 22 5 1 1 := .of (by kernel_rfl)
instance : SliceTy Try.prog 28 9 1 16 := .of (by kernel_rfl)
instance : StrTy Try.prog 9 := ⟨by kernel_rfl⟩
instance : IntTy Try.prog 3 .i64 := ⟨by kernel_rfl⟩
instance : IntTy Try.prog 5 .u8 := ⟨by kernel_rfl⟩
instance : BytesTy Try.prog 22 5 := ⟨by kernel_rfl, by kernel_rfl⟩
instance : PtrTy Try.prog 26 := ⟨by kernel_rfl⟩
instance : PtrTy Try.prog 44 := ⟨by kernel_rfl⟩
instance : Callable Try.prog 18 := .of (by kernel_rfl)
instance : Callable Try.prog 17 := .of (by kernel_rfl)
instance : Callable Try.prog 16 := .of (by kernel_rfl)
instance : Callable Try.prog 11 := .of (by kernel_rfl)
theorem mixed : Try.prog.follows .mixedOrders = true := by kernel_rfl

structure Rd where
  state : Int
  verb : UInt8
  turn : Bool
  over : Bool
  line : List UInt8
structure Out where
  lines : List (List UInt8)
  answer : List UInt8
/-- A reader at block r. -/
abbrev rdr (r : Nat) (R : Rd) (A : Option Addr) (c : Nat) (l : List HProp) : List HProp :=
  blk r 40 [.int .i64 R.state, .int .u8 (R.verb.toNat : Int), .bool R.turn, .bool R.over, .slice A R.line.length c] :: sl Enc.u8 5 A c R.line :: l
/-- What comes of some bytes, at block b. -/
abbrev outp (b : Nat) (O : Out) (A : Option Addr) (c : Nat) (A2 : Option Addr) (c2 : Nat) (l : List HProp) : List HProp :=
  blk b 42 [.slice A O.lines.length c, .slice A2 O.answer.length c2] :: sl Enc.str 9 A c O.lines :: sl Enc.u8 5 A2 c2 O.answer :: l

/-! ### What the code computes -/
def doneM (R : Rd) (O : Out) : Rd × Out := ({ R with line := [], over := false }, { O with lines := O.lines ++ [if R.over = true then [255] else R.line] })
/-- The switch of text. -/
def switchM (R : Rd) (c : UInt8) (O : Out) : Rd × Out :=
  if ((c.toNat : Int) == 255) = true then ({ R with state := 1 }, O)
  else if ((c.toNat : Int) == 13) = true then ({ R with turn := true }, O)
  else if ((c.toNat : Int) == 10) = true then doneM R O
  else if ((c.toNat : Int) == 8) = true ∨ ((c.toNat : Int) == 127) = true then ({ R with line := R.line.take (max ((R.line.length : Int) - 1) 0).toNat }, O)
  else if decide ((c.toNat : Int) < 32) = true ∨ decide ((c.toNat : Int) > 126) = true then (R, O)
  else if decide ((R.line.length : Int) ≥ 120) = true then ({ R with over := true }, O)
  else ({ R with line := R.line ++ [c] }, O)
def textM (R : Rd) (c : UInt8) (O : Out) : Rd × Out :=
  if R.turn = true then
    let p := doneM { R with turn := false } O
    if ((c.toNat : Int) == 10) = true ∨ ((c.toNat : Int) == 0) = true then p else switchM p.1 c p.2
  else switchM R c O
def oneM (R : Rd) (c : UInt8) (O : Out) : Rd × Out :=
  if (R.state == 0) = true then textM R c O
  else if (R.state == 1) = true then
    if ((c.toNat : Int) == 250) = true then ({ R with state := 3 }, O)
    else if decide ((c.toNat : Int) ≥ 251) = true ∧ decide ((c.toNat : Int) < 255) = true then ({ R with verb := c, state := 2 }, O)
    else ({ R with state := 0 }, O)
  else if (R.state == 2) = true then
    if ((R.verb.toNat : Int) == 251) = true then ({ R with state := 0 }, { O with answer := O.answer ++ [255, 254, c] })
    else if ((R.verb.toNat : Int) == 253) = true then ({ R with state := 0 }, { O with answer := O.answer ++ [255, 252, c] })
    else ({ R with state := 0 }, O)
  else if (R.state == 3) = true then
    if ((c.toNat : Int) == 255) = true then ({ R with state := 4 }, O) else (R, O)
  else if ((c.toNat : Int) == 240) = true then ({ R with state := 0 }, O) else ({ R with state := 3 }, O)
def feedM (R : Rd) (O : Out) (b : List UInt8) : Rd × Out := b.foldl (fun p c => oneM p.1 c p.2) (R, O)
end Go.Proofs.Ytdaiakledpefoaa
