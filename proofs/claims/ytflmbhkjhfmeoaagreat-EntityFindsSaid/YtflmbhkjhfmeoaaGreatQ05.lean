/-
  Walks and laws joined: WdAct SLTab EvCut Shelf.
-/
import Derived.Test.YtflmbhkjhfmeoaaGreatQ02
import Derived.Test.YtflmbhkjhfmeoaaGreatQ01
import Derived.Test.YtflmbhkjhfmeoaaGreatProg
import Derived.Lib.QuietBelow
import Derived.Lib.AppendIntMem
import Derived.Laws.AppendOwn
import Derived.Shelf.Strings.Search1
import Derived.Shelf.Strings.Search2
import Derived.Shelf.Strings.Cut
import Derived.Shelf.LaysM
import Derived.Shelf.Strings.Shaped
set_option linter.unusedVariables false
set_option linter.unusedSimpArgs false
namespace Go.Proofs.YtflmbhkjhfmeoaaGreat
def dirT : Nat → Tx
  | 0 => [110, 111, 114, 116, 104]
  | 1 => [101, 97, 115, 116]
  | 2 => [115, 111, 117, 116, 104]
  | 3 => [119, 101, 115, 116]
  | 4 => [117, 112]
  | 5 => [100, 111, 119, 110]
  | _ => []
def mprOf (t : Tab) (proto : Int) : Mpr := match mprI t proto with
  | some k => t.mobs.getD k default
  | none => ⟨0, [], 0, 0, 0, 0, 0⟩
def exT (r : Rm) (i : Nat) : Tx := if r.exits.getD i 0 = 0 then [] else 32 :: dirT i
def exitsT (r : Rm) : Tx :=
  let s := [69, 120, 105, 116, 115, 58] ++ ((List.range 6).flatMap (exT r))
  if s = [69, 120, 105, 116, 115, 58] then s ++ [32, 110, 111, 110, 101] else s
def roomS (t : Tab) (w : Wld) (name : Tx) : List Sy := match charI w name with
  | none => []
  | some c => match roomI t (w.chars.getD c default).room with
    | none => []
    | some k =>
      let room := (w.chars.getD c default).room
      [(name, (t.rooms.getD k default).name), (name, exitsT (t.rooms.getD k default))]
        ++ ((hereL w room).map fun i => (name, [65, 32] ++ kindN t (w.things.getD i default).proto ++ [32, 108, 105, 101, 115, 32, 104, 101, 114, 101, 46]))
        ++ ((mobsL w room).map fun i => (name, [65, 32] ++ (mprOf t (w.mobs.getD i default).proto).name ++ [32, 105, 115, 32, 104, 101, 114, 101, 46]))
        ++ (((whoL w room).filter fun i => !((w.chars.getD i default).name == name)).map fun i => (name, capT (w.chars.getD i default).name ++ [32, 105, 115, 32, 104, 101, 114, 101, 46]))
def houseI (w : Wld) (room : Int) : Option Nat := w.houses.findIdx? (·.room == room)
def lockedB (w : Wld) (room : Int) (name : Tx) : Bool := match houseI w room with
  | none => false
  | some k => !((w.houses.getD k default).owner == name) && !((w.houses.getD k default).guests.contains name)
def exitN (t : Tab) (room dir : Int) : Int := match roomI t room with
  | none => 0
  | some k => if dir < 0 ∨ 5 < dir then 0 else (t.rooms.getD k default).exits.getD dir.toNat 0
def setC (w : Wld) (k : Nat) (f : Chr → Chr) : Wld := { w with chars := w.chars.set k (f (w.chars.getD k default)) }
def setT (w : Wld) (k : Nat) (f : Thg → Thg) : Wld := { w with things := w.things.set k (f (w.things.getD k default)) }
def putW (w : Wld) (k : Nat) (place room : Int) (who : Tx) : Wld := setT w k fun x => { x with place := place, room := room, who := who }
def goesA (t : Tab) (w : Wld) (c : Nat) (room : Int) : Wld × List Sy :=
  let name := (w.chars.getD c default).name
  let w' := setC w c fun x => { x with room := room }
  (w', othersL w (w.chars.getD c default).room name (capT name ++ [32, 108, 101, 97, 118, 101, 115, 46]) ++ othersL w' room name (capT name ++ [32, 99, 111, 109, 101, 115, 46]) ++ roomS t w' name)
def goA (t : Tab) (w : Wld) (name : Tx) (dir : Int) : Wld × List Sy := match onI w name with
  | none => (w, [])
  | some c =>
    let to := exitN t (w.chars.getD c default).room dir
    if (w.chars.getD c default).foe ≠ 0 then (w, [(name, [89, 111, 117, 32, 97, 114, 101, 32, 102, 105, 103, 104, 116, 105, 110, 103, 46])])
    else if to = 0 then (w, [(name, [89, 111, 117, 32, 99, 97, 110, 110, 111, 116, 32, 103, 111, 32, 116, 104, 97, 116, 32, 119, 97, 121, 46])])
    else if lockedB w to name then (w, [(name, [73, 116, 32, 105, 115, 32, 108, 111, 99, 107, 101, 100, 46])])
    else goesA t w c to
def fleeA (t : Tab) (w : Wld) (name : Tx) (roll : Int) : Wld × List Sy := match onI w name with
  | none => (w, [])
  | some c =>
    if (w.chars.getD c default).foe = 0 then (w, [(name, [89, 111, 117, 32, 97, 114, 101, 32, 110, 111, 116, 32, 102, 105, 103, 104, 116, 105, 110, 103, 46])])
    else
      let to := exitN t (w.chars.getD c default).room (roll - 1)
      if to = 0 ∨ lockedB w to name then (w, [(name, [89, 111, 117, 32, 99, 97, 110, 110, 111, 116, 32, 103, 101, 116, 32, 97, 119, 97, 121, 46])])
      else goesA t (setC w c fun x => { x with foe := 0 }) c to
def ordN (num : Tx → Int × Bool) (s : Tx) : Int × Tx := match s.findIdx? (· == 46) with
  | none => (1, s)
  | some i => if (num (s.take i)).2 = false ∨ (num (s.take i)).1 < 1 ∨ 99 < (num (s.take i)).1 then (0, []) else ((num (s.take i)).1, s.drop (i + 1))
def nthOf (f : Nat → Bool) (l : List Nat) (n : Int) : Option Nat := if n < 1 then none else (l.filter f)[(n - 1).toNat]?
def proOf (t : Tab) (id : Int) : Pro := match protoI t id with
  | some k => t.protos.getD k default
  | none => default
def isKind (t : Tab) (w : Wld) (name : Tx) (k : Nat) : Bool := match w.things[k]? with
  | none => false
  | some x => match protoI t x.proto with
    | none => false
    | some p => (t.protos.getD p default).name == name
def findA (num : Tx → Int × Bool) (t : Tab) (w : Wld) (among : List Nat) (s : Tx) : Option Nat := nthOf (isKind t w (ordN num s).2) among (ordN num s).1
section
variable (num : Tx → Int × Bool)
def thingN (t : Tab) (w : Wld) (k : Nat) : Tx := kindN t (w.things.getD k default).proto
def getA (t : Tab) (w : Wld) (name word : Tx) : Wld × List Sy := match onI w name with
  | none => (w, [])
  | some c =>
    let room := (w.chars.getD c default).room
    match findA num t w (hereL w room) word with
    | none => (w, [(name, [89, 111, 117, 32, 115, 101, 101, 32, 110, 111, 32] ++ word ++ [32, 104, 101, 114, 101, 46])])
    | some k =>
      if 10 ≤ loadN w name then (w, [(name, [89, 111, 117, 32, 99, 97, 110, 110, 111, 116, 32, 99, 97, 114, 114, 121, 32, 109, 111, 114, 101, 46])])
      else
        let w' := putW w k 2 0 name
        (w', [(name, [89, 111, 117, 32, 116, 97, 107, 101, 32, 97, 32] ++ thingN t w k ++ [46])] ++ othersL w' room name (capT name ++ [32, 116, 97, 107, 101, 115, 32, 97, 32] ++ thingN t w k ++ [46]))
def noT (word : Tx) : Tx := [89, 111, 117, 32, 104, 97, 118, 101, 32, 110, 111, 32] ++ word ++ [46]
def dropA (t : Tab) (w : Wld) (name word : Tx) : Wld × List Sy := match onI w name with
  | none => (w, [])
  | some c => match findA num t w (ofL w name 2) word with
    | none => (w, [(name, noT word)])
    | some k =>
      let room := (w.chars.getD c default).room
      if 30 ≤ (hereL w room).length then (w, [(name, [84, 104, 101, 114, 101, 32, 105, 115, 32, 110, 111, 32, 114, 111, 111, 109, 32, 104, 101, 114, 101, 46])])
      else
        let w' := putW w k 1 room []
        (w', [(name, [89, 111, 117, 32, 100, 114, 111, 112, 32, 97, 32] ++ thingN t w k ++ [46])] ++ othersL w' room name (capT name ++ [32, 100, 114, 111, 112, 115, 32, 97, 32] ++ thingN t w k ++ [46]))
def giveA (lower : Tx → Tx) (t : Tab) (w : Wld) (name word to0 : Tx) : Wld × List Sy := match onI w name with
  | none => (w, [])
  | some c => match findA num t w (ofL w name 2) word with
    | none => (w, [(name, noT word)])
    | some k =>
      let to := lower to0
      match onI w to with
      | none => (w, [(name, [84, 104, 101, 121, 32, 97, 114, 101, 32, 110, 111, 116, 32, 104, 101, 114, 101, 46])])
      | some d =>
        if d = c ∨ (w.chars.getD d default).room ≠ (w.chars.getD c default).room then (w, [(name, [84, 104, 101, 121, 32, 97, 114, 101, 32, 110, 111, 116, 32, 104, 101, 114, 101, 46])])
        else if 10 ≤ loadN w to then (w, [(name, [84, 104, 101, 121, 32, 99, 97, 110, 110, 111, 116, 32, 99, 97, 114, 114, 121, 32, 109, 111, 114, 101, 46])])
        else (putW w k 2 0 to, [(name, [89, 111, 117, 32, 103, 105, 118, 101, 32, 97, 32] ++ thingN t w k ++ [32, 116, 111, 32] ++ capT to ++ [46]), (to, capT name ++ [32, 103, 105, 118, 101, 115, 32, 121, 111, 117, 32, 97, 32] ++ thingN t w k ++ [46])])
def slotN (t : Tab) (w : Wld) (k : Nat) : Int := match protoI t (w.things.getD k default).proto with
  | none => 0
  | some p => (t.protos.getD p default).slot
def wearA (t : Tab) (w : Wld) (name word : Tx) : Wld × List Sy := match onI w name with
  | none => (w, [])
  | some c => match findA num t w (ofL w name 2) word with
    | none => (w, [(name, noT word)])
    | some k =>
      if slotN t w k = 0 then (w, [(name, [89, 111, 117, 32, 99, 97, 110, 110, 111, 116, 32, 119, 101, 97, 114, 32, 116, 104, 97, 116, 46])])
      else if (ofL w name 3).any (fun i => slotN t w i == slotN t w k) then (w, [(name, [89, 111, 117, 32, 119, 101, 97, 114, 32, 115, 111, 109, 101, 116, 104, 105, 110, 103, 32, 116, 104, 101, 114, 101, 32, 97, 108, 114, 101, 97, 100, 121, 46])])
      else (putW w k 3 0 name, [(name, [89, 111, 117, 32, 119, 101, 97, 114, 32, 97, 32] ++ thingN t w k ++ [46])])
def removeA (t : Tab) (w : Wld) (name word : Tx) : Wld × List Sy := match onI w name with
  | none => (w, [])
  | some c => match findA num t w (ofL w name 3) word with
    | none => (w, [(name, [89, 111, 117, 32, 119, 101, 97, 114, 32, 110, 111, 32] ++ word ++ [46])])
    | some k => (putW w k 2 0 name, [(name, [89, 111, 117, 32, 116, 97, 107, 101, 32, 111, 102, 102, 32, 97, 32] ++ thingN t w k ++ [46])])
def powerN (t : Tab) (w : Wld) (name : Tx) (slot : Int) : Int := if slot = 0 then 0 else match (ofL w name 3).find? (fun i => slotN t w i == slot) with
  | none => 0
  | some i => (proOf t (w.things.getD i default).proto).power
def killA (t : Tab) (w : Wld) (name word : Tx) : Wld × List Sy := match onI w name with
  | none => (w, [])
  | some c =>
    if (w.chars.getD c default).foe ≠ 0 then (w, [(name, [89, 111, 117, 32, 97, 114, 101, 32, 102, 105, 103, 104, 116, 105, 110, 103, 46])])
    else
      let room := (w.chars.getD c default).room
      match nthOf (fun i => (mprOf t (w.mobs.getD i default).proto).name == (ordN num word).2) (mobsL w room) (ordN num word).1 with
      | none => (w, [(name, [89, 111, 117, 32, 115, 101, 101, 32, 110, 111, 32] ++ word ++ [32, 104, 101, 114, 101, 46])])
      | some i =>
        let w' := setC w c fun x => { x with foe := (w.mobs.getD i default).id }
        (w', [(name, [89, 111, 117, 32, 97, 116, 116, 97, 99, 107, 32, 97, 32] ++ (ordN num word).2 ++ [46])] ++ othersL w' room name (capT name ++ [32, 97, 116, 116, 97, 99, 107, 115, 32, 97, 32] ++ (ordN num word).2 ++ [46]))
end
def packS (t : Tab) (w : Wld) (name : Tx) : List Sy := match charI w name with
  | none => []
  | some _ =>
    if (ofL w name 2).length + (ofL w name 3).length = 0 then [(name, [89, 111, 117, 32, 99, 97, 114, 114, 121, 32, 110, 111, 116, 104, 105, 110, 103, 46])]
    else [(name, [89, 111, 117, 32, 99, 97, 114, 114, 121, 58])] ++ ((ofL w name 2).map fun i => (name, thingN t w i)) ++ ((ofL w name 3).map fun i => (name, thingN t w i ++ [32, 40, 119, 111, 114, 110, 41]))
def scoreS (pr : Int → Tx) (w : Wld) (name : Tx) : List Sy := match charI w name with
  | none => []
  | some k =>
    let c := w.chars.getD k default
    [(name, [76, 101, 118, 101, 108, 32] ++ pr (levelN c.xp) ++ [44, 32] ++ pr c.xp ++ [32, 120, 112, 44, 32] ++ pr c.hp ++ [32, 111, 102, 32] ++ pr (maxHpN c.xp) ++ [32, 104, 112, 44, 32] ++ pr c.gold ++ [32, 103, 111, 108, 100, 44, 32] ++ pr c.bank ++ [32, 105, 110, 32, 116, 104, 101, 32, 98, 97, 110, 107, 46])]
def whoS (w : Wld) (name : Tx) : List Sy := match charI w name with
  | none => []
  | some _ => [(name, [72, 101, 114, 101, 32, 97, 114, 101, 58] ++ (w.chars.filter (·.on)).flatMap fun c => 32 :: capT c.name)]
end Go.Proofs.YtflmbhkjhfmeoaaGreat
namespace Go.SL
open Go.RowKit
end Go.SL
namespace Go.Proofs.YtflmbhkjhfmeoaaGreat
open Go.SL Go.RowKit
end Go.Proofs.YtflmbhkjhfmeoaaGreat
namespace Go.Proofs.YtflmbhkjhfmeoaaGreat
open Go.SL
set_option maxHeartbeats 8000000
@[reducible] def evV (k : Int) (nm tx : List UInt8) (D : Option Addr) (n m : Nat) : Value := .agg #[.int .i64 k, str nm, str tx, .slice D n m]
theorem Cut6_spec (s : List UInt8) (n : Nat) (hn : n ≤ 1000000) : Trip Tryz.prog 11 [str s, .int .i64 (n : Int)] [] (fun v Ps => v = str (s.take n) ∧ Ps = []) := by
  refine Trip.of (m := 13) Tryz.func11 rfl rfl rfl ?_
  intro o Rs
  simp only [List.cons_append, List.nil_append, enumFrom]
  by_cases h : n < s.length
  · refine go ?_
    simp
  · rw [List.take_of_length_le (by omega)]
    refine go ?_
    simp
theorem CutEvent_spec (k : Int) (nm tx : List UInt8) (D : Option Addr) (dc : List Int) (m : Nat) (hd : dc.length ≤ m) :
    Trip Tryz.prog 52 [evV k nm tx D dc.length m] [] (fun v Ps => v = evV k (nm.take 40) (tx.take 130) D (dc.take 20).length m ∧ Ps = []) := by
  refine Trip.of (m := 20) Tryz.func52 rfl rfl rfl ?_
  intro o Rs
  simp only [List.cons_append, List.nil_append, enumFrom]
  haveI : Plan 1 [4, 7] [0, 1, 3, 4, 2, 6, 5, 7, 8, 9] := ⟨⟩
  have F1 := Cut6_spec nm 40 (by decide)
  have F2 := Cut6_spec tx 130 (by decide)
  by_cases h : 20 < dc.length
  · have hl : (dc.take 20).length = 20 := by rw [List.length_take]; omega
    rw [hl]
    refine go ?_
    refine ⟨?_, by simp⟩ <;> intros
    refine W.slh (b := 20) (by exact rfl) (by exact rfl) (by decide) (by omega) rfl ?_
    refine go ?_
    refine ⟨?_, by simp⟩ <;> intros
    rfl
  · rw [List.take_of_length_le (by omega : dc.length ≤ 20)]
    refine go ?_
    simp
end Go.Proofs.YtflmbhkjhfmeoaaGreat
namespace Go.Proofs
open Go.Shelf
def Tryz.lays219_ren : Go.Shelf.Ren := ⟨fun | 219 => 258 | 217 => 285 | 225 => 286 | 224 => 287 | 267 => 288 | 266 => 292 | 314 => 293 | n => n, fun | 9 => 9 | 3 => 3 | 4 => 4 | 5 => 5 | 46 => 288 | 146 => 294 | 51 => 293 | n => n, fun | 1 => 0 | n => n⟩
theorem Tryz.lays219 : Go.Proofs.Lays.n219 Tryz.prog Tryz.lays219_ren := {
  mixed := by kernel_rfl
  f217 := Tryz.func285.trans (congrArg some (by kernel_rfl))
  f219 := Tryz.func258.trans (congrArg some (by kernel_rfl))
  f224 := Tryz.func287.trans (congrArg some (by kernel_rfl))
  f225 := Tryz.func286.trans (congrArg some (by kernel_rfl))
  f266 := Tryz.func292.trans (congrArg some (by kernel_rfl))
  f267 := Tryz.func288.trans (congrArg some (by kernel_rfl))
  f314 := Tryz.func293.trans (congrArg some (by kernel_rfl))
  t3 := Tryz.underlying3
  a3 := Tryz.isAgg3
  z3 := Tryz.sizeOf3
  v3 := Tryz.zeroValue3
  t4 := Tryz.underlying4
  a4 := Tryz.isAgg4
  z4 := Tryz.sizeOf4
  v4 := Tryz.zeroValue4
  t5 := Tryz.underlying5
  a5 := Tryz.isAgg5
  z5 := Tryz.sizeOf5
  v5 := Tryz.zeroValue5
  t9 := Tryz.underlying9
  a9 := Tryz.isAgg9
  z9 := Tryz.sizeOf9
  v9 := Tryz.zeroValue9
  t46 := Tryz.underlying288
  a46 := Tryz.isAgg288
  z46 := Tryz.sizeOf288
  v46 := Tryz.zeroValue288
  t51 := Tryz.underlying293
  a51 := Tryz.isAgg293
  z51 := Tryz.sizeOf293
  v51 := Tryz.zeroValue293
  t146 := Tryz.underlying294
  a146 := Tryz.isAgg294
  z146 := Tryz.sizeOf294
  v146 := Tryz.zeroValue294
  g1 := by kernel_rfl }
open Go.RowKit Go.Lib in
theorem Tryz.stringslite_Index_one (s : ByteArray) (c : UInt8) (w : World) :
    Calls Tryz.prog 258 #[.string s, .string ⟨#[c]⟩] w fun e w' => e = .returned (.int .i64 (Lib.indexByte s.data.toList c)) ∧ w' = w := Any.stringslite_Index_one Tryz.lays219 s c w
end Go.Proofs
