/-
  The document's layers 21 to 24 in plain terms: shops, the bank, forges, errands, houses, the auction.
-/
import Derived.Test.YtckkipangiapbaaGreatWdAct
import Derived.Lib.ItoaNum
namespace Go.Proofs.YtckkipangiapbaaGreat
set_option linter.unusedVariables false
set_option linter.unusedSimpArgs false
abbrev nT (x : Int) : Tx := Go.Lib.itoa x
def maxGold : Int := 1099511627776
def moveN (a b n : Int) : Int × Int × Bool := if n ≤ 0 ∨ a < n ∨ maxGold < a - n ∨ maxGold - n < b ∨ b < -n then (a, b, false) else (a - n, b + n, true)
def setI (w : Wld) (k : Nat) (f : Till → Till) : Wld := { w with tills := w.tills.set k (f (w.tills.getD k default)) }
def setH (w : Wld) (k : Nat) (f : Hse → Hse) : Wld := { w with houses := w.houses.set k (f (w.houses.getD k default)) }
def setL (w : Wld) (k : Nat) (f : Lot → Lot) : Wld := { w with lots := w.lots.set k (f (w.lots.getD k default)) }
def makeW (w : Wld) (proto place room : Int) (who : Tx) : Wld := { w with things := w.things ++ [⟨w.next, proto, place, room, who⟩], next := w.next + 1 }
def canMake (w : Wld) : Bool := decide (w.things.length < 200)
def goneW (w : Wld) (id : Int) : Wld := match thingI w id with
  | none => w
  | some k => { w with things := w.things.eraseIdx k }
/-- The shop of a room, and its till. -/
def shopI (t : Tab) (w : Wld) (room : Int) : Option (Nat × Nat) := match t.shops.findIdx? (·.room == room), w.tills.findIdx? (·.room == room) with
  | some i, some k => some (i, k)
  | _, _ => none
def noShop (name : Tx) : List Sy := [(name, [84, 104, 101, 114, 101, 32, 105, 115, 32, 110, 111, 32, 115, 104, 111, 112, 32, 104, 101, 114, 101, 46])]
def itemsP (t : Tab) (s : Nat) : List Nat := (t.shops.getD s default).items.map fun id => (protoI t id).getD 0
def listS (t : Tab) (w : Wld) (name : Tx) : List Sy := match onI w name with
  | none => []
  | some c => match shopI t w (w.chars.getD c default).room with
    | none => noShop name
    | some (s, _) => (name, [70, 111, 114, 32, 115, 97, 108, 101, 58]) :: (itemsP t s).map fun p => (name, (t.protos.getD p default).name ++ [32, 102, 111, 114, 32] ++ nT (t.protos.getD p default).price)
def buyA (t : Tab) (w : Wld) (name word : Tx) : Wld × List Sy := match onI w name with
  | none => (w, [])
  | some c => match shopI t w (w.chars.getD c default).room with
    | none => (w, noShop name)
    | some (s, k) => match (itemsP t s).find? (fun p => (t.protos.getD p default).name == word) with
      | none => (w, [(name, [84, 104, 101, 121, 32, 100, 111, 32, 110, 111, 116, 32, 115, 101, 108, 108, 32, 116, 104, 97, 116, 46])])
      | some at_ =>
        let p := t.protos.getD at_ default
        let mv := moveN (w.chars.getD c default).gold (w.tills.getD k default).gold p.price
        if 10 ≤ loadN w name then (w, [(name, [89, 111, 117, 32, 99, 97, 110, 110, 111, 116, 32, 99, 97, 114, 114, 121, 32, 109, 111, 114, 101, 46])])
        else if mv.2.2 = false ∧ p.price ≠ 0 then (w, [(name, [89, 111, 117, 32, 99, 97, 110, 110, 111, 116, 32, 112, 97, 121, 46])])
        else if canMake w = false then (w, [(name, [84, 104, 101, 114, 101, 32, 97, 114, 101, 32, 116, 111, 111, 32, 109, 97, 110, 121, 32, 116, 104, 105, 110, 103, 115, 46])])
        else (setI (setC (makeW w p.id 2 0 name) c fun x => { x with gold := mv.1 }) k fun x => { x with gold := mv.2.1 }, [(name, [89, 111, 117, 32, 98, 117, 121, 32, 97, 32] ++ p.name ++ [46])])
def sellA (num : Tx → Int × Bool) (t : Tab) (w : Wld) (name word : Tx) : Wld × List Sy := match onI w name with
  | none => (w, [])
  | some c => match shopI t w (w.chars.getD c default).room with
    | none => (w, noShop name)
    | some (s, k) => match findA num t w (ofL w name 2) word with
      | none => (w, [(name, noT word)])
      | some i =>
        let p := proOf t (w.things.getD i default).proto
        let mv := moveN (w.tills.getD k default).gold (w.chars.getD c default).gold (p.price / 2)
        if mv.2.2 = false ∧ p.price / 2 ≠ 0 then (w, [(name, [84, 104, 101, 121, 32, 99, 97, 110, 110, 111, 116, 32, 112, 97, 121, 46])])
        else (goneW (setC (setI w k fun x => { x with gold := mv.1 }) c fun x => { x with gold := mv.2.1 }) (w.things.getD i default).id, [(name, [89, 111, 117, 32, 115, 101, 108, 108, 32, 97, 32] ++ p.name ++ [46])])
def roomK (t : Tab) (w : Wld) (c : Nat) : Int := match roomI t (w.chars.getD c default).room with
  | none => -1
  | some k => (t.rooms.getD k default).kind
def muchN (num : Tx → Int × Bool) (s : Tx) : Option Int := if (num s).2 = false ∨ (num s).1 < 1 then none else some (num s).1
def howMuch (name : Tx) : List Sy := [(name, [72, 111, 119, 32, 109, 117, 99, 104, 63])]
def bankA (num : Tx → Int × Bool) (t : Tab) (w : Wld) (name s : Tx) (back : Bool) : Wld × List Sy := match onI w name with
  | none => (w, [])
  | some c =>
    if roomK t w c ≠ 2 then (w, [(name, [84, 104, 101, 114, 101, 32, 105, 115, 32, 110, 111, 32, 98, 97, 110, 107, 32, 104, 101, 114, 101, 46])])
    else match muchN num s with
      | none => (w, howMuch name)
      | some x =>
        let y := w.chars.getD c default
        let mv := if back then moveN y.bank y.gold x else moveN y.gold y.bank x
        if mv.2.2 = false then (w, [(name, if back then [84, 104, 101, 32, 98, 97, 110, 107, 32, 104, 97, 115, 32, 110, 111, 116, 32, 115, 111, 32, 109, 117, 99, 104, 46] else [89, 111, 117, 32, 104, 97, 118, 101, 32, 110, 111, 116, 32, 115, 111, 32, 109, 117, 99, 104, 46])])
        else
          let bank := if back then mv.1 else mv.2.1
          (setC w c fun y => { y with bank := bank, gold := if back then mv.2.1 else mv.1 }, [(name, [89, 111, 117, 32, 104, 97, 118, 101, 32] ++ nT bank ++ [32, 105, 110, 32, 116, 104, 101, 32, 98, 97, 110, 107, 46])])
/-- The least number of a thing of a kind that is carried, and is none of some. -/
def spareN (w : Wld) (name : Tx) (proto : Int) (used : List Int) : Int := match (ofL w name 2).find? (fun i => (w.things.getD i default).proto == proto && !(used.contains (w.things.getD i default).id)) with
  | none => 0
  | some i => (w.things.getD i default).id
/-- Things of some kinds that are carried, each another one; or the kind that lacks. -/
def usesOf (w : Wld) (name : Tx) : List Int → List Int → List Int ⊕ Int
  | [], used => .inl used
  | p :: l, used => if spareN w name p used = 0 then .inr p else usesOf w name l (used ++ [spareN w name p used])
def lackT (t : Tab) (p : Int) : Tx := [89, 111, 117, 32, 108, 97, 99, 107, 32, 97, 32] ++ kindN t p ++ [46]
def makeIf (w : Wld) (proto place room : Int) (who : Tx) : Wld := if canMake w then makeW w proto place room who else w
def craftA (t : Tab) (w : Wld) (name word : Tx) : Wld × List Sy := match onI w name with
  | none => (w, [])
  | some c =>
    if roomK t w c ≠ 3 then (w, [(name, [84, 104, 101, 114, 101, 32, 105, 115, 32, 110, 111, 32, 102, 111, 114, 103, 101, 32, 104, 101, 114, 101, 46])])
    else match t.recipes.findIdx? (fun r => kindN t r.out == word) with
      | none => (w, [(name, [89, 111, 117, 32, 107, 110, 111, 119, 32, 110, 111, 32, 115, 117, 99, 104, 32, 116, 104, 105, 110, 103, 46])])
      | some at_ => match usesOf w name (t.recipes.getD at_ default).needs [] with
        | .inr p => (w, [(name, lackT t p)])
        | .inl used => (makeIf (used.foldl goneW w) (t.recipes.getD at_ default).out 2 0 name, [(name, [89, 111, 117, 32, 109, 97, 107, 101, 32, 97, 32] ++ kindN t (t.recipes.getD at_ default).out ++ [46])])
def questsS (t : Tab) (w : Wld) (name : Tx) : List Sy := match onI w name with
  | none => []
  | some c =>
    let l := t.quests.filter fun q => !((w.chars.getD c default).done.contains q.id)
    if l = [] then [(name, [84, 104, 101, 114, 101, 32, 105, 115, 32, 110, 111, 116, 104, 105, 110, 103, 32, 116, 111, 32, 100, 111, 46])]
    else l.map fun q => (name, nT q.id ++ [58, 32, 98, 114, 105, 110, 103, 32] ++ nT q.count ++ [32] ++ kindN t q.item ++ [32, 102, 111, 114, 32] ++ nT q.gold ++ [32, 103, 111, 108, 100] ++ if q.reward = 0 then [] else [32, 97, 110, 100, 32, 97, 32] ++ kindN t q.reward)
/-- A number is put where it belongs in a rising list: behind the last that is not greater. -/
def insB {α : Type} (lt : α → α → Bool) : List α → α → List α
  | [], x => [x]
  | y :: l, x => if lt x y && l.all (fun z => lt x z) then x :: y :: l else y :: insB lt l x
def turnA (num : Tx → Int × Bool) (t : Tab) (w : Wld) (name s : Tx) : Wld × List Sy := match onI w name with
  | none => (w, [])
  | some c => match (if (num s).2 then (pos (fun q : Qst => q.id == (num s).1) t.quests).getLast? else none) with
    | none => (w, [(name, [87, 104, 97, 116, 32, 101, 114, 114, 97, 110, 100, 63])])
    | some at_ =>
      let q := t.quests.getD at_ default
      if (w.chars.getD c default).done.contains q.id then (w, [(name, [89, 111, 117, 32, 100, 105, 100, 32, 116, 104, 97, 116, 46])])
      else match usesOf w name (List.replicate q.count.toNat q.item) [] with
        | .inr p => (w, [(name, lackT t p)])
        | .inl used =>
          if maxGold < (w.chars.getD c default).gold + q.gold then (w, [(name, [89, 111, 117, 32, 99, 97, 110, 110, 111, 116, 32, 116, 97, 107, 101, 32, 116, 104, 97, 116, 32, 109, 117, 99, 104, 46])])
          else
            let w1 := used.foldl goneW w
            let w2 := { setC w1 c fun x => { x with gold := x.gold + q.gold } with minted := w1.minted + q.gold }
            let w3 := if q.reward = 0 then w2 else makeIf w2 q.reward 2 0 name
            (setC w3 c fun x => { x with done := insB (fun a b => decide (a < b)) x.done q.id }, [(name, [89, 111, 117, 32, 100, 105, 100, 32, 105, 116, 46])])
def ltTx (a b : Tx) : Bool := decide (a < b)
def noHouse (name : Tx) : List Sy := [(name, [84, 104, 105, 115, 32, 105, 115, 32, 110, 111, 32, 104, 111, 117, 115, 101, 46])]
def buyHouseA (t : Tab) (w : Wld) (name : Tx) : Wld × List Sy := match onI w name with
  | none => (w, [])
  | some c =>
    let room := (w.chars.getD c default).room
    if roomK t w c ≠ 4 then (w, noHouse name)
    else if (houseI w room).isSome then (w, [(name, [73, 116, 32, 105, 115, 32, 115, 111, 108, 100, 46])])
    else
      let p := match roomI t room with
        | none => 0
        | some k => (t.rooms.getD k default).price
      if (w.chars.getD c default).gold < p then (w, [(name, [89, 111, 117, 32, 99, 97, 110, 110, 111, 116, 32, 112, 97, 121, 46])])
      else ({ setC w c fun x => { x with gold := x.gold - p } with minted := w.minted - p, houses := insB (fun a b => decide (a.room < b.room)) w.houses ⟨room, name, [], 0⟩ }, [(name, [73, 116, 32, 105, 115, 32, 121, 111, 117, 114, 115, 46])])
/-- The house in which its owner stands; or what is told. -/
def mineI (t : Tab) (w : Wld) (name : Tx) (c : Nat) : Nat ⊕ List Sy :=
  if roomK t w c ≠ 4 then .inr (noHouse name)
  else match houseI w (w.chars.getD c default).room with
    | none => .inr [(name, [73, 116, 32, 105, 115, 32, 110, 111, 116, 32, 121, 111, 117, 114, 115, 46])]
    | some k => if (w.houses.getD k default).owner = name then .inl k else .inr [(name, [73, 116, 32, 105, 115, 32, 110, 111, 116, 32, 121, 111, 117, 114, 115, 46])]
def guestA (lower : Tx → Tx) (t : Tab) (w : Wld) (name who0 : Tx) : Wld × List Sy := match onI w name with
  | none => (w, [])
  | some c => match mineI t w name c with
    | .inr l => (w, l)
    | .inl k =>
      let who := lower who0
      if (charI w who).isNone ∨ who = name then (w, [(name, [78, 111, 98, 111, 100, 121, 32, 104, 97, 115, 32, 116, 104, 97, 116, 32, 110, 97, 109, 101, 46])])
      else
        let g := (w.houses.getD k default).guests
        if g.contains who then (setH w k fun h => { h with guests := g.filter fun x => !(x == who) }, [(name, capT who ++ [32, 109, 97, 121, 32, 110, 111, 116, 32, 99, 111, 109, 101, 46])])
        else (setH w k fun h => { h with guests := insB ltTx g who }, [(name, capT who ++ [32, 109, 97, 121, 32, 99, 111, 109, 101, 46])])
def chestA (num : Tx → Int × Bool) (t : Tab) (w : Wld) (name s : Tx) (back : Bool) : Wld × List Sy := match onI w name with
  | none => (w, [])
  | some c => match mineI t w name c with
    | .inr l => (w, l)
    | .inl k => match muchN num s with
      | none => (w, howMuch name)
      | some x =>
        let y := w.chars.getD c default
        let h := w.houses.getD k default
        let mv := if back then moveN h.chest y.gold x else moveN y.gold h.chest x
        if mv.2.2 = false then (w, [(name, if back then [84, 104, 101, 32, 99, 104, 101, 115, 116, 32, 104, 97, 115, 32, 110, 111, 116, 32, 115, 111, 32, 109, 117, 99, 104, 46] else [89, 111, 117, 32, 104, 97, 118, 101, 32, 110, 111, 116, 32, 115, 111, 32, 109, 117, 99, 104, 46])])
        else
          let chest := if back then mv.1 else mv.2.1
          (setH (setC w c fun y => { y with gold := if back then mv.2.1 else mv.1 }) k fun h => { h with chest := chest }, [(name, [84, 104, 101, 32, 99, 104, 101, 115, 116, 32, 104, 97, 115, 32] ++ nT chest ++ [46])])
def noHall (name : Tx) : List Sy := [(name, [84, 104, 101, 114, 101, 32, 105, 115, 32, 110, 111, 32, 97, 117, 99, 116, 105, 111, 110, 32, 104, 101, 114, 101, 46])]
def offerA (num : Tx → Int × Bool) (t : Tab) (w : Wld) (name word s : Tx) : Wld × List Sy := match onI w name with
  | none => (w, [])
  | some c =>
    if roomK t w c ≠ 5 then (w, noHall name)
    else match findA num t w (ofL w name 2) word with
      | none => (w, [(name, noT word)])
      | some k => match muchN num s with
        | none => (w, howMuch name)
        | some x =>
          if 10 ≤ w.lots.length then (w, [(name, [84, 104, 101, 114, 101, 32, 97, 114, 101, 32, 116, 111, 111, 32, 109, 97, 110, 121, 32, 108, 111, 116, 115, 46])])
          else
            let w1 := putW w k 4 0 []
            ({ w1 with lots := w1.lots ++ [⟨w.next, (w.things.getD k default).id, name, x, 0, [], w.now + 20⟩], next := w.next + 1 }, [(name, [76, 111, 116, 32] ++ nT w.next ++ [58, 32, 97, 32] ++ thingN t w k ++ [46])])
def bidA (num : Tx → Int × Bool) (t : Tab) (w : Wld) (name s1 s2 : Tx) : Wld × List Sy := match onI w name with
  | none => (w, [])
  | some c =>
    if roomK t w c ≠ 5 then (w, noHall name)
    else match (if (num s1).2 then (pos (fun l : Lot => l.id == (num s1).1) w.lots).getLast? else none) with
      | none => (w, [(name, [84, 104, 101, 114, 101, 32, 105, 115, 32, 110, 111, 32, 115, 117, 99, 104, 32, 108, 111, 116, 46])])
      | some at_ =>
        let l := w.lots.getD at_ default
        if l.seller = name then (w, [(name, [73, 116, 32, 105, 115, 32, 121, 111, 117, 114, 115, 46])])
        else match muchN num s2 with
          | none => (w, howMuch name)
          | some x =>
            if x < l.min ∨ x ≤ l.bid then (w, [(name, [66, 105, 100, 32, 109, 111, 114, 101, 46])])
            else
              let gold := (w.chars.getD c default).gold + if l.bidder = name then l.bid else 0
              if gold < x then (w, [(name, [89, 111, 117, 32, 104, 97, 118, 101, 32, 110, 111, 116, 32, 115, 111, 32, 109, 117, 99, 104, 46])])
              else
                let back := if l.bidder = [] ∨ l.bidder = name then none else charI w l.bidder
                let full := match back with
                  | none => false
                  | some d => decide (maxGold < (w.chars.getD d default).gold + l.bid)
                if full then (w, [(name, [84, 104, 101, 121, 32, 99, 97, 110, 110, 111, 116, 32, 116, 97, 107, 101, 32, 105, 116, 32, 98, 97, 99, 107, 46])])
                else
                  let w1 := match back with
                    | none => w
                    | some d => setC w d fun y => { y with gold := y.gold + l.bid }
                  let w2 := setC w1 c fun y => { y with gold := gold - x }
                  (setL w2 at_ fun l => { l with bid := x, bidder := name }, [(name, [89, 111, 117, 32, 98, 105, 100, 32] ++ nT x ++ [46])] ++ if l.bidder ≠ [] ∧ l.bidder ≠ name ∧ (onI w l.bidder).isSome then [(l.bidder, [89, 111, 117, 32, 97, 114, 101, 32, 111, 117, 116, 98, 105, 100, 46])] else [])
def lotT (t : Tab) (w : Wld) (l : Lot) : Tx := [76, 111, 116, 32] ++ nT l.id ++ [58, 32, 97, 32] ++ (match thingI w l.thing with
  | none => []
  | some k => thingN t w k) ++ [44, 32] ++ if l.bid = 0 then nT l.min else nT l.bid ++ [32, 98, 121, 32] ++ capT l.bidder
def lotsS (t : Tab) (w : Wld) (name : Tx) : List Sy := match onI w name with
  | none => []
  | some _ => if w.lots = [] then [(name, [84, 104, 101, 114, 101, 32, 97, 114, 101, 32, 110, 111, 32, 108, 111, 116, 115, 46])] else w.lots.map fun l => (name, lotT t w l)
/-- The seller gets a bid, less the fee. -/
def paidW (w : Wld) (l : Lot) : Wld := match charI w l.seller with
  | none => w
  | some d =>
    let fee := if l.bid / 20 < 1 then 1 else l.bid / 20
    let rest := l.bid - fee
    let y := w.chars.getD d default
    if y.gold + rest ≤ maxGold then { setC w d fun y => { y with gold := y.gold + rest } with minted := w.minted - fee }
    else
      let room := if rest < maxGold - y.bank then rest else maxGold - y.bank
      { setC w d fun y => { y with bank := y.bank + room } with minted := w.minted - (fee + (rest - room)) }
/-- A lot goes: the world, what is said; none: there is no room for its thing. -/
def settleA (w : Wld) (l : Lot) : Option (Wld × List Sy) :=
  let who := if 0 < l.bid then l.bidder else l.seller
  match charI w who, thingI w l.thing with
  | some d, some k =>
    let room := (w.chars.getD d default).room
    let w1 := if loadN w who < 10 then some (putW w k 2 0 who) else if (hereL w room).length < 30 then some (putW w k 1 room []) else none
    match w1 with
    | none => none
    | some w1 =>
      let w2 := if 0 < l.bid then paidW w1 l else w1
      some (w2, (if (onI w2 l.seller).isSome then [(l.seller, if 0 < l.bid then [89, 111, 117, 114, 32, 108, 111, 116, 32, 105, 115, 32, 115, 111, 108, 100, 46] else [89, 111, 117, 114, 32, 108, 111, 116, 32, 105, 115, 32, 110, 111, 116, 32, 115, 111, 108, 100, 46])] else []) ++ if 0 < l.bid ∧ (onI w2 l.bidder).isSome then [(l.bidder, [84, 104, 101, 32, 108, 111, 116, 32, 105, 115, 32, 121, 111, 117, 114, 115, 46])] else [])
  | _, _ => some (w, [])
def endGo : List Lot → Wld → List Sy → List Lot → Wld × List Sy
  | [], w, S, left => ({ w with lots := left }, S)
  | l :: r, w, S, left =>
    if w.now < l.ends then endGo r w S (left ++ [l])
    else match settleA w l with
      | none => endGo r w S (left ++ [{ l with ends := w.now + 1 }])
      | some x => endGo r x.1 (S ++ x.2) left
def endA (w : Wld) : Wld × List Sy := endGo w.lots w [] []
end Go.Proofs.YtckkipangiapbaaGreat
