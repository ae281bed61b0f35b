/-
  Walks and laws joined: WdDoP WdInv EnPlans WdBase.
-/
import Derived.Test.YtflmbhkjhfmeoaaGreatQ25
import Derived.Test.YtflmbhkjhfmeoaaGreatQ09
import Derived.Test.YtflmbhkjhfmeoaaGreatQ10
import Derived.Test.YtflmbhkjhfmeoaaGreatQ50
import Derived.Test.YtflmbhkjhfmeoaaGreatQ02
set_option linter.unusedVariables false
set_option linter.unusedSimpArgs false
namespace Go.Proofs.YtflmbhkjhfmeoaaGreat
def bodyW : List Tx := [[108, 111, 111, 107], [103, 101, 116], [100, 114, 111, 112], [105, 110, 118, 101, 110, 116, 111, 114, 121], [119, 104, 111], [107, 105, 108, 108], [102, 108, 101, 101], [119, 101, 97, 114], [114, 101, 109, 111, 118, 101], [115, 99, 111, 114, 101], [103, 105, 118, 101]]
def moneyW : List Tx := [[98, 117, 121], [115, 101, 108, 108], [108, 105, 115, 116], [100, 101, 112, 111, 115, 105, 116], [119, 105, 116, 104, 100, 114, 97, 119], [98, 97, 108, 97, 110, 99, 101], [99, 114, 97, 102, 116], [113, 117, 101, 115, 116], [104, 111, 117, 115, 101], [111, 102, 102, 101, 114], [98, 105, 100], [108, 111, 116, 115]]
def fleeN (w : Wld) (name : Tx) (L : List Int) : Nat := match onI w name with
  | none => 0
  | some c => if (w.chars.getD c default).foe = 0 then 0 else (rollN L 0 6).2
def bodyA (t : Tab) (L : List Int) (w : Wld) (name cmd a b : Tx) : (Wld × List Sy) × Nat :=
  if cmd = [108, 111, 111, 107] then ((w, roomS t w name), 0)
  else if cmd = [103, 101, 116] then (getA numM t w name a, 0)
  else if cmd = [100, 114, 111, 112] then (dropA numM t w name a, 0)
  else if cmd = [105, 110, 118, 101, 110, 116, 111, 114, 121] then ((w, packS t w name), 0)
  else if cmd = [119, 104, 111] then ((w, whoS w name), 0)
  else if cmd = [107, 105, 108, 108] then (killA numM t w name a, 0)
  else if cmd = [102, 108, 101, 101] then (fleeA t w name (rollN L 0 6).1, fleeN w name L)
  else if cmd = [119, 101, 97, 114] then (wearA numM t w name a, 0)
  else if cmd = [114, 101, 109, 111, 118, 101] then (removeA numM t w name a, 0)
  else if cmd = [115, 99, 111, 114, 101] then ((w, scoreS nT w name), 0)
  else if cmd = [103, 105, 118, 101] then (giveA numM lowerM t w name a b, 0)
  else ((w, []), 0)
def whatS (name : Tx) : List Sy := [(name, [87, 104, 97, 116, 63])]
def houseDoA (t : Tab) (w : Wld) (name a b : Tx) (words : Nat) : Wld × List Sy :=
  if a = [98, 117, 121] then buyHouseA t w name
  else if words < 3 then (w, whatS name)
  else if a = [103, 117, 101, 115, 116] then guestA lowerM t w name b
  else if a = [112, 117, 116] then chestA numM t w name b false
  else if a = [116, 97, 107, 101] then chestA numM t w name b true
  else (w, whatS name)
def moneyA (t : Tab) (w : Wld) (name cmd a b : Tx) (words c : Nat) : Wld × List Sy :=
  if cmd = [98, 117, 121] then buyA t w name a
  else if cmd = [115, 101, 108, 108] then sellA numM t w name a
  else if cmd = [108, 105, 115, 116] then (w, listS t w name)
  else if cmd = [100, 101, 112, 111, 115, 105, 116] then bankA numM t w name a false
  else if cmd = [119, 105, 116, 104, 100, 114, 97, 119] then bankA numM t w name a true
  else if cmd = [98, 97, 108, 97, 110, 99, 101] then (w, [(name, [89, 111, 117, 32, 104, 97, 118, 101, 32] ++ nT (w.chars.getD c default).bank ++ [32, 105, 110, 32, 116, 104, 101, 32, 98, 97, 110, 107, 46])])
  else if cmd = [99, 114, 97, 102, 116] then craftA t w name a
  else if cmd = [113, 117, 101, 115, 116] then (if 1 < words then turnA numM t w name a else (w, questsS t w name))
  else if cmd = [104, 111, 117, 115, 101] then houseDoA t w name a b words
  else if cmd = [111, 102, 102, 101, 114] then offerA numM t w name a b
  else if cmd = [98, 105, 100] then bidA numM t w name a b
  else if cmd = [108, 111, 116, 115] then (w, lotsS t w name)
  else (w, [])
def talkA (w : Wld) (name cmd a line : Tx) (c : Nat) : Wld × List Sy :=
  if cmd = [115, 97, 121] then (w, [(name, [89, 111, 117, 32, 115, 97, 121, 58, 32] ++ behT line 1)] ++ othersL w (w.chars.getD c default).room name (capT name ++ [32, 115, 97, 121, 115, 58, 32] ++ behT line 1))
  else if cmd = [116, 101, 108, 108] then
    (if (onI w (lowerM a)).isNone ∨ lowerM a = name then (w, [(name, [84, 104, 101, 121, 32, 97, 114, 101, 32, 110, 111, 116, 32, 104, 101, 114, 101, 46])])
    else (w, [(name, [89, 111, 117, 32, 116, 101, 108, 108, 32] ++ capT (lowerM a) ++ [58, 32] ++ behT line 2)] ++ [(lowerM a, capT name ++ [32, 116, 101, 108, 108, 115, 32, 121, 111, 117, 58, 32] ++ behT line 2)]))
  else if cmd = [113, 117, 105, 116] then ((offA w c [32, 108, 101, 97, 118, 101, 115, 32, 116, 104, 101, 32, 119, 111, 114, 108, 100, 46]).1, [(name, [71, 111, 111, 100, 98, 121, 101, 46])] ++ (offA w c [32, 108, 101, 97, 118, 101, 115, 32, 116, 104, 101, 32, 119, 111, 114, 108, 100, 46]).2)
  else (w, [])
def needW : List Tx := [[103, 101, 116], [100, 114, 111, 112], [119, 101, 97, 114], [114, 101, 109, 111, 118, 101], [107, 105, 108, 108], [98, 117, 121], [115, 101, 108, 108], [99, 114, 97, 102, 116], [100, 101, 112, 111, 115, 105, 116], [119, 105, 116, 104, 100, 114, 97, 119], [104, 111, 117, 115, 101], [115, 97, 121]]
def needW2 : List Tx := [[103, 105, 118, 101], [111, 102, 102, 101, 114], [98, 105, 100], [116, 101, 108, 108]]
def needN (cmd : Tx) : Nat := if needW.contains cmd then 1 else if needW2.contains cmd then 2 else 0
def dirI (cmd : Tx) : Option Nat := [[110, 111, 114, 116, 104], [101, 97, 115, 116], [115, 111, 117, 116, 104], [119, 101, 115, 116], [117, 112], [100, 111, 119, 110]].findIdx? (· == cmd)
def cmdA (t : Tab) (L : List Int) (w : Wld) (name cmd a b line : Tx) (words c : Nat) : (Wld × List Sy) × Nat :=
  match dirI cmd with
  | some d => (goA t w name (d : Int), 0)
  | none =>
    if bodyW.contains cmd then bodyA t L w name cmd a b
    else if moneyW.contains cmd then (moneyA t w name cmd a b words c, 0)
    else (talkA w name cmd a line c, 0)
def doA (t : Tab) (L : List Int) (w : Wld) (name line : Tx) : (Wld × List Sy) × Nat := match onI w name with
  | none => ((w, []), 0)
  | some c => match wordsM line with
    | [] => ((w, []), 0)
    | w0 :: rest =>
      if findC w0 = [] then ((w, [(name, [72, 117, 104, 63])]), 0)
      else if rest.length < needN (findC w0) then ((w, whatS name), 0)
      else cmdA t L w name (findC w0) (rest.getD 0 []) (rest.getD 1 []) line (rest.length + 1) c
structure Evt where
  kind : Int
  name : Tx
  text : Tx
  dice : List Int
def newA (t : Tab) (w : Wld) (name hash : Tx) : Wld :=
  if (charI w name).isSome ∨ nameB name = false ∨ hashB hash = false ∨ 24 ≤ w.chars.length then w
  else { w with chars := insB (fun a b => ltTx a.name b.name) w.chars ⟨name, hash, false, startR t, 20, 0, 100, 0, 0, []⟩, minted := w.minted + 100 }
def wakeA (t : Tab) (w : Wld) (name : Tx) : Wld × List Sy := match charI w name with
  | none => (w, [])
  | some c =>
    if (w.chars.getD c default).on = true then (w, [])
    else
      let w1 := setC w c fun x => { x with on := true }
      (w1, [(name, [87, 101, 108, 99, 111, 109, 101, 44, 32] ++ capT name ++ [46])] ++ othersL w1 (w.chars.getD c default).room name (capT name ++ [32, 119, 97, 107, 101, 115, 46]) ++ roomS t w1 name)
def stepA (t : Tab) (w : Wld) (e : Evt) : Wld × List Sy :=
  if e.kind = 1 then (newA t w e.name e.text, [])
  else if e.kind = 2 then wakeA t w e.name
  else if e.kind = 3 then (match charI w e.name with
    | none => (w, [])
    | some c => if (w.chars.getD c default).on = true then offA w c [32, 102, 97, 100, 101, 115, 46] else (w, []))
  else if e.kind = 4 then (doA t e.dice w e.name e.text).1
  else if e.kind = 5 then tickA t e.dice w
  else if e.kind = 6 then (bootA w, [])
  else (w, [])
end Go.Proofs.YtflmbhkjhfmeoaaGreat
namespace Go.Proofs.YtflmbhkjhfmeoaaGreat
theorem set_id {α : Type} {l : List α} {k : Nat} {a : α} (h : l[k]? = some a) : l.set k a = l := by
  obtain ⟨hk, rfl⟩ := List.getElem?_eq_some_iff.1 h
  exact List.set_getElem_self hk
theorem map_set_same {α β : Type} (f : α → β) {l : List α} {k : Nat} {a b : α} (h : l[k]? = some a) (hf : f b = f a) : (l.set k b).map f = l.map f := by
  rw [List.map_set, hf]
  exact set_id (by rw [List.getElem?_map, h]; rfl)
theorem mem_set {α : Type} {l : List α} {k : Nat} {a x : α} (h : x ∈ l.set k a) : x ∈ l ∨ x = a := List.mem_or_eq_of_mem_set h
theorem mem_at {α : Type} {l : List α} {x : α} (h : x ∈ l) : ∃ k : Nat, l[k]? = some x := List.getElem?_of_mem h
theorem uniq {α : Type} {f : α → Int} : ∀ {l : List α}, (l.map f).Pairwise (· < ·) → ∀ {x y : α}, x ∈ l → y ∈ l → f x = f y → x = y
  | [], _, _, _, hx, _, _ => by cases hx
  | a :: l, h, x, y, hx, hy, he => by
    rw [List.map_cons, List.pairwise_cons] at h
    rcases List.mem_cons.1 hx with hx | hx
    · rcases List.mem_cons.1 hy with hy | hy
      · rw [hx, hy]
      · have := h.1 (f y) (List.mem_map_of_mem hy)
        rw [hx] at he; omega
    · rcases List.mem_cons.1 hy with hy | hy
      · have := h.1 (f x) (List.mem_map_of_mem hx)
        rw [hy] at he; omega
      · exact uniq h.2 hx hy he
structure Cok (s : Nat) (x : Chr) : Prop where
  nm : x.name.length ≤ 1000
  go : 0 ≤ x.gold ∧ x.gold ≤ 1099511627776
  ba : 0 ≤ x.bank ∧ x.bank ≤ 1099511627776
  xp : 0 ≤ x.xp ∧ x.xp ≤ 1099511627776
  hp : 1 ≤ x.hp ∧ x.hp ≤ 100000000000
  dn : x.done.length ≤ s
theorem Cok.up {s s' : Nat} {x : Chr} (h : Cok s x) (hs : s ≤ s') : Cok s' x := ⟨h.nm, h.go, h.ba, h.xp, h.hp, Nat.le_trans h.dn hs⟩
structure Lk (K : Nat) (names : List Tx) (l : Lot) : Prop where
  bi : 0 ≤ l.bid ∧ l.bid ≤ 1099511627776
  nb : l.bidder.length ≤ 1000
  se : l.seller ∈ names
  id : 0 ≤ l.id ∧ l.id ≤ K
  mi : 1 ≤ l.min ∧ l.min ≤ 1099511627776
  en : 0 ≤ l.ends ∧ l.ends ≤ (K : Int) + 20
theorem Lk.up {K K' : Nat} {n : List Tx} {l : Lot} (h : Lk K n l) (hK : K ≤ K') : Lk K' n l := ⟨h.bi, h.nb, h.se, ⟨h.id.1, by have := h.id.2; omega⟩, h.mi, ⟨h.en.1, by have := h.en.2; omega⟩⟩
structure Lth (ts : List Thg) (ls : List Lot) : Prop where
  th : ∀ l ∈ ls, ∃ x ∈ ts, x.id = l.thing ∧ x.place = 4
  nd : (ls.map (·.thing)).Nodup
structure Iw (t : Tab) (s K : Nat) (w : Wld) : Prop where
  ch : ∀ x ∈ w.chars, Cok s x
  nc : w.chars.length ≤ 24
  nt : w.things.length ≤ 200
  nm : w.mobs.length ≤ K
  nh : w.houses.length ≤ s
  nl : w.lots.length ≤ 10
  ni : w.tills.length ≤ 60
  th : ∀ x ∈ w.things, ∃ p, protoI t x.proto = some p
  up : (w.things.map (·.id)).Pairwise (· < ·)
  tn : ∀ x ∈ w.things, x.id < w.next
  mo : ∀ y ∈ w.mobs, 1 ≤ y.hp ∧ y.hp ≤ 10000
  hc : ∀ h ∈ w.houses, (0 ≤ h.chest ∧ h.chest ≤ 1099511627776) ∧ h.guests.length ≤ s
  lk : ∀ l ∈ w.lots, Lk K (w.chars.map (·.name)) l
  ti : ∀ x ∈ w.tills, 0 ≤ x.gold ∧ x.gold ≤ 1099511627776
  nx : 0 ≤ w.next ∧ w.next ≤ K
  mi : -((K : Int) * 4398046511104) ≤ w.minted ∧ w.minted ≤ (K : Int) * 4398046511104
  nw : 0 ≤ w.now ∧ w.now ≤ K
structure Iv (t : Tab) (s K : Nat) (w : Wld) : Prop where
  w0 : Iw t s K w
  lt : Lth w.things w.lots
section
variable {t : Tab} {s K : Nat} {w : Wld}
theorem Iw.mono {s' K' : Nat} (h : Iw t s K w) (hs : s ≤ s') (hK : K ≤ K') : Iw t s' K' w where
  ch x hx := (h.ch x hx).up hs
  nc := h.nc
  nt := h.nt
  nm := Nat.le_trans h.nm hK
  nh := Nat.le_trans h.nh hs
  nl := h.nl
  ni := h.ni
  th := h.th
  up := h.up
  tn := h.tn
  mo := h.mo
  hc x hx := ⟨(h.hc x hx).1, Nat.le_trans (h.hc x hx).2 hs⟩
  lk l hl := (h.lk l hl).up hK
  ti := h.ti
  nx := ⟨h.nx.1, by have := h.nx.2; omega⟩
  mi := by have := h.mi; omega
  nw := ⟨h.nw.1, by have := h.nw.2; omega⟩
theorem Iv.mono {s' K' : Nat} (h : Iv t s K w) (hs : s ≤ s') (hK : K ≤ K') : Iv t s' K' w := ⟨h.w0.mono hs hK, h.lt⟩
theorem Iw.chars (h : Iw t s K w) {cs : List Chr} (hn : cs.map (·.name) = w.chars.map (·.name)) (hc : ∀ x ∈ cs, Cok s x) : Iw t s K { w with chars := cs } where
  ch := hc
  nc := by have h1 := congrArg List.length hn; rw [List.length_map, List.length_map] at h1; have := h.nc; simp only; omega
  nt := h.nt
  nm := h.nm
  nh := h.nh
  nl := h.nl
  ni := h.ni
  th := h.th
  up := h.up
  tn := h.tn
  mo := h.mo
  hc := h.hc
  lk l hl := by have := h.lk l hl; simp only [hn]; exact this
  ti := h.ti
  nx := h.nx
  mi := h.mi
  nw := h.nw
theorem Iw.setC (h : Iw t s K w) {c : Nat} {x : Chr} (hx : w.chars[c]? = some x) (f : Chr → Chr) (hn : (f x).name = x.name) (hk : Cok s (f x)) : Iw t s K (setC w c f) := by
  rw [Go.Proofs.YtflmbhkjhfmeoaaGreat.setC, getD_of hx]
  refine h.chars (map_set_same _ hx hn) fun y hy => ?_
  rcases mem_set hy with hy | rfl
  · exact h.ch y hy
  · exact hk
theorem Iw.mint (h : Iw t s K w) (v : Int) (h1 : -4398046511104 ≤ v) (h2 : v ≤ 4398046511104) : Iw t s (K + 1) { w with minted := w.minted + v } :=
  { h.mono (Nat.le_refl s) (Nat.le_succ K) with mi := by have := h.mi; simp only; omega }
theorem Iw.setI (h : Iw t s K w) {c : Nat} {x : Till} (hx : w.tills[c]? = some x) (f : Till → Till) (hk : 0 ≤ (f x).gold ∧ (f x).gold ≤ 1099511627776) : Iw t s K (setI w c f) := by
  rw [Go.Proofs.YtflmbhkjhfmeoaaGreat.setI, getD_of hx]
  exact { h with
    ni := by simp only [List.length_set]; exact h.ni
    ti := fun y hy => by
      rcases mem_set hy with hy | rfl
      · exact h.ti y hy
      · exact hk }
theorem Iw.setH (h : Iw t s K w) {c : Nat} {x : Hse} (hx : w.houses[c]? = some x) (f : Hse → Hse) (hk : (0 ≤ (f x).chest ∧ (f x).chest ≤ 1099511627776) ∧ (f x).guests.length ≤ s) : Iw t s K (setH w c f) := by
  rw [Go.Proofs.YtflmbhkjhfmeoaaGreat.setH, getD_of hx]
  exact { h with
    nh := by simp only [List.length_set]; exact h.nh
    hc := fun y hy => by
      rcases mem_set hy with hy | rfl
      · exact h.hc y hy
      · exact hk }
theorem Iw.setL (h : Iw t s K w) {c : Nat} {x : Lot} (hx : w.lots[c]? = some x) (f : Lot → Lot) (hk : Lk K (w.chars.map (·.name)) (f x)) : Iw t s K (setL w c f) := by
  rw [Go.Proofs.YtflmbhkjhfmeoaaGreat.setL, getD_of hx]
  exact { h with
    nl := by simp only [List.length_set]; exact h.nl
    lk := fun y hy => by
      rcases mem_set hy with hy | rfl
      · exact h.lk y hy
      · exact hk }
theorem Lth.setL (h : Lth w.things w.lots) {c : Nat} {x : Lot} (hx : w.lots[c]? = some x) (f : Lot → Lot) (hk : (f x).thing = x.thing) : Lth (setL w c f).things (setL w c f).lots := by
  rw [Go.Proofs.YtflmbhkjhfmeoaaGreat.setL, getD_of hx]
  refine ⟨fun y hy => ?_, ?_⟩
  · rcases mem_set hy with hy | rfl
    · exact h.th y hy
    · rw [hk]; exact h.th x (List.mem_of_getElem? hx)
  · simp only [map_set_same (·.thing) hx hk]; exact h.nd
theorem Iw.putW (h : Iw t s K w) {k : Nat} {x : Thg} (hx : w.things[k]? = some x) (place room : Int) (who : Tx) : Iw t s K (putW w k place room who) := by
  rw [Go.Proofs.YtflmbhkjhfmeoaaGreat.putW, setT, getD_of hx]
  have hm := List.mem_of_getElem? hx
  exact { h with
    nt := by simp only [List.length_set]; exact h.nt
    th := fun y hy => by
      rcases mem_set hy with hy | rfl
      · exact h.th y hy
      · exact h.th x hm
    up := by simp only [map_set_same (·.id) (b := { x with place := place, room := room, who := who }) hx rfl]; exact h.up
    tn := fun y hy => by
      rcases mem_set hy with hy | rfl
      · exact h.tn y hy
      · exact h.tn x hm }
theorem Lth.putW {ls : List Lot} (h : Lth w.things ls) {k : Nat} {x : Thg} (hx : w.things[k]? = some x) (hp : x.place ≠ 4) (place room : Int) (who : Tx) : Lth (putW w k place room who).things ls := by
  rw [Go.Proofs.YtflmbhkjhfmeoaaGreat.putW, setT, getD_of hx]
  refine ⟨fun l hl => ?_, h.nd⟩
  obtain ⟨y, hy, h1, h2⟩ := h.th l hl
  obtain ⟨j, hj⟩ := mem_at hy
  have hne : k ≠ j := by
    rintro rfl
    rw [hx] at hj
    simp only [Option.some.injEq] at hj
    exact hp (by rw [hj]; exact h2)
  exact ⟨y, List.mem_of_getElem? (i := j) (by rw [List.getElem?_set_ne hne]; exact hj), h1, h2⟩
theorem Iv.putW (h : Iv t s K w) {k : Nat} {x : Thg} (hx : w.things[k]? = some x) (hp : x.place ≠ 4) (place room : Int) (who : Tx) : Iv t s K (putW w k place room who) := ⟨h.w0.putW hx place room who, h.lt.putW hx hp place room who⟩
theorem Iw.makeW (h : Iw t s K w) (hl : w.things.length < 200) {proto : Int} (hp : ∃ p, protoI t proto = some p) (place room : Int) (who : Tx) : Iw t s (K + 1) (makeW w proto place room who) :=
  { h.mono (Nat.le_refl s) (Nat.le_succ K) with
    nt := by
      show (w.things ++ [(⟨w.next, proto, place, room, who⟩ : Thg)]).length ≤ 200
      rw [List.length_append]; simp only [List.length_cons, List.length_nil]; omega
    th := fun x hx => by
      rcases List.mem_append.1 hx with hx | hx
      · exact h.th x hx
      · rw [List.mem_singleton.1 hx]; exact hp
    up := by
      simp only [Go.Proofs.YtflmbhkjhfmeoaaGreat.makeW, List.map_append, List.map_cons, List.map_nil]
      rw [List.pairwise_append]
      refine ⟨h.up, List.pairwise_singleton _ _, fun a ha b hb => ?_⟩
      obtain ⟨x, hx, rfl⟩ := List.mem_map.1 ha
      rw [List.mem_singleton.1 hb]
      exact h.tn x hx
    tn := fun x hx => by
      simp only [Go.Proofs.YtflmbhkjhfmeoaaGreat.makeW]
      rcases List.mem_append.1 hx with hx | hx
      · have := h.tn x hx; omega
      · rw [List.mem_singleton.1 hx]; simp only; omega
    nx := by have := h.nx; simp only [Go.Proofs.YtflmbhkjhfmeoaaGreat.makeW]; omega }
theorem Lth.more {ts ls} (h : Lth ts ls) (x : Thg) : Lth (ts ++ [x]) ls := ⟨fun l hl => let ⟨y, hy, h1⟩ := h.th l hl; ⟨y, List.mem_append_left _ hy, h1⟩, h.nd⟩
theorem Iv.makeW (h : Iv t s K w) (hl : w.things.length < 200) {proto : Int} (hp : ∃ p, protoI t proto = some p) (place room : Int) (who : Tx) : Iv t s (K + 1) (makeW w proto place room who) := ⟨h.w0.makeW hl hp place room who, h.lt.more _⟩
theorem Iv.makeIf (h : Iv t s K w) {proto : Int} (hp : ∃ p, protoI t proto = some p) (place room : Int) (who : Tx) : Iv t s (K + 1) (makeIf w proto place room who) := by
  unfold Go.Proofs.YtflmbhkjhfmeoaaGreat.makeIf
  split
  · rename_i hc
    exact h.makeW (by simpa [canMake] using hc) hp place room who
  · exact h.mono (Nat.le_refl s) (Nat.le_succ K)
theorem Iw.goneW (h : Iw t s K w) (id : Int) : Iw t s K (goneW w id) := by
  unfold Go.Proofs.YtflmbhkjhfmeoaaGreat.goneW
  split
  · exact h
  · rename_i k hk
    have hsub := List.eraseIdx_sublist w.things k
    exact { h with
      nt := Nat.le_trans hsub.length_le h.nt
      th := fun x hx => h.th x (hsub.subset hx)
      up := List.Pairwise.sublist (hsub.map _) h.up
      tn := fun x hx => h.tn x (hsub.subset hx) }
theorem Lth.goneW {ls : List Lot} (h : Lth w.things ls) {id : Int} (hp : ∀ x ∈ w.things, x.id = id → x.place ≠ 4) : Lth (goneW w id).things ls := by
  unfold Go.Proofs.YtflmbhkjhfmeoaaGreat.goneW
  split
  · exact h
  · rename_i k hk
    refine ⟨fun l hl => ?_, h.nd⟩
    obtain ⟨y, hy, h1, h2⟩ := h.th l hl
    obtain ⟨j, hj⟩ := mem_at hy
    obtain ⟨x, hx, hxi⟩ := find_get hk
    have hne : j ≠ k := by
      rintro rfl
      rw [hx] at hj
      simp only [Option.some.injEq] at hj
      subst hj
      exact hp x hy (by simpa using hxi) h2
    exact ⟨y, List.mem_eraseIdx_iff_getElem?.2 ⟨j, hne, hj⟩, h1, h2⟩
theorem goneW_lots (w : Wld) (id : Int) : (goneW w id).lots = w.lots := by
  unfold goneW; split <;> rfl
theorem Iv.goneW (h : Iv t s K w) {id : Int} (hp : ∀ x ∈ w.things, x.id = id → x.place ≠ 4) : Iv t s K (goneW w id) := ⟨h.w0.goneW id, by rw [goneW_lots]; exact h.lt.goneW hp⟩
theorem goneW_sub (w : Wld) (id : Int) : ∀ x ∈ (goneW w id).things, x ∈ w.things := by
  unfold goneW
  split
  · exact fun _ h => h
  · exact fun x hx => (List.eraseIdx_sublist _ _).subset hx
theorem gones_iv : ∀ (l : List Int) {w : Wld}, Iv t s K w → (∀ id ∈ l, ∀ x ∈ w.things, x.id = id → x.place ≠ 4) → Iv t s K (l.foldl Go.Proofs.YtflmbhkjhfmeoaaGreat.goneW w)
  | [], _, h, _ => h
  | a :: l, w, h, hp => by
    rw [List.foldl_cons]
    exact gones_iv l (h.goneW (hp a List.mem_cons_self)) fun id hid x hx => hp id (List.mem_cons_of_mem _ hid) x (goneW_sub w a x hx)
theorem gones_chars0 : ∀ (l : List Int) (w : Wld), (l.foldl goneW w).chars = w.chars
  | [], _ => rfl
  | a :: l, w => by
    rw [List.foldl_cons, gones_chars0 l]
    unfold goneW; split <;> rfl
theorem findA_mem {num : Tx → Int × Bool} {l : List Nat} {q : Tx} {k : Nat} (h : findA num t w l q = some k) : k ∈ l := by
  unfold findA nthOf at h
  split at h
  · cases h
  · exact (List.mem_filter.1 (List.mem_of_getElem? h)).1
theorem of_at {name : Tx} {p : Int} {k : Nat} (h : k ∈ ofL w name p) : ∃ x, w.things[k]? = some x ∧ x.place = p ∧ (p = 2 ∨ p = 3) ∧ x.who = name := by
  obtain ⟨x, hx, hp⟩ := pos_mem h
  simp only [Bool.and_eq_true, Bool.or_eq_true, beq_iff_eq] at hp
  obtain ⟨⟨h1, h2⟩, h3⟩ := hp
  exact ⟨x, hx, h2, by omega, h3⟩
theorem here_at {room : Int} {k : Nat} (h : k ∈ hereL w room) : ∃ x, w.things[k]? = some x ∧ x.place = 1 := by
  obtain ⟨x, hx, hp⟩ := pos_mem h
  simp only [Bool.and_eq_true, beq_iff_eq] at hp
  exact ⟨x, hx, hp.1⟩
theorem on_at {name : Tx} {c : Nat} (h : onI w name = some c) : ∃ x, w.chars[c]? = some x ∧ x.on = true ∧ x.name = name := by
  unfold onI at h
  split at h
  · rename_i k hk
    obtain ⟨x, hx, hp⟩ := find_get hk
    rw [getD_of hx] at h
    split at h
    · rename_i ho
      simp only [Option.some.injEq] at h
      subst h
      exact ⟨x, hx, ho, by simpa using hp⟩
    · cases h
  · cases h
theorem move_ok (a b n : Int) (ha : 0 ≤ a ∧ a ≤ 1099511627776) (hb : 0 ≤ b ∧ b ≤ 1099511627776) : (0 ≤ (moveN a b n).1 ∧ (moveN a b n).1 ≤ 1099511627776) ∧ 0 ≤ (moveN a b n).2.1 ∧ (moveN a b n).2.1 ≤ 1099511627776 := by
  unfold moveN maxGold
  split
  · exact ⟨ha, hb⟩
  · rename_i h
    simp only [not_or] at h
    simp only; omega
end
end Go.Proofs.YtflmbhkjhfmeoaaGreat
namespace Go.Proofs.YtflmbhkjhfmeoaaGreat
open Go.SL
set_option maxHeartbeats 8000000
set_option maxRecDepth 20000
theorem plans_yes (d : Nat) (m : Tay) (t : Tab) (g : Good t) (lt : TLaid m t) (P : HProp) [hp : RT P d m t] : Trip Tryz.prog 252 [.pointer (some ⟨d, 0, none⟩)] [P] (fun v Ps => v = .bool true ∧ Ps = [P]) := by
  refine Trip.of (m := 87) Tryz.func252 rfl rfl rfl ?_
  intro o Rs
  simp only [List.cons_append, List.nil_append, enumFrom]
  have b1 : t.recipes.length ≤ 60 := by have := g.rc.len; rwa [List.length_map] at this
  have b2 : t.quests.length ≤ 60 := by have := g.rq.len; rwa [List.length_map] at this
  have b3 : t.shops.length ≤ 60 := by have := g.rs.len; rwa [List.length_map] at this
  have zr : t.recipes.length = (t.recipes.zip m.nd).length := by rw [List.length_zip, lt.1, Nat.min_self]
  have zs : t.shops.length = (t.shops.zip m.it).length := by rw [List.length_zip, lt.2, Nat.min_self]
  refine go ?_
  refine ⟨?_, by simp⟩ <;> intros
  refine loop (fun k => k ≤ t.recipes.length) (fun k => [(0, .pointer (some ⟨d, 0, none⟩)), (12, .slice m.reA t.recipes.length m.reC), (13, .int .i64 (t.recipes.length : Int)), (14, .int .i64 (k : Int))]) (fun k => P :: Rs) (fun k => t.recipes.length - k) 0 (Nat.zero_le _) fun k h1 => ?_
  by_cases hk : k < t.recipes.length
  · obtain ⟨x, hx⟩ : ∃ x, t.recipes[k]? = some x := ⟨_, List.getElem?_eq_getElem hk⟩
    obtain ⟨⟨A1, c1⟩, hz, _⟩ := zip_get hx lt.1
    have hg := g.co x (List.mem_of_getElem? hx)
    have hR : Reads P E64 A1 x.needs := hp.nd _ (List.mem_of_getElem? hz)
    have hln := hg.ln
    have F1 := in_yes (x.needs.length : Int) 1 5 (by omega) (by omega)
    have F2 := sorted_yes x.needs A1 c1 (by omega) hg.up P hR
    have hb : (x.needs.any fun _ => false) = false := by simp
    have F3 := ct_int x.needs A1 c1 (by omega) P hR 282 [] [P] [] .here (fun _ => false) (fun n hn => by
      have h := notid n (hg.id n hn).1
      exact ⟨fun o w Rs hw => Calls.mono (h.run o w ([P] ++ Rs) hw) fun e w' ⟨v, Ps, he, ⟨hv, hPs⟩, hs⟩ => ⟨v, [P], he, ⟨hv, rfl⟩, by subst hPs; exact hs⟩⟩)
    rw [hb] at F3
    refine go ?_
    refine ⟨?_, by simp⟩ <;> intros
    exact rnd (k + 1) hk (by omega)
  refine go ?_
  refine ⟨?_, by simp⟩ <;> intros
  refine loop (fun k => k ≤ t.quests.length) (fun k => [(0, .pointer (some ⟨d, 0, none⟩)), (38, .slice m.quA t.quests.length m.quC), (39, .int .i64 (t.quests.length : Int)), (40, .int .i64 (k : Int))]) (fun k => P :: Rs) (fun k => t.quests.length - k) 0 (Nat.zero_le _) fun k h1 => ?_
  by_cases hk : k < t.quests.length
  · obtain ⟨x, hx⟩ : ∃ x, t.quests[k]? = some x := ⟨_, List.getElem?_eq_getElem hk⟩
    have hg := g.qo x (List.mem_of_getElem? hx)
    have F1 := id_yes x.item hg.it.1
    have F2 := in_yes x.count 1 5 hg.ct.1 hg.ct.2
    have F3 := in_yes x.gold 0 1073741824 hg.go.1 hg.go.2
    have F4 := in_yes x.reward 0 1000 hg.re.1.1 hg.re.1.2
    refine go ?_
    refine ⟨?_, by simp⟩ <;> intros
    exact rnd (k + 1) hk (by omega)
  refine go ?_
  refine ⟨?_, by simp⟩ <;> intros
  refine loop (fun k => k ≤ t.shops.length) (fun k => [(0, .pointer (some ⟨d, 0, none⟩)), (70, .slice m.shA t.shops.length m.shC), (71, .int .i64 (t.shops.length : Int)), (72, .int .i64 (k : Int))]) (fun k => P :: Rs) (fun k => t.shops.length - k) 0 (Nat.zero_le _) fun k h1 => ?_
  by_cases hk : k < t.shops.length
  · obtain ⟨x, hx⟩ : ∃ x, t.shops[k]? = some x := ⟨_, List.getElem?_eq_getElem hk⟩
    obtain ⟨⟨A1, c1⟩, hz, _⟩ := zip_get hx lt.2
    have hg := g.so x (List.mem_of_getElem? hx)
    have hR : Reads P E64 A1 x.items := hp.it _ (List.mem_of_getElem? hz)
    have F1 := in_yes x.till 0 1073741824 hg.ti.1 hg.ti.2
    have F2 := rise_in x.items A1 c1 8 (by rw [List.map_id']; exact hg.it) (by decide) P hR
    refine go ?_
    refine ⟨?_, by simp⟩ <;> intros
    exact rnd (k + 1) hk (by omega)
  refine go ?_
  simp
theorem zip_map1 {α β γ : Type} (f : α → γ) : ∀ (l : List α) (r : List β), r.length = l.length → ((l.zip r).map fun x => f x.1) = l.map f
  | [], _, _ => by simp
  | a :: l, [], h => by cases h
  | a :: l, b :: r, h => by simp only [List.zip_cons_cons, List.map_cons, zip_map1 f l r (by simpa using h)]
theorem right_yes (d : Nat) (m : Tay) (t : Tab) (g : Good t) (lt : TLaid m t) (P : HProp) [hp : RT P d m t] : Trip Tryz.prog 167 [.pointer (some ⟨d, 0, none⟩)] [P] (fun v Ps => v = .bool true ∧ Ps = [P]) := by
  refine Trip.of (m := 63) Tryz.func167 rfl rfl rfl ?_
  intro o Rs
  simp only [List.cons_append, List.nil_append, enumFrom]
  have b0 := g.ne
  have b1 : t.rooms.length ≤ 60 := by have := g.rr.len; rwa [List.length_map] at this
  have zr : t.recipes.length = (t.recipes.zip m.nd).length := by rw [List.length_zip, lt.1, Nat.min_self]
  have zs : t.shops.length = (t.shops.zip m.it).length := by rw [List.length_zip, lt.2, Nat.min_self]
  have F1 := rise_rm t.rooms m.roA m.roC 60 g.rr (by decide) P hp.ro
  have F2 := rise_pr t.protos m.prA m.prC 60 g.rp (by decide) P hp.pr
  have F3 := rise_mo t.mobs m.moA m.moC 60 g.rm (by decide) P hp.mo
  have F4 := rise_rc (t.recipes.zip m.nd) m.reA m.reC 60 (by rw [zip_map1 _ _ _ lt.1]; exact g.rc) (by decide) P hp.re
  have F5 := rise_qu t.quests m.quA m.quC 60 g.rq (by decide) P hp.qu
  have F6 := rise_sh (t.shops.zip m.it) m.shA m.shC 60 (by rw [zip_map1 _ _ _ lt.2]; exact g.rs) (by decide) P hp.sh
  rw [← zr] at F4
  rw [← zs] at F6
  have F7 := things_yes d m t g P
  have F8 := plans_yes d m t g lt P
  refine go ?_
  simp
end Go.Proofs.YtflmbhkjhfmeoaaGreat
namespace Go.Proofs.YtflmbhkjhfmeoaaGreat
open Go.SL
set_option maxHeartbeats 8000000
set_option maxRecDepth 20000
theorem fill_more {p q : Nat → Option (Nat × Nat)} (h : ∀ i x, p i = some x → q i = some x) : ∀ (es : List (Nat × Value)) (z c : Array Value), Instr.fill p z es = some c → Instr.fill q z es = some c
  | [], _, _, k => k
  | (i, v) :: es, z, c, k => by
    unfold Instr.fill at k ⊢
    cases hp : p i with
    | none => rw [hp] at k; cases k
    | some x =>
      rw [hp] at k
      rw [h i x hp]
      obtain ⟨off, size⟩ := x
      simp only at k ⊢
      split at k
      · cases k
      · rename_i hc
        rw [if_neg hc]
        exact fill_more h es _ _ k
theorem arr_struct {P : Program} {t : TypeId} {L e : Nat} {z : Value} (ht : ArrTy P t L e 1) (hz : (P.info? t).bind (·.zero) = some z) : StructTy P t z.cells.toList ((List.range L).map fun i => (i, 1)) := by
  refine ⟨fun parts cells w hf => ?_⟩
  have hz2 : (zeroValue t).run P w = .ok z w := by
    cases hi : P.info? t with
    | none => rw [hi] at hz; cases hz
    | some i => rw [hi] at hz; simp only [Option.bind_some] at hz; simp [zeroValue, typeInfo, hi, hz]
  obtain ⟨inf, hi2, hsz⟩ := ht.info
  have hs : (sizeOf e).run P w = .ok 1 w := by simp [sizeOf, typeInfo, hi2, hsz]
  have hf' : Instr.fill (fun i => some (i * 1, 1)) z.cells parts.toList = some cells := by
    refine fill_more (fun i x hx => ?_) _ _ _ (by simpa using hf)
    cases hr : (List.range L)[i]? with
    | none => rw [hr] at hx; cases hx
    | some j =>
      rw [hr] at hx
      have : j = i := by
        have := List.getElem?_eq_some_iff.1 hr
        obtain ⟨h1, h2⟩ := this
        rw [List.getElem_range] at h2; exact h2.symm
      subst this
      simpa using hx
  simp only [Instr.build, Sem.run_bind, hz2, Result.andThen_ok, run_underlying ht.und, hs, hf', Sem.run_pure]
instance arr6 : StructTy Tryz.prog 84 [.int .i64 0, .int .i64 0, .int .i64 0, .int .i64 0, .int .i64 0, .int .i64 0] [(0, 1), (1, 1), (2, 1), (3, 1), (4, 1), (5, 1)] :=
  (arr_struct (P := Tryz.prog) (t := 84) (L := 6) (e := 3) (z := .agg #[.int .i64 0, .int .i64 0, .int .i64 0, .int .i64 0, .int .i64 0, .int .i64 0]) inferInstance (by kernel_rfl) : StructTy Tryz.prog 84 (Value.agg #[.int .i64 0, .int .i64 0, .int .i64 0, .int .i64 0, .int .i64 0, .int .i64 0]).cells.toList ((List.range 6).map fun i => (i, 1)))
def baseT : Tab where
  rooms := [⟨1, [121, 97, 114, 100], 0, 0, 2, 3, 4, 5, 6, 0⟩, ⟨2, [115, 104, 111, 112], 1, 0, 0, 0, 1, 0, 0, 0⟩, ⟨3, [98, 97, 110, 107], 2, 0, 0, 7, 0, 1, 0, 0⟩, ⟨4, [102, 111, 114, 103, 101], 3, 0, 1, 0, 0, 0, 0, 0⟩, ⟨5, [104, 111, 117, 115, 101], 4, 30, 0, 1, 0, 0, 0, 0⟩, ⟨6, [104, 97, 108, 108], 5, 0, 0, 0, 0, 0, 0, 1⟩, ⟨7, [99, 97, 118, 101], 0, 0, 0, 0, 0, 3, 0, 0⟩]
  protos := [⟨1, [115, 119, 111, 114, 100], 1, 4, 20⟩, ⟨2, [99, 111, 97, 116], 2, 2, 11⟩, ⟨3, [111, 114, 101], 0, 0, 3⟩, ⟨4, [97, 120, 101], 1, 6, 1⟩, ⟨5, [103, 101, 109], 0, 0, 0⟩]
  mobs := [⟨1, [114, 97, 116], 1, 4, 1, 40, 7⟩, ⟨2, [111, 103, 114, 101], 7, 30, 9, 300, 90⟩]
  recipes := [⟨4, [3, 3]⟩]
  quests := [⟨1, 3, 2, 15, 5⟩, ⟨2, 5, 1, 0, 0⟩]
  shops := [⟨2, 50, [1, 2, 3]⟩]
theorem Base_spec : Trip Tryz.prog 9 [] [] (fun v Ps => ∃ e mt, v = .pointer (some ⟨e, 0, none⟩) ∧ Ps = [tb e mt baseT]) := by
  refine Trip.of (m := 36) Tryz.func9 rfl rfl rfl ?_
  intro o Rs
  simp only [List.cons_append, List.nil_append, enumFrom]
  refine go ?_
  refine ⟨?_, by simp⟩ <;> intros
  refine W.buildSlice Xr baseT.rooms (vs := baseT.rooms.map fun r => .agg (rmC r).toArray) rfl (by decide) (by kernel_rfl) (by kernel_rfl) rfl (by exact incl_) fun b1 => ?_
  refine go ?_
  refine ⟨?_, by simp⟩ <;> intros
  refine W.buildSlice Xp baseT.protos (vs := baseT.protos.map fun r => .agg (proC r).toArray) rfl (by decide) (by kernel_rfl) (by kernel_rfl) rfl (by exact incl_) fun b2 => ?_
  refine go ?_
  refine ⟨?_, by simp⟩ <;> intros
  refine W.buildSlice Xm baseT.mobs (vs := baseT.mobs.map fun r => .agg (mprC r).toArray) rfl (by decide) (by kernel_rfl) (by kernel_rfl) rfl (by exact incl_) fun b3 => ?_
  refine go ?_
  refine ⟨?_, by simp⟩ <;> intros
  rename_i b4
  refine W.buildSlice Xc [((⟨4, [3, 3]⟩ : Rcp), (some ⟨b4, 0, none⟩, 2))] (vs := [.agg (rcpC ⟨4, [3, 3]⟩ (some ⟨b4, 0, none⟩, 2)).toArray]) rfl (Nat.le_of_ble_eq_true rfl) (by kernel_rfl) (by kernel_rfl) rfl (by exact incl_) fun b5 => ?_
  refine go ?_
  refine ⟨?_, by simp⟩ <;> intros
  refine W.buildSlice Xq baseT.quests (vs := baseT.quests.map fun r => .agg (qstC r).toArray) rfl (by decide) (by kernel_rfl) (by kernel_rfl) rfl (by exact incl_) fun b6 => ?_
  refine go ?_
  refine ⟨?_, by simp⟩ <;> intros
  rename_i b7
  refine W.buildSlice Xs [((⟨2, 50, [1, 2, 3]⟩ : Shp), (some ⟨b7, 0, none⟩, 3))] (vs := [.agg (shpC ⟨2, 50, [1, 2, 3]⟩ (some ⟨b7, 0, none⟩, 3)).toArray]) rfl (Nat.le_of_ble_eq_true rfl) (by kernel_rfl) (by kernel_rfl) rfl (by exact incl_) fun b8 => ?_
  refine go ?_
  refine ⟨?_, by simp⟩ <;> intros
  rename_i b9
  refine E.turn (fun st hst => nest_nil (E := E64) (e := 3) hst) ?_
  refine E.two (A := sl E64 3 (some ⟨b4, 0, none⟩) [(3 : Int), 3].length [3, 3]) (B := nest E64 3 []) (by exact find_) (by exact find_) (fun st hst => nest_snoc (p := ([3, 3], (some ⟨b4, 0, none⟩, 2))) hst) ?_
  refine E.turn (fun st hst => nest_nil (E := E64) (e := 3) hst) ?_
  refine E.two (A := sl E64 3 (some ⟨b7, 0, none⟩) [(1 : Int), 2, 3].length [1, 2, 3]) (B := nest E64 3 []) (by exact find_) (by exact find_) (fun st hst => nest_snoc (p := ([1, 2, 3], (some ⟨b7, 0, none⟩, 3))) hst) ?_
  refine efold (tb b9 ⟨some ⟨b1, 0, none⟩, 7, some ⟨b2, 0, none⟩, 5, some ⟨b3, 0, none⟩, 2, some ⟨b5, 0, none⟩, 1, some ⟨b6, 0, none⟩, 2, some ⟨b8, 0, none⟩, 1, [(some ⟨b4, 0, none⟩, 2)], [(some ⟨b7, 0, none⟩, 3)]⟩ baseT) () (show TLaid ⟨some ⟨b1, 0, none⟩, 7, some ⟨b2, 0, none⟩, 5, some ⟨b3, 0, none⟩, 2, some ⟨b5, 0, none⟩, 1, some ⟨b6, 0, none⟩, 2, some ⟨b8, 0, none⟩, 1, [(some ⟨b4, 0, none⟩, 2)], [(some ⟨b7, 0, none⟩, 3)]⟩ baseT from ⟨rfl, rfl⟩) ?_
  exact ret1 ⟨b9, _, rfl, rfl⟩
end Go.Proofs.YtflmbhkjhfmeoaaGreat
