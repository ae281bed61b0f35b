/-
  Tables that may be: what they keep.
-/
import Derived.Test.YtlibnpdbcjgegaaGreatWdPure
import Derived.Test.YtlibnpdbcjgegaaGreatLnWalk
import Derived.Test.YtlibnpdbcjgegaaGreatSLApp
namespace Go.Proofs.YtlibnpdbcjgegaaGreat
open Go.SL
set_option linter.unusedVariables false
/-- Numbers from 1 to 1000 that rise, no more than most. -/
structure Ri (l : List Int) (most : Nat) : Prop where
  len : l.length ≤ most
  id : ∀ x ∈ l, 1 ≤ x ∧ x ≤ 1000
  up : ∀ (k : Nat) (x y : Int), l[k]? = some x → l[k + 1]? = some y → x < y
structure RmOk (t : Tab) (r : Rm) : Prop where
  nm : wordB r.name = true
  kd : 0 ≤ r.kind ∧ r.kind ≤ 5
  pr : 0 ≤ r.price ∧ r.price ≤ 1073741824
  ex : ∀ x ∈ r.exits, (0 ≤ x ∧ x ≤ 1000) ∧ (x = 0 ∨ ∃ k, roomI t x = some k)
structure ProOk (p : Pro) : Prop where
  nm : wordB p.name = true
  sl : 0 ≤ p.slot ∧ p.slot ≤ 2
  pw : 0 ≤ p.power ∧ p.power ≤ 100
  pr : 0 ≤ p.price ∧ p.price ≤ 1073741824
structure MprOk (t : Tab) (m : Mpr) : Prop where
  nm : wordB m.name = true
  hi : 1 ≤ m.home ∧ m.home ≤ 1000
  ho : ∃ k, roomI t m.home = some k
  hp : 1 ≤ m.hp ∧ m.hp ≤ 10000
  pw : 0 ≤ m.power ∧ m.power ≤ 100
  xp : 0 ≤ m.xp ∧ m.xp ≤ 10000
  go : 0 ≤ m.gold ∧ m.gold ≤ 1073741824
structure RcpOk (t : Tab) (r : Rcp) : Prop where
  oi : ∃ k, protoI t r.out = some k
  ln : 1 ≤ r.needs.length ∧ r.needs.length ≤ 5
  up : ∀ (k : Nat) (x y : Int), r.needs[k]? = some x → r.needs[k + 1]? = some y → x ≤ y
  id : ∀ x ∈ r.needs, (1 ≤ x ∧ x ≤ 1000) ∧ ∃ k, protoI t x = some k
structure QstOk (t : Tab) (q : Qst) : Prop where
  it : (1 ≤ q.item ∧ q.item ≤ 1000) ∧ ∃ k, protoI t q.item = some k
  ct : 1 ≤ q.count ∧ q.count ≤ 5
  go : 0 ≤ q.gold ∧ q.gold ≤ 1073741824
  re : (0 ≤ q.reward ∧ q.reward ≤ 1000) ∧ (q.reward = 0 ∨ ∃ k, protoI t q.reward = some k)
structure ShpOk (t : Tab) (s : Shp) : Prop where
  ro : ∃ k r, roomI t s.room = some k ∧ t.rooms[k]? = some r ∧ r.kind = 1
  ti : 0 ≤ s.till ∧ s.till ≤ 1073741824
  it : Ri s.items 8
  ip : ∀ x ∈ s.items, ∃ k, protoI t x = some k
/-- Tables that may be. -/
structure Good (t : Tab) : Prop where
  ne : 0 < t.rooms.length
  rr : Ri (t.rooms.map (·.id)) 60
  rp : Ri (t.protos.map (·.id)) 60
  rm : Ri (t.mobs.map (·.id)) 60
  rc : Ri (t.recipes.map (·.out)) 60
  rq : Ri (t.quests.map (·.id)) 60
  rs : Ri (t.shops.map (·.room)) 60
  ro : ∀ r ∈ t.rooms, RmOk t r
  po : ∀ p ∈ t.protos, ProOk p
  mo : ∀ m ∈ t.mobs, MprOk t m
  co : ∀ r ∈ t.recipes, RcpOk t r
  qo : ∀ q ∈ t.quests, QstOk t q
  so : ∀ s ∈ t.shops, ShpOk t s
end Go.Proofs.YtlibnpdbcjgegaaGreat
