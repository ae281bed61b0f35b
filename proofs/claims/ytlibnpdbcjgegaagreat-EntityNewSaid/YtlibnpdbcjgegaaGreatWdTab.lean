/-
  The tables of a world: what they are, and how they lie in memory.
-/
import Derived.Test.YtlibnpdbcjgegaaGreatWoCopy
namespace Go.Proofs.YtlibnpdbcjgegaaGreat
open Go.SL
set_option linter.unusedVariables false
set_option linter.unusedSimpArgs false
set_option maxHeartbeats 4000000
structure Rm where
  id : Int
  name : Tx
  kind : Int
  price : Int
  e0 : Int
  e1 : Int
  e2 : Int
  e3 : Int
  e4 : Int
  e5 : Int
  deriving DecidableEq, Inhabited
def Rm.exits (r : Rm) : List Int := [r.e0, r.e1, r.e2, r.e3, r.e4, r.e5]
structure Pro where
  id : Int
  name : Tx
  slot : Int
  power : Int
  price : Int
  deriving DecidableEq, Inhabited
structure Mpr where
  id : Int
  name : Tx
  home : Int
  hp : Int
  power : Int
  xp : Int
  gold : Int
  deriving DecidableEq, Inhabited
structure Rcp where
  out : Int
  needs : List Int
  deriving DecidableEq, Inhabited
structure Qst where
  id : Int
  item : Int
  count : Int
  gold : Int
  reward : Int
  deriving DecidableEq, Inhabited
structure Shp where
  room : Int
  till : Int
  items : List Int
  deriving DecidableEq, Inhabited
structure Tab where
  rooms : List Rm
  protos : List Pro
  mobs : List Mpr
  recipes : List Rcp
  quests : List Qst
  shops : List Shp
  deriving DecidableEq, Inhabited
@[reducible] def rmC (x : Rm) : List Value := [.int .i64 x.id, str x.name, .int .i64 x.kind, .int .i64 x.price, .int .i64 x.e0, .int .i64 x.e1, .int .i64 x.e2, .int .i64 x.e3, .int .i64 x.e4, .int .i64 x.e5]
@[reducible] def proC (x : Pro) : List Value := [.int .i64 x.id, str x.name, .int .i64 x.slot, .int .i64 x.power, .int .i64 x.price]
@[reducible] def mprC (x : Mpr) : List Value := [.int .i64 x.id, str x.name, .int .i64 x.home, .int .i64 x.hp, .int .i64 x.power, .int .i64 x.xp, .int .i64 x.gold]
@[reducible] def rcpC (x : Rcp) (h : PA) : List Value := [.int .i64 x.out, .slice h.1 x.needs.length h.2]
@[reducible] def qstC (x : Qst) : List Value := [.int .i64 x.id, .int .i64 x.item, .int .i64 x.count, .int .i64 x.gold, .int .i64 x.reward]
@[reducible] def shpC (x : Shp) (h : PA) : List Value := [.int .i64 x.room, .int .i64 x.till, .slice h.1 x.items.length h.2]
@[reducible] def Xr : Enc Rm := ⟨10, rmC, fun _ => rfl, fun p => oneL (by rfl), by decide⟩
@[reducible] def Xp : Enc Pro := ⟨5, proC, fun _ => rfl, fun p => oneL (by rfl), by decide⟩
@[reducible] def Xm : Enc Mpr := ⟨7, mprC, fun _ => rfl, fun p => oneL (by rfl), by decide⟩
@[reducible] def Xc : Enc (Rcp × PA) := ⟨2, fun p => rcpC p.1 p.2, fun _ => rfl, fun p => oneL (by rfl), by decide⟩
@[reducible] def Xq : Enc Qst := ⟨5, qstC, fun _ => rfl, fun p => oneL (by rfl), by decide⟩
@[reducible] def Xs : Enc (Shp × PA) := ⟨3, fun p => shpC p.1 p.2, fun _ => rfl, fun p => oneL (by rfl), by decide⟩
instance : TyEnc Tryz.prog 112 Xr := ⟨⟩
instance : TyEnc Tryz.prog 133 Xp := ⟨⟩
instance : TyEnc Tryz.prog 77 Xm := ⟨⟩
instance : TyEnc Tryz.prog 135 Xc := ⟨⟩
instance : TyEnc Tryz.prog 137 Xq := ⟨⟩
instance : TyEnc Tryz.prog 81 Xs := ⟨⟩
instance {x : Rm} : Elt Xr (rmC x) x := ⟨rfl⟩
instance {x : Pro} : Elt Xp (proC x) x := ⟨rfl⟩
instance {x : Mpr} : Elt Xm (mprC x) x := ⟨rfl⟩
instance {x : Qst} : Elt Xq (qstC x) x := ⟨rfl⟩
instance {a b c d : Int} {s : List UInt8} : Elt Xp [.int .i64 a, str s, .int .i64 b, .int .i64 c, .int .i64 d] ⟨a, s, b, c, d⟩ := ⟨rfl⟩
instance {a b c d e f : Int} {s : List UInt8} : Elt Xm [.int .i64 a, str s, .int .i64 b, .int .i64 c, .int .i64 d, .int .i64 e, .int .i64 f] ⟨a, s, b, c, d, e, f⟩ := ⟨rfl⟩
instance {a b c d e : Int} : Elt Xq [.int .i64 a, .int .i64 b, .int .i64 c, .int .i64 d, .int .i64 e] ⟨a, b, c, d, e⟩ := ⟨rfl⟩
instance {a k p b c d e f g : Int} {s : List UInt8} : Elt Xr [.int .i64 a, str s, .int .i64 k, .int .i64 p, .int .i64 b, .int .i64 c, .int .i64 d, .int .i64 e, .int .i64 f, .int .i64 g] ⟨a, s, k, p, b, c, d, e, f, g⟩ := ⟨rfl⟩
/-- Where the tables' lists lie. -/
structure Tay where
  roA : Option Addr
  roC : Nat
  prA : Option Addr
  prC : Nat
  moA : Option Addr
  moC : Nat
  reA : Option Addr
  reC : Nat
  quA : Option Addr
  quC : Nat
  shA : Option Addr
  shC : Nat
  nd : List PA
  it : List PA
@[reducible] def tabC (m : Tay) (t : Tab) : List Value := [.slice m.roA t.rooms.length m.roC, .slice m.prA t.protos.length m.prC, .slice m.moA t.mobs.length m.moC, .slice m.reA t.recipes.length m.reC, .slice m.quA t.quests.length m.quC, .slice m.shA t.shops.length m.shC]
/-- R holds the tables t at block d, laid as m tells. -/
class RT (R : HProp) (d : outParam Nat) (m : outParam Tay) (t : outParam Tab) : Prop where
  cell : ∀ (i : Nat) (v : Value), (tabC m t)[i]? = some v → CellAt R d i v
  ro : Reads R Xr m.roA t.rooms
  pr : Reads R Xp m.prA t.protos
  mo : Reads R Xm m.moA t.mobs
  re : Reads R Xc m.reA (t.recipes.zip m.nd)
  qu : Reads R Xq m.quA t.quests
  sh : Reads R Xs m.shA (t.shops.zip m.it)
  nd : ∀ p, p ∈ t.recipes.zip m.nd → Reads R E64 p.2.1 p.1.needs
  it : ∀ p, p ∈ t.shops.zip m.it → Reads R E64 p.2.1 p.1.items
instance rt0 {R : HProp} {d : Nat} {m : Tay} {t : Tab} [h : RT R d m t] : Cel R d 0 (.slice m.roA t.rooms.length m.roC) := ⟨h.cell 0 _ rfl⟩
instance rt1 {R : HProp} {d : Nat} {m : Tay} {t : Tab} [h : RT R d m t] : Cel R d 1 (.slice m.prA t.protos.length m.prC) := ⟨h.cell 1 _ rfl⟩
instance rt2 {R : HProp} {d : Nat} {m : Tay} {t : Tab} [h : RT R d m t] : Cel R d 2 (.slice m.moA t.mobs.length m.moC) := ⟨h.cell 2 _ rfl⟩
instance rt3 {R : HProp} {d : Nat} {m : Tay} {t : Tab} [h : RT R d m t] : Cel R d 3 (.slice m.reA t.recipes.length m.reC) := ⟨h.cell 3 _ rfl⟩
instance rt4 {R : HProp} {d : Nat} {m : Tay} {t : Tab} [h : RT R d m t] : Cel R d 4 (.slice m.quA t.quests.length m.quC) := ⟨h.cell 4 _ rfl⟩
instance rt5 {R : HProp} {d : Nat} {m : Tay} {t : Tab} [h : RT R d m t] : Cel R d 5 (.slice m.shA t.shops.length m.shC) := ⟨h.cell 5 _ rfl⟩
instance rtro {R : HProp} {d : Nat} {m : Tay} {t : Tab} [h : RT R d m t] : Rd R Xr m.roA t.rooms := ⟨h.ro⟩
instance rtpr {R : HProp} {d : Nat} {m : Tay} {t : Tab} [h : RT R d m t] : Rd R Xp m.prA t.protos := ⟨h.pr⟩
instance rtmo {R : HProp} {d : Nat} {m : Tay} {t : Tab} [h : RT R d m t] : Rd R Xm m.moA t.mobs := ⟨h.mo⟩
instance rtre {R : HProp} {d : Nat} {m : Tay} {t : Tab} [h : RT R d m t] : Rd R Xc m.reA (t.recipes.zip m.nd) := ⟨h.re⟩
instance rtqu {R : HProp} {d : Nat} {m : Tay} {t : Tab} [h : RT R d m t] : Rd R Xq m.quA t.quests := ⟨h.qu⟩
instance rtsh {R : HProp} {d : Nat} {m : Tay} {t : Tab} [h : RT R d m t] : Rd R Xs m.shA (t.shops.zip m.it) := ⟨h.sh⟩
def ndL (t : Tab) (m : Tay) : List (List Int × PA) := (t.recipes.zip m.nd).map fun p => (p.1.needs, p.2)
def itL (t : Tab) (m : Tay) : List (List Int × PA) := (t.shops.zip m.it).map fun p => (p.1.items, p.2)
def tbP (d : Nat) (m : Tay) (t : Tab) : List HProp :=
  [blk d 67 (tabC m t), sl Xr 112 m.roA m.roC t.rooms, sl Xp 133 m.prA m.prC t.protos, sl Xm 77 m.moA m.moC t.mobs, sl Xc 135 m.reA m.reC (t.recipes.zip m.nd),
   sl Xq 137 m.quA m.quC t.quests, sl Xs 81 m.shA m.shC (t.shops.zip m.it), nest E64 3 (ndL t m), nest E64 3 (itL t m)]
def TLaid (m : Tay) (t : Tab) : Prop := m.nd.length = t.recipes.length ∧ m.it.length = t.shops.length
/-- The tables t, of their own, at block d. -/
def tb (d : Nat) (m : Tay) (t : Tab) : HProp := exL (fun _ : Unit => TLaid m t) (fun _ => tbP d m t)
theorem tb_open {o : Outer} {W : World} {d : Nat} {m : Tay} {t : Tab} {r : List HProp} (k : Sat o W (tb d m t :: r)) : TLaid m t ∧ Sat o W (tbP d m t ++ r) := by
  obtain ⟨x, hx⟩ := k.exo
  exact ⟨x.2, hx⟩
theorem tb_close {o : Outer} {W : World} {d : Nat} {m : Tay} {t : Tab} {r : List HProp} (hl : TLaid m t) (k : Sat o W (tbP d m t ++ r)) : Sat o W (tb d m t :: r) := Sat.exc () hl k
theorem tb_cell {d i : Nat} {m : Tay} {t : Tab} {v : Value} (h : (tabC m t)[i]? = some v) : CellAt (tb d m t) d i v :=
  exL_cell (fun _ => blk d 67 (tabC m t)) (fun _ => _) (fun _ => .here) (fun _ _ => blk_cellAt h)
instance tb_rt {d : Nat} {m : Tay} {t : Tab} : RT (tb d m t) d m t where
  cell i v h := tb_cell h
  ro := exL_reads (fun _ => _) (fun _ => _) (fun _ => .there .here) (fun _ _ => reads_sl)
  pr := exL_reads (fun _ => _) (fun _ => _) (fun _ => .there (.there .here)) (fun _ _ => reads_sl)
  mo := exL_reads (fun _ => _) (fun _ => _) (fun _ => .there (.there (.there .here))) (fun _ _ => reads_sl)
  re := exL_reads (fun _ => _) (fun _ => _) (fun _ => .there (.there (.there (.there .here)))) (fun _ _ => reads_sl)
  qu := exL_reads (fun _ => _) (fun _ => _) (fun _ => .there (.there (.there (.there (.there .here))))) (fun _ _ => reads_sl)
  sh := exL_reads (fun _ => _) (fun _ => _) (fun _ => .there (.there (.there (.there (.there (.there .here)))))) (fun _ _ => reads_sl)
  nd p hp := exL_reads (fun _ => _) (fun _ => _) (fun _ => .there (.there (.there (.there (.there (.there (.there .here))))))) (fun _ _ => nest_mem (p := (p.1.needs, p.2)) (List.mem_map_of_mem (f := fun p : Rcp × PA => (p.1.needs, p.2)) hp))
  it p hp := exL_reads (fun _ => _) (fun _ => _) (fun _ => .there (.there (.there (.there (.there (.there (.there (.there .here)))))))) (fun _ _ => nest_mem (p := (p.1.items, p.2)) (List.mem_map_of_mem (f := fun p : Shp × PA => (p.1.items, p.2)) hp))
/-! what is said, and the document's state -/
abbrev Sy := Tx × Tx
@[reducible] def Xy : Enc Sy := ⟨2, fun p => [str p.1, str p.2], fun _ => rfl, fun p => oneL (by rfl), by decide⟩
instance : TyEnc Tryz.prog 220 Xy := ⟨⟩
instance {a b : List UInt8} : Elt Xy [str a, str b] (a, b) := ⟨rfl⟩
@[reducible] def tsC (d e : Nat) (p : PA) (S : List Sy) (u : Int) : List Value := [.pointer (some ⟨d, 0, none⟩), .pointer (some ⟨e, 0, none⟩), .slice p.1 S.length p.2, .int .i64 u]
/-- The document's state at block t: its world at d, its tables at e, what was said, how many dice a command took. -/
def ts (t d e : Nat) (S : List Sy) (u : Int) : HProp := exL (fun _ : PA => True) (fun p => [blk t 116 (tsC d e p S u), sl Xy 220 p.1 p.2 S])
theorem ts_cell {t d e i : Nat} {S : List Sy} {u : Int} {v : Value} (h : ∀ p, (tsC d e p S u)[i]? = some v) : CellAt (ts t d e S u) t i v :=
  exL_cell (fun p => blk t 116 (tsC d e p S u)) (fun _ => _) (fun _ => .here) (fun p _ => blk_cellAt (h p))
instance ts0 {t d e : Nat} {S : List Sy} {u : Int} : Cel (ts t d e S u) t 0 (.pointer (some ⟨d, 0, none⟩)) := ⟨ts_cell fun _ => rfl⟩
instance ts1 {t d e : Nat} {S : List Sy} {u : Int} : Cel (ts t d e S u) t 1 (.pointer (some ⟨e, 0, none⟩)) := ⟨ts_cell fun _ => rfl⟩
instance ts3 {t d e : Nat} {S : List Sy} {u : Int} : Cel (ts t d e S u) t 3 (.int .i64 u) := ⟨ts_cell fun _ => rfl⟩
end Go.Proofs.YtlibnpdbcjgegaaGreat
