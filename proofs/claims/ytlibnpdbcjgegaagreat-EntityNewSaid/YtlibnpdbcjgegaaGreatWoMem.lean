/-
  Worlds: what they are, and how they lie in memory.
-/
import Derived.Test.YtlibnpdbcjgegaaGreatSLApp
namespace Go.Proofs.YtlibnpdbcjgegaaGreat
open Go.SL
set_option linter.unusedVariables false
set_option linter.unusedSimpArgs false
set_option maxHeartbeats 4000000
abbrev Tx := List UInt8
structure Chr where
  name : Tx
  hash : Tx
  on : Bool
  room : Int
  hp : Int
  xp : Int
  gold : Int
  bank : Int
  foe : Int
  done : List Int
  deriving DecidableEq
structure Thg where
  id : Int
  proto : Int
  place : Int
  room : Int
  who : Tx
  deriving DecidableEq
structure Mob where
  id : Int
  proto : Int
  room : Int
  hp : Int
  deriving DecidableEq
structure Hse where
  room : Int
  owner : Tx
  guests : List Tx
  chest : Int
  deriving DecidableEq
structure Lot where
  id : Int
  thing : Int
  seller : Tx
  min : Int
  bid : Int
  bidder : Tx
  ends : Int
  deriving DecidableEq
structure Till where
  room : Int
  gold : Int
  deriving DecidableEq
structure Wld where
  now : Int
  next : Int
  minted : Int
  chars : List Chr
  things : List Thg
  mobs : List Mob
  houses : List Hse
  lots : List Lot
  tills : List Till
  deriving DecidableEq
/-- Where a slice lies, and how many it may hold. -/
abbrev PA := Option Addr × Nat
@[reducible] def chrC (x : Chr) (h : PA) : List Value := [str x.name, str x.hash, .bool x.on, .int .i64 x.room, .int .i64 x.hp, .int .i64 x.xp, .int .i64 x.gold, .int .i64 x.bank, .int .i64 x.foe, .slice h.1 x.done.length h.2]
@[reducible] def thgC (x : Thg) : List Value := [.int .i64 x.id, .int .i64 x.proto, .int .i64 x.place, .int .i64 x.room, str x.who]
@[reducible] def mobC (x : Mob) : List Value := [.int .i64 x.id, .int .i64 x.proto, .int .i64 x.room, .int .i64 x.hp]
@[reducible] def hseC (x : Hse) (h : PA) : List Value := [.int .i64 x.room, str x.owner, .slice h.1 x.guests.length h.2, .int .i64 x.chest]
@[reducible] def lotC (x : Lot) : List Value := [.int .i64 x.id, .int .i64 x.thing, str x.seller, .int .i64 x.min, .int .i64 x.bid, str x.bidder, .int .i64 x.ends]
@[reducible] def tillC (x : Till) : List Value := [.int .i64 x.room, .int .i64 x.gold]
theorem oneL {l : List Value} (h : l.all (·.oneCell') = true) : ∀ v, v ∈ l → v.oneCell' = true := fun v hv => List.all_eq_true.1 h v hv
@[reducible] def Ec : Enc (Chr × PA) := ⟨10, fun p => chrC p.1 p.2, fun _ => rfl, fun p => oneL (by rfl), by decide⟩
@[reducible] def Et : Enc Thg := ⟨5, thgC, fun _ => rfl, fun p => oneL (by rfl), by decide⟩
@[reducible] def Em : Enc Mob := ⟨4, mobC, fun _ => rfl, fun p => oneL (by rfl), by decide⟩
@[reducible] def Eh : Enc (Hse × PA) := ⟨4, fun p => hseC p.1 p.2, fun _ => rfl, fun p => oneL (by rfl), by decide⟩
@[reducible] def El : Enc Lot := ⟨7, lotC, fun _ => rfl, fun p => oneL (by rfl), by decide⟩
@[reducible] def Ei : Enc Till := ⟨2, tillC, fun _ => rfl, fun p => oneL (by rfl), by decide⟩
abbrev E64 : Enc Int := Enc.int .i64
instance : TyEnc Tryz.prog 40 Et := ⟨⟩
instance : TyEnc Tryz.prog 79 Em := ⟨⟩
instance : TyEnc Tryz.prog 90 El := ⟨⟩
instance : TyEnc Tryz.prog 83 Ei := ⟨⟩
instance {a b c d : Int} {s : List UInt8} : Elt Et [.int .i64 a, .int .i64 b, .int .i64 c, .int .i64 d, str s] ⟨a, b, c, d, s⟩ := ⟨rfl⟩
instance {a b c d : Int} : Elt Em [.int .i64 a, .int .i64 b, .int .i64 c, .int .i64 d] ⟨a, b, c, d⟩ := ⟨rfl⟩
instance {a b c d e : Int} {s u : List UInt8} : Elt El [.int .i64 a, .int .i64 b, str s, .int .i64 c, .int .i64 d, str u, .int .i64 e] ⟨a, b, s, c, d, u, e⟩ := ⟨rfl⟩
instance {a b : Int} : Elt Ei [.int .i64 a, .int .i64 b] ⟨a, b⟩ := ⟨rfl⟩
instance {x : Thg} : Elt Et (thgC x) x := ⟨rfl⟩
instance {x : Mob} : Elt Em (mobC x) x := ⟨rfl⟩
instance {x : Lot} : Elt El (lotC x) x := ⟨rfl⟩
instance {x : Till} : Elt Ei (tillC x) x := ⟨rfl⟩
/-- Where a world's lists lie. -/
structure Lay where
  chA : Option Addr
  chC : Nat
  thA : Option Addr
  thC : Nat
  moA : Option Addr
  moC : Nat
  hoA : Option Addr
  hoC : Nat
  loA : Option Addr
  loC : Nat
  tiA : Option Addr
  tiC : Nat
  dn : List PA
  gs : List PA
@[reducible] def wldC (m : Lay) (w : Wld) : List Value := [.int .i64 w.now, .int .i64 w.next, .int .i64 w.minted, .slice m.chA w.chars.length m.chC, .slice m.thA w.things.length m.thC, .slice m.moA w.mobs.length m.moC, .slice m.hoA w.houses.length m.hoC, .slice m.loA w.lots.length m.loC, .slice m.tiA w.tills.length m.tiC]
/-- R holds the world w at block d, laid as m tells. -/
class RW (R : HProp) (d : outParam Nat) (m : outParam Lay) (w : outParam Wld) : Prop where
  cell : ∀ (i : Nat) (v : Value), (wldC m w)[i]? = some v → CellAt R d i v
  ch : Reads R Ec m.chA (w.chars.zip m.dn)
  th : Reads R Et m.thA w.things
  mo : Reads R Em m.moA w.mobs
  ho : Reads R Eh m.hoA (w.houses.zip m.gs)
  lo : Reads R El m.loA w.lots
  ti : Reads R Ei m.tiA w.tills
  dn : ∀ p, p ∈ w.chars.zip m.dn → Reads R E64 p.2.1 p.1.done
  gs : ∀ p, p ∈ w.houses.zip m.gs → Reads R Enc.str p.2.1 p.1.guests
instance rw0 {R : HProp} {d : Nat} {m : Lay} {w : Wld} [h : RW R d m w] : Cel R d 0 (.int .i64 w.now) := ⟨h.cell 0 _ rfl⟩
instance rw1 {R : HProp} {d : Nat} {m : Lay} {w : Wld} [h : RW R d m w] : Cel R d 1 (.int .i64 w.next) := ⟨h.cell 1 _ rfl⟩
instance rw2 {R : HProp} {d : Nat} {m : Lay} {w : Wld} [h : RW R d m w] : Cel R d 2 (.int .i64 w.minted) := ⟨h.cell 2 _ rfl⟩
instance rw3 {R : HProp} {d : Nat} {m : Lay} {w : Wld} [h : RW R d m w] : Cel R d 3 (.slice m.chA w.chars.length m.chC) := ⟨h.cell 3 _ rfl⟩
instance rw4 {R : HProp} {d : Nat} {m : Lay} {w : Wld} [h : RW R d m w] : Cel R d 4 (.slice m.thA w.things.length m.thC) := ⟨h.cell 4 _ rfl⟩
instance rw5 {R : HProp} {d : Nat} {m : Lay} {w : Wld} [h : RW R d m w] : Cel R d 5 (.slice m.moA w.mobs.length m.moC) := ⟨h.cell 5 _ rfl⟩
instance rw6 {R : HProp} {d : Nat} {m : Lay} {w : Wld} [h : RW R d m w] : Cel R d 6 (.slice m.hoA w.houses.length m.hoC) := ⟨h.cell 6 _ rfl⟩
instance rw7 {R : HProp} {d : Nat} {m : Lay} {w : Wld} [h : RW R d m w] : Cel R d 7 (.slice m.loA w.lots.length m.loC) := ⟨h.cell 7 _ rfl⟩
instance rw8 {R : HProp} {d : Nat} {m : Lay} {w : Wld} [h : RW R d m w] : Cel R d 8 (.slice m.tiA w.tills.length m.tiC) := ⟨h.cell 8 _ rfl⟩
instance rwch {R : HProp} {d : Nat} {m : Lay} {w : Wld} [h : RW R d m w] : Rd R Ec m.chA (w.chars.zip m.dn) := ⟨h.ch⟩
instance rwth {R : HProp} {d : Nat} {m : Lay} {w : Wld} [h : RW R d m w] : Rd R Et m.thA w.things := ⟨h.th⟩
instance rwmo {R : HProp} {d : Nat} {m : Lay} {w : Wld} [h : RW R d m w] : Rd R Em m.moA w.mobs := ⟨h.mo⟩
instance rwho {R : HProp} {d : Nat} {m : Lay} {w : Wld} [h : RW R d m w] : Rd R Eh m.hoA (w.houses.zip m.gs) := ⟨h.ho⟩
instance rwlo {R : HProp} {d : Nat} {m : Lay} {w : Wld} [h : RW R d m w] : Rd R El m.loA w.lots := ⟨h.lo⟩
instance rwti {R : HProp} {d : Nat} {m : Lay} {w : Wld} [h : RW R d m w] : Rd R Ei m.tiA w.tills := ⟨h.ti⟩
/-! lists that own their slices -/
theorem Lift.perm {a b : List HProp} (h : a.Perm b) : Lift a b := by
  induction h with
  | nil => exact .refl _
  | cons x _ ih => exact ih.cons x
  | swap x y l => exact .swap _ _ _
  | trans _ _ ih1 ih2 => exact ih1.trans ih2
def nest {α : Type} (E : Enc α) (e : TypeId) (ps : List (List α × PA)) : HProp := starL (ps.map fun p => sl E e p.2.1 p.2.2 p.1)
section
variable {α : Type} {E : Enc α} {e : TypeId} {ps qs : List (List α × PA)} {o : Outer} {w : World} {r : List HProp}
theorem find_map : ∀ (ps : List (List α × PA)) (i : Nat) (p : List α × PA), ps[i]? = some p → Find (ps.map fun p => sl E e p.2.1 p.2.2 p.1) (sl E e p.2.1 p.2.2 p.1) ((ps.eraseIdx i).map fun p => sl E e p.2.1 p.2.2 p.1)
  | [], _, _, h => by simp at h
  | q :: ps, 0, p, h => by simp at h; subst h; exact .here
  | q :: ps, i + 1, p, h => by
    simp only [List.getElem?_cons_succ] at h
    simp only [List.map_cons, List.eraseIdx_cons_succ]
    exact .there (find_map ps i p h)
theorem nest_reads {i : Nat} {p : List α × PA} (h : ps[i]? = some p) : Reads (nest E e ps) E p.2.1 p.1 := by
  intro f w hf hw
  obtain ⟨g, hg, k⟩ := starL_mem (find_map ps i p h) hf
  exact reads_sl g w hg (fun b y hb => hw b y (k b y hb))
theorem nest_mem {p : List α × PA} (h : p ∈ ps) : Reads (nest E e ps) E p.2.1 p.1 := by
  obtain ⟨i, hi, rfl⟩ := List.mem_iff_getElem.1 h
  exact nest_reads (i := i) (List.getElem?_eq_getElem hi)
theorem nest_perm (h : ps.Perm qs) (k : Sat o w (nest E e ps :: r)) : Sat o w (nest E e qs :: r) := by
  have h1 := k.unstar
  refine Sat.star (h1.lift ?_)
  exact Lift.perm ((h.map _).append_right r)
theorem nest_cons {p : List α × PA} (k : Sat o w (sl E e p.2.1 p.2.2 p.1 :: nest E e ps :: r)) : Sat o w (nest E e (p :: ps) :: r) := by
  refine Sat.star (Ps := sl E e p.2.1 p.2.2 p.1 :: ps.map _) ?_
  have h1 := (k.lift (.swap _ _ _)).unstar
  refine h1.lift (Lift.perm ?_)
  exact List.perm_middle
theorem nest_uncons {p : List α × PA} (k : Sat o w (nest E e (p :: ps) :: r)) : Sat o w (sl E e p.2.1 p.2.2 p.1 :: nest E e ps :: r) := by
  have h1 : Sat o w (sl E e p.2.1 p.2.2 p.1 :: (ps.map (fun p => sl E e p.2.1 p.2.2 p.1) ++ r)) := k.unstar
  have h2 : Sat o w (ps.map (fun p => sl E e p.2.1 p.2.2 p.1) ++ (sl E e p.2.1 p.2.2 p.1 :: r)) := h1.lift (Lift.perm List.perm_middle.symm)
  exact h2.star.lift (.swap _ _ _)
theorem nest_nil (k : Sat o w r) : Sat o w (nest E e [] :: r) := k.lift (.emp (A := starL []) (show starL [] SL.emp from rfl) _)
theorem nest_snoc {p : List α × PA} (k : Sat o w (sl E e p.2.1 p.2.2 p.1 :: nest E e ps :: r)) : Sat o w (nest E e (ps ++ [p]) :: r) :=
  nest_perm (List.perm_append_comm (l₁ := [p])) (nest_cons k)
theorem nest_set {i : Nat} {p : List α × PA} (hi : i < ps.length) (k : Sat o w (sl E e p.2.1 p.2.2 p.1 :: nest E e ps :: r)) : Sat o w (nest E e (ps.set i p) :: r) := by
  have h1 : ps.Perm (ps[i] :: ps.eraseIdx i) := by
    rw [List.eraseIdx_eq_take_drop_succ]
    have := List.perm_middle (a := ps[i]) (l₁ := ps.take i) (l₂ := ps.drop (i + 1))
    rw [← List.drop_eq_getElem_cons hi, List.take_append_drop] at this
    exact this
  have h2 : (ps.set i p).Perm (p :: ps.eraseIdx i) := by
    rw [List.eraseIdx_eq_take_drop_succ, List.set_eq_take_append_cons_drop, if_pos hi]
    exact List.perm_middle
  refine nest_perm h2.symm (nest_cons ?_)
  have h3 := nest_uncons (nest_perm h1 (k.lift (.swap _ _ _)))
  exact (h3.lift (Lift.drop _ _)).lift (.swap _ _ _)
theorem nest_take {i : Nat} (hi : i < ps.length) (k : Sat o w (nest E e ps :: r)) : Sat o w (sl E e ps[i].2.1 ps[i].2.2 ps[i].1 :: nest E e (ps.eraseIdx i) :: r) := by
  have h1 : ps.Perm (ps[i] :: ps.eraseIdx i) := by
    rw [List.eraseIdx_eq_take_drop_succ]
    have := List.perm_middle (a := ps[i]) (l₁ := ps.take i) (l₂ := ps.drop (i + 1))
    rw [← List.drop_eq_getElem_cons hi, List.take_append_drop] at this
    exact this
  exact nest_uncons (nest_perm h1 k)
theorem nest_put {i : Nat} {p : List α × PA} (hi : i < ps.length) (k : Sat o w (sl E e p.2.1 p.2.2 p.1 :: nest E e (ps.eraseIdx i) :: r)) : Sat o w (nest E e (ps.set i p) :: r) := by
  have h2 : (ps.set i p).Perm (p :: ps.eraseIdx i) := by
    rw [List.eraseIdx_eq_take_drop_succ, List.set_eq_take_append_cons_drop, if_pos hi]
    exact List.perm_middle
  exact nest_perm h2.symm (nest_cons k)
end
/-! the world as its own -/
@[reducible] def dnL (w : Wld) (m : Lay) : List (List Int × PA) := (w.chars.zip m.dn).map fun p => (p.1.done, p.2)
@[reducible] def gsL (w : Wld) (m : Lay) : List (List Tx × PA) := (w.houses.zip m.gs).map fun p => (p.1.guests, p.2)
def wlP (d : Nat) (m : Lay) (w : Wld) : List HProp :=
  [blk d 55 (wldC m w), sl Ec 85 m.chA m.chC (w.chars.zip m.dn), sl Et 40 m.thA m.thC w.things, sl Em 79 m.moA m.moC w.mobs, sl Eh 87 m.hoA m.hoC (w.houses.zip m.gs),
   sl El 90 m.loA m.loC w.lots, sl Ei 83 m.tiA m.tiC w.tills, nest E64 3 (dnL w m), nest Enc.str 9 (gsL w m)]
def Laid (m : Lay) (w : Wld) : Prop := m.dn.length = w.chars.length ∧ m.gs.length = w.houses.length
/-- The world w, its own, at block d. -/
def wl (d : Nat) (m : Lay) (w : Wld) : HProp := exL (fun _ : Unit => Laid m w) (fun _ => wlP d m w)
theorem wl_open {o : Outer} {W : World} {d : Nat} {m : Lay} {w : Wld} {r : List HProp} (k : Sat o W (wl d m w :: r)) : Laid m w ∧ Sat o W (wlP d m w ++ r) := by
  obtain ⟨x, hx⟩ := k.exo
  exact ⟨x.2, hx⟩
theorem wl_close {o : Outer} {W : World} {d : Nat} {m : Lay} {w : Wld} {r : List HProp} (hl : Laid m w) (k : Sat o W (wlP d m w ++ r)) : Sat o W (wl d m w :: r) := Sat.exc () hl k
theorem wl_cell {d i : Nat} {m : Lay} {w : Wld} {v : Value} (h : (wldC m w)[i]? = some v) : CellAt (wl d m w) d i v :=
  exL_cell (fun _ => blk d 55 (wldC m w)) (fun _ => _) (fun _ => .here) (fun _ _ => blk_cellAt h)
instance wl_rw {d : Nat} {m : Lay} {w : Wld} : RW (wl d m w) d m w where
  cell i v h := wl_cell h
  ch := exL_reads (fun _ => _) (fun _ => _) (fun _ => .there .here) (fun _ _ => reads_sl)
  th := exL_reads (fun _ => _) (fun _ => _) (fun _ => .there (.there .here)) (fun _ _ => reads_sl)
  mo := exL_reads (fun _ => _) (fun _ => _) (fun _ => .there (.there (.there .here))) (fun _ _ => reads_sl)
  ho := exL_reads (fun _ => _) (fun _ => _) (fun _ => .there (.there (.there (.there .here)))) (fun _ _ => reads_sl)
  lo := exL_reads (fun _ => _) (fun _ => _) (fun _ => .there (.there (.there (.there (.there .here))))) (fun _ _ => reads_sl)
  ti := exL_reads (fun _ => _) (fun _ => _) (fun _ => .there (.there (.there (.there (.there (.there .here)))))) (fun _ _ => reads_sl)
  dn p hp := exL_reads (fun _ => _) (fun _ => _) (fun _ => .there (.there (.there (.there (.there (.there (.there .here))))))) (fun _ _ => nest_mem (p := (p.1.done, p.2)) (List.mem_map_of_mem (f := fun p : Chr × PA => (p.1.done, p.2)) hp))
  gs p hp := exL_reads (fun _ => _) (fun _ => _) (fun _ => .there (.there (.there (.there (.there (.there (.there (.there .here)))))))) (fun _ _ => nest_mem (p := (p.1.guests, p.2)) (List.mem_map_of_mem (f := fun p : Hse × PA => (p.1.guests, p.2)) hp))
theorem zip_get {α β : Type} {l : List α} {m : List β} {i : Nat} {x : α} (h : l[i]? = some x) (hl : m.length = l.length) : ∃ y, (l.zip m)[i]? = some (x, y) ∧ m[i]? = some y := by
  have hi := (List.getElem?_eq_some_iff.1 h).1
  refine ⟨m[i]'(by omega), ?_, List.getElem?_eq_getElem _⟩
  rw [List.getElem?_zip_eq_some]
  exact ⟨h, List.getElem?_eq_getElem _⟩
theorem zip_set {α β : Type} {l : List α} {m : List β} {i : Nat} {x : α} {y : β} (h : (l.zip m)[i]? = some (x, y)) (x' : α) : (l.zip m).set i (x', y) = (l.set i x').zip m := by
  rw [List.getElem?_zip_eq_some] at h
  apply List.ext_getElem?
  intro k
  by_cases hk : i = k
  · subst hk
    have h1 := (List.getElem?_eq_some_iff.1 h.1).1
    have h2 := (List.getElem?_eq_some_iff.1 h.2).1
    rw [List.getElem?_set_self (by rw [List.length_zip]; omega)]
    symm
    rw [List.getElem?_zip_eq_some]
    exact ⟨List.getElem?_set_self h1, h.2⟩
  · rw [List.getElem?_set_ne hk]
    simp only [List.zip, List.getElem?_zipWith, List.getElem?_set_ne hk]
theorem zip_same {α β γ : Type} {l : List α} {m : List β} {i : Nat} {x x' : α} (g : α → γ) (h : l[i]? = some x) (hg : g x' = g x) : ((l.set i x').zip m).map (fun p => (g p.1, p.2)) = (l.zip m).map (fun p => (g p.1, p.2)) := by
  apply List.ext_getElem?
  intro k
  simp only [List.getElem?_map, List.zip, List.getElem?_zipWith]
  by_cases hk : i = k
  · subst hk
    have h1 := (List.getElem?_eq_some_iff.1 h).1
    rw [List.getElem?_set_self h1, h]
    cases m[i]? <;> simp [hg]
  · rw [List.getElem?_set_ne hk]
end Go.Proofs.YtlibnpdbcjgegaaGreat
