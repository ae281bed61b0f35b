/-
  Walks and laws joined: WoSt WoSt2 WdIns WdMoney EnPure EnIn EnThings.
-/
import Derived.Test.YtflmbhkjhfmeoaaGreatQ02
import Derived.Test.YtflmbhkjhfmeoaaGreatQ05
import Derived.Lib.ItoaNum
import Derived.Test.YtflmbhkjhfmeoaaGreatQ06
set_option linter.unusedVariables false
set_option linter.unusedSimpArgs false
namespace Go.Proofs.YtflmbhkjhfmeoaaGreat
open Go.SL
set_option maxHeartbeats 4000000
class PutC (j : Nat) (v : Value) (u : Chr) (u' : outParam Chr) : Prop where
  one : v.oneCell' = true
  same : u'.done = u.done
  set : ∀ h : PA, chrC u' h = (chrC u h).set j v
  lt : Nat.blt j 10 = true
instance {u : Chr} {s : Tx} : PutC 0 (str s) u { u with name := s } := ⟨rfl, rfl, fun _ => rfl, rfl⟩
instance {u : Chr} {s : Tx} : PutC 1 (str s) u { u with hash := s } := ⟨rfl, rfl, fun _ => rfl, rfl⟩
instance {u : Chr} {b : Bool} : PutC 2 (.bool b) u { u with on := b } := ⟨rfl, rfl, fun _ => rfl, rfl⟩
instance {u : Chr} {z : Int} : PutC 3 (.int .i64 z) u { u with room := z } := ⟨rfl, rfl, fun _ => rfl, rfl⟩
instance {u : Chr} {z : Int} : PutC 4 (.int .i64 z) u { u with hp := z } := ⟨rfl, rfl, fun _ => rfl, rfl⟩
instance {u : Chr} {z : Int} : PutC 5 (.int .i64 z) u { u with xp := z } := ⟨rfl, rfl, fun _ => rfl, rfl⟩
instance {u : Chr} {z : Int} : PutC 6 (.int .i64 z) u { u with gold := z } := ⟨rfl, rfl, fun _ => rfl, rfl⟩
instance {u : Chr} {z : Int} : PutC 7 (.int .i64 z) u { u with bank := z } := ⟨rfl, rfl, fun _ => rfl, rfl⟩
instance {u : Chr} {z : Int} : PutC 8 (.int .i64 z) u { u with foe := z } := ⟨rfl, rfl, fun _ => rfl, rfl⟩
class PutT (j : Nat) (v : Value) (u : Thg) (u' : outParam Thg) : Prop where
  one : v.oneCell' = true
  set : thgC u' = (thgC u).set j v
  lt : Nat.blt j 5 = true
instance {u : Thg} {z : Int} : PutT 0 (.int .i64 z) u { u with id := z } := ⟨rfl, rfl, rfl⟩
instance {u : Thg} {z : Int} : PutT 1 (.int .i64 z) u { u with proto := z } := ⟨rfl, rfl, rfl⟩
instance {u : Thg} {z : Int} : PutT 2 (.int .i64 z) u { u with place := z } := ⟨rfl, rfl, rfl⟩
instance {u : Thg} {z : Int} : PutT 3 (.int .i64 z) u { u with room := z } := ⟨rfl, rfl, rfl⟩
instance {u : Thg} {s : Tx} : PutT 4 (str s) u { u with who := s } := ⟨rfl, rfl, rfl⟩
class PutM (j : Nat) (v : Value) (u : Mob) (u' : outParam Mob) : Prop where
  one : v.oneCell' = true
  set : mobC u' = (mobC u).set j v
  lt : Nat.blt j 4 = true
instance {u : Mob} {z : Int} : PutM 0 (.int .i64 z) u { u with id := z } := ⟨rfl, rfl, rfl⟩
instance {u : Mob} {z : Int} : PutM 1 (.int .i64 z) u { u with proto := z } := ⟨rfl, rfl, rfl⟩
instance {u : Mob} {z : Int} : PutM 2 (.int .i64 z) u { u with room := z } := ⟨rfl, rfl, rfl⟩
instance {u : Mob} {z : Int} : PutM 3 (.int .i64 z) u { u with hp := z } := ⟨rfl, rfl, rfl⟩
class PutH (j : Nat) (v : Value) (u : Hse) (u' : outParam Hse) : Prop where
  one : v.oneCell' = true
  same : u'.guests = u.guests
  set : ∀ h : PA, hseC u' h = (hseC u h).set j v
  lt : Nat.blt j 4 = true
instance {u : Hse} {z : Int} : PutH 0 (.int .i64 z) u { u with room := z } := ⟨rfl, rfl, fun _ => rfl, rfl⟩
instance {u : Hse} {s : Tx} : PutH 1 (str s) u { u with owner := s } := ⟨rfl, rfl, fun _ => rfl, rfl⟩
instance {u : Hse} {z : Int} : PutH 3 (.int .i64 z) u { u with chest := z } := ⟨rfl, rfl, fun _ => rfl, rfl⟩
class PutL (j : Nat) (v : Value) (u : Lot) (u' : outParam Lot) : Prop where
  one : v.oneCell' = true
  set : lotC u' = (lotC u).set j v
  lt : Nat.blt j 7 = true
instance {u : Lot} {z : Int} : PutL 0 (.int .i64 z) u { u with id := z } := ⟨rfl, rfl, rfl⟩
instance {u : Lot} {z : Int} : PutL 1 (.int .i64 z) u { u with thing := z } := ⟨rfl, rfl, rfl⟩
instance {u : Lot} {s : Tx} : PutL 2 (str s) u { u with seller := s } := ⟨rfl, rfl, rfl⟩
instance {u : Lot} {z : Int} : PutL 3 (.int .i64 z) u { u with min := z } := ⟨rfl, rfl, rfl⟩
instance {u : Lot} {z : Int} : PutL 4 (.int .i64 z) u { u with bid := z } := ⟨rfl, rfl, rfl⟩
instance {u : Lot} {s : Tx} : PutL 5 (str s) u { u with bidder := s } := ⟨rfl, rfl, rfl⟩
instance {u : Lot} {z : Int} : PutL 6 (.int .i64 z) u { u with ends := z } := ⟨rfl, rfl, rfl⟩
class PutI (j : Nat) (v : Value) (u : Till) (u' : outParam Till) : Prop where
  one : v.oneCell' = true
  set : tillC u' = (tillC u).set j v
  lt : Nat.blt j 2 = true
instance {u : Till} {z : Int} : PutI 0 (.int .i64 z) u { u with room := z } := ⟨rfl, rfl, rfl⟩
instance {u : Till} {z : Int} : PutI 1 (.int .i64 z) u { u with gold := z } := ⟨rfl, rfl, rfl⟩
class PutW (j : Nat) (v : Value) (w : Wld) (w' : outParam Wld) : Prop where
  one : v.oneCell' = true
  set : ∀ m : Lay, wldC m w' = (wldC m w).set j v
  same : w'.chars = w.chars ∧ w'.things = w.things ∧ w'.mobs = w.mobs ∧ w'.houses = w.houses ∧ w'.lots = w.lots ∧ w'.tills = w.tills
  lt : j < 9
instance {w : Wld} {z : Int} : PutW 0 (.int .i64 z) w { w with now := z } := ⟨rfl, fun _ => rfl, ⟨rfl, rfl, rfl, rfl, rfl, rfl⟩, by decide⟩
instance {w : Wld} {z : Int} : PutW 1 (.int .i64 z) w { w with next := z } := ⟨rfl, fun _ => rfl, ⟨rfl, rfl, rfl, rfl, rfl, rfl⟩, by decide⟩
instance {w : Wld} {z : Int} : PutW 2 (.int .i64 z) w { w with minted := z } := ⟨rfl, fun _ => rfl, ⟨rfl, rfl, rfl, rfl, rfl, rfl⟩, by decide⟩
theorem setAt_of {cs : List Value} {i : Nat} {v : Value} (h : i < cs.length) : SetAt cs i v (cs.set i v) := by
  induction cs generalizing i with
  | nil => simp at h
  | cons x cs ih => cases i with
    | zero => exact .here
    | succ i => exact .there (ih (by simpa using h))
section
variable {P : Program} {n : Nat} {o : Outer} {sr : List Tmp} {ops : Array Oper} {Q : Post} {St : List HProp} {rest : List Oper} {xs : Env} {hs : List HProp}
variable {d : Option Tmp} {ty : TypeId} {pos : String} {af : Array Edge}
theorem W.stC {t b p i j : Nat} {m : Lay} {w : Wld} {x y : Operand} {v : Value} {u u' : Chr} {r : List HProp} [h1 : One P t] [hp' : PutC j v u u'] (hx : ev xs x = some (.pointer (some ⟨bk m.chA, p, none⟩))) (hy : ev xs y = some v) (hf : Find hs (wl b m w) r) (hp : p = of m.chA + i * 10 + j) (hu : w.chars[i]? = some u) (hI : Keep (freeSt sr ops ⟨none, .store t x y, ty, pos, af, none⟩) St r)
    {wz : Wld} (hwz : { w with chars := w.chars.set i u' } = wz) (k : W P n o sr ops Q St rest xs (wl b m wz :: r)) : W P n o sr ops Q St (⟨none, .store t x y, ty, pos, af, none⟩ :: rest) xs hs := by
  subst hwz
  refine wopenw (fun hl => ?_) hf
  obtain ⟨h, hz, _⟩ := zip_get hu hl.1
  refine W.st (En := Ec) (u', h) hx hy hp'.one (.there .here) hp rfl hz hp'.lt (hp'.set h) (by repeat (first | exact hI | apply Keep.there)) ?_
  rw [zip_set hz u']
  refine wfoldw b m { w with chars := w.chars.set i u' } ⟨by rw [List.length_set]; exact hl.1, hl.2⟩ k ?_
  have e1 : wldC m { w with chars := w.chars.set i u' } = wldC m w := by simp only [wldC, List.length_set]
  have e2 : dnL { w with chars := w.chars.set i u' } m = dnL w m := zip_same (fun c : Chr => c.done) hu hp'.same
  rw [e1, e2]
  exact (by exact ent_)
theorem W.stT {t b p i j : Nat} {m : Lay} {w : Wld} {x y : Operand} {v : Value} {u u' : Thg} {r : List HProp} [h1 : One P t] [hp' : PutT j v u u'] (hx : ev xs x = some (.pointer (some ⟨bk m.thA, p, none⟩))) (hy : ev xs y = some v) (hf : Find hs (wl b m w) r) (hp : p = of m.thA + i * 5 + j) (hu : w.things[i]? = some u) (hI : Keep (freeSt sr ops ⟨none, .store t x y, ty, pos, af, none⟩) St r)
    {wz : Wld} (hwz : { w with things := w.things.set i u' } = wz) (k : W P n o sr ops Q St rest xs (wl b m wz :: r)) : W P n o sr ops Q St (⟨none, .store t x y, ty, pos, af, none⟩ :: rest) xs hs := by
  subst hwz
  refine wopenw (fun hl => ?_) hf
  refine W.st (En := Et) u' hx hy hp'.one (.there (.there .here)) hp rfl hu hp'.lt hp'.set (by repeat (first | exact hI | apply Keep.there)) ?_
  refine wfoldw b m { w with things := w.things.set i u' } hl k ?_
  have e1 : wldC m { w with things := w.things.set i u' } = wldC m w := by simp only [wldC, List.length_set]
  rw [e1]
  exact (by exact ent_)
theorem W.stM {t b p i j : Nat} {m : Lay} {w : Wld} {x y : Operand} {v : Value} {u u' : Mob} {r : List HProp} [h1 : One P t] [hp' : PutM j v u u'] (hx : ev xs x = some (.pointer (some ⟨bk m.moA, p, none⟩))) (hy : ev xs y = some v) (hf : Find hs (wl b m w) r) (hp : p = of m.moA + i * 4 + j) (hu : w.mobs[i]? = some u) (hI : Keep (freeSt sr ops ⟨none, .store t x y, ty, pos, af, none⟩) St r)
    {wz : Wld} (hwz : { w with mobs := w.mobs.set i u' } = wz) (k : W P n o sr ops Q St rest xs (wl b m wz :: r)) : W P n o sr ops Q St (⟨none, .store t x y, ty, pos, af, none⟩ :: rest) xs hs := by
  subst hwz
  refine wopenw (fun hl => ?_) hf
  refine W.st (En := Em) u' hx hy hp'.one (.there (.there (.there .here))) hp rfl hu hp'.lt hp'.set (by repeat (first | exact hI | apply Keep.there)) ?_
  refine wfoldw b m { w with mobs := w.mobs.set i u' } hl k ?_
  have e1 : wldC m { w with mobs := w.mobs.set i u' } = wldC m w := by simp only [wldC, List.length_set]
  rw [e1]
  exact (by exact ent_)
theorem W.stH {t b p i j : Nat} {m : Lay} {w : Wld} {x y : Operand} {v : Value} {u u' : Hse} {r : List HProp} [h1 : One P t] [hp' : PutH j v u u'] (hx : ev xs x = some (.pointer (some ⟨bk m.hoA, p, none⟩))) (hy : ev xs y = some v) (hf : Find hs (wl b m w) r) (hp : p = of m.hoA + i * 4 + j) (hu : w.houses[i]? = some u) (hI : Keep (freeSt sr ops ⟨none, .store t x y, ty, pos, af, none⟩) St r)
    {wz : Wld} (hwz : { w with houses := w.houses.set i u' } = wz) (k : W P n o sr ops Q St rest xs (wl b m wz :: r)) : W P n o sr ops Q St (⟨none, .store t x y, ty, pos, af, none⟩ :: rest) xs hs := by
  subst hwz
  refine wopenw (fun hl => ?_) hf
  obtain ⟨h, hz, _⟩ := zip_get hu hl.2
  refine W.st (En := Eh) (u', h) hx hy hp'.one (.there (.there (.there (.there .here)))) hp rfl hz hp'.lt (hp'.set h) (by repeat (first | exact hI | apply Keep.there)) ?_
  rw [zip_set hz u']
  refine wfoldw b m { w with houses := w.houses.set i u' } ⟨hl.1, by rw [List.length_set]; exact hl.2⟩ k ?_
  have e1 : wldC m { w with houses := w.houses.set i u' } = wldC m w := by simp only [wldC, List.length_set]
  have e2 : gsL { w with houses := w.houses.set i u' } m = gsL w m := zip_same (fun c : Hse => c.guests) hu hp'.same
  rw [e1, e2]
  exact (by exact ent_)
theorem W.stL {t b p i j : Nat} {m : Lay} {w : Wld} {x y : Operand} {v : Value} {u u' : Lot} {r : List HProp} [h1 : One P t] [hp' : PutL j v u u'] (hx : ev xs x = some (.pointer (some ⟨bk m.loA, p, none⟩))) (hy : ev xs y = some v) (hf : Find hs (wl b m w) r) (hp : p = of m.loA + i * 7 + j) (hu : w.lots[i]? = some u) (hI : Keep (freeSt sr ops ⟨none, .store t x y, ty, pos, af, none⟩) St r)
    {wz : Wld} (hwz : { w with lots := w.lots.set i u' } = wz) (k : W P n o sr ops Q St rest xs (wl b m wz :: r)) : W P n o sr ops Q St (⟨none, .store t x y, ty, pos, af, none⟩ :: rest) xs hs := by
  subst hwz
  refine wopenw (fun hl => ?_) hf
  refine W.st (En := El) u' hx hy hp'.one (.there (.there (.there (.there (.there .here))))) hp rfl hu hp'.lt hp'.set (by repeat (first | exact hI | apply Keep.there)) ?_
  refine wfoldw b m { w with lots := w.lots.set i u' } hl k ?_
  have e1 : wldC m { w with lots := w.lots.set i u' } = wldC m w := by simp only [wldC, List.length_set]
  rw [e1]
  exact (by exact ent_)
theorem W.stI {t b p i j : Nat} {m : Lay} {w : Wld} {x y : Operand} {v : Value} {u u' : Till} {r : List HProp} [h1 : One P t] [hp' : PutI j v u u'] (hx : ev xs x = some (.pointer (some ⟨bk m.tiA, p, none⟩))) (hy : ev xs y = some v) (hf : Find hs (wl b m w) r) (hp : p = of m.tiA + i * 2 + j) (hu : w.tills[i]? = some u) (hI : Keep (freeSt sr ops ⟨none, .store t x y, ty, pos, af, none⟩) St r)
    {wz : Wld} (hwz : { w with tills := w.tills.set i u' } = wz) (k : W P n o sr ops Q St rest xs (wl b m wz :: r)) : W P n o sr ops Q St (⟨none, .store t x y, ty, pos, af, none⟩ :: rest) xs hs := by
  subst hwz
  refine wopenw (fun hl => ?_) hf
  refine W.st (En := Ei) u' hx hy hp'.one (.there (.there (.there (.there (.there (.there .here)))))) hp rfl hu hp'.lt hp'.set (by repeat (first | exact hI | apply Keep.there)) ?_
  refine wfoldw b m { w with tills := w.tills.set i u' } hl k ?_
  have e1 : wldC m { w with tills := w.tills.set i u' } = wldC m w := by simp only [wldC, List.length_set]
  rw [e1]
  exact (by exact ent_)
theorem W.stW {t b j : Nat} {m : Lay} {w w' : Wld} {x y : Operand} {v : Value} {r : List HProp} [h1 : One P t] [hp' : PutW j v w w'] (hx : ev xs x = some (.pointer (some ⟨b, j, none⟩))) (hy : ev xs y = some v) (hf : Find hs (wl b m w) r) (hI : Keep (freeSt sr ops ⟨none, .store t x y, ty, pos, af, none⟩) St r)
    (k : W P n o sr ops Q St rest xs (wl b m w' :: r)) : W P n o sr ops Q St (⟨none, .store t x y, ty, pos, af, none⟩ :: rest) xs hs := by
  obtain ⟨s1, s2, s3, s4, s5, s6⟩ := hp'.same
  refine wopenw (fun hl => ?_) hf
  refine W.store hx hy hp'.one .here (setAt_of hp'.lt) (by repeat (first | exact hI | apply Keep.there)) ?_
  rw [← hp'.set m]
  refine wfoldw b m w' (by unfold Laid; rw [s1, s4]; exact hl) k ?_
  simp only [dnL, gsL, s1, s2, s3, s4, s5, s6]
  exact (by exact ent_)
end
end Go.Proofs.YtflmbhkjhfmeoaaGreat
namespace Go.Proofs.YtflmbhkjhfmeoaaGreat
open Go.SL
set_option maxHeartbeats 8000000
theorem _root_.Go.SL.Enc.all_same {α : Type} (E : Enc α) {l : List α} {i : Nat} {x y : α} (h : l[i]? = some x) (he : E.f y = E.f x) : E.all l = E.all (l.set i y) := by
  induction l generalizing i with
  | nil => rfl
  | cons a l ih => cases i with
    | zero => simp only [List.getElem?_cons_zero, Option.some.injEq] at h; subst h; simp only [Enc.all, List.set_cons_zero, List.flatMap_cons, he]
    | succ i => simp only [List.getElem?_cons_succ] at h; have := ih h; simp only [Enc.all, List.set_cons_succ, List.flatMap_cons] at this ⊢; rw [this]
theorem sl_same {α : Type} {E : Enc α} {e : TypeId} {A : Option Addr} {c : Nat} {l l' : List α} {o : Outer} {w : World} {r : List HProp} (h : E.all l = E.all l') (hl : l.length = l'.length) (k : Sat o w (sl E e A c l :: r)) : Sat o w (sl E e A c l' :: r) := by
  refine k.weaken ?_
  intro f hf
  rcases hf with ⟨a1, b1, c1, d1⟩ | ⟨g, p, spare, hA, hl', hc, hb⟩
  · refine .inl ⟨a1, b1, ?_, d1⟩
    subst c1; exact List.eq_nil_of_length_eq_zero hl.symm
  · exact .inr ⟨g, p, spare, hA, by rw [← h]; exact hl', hc, by rw [← h]; exact hb⟩
theorem nest_front {α : Type} {E : Enc α} {e : TypeId} {ps : List (List α × PA)} {o : Outer} {w : World} {r : List HProp} (n : Nat) (k : Sat o w (nest E e ps :: r)) : Sat o w (nest E e (ps.take n) :: r) := by
  have h1 : Sat o w ((ps.map fun p => sl E e p.2.1 p.2.2 p.1) ++ r) := k.unstar
  have h2 : (ps.map fun p => sl E e p.2.1 p.2.2 p.1) = ((ps.take n).map fun p => sl E e p.2.1 p.2.2 p.1) ++ ((ps.drop n).map fun p => sl E e p.2.1 p.2.2 p.1) := by rw [← List.map_append, List.take_append_drop]
  rw [h2, List.append_assoc] at h1
  have h3 : Sat o w (nest E e (ps.take n) :: (((ps.drop n).map fun p => sl E e p.2.1 p.2.2 p.1) ++ r)) := h1.star
  refine h3.lift (Lift.cons _ ?_)
  generalize (ps.drop n).map (fun p => sl E e p.2.1 p.2.2 p.1) = l
  induction l with
  | nil => exact .refl _
  | cons x l ih => exact (Lift.drop _ _).trans ih
theorem zip_take {α β : Type} (l : List α) (m : List β) (n : Nat) : (l.zip m).take n = (l.take n).zip (m.take n) := by
  induction n generalizing l m with
  | zero => simp
  | succ n ih => cases l <;> cases m <;> simp [ih]
theorem sl_take {α : Type} {E : Enc α} {e : TypeId} {A : Option Addr} {c : Nat} {l : List α} {o : Outer} {w : World} {r : List HProp} (n : Nat) (k : Sat o w (sl E e A c l :: r)) : Sat o w (sl E e A c (l.take n) :: r) := by
  refine k.weaken ?_
  intro f hf
  rcases hf with ⟨a1, b1, c1, d1⟩ | ⟨g, pre, spare, hA, hl, hc, hb⟩
  · exact .inl ⟨a1, b1, (by rw [c1]; exact List.take_nil), d1⟩
  · refine .inr ⟨g, pre, E.all (l.drop n) ++ spare, hA, ?_, hc, ?_⟩
    · have := E.all_append (l.take n) (l.drop n)
      rw [List.take_append_drop] at this
      rw [this] at hl
      simp only [List.length_append] at hl ⊢
      omega
    · have := E.all_append (l.take n) (l.drop n)
      rw [List.take_append_drop] at this
      rw [this] at hb
      simpa only [List.append_assoc] using hb
section
variable {P : Program} {n : Nat} {o : Outer} {sr : List Tmp} {ops : Array Oper} {Q : Post} {St : List HProp} {rest : List Oper} {xs : Env} {hs : List HProp}
variable {d : Option Tmp} {ty : TypeId} {pos : String} {af : Array Edge}
theorem W.cutC {t b q : Nat} {m : Lay} {w : Wld} {x y : Operand} {r : List HProp} [h1 : One P t] (hx : ev xs x = some (.pointer (some ⟨b, 3, none⟩))) (hy : ev xs y = some (.slice m.chA q m.chC)) (hf : Find hs (wl b m w) r) (hq : q ≤ w.chars.length) (hI : Keep (freeSt sr ops ⟨none, .store t x y, ty, pos, af, none⟩) St r)
    {wz : Wld} (hwz : { w with chars := w.chars.take q } = wz) (k : W P n o sr ops Q St rest xs (wl b { m with dn := m.dn.take q } wz :: r)) : W P n o sr ops Q St (⟨none, .store t x y, ty, pos, af, none⟩ :: rest) xs hs := by
  subst hwz
  refine wopenw (fun hl => ?_) hf
  refine W.store hx hy rfl .here (setAt_of (by show 3 < 9; decide)) (by repeat (first | exact hI | apply Keep.there)) ?_
  have e1 : wldC { m with dn := m.dn.take q } { w with chars := w.chars.take q } = (wldC m w).set 3 (.slice m.chA q m.chC) := by simp only [wldC, List.length_take, Nat.min_eq_left hq, List.set_cons_succ, List.set_cons_zero]
  rw [← e1]
  refine W.one (.there .here) (fun st hst => sl_take q hst) ?_
  refine W.one (.there (.there (.there (.there (.there (.there (.there .here))))))) (fun st hst => nest_front q hst) ?_
  simp only [zip_take, ← List.map_take]
  refine wfoldw b { m with dn := m.dn.take q } { w with chars := w.chars.take q } ⟨by simp only [List.length_take, hl.1], hl.2⟩ k ?_
  exact (by exact ent_)
theorem W.cutT {t b q : Nat} {m : Lay} {w : Wld} {x y : Operand} {r : List HProp} [h1 : One P t] (hx : ev xs x = some (.pointer (some ⟨b, 4, none⟩))) (hy : ev xs y = some (.slice m.thA q m.thC)) (hf : Find hs (wl b m w) r) (hq : q ≤ w.things.length) (hI : Keep (freeSt sr ops ⟨none, .store t x y, ty, pos, af, none⟩) St r)
    {wz : Wld} (hwz : { w with things := w.things.take q } = wz) (k : W P n o sr ops Q St rest xs (wl b m wz :: r)) : W P n o sr ops Q St (⟨none, .store t x y, ty, pos, af, none⟩ :: rest) xs hs := by
  subst hwz
  refine wopenw (fun hl => ?_) hf
  refine W.store hx hy rfl .here (setAt_of (by show 4 < 9; decide)) (by repeat (first | exact hI | apply Keep.there)) ?_
  have e1 : wldC m { w with things := w.things.take q } = (wldC m w).set 4 (.slice m.thA q m.thC) := by simp only [wldC, List.length_take, Nat.min_eq_left hq, List.set_cons_succ, List.set_cons_zero]
  rw [← e1]
  refine W.one (.there (.there .here)) (fun st hst => sl_take q hst) ?_
  refine wfoldw b m { w with things := w.things.take q } hl k ?_
  exact (by exact ent_)
theorem W.cutM {t b q : Nat} {m : Lay} {w : Wld} {x y : Operand} {r : List HProp} [h1 : One P t] (hx : ev xs x = some (.pointer (some ⟨b, 5, none⟩))) (hy : ev xs y = some (.slice m.moA q m.moC)) (hf : Find hs (wl b m w) r) (hq : q ≤ w.mobs.length) (hI : Keep (freeSt sr ops ⟨none, .store t x y, ty, pos, af, none⟩) St r)
    {wz : Wld} (hwz : { w with mobs := w.mobs.take q } = wz) (k : W P n o sr ops Q St rest xs (wl b m wz :: r)) : W P n o sr ops Q St (⟨none, .store t x y, ty, pos, af, none⟩ :: rest) xs hs := by
  subst hwz
  refine wopenw (fun hl => ?_) hf
  refine W.store hx hy rfl .here (setAt_of (by show 5 < 9; decide)) (by repeat (first | exact hI | apply Keep.there)) ?_
  have e1 : wldC m { w with mobs := w.mobs.take q } = (wldC m w).set 5 (.slice m.moA q m.moC) := by simp only [wldC, List.length_take, Nat.min_eq_left hq, List.set_cons_succ, List.set_cons_zero]
  rw [← e1]
  refine W.one (.there (.there (.there .here))) (fun st hst => sl_take q hst) ?_
  refine wfoldw b m { w with mobs := w.mobs.take q } hl k ?_
  exact (by exact ent_)
theorem W.cutH {t b q : Nat} {m : Lay} {w : Wld} {x y : Operand} {r : List HProp} [h1 : One P t] (hx : ev xs x = some (.pointer (some ⟨b, 6, none⟩))) (hy : ev xs y = some (.slice m.hoA q m.hoC)) (hf : Find hs (wl b m w) r) (hq : q ≤ w.houses.length) (hI : Keep (freeSt sr ops ⟨none, .store t x y, ty, pos, af, none⟩) St r)
    {wz : Wld} (hwz : { w with houses := w.houses.take q } = wz) (k : W P n o sr ops Q St rest xs (wl b { m with gs := m.gs.take q } wz :: r)) : W P n o sr ops Q St (⟨none, .store t x y, ty, pos, af, none⟩ :: rest) xs hs := by
  subst hwz
  refine wopenw (fun hl => ?_) hf
  refine W.store hx hy rfl .here (setAt_of (by show 6 < 9; decide)) (by repeat (first | exact hI | apply Keep.there)) ?_
  have e1 : wldC { m with gs := m.gs.take q } { w with houses := w.houses.take q } = (wldC m w).set 6 (.slice m.hoA q m.hoC) := by simp only [wldC, List.length_take, Nat.min_eq_left hq, List.set_cons_succ, List.set_cons_zero]
  rw [← e1]
  refine W.one (.there (.there (.there (.there .here)))) (fun st hst => sl_take q hst) ?_
  refine W.one (.there (.there (.there (.there (.there (.there (.there (.there .here)))))))) (fun st hst => nest_front q hst) ?_
  simp only [zip_take, ← List.map_take]
  refine wfoldw b { m with gs := m.gs.take q } { w with houses := w.houses.take q } ⟨hl.1, by simp only [List.length_take, hl.2]⟩ k ?_
  exact (by exact ent_)
theorem W.cutL {t b q : Nat} {m : Lay} {w : Wld} {x y : Operand} {r : List HProp} [h1 : One P t] (hx : ev xs x = some (.pointer (some ⟨b, 7, none⟩))) (hy : ev xs y = some (.slice m.loA q m.loC)) (hf : Find hs (wl b m w) r) (hq : q ≤ w.lots.length) (hI : Keep (freeSt sr ops ⟨none, .store t x y, ty, pos, af, none⟩) St r)
    {wz : Wld} (hwz : { w with lots := w.lots.take q } = wz) (k : W P n o sr ops Q St rest xs (wl b m wz :: r)) : W P n o sr ops Q St (⟨none, .store t x y, ty, pos, af, none⟩ :: rest) xs hs := by
  subst hwz
  refine wopenw (fun hl => ?_) hf
  refine W.store hx hy rfl .here (setAt_of (by show 7 < 9; decide)) (by repeat (first | exact hI | apply Keep.there)) ?_
  have e1 : wldC m { w with lots := w.lots.take q } = (wldC m w).set 7 (.slice m.loA q m.loC) := by simp only [wldC, List.length_take, Nat.min_eq_left hq, List.set_cons_succ, List.set_cons_zero]
  rw [← e1]
  refine W.one (.there (.there (.there (.there (.there .here))))) (fun st hst => sl_take q hst) ?_
  refine wfoldw b m { w with lots := w.lots.take q } hl k ?_
  exact (by exact ent_)
theorem W.cutI {t b q : Nat} {m : Lay} {w : Wld} {x y : Operand} {r : List HProp} [h1 : One P t] (hx : ev xs x = some (.pointer (some ⟨b, 8, none⟩))) (hy : ev xs y = some (.slice m.tiA q m.tiC)) (hf : Find hs (wl b m w) r) (hq : q ≤ w.tills.length) (hI : Keep (freeSt sr ops ⟨none, .store t x y, ty, pos, af, none⟩) St r)
    {wz : Wld} (hwz : { w with tills := w.tills.take q } = wz) (k : W P n o sr ops Q St rest xs (wl b m wz :: r)) : W P n o sr ops Q St (⟨none, .store t x y, ty, pos, af, none⟩ :: rest) xs hs := by
  subst hwz
  refine wopenw (fun hl => ?_) hf
  refine W.store hx hy rfl .here (setAt_of (by show 8 < 9; decide)) (by repeat (first | exact hI | apply Keep.there)) ?_
  have e1 : wldC m { w with tills := w.tills.take q } = (wldC m w).set 8 (.slice m.tiA q m.tiC) := by simp only [wldC, List.length_take, Nat.min_eq_left hq, List.set_cons_succ, List.set_cons_zero]
  rw [← e1]
  refine W.one (.there (.there (.there (.there (.there (.there .here)))))) (fun st hst => sl_take q hst) ?_
  refine wfoldw b m { w with tills := w.tills.take q } hl k ?_
  exact (by exact ent_)
theorem W.cutD {t b p i q c : Nat} {m : Lay} {w : Wld} {A : Option Addr} {x y : Operand} {u : Chr} {r : List HProp} [h1 : One P t] (hx : ev xs x = some (.pointer (some ⟨bk m.chA, p, none⟩))) (hy : ev xs y = some (.slice A q c)) (hf : Find hs (wl b m w) r) (hp : p = of m.chA + i * 10 + 9) (hu : w.chars[i]? = some u) (hg : m.dn[i]? = some (A, c)) (hq : q ≤ u.done.length)
    (hI : Keep (freeSt sr ops ⟨none, .store t x y, ty, pos, af, none⟩) St r)
    {wz : Wld} (hwz : { w with chars := w.chars.set i { u with done := u.done.take q } } = wz) (k : W P n o sr ops Q St rest xs (wl b m wz :: r)) : W P n o sr ops Q St (⟨none, .store t x y, ty, pos, af, none⟩ :: rest) xs hs := by
  subst hwz
  refine wopenw (fun hl => ?_) hf
  obtain ⟨h, hz, hh⟩ := zip_get hu hl.1
  rw [hg] at hh; cases hh
  have hi := (List.getElem?_eq_some_iff.1 hu).1
  have hlen : (u.done.take q).length = q := by rw [List.length_take]; omega
  refine W.st (En := Ec) (i := i) (j := 9) (u := (u, (A, c))) ({ u with done := u.done.take q }, (A, c)) hx hy rfl (.there .here) hp rfl hz rfl (by show chrC _ _ = (chrC _ _).set 9 _; simp only [chrC, hlen]; rfl) (by repeat (first | exact hI | apply Keep.there)) ?_
  rw [zip_set hz]
  have hd : (dnL w m)[i]? = some (u.done, (A, c)) := by simp only [dnL, List.getElem?_map, hz, Option.map_some]
  have hdi := (List.getElem?_eq_some_iff.1 hd).1
  have hde : (dnL w m)[i] = (u.done, (A, c)) := (List.getElem?_eq_some_iff.1 hd).2
  refine W.one (A := nest E64 3 (dnL w m)) (C := nest E64 3 ((dnL w m).set i (u.done.take q, (A, c)))) (.there (.there (.there (.there (.there (.there (.there .here))))))) (fun st hst => ?_) ?_
  · have h3 := nest_take hdi hst
    rw [hde] at h3
    exact nest_put (p := (u.done.take q, (A, c))) hdi (sl_take q h3)
  refine wfoldw b m { w with chars := w.chars.set i { u with done := u.done.take q } } ⟨by rw [List.length_set]; exact hl.1, hl.2⟩ k ?_
  have e1 : wldC m { w with chars := w.chars.set i { u with done := u.done.take q } } = wldC m w := by simp only [wldC, List.length_set]
  have e2 : dnL { w with chars := w.chars.set i { u with done := u.done.take q } } m = (dnL w m).set i (u.done.take q, (A, c)) := by
    simp only [dnL]; rw [← zip_set hz, List.map_set]
  rw [e1, e2]
  exact (by exact ent_)
theorem W.cutG {t b p i q c : Nat} {m : Lay} {w : Wld} {A : Option Addr} {x y : Operand} {u : Hse} {r : List HProp} [h1 : One P t] (hx : ev xs x = some (.pointer (some ⟨bk m.hoA, p, none⟩))) (hy : ev xs y = some (.slice A q c)) (hf : Find hs (wl b m w) r) (hp : p = of m.hoA + i * 4 + 2) (hu : w.houses[i]? = some u) (hg : m.gs[i]? = some (A, c)) (hq : q ≤ u.guests.length)
    (hI : Keep (freeSt sr ops ⟨none, .store t x y, ty, pos, af, none⟩) St r)
    {wz : Wld} (hwz : { w with houses := w.houses.set i { u with guests := u.guests.take q } } = wz) (k : W P n o sr ops Q St rest xs (wl b m wz :: r)) : W P n o sr ops Q St (⟨none, .store t x y, ty, pos, af, none⟩ :: rest) xs hs := by
  subst hwz
  refine wopenw (fun hl => ?_) hf
  obtain ⟨h, hz, hh⟩ := zip_get hu hl.2
  rw [hg] at hh; cases hh
  have hlen : (u.guests.take q).length = q := by rw [List.length_take]; omega
  refine W.st (En := Eh) (i := i) (j := 2) (u := (u, (A, c))) ({ u with guests := u.guests.take q }, (A, c)) hx hy rfl (.there (.there (.there (.there .here)))) hp rfl hz rfl (by show hseC _ _ = (hseC _ _).set 2 _; simp only [hseC, hlen]; rfl) (by repeat (first | exact hI | apply Keep.there)) ?_
  rw [zip_set hz]
  have hd : (gsL w m)[i]? = some (u.guests, (A, c)) := by simp only [gsL, List.getElem?_map, hz, Option.map_some]
  have hdi := (List.getElem?_eq_some_iff.1 hd).1
  have hde : (gsL w m)[i] = (u.guests, (A, c)) := (List.getElem?_eq_some_iff.1 hd).2
  refine W.one (A := nest Enc.str 9 (gsL w m)) (C := nest Enc.str 9 ((gsL w m).set i (u.guests.take q, (A, c)))) (.there (.there (.there (.there (.there (.there (.there (.there .here)))))))) (fun st hst => ?_) ?_
  · have h3 := nest_take hdi hst
    rw [hde] at h3
    exact nest_put (p := (u.guests.take q, (A, c))) hdi (sl_take q h3)
  refine wfoldw b m { w with houses := w.houses.set i { u with guests := u.guests.take q } } ⟨hl.1, by rw [List.length_set]; exact hl.2⟩ k ?_
  have e1 : wldC m { w with houses := w.houses.set i { u with guests := u.guests.take q } } = wldC m w := by simp only [wldC, List.length_set]
  have e2 : gsL { w with houses := w.houses.set i { u with guests := u.guests.take q } } m = (gsL w m).set i (u.guests.take q, (A, c)) := by
    simp only [gsL]; rw [← zip_set hz, List.map_set]
  rw [e1, e2]
  exact (by exact ent_)
theorem W.stG {t b p i j c : Nat} {m : Lay} {w : Wld} {A : Option Addr} {x y : Operand} {u : Hse} {s s0 : Tx} {r : List HProp} [h1 : One P t] (hx : ev xs x = some (.pointer (some ⟨bk A, p, none⟩))) (hy : ev xs y = some (str s)) (hf : Find hs (wl b m w) r) (hp : p = of A + j * 1) (hu : w.houses[i]? = some u) (hg : m.gs[i]? = some (A, c)) (hj : u.guests[j]? = some s0)
    (hI : Keep (freeSt sr ops ⟨none, .store t x y, ty, pos, af, none⟩) St r)
    {wz : Wld} (hwz : { w with houses := w.houses.set i { u with guests := u.guests.set j s } } = wz) (k : W P n o sr ops Q St rest xs (wl b m wz :: r)) : W P n o sr ops Q St (⟨none, .store t x y, ty, pos, af, none⟩ :: rest) xs hs := by
  subst hwz
  refine wopenw (fun hl => ?_) hf
  obtain ⟨h, hz, hh⟩ := zip_get hu hl.2
  rw [hg] at hh; cases hh
  have hd : (gsL w m)[i]? = some (u.guests, (A, c)) := by simp only [gsL, List.getElem?_map, hz, Option.map_some]
  have hdi := (List.getElem?_eq_some_iff.1 hd).1
  have hde : (gsL w m)[i] = (u.guests, (A, c)) := (List.getElem?_eq_some_iff.1 hd).2
  refine W.turn (hs' := sl Enc.str 9 A c u.guests :: nest Enc.str 9 ((gsL w m).eraseIdx i) :: ([blk b 68 (wldC m w), sl Ec 80 m.chA m.chC (w.chars.zip m.dn), sl Et 55 m.thA m.thC w.things, sl Em 113 m.moA m.moC w.mobs, sl Eh 107 m.hoA m.hoC (w.houses.zip m.gs),
   sl El 129 m.loA m.loC w.lots, sl Ei 131 m.tiA m.tiC w.tills, nest E64 3 (dnL w m)] ++ r)) (fun st hst => ?_) ?_
  · have h3 := hst.lift (Find.lift (.there (.there (.there (.there (.there (.there (.there (.there .here)))))))))
    have h4 := nest_take hdi h3
    rw [hde] at h4
    exact h4
  refine W.sts hx hy .here hp hj (by repeat (first | exact hI | apply Keep.there)) ?_
  refine W.turn (hs' := nest Enc.str 9 ((gsL w m).set i (u.guests.set j s, (A, c))) :: ([blk b 68 (wldC m w), sl Ec 80 m.chA m.chC (w.chars.zip m.dn), sl Et 55 m.thA m.thC w.things, sl Em 113 m.moA m.moC w.mobs, sl Eh 107 m.hoA m.hoC ((w.houses.zip m.gs).set i ({ u with guests := u.guests.set j s }, (A, c))),
   sl El 129 m.loA m.loC w.lots, sl Ei 131 m.tiA m.tiC w.tills, nest E64 3 (dnL w m)] ++ r)) (fun st hst => ?_) ?_
  · have h3 := nest_put (p := (u.guests.set j s, (A, c))) hdi hst
    have h4 := h3.lift (Find.lift (.there (.there (.there (.there (.there .here))))))
    have h5 := sl_same (l' := (w.houses.zip m.gs).set i ({ u with guests := u.guests.set j s }, (A, c))) (by
      refine Enc.all_same _ hz ?_
      show hseC _ _ = hseC _ _
      simp only [hseC, List.length_set]) (by rw [List.length_set]) h4
    exact h5.lift (by
      refine (Lift.swap _ _ _).trans (Lift.cons _ ?_)
      refine (Lift.swap _ _ _).trans (Lift.cons _ ?_)
      refine (Lift.swap _ _ _).trans (Lift.cons _ ?_)
      refine (Lift.swap _ _ _).trans (Lift.cons _ ?_)
      exact Lift.swap _ _ _)
  rw [zip_set hz]
  refine wfoldw b m { w with houses := w.houses.set i { u with guests := u.guests.set j s } } ⟨hl.1, by rw [List.length_set]; exact hl.2⟩ k ?_
  have e1 : wldC m { w with houses := w.houses.set i { u with guests := u.guests.set j s } } = wldC m w := by simp only [wldC, List.length_set]
  have e2 : gsL { w with houses := w.houses.set i { u with guests := u.guests.set j s } } m = (gsL w m).set i (u.guests.set j s, (A, c)) := by
    simp only [gsL]; rw [← zip_set hz, List.map_set]
  rw [e1, e2]
  exact (by exact ent_)
end
end Go.Proofs.YtflmbhkjhfmeoaaGreat
namespace Go.Proofs.YtflmbhkjhfmeoaaGreat
open Go.SL
def insK {α : Type} (lt : α → α → Bool) (l : List α) (x : α) : Nat → Nat
  | 0 => 0
  | k + 1 => match l[k]? with
    | none => insK lt l x k
    | some y => if lt x y then insK lt l x k else k + 1
def insP {α : Type} (lt : α → α → Bool) (l : List α) (x : α) : Nat := insK lt l x l.length
def putAt {α : Type} (l : List α) (k : Nat) (x : α) : List α := l.take k ++ x :: l.drop k
def insB {α : Type} (lt : α → α → Bool) (l : List α) (x : α) : List α := putAt l (insP lt l x) x
section
variable {α β : Type}
theorem insK_down {lt : α → α → Bool} {l : List α} {x y : α} {k : Nat} (hk : 0 < k) (hy : l[k - 1]? = some y) (h : lt x y = true) : insK lt l x k = insK lt l x (k - 1) := by
  obtain ⟨j, rfl⟩ : ∃ j, k = j + 1 := ⟨k - 1, by omega⟩
  simp only [Nat.add_sub_cancel] at hy ⊢
  rw [insK, hy]; simp only [h, if_true]
theorem insK_stop {lt : α → α → Bool} {l : List α} {x y : α} {k : Nat} (hk : 0 < k) (hy : l[k - 1]? = some y) (h : lt x y = false) : insK lt l x k = k := by
  obtain ⟨j, rfl⟩ : ∃ j, k = j + 1 := ⟨k - 1, by omega⟩
  simp only [Nat.add_sub_cancel] at hy ⊢
  rw [insK, hy]; simp [h]
theorem putAt_len (l : List α) (k : Nat) (x : α) : (putAt l k x).length = l.length + 1 := by
  simp only [putAt, List.length_append, List.length_cons, List.length_take, List.length_drop]; omega
theorem putAt_end (l : List α) (x : α) : putAt l l.length x = l ++ [x] := by simp [putAt]
theorem putAt_self {l : List α} {k : Nat} (hk : k ≤ l.length) (x : α) : (putAt l k x)[k]? = some x := by
  unfold putAt
  rw [List.getElem?_append_right (by rw [List.length_take]; omega), List.length_take, Nat.min_eq_left hk, Nat.sub_self]; rfl
theorem putAt_pre {l : List α} {k j : Nat} (hj : j < k) (hk : k ≤ l.length) (x : α) : (putAt l k x)[j]? = l[j]? := by
  unfold putAt
  rw [List.getElem?_append_left (by rw [List.length_take]; omega), List.getElem?_take_of_lt hj]
theorem putAt_swap {l : List α} {k : Nat} {y : α} (hk : 0 < k) (hy : l[k - 1]? = some y) (x : α) : ((putAt l k x).set (k - 1) x).set k y = putAt l (k - 1) x := by
  obtain ⟨j, rfl⟩ : ∃ j, k = j + 1 := ⟨k - 1, by omega⟩
  simp only [Nat.add_sub_cancel] at hy ⊢
  obtain ⟨hj, rfl⟩ := List.getElem?_eq_some_iff.1 hy
  have h1 : (l.take (j + 1)) = l.take j ++ [l[j]] := by rw [List.take_add_one, hy]; rfl
  have hl : (l.take j).length = j := by rw [List.length_take]; omega
  unfold putAt
  rw [h1, List.drop_eq_getElem_cons hj, List.append_assoc, List.set_append_right _ _ (by omega), List.set_append_right _ _ (by omega), hl, Nat.sub_self, show j + 1 - j = 1 by omega]
  rfl
theorem putAt_map (f : α → β) (l : List α) (k : Nat) (x : α) : (putAt l k x).map f = putAt (l.map f) k (f x) := by simp [putAt, List.map_take, List.map_drop]
theorem putAt_zip {l : List α} {m : List β} (h : m.length = l.length) (k : Nat) (x : α) (y : β) : putAt (l.zip m) k (x, y) = (putAt l k x).zip (putAt m k y) := by
  unfold putAt
  rw [List.zip_append (by rw [List.length_take, List.length_take, h]), List.zip_cons_cons]
  simp only [List.zip, List.take_zipWith, List.drop_zipWith]
theorem putAt_perm (l : List α) (k : Nat) (x : α) : (x :: l).Perm (putAt l k x) := by
  unfold putAt
  have h := (List.perm_middle (a := x) (l₁ := l.take k) (l₂ := l.drop k)).symm
  rwa [List.take_append_drop] at h
end
theorem ins_go {α : Type} {lt : α → α → Bool} {l : List α} {x : α} {k : Nat} (h : insK lt l x k = insP lt l x) {y : α} (hk : 0 < k) (hy : l[k - 1]? = some y) (hb : lt x y = true) : insK lt l x (k - 1) = insP lt l x := by rw [← h, insK_down hk hy hb]
theorem ins_end {α : Type} {lt : α → α → Bool} {l : List α} {x : α} {k : Nat} (h : insK lt l x k = insP lt l x) {y : α} (hk : 0 < k) (hy : l[k - 1]? = some y) (hb : lt x y = false) : putAt l k x = insB lt l x := by rw [insB, ← h, insK_stop hk hy hb]
theorem ins_nil {α : Type} {lt : α → α → Bool} {l : List α} {x : α} (h : insK lt l x 0 = insP lt l x) : putAt l 0 x = insB lt l x := by rw [insB, ← h]; rfl
end Go.Proofs.YtflmbhkjhfmeoaaGreat
namespace Go.Proofs.YtflmbhkjhfmeoaaGreat
abbrev nT (x : Int) : Tx := Go.Lib.itoa x
def maxGold : Int := 1099511627776
def moveN (a b n : Int) : Int × Int × Bool := if n ≤ 0 ∨ a < n ∨ maxGold < a - n ∨ maxGold - n < b ∨ b < -n then (a, b, false) else (a - n, b + n, true)
def setI (w : Wld) (k : Nat) (f : Till → Till) : Wld := { w with tills := w.tills.set k (f (w.tills.getD k default)) }
def setH (w : Wld) (k : Nat) (f : Hse → Hse) : Wld := { w with houses := w.houses.set k (f (w.houses.getD k default)) }
def setL (w : Wld) (k : Nat) (f : Lot → Lot) : Wld := { w with lots := w.lots.set k (f (w.lots.getD k default)) }
def makeW (w : Wld) (proto place room : Int) (who : Tx) : Wld := { w with things := w.things ++ [⟨w.next, proto, place, room, who⟩], next := w.next + 1 }
def canMake (w : Wld) : Bool := decide (w.things.length < 200)
def goneW (w : Wld) (id : Int) : Wld := match thingI w id with
  | none => w
  | some k => { w with things := w.things.eraseIdx k }
def shopI (t : Tab) (w : Wld) (room : Int) : Option (Nat × Nat) := match t.shops.findIdx? (·.room == room), w.tills.findIdx? (·.room == room) with
  | some i, some k => some (i, k)
  | _, _ => none
def noShop (name : Tx) : List Sy := [(name, [84, 104, 101, 114, 101, 32, 105, 115, 32, 110, 111, 32, 115, 104, 111, 112, 32, 104, 101, 114, 101, 46])]
def itemsP (t : Tab) (s : Nat) : List Nat := (t.shops.getD s default).items.map fun id => (protoI t id).getD 0
def listS (t : Tab) (w : Wld) (name : Tx) : List Sy := match onI w name with
  | none => []
  | some c => match shopI t w (w.chars.getD c default).room with
    | none => noShop name
    | some (s, _) => (name, [70, 111, 114, 32, 115, 97, 108, 101, 58]) :: (itemsP t s).map fun p => (name, (t.protos.getD p default).name ++ [32, 102, 111, 114, 32] ++ nT (t.protos.getD p default).price)
def buyA (t : Tab) (w : Wld) (name word : Tx) : Wld × List Sy := match onI w name with
  | none => (w, [])
  | some c => match shopI t w (w.chars.getD c default).room with
    | none => (w, noShop name)
    | some (s, k) => match (itemsP t s).find? (fun p => (t.protos.getD p default).name == word) with
      | none => (w, [(name, [84, 104, 101, 121, 32, 100, 111, 32, 110, 111, 116, 32, 115, 101, 108, 108, 32, 116, 104, 97, 116, 46])])
      | some at_ =>
        let p := t.protos.getD at_ default
        let mv := moveN (w.chars.getD c default).gold (w.tills.getD k default).gold p.price
        if 10 ≤ loadN w name then (w, [(name, [89, 111, 117, 32, 99, 97, 110, 110, 111, 116, 32, 99, 97, 114, 114, 121, 32, 109, 111, 114, 101, 46])])
        else if mv.2.2 = false ∧ p.price ≠ 0 then (w, [(name, [89, 111, 117, 32, 99, 97, 110, 110, 111, 116, 32, 112, 97, 121, 46])])
        else if canMake w = false then (w, [(name, [84, 104, 101, 114, 101, 32, 97, 114, 101, 32, 116, 111, 111, 32, 109, 97, 110, 121, 32, 116, 104, 105, 110, 103, 115, 46])])
        else (setI (setC (makeW w p.id 2 0 name) c fun x => { x with gold := mv.1 }) k fun x => { x with gold := mv.2.1 }, [(name, [89, 111, 117, 32, 98, 117, 121, 32, 97, 32] ++ p.name ++ [46])])
def sellA (num : Tx → Int × Bool) (t : Tab) (w : Wld) (name word : Tx) : Wld × List Sy := match onI w name with
  | none => (w, [])
  | some c => match shopI t w (w.chars.getD c default).room with
    | none => (w, noShop name)
    | some (s, k) => match findA num t w (ofL w name 2) word with
      | none => (w, [(name, noT word)])
      | some i =>
        let p := proOf t (w.things.getD i default).proto
        let mv := moveN (w.tills.getD k default).gold (w.chars.getD c default).gold (p.price / 2)
        if mv.2.2 = false ∧ p.price / 2 ≠ 0 then (w, [(name, [84, 104, 101, 121, 32, 99, 97, 110, 110, 111, 116, 32, 112, 97, 121, 46])])
        else (goneW (setC (setI w k fun x => { x with gold := mv.1 }) c fun x => { x with gold := mv.2.1 }) (w.things.getD i default).id, [(name, [89, 111, 117, 32, 115, 101, 108, 108, 32, 97, 32] ++ p.name ++ [46])])
def roomK (t : Tab) (w : Wld) (c : Nat) : Int := match roomI t (w.chars.getD c default).room with
  | none => -1
  | some k => (t.rooms.getD k default).kind
def muchN (num : Tx → Int × Bool) (s : Tx) : Option Int := if (num s).2 = false ∨ (num s).1 < 1 then none else some (num s).1
def howMuch (name : Tx) : List Sy := [(name, [72, 111, 119, 32, 109, 117, 99, 104, 63])]
def bankA (num : Tx → Int × Bool) (t : Tab) (w : Wld) (name s : Tx) (back : Bool) : Wld × List Sy := match onI w name with
  | none => (w, [])
  | some c =>
    if roomK t w c ≠ 2 then (w, [(name, [84, 104, 101, 114, 101, 32, 105, 115, 32, 110, 111, 32, 98, 97, 110, 107, 32, 104, 101, 114, 101, 46])])
    else match muchN num s with
      | none => (w, howMuch name)
      | some x =>
        let y := w.chars.getD c default
        let mv := if back then moveN y.bank y.gold x else moveN y.gold y.bank x
        if mv.2.2 = false then (w, [(name, if back then [84, 104, 101, 32, 98, 97, 110, 107, 32, 104, 97, 115, 32, 110, 111, 116, 32, 115, 111, 32, 109, 117, 99, 104, 46] else [89, 111, 117, 32, 104, 97, 118, 101, 32, 110, 111, 116, 32, 115, 111, 32, 109, 117, 99, 104, 46])])
        else
          let bank := if back then mv.1 else mv.2.1
          (setC w c fun y => { y with bank := bank, gold := if back then mv.2.1 else mv.1 }, [(name, [89, 111, 117, 32, 104, 97, 118, 101, 32] ++ nT bank ++ [32, 105, 110, 32, 116, 104, 101, 32, 98, 97, 110, 107, 46])])
def spareN (w : Wld) (name : Tx) (proto : Int) (used : List Int) : Int := match (ofL w name 2).find? (fun i => (w.things.getD i default).proto == proto && !(used.contains (w.things.getD i default).id)) with
  | none => 0
  | some i => (w.things.getD i default).id
def usesOf (w : Wld) (name : Tx) : List Int → List Int → List Int ⊕ Int
  | [], used => .inl used
  | p :: l, used => if spareN w name p used = 0 then .inr p else usesOf w name l (used ++ [spareN w name p used])
def lackT (t : Tab) (p : Int) : Tx := [89, 111, 117, 32, 108, 97, 99, 107, 32, 97, 32] ++ kindN t p ++ [46]
def makeIf (w : Wld) (proto place room : Int) (who : Tx) : Wld := if canMake w then makeW w proto place room who else w
def craftA (t : Tab) (w : Wld) (name word : Tx) : Wld × List Sy := match onI w name with
  | none => (w, [])
  | some c =>
    if roomK t w c ≠ 3 then (w, [(name, [84, 104, 101, 114, 101, 32, 105, 115, 32, 110, 111, 32, 102, 111, 114, 103, 101, 32, 104, 101, 114, 101, 46])])
    else match t.recipes.findIdx? (fun r => kindN t r.out == word) with
      | none => (w, [(name, [89, 111, 117, 32, 107, 110, 111, 119, 32, 110, 111, 32, 115, 117, 99, 104, 32, 116, 104, 105, 110, 103, 46])])
      | some at_ => match usesOf w name (t.recipes.getD at_ default).needs [] with
        | .inr p => (w, [(name, lackT t p)])
        | .inl used => (makeIf (used.foldl goneW w) (t.recipes.getD at_ default).out 2 0 name, [(name, [89, 111, 117, 32, 109, 97, 107, 101, 32, 97, 32] ++ kindN t (t.recipes.getD at_ default).out ++ [46])])
def questsS (t : Tab) (w : Wld) (name : Tx) : List Sy := match onI w name with
  | none => []
  | some c =>
    let l := t.quests.filter fun q => !((w.chars.getD c default).done.contains q.id)
    if l = [] then [(name, [84, 104, 101, 114, 101, 32, 105, 115, 32, 110, 111, 116, 104, 105, 110, 103, 32, 116, 111, 32, 100, 111, 46])]
    else l.map fun q => (name, nT q.id ++ [58, 32, 98, 114, 105, 110, 103, 32] ++ nT q.count ++ [32] ++ kindN t q.item ++ [32, 102, 111, 114, 32] ++ nT q.gold ++ [32, 103, 111, 108, 100] ++ if q.reward = 0 then [] else [32, 97, 110, 100, 32, 97, 32] ++ kindN t q.reward)
def turnA (num : Tx → Int × Bool) (t : Tab) (w : Wld) (name s : Tx) : Wld × List Sy := match onI w name with
  | none => (w, [])
  | some c => match (if (num s).2 then (pos (fun q : Qst => q.id == (num s).1) t.quests).getLast? else none) with
    | none => (w, [(name, [87, 104, 97, 116, 32, 101, 114, 114, 97, 110, 100, 63])])
    | some at_ =>
      let q := t.quests.getD at_ default
      if (w.chars.getD c default).done.contains q.id then (w, [(name, [89, 111, 117, 32, 100, 105, 100, 32, 116, 104, 97, 116, 46])])
      else match usesOf w name (List.replicate q.count.toNat q.item) [] with
        | .inr p => (w, [(name, lackT t p)])
        | .inl used =>
          if maxGold < (w.chars.getD c default).gold + q.gold then (w, [(name, [89, 111, 117, 32, 99, 97, 110, 110, 111, 116, 32, 116, 97, 107, 101, 32, 116, 104, 97, 116, 32, 109, 117, 99, 104, 46])])
          else
            let w1 := used.foldl goneW w
            let w2 := { setC w1 c fun x => { x with gold := x.gold + q.gold } with minted := w1.minted + q.gold }
            let w3 := if q.reward = 0 then w2 else makeIf w2 q.reward 2 0 name
            (setC w3 c fun x => { x with done := insB (fun a b => decide (a < b)) x.done q.id }, [(name, [89, 111, 117, 32, 100, 105, 100, 32, 105, 116, 46])])
def ltTx (a b : Tx) : Bool := decide (a < b)
def noHouse (name : Tx) : List Sy := [(name, [84, 104, 105, 115, 32, 105, 115, 32, 110, 111, 32, 104, 111, 117, 115, 101, 46])]
def buyHouseA (t : Tab) (w : Wld) (name : Tx) : Wld × List Sy := match onI w name with
  | none => (w, [])
  | some c =>
    let room := (w.chars.getD c default).room
    if roomK t w c ≠ 4 then (w, noHouse name)
    else if (houseI w room).isSome then (w, [(name, [73, 116, 32, 105, 115, 32, 115, 111, 108, 100, 46])])
    else
      let p := match roomI t room with
        | none => 0
        | some k => (t.rooms.getD k default).price
      if (w.chars.getD c default).gold < p then (w, [(name, [89, 111, 117, 32, 99, 97, 110, 110, 111, 116, 32, 112, 97, 121, 46])])
      else ({ setC w c fun x => { x with gold := x.gold - p } with minted := w.minted - p, houses := insB (fun a b => decide (a.room < b.room)) w.houses ⟨room, name, [], 0⟩ }, [(name, [73, 116, 32, 105, 115, 32, 121, 111, 117, 114, 115, 46])])
def mineI (t : Tab) (w : Wld) (name : Tx) (c : Nat) : Nat ⊕ List Sy :=
  if roomK t w c ≠ 4 then .inr (noHouse name)
  else match houseI w (w.chars.getD c default).room with
    | none => .inr [(name, [73, 116, 32, 105, 115, 32, 110, 111, 116, 32, 121, 111, 117, 114, 115, 46])]
    | some k => if (w.houses.getD k default).owner = name then .inl k else .inr [(name, [73, 116, 32, 105, 115, 32, 110, 111, 116, 32, 121, 111, 117, 114, 115, 46])]
def guestA (lower : Tx → Tx) (t : Tab) (w : Wld) (name who0 : Tx) : Wld × List Sy := match onI w name with
  | none => (w, [])
  | some c => match mineI t w name c with
    | .inr l => (w, l)
    | .inl k =>
      let who := lower who0
      if (charI w who).isNone ∨ who = name then (w, [(name, [78, 111, 98, 111, 100, 121, 32, 104, 97, 115, 32, 116, 104, 97, 116, 32, 110, 97, 109, 101, 46])])
      else
        let g := (w.houses.getD k default).guests
        if g.contains who then (setH w k fun h => { h with guests := g.filter fun x => !(x == who) }, [(name, capT who ++ [32, 109, 97, 121, 32, 110, 111, 116, 32, 99, 111, 109, 101, 46])])
        else (setH w k fun h => { h with guests := insB ltTx g who }, [(name, capT who ++ [32, 109, 97, 121, 32, 99, 111, 109, 101, 46])])
def chestA (num : Tx → Int × Bool) (t : Tab) (w : Wld) (name s : Tx) (back : Bool) : Wld × List Sy := match onI w name with
  | none => (w, [])
  | some c => match mineI t w name c with
    | .inr l => (w, l)
    | .inl k => match muchN num s with
      | none => (w, howMuch name)
      | some x =>
        let y := w.chars.getD c default
        let h := w.houses.getD k default
        let mv := if back then moveN h.chest y.gold x else moveN y.gold h.chest x
        if mv.2.2 = false then (w, [(name, if back then [84, 104, 101, 32, 99, 104, 101, 115, 116, 32, 104, 97, 115, 32, 110, 111, 116, 32, 115, 111, 32, 109, 117, 99, 104, 46] else [89, 111, 117, 32, 104, 97, 118, 101, 32, 110, 111, 116, 32, 115, 111, 32, 109, 117, 99, 104, 46])])
        else
          let chest := if back then mv.1 else mv.2.1
          (setH (setC w c fun y => { y with gold := if back then mv.2.1 else mv.1 }) k fun h => { h with chest := chest }, [(name, [84, 104, 101, 32, 99, 104, 101, 115, 116, 32, 104, 97, 115, 32] ++ nT chest ++ [46])])
def noHall (name : Tx) : List Sy := [(name, [84, 104, 101, 114, 101, 32, 105, 115, 32, 110, 111, 32, 97, 117, 99, 116, 105, 111, 110, 32, 104, 101, 114, 101, 46])]
def offerA (num : Tx → Int × Bool) (t : Tab) (w : Wld) (name word s : Tx) : Wld × List Sy := match onI w name with
  | none => (w, [])
  | some c =>
    if roomK t w c ≠ 5 then (w, noHall name)
    else match findA num t w (ofL w name 2) word with
      | none => (w, [(name, noT word)])
      | some k => match muchN num s with
        | none => (w, howMuch name)
        | some x =>
          if 10 ≤ w.lots.length then (w, [(name, [84, 104, 101, 114, 101, 32, 97, 114, 101, 32, 116, 111, 111, 32, 109, 97, 110, 121, 32, 108, 111, 116, 115, 46])])
          else
            let w1 := putW w k 4 0 []
            ({ w1 with lots := w1.lots ++ [⟨w.next, (w.things.getD k default).id, name, x, 0, [], w.now + 20⟩], next := w.next + 1 }, [(name, [76, 111, 116, 32] ++ nT w.next ++ [58, 32, 97, 32] ++ thingN t w k ++ [46])])
def bidA (num : Tx → Int × Bool) (t : Tab) (w : Wld) (name s1 s2 : Tx) : Wld × List Sy := match onI w name with
  | none => (w, [])
  | some c =>
    if roomK t w c ≠ 5 then (w, noHall name)
    else match (if (num s1).2 then (pos (fun l : Lot => l.id == (num s1).1) w.lots).getLast? else none) with
      | none => (w, [(name, [84, 104, 101, 114, 101, 32, 105, 115, 32, 110, 111, 32, 115, 117, 99, 104, 32, 108, 111, 116, 46])])
      | some at_ =>
        let l := w.lots.getD at_ default
        if l.seller = name then (w, [(name, [73, 116, 32, 105, 115, 32, 121, 111, 117, 114, 115, 46])])
        else match muchN num s2 with
          | none => (w, howMuch name)
          | some x =>
            if x < l.min ∨ x ≤ l.bid then (w, [(name, [66, 105, 100, 32, 109, 111, 114, 101, 46])])
            else
              let gold := (w.chars.getD c default).gold + if l.bidder = name then l.bid else 0
              if gold < x then (w, [(name, [89, 111, 117, 32, 104, 97, 118, 101, 32, 110, 111, 116, 32, 115, 111, 32, 109, 117, 99, 104, 46])])
              else
                let back := if l.bidder = [] ∨ l.bidder = name then none else charI w l.bidder
                let full := match back with
                  | none => false
                  | some d => decide (maxGold < (w.chars.getD d default).gold + l.bid)
                if full then (w, [(name, [84, 104, 101, 121, 32, 99, 97, 110, 110, 111, 116, 32, 116, 97, 107, 101, 32, 105, 116, 32, 98, 97, 99, 107, 46])])
                else
                  let w1 := match back with
                    | none => w
                    | some d => setC w d fun y => { y with gold := y.gold + l.bid }
                  let w2 := setC w1 c fun y => { y with gold := gold - x }
                  (setL w2 at_ fun l => { l with bid := x, bidder := name }, [(name, [89, 111, 117, 32, 98, 105, 100, 32] ++ nT x ++ [46])] ++ if l.bidder ≠ [] ∧ l.bidder ≠ name ∧ (onI w l.bidder).isSome then [(l.bidder, [89, 111, 117, 32, 97, 114, 101, 32, 111, 117, 116, 98, 105, 100, 46])] else [])
def lotT (t : Tab) (w : Wld) (l : Lot) : Tx := [76, 111, 116, 32] ++ nT l.id ++ [58, 32, 97, 32] ++ (match thingI w l.thing with
  | none => []
  | some k => thingN t w k) ++ [44, 32] ++ if l.bid = 0 then nT l.min else nT l.bid ++ [32, 98, 121, 32] ++ capT l.bidder
def lotsS (t : Tab) (w : Wld) (name : Tx) : List Sy := match onI w name with
  | none => []
  | some _ => if w.lots = [] then [(name, [84, 104, 101, 114, 101, 32, 97, 114, 101, 32, 110, 111, 32, 108, 111, 116, 115, 46])] else w.lots.map fun l => (name, lotT t w l)
def paidW (w : Wld) (l : Lot) : Wld := match charI w l.seller with
  | none => w
  | some d =>
    let fee := if l.bid / 20 < 1 then 1 else l.bid / 20
    let rest := l.bid - fee
    let y := w.chars.getD d default
    if y.gold + rest ≤ maxGold then { setC w d fun y => { y with gold := y.gold + rest } with minted := w.minted - fee }
    else
      let room := if rest < maxGold - y.bank then rest else maxGold - y.bank
      { setC w d fun y => { y with bank := y.bank + room } with minted := w.minted - (fee + (rest - room)) }
def settleA (w : Wld) (l : Lot) : Option (Wld × List Sy) :=
  let who := if 0 < l.bid then l.bidder else l.seller
  match charI w who, thingI w l.thing with
  | some d, some k =>
    let room := (w.chars.getD d default).room
    let w1 := if loadN w who < 10 then some (putW w k 2 0 who) else if (hereL w room).length < 30 then some (putW w k 1 room []) else none
    match w1 with
    | none => none
    | some w1 =>
      let w2 := if 0 < l.bid then paidW w1 l else w1
      some (w2, (if (onI w2 l.seller).isSome then [(l.seller, if 0 < l.bid then [89, 111, 117, 114, 32, 108, 111, 116, 32, 105, 115, 32, 115, 111, 108, 100, 46] else [89, 111, 117, 114, 32, 108, 111, 116, 32, 105, 115, 32, 110, 111, 116, 32, 115, 111, 108, 100, 46])] else []) ++ if 0 < l.bid ∧ (onI w2 l.bidder).isSome then [(l.bidder, [84, 104, 101, 32, 108, 111, 116, 32, 105, 115, 32, 121, 111, 117, 114, 115, 46])] else [])
  | _, _ => some (w, [])
def endGo : List Lot → Wld → List Sy → List Lot → Wld × List Sy
  | [], w, S, left => ({ w with lots := left }, S)
  | l :: r, w, S, left =>
    if w.now < l.ends then endGo r w S (left ++ [l])
    else match settleA w l with
      | none => endGo r w S (left ++ [{ l with ends := w.now + 1 }])
      | some x => endGo r x.1 (S ++ x.2) left
def endA (w : Wld) : Wld × List Sy := endGo w.lots w [] []
def rollN (L : List Int) (k : Nat) (sides : Int) : Int × Nat :=
  if L.length ≤ k then (1, k) else ((if (L.getD k 0).tmod sides < 0 then (L.getD k 0).tmod sides + sides else (L.getD k 0).tmod sides) + 1, k + 1)
def fallGo (room : Int) : List Nat → Wld → Wld
  | [], w => w
  | i :: r, w => if (hereL w room).length < 30 then fallGo room r (putW w i 1 room []) else w
def diesA (t : Tab) (w : Wld) (c : Nat) : Wld × List Sy :=
  let x := w.chars.getD c default
  (setC (fallGo x.room (ofL w x.name 2) w) c fun x => { x with room := startR t, hp := 1, foe := 0 }, [(x.name, [89, 111, 117, 32, 100, 105, 101, 46])] ++ othersL w x.room x.name (capT x.name ++ [32, 100, 105, 101, 115, 46]))
def setM (w : Wld) (k : Nat) (f : Mob → Mob) : Wld := { w with mobs := w.mobs.set k (f (w.mobs.getD k default)) }
def unfoe (id : Int) (y : Chr) : Chr := if y.foe = id then { y with foe := 0 } else y
def slainA (w : Wld) (c k : Nat) (p : Mpr) : Wld × List Sy :=
  let x := w.chars.getD c default
  let id := (w.mobs.getD k default).id
  let xp := if maxGold < x.xp + p.xp then maxGold else x.xp + p.xp
  let gold := if x.gold + p.gold ≤ maxGold then x.gold + p.gold else x.gold
  let w2 : Wld := { w with mobs := w.mobs.eraseIdx k, chars := (w.chars.map (unfoe id)).set c { unfoe id x with xp := xp, gold := gold }, minted := if x.gold + p.gold ≤ maxGold then w.minted + p.gold else w.minted }
  (w2, [(x.name, [89, 111, 117, 32, 115, 108, 97, 121, 32, 97, 32] ++ p.name ++ [46])] ++ othersL w2 x.room x.name ([65, 32] ++ p.name ++ [32, 100, 105, 101, 115, 46]))
def strikeA (t : Tab) (L : List Int) (w : Wld) (c : Nat) (m : Mpr) (at0 : Nat) : (Wld × List Sy) × Nat :=
  let x := w.chars.getD c default
  let r3 := rollN L at0 20
  if r3.1 < 8 then ((w, [(x.name, [65, 32] ++ m.name ++ [32, 109, 105, 115, 115, 101, 115, 32, 121, 111, 117, 46])]), r3.2)
  else
    let r4 := rollN L r3.2 4
    let d0 := m.power + r4.1 - powerN t w x.name 2
    let d := if d0 < 1 then 1 else d0
    let w1 := setC w c fun y => { y with hp := y.hp - d }
    if x.hp - d < 1 then (((diesA t w1 c).1, [(x.name, [65, 32] ++ m.name ++ [32, 104, 105, 116, 115, 32, 121, 111, 117, 46])] ++ (diesA t w1 c).2), r4.2)
    else ((w1, [(x.name, [65, 32] ++ m.name ++ [32, 104, 105, 116, 115, 32, 121, 111, 117, 46])]), r4.2)
def fightA (t : Tab) (L : List Int) (w : Wld) (c : Nat) (at0 : Nat) : (Wld × List Sy) × Nat :=
  let x := w.chars.getD c default
  match mobI w x.foe with
  | none => ((w, []), at0)
  | some k =>
    let m := mprOf t (w.mobs.getD k default).proto
    let r1 := rollN L at0 20
    if r1.1 + levelN x.xp < 11 then
      let r := strikeA t L w c m r1.2
      ((r.1.1, [(x.name, [89, 111, 117, 32, 109, 105, 115, 115, 32, 97, 32] ++ m.name ++ [46])] ++ r.1.2), r.2)
    else
      let r2 := rollN L r1.2 6
      let hp := (w.mobs.getD k default).hp - (r2.1 + powerN t w x.name 1)
      let w1 := setM w k fun y => { y with hp := hp }
      if hp < 1 then (((slainA w1 c k m).1, [(x.name, [89, 111, 117, 32, 104, 105, 116, 32, 97, 32] ++ m.name ++ [46])] ++ (slainA w1 c k m).2), r2.2)
      else
        let r := strikeA t L w1 c m r2.2
        ((r.1.1, [(x.name, [89, 111, 117, 32, 104, 105, 116, 32, 97, 32] ++ m.name ++ [46])] ++ r.1.2), r.2)
def fightIf (t : Tab) (L : List Int) (s : (Wld × List Sy) × Nat) (c : Nat) : (Wld × List Sy) × Nat :=
  let x := s.1.1.chars.getD c default
  if x.on = true ∧ x.foe ≠ 0 then ((((fightA t L s.1.1 c s.2).1.1, s.1.2 ++ (fightA t L s.1.1 c s.2).1.2)), (fightA t L s.1.1 c s.2).2) else s
def roundA (t : Tab) (L : List Int) (w : Wld) : (Wld × List Sy) × Nat := (List.range w.chars.length).foldl (fightIf t L) ((w, []), 0)
def restC (x : Chr) : Chr := if x.on = true ∧ x.foe = 0 ∧ x.hp < maxHpN x.xp then { x with hp := x.hp + 1 } else x
def restA (w : Wld) : Wld := { w with chars := w.chars.map restC }
def resetM (w : Wld) (m : Mpr) : Wld := if w.mobs.any (fun x => x.proto == m.id) then w else { w with mobs := w.mobs ++ [⟨w.next, m.id, m.home, m.hp⟩], next := w.next + 1 }
def resetA (t : Tab) (w : Wld) : Wld := t.mobs.foldl resetM w
def tickA (t : Tab) (L : List Int) (w : Wld) : Wld × List Sy :=
  let r := roundA t L { w with now := w.now + 1 }
  let w3 := restA r.1.1
  let w4 := if w3.now.tmod 10 = 0 then resetA t w3 else w3
  ((endA w4).1, r.1.2 ++ (endA w4).2)
def offA (w : Wld) (c : Nat) (text : Tx) : Wld × List Sy :=
  let w' := setC w c fun x => { x with on := false, foe := 0 }
  (w', othersL w' (w.chars.getD c default).room (w.chars.getD c default).name (capT (w.chars.getD c default).name ++ text))
def bootA (w : Wld) : Wld := { w with chars := w.chars.map fun x => { x with on := false, foe := 0 } }
end Go.Proofs.YtflmbhkjhfmeoaaGreat
namespace Go.Proofs.YtflmbhkjhfmeoaaGreat
open Go.SL
structure Ri (l : List Int) (most : Nat) : Prop where
  len : l.length ≤ most
  id : ∀ x ∈ l, 1 ≤ x ∧ x ≤ 1000
  up : ∀ (k : Nat) (x y : Int), l[k]? = some x → l[k + 1]? = some y → x < y
structure RmOk (t : Tab) (r : Rm) : Prop where
  nm : wordB r.name = true
  kd : 0 ≤ r.kind ∧ r.kind ≤ 5
  pr : 0 ≤ r.price ∧ r.price ≤ 1073741824
  ex : ∀ x ∈ r.exits, (0 ≤ x ∧ x ≤ 1000) ∧ (x = 0 ∨ ∃ k, roomI t x = some k)
structure ProOk (p : Pro) : Prop where
  nm : wordB p.name = true
  sl : 0 ≤ p.slot ∧ p.slot ≤ 2
  pw : 0 ≤ p.power ∧ p.power ≤ 100
  pr : 0 ≤ p.price ∧ p.price ≤ 1073741824
structure MprOk (t : Tab) (m : Mpr) : Prop where
  nm : wordB m.name = true
  hi : 1 ≤ m.home ∧ m.home ≤ 1000
  ho : ∃ k, roomI t m.home = some k
  hp : 1 ≤ m.hp ∧ m.hp ≤ 10000
  pw : 0 ≤ m.power ∧ m.power ≤ 100
  xp : 0 ≤ m.xp ∧ m.xp ≤ 10000
  go : 0 ≤ m.gold ∧ m.gold ≤ 1073741824
structure RcpOk (t : Tab) (r : Rcp) : Prop where
  oi : ∃ k, protoI t r.out = some k
  ln : 1 ≤ r.needs.length ∧ r.needs.length ≤ 5
  up : ∀ (k : Nat) (x y : Int), r.needs[k]? = some x → r.needs[k + 1]? = some y → x ≤ y
  id : ∀ x ∈ r.needs, (1 ≤ x ∧ x ≤ 1000) ∧ ∃ k, protoI t x = some k
structure QstOk (t : Tab) (q : Qst) : Prop where
  it : (1 ≤ q.item ∧ q.item ≤ 1000) ∧ ∃ k, protoI t q.item = some k
  ct : 1 ≤ q.count ∧ q.count ≤ 5
  go : 0 ≤ q.gold ∧ q.gold ≤ 1073741824
  re : (0 ≤ q.reward ∧ q.reward ≤ 1000) ∧ (q.reward = 0 ∨ ∃ k, protoI t q.reward = some k)
structure ShpOk (t : Tab) (s : Shp) : Prop where
  ro : ∃ k r, roomI t s.room = some k ∧ t.rooms[k]? = some r ∧ r.kind = 1
  ti : 0 ≤ s.till ∧ s.till ≤ 1073741824
  it : Ri s.items 8
  ip : ∀ x ∈ s.items, ∃ k, protoI t x = some k
structure Good (t : Tab) : Prop where
  ne : 0 < t.rooms.length
  rr : Ri (t.rooms.map (·.id)) 60
  rp : Ri (t.protos.map (·.id)) 60
  rm : Ri (t.mobs.map (·.id)) 60
  rc : Ri (t.recipes.map (·.out)) 60
  rq : Ri (t.quests.map (·.id)) 60
  rs : Ri (t.shops.map (·.room)) 60
  ro : ∀ r ∈ t.rooms, RmOk t r
  po : ∀ p ∈ t.protos, ProOk p
  mo : ∀ m ∈ t.mobs, MprOk t m
  co : ∀ r ∈ t.recipes, RcpOk t r
  qo : ∀ q ∈ t.quests, QstOk t q
  so : ∀ s ∈ t.shops, ShpOk t s
end Go.Proofs.YtflmbhkjhfmeoaaGreat
namespace Go.Proofs.YtflmbhkjhfmeoaaGreat
open Go.SL
set_option maxHeartbeats 8000000
set_option maxRecDepth 20000
theorem in_yes (n a b : Int) (h1 : a ≤ n) (h2 : n ≤ b) : Trip Tryz.prog 279 [.int .i64 n, .int .i64 a, .int .i64 b] [] (fun v Ps => v = .bool true ∧ Ps = []) := by
  refine Trip.of (m := 15) Tryz.func279 rfl rfl rfl ?_
  intro o Rs
  simp only [List.cons_append, List.nil_append, enumFrom]
  refine go ?_
  refine ⟨?_, by simp⟩ <;> intros
  rw [decide_eq_true h2]
theorem id_yes (n : Int) (h : 1 ≤ n ∧ n ≤ 1000) : Trip Tryz.prog 278 [.int .i64 n] [] (fun v Ps => v = .bool true ∧ Ps = []) := by
  refine Trip.of (m := 5) Tryz.func278 rfl rfl rfl ?_
  intro o Rs
  simp only [List.cons_append, List.nil_append, enumFrom]
  have F1 := in_yes n 1 1000 h.1 h.2
  refine go ?_
  simp
end Go.Proofs.YtflmbhkjhfmeoaaGreat
namespace Go.Proofs.YtflmbhkjhfmeoaaGreat
open Go.SL
set_option maxHeartbeats 8000000
set_option maxRecDepth 20000
theorem word_len {s : Tx} (h : wordB s = true) : s.length ≤ 24 := by
  simp only [wordB, Bool.and_eq_true, decide_eq_true_eq] at h; exact h.2
section
theorem things_yes (d : Nat) (m : Tay) (t : Tab) (g : Good t) (P : HProp) [hp : RT P d m t] : Trip Tryz.prog 251 [.pointer (some ⟨d, 0, none⟩)] [P] (fun v Ps => v = .bool true ∧ Ps = [P]) := by
  refine Trip.of (m := 124) Tryz.func251 rfl rfl rfl ?_
  intro o Rs
  simp only [List.cons_append, List.nil_append, enumFrom]
  have b1 : t.rooms.length ≤ 60 := by have := g.rr.len; rwa [List.length_map] at this
  have b2 : t.protos.length ≤ 60 := by have := g.rp.len; rwa [List.length_map] at this
  have b3 : t.mobs.length ≤ 60 := by have := g.rm.len; rwa [List.length_map] at this
  refine go ?_
  refine ⟨?_, by simp⟩ <;> intros
  refine loop (fun k => k ≤ t.rooms.length) (fun k => [(0, .pointer (some ⟨d, 0, none⟩)), (15, .slice m.roA t.rooms.length m.roC), (16, .int .i64 (t.rooms.length : Int)), (17, .int .i64 (k : Int))]) (fun k => P :: Rs) (fun k => t.rooms.length - k) 0 (Nat.zero_le _) fun k h1 => ?_
  by_cases hk : k < t.rooms.length
  · obtain ⟨x, hx⟩ : ∃ x, t.rooms[k]? = some x := ⟨_, List.getElem?_eq_getElem hk⟩
    have hg := g.ro x (List.mem_of_getElem? hx)
    have hw := word_len hg.nm
    have F1 := Word_spec x.name (by omega)
    rw [hg.nm] at F1
    have F2 := in_yes x.kind 0 5 hg.kd.1 hg.kd.2
    have F3 := in_yes x.price 0 1073741824 hg.pr.1 hg.pr.2
    refine go ?_
    refine ⟨?_, by simp⟩ <;> intros
    rename_i b
    refine loop (σ := Nat) (fun j => j ≤ 6) (fun j => [(0, .pointer (some ⟨d, 0, none⟩)), (5, .bool true), (15, .slice m.roA t.rooms.length m.roC), (16, .int .i64 (t.rooms.length : Int)), (17, .int .i64 (k : Int)), (35, .agg #[.int .i64 x.e0, .int .i64 x.e1, .int .i64 x.e2, .int .i64 x.e3, .int .i64 x.e4, .int .i64 x.e5]), (36, .int .i64 (j : Int))]) (fun j => P :: Rs) (fun j => 6 - j) 0 (Nat.zero_le _) fun j hj => ?_
    by_cases hj2 : j < 6
    · obtain ⟨v, hv⟩ : ∃ v, x.exits[j]? = some v := ⟨_, List.getElem?_eq_getElem hj2⟩
      have he := (hg.ex v (List.mem_of_getElem? hv)).1
      have hv2 : ([.int .i64 x.e0, .int .i64 x.e1, .int .i64 x.e2, .int .i64 x.e3, .int .i64 x.e4, .int .i64 x.e5] : List Value)[j]? = some (.int .i64 v) := by
        have : ([.int .i64 x.e0, .int .i64 x.e1, .int .i64 x.e2, .int .i64 x.e3, .int .i64 x.e4, .int .i64 x.e5] : List Value) = x.exits.map (.int .i64) := rfl
        rw [this, List.getElem?_map, hv]; rfl
      have F4 := in_yes v 0 1000 he.1 he.2
      refine go ?_
      refine ⟨?_, by simp⟩ <;> intros
      exact rnd (j + 1) (by omega) (by omega)
    · refine go ?_
      refine ⟨?_, by simp⟩ <;> intros
      exact rnd (k + 1) hk (by omega)
  refine go ?_
  refine ⟨?_, by simp⟩ <;> intros
  refine loop (fun k => k ≤ t.protos.length) (fun k => [(0, .pointer (some ⟨d, 0, none⟩)), (51, .slice m.prA t.protos.length m.prC), (52, .int .i64 (t.protos.length : Int)), (53, .int .i64 (k : Int))]) (fun k => P :: Rs) (fun k => t.protos.length - k) 0 (Nat.zero_le _) fun k h1 => ?_
  by_cases hk : k < t.protos.length
  · obtain ⟨x, hx⟩ : ∃ x, t.protos[k]? = some x := ⟨_, List.getElem?_eq_getElem hk⟩
    have hg := g.po x (List.mem_of_getElem? hx)
    have hw := word_len hg.nm
    have F1 := Word_spec x.name (by omega)
    rw [hg.nm] at F1
    have F2 := in_yes x.slot 0 2 hg.sl.1 hg.sl.2
    have F3 := in_yes x.power 0 100 hg.pw.1 hg.pw.2
    have F4 := in_yes x.price 0 1073741824 hg.pr.1 hg.pr.2
    refine go ?_
    refine ⟨?_, by simp⟩ <;> intros
    exact rnd (k + 1) hk (by omega)
  refine go ?_
  refine ⟨?_, by simp⟩ <;> intros
  refine loop (fun k => k ≤ t.mobs.length) (fun k => [(0, .pointer (some ⟨d, 0, none⟩)), (83, .slice m.moA t.mobs.length m.moC), (84, .int .i64 (t.mobs.length : Int)), (85, .int .i64 (k : Int))]) (fun k => P :: Rs) (fun k => t.mobs.length - k) 0 (Nat.zero_le _) fun k h1 => ?_
  by_cases hk : k < t.mobs.length
  · obtain ⟨x, hx⟩ : ∃ x, t.mobs[k]? = some x := ⟨_, List.getElem?_eq_getElem hk⟩
    have hg := g.mo x (List.mem_of_getElem? hx)
    have hw := word_len hg.nm
    have F1 := Word_spec x.name (by omega)
    rw [hg.nm] at F1
    have F2 := id_yes x.home hg.hi
    have F3 := in_yes x.hp 1 10000 hg.hp.1 hg.hp.2
    have F4 := in_yes x.power 0 100 hg.pw.1 hg.pw.2
    have F5 := in_yes x.xp 0 10000 hg.xp.1 hg.xp.2
    have F6 := in_yes x.gold 0 1073741824 hg.go.1 hg.go.2
    refine go ?_
    refine ⟨?_, by simp⟩ <;> intros
    exact rnd (k + 1) hk (by omega)
  refine go ?_
  simp
theorem isNaN_no (a : Int) : Trip Tryz.prog 294 [.int .i64 a] [] (fun v Ps => v = .bool false ∧ Ps = []) := by
  refine Trip.of (m := 6) Tryz.func294 rfl rfl rfl ?_
  intro o Rs
  simp only [List.cons_append, List.nil_append, enumFrom]
  refine go ?_
  simp
theorem less_no (a b : Int) (h : b ≤ a) : Trip Tryz.prog 290 [.int .i64 a, .int .i64 b] [] (fun v Ps => v = .bool false ∧ Ps = []) := by
  refine Trip.of (m := 17) Tryz.func290 rfl rfl rfl ?_
  intro o Rs
  simp only [List.cons_append, List.nil_append, enumFrom]
  have F1 := isNaN_no a
  have F2 := isNaN_no b
  refine go ?_
  refine ⟨?_, by simp⟩ <;> intros
  rw [decide_eq_false (by omega)]
theorem sorted_yes (l : List Int) (A : Option Addr) (c : Nat) (hl : l.length ≤ 1000) (hu : ∀ (k : Nat) (x y : Int), l[k]? = some x → l[k + 1]? = some y → x ≤ y) (R : HProp) (hR : Reads R E64 A l) :
    Trip Tryz.prog 280 [.slice A l.length c] [R] (fun v Ps => v = .bool true ∧ Ps = [R]) := by
  refine Trip.of (m := 21) Tryz.func280 rfl rfl rfl ?_
  intro o Rs
  simp only [List.cons_append, List.nil_append, enumFrom]
  haveI : Plan 4 [14, 17, 19] [0, 1, 2, 3, 4, 5, 6, 7, 8, 9] := ⟨⟩
  refine go ?_
  refine ⟨?_, by simp⟩ <;> intros
  refine loop (σ := Int) (fun k => -1 ≤ k ∧ k < l.length) (fun k => [(0, .slice A l.length c), (3, .int .i64 k)]) (fun k => R :: Rs) (fun k => k.toNat) ((l.length : Int) - 1) ⟨by omega, by omega⟩ fun k ⟨h1, h2⟩ => ?_
  by_cases hk : 0 < k
  · obtain ⟨x, hx⟩ : ∃ x, l[k.toNat]? = some x := ⟨_, List.getElem?_eq_getElem (by omega)⟩
    obtain ⟨y, hy⟩ : ∃ y, l[(k - 1).toNat]? = some y := ⟨_, List.getElem?_eq_getElem (by omega)⟩
    have hle := hu (k - 1).toNat y x hy (by rw [show (k - 1).toNat + 1 = k.toNat from by omega]; exact hx)
    have F1 := less_no x y hle
    refine go ?_
    (repeat' (first | exact trivial | apply And.intro | intro _))
    all_goals first
      | (exfalso; omega)
      | exact rnd (k - 1) ⟨by omega, by omega⟩ (by omega)
  · refine go ?_
    simp
theorem notid (n : Int) (h : 1 ≤ n ∧ n ≤ 1000) : Trip Tryz.prog 282 [.int .i64 n] [] (fun v Ps => v = .bool false ∧ Ps = []) := by
  refine Trip.of (m := 6) Tryz.func282 rfl rfl rfl ?_
  intro o Rs
  simp only [List.cons_append, List.nil_append, enumFrom]
  have F1 := id_yes n h
  refine go ?_
  simp
end
end Go.Proofs.YtflmbhkjhfmeoaaGreat
