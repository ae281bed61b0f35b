/-
  Worlds written in place.
-/
import Derived.Test.YthejchmhjcfdiaaWoCopy
namespace Go.Proofs.Ythejchmhjcfdiaa
open Go.SL
set_option linter.unusedVariables false
set_option linter.unusedSimpArgs false
set_option maxHeartbeats 4000000
class PutC (j : Nat) (v : Value) (u : Chr) (u' : outParam Chr) : Prop where
  one : v.oneCell' = true
  same : u'.done = u.done
  set : ∀ h : PA, chrC u' h = (chrC u h).set j v
  lt : Nat.blt j 10 = true
instance {u : Chr} {s : Tx} : PutC 0 (str s) u { u with name := s } := ⟨rfl, rfl, fun _ => rfl, rfl⟩
instance {u : Chr} {s : Tx} : PutC 1 (str s) u { u with hash := s } := ⟨rfl, rfl, fun _ => rfl, rfl⟩
instance {u : Chr} {b : Bool} : PutC 2 (.bool b) u { u with on := b } := ⟨rfl, rfl, fun _ => rfl, rfl⟩
instance {u : Chr} {z : Int} : PutC 3 (.int .i64 z) u { u with room := z } := ⟨rfl, rfl, fun _ => rfl, rfl⟩
instance {u : Chr} {z : Int} : PutC 4 (.int .i64 z) u { u with hp := z } := ⟨rfl, rfl, fun _ => rfl, rfl⟩
instance {u : Chr} {z : Int} : PutC 5 (.int .i64 z) u { u with xp := z } := ⟨rfl, rfl, fun _ => rfl, rfl⟩
instance {u : Chr} {z : Int} : PutC 6 (.int .i64 z) u { u with gold := z } := ⟨rfl, rfl, fun _ => rfl, rfl⟩
instance {u : Chr} {z : Int} : PutC 7 (.int .i64 z) u { u with bank := z } := ⟨rfl, rfl, fun _ => rfl, rfl⟩
instance {u : Chr} {z : Int} : PutC 8 (.int .i64 z) u { u with foe := z } := ⟨rfl, rfl, fun _ => rfl, rfl⟩
class PutT (j : Nat) (v : Value) (u : Thg) (u' : outParam Thg) : Prop where
  one : v.oneCell' = true
  set : thgC u' = (thgC u).set j v
  lt : Nat.blt j 5 = true
instance {u : Thg} {z : Int} : PutT 0 (.int .i64 z) u { u with id := z } := ⟨rfl, rfl, rfl⟩
instance {u : Thg} {z : Int} : PutT 1 (.int .i64 z) u { u with proto := z } := ⟨rfl, rfl, rfl⟩
instance {u : Thg} {z : Int} : PutT 2 (.int .i64 z) u { u with place := z } := ⟨rfl, rfl, rfl⟩
instance {u : Thg} {z : Int} : PutT 3 (.int .i64 z) u { u with room := z } := ⟨rfl, rfl, rfl⟩
instance {u : Thg} {s : Tx} : PutT 4 (str s) u { u with who := s } := ⟨rfl, rfl, rfl⟩
class PutM (j : Nat) (v : Value) (u : Mob) (u' : outParam Mob) : Prop where
  one : v.oneCell' = true
  set : mobC u' = (mobC u).set j v
  lt : Nat.blt j 4 = true
instance {u : Mob} {z : Int} : PutM 0 (.int .i64 z) u { u with id := z } := ⟨rfl, rfl, rfl⟩
instance {u : Mob} {z : Int} : PutM 1 (.int .i64 z) u { u with proto := z } := ⟨rfl, rfl, rfl⟩
instance {u : Mob} {z : Int} : PutM 2 (.int .i64 z) u { u with room := z } := ⟨rfl, rfl, rfl⟩
instance {u : Mob} {z : Int} : PutM 3 (.int .i64 z) u { u with hp := z } := ⟨rfl, rfl, rfl⟩
class PutH (j : Nat) (v : Value) (u : Hse) (u' : outParam Hse) : Prop where
  one : v.oneCell' = true
  same : u'.guests = u.guests
  set : ∀ h : PA, hseC u' h = (hseC u h).set j v
  lt : Nat.blt j 4 = true
instance {u : Hse} {z : Int} : PutH 0 (.int .i64 z) u { u with room := z } := ⟨rfl, rfl, fun _ => rfl, rfl⟩
instance {u : Hse} {s : Tx} : PutH 1 (str s) u { u with owner := s } := ⟨rfl, rfl, fun _ => rfl, rfl⟩
instance {u : Hse} {z : Int} : PutH 3 (.int .i64 z) u { u with chest := z } := ⟨rfl, rfl, fun _ => rfl, rfl⟩
class PutL (j : Nat) (v : Value) (u : Lot) (u' : outParam Lot) : Prop where
  one : v.oneCell' = true
  set : lotC u' = (lotC u).set j v
  lt : Nat.blt j 7 = true
instance {u : Lot} {z : Int} : PutL 0 (.int .i64 z) u { u with id := z } := ⟨rfl, rfl, rfl⟩
instance {u : Lot} {z : Int} : PutL 1 (.int .i64 z) u { u with thing := z } := ⟨rfl, rfl, rfl⟩
instance {u : Lot} {s : Tx} : PutL 2 (str s) u { u with seller := s } := ⟨rfl, rfl, rfl⟩
instance {u : Lot} {z : Int} : PutL 3 (.int .i64 z) u { u with min := z } := ⟨rfl, rfl, rfl⟩
instance {u : Lot} {z : Int} : PutL 4 (.int .i64 z) u { u with bid := z } := ⟨rfl, rfl, rfl⟩
instance {u : Lot} {s : Tx} : PutL 5 (str s) u { u with bidder := s } := ⟨rfl, rfl, rfl⟩
instance {u : Lot} {z : Int} : PutL 6 (.int .i64 z) u { u with ends := z } := ⟨rfl, rfl, rfl⟩
class PutI (j : Nat) (v : Value) (u : Till) (u' : outParam Till) : Prop where
  one : v.oneCell' = true
  set : tillC u' = (tillC u).set j v
  lt : Nat.blt j 2 = true
instance {u : Till} {z : Int} : PutI 0 (.int .i64 z) u { u with room := z } := ⟨rfl, rfl, rfl⟩
instance {u : Till} {z : Int} : PutI 1 (.int .i64 z) u { u with gold := z } := ⟨rfl, rfl, rfl⟩
class PutW (j : Nat) (v : Value) (w : Wld) (w' : outParam Wld) : Prop where
  one : v.oneCell' = true
  set : ∀ m : Lay, wldC m w' = (wldC m w).set j v
  same : w'.chars = w.chars ∧ w'.things = w.things ∧ w'.mobs = w.mobs ∧ w'.houses = w.houses ∧ w'.lots = w.lots ∧ w'.tills = w.tills
  lt : j < 9
instance {w : Wld} {z : Int} : PutW 0 (.int .i64 z) w { w with now := z } := ⟨rfl, fun _ => rfl, ⟨rfl, rfl, rfl, rfl, rfl, rfl⟩, by decide⟩
instance {w : Wld} {z : Int} : PutW 1 (.int .i64 z) w { w with next := z } := ⟨rfl, fun _ => rfl, ⟨rfl, rfl, rfl, rfl, rfl, rfl⟩, by decide⟩
instance {w : Wld} {z : Int} : PutW 2 (.int .i64 z) w { w with minted := z } := ⟨rfl, fun _ => rfl, ⟨rfl, rfl, rfl, rfl, rfl, rfl⟩, by decide⟩
theorem setAt_of {cs : List Value} {i : Nat} {v : Value} (h : i < cs.length) : SetAt cs i v (cs.set i v) := by
  induction cs generalizing i with
  | nil => simp at h
  | cons x cs ih => cases i with
    | zero => exact .here
    | succ i => exact .there (ih (by simpa using h))
section
variable {P : Program} {n : Nat} {o : Outer} {sr : List Tmp} {ops : Array Oper} {Q : Post} {St : List HProp} {rest : List Oper} {xs : Env} {hs : List HProp}
variable {d : Option Tmp} {ty : TypeId} {pos : String} {af : Array Edge}
/-- A field of one of a world's chars is written. -/
theorem W.stC {t b p i j : Nat} {m : Lay} {w : Wld} {x y : Operand} {v : Value} {u u' : Chr} {r : List HProp} [h1 : One P t] [hp' : PutC j v u u'] (hx : ev xs x = some (.pointer (some ⟨bk m.chA, p, none⟩))) (hy : ev xs y = some v) (hf : Find hs (wl b m w) r) (hp : p = of m.chA + i * 10 + j) (hu : w.chars[i]? = some u) (hI : Keep (freeSt sr ops ⟨none, .store t x y, ty, pos, af, none⟩) St r)
    {wz : Wld} (hwz : { w with chars := w.chars.set i u' } = wz) (k : W P n o sr ops Q St rest xs (wl b m wz :: r)) : W P n o sr ops Q St (⟨none, .store t x y, ty, pos, af, none⟩ :: rest) xs hs := by
  subst hwz
  refine wopenw (fun hl => ?_) hf
  obtain ⟨h, hz, _⟩ := zip_get hu hl.1
  refine W.st (En := Ec) (u', h) hx hy hp'.one (.there .here) hp rfl hz hp'.lt (hp'.set h) (by repeat (first | exact hI | apply Keep.there)) ?_
  rw [zip_set hz u']
  refine wfoldw b m { w with chars := w.chars.set i u' } ⟨by rw [List.length_set]; exact hl.1, hl.2⟩ k ?_
  have e1 : wldC m { w with chars := w.chars.set i u' } = wldC m w := by simp only [wldC, List.length_set]
  have e2 : dnL { w with chars := w.chars.set i u' } m = dnL w m := zip_same (fun c : Chr => c.done) hu hp'.same
  rw [e1, e2]
  exact (by (focus ((repeat (first | exact Ent.done | with_reducible exact Ent.same | (apply Ent.take; (first | (focus (with_reducible iterate 40 first | done | exact .here | apply Find.there); done) | (focus (iterate 40 first | done | exact .here | apply Find.there); done))) | (apply Ent.emp (sl_emp _ _)) | apply Ent.drop)); first | done | fail)))
/-- A field of one of a world's things is written. -/
theorem W.stT {t b p i j : Nat} {m : Lay} {w : Wld} {x y : Operand} {v : Value} {u u' : Thg} {r : List HProp} [h1 : One P t] [hp' : PutT j v u u'] (hx : ev xs x = some (.pointer (some ⟨bk m.thA, p, none⟩))) (hy : ev xs y = some v) (hf : Find hs (wl b m w) r) (hp : p = of m.thA + i * 5 + j) (hu : w.things[i]? = some u) (hI : Keep (freeSt sr ops ⟨none, .store t x y, ty, pos, af, none⟩) St r)
    {wz : Wld} (hwz : { w with things := w.things.set i u' } = wz) (k : W P n o sr ops Q St rest xs (wl b m wz :: r)) : W P n o sr ops Q St (⟨none, .store t x y, ty, pos, af, none⟩ :: rest) xs hs := by
  subst hwz
  refine wopenw (fun hl => ?_) hf
  refine W.st (En := Et) u' hx hy hp'.one (.there (.there .here)) hp rfl hu hp'.lt hp'.set (by repeat (first | exact hI | apply Keep.there)) ?_
  refine wfoldw b m { w with things := w.things.set i u' } hl k ?_
  have e1 : wldC m { w with things := w.things.set i u' } = wldC m w := by simp only [wldC, List.length_set]
  rw [e1]
  exact (by (focus ((repeat (first | exact Ent.done | with_reducible exact Ent.same | (apply Ent.take; (first | (focus (with_reducible iterate 40 first | done | exact .here | apply Find.there); done) | (focus (iterate 40 first | done | exact .here | apply Find.there); done))) | (apply Ent.emp (sl_emp _ _)) | apply Ent.drop)); first | done | fail)))
/-- A field of one of a world's mobs is written. -/
theorem W.stM {t b p i j : Nat} {m : Lay} {w : Wld} {x y : Operand} {v : Value} {u u' : Mob} {r : List HProp} [h1 : One P t] [hp' : PutM j v u u'] (hx : ev xs x = some (.pointer (some ⟨bk m.moA, p, none⟩))) (hy : ev xs y = some v) (hf : Find hs (wl b m w) r) (hp : p = of m.moA + i * 4 + j) (hu : w.mobs[i]? = some u) (hI : Keep (freeSt sr ops ⟨none, .store t x y, ty, pos, af, none⟩) St r)
    {wz : Wld} (hwz : { w with mobs := w.mobs.set i u' } = wz) (k : W P n o sr ops Q St rest xs (wl b m wz :: r)) : W P n o sr ops Q St (⟨none, .store t x y, ty, pos, af, none⟩ :: rest) xs hs := by
  subst hwz
  refine wopenw (fun hl => ?_) hf
  refine W.st (En := Em) u' hx hy hp'.one (.there (.there (.there .here))) hp rfl hu hp'.lt hp'.set (by repeat (first | exact hI | apply Keep.there)) ?_
  refine wfoldw b m { w with mobs := w.mobs.set i u' } hl k ?_
  have e1 : wldC m { w with mobs := w.mobs.set i u' } = wldC m w := by simp only [wldC, List.length_set]
  rw [e1]
  exact (by (focus ((repeat (first | exact Ent.done | with_reducible exact Ent.same | (apply Ent.take; (first | (focus (with_reducible iterate 40 first | done | exact .here | apply Find.there); done) | (focus (iterate 40 first | done | exact .here | apply Find.there); done))) | (apply Ent.emp (sl_emp _ _)) | apply Ent.drop)); first | done | fail)))
/-- A field of one of a world's houses is written. -/
theorem W.stH {t b p i j : Nat} {m : Lay} {w : Wld} {x y : Operand} {v : Value} {u u' : Hse} {r : List HProp} [h1 : One P t] [hp' : PutH j v u u'] (hx : ev xs x = some (.pointer (some ⟨bk m.hoA, p, none⟩))) (hy : ev xs y = some v) (hf : Find hs (wl b m w) r) (hp : p = of m.hoA + i * 4 + j) (hu : w.houses[i]? = some u) (hI : Keep (freeSt sr ops ⟨none, .store t x y, ty, pos, af, none⟩) St r)
    {wz : Wld} (hwz : { w with houses := w.houses.set i u' } = wz) (k : W P n o sr ops Q St rest xs (wl b m wz :: r)) : W P n o sr ops Q St (⟨none, .store t x y, ty, pos, af, none⟩ :: rest) xs hs := by
  subst hwz
  refine wopenw (fun hl => ?_) hf
  obtain ⟨h, hz, _⟩ := zip_get hu hl.2
  refine W.st (En := Eh) (u', h) hx hy hp'.one (.there (.there (.there (.there .here)))) hp rfl hz hp'.lt (hp'.set h) (by repeat (first | exact hI | apply Keep.there)) ?_
  rw [zip_set hz u']
  refine wfoldw b m { w with houses := w.houses.set i u' } ⟨hl.1, by rw [List.length_set]; exact hl.2⟩ k ?_
  have e1 : wldC m { w with houses := w.houses.set i u' } = wldC m w := by simp only [wldC, List.length_set]
  have e2 : gsL { w with houses := w.houses.set i u' } m = gsL w m := zip_same (fun c : Hse => c.guests) hu hp'.same
  rw [e1, e2]
  exact (by (focus ((repeat (first | exact Ent.done | with_reducible exact Ent.same | (apply Ent.take; (first | (focus (with_reducible iterate 40 first | done | exact .here | apply Find.there); done) | (focus (iterate 40 first | done | exact .here | apply Find.there); done))) | (apply Ent.emp (sl_emp _ _)) | apply Ent.drop)); first | done | fail)))
/-- A field of one of a world's lots is written. -/
theorem W.stL {t b p i j : Nat} {m : Lay} {w : Wld} {x y : Operand} {v : Value} {u u' : Lot} {r : List HProp} [h1 : One P t] [hp' : PutL j v u u'] (hx : ev xs x = some (.pointer (some ⟨bk m.loA, p, none⟩))) (hy : ev xs y = some v) (hf : Find hs (wl b m w) r) (hp : p = of m.loA + i * 7 + j) (hu : w.lots[i]? = some u) (hI : Keep (freeSt sr ops ⟨none, .store t x y, ty, pos, af, none⟩) St r)
    {wz : Wld} (hwz : { w with lots := w.lots.set i u' } = wz) (k : W P n o sr ops Q St rest xs (wl b m wz :: r)) : W P n o sr ops Q St (⟨none, .store t x y, ty, pos, af, none⟩ :: rest) xs hs := by
  subst hwz
  refine wopenw (fun hl => ?_) hf
  refine W.st (En := El) u' hx hy hp'.one (.there (.there (.there (.there (.there .here))))) hp rfl hu hp'.lt hp'.set (by repeat (first | exact hI | apply Keep.there)) ?_
  refine wfoldw b m { w with lots := w.lots.set i u' } hl k ?_
  have e1 : wldC m { w with lots := w.lots.set i u' } = wldC m w := by simp only [wldC, List.length_set]
  rw [e1]
  exact (by (focus ((repeat (first | exact Ent.done | with_reducible exact Ent.same | (apply Ent.take; (first | (focus (with_reducible iterate 40 first | done | exact .here | apply Find.there); done) | (focus (iterate 40 first | done | exact .here | apply Find.there); done))) | (apply Ent.emp (sl_emp _ _)) | apply Ent.drop)); first | done | fail)))
/-- A field of one of a world's tills is written. -/
theorem W.stI {t b p i j : Nat} {m : Lay} {w : Wld} {x y : Operand} {v : Value} {u u' : Till} {r : List HProp} [h1 : One P t] [hp' : PutI j v u u'] (hx : ev xs x = some (.pointer (some ⟨bk m.tiA, p, none⟩))) (hy : ev xs y = some v) (hf : Find hs (wl b m w) r) (hp : p = of m.tiA + i * 2 + j) (hu : w.tills[i]? = some u) (hI : Keep (freeSt sr ops ⟨none, .store t x y, ty, pos, af, none⟩) St r)
    {wz : Wld} (hwz : { w with tills := w.tills.set i u' } = wz) (k : W P n o sr ops Q St rest xs (wl b m wz :: r)) : W P n o sr ops Q St (⟨none, .store t x y, ty, pos, af, none⟩ :: rest) xs hs := by
  subst hwz
  refine wopenw (fun hl => ?_) hf
  refine W.st (En := Ei) u' hx hy hp'.one (.there (.there (.there (.there (.there (.there .here)))))) hp rfl hu hp'.lt hp'.set (by repeat (first | exact hI | apply Keep.there)) ?_
  refine wfoldw b m { w with tills := w.tills.set i u' } hl k ?_
  have e1 : wldC m { w with tills := w.tills.set i u' } = wldC m w := by simp only [wldC, List.length_set]
  rw [e1]
  exact (by (focus ((repeat (first | exact Ent.done | with_reducible exact Ent.same | (apply Ent.take; (first | (focus (with_reducible iterate 40 first | done | exact .here | apply Find.there); done) | (focus (iterate 40 first | done | exact .here | apply Find.there); done))) | (apply Ent.emp (sl_emp _ _)) | apply Ent.drop)); first | done | fail)))
/-- A number of a world's own is written. -/
theorem W.stW {t b j : Nat} {m : Lay} {w w' : Wld} {x y : Operand} {v : Value} {r : List HProp} [h1 : One P t] [hp' : PutW j v w w'] (hx : ev xs x = some (.pointer (some ⟨b, j, none⟩))) (hy : ev xs y = some v) (hf : Find hs (wl b m w) r) (hI : Keep (freeSt sr ops ⟨none, .store t x y, ty, pos, af, none⟩) St r)
    (k : W P n o sr ops Q St rest xs (wl b m w' :: r)) : W P n o sr ops Q St (⟨none, .store t x y, ty, pos, af, none⟩ :: rest) xs hs := by
  obtain ⟨s1, s2, s3, s4, s5, s6⟩ := hp'.same
  refine wopenw (fun hl => ?_) hf
  refine W.store hx hy hp'.one .here (setAt_of hp'.lt) (by repeat (first | exact hI | apply Keep.there)) ?_
  rw [← hp'.set m]
  refine wfoldw b m w' (by unfold Laid; rw [s1, s4]; exact hl) k ?_
  simp only [dnL, gsL, s1, s2, s3, s4, s5, s6]
  exact (by (focus ((repeat (first | exact Ent.done | with_reducible exact Ent.same | (apply Ent.take; (first | (focus (with_reducible iterate 40 first | done | exact .here | apply Find.there); done) | (focus (iterate 40 first | done | exact .here | apply Find.there); done))) | (apply Ent.emp (sl_emp _ _)) | apply Ent.drop)); first | done | fail)))
end
end Go.Proofs.Ythejchmhjcfdiaa
