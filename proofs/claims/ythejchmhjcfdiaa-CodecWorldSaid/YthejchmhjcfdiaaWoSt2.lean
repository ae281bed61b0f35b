/-
  Worlds whose lists are cut short in place.
-/
import Derived.Test.YthejchmhjcfdiaaWoSt
namespace Go.Proofs.Ythejchmhjcfdiaa
open Go.SL
set_option linter.unusedVariables false
set_option linter.unusedSimpArgs false
set_option maxHeartbeats 8000000
theorem _root_.Go.SL.Enc.all_same {α : Type} (E : Enc α) {l : List α} {i : Nat} {x y : α} (h : l[i]? = some x) (he : E.f y = E.f x) : E.all l = E.all (l.set i y) := by
  induction l generalizing i with
  | nil => rfl
  | cons a l ih => cases i with
    | zero => simp only [List.getElem?_cons_zero, Option.some.injEq] at h; subst h; simp only [Enc.all, List.set_cons_zero, List.flatMap_cons, he]
    | succ i => simp only [List.getElem?_cons_succ] at h; have := ih h; simp only [Enc.all, List.set_cons_succ, List.flatMap_cons] at this ⊢; rw [this]
theorem sl_same {α : Type} {E : Enc α} {e : TypeId} {A : Option Addr} {c : Nat} {l l' : List α} {o : Outer} {w : World} {r : List HProp} (h : E.all l = E.all l') (hl : l.length = l'.length) (k : Sat o w (sl E e A c l :: r)) : Sat o w (sl E e A c l' :: r) := by
  refine k.weaken ?_
  intro f hf
  rcases hf with ⟨a1, b1, c1, d1⟩ | ⟨g, p, spare, hA, hl', hc, hb⟩
  · refine .inl ⟨a1, b1, ?_, d1⟩
    subst c1; exact List.eq_nil_of_length_eq_zero hl.symm
  · exact .inr ⟨g, p, spare, hA, by rw [← h]; exact hl', hc, by rw [← h]; exact hb⟩
theorem nest_front {α : Type} {E : Enc α} {e : TypeId} {ps : List (List α × PA)} {o : Outer} {w : World} {r : List HProp} (n : Nat) (k : Sat o w (nest E e ps :: r)) : Sat o w (nest E e (ps.take n) :: r) := by
  have h1 : Sat o w ((ps.map fun p => sl E e p.2.1 p.2.2 p.1) ++ r) := k.unstar
  have h2 : (ps.map fun p => sl E e p.2.1 p.2.2 p.1) = ((ps.take n).map fun p => sl E e p.2.1 p.2.2 p.1) ++ ((ps.drop n).map fun p => sl E e p.2.1 p.2.2 p.1) := by rw [← List.map_append, List.take_append_drop]
  rw [h2, List.append_assoc] at h1
  have h3 : Sat o w (nest E e (ps.take n) :: (((ps.drop n).map fun p => sl E e p.2.1 p.2.2 p.1) ++ r)) := h1.star
  refine h3.lift (Lift.cons _ ?_)
  generalize (ps.drop n).map (fun p => sl E e p.2.1 p.2.2 p.1) = l
  induction l with
  | nil => exact .refl _
  | cons x l ih => exact (Lift.drop _ _).trans ih
theorem zip_take {α β : Type} (l : List α) (m : List β) (n : Nat) : (l.zip m).take n = (l.take n).zip (m.take n) := by
  induction n generalizing l m with
  | zero => simp
  | succ n ih => cases l <;> cases m <;> simp [ih]
theorem sl_take {α : Type} {E : Enc α} {e : TypeId} {A : Option Addr} {c : Nat} {l : List α} {o : Outer} {w : World} {r : List HProp} (n : Nat) (k : Sat o w (sl E e A c l :: r)) : Sat o w (sl E e A c (l.take n) :: r) := by
  refine k.weaken ?_
  intro f hf
  rcases hf with ⟨a1, b1, c1, d1⟩ | ⟨g, pre, spare, hA, hl, hc, hb⟩
  · exact .inl ⟨a1, b1, (by rw [c1]; exact List.take_nil), d1⟩
  · refine .inr ⟨g, pre, E.all (l.drop n) ++ spare, hA, ?_, hc, ?_⟩
    · have := E.all_append (l.take n) (l.drop n)
      rw [List.take_append_drop] at this
      rw [this] at hl
      simp only [List.length_append] at hl ⊢
      omega
    · have := E.all_append (l.take n) (l.drop n)
      rw [List.take_append_drop] at this
      rw [this] at hb
      simpa only [List.append_assoc] using hb
theorem wl_caps {d : Nat} {m : Lay} {w : Wld} {o : Outer} {st : World} {hs r : List HProp} (hf : Find hs (wl d m w) r) (h : Sat o st hs) : w.chars.length ≤ m.chC ∧ w.things.length ≤ m.thC ∧ w.mobs.length ≤ m.moC ∧ w.houses.length ≤ m.hoC ∧ w.lots.length ≤ m.loC ∧ w.tills.length ≤ m.tiC ∧ Laid m w := by
  obtain ⟨hl, k⟩ := wl_open (h.lift hf.lift)
  have c1 := (k.lift (Find.lift (.there .here))).sl_cap.1
  have c2 := (k.lift (Find.lift (.there (.there .here)))).sl_cap.1
  have c3 := (k.lift (Find.lift (.there (.there (.there .here))))).sl_cap.1
  have c4 := (k.lift (Find.lift (.there (.there (.there (.there .here)))))).sl_cap.1
  have c5 := (k.lift (Find.lift (.there (.there (.there (.there (.there .here))))))).sl_cap.1
  have c6 := (k.lift (Find.lift (.there (.there (.there (.there (.there (.there .here)))))))).sl_cap.1
  rw [List.length_zip, hl.1, Nat.min_self] at c1
  rw [List.length_zip, hl.2, Nat.min_self] at c4
  exact ⟨c1, c2, c3, c4, c5, c6, hl⟩
theorem wl_dn {d k c : Nat} {A : Option Addr} {x : Chr} {m : Lay} {w : Wld} {o : Outer} {st : World} {hs r : List HProp} (hf : Find hs (wl d m w) r) (h : Sat o st hs) (hz : (w.chars.zip m.dn)[k]? = some (x, (A, c))) : x.done.length ≤ c := by
  obtain ⟨hl, k'⟩ := wl_open (h.lift hf.lift)
  have hd : (dnL w m)[k]? = some (x.done, (A, c)) := by simp only [dnL, List.getElem?_map, hz, Option.map_some]
  have hdi := (List.getElem?_eq_some_iff.1 hd).1
  have hde : (dnL w m)[k] = (x.done, (A, c)) := (List.getElem?_eq_some_iff.1 hd).2
  have h3 := nest_take hdi (k'.lift (Find.lift (.there (.there (.there (.there (.there (.there (.there .here)))))))))
  rw [hde] at h3
  exact h3.sl_cap.1
theorem wl_gs {d k c : Nat} {A : Option Addr} {x : Hse} {m : Lay} {w : Wld} {o : Outer} {st : World} {hs r : List HProp} (hf : Find hs (wl d m w) r) (h : Sat o st hs) (hz : (w.houses.zip m.gs)[k]? = some (x, (A, c))) : x.guests.length ≤ c := by
  obtain ⟨hl, k'⟩ := wl_open (h.lift hf.lift)
  have hd : (gsL w m)[k]? = some (x.guests, (A, c)) := by simp only [gsL, List.getElem?_map, hz, Option.map_some]
  have hdi := (List.getElem?_eq_some_iff.1 hd).1
  have hde : (gsL w m)[k] = (x.guests, (A, c)) := (List.getElem?_eq_some_iff.1 hd).2
  have h3 := nest_take hdi (k'.lift (Find.lift (.there (.there (.there (.there (.there (.there (.there (.there .here))))))))))
  rw [hde] at h3
  exact h3.sl_cap.1
section
variable {P : Program} {n : Nat} {o : Outer} {sr : List Tmp} {ops : Array Oper} {Q : Post} {St : List HProp} {rest : List Oper} {xs : Env} {hs : List HProp}
variable {d : Option Tmp} {ty : TypeId} {pos : String} {af : Array Edge}
theorem W.cutC {t b q : Nat} {m : Lay} {w : Wld} {x y : Operand} {r : List HProp} [h1 : One P t] (hx : ev xs x = some (.pointer (some ⟨b, 3, none⟩))) (hy : ev xs y = some (.slice m.chA q m.chC)) (hf : Find hs (wl b m w) r) (hq : q ≤ w.chars.length) (hI : Keep (freeSt sr ops ⟨none, .store t x y, ty, pos, af, none⟩) St r)
    {wz : Wld} (hwz : { w with chars := w.chars.take q } = wz) (k : W P n o sr ops Q St rest xs (wl b { m with dn := m.dn.take q } wz :: r)) : W P n o sr ops Q St (⟨none, .store t x y, ty, pos, af, none⟩ :: rest) xs hs := by
  subst hwz
  refine wopenw (fun hl => ?_) hf
  refine W.store hx hy rfl .here (setAt_of (by show 3 < 9; decide)) (by repeat (first | exact hI | apply Keep.there)) ?_
  have e1 : wldC { m with dn := m.dn.take q } { w with chars := w.chars.take q } = (wldC m w).set 3 (.slice m.chA q m.chC) := by simp only [wldC, List.length_take, Nat.min_eq_left hq, List.set_cons_succ, List.set_cons_zero]
  rw [← e1]
  refine W.one (.there .here) (fun st hst => sl_take q hst) ?_
  refine W.one (.there (.there (.there (.there (.there (.there (.there .here))))))) (fun st hst => nest_front q hst) ?_
  simp only [zip_take, ← List.map_take]
  refine wfoldw b { m with dn := m.dn.take q } { w with chars := w.chars.take q } ⟨by simp only [List.length_take, hl.1], hl.2⟩ k ?_
  exact (by (focus ((repeat (first | exact Ent.done | with_reducible exact Ent.same | (apply Ent.take; (first | (focus (with_reducible iterate 40 first | done | exact .here | apply Find.there); done) | (focus (iterate 40 first | done | exact .here | apply Find.there); done))) | (apply Ent.emp (sl_emp _ _)) | apply Ent.drop)); first | done | fail)))
theorem W.cutT {t b q : Nat} {m : Lay} {w : Wld} {x y : Operand} {r : List HProp} [h1 : One P t] (hx : ev xs x = some (.pointer (some ⟨b, 4, none⟩))) (hy : ev xs y = some (.slice m.thA q m.thC)) (hf : Find hs (wl b m w) r) (hq : q ≤ w.things.length) (hI : Keep (freeSt sr ops ⟨none, .store t x y, ty, pos, af, none⟩) St r)
    {wz : Wld} (hwz : { w with things := w.things.take q } = wz) (k : W P n o sr ops Q St rest xs (wl b m wz :: r)) : W P n o sr ops Q St (⟨none, .store t x y, ty, pos, af, none⟩ :: rest) xs hs := by
  subst hwz
  refine wopenw (fun hl => ?_) hf
  refine W.store hx hy rfl .here (setAt_of (by show 4 < 9; decide)) (by repeat (first | exact hI | apply Keep.there)) ?_
  have e1 : wldC m { w with things := w.things.take q } = (wldC m w).set 4 (.slice m.thA q m.thC) := by simp only [wldC, List.length_take, Nat.min_eq_left hq, List.set_cons_succ, List.set_cons_zero]
  rw [← e1]
  refine W.one (.there (.there .here)) (fun st hst => sl_take q hst) ?_
  refine wfoldw b m { w with things := w.things.take q } hl k ?_
  exact (by (focus ((repeat (first | exact Ent.done | with_reducible exact Ent.same | (apply Ent.take; (first | (focus (with_reducible iterate 40 first | done | exact .here | apply Find.there); done) | (focus (iterate 40 first | done | exact .here | apply Find.there); done))) | (apply Ent.emp (sl_emp _ _)) | apply Ent.drop)); first | done | fail)))
theorem W.cutM {t b q : Nat} {m : Lay} {w : Wld} {x y : Operand} {r : List HProp} [h1 : One P t] (hx : ev xs x = some (.pointer (some ⟨b, 5, none⟩))) (hy : ev xs y = some (.slice m.moA q m.moC)) (hf : Find hs (wl b m w) r) (hq : q ≤ w.mobs.length) (hI : Keep (freeSt sr ops ⟨none, .store t x y, ty, pos, af, none⟩) St r)
    {wz : Wld} (hwz : { w with mobs := w.mobs.take q } = wz) (k : W P n o sr ops Q St rest xs (wl b m wz :: r)) : W P n o sr ops Q St (⟨none, .store t x y, ty, pos, af, none⟩ :: rest) xs hs := by
  subst hwz
  refine wopenw (fun hl => ?_) hf
  refine W.store hx hy rfl .here (setAt_of (by show 5 < 9; decide)) (by repeat (first | exact hI | apply Keep.there)) ?_
  have e1 : wldC m { w with mobs := w.mobs.take q } = (wldC m w).set 5 (.slice m.moA q m.moC) := by simp only [wldC, List.length_take, Nat.min_eq_left hq, List.set_cons_succ, List.set_cons_zero]
  rw [← e1]
  refine W.one (.there (.there (.there .here))) (fun st hst => sl_take q hst) ?_
  refine wfoldw b m { w with mobs := w.mobs.take q } hl k ?_
  exact (by (focus ((repeat (first | exact Ent.done | with_reducible exact Ent.same | (apply Ent.take; (first | (focus (with_reducible iterate 40 first | done | exact .here | apply Find.there); done) | (focus (iterate 40 first | done | exact .here | apply Find.there); done))) | (apply Ent.emp (sl_emp _ _)) | apply Ent.drop)); first | done | fail)))
theorem W.cutH {t b q : Nat} {m : Lay} {w : Wld} {x y : Operand} {r : List HProp} [h1 : One P t] (hx : ev xs x = some (.pointer (some ⟨b, 6, none⟩))) (hy : ev xs y = some (.slice m.hoA q m.hoC)) (hf : Find hs (wl b m w) r) (hq : q ≤ w.houses.length) (hI : Keep (freeSt sr ops ⟨none, .store t x y, ty, pos, af, none⟩) St r)
    {wz : Wld} (hwz : { w with houses := w.houses.take q } = wz) (k : W P n o sr ops Q St rest xs (wl b { m with gs := m.gs.take q } wz :: r)) : W P n o sr ops Q St (⟨none, .store t x y, ty, pos, af, none⟩ :: rest) xs hs := by
  subst hwz
  refine wopenw (fun hl => ?_) hf
  refine W.store hx hy rfl .here (setAt_of (by show 6 < 9; decide)) (by repeat (first | exact hI | apply Keep.there)) ?_
  have e1 : wldC { m with gs := m.gs.take q } { w with houses := w.houses.take q } = (wldC m w).set 6 (.slice m.hoA q m.hoC) := by simp only [wldC, List.length_take, Nat.min_eq_left hq, List.set_cons_succ, List.set_cons_zero]
  rw [← e1]
  refine W.one (.there (.there (.there (.there .here)))) (fun st hst => sl_take q hst) ?_
  refine W.one (.there (.there (.there (.there (.there (.there (.there (.there .here)))))))) (fun st hst => nest_front q hst) ?_
  simp only [zip_take, ← List.map_take]
  refine wfoldw b { m with gs := m.gs.take q } { w with houses := w.houses.take q } ⟨hl.1, by simp only [List.length_take, hl.2]⟩ k ?_
  exact (by (focus ((repeat (first | exact Ent.done | with_reducible exact Ent.same | (apply Ent.take; (first | (focus (with_reducible iterate 40 first | done | exact .here | apply Find.there); done) | (focus (iterate 40 first | done | exact .here | apply Find.there); done))) | (apply Ent.emp (sl_emp _ _)) | apply Ent.drop)); first | done | fail)))
theorem W.cutL {t b q : Nat} {m : Lay} {w : Wld} {x y : Operand} {r : List HProp} [h1 : One P t] (hx : ev xs x = some (.pointer (some ⟨b, 7, none⟩))) (hy : ev xs y = some (.slice m.loA q m.loC)) (hf : Find hs (wl b m w) r) (hq : q ≤ w.lots.length) (hI : Keep (freeSt sr ops ⟨none, .store t x y, ty, pos, af, none⟩) St r)
    {wz : Wld} (hwz : { w with lots := w.lots.take q } = wz) (k : W P n o sr ops Q St rest xs (wl b m wz :: r)) : W P n o sr ops Q St (⟨none, .store t x y, ty, pos, af, none⟩ :: rest) xs hs := by
  subst hwz
  refine wopenw (fun hl => ?_) hf
  refine W.store hx hy rfl .here (setAt_of (by show 7 < 9; decide)) (by repeat (first | exact hI | apply Keep.there)) ?_
  have e1 : wldC m { w with lots := w.lots.take q } = (wldC m w).set 7 (.slice m.loA q m.loC) := by simp only [wldC, List.length_take, Nat.min_eq_left hq, List.set_cons_succ, List.set_cons_zero]
  rw [← e1]
  refine W.one (.there (.there (.there (.there (.there .here))))) (fun st hst => sl_take q hst) ?_
  refine wfoldw b m { w with lots := w.lots.take q } hl k ?_
  exact (by (focus ((repeat (first | exact Ent.done | with_reducible exact Ent.same | (apply Ent.take; (first | (focus (with_reducible iterate 40 first | done | exact .here | apply Find.there); done) | (focus (iterate 40 first | done | exact .here | apply Find.there); done))) | (apply Ent.emp (sl_emp _ _)) | apply Ent.drop)); first | done | fail)))
theorem W.cutI {t b q : Nat} {m : Lay} {w : Wld} {x y : Operand} {r : List HProp} [h1 : One P t] (hx : ev xs x = some (.pointer (some ⟨b, 8, none⟩))) (hy : ev xs y = some (.slice m.tiA q m.tiC)) (hf : Find hs (wl b m w) r) (hq : q ≤ w.tills.length) (hI : Keep (freeSt sr ops ⟨none, .store t x y, ty, pos, af, none⟩) St r)
    {wz : Wld} (hwz : { w with tills := w.tills.take q } = wz) (k : W P n o sr ops Q St rest xs (wl b m wz :: r)) : W P n o sr ops Q St (⟨none, .store t x y, ty, pos, af, none⟩ :: rest) xs hs := by
  subst hwz
  refine wopenw (fun hl => ?_) hf
  refine W.store hx hy rfl .here (setAt_of (by show 8 < 9; decide)) (by repeat (first | exact hI | apply Keep.there)) ?_
  have e1 : wldC m { w with tills := w.tills.take q } = (wldC m w).set 8 (.slice m.tiA q m.tiC) := by simp only [wldC, List.length_take, Nat.min_eq_left hq, List.set_cons_succ, List.set_cons_zero]
  rw [← e1]
  refine W.one (.there (.there (.there (.there (.there (.there .here)))))) (fun st hst => sl_take q hst) ?_
  refine wfoldw b m { w with tills := w.tills.take q } hl k ?_
  exact (by (focus ((repeat (first | exact Ent.done | with_reducible exact Ent.same | (apply Ent.take; (first | (focus (with_reducible iterate 40 first | done | exact .here | apply Find.there); done) | (focus (iterate 40 first | done | exact .here | apply Find.there); done))) | (apply Ent.emp (sl_emp _ _)) | apply Ent.drop)); first | done | fail)))
/-- A char's list of deeds is cut short. -/
theorem W.cutD {t b p i q c : Nat} {m : Lay} {w : Wld} {A : Option Addr} {x y : Operand} {u : Chr} {r : List HProp} [h1 : One P t] (hx : ev xs x = some (.pointer (some ⟨bk m.chA, p, none⟩))) (hy : ev xs y = some (.slice A q c)) (hf : Find hs (wl b m w) r) (hp : p = of m.chA + i * 10 + 9) (hu : w.chars[i]? = some u) (hg : m.dn[i]? = some (A, c)) (hq : q ≤ u.done.length)
    (hI : Keep (freeSt sr ops ⟨none, .store t x y, ty, pos, af, none⟩) St r)
    {wz : Wld} (hwz : { w with chars := w.chars.set i { u with done := u.done.take q } } = wz) (k : W P n o sr ops Q St rest xs (wl b m wz :: r)) : W P n o sr ops Q St (⟨none, .store t x y, ty, pos, af, none⟩ :: rest) xs hs := by
  subst hwz
  refine wopenw (fun hl => ?_) hf
  obtain ⟨h, hz, hh⟩ := zip_get hu hl.1
  rw [hg] at hh; cases hh
  have hi := (List.getElem?_eq_some_iff.1 hu).1
  have hlen : (u.done.take q).length = q := by rw [List.length_take]; omega
  refine W.st (En := Ec) (i := i) (j := 9) (u := (u, (A, c))) ({ u with done := u.done.take q }, (A, c)) hx hy rfl (.there .here) hp rfl hz rfl (by show chrC _ _ = (chrC _ _).set 9 _; simp only [chrC, hlen]; rfl) (by repeat (first | exact hI | apply Keep.there)) ?_
  rw [zip_set hz]
  have hd : (dnL w m)[i]? = some (u.done, (A, c)) := by simp only [dnL, List.getElem?_map, hz, Option.map_some]
  have hdi := (List.getElem?_eq_some_iff.1 hd).1
  have hde : (dnL w m)[i] = (u.done, (A, c)) := (List.getElem?_eq_some_iff.1 hd).2
  refine W.one (A := nest E64 3 (dnL w m)) (C := nest E64 3 ((dnL w m).set i (u.done.take q, (A, c)))) (.there (.there (.there (.there (.there (.there (.there .here))))))) (fun st hst => ?_) ?_
  · have h3 := nest_take hdi hst
    rw [hde] at h3
    exact nest_put (p := (u.done.take q, (A, c))) hdi (sl_take q h3)
  refine wfoldw b m { w with chars := w.chars.set i { u with done := u.done.take q } } ⟨by rw [List.length_set]; exact hl.1, hl.2⟩ k ?_
  have e1 : wldC m { w with chars := w.chars.set i { u with done := u.done.take q } } = wldC m w := by simp only [wldC, List.length_set]
  have e2 : dnL { w with chars := w.chars.set i { u with done := u.done.take q } } m = (dnL w m).set i (u.done.take q, (A, c)) := by
    simp only [dnL]; rw [← zip_set hz, List.map_set]
  rw [e1, e2]
  exact (by (focus ((repeat (first | exact Ent.done | with_reducible exact Ent.same | (apply Ent.take; (first | (focus (with_reducible iterate 40 first | done | exact .here | apply Find.there); done) | (focus (iterate 40 first | done | exact .here | apply Find.there); done))) | (apply Ent.emp (sl_emp _ _)) | apply Ent.drop)); first | done | fail)))
/-- A house's list of guests is cut short. -/
theorem W.cutG {t b p i q c : Nat} {m : Lay} {w : Wld} {A : Option Addr} {x y : Operand} {u : Hse} {r : List HProp} [h1 : One P t] (hx : ev xs x = some (.pointer (some ⟨bk m.hoA, p, none⟩))) (hy : ev xs y = some (.slice A q c)) (hf : Find hs (wl b m w) r) (hp : p = of m.hoA + i * 4 + 2) (hu : w.houses[i]? = some u) (hg : m.gs[i]? = some (A, c)) (hq : q ≤ u.guests.length)
    (hI : Keep (freeSt sr ops ⟨none, .store t x y, ty, pos, af, none⟩) St r)
    {wz : Wld} (hwz : { w with houses := w.houses.set i { u with guests := u.guests.take q } } = wz) (k : W P n o sr ops Q St rest xs (wl b m wz :: r)) : W P n o sr ops Q St (⟨none, .store t x y, ty, pos, af, none⟩ :: rest) xs hs := by
  subst hwz
  refine wopenw (fun hl => ?_) hf
  obtain ⟨h, hz, hh⟩ := zip_get hu hl.2
  rw [hg] at hh; cases hh
  have hlen : (u.guests.take q).length = q := by rw [List.length_take]; omega
  refine W.st (En := Eh) (i := i) (j := 2) (u := (u, (A, c))) ({ u with guests := u.guests.take q }, (A, c)) hx hy rfl (.there (.there (.there (.there .here)))) hp rfl hz rfl (by show hseC _ _ = (hseC _ _).set 2 _; simp only [hseC, hlen]; rfl) (by repeat (first | exact hI | apply Keep.there)) ?_
  rw [zip_set hz]
  have hd : (gsL w m)[i]? = some (u.guests, (A, c)) := by simp only [gsL, List.getElem?_map, hz, Option.map_some]
  have hdi := (List.getElem?_eq_some_iff.1 hd).1
  have hde : (gsL w m)[i] = (u.guests, (A, c)) := (List.getElem?_eq_some_iff.1 hd).2
  refine W.one (A := nest Enc.str 9 (gsL w m)) (C := nest Enc.str 9 ((gsL w m).set i (u.guests.take q, (A, c)))) (.there (.there (.there (.there (.there (.there (.there (.there .here)))))))) (fun st hst => ?_) ?_
  · have h3 := nest_take hdi hst
    rw [hde] at h3
    exact nest_put (p := (u.guests.take q, (A, c))) hdi (sl_take q h3)
  refine wfoldw b m { w with houses := w.houses.set i { u with guests := u.guests.take q } } ⟨hl.1, by rw [List.length_set]; exact hl.2⟩ k ?_
  have e1 : wldC m { w with houses := w.houses.set i { u with guests := u.guests.take q } } = wldC m w := by simp only [wldC, List.length_set]
  have e2 : gsL { w with houses := w.houses.set i { u with guests := u.guests.take q } } m = (gsL w m).set i (u.guests.take q, (A, c)) := by
    simp only [gsL]; rw [← zip_set hz, List.map_set]
  rw [e1, e2]
  exact (by (focus ((repeat (first | exact Ent.done | with_reducible exact Ent.same | (apply Ent.take; (first | (focus (with_reducible iterate 40 first | done | exact .here | apply Find.there); done) | (focus (iterate 40 first | done | exact .here | apply Find.there); done))) | (apply Ent.emp (sl_emp _ _)) | apply Ent.drop)); first | done | fail)))
/-- One of a house's guests is written. -/
theorem W.stG {t b p i j c : Nat} {m : Lay} {w : Wld} {A : Option Addr} {x y : Operand} {u : Hse} {s s0 : Tx} {r : List HProp} [h1 : One P t] (hx : ev xs x = some (.pointer (some ⟨bk A, p, none⟩))) (hy : ev xs y = some (str s)) (hf : Find hs (wl b m w) r) (hp : p = of A + j * 1) (hu : w.houses[i]? = some u) (hg : m.gs[i]? = some (A, c)) (hj : u.guests[j]? = some s0)
    (hI : Keep (freeSt sr ops ⟨none, .store t x y, ty, pos, af, none⟩) St r)
    {wz : Wld} (hwz : { w with houses := w.houses.set i { u with guests := u.guests.set j s } } = wz) (k : W P n o sr ops Q St rest xs (wl b m wz :: r)) : W P n o sr ops Q St (⟨none, .store t x y, ty, pos, af, none⟩ :: rest) xs hs := by
  subst hwz
  refine wopenw (fun hl => ?_) hf
  obtain ⟨h, hz, hh⟩ := zip_get hu hl.2
  rw [hg] at hh; cases hh
  have hd : (gsL w m)[i]? = some (u.guests, (A, c)) := by simp only [gsL, List.getElem?_map, hz, Option.map_some]
  have hdi := (List.getElem?_eq_some_iff.1 hd).1
  have hde : (gsL w m)[i] = (u.guests, (A, c)) := (List.getElem?_eq_some_iff.1 hd).2
  refine W.turn (hs' := sl Enc.str 9 A c u.guests :: nest Enc.str 9 ((gsL w m).eraseIdx i) :: ([blk b 29 (wldC m w), sl Ec 57 m.chA m.chC (w.chars.zip m.dn), sl Et 60 m.thA m.thC w.things, sl Em 51 m.moA m.moC w.mobs, sl Eh 64 m.hoA m.hoC (w.houses.zip m.gs),
   sl El 66 m.loA m.loC w.lots, sl Ei 74 m.tiA m.tiC w.tills, nest E64 3 (dnL w m)] ++ r)) (fun st hst => ?_) ?_
  · have h3 := hst.lift (Find.lift (.there (.there (.there (.there (.there (.there (.there (.there .here)))))))))
    have h4 := nest_take hdi h3
    rw [hde] at h4
    exact h4
  refine W.sts hx hy .here hp hj (by repeat (first | exact hI | apply Keep.there)) ?_
  refine W.turn (hs' := nest Enc.str 9 ((gsL w m).set i (u.guests.set j s, (A, c))) :: ([blk b 29 (wldC m w), sl Ec 57 m.chA m.chC (w.chars.zip m.dn), sl Et 60 m.thA m.thC w.things, sl Em 51 m.moA m.moC w.mobs, sl Eh 64 m.hoA m.hoC ((w.houses.zip m.gs).set i ({ u with guests := u.guests.set j s }, (A, c))),
   sl El 66 m.loA m.loC w.lots, sl Ei 74 m.tiA m.tiC w.tills, nest E64 3 (dnL w m)] ++ r)) (fun st hst => ?_) ?_
  · have h3 := nest_put (p := (u.guests.set j s, (A, c))) hdi hst
    have h4 := h3.lift (Find.lift (.there (.there (.there (.there (.there .here))))))
    have h5 := sl_same (l' := (w.houses.zip m.gs).set i ({ u with guests := u.guests.set j s }, (A, c))) (by
      refine Enc.all_same _ hz ?_
      show hseC _ _ = hseC _ _
      simp only [hseC, List.length_set]) (by rw [List.length_set]) h4
    exact h5.lift (by
      refine (Lift.swap _ _ _).trans (Lift.cons _ ?_)
      refine (Lift.swap _ _ _).trans (Lift.cons _ ?_)
      refine (Lift.swap _ _ _).trans (Lift.cons _ ?_)
      refine (Lift.swap _ _ _).trans (Lift.cons _ ?_)
      exact Lift.swap _ _ _)
  rw [zip_set hz]
  refine wfoldw b m { w with houses := w.houses.set i { u with guests := u.guests.set j s } } ⟨hl.1, by rw [List.length_set]; exact hl.2⟩ k ?_
  have e1 : wldC m { w with houses := w.houses.set i { u with guests := u.guests.set j s } } = wldC m w := by simp only [wldC, List.length_set]
  have e2 : gsL { w with houses := w.houses.set i { u with guests := u.guests.set j s } } m = (gsL w m).set i (u.guests.set j s, (A, c)) := by
    simp only [gsL]; rw [← zip_set hz, List.map_set]
  rw [e1, e2]
  exact (by (focus ((repeat (first | exact Ent.done | with_reducible exact Ent.same | (apply Ent.take; (first | (focus (with_reducible iterate 40 first | done | exact .here | apply Find.there); done) | (focus (iterate 40 first | done | exact .here | apply Find.there); done))) | (apply Ent.emp (sl_emp _ _)) | apply Ent.drop)); first | done | fail)))
end
end Go.Proofs.Ythejchmhjcfdiaa
