/-
  The document's copy of a world.
-/
import Derived.Test.YtlibnpdbcjgegaaGreatWoMem
namespace Go.Proofs.YtlibnpdbcjgegaaGreat
open Go.SL
set_option linter.unusedVariables false
set_option linter.unusedSimpArgs false
set_option maxHeartbeats 8000000
instance elt_ec : TyEnc Tryz.prog 85 Ec := ⟨⟩
instance elt_eh : TyEnc Tryz.prog 87 Eh := ⟨⟩
instance {x : Chr} {A : Option Addr} {n : Nat} : Elt Ec [str x.name, str x.hash, .bool x.on, .int .i64 x.room, .int .i64 x.hp, .int .i64 x.xp, .int .i64 x.gold, .int .i64 x.bank, .int .i64 x.foe, .slice A x.done.length n] (x, (A, n)) := ⟨rfl⟩
instance {x : Hse} {A : Option Addr} {n : Nat} : Elt Eh [.int .i64 x.room, str x.owner, .slice A x.guests.length n, .int .i64 x.chest] (x, (A, n)) := ⟨rfl⟩
section
variable {P : Program} {n : Nat} {o : Outer} {sr : List Tmp} {ops : Array Oper} {Q : Post} {St : List HProp} {rest : List Oper} {xs : Env} {hs : List HProp}
theorem efoldw {r : List HProp} {e : Exit} (d : Nat) (m : Lay) (w : Wld) (hl : Laid m w) (k : E n o Q e xs (wl d m w :: r)) (he : Ent hs [blk d 55 (wldC m w), sl Ec 85 m.chA m.chC (w.chars.zip m.dn), sl Et 40 m.thA m.thC w.things, sl Em 79 m.moA m.moC w.mobs, sl Eh 87 m.hoA m.hoC (w.houses.zip m.gs),
   sl El 90 m.loA m.loC w.lots, sl Ei 83 m.tiA m.tiC w.tills, nest E64 3 (dnL w m), nest Enc.str 9 (gsL w m)] r := by (focus ((repeat (first | exact Ent.done | with_reducible exact Ent.same | (apply Ent.take; (first | (focus (with_reducible iterate 40 first | done | exact .here | apply Find.there); done) | (focus (iterate 40 first | done | exact .here | apply Find.there); done))) | (apply Ent.emp (sl_emp _ _)) | apply Ent.drop)); first | done | fail))) : E n o Q e xs hs := E.turn (fun st hst => wl_close hl (hst.lift he.lift)) k
theorem wfoldw {r : List HProp} (d : Nat) (m : Lay) (w : Wld) (hl : Laid m w) (k : W P n o sr ops Q St rest xs (wl d m w :: r)) (he : Ent hs [blk d 55 (wldC m w), sl Ec 85 m.chA m.chC (w.chars.zip m.dn), sl Et 40 m.thA m.thC w.things, sl Em 79 m.moA m.moC w.mobs, sl Eh 87 m.hoA m.hoC (w.houses.zip m.gs),
   sl El 90 m.loA m.loC w.lots, sl Ei 83 m.tiA m.tiC w.tills, nest E64 3 (dnL w m), nest Enc.str 9 (gsL w m)] r := by (focus ((repeat (first | exact Ent.done | with_reducible exact Ent.same | (apply Ent.take; (first | (focus (with_reducible iterate 40 first | done | exact .here | apply Find.there); done) | (focus (iterate 40 first | done | exact .here | apply Find.there); done))) | (apply Ent.emp (sl_emp _ _)) | apply Ent.drop)); first | done | fail))) : W P n o sr ops Q St rest xs hs := W.turn (fun st hst => wl_close hl (hst.lift he.lift)) k
theorem cfoldw {r : List HProp} {c : Code} (d : Nat) (m : Lay) (w : Wld) (hl : Laid m w) (k : C P n o Q c xs (wl d m w :: r)) (he : Ent hs [blk d 55 (wldC m w), sl Ec 85 m.chA m.chC (w.chars.zip m.dn), sl Et 40 m.thA m.thC w.things, sl Em 79 m.moA m.moC w.mobs, sl Eh 87 m.hoA m.hoC (w.houses.zip m.gs),
   sl El 90 m.loA m.loC w.lots, sl Ei 83 m.tiA m.tiC w.tills, nest E64 3 (dnL w m), nest Enc.str 9 (gsL w m)] r := by (focus ((repeat (first | exact Ent.done | with_reducible exact Ent.same | (apply Ent.take; (first | (focus (with_reducible iterate 40 first | done | exact .here | apply Find.there); done) | (focus (iterate 40 first | done | exact .here | apply Find.there); done))) | (apply Ent.emp (sl_emp _ _)) | apply Ent.drop)); first | done | fail))) : C P n o Q c xs hs := C.turn (fun st hst => wl_close hl (hst.lift he.lift)) k
theorem wopenw {r : List HProp} {d : Nat} {m : Lay} {w : Wld} (k : Laid m w → W P n o sr ops Q St rest xs ([blk d 55 (wldC m w), sl Ec 85 m.chA m.chC (w.chars.zip m.dn), sl Et 40 m.thA m.thC w.things, sl Em 79 m.moA m.moC w.mobs, sl Eh 87 m.hoA m.hoC (w.houses.zip m.gs),
   sl El 90 m.loA m.loC w.lots, sl Ei 83 m.tiA m.tiC w.tills, nest E64 3 (dnL w m), nest Enc.str 9 (gsL w m)] ++ r)) (hf : Find hs (wl d m w) r := by (focus (with_reducible iterate 40 first | done | exact .here | apply Find.there); done)) : W P n o sr ops Q St rest xs hs :=
  ⟨fun a st ha hst => by obtain ⟨h1, h2⟩ := wl_open (hst.lift hf.lift); exact (k h1).run a st ha h2⟩
theorem copenw {r : List HProp} {c : Code} {d : Nat} {m : Lay} {w : Wld} (k : Laid m w → C P n o Q c xs ([blk d 55 (wldC m w), sl Ec 85 m.chA m.chC (w.chars.zip m.dn), sl Et 40 m.thA m.thC w.things, sl Em 79 m.moA m.moC w.mobs, sl Eh 87 m.hoA m.hoC (w.houses.zip m.gs),
   sl El 90 m.loA m.loC w.lots, sl Ei 83 m.tiA m.tiC w.tills, nest E64 3 (dnL w m), nest Enc.str 9 (gsL w m)] ++ r)) (hf : Find hs (wl d m w) r := by (focus (with_reducible iterate 40 first | done | exact .here | apply Find.there); done)) : C P n o Q c xs hs :=
  ⟨fun a st ha hst => by obtain ⟨h1, h2⟩ := wl_open (hst.lift hf.lift); exact (k h1).run a st ha h2⟩
end
/-- A world whose lists lie within memory. -/
structure Fits (w : Wld) : Prop where
  nc : w.chars.length * 112 ≤ 140737488355328
  nt : w.things.length * 48 ≤ 140737488355328
  nm : w.mobs.length * 32 ≤ 140737488355328
  nh : w.houses.length * 56 ≤ 140737488355328
  nl : w.lots.length * 72 ≤ 140737488355328
  ni : w.tills.length * 16 ≤ 140737488355328
  dn : ∀ c ∈ w.chars, c.done.length * 8 ≤ 140737488355328
  gs : ∀ c ∈ w.houses, c.guests.length * 16 ≤ 140737488355328
theorem Copy_spec (d : Nat) (m : Lay) (w : Wld) (hf : Fits w) (R : HProp) [hr : RW R d m w] (hl : Laid m w) :
    Trip Tryz.prog 17 [.pointer (some ⟨d, 0, none⟩)] [R] (fun v Ps => ∃ d' m', v = .pointer (some ⟨d', 0, none⟩) ∧ Ps = [R, wl d' m' w]) := by
  refine Trip.of (m := 89) Tryz.func17 rfl rfl rfl ?_
  intro o Rs
  simp only [List.cons_append, List.nil_append, enumFrom]
  obtain ⟨f1, f2, f3, f4, f5, f6, f7, f8⟩ := hf
  have zc : w.chars.length = (w.chars.zip m.dn).length := by simp [hl.1]
  have zh : w.houses.length = (w.houses.zip m.gs).length := by simp [hl.2]
  refine go ?_
  refine ⟨?_, by simp⟩ <;> intros
  refine W.agg_of (vs := wldC m w) rfl rfl (fun st hst j v hj => by
    obtain ⟨f, hf, hh⟩ := hst.head
    have := hr.cell j v hj f st hf hh
    rwa [Nat.zero_add]) rfl rfl ?_
  refine go ?_
  refine ⟨?_, by simp⟩ <;> intros
  rename_i o
  refine C.turn (fun st hst => nest_nil (E := E64) (e := 3) hst) ?_
  refine loop (σ := Nat × PA × List PA) (fun x => x.1 ≤ w.chars.length ∧ x.2.2.length = x.1) (fun x => [(0, .pointer (some ⟨d, 0, none⟩)), (3, .pointer (some ⟨o, 0, none⟩)), (4, .int .i64 (x.1 : Int))])
    (fun x => blk o 55 [.int .i64 w.now, .int .i64 w.next, .int .i64 w.minted, .slice x.2.1.1 ((w.chars.take x.1).zip x.2.2).length x.2.1.2, .slice m.thA w.things.length m.thC, .slice m.moA w.mobs.length m.moC, .slice m.hoA w.houses.length m.hoC, .slice m.loA w.lots.length m.loC, .slice m.tiA w.tills.length m.tiC] ::
      sl Ec 85 x.2.1.1 x.2.1.2 ((w.chars.take x.1).zip x.2.2) :: nest E64 3 (((w.chars.take x.1).zip x.2.2).map fun p => (p.1.done, p.2)) :: R :: Rs) (fun x => w.chars.length - x.1) (0, (none, 0), []) ⟨Nat.zero_le _, rfl⟩ ?_
  rintro ⟨k, ⟨A1, c1⟩, hs⟩ ⟨h1, h2⟩
  simp only at h1 h2 ⊢
  by_cases hk : k < w.chars.length
  · obtain ⟨c, hc⟩ : ∃ c, w.chars[k]? = some c := ⟨_, List.getElem?_eq_getElem hk⟩
    obtain ⟨h, hz, _⟩ := zip_get hc hl.1
    have hrd : Reads R E64 h.1 c.done := hr.dn _ (List.mem_of_getElem? hz)
    have hfd := f7 c (List.mem_of_getElem? hc)
    have htk : (w.chars.take k).length = hs.length := by rw [List.length_take]; omega
    have e1 : ∀ h : PA, (w.chars.take k).zip hs ++ [(c, h)] = (w.chars.take (k + 1)).zip (hs ++ [h]) := fun h => by
      rw [List.take_add_one, hc, Option.toList_some, List.zip_append htk]; rfl
    have hzl : ((w.chars.take k).zip hs).length = k := by rw [List.length_zip]; omega
    refine go ?_
    refine ⟨?_, by simp⟩ <;> intros
    rename_i x B n y A' c'
    refine E.two (by (focus (with_reducible iterate 40 first | done | exact .here | apply Find.there); done)) (by (focus (with_reducible iterate 40 first | done | exact .here | apply Find.there); done)) (fun st hst => nest_snoc (p := (c.done, (B, n))) (E := E64) (e := 3) hst) ?_
    have e2 : (List.map (fun p => (p.1.done, p.2)) ((w.chars.take k).zip hs) ++ [(c.done, (B, n))]) = List.map (fun p : Chr × PA => (p.1.done, p.2)) ((w.chars.take (k + 1)).zip (hs ++ [(B, n)])) := by rw [← e1, List.map_append]; rfl
    rw [e2, e1]
    exact rnd (k + 1, (A', c'), hs ++ [(B, n)]) ⟨by simp only; omega, by simp only [List.length_append, List.length_singleton]; omega⟩ (by simp only; omega)
  · rw [List.take_of_length_le (by omega)]
    have hzl : (w.chars.zip hs).length = w.chars.length := by rw [List.length_zip]; omega
    have hdl : hs.length = w.chars.length := by omega
    rw [hzl]
    have hk0 := hk
    refine go ?_
    refine ⟨?_, by simp⟩ <;> intros
    refine C.turn (fun st hst => nest_nil (E := Enc.str) (e := 9) hst) ?_
    refine loop (σ := Nat × PA × List PA) (fun x => x.1 ≤ w.houses.length ∧ x.2.2.length = x.1) (fun x => [(0, .pointer (some ⟨d, 0, none⟩)), (3, .pointer (some ⟨o, 0, none⟩)), (6, .int .i64 (x.1 : Int))])
      (fun x => blk o 55 [.int .i64 w.now, .int .i64 w.next, .int .i64 w.minted, .slice A1 w.chars.length c1, .slice m.thA w.things.length m.thC, .slice m.moA w.mobs.length m.moC, .slice x.2.1.1 ((w.houses.take x.1).zip x.2.2).length x.2.1.2, .slice m.loA w.lots.length m.loC, .slice m.tiA w.tills.length m.tiC] ::
        sl Eh 87 x.2.1.1 x.2.1.2 ((w.houses.take x.1).zip x.2.2) :: nest Enc.str 9 (((w.houses.take x.1).zip x.2.2).map fun p => (p.1.guests, p.2)) :: sl Ec 85 A1 c1 (w.chars.zip hs) :: nest E64 3 ((w.chars.zip hs).map fun p => (p.1.done, p.2)) :: R :: Rs) (fun x => w.houses.length - x.1) (0, (none, 0), []) ⟨Nat.zero_le _, rfl⟩ ?_
    rintro ⟨k, ⟨A2, c2⟩, gs⟩ ⟨h1, h2⟩
    simp only at h1 h2 ⊢
    by_cases hk : k < w.houses.length
    · obtain ⟨c, hc⟩ : ∃ c, w.houses[k]? = some c := ⟨_, List.getElem?_eq_getElem hk⟩
      obtain ⟨h, hz, _⟩ := zip_get hc hl.2
      have hrd : Reads R Enc.str h.1 c.guests := hr.gs _ (List.mem_of_getElem? hz)
      have hfd := f8 c (List.mem_of_getElem? hc)
      have htk : (w.houses.take k).length = gs.length := by rw [List.length_take]; omega
      have e1 : ∀ h : PA, (w.houses.take k).zip gs ++ [(c, h)] = (w.houses.take (k + 1)).zip (gs ++ [h]) := fun h => by
        rw [List.take_add_one, hc, Option.toList_some, List.zip_append htk]; rfl
      have hzl : ((w.houses.take k).zip gs).length = k := by rw [List.length_zip]; omega
      refine go ?_
      refine ⟨?_, by simp⟩ <;> intros
      rename_i x B n y A' c'
      refine E.two (by (focus (with_reducible iterate 40 first | done | exact .here | apply Find.there); done)) (by (focus (with_reducible iterate 40 first | done | exact .here | apply Find.there); done)) (fun st hst => nest_snoc (p := (c.guests, (B, n))) (E := Enc.str) (e := 9) hst) ?_
      have e2 : (List.map (fun p => (p.1.guests, p.2)) ((w.houses.take k).zip gs) ++ [(c.guests, (B, n))]) = List.map (fun p : Hse × PA => (p.1.guests, p.2)) ((w.houses.take (k + 1)).zip (gs ++ [(B, n)])) := by rw [← e1, List.map_append]; rfl
      rw [e2, e1]
      exact rnd (k + 1, (A', c'), gs ++ [(B, n)]) ⟨by simp only; omega, by simp only [List.length_append, List.length_singleton]; omega⟩ (by simp only; omega)
    · rw [List.take_of_length_le (by omega)]
      have hzl : (w.houses.zip gs).length = w.houses.length := by rw [List.length_zip]; omega
      have hgl : gs.length = w.houses.length := by omega
      rw [hzl]
      have hk1 := hk
      refine go ?_
      refine ⟨?_, by simp⟩ <;> intros
      rename_i A3 c3 A4 c4 A5 c5 A6 c6
      refine efoldw o ⟨A1, c1, A3, c3, A4, c4, A2, c2, A5, c5, A6, c6, hs, gs⟩ w ⟨hdl, hgl⟩ ?_
      exact ret1 ⟨o, _, rfl, rfl⟩
end Go.Proofs.YtlibnpdbcjgegaaGreat
