/-
  What CodecWorld answers.
-/
import Derived.Test.YthejchmhjcfdiaaCdBeg
import Derived.Test.YthejchmhjcfdiaaCdCut
import Derived.Test.YthejchmhjcfdiaaCdRef
import Derived.Test.YthejchmhjcfdiaaCdEqG
import Derived.Test.YthejchmhjcfdiaaCdTxt
namespace Go.Proofs.Ythejchmhjcfdiaa
open Go.SL
set_option linter.unusedVariables false
set_option linter.unusedSimpArgs false
set_option maxHeartbeats 8000000
set_option maxRecDepth 10000
theorem ok_short {w : Wld} (h : WldOk w) : Short w where
  nc := Nat.le_trans h.nc (by decide)
  nt := Nat.le_trans h.nt (by decide)
  nm := Nat.le_trans h.nm (by decide)
  nh := Nat.le_trans h.nh (by decide)
  nl := Nat.le_trans h.nl (by decide)
  ni := Nat.le_trans h.ni (by decide)
  dn c hc := Nat.le_trans (h.chars c hc).many (by decide)
  gs c hc := Nat.le_trans (h.houses c hc).many (by decide)
theorem sum_le20 {α : Type} (t : α → Nat) (N : Nat) : ∀ (l : List α), (∀ x ∈ l, t x ≤ N) → (l.map t).sum ≤ N * l.length
  | [], _ => Nat.le_refl _
  | x :: l, h => by
    have h1 := h x List.mem_cons_self
    have h2 := sum_le20 t N l (fun y hy => h y (List.mem_cons_of_mem _ hy))
    simp only [List.map_cons, List.sum_cons, List.length_cons, Nat.mul_succ]; omega
theorem ok_texts {w : Wld} (h : WldOk w) : textsN w ≤ 1000000 := by
  have h1 := sum_le20 tChr 1600 w.chars (fun c hc => by have := (h.chars c hc).name; have := (h.chars c hc).hash; have := (h.chars c hc).many; simp only [tChr]; omega)
  have h2 := sum_le20 tThg 200 w.things (fun c hc => by have := (h.things c hc).who; simp only [tThg]; omega)
  have h3 := sum_le20 tHse 4000 w.houses (fun c hc => by
    have := (h.houses c hc).owner; have h5 := (h.houses c hc).many
    have := sum_le20 (fun g : Tx => 64 + g.length) 164 c.guests (fun g hg => by have := (h.houses c hc).guests g hg; show 64 + g.length ≤ 164; omega)
    simp only [tHse]; omega)
  have h4 := sum_le20 tLot 300 w.lots (fun c hc => by have := (h.lots c hc).seller; have := (h.lots c hc).bidder; simp only [tLot]; omega)
  have n1 := h.nc; have n2 := h.nt; have n3 := h.nm; have n4 := h.nh; have n5 := h.nl; have n6 := h.ni
  simp only [textsN]; omega
theorem CodecWorld_spec (w w' : Wld) (m m' : Lay) (R : HProp) (hfr : ∀ f, R f → Fro f) (hR : ∀ d, RW (star2 (blk d 29 (wldC m w)) R) d m w) (hR' : ∀ d, RW (star2 (blk d 29 (wldC m' w')) R) d m' w')
    (hl : Laid m w) (hl' : Laid m' w') (hf : Fits w) (hf' : Fits w') (ok1 : WldOk (cutW w)) (ok2 : WldOk (cutW w')) :
    Trip Try.prog 3 [.agg (wldC m w).toArray, .agg (wldC m' w').toArray] [R] (fun v Ps => v = .bool true ∧ Ps = [R]) := by
  refine Trip.of (m := 78) Try.func3 rfl rfl rfl ?_
  intro o Rs
  simp only [List.cons_append, List.nil_append, enumFrom]
  haveI : Plan 4 [16, 18] [0, 2, 1, 3, 4, 5] := ⟨⟩
  refine C.turn (fun st hst => Sat.dup hst hfr) ?_
  refine C.turn (fun st hst => Sat.dup hst hfr) ?_
  have F1 := begun_spec
  have F2 := CutW_spec w hf m R hR hl
  have F3 := CutW_spec w' hf' m' R hR' hl'
  generalize cutW w = u1 at *
  generalize cutW w' = u2 at *
  have s1 := ok_short ok1
  have s2 := ok_short ok2
  refine go ?_
  refine ⟨?_, by simp⟩ <;> intros
  rename_i b1 b2 d1 m1 d2 m2
  clear F1 F2 F3 hR hR' hl hl' hf hf'
  refine W.fact (φ := Laid m1 u1) (fun st hst => (wl_caps (by (focus (with_reducible iterate 40 first | done | exact .here | apply Find.there); done)) hst).2.2.2.2.2.2) fun l1 => ?_
  refine W.fact (φ := Laid m2 u2) (fun st hst => (wl_caps (by (focus (with_reducible iterate 40 first | done | exact .here | apply Find.there); done)) hst).2.2.2.2.2.2) fun l2 => ?_
  have F1 := World_spec d1 m1 u1 ok1 (wl d1 m1 u1) l1.1 l1.2
  have F2 := World_spec d2 m2 u2 ok2 (wl d2 m2 u2) l2.1 l2.2
  refine go ?_
  refine ⟨?_, by simp⟩ <;> intros
  rename_i A1 c1 A2 c2
  clear F1 F2
  refine W.cap (A := A1) (by (focus (with_reducible iterate 40 first | done | exact .here | apply Find.there); done)) fun hcap => ?_
  refine W.callr (by exact rfl) (by (focus ((repeat (first | exact Ent.done | with_reducible exact Ent.same | (apply Ent.take; (first | (focus (with_reducible iterate 40 first | done | exact .here | apply Find.there); done) | (focus (iterate 40 first | done | exact .here | apply Find.there); done))) | (apply Ent.emp (sl_emp _ _)) | apply Ent.drop)); first | done | fail))) rfl (by (first | exact Keep.nil | (focus ((repeat (first | exact Incl.nil | (apply Incl.cons; (focus (with_reducible iterate 40 first | done | exact .here | apply Find.there); done)))); first | done | fail)) | exact Keep.free rfl | (focus (apply Keep.incl; (repeat (first | exact Incl.nil | (apply Incl.cons; (focus (with_reducible iterate 40 first | done | exact .here | apply Find.there); done)))); first | done | fail)))) ((ReadWorld_ok u1 ok1 A1 c1 hcap (sl Enc.u8 5 A1 c1 (worldE u1)) reads_sl)) ?_
  rintro _ _ ⟨d3, m3, rfl, rfl⟩
  simp only [List.cons_append, List.nil_append]
  refine W.fact (φ := Laid m3 u1) (fun st hst => (wl_caps (by (focus (with_reducible iterate 40 first | done | exact .here | apply Find.there); done)) hst).2.2.2.2.2.2) fun l3 => ?_
  have hlen := worldE_le u1 ok1
  have htx := ok_texts ok1
  have F1 := RefEq_spec d1 d2 m1 m2 u1 u2 s1 s2 (wl d1 m1 u1) (wl d2 m2 u2) l1 l2
  have F2 := RefEq_spec d1 d3 m1 m3 u1 u1 s1 s1 (wl d1 m1 u1) (wl d3 m3 u1) l1 l3
  have F3 := EqWorld_spec d1 d2 m1 m2 u1 u2 s1 s2 (wl d1 m1 u1) (wl d2 m2 u2) l1 l2
  have F4 := texts_spec d1 m1 u1 s1 htx (wl d1 m1 u1) l1
  have F5 := EqNil_spec
  have F6 := EqHalf_spec d1
  have F7 := WorldNil_spec
  have hsame : (worldE u1 == worldE u2) = decide (u1 = u2) := by
    rw [Bool.eq_iff_iff]
    simp only [beq_iff_eq, decide_eq_true_eq]
    exact ⟨fun h => worldE_inj ok1 ok2 h, fun h => by rw [h]⟩
  simp only [decide_eq_true (rfl : u1 = u1)] at F2
  generalize decide (u1 = u2) = s at F1 F3 hsame
  refine go ?_
  refine ⟨?_, fun _ h => absurd hsame h, ?_⟩
  · intros
    simp
  · try trivial
end Go.Proofs.Ythejchmhjcfdiaa
