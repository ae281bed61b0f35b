/-
  One world and one event, there and back.
-/
import Derived.Test.YthejchmhjcfdiaaCdEqW
import Derived.Test.YthejchmhjcfdiaaCdNone
import Derived.Test.YthejchmhjcfdiaaSLBc
namespace Go.Proofs.Ythejchmhjcfdiaa
open Go.SL
set_option linter.unusedVariables false
set_option linter.unusedSimpArgs false
set_option maxHeartbeats 8000000
def w0 : Wld := ⟨5, 0, 0, [], [], [⟨1, 0, 2, 0⟩], [], [], []⟩
theorem w0_ok : WldOk w0 where
  now := ⟨by decide, by decide⟩
  next := ⟨by decide, by decide⟩
  minted := ⟨by decide, by decide⟩
  chars x h := by cases h
  things x h := by cases h
  mobs x h := by
    have : x = ⟨1, 0, 2, 0⟩ := by simpa [w0] using h
    subst this
    exact ⟨⟨by decide, by decide⟩, ⟨by decide, by decide⟩, ⟨by decide, by decide⟩, ⟨by decide, by decide⟩⟩
  houses x h := by cases h
  lots x h := by cases h
  tills x h := by cases h
  nc := by decide
  nt := by decide
  nm := by decide
  nh := by decide
  nl := by decide
  ni := by decide
theorem w0_short : Short w0 where
  nc := by decide
  nt := by decide
  nm := by decide
  nh := by decide
  nl := by decide
  ni := by decide
  dn x h := by cases h
  gs x h := by cases h
theorem begun_spec : Trip Try.prog 5 [] [] (fun v Ps => v = .bool true ∧ Ps = []) := by
  refine Trip.of (m := 71) Try.func5 rfl rfl rfl ?_
  intro o Rs
  simp only [List.cons_append, List.nil_append, enumFrom]
  refine go ?_
  refine ⟨?_, by simp⟩ <;> intros
  rename_i b1 b2
  refine W.turn (fun st hst => nest_nil (E := E64) (e := 3) (nest_nil (E := Enc.str) (e := 9) hst)) ?_
  refine wfoldw b2 ⟨none, 0, none, 0, some ⟨b1, 0, none⟩, 1, none, 0, none, 0, none, 0, [], []⟩ w0 ⟨rfl, rfl⟩ ?_
  generalize hm : (⟨none, 0, none, 0, some ⟨b1, 0, none⟩, 1, none, 0, none, 0, none, 0, [], []⟩ : Lay) = m0
  have hl0 : Laid m0 w0 := by subst hm; exact ⟨rfl, rfl⟩
  have F1 := World_spec b2 m0 w0 w0_ok (wl b2 m0 w0) hl0.1 hl0.2
  refine go ?_
  refine ⟨?_, by simp⟩ <;> intros
  rename_i A1 c1
  refine W.cap (by (focus (with_reducible iterate 40 first | done | exact .here | apply Find.there); done)) fun hcap => ?_
  refine W.callr (by exact rfl) (by (focus ((repeat (first | exact Ent.done | with_reducible exact Ent.same | (apply Ent.take; (first | (focus (with_reducible iterate 40 first | done | exact .here | apply Find.there); done) | (focus (iterate 40 first | done | exact .here | apply Find.there); done))) | (apply Ent.emp (sl_emp _ _)) | apply Ent.drop)); first | done | fail))) rfl (by (first | exact Keep.nil | (focus ((repeat (first | exact Incl.nil | (apply Incl.cons; (focus (with_reducible iterate 40 first | done | exact .here | apply Find.there); done)))); first | done | fail)) | exact Keep.free rfl | (focus (apply Keep.incl; (repeat (first | exact Incl.nil | (apply Incl.cons; (focus (with_reducible iterate 40 first | done | exact .here | apply Find.there); done)))); first | done | fail)))) ((ReadWorld_ok w0 w0_ok A1 c1 hcap (sl Enc.u8 5 A1 c1 (worldE w0)) reads_sl)) ?_
  rintro _ _ ⟨d, m1, rfl, rfl⟩
  simp only [List.cons_append, List.nil_append]
  refine W.fact (φ := Laid m1 w0) (fun st hst => (wl_open (hst.lift (Find.lift (.there .here)))).1) fun hl1 => ?_
  clear F1
  have F1 := fun D m => Event_spec 5 (by decide) (by decide) [] [] (by decide) (by decide) [-3] (by decide) (by decide) D m (sl (Enc.int .i64) 3 D m [-3]) reads_sl
  refine go ?_
  refine ⟨?_, by simp⟩ <;> intros
  rename_i b3 A2 c2
  refine W.cap (by (focus (with_reducible iterate 40 first | done | exact .here | apply Find.there); done)) fun hcap2 => ?_
  refine W.callr (by exact rfl) (by (focus ((repeat (first | exact Ent.done | with_reducible exact Ent.same | (apply Ent.take; (first | (focus (with_reducible iterate 40 first | done | exact .here | apply Find.there); done) | (focus (iterate 40 first | done | exact .here | apply Find.there); done))) | (apply Ent.emp (sl_emp _ _)) | apply Ent.drop)); first | done | fail))) rfl (by (first | exact Keep.nil | (focus ((repeat (first | exact Incl.nil | (apply Incl.cons; (focus (with_reducible iterate 40 first | done | exact .here | apply Find.there); done)))); first | done | fail)) | exact Keep.free rfl | (focus (apply Keep.incl; (repeat (first | exact Incl.nil | (apply Incl.cons; (focus (with_reducible iterate 40 first | done | exact .here | apply Find.there); done)))); first | done | fail)))) ((ReadEvent_ok 5 [] [] [-3] ⟨⟨by decide, by decide⟩, by decide, by decide, by simp [OkI], by decide⟩ A2 c2 hcap2 (sl Enc.u8 5 A2 c2 (evE 5 [] [] [-3])) reads_sl)) ?_
  rintro _ _ ⟨B, k, rfl, rfl⟩
  simp only [List.cons_append, List.nil_append]
  clear F1
  refine go ?_
  refine ⟨?_, by simp⟩ <;> intros
  rename_i b4 b5
  refine W.cvb (by exact rfl) (by (focus (with_reducible iterate 40 first | done | exact .here | apply Find.there); done)) rfl (by (first | exact Keep.nil | (focus ((repeat (first | exact Incl.nil | (apply Incl.cons; (focus (with_reducible iterate 40 first | done | exact .here | apply Find.there); done)))); first | done | fail)) | exact Keep.free rfl | (focus (apply Keep.incl; (repeat (first | exact Incl.nil | (apply Incl.cons; (focus (with_reducible iterate 40 first | done | exact .here | apply Find.there); done)))); first | done | fail)))) ?_
  refine W.callr (by exact rfl) (by (focus ((repeat (first | exact Ent.done | with_reducible exact Ent.same | (apply Ent.take; (first | (focus (with_reducible iterate 40 first | done | exact .here | apply Find.there); done) | (focus (iterate 40 first | done | exact .here | apply Find.there); done))) | (apply Ent.emp (sl_emp _ _)) | apply Ent.drop)); first | done | fail))) rfl (by (first | exact Keep.nil | (focus ((repeat (first | exact Incl.nil | (apply Incl.cons; (focus (with_reducible iterate 40 first | done | exact .here | apply Find.there); done)))); first | done | fail)) | exact Keep.free rfl | (focus (apply Keep.incl; (repeat (first | exact Incl.nil | (apply Incl.cons; (focus (with_reducible iterate 40 first | done | exact .here | apply Find.there); done)))); first | done | fail)))) ((ReadNone_spec (some ⟨b5, 0, none⟩) 4 (by decide) (sl (Enc.int .u8) 5 (some ⟨b5, 0, none⟩) 4 [110, 111, 110, 101]) (reads_sl.u8 (by decide)))) ?_
  rintro _ _ ⟨u, rfl, rfl⟩
  simp only [List.cons_append, List.nil_append]
  have F1 := EqWorld_same b2 d m0 m1 w0 w0_short (wl b2 m0 w0) (wl d m1 w0) hl0 hl1
  have F2 := Is_spec u 4 4
  have hg : ([-3] : List Int)[0]? = some (-3) := rfl
  refine go ?_
  simp
end Go.Proofs.Ythejchmhjcfdiaa
