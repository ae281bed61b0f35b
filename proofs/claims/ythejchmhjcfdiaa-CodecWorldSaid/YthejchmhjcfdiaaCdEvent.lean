/-
  Events, written.
-/
import Derived.Test.YthejchmhjcfdiaaCdList
namespace Go.Proofs.Ythejchmhjcfdiaa
open Go.SL
set_option linter.unusedVariables false
set_option linter.unusedSimpArgs false
set_option maxHeartbeats 4000000
theorem ints_nil (ns : List Int) (hn : ∀ n ∈ ns, -9223372036854775808 ≤ n ∧ n ≤ 9223372036854775807) (hns : ns.length ≤ 100) (B : Option Addr) (d : Nat) :
    Trip Try.prog 21 [.slice none 0 0, .slice B ns.length d] [sl (Enc.int .i64) 2 B d ns] (fun v Ps => ∃ A' c', v = .slice A' (ns.flatMap intE).length c' ∧ Ps = [sl Enc.u8 5 A' c' (ns.flatMap intE)]) := by
  constructor; intro o w Rs hw
  exact (ints_spec ns hn hns [] none B 0 d (by simp)).run o w Rs (hw.lift (Lift.emp (sl_emp Enc.u8 5) _))
def evE (k : Int) (nm tx : List UInt8) (dc : List Int) : List UInt8 := intE k ++ textE nm ++ textE tx ++ listE dc
theorem Event_spec (k : Int) (h0 : -9223372036854775808 ≤ k) (h1 : k ≤ 9223372036854775807) (nm tx : List UInt8) (hnm : nm.length ≤ 1000) (htx : tx.length ≤ 1000) (dc : List Int) (hdc : ∀ n ∈ dc, -9223372036854775808 ≤ n ∧ n ≤ 9223372036854775807) (hdl : dc.length ≤ 1000) (D : Option Addr) (m : Nat) (R : HProp) (hR : Reads R (Enc.int .i64) D dc) :
    Trip Try.prog 13 [.agg #[.int .i64 k, str nm, str tx, .slice D dc.length m]] [R] (fun v Ps => ∃ A c, v = .slice A (evE k nm tx dc).length c ∧ Ps = [sl Enc.u8 5 A c (evE k nm tx dc), R]) := by
  refine Trip.of (m := 16) Try.func13 rfl rfl rfl ?_
  intro o Rs
  simp only [List.cons_append, List.nil_append, enumFrom]
  haveI : Plan 1 [4, 8, 11, 14] [0, 1, 4, 5, 7, 8, 10, 11, 2, 3, 6, 9, 12, 13] := ⟨⟩
  have F1 := fun B d => ints_nil [k] (by simp; omega) (by simp) B d
  simp only [List.flatMap_cons, List.flatMap_nil, List.append_nil] at F1
  simp only [evE]
  have hev : (intE k).length ≤ 9 := intE_len k
  have hnl := lenE_len 8 nm.length
  have htl := lenE_len 8 tx.length
  refine C.seq ?_
  refine C.region ?_
  refine gow ?_
  refine ⟨?_, by simp⟩ <;> intros
  refine E.then_normal ?_
  refine C.seq ?_
  refine C.region_draw [4, 8, 11, 14] [0, 1, 4, 5, 7, 8, 10, 11, 2, 3, 6, 9, 12, 13] mixed (by kernel_rfl) (by (repeat (with_reducible first | exact calm_body | apply Calm.then | apply Calm.block | assumption))) ?_
  simp only [pick, List.filterMap_cons, List.filterMap_nil, List.getElem?_toArray, List.getElem?_cons_succ, List.getElem?_cons_zero]
  refine go ?_
  refine ⟨?_, by simp⟩ <;> intros
  refine W.callr (by exact rfl) (by (focus ((repeat (first | exact Ent.done | with_reducible exact Ent.same | (apply Ent.take; (first | (focus (with_reducible iterate 40 first | done | exact .here | apply Find.there); done) | (focus (iterate 40 first | done | exact .here | apply Find.there); done))) | (apply Ent.emp (sl_emp _ _)) | apply Ent.drop)); first | done | fail))) rfl (by (first | exact Keep.nil | (focus ((repeat (first | exact Incl.nil | (apply Incl.cons; (focus (with_reducible iterate 40 first | done | exact .here | apply Find.there); done)))); first | done | fail)) | exact Keep.free rfl | (focus (apply Keep.incl; (repeat (first | exact Incl.nil | (apply Incl.cons; (focus (with_reducible iterate 40 first | done | exact .here | apply Find.there); done)))); first | done | fail)))) ((Text_spec nm (by omega) (intE k) _ _ (by omega))) ?_
  rintro _ _ ⟨A1, c1, rfl, rfl⟩
  simp only [List.cons_append, List.nil_append]
  refine go ?_
  refine ⟨?_, by simp⟩ <;> intros
  refine W.callr (by exact rfl) (by (focus ((repeat (first | exact Ent.done | with_reducible exact Ent.same | (apply Ent.take; (first | (focus (with_reducible iterate 40 first | done | exact .here | apply Find.there); done) | (focus (iterate 40 first | done | exact .here | apply Find.there); done))) | (apply Ent.emp (sl_emp _ _)) | apply Ent.drop)); first | done | fail))) rfl (by (first | exact Keep.nil | (focus ((repeat (first | exact Incl.nil | (apply Incl.cons; (focus (with_reducible iterate 40 first | done | exact .here | apply Find.there); done)))); first | done | fail)) | exact Keep.free rfl | (focus (apply Keep.incl; (repeat (first | exact Incl.nil | (apply Incl.cons; (focus (with_reducible iterate 40 first | done | exact .here | apply Find.there); done)))); first | done | fail)))) ((Text_spec tx (by omega) (intE k ++ textE nm) _ _ (by simp only [textE, List.length_append]; omega))) ?_
  rintro _ _ ⟨A2, c2, rfl, rfl⟩
  simp only [List.cons_append, List.nil_append]
  refine go ?_
  refine ⟨?_, by simp⟩ <;> intros
  refine W.callr (by exact rfl) (by (focus ((repeat (first | exact Ent.done | with_reducible exact Ent.same | (apply Ent.take; (first | (focus (with_reducible iterate 40 first | done | exact .here | apply Find.there); done) | (focus (iterate 40 first | done | exact .here | apply Find.there); done))) | (apply Ent.emp (sl_emp _ _)) | apply Ent.drop)); first | done | fail))) rfl (by (first | exact Keep.nil | (focus ((repeat (first | exact Incl.nil | (apply Incl.cons; (focus (with_reducible iterate 40 first | done | exact .here | apply Find.there); done)))); first | done | fail)) | exact Keep.free rfl | (focus (apply Keep.incl; (repeat (first | exact Incl.nil | (apply Incl.cons; (focus (with_reducible iterate 40 first | done | exact .here | apply Find.there); done)))); first | done | fail)))) ((list_spec dc hdc hdl (intE k ++ textE nm ++ textE tx) _ D _ m R hR (by simp only [textE, List.length_append]; omega))) ?_
  rintro _ _ ⟨A3, c3, rfl, rfl⟩
  simp only [List.cons_append, List.nil_append]
  refine go ?_
  refine ⟨?_, by simp⟩ <;> intros
  exact ret1 ⟨_, _, rfl, rfl⟩
end Go.Proofs.Ythejchmhjcfdiaa
