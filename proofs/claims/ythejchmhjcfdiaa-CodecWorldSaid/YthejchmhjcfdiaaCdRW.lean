/-
  Worlds and events, read.
-/
import Derived.Test.YthejchmhjcfdiaaCdEach
namespace Go.Proofs.Ythejchmhjcfdiaa
open Go.SL
set_option linter.unusedVariables false
set_option linter.unusedSimpArgs false
set_option maxHeartbeats 8000000
theorem ReadWorld_ok (w : Wld) (hw : WldOk w) (A : Option Addr) (c : Nat) (hc : (worldE w).length ≤ c) (R : HProp) (hR : Reads R Enc.u8 A (worldE w)) : Trip Try.prog 8 [.slice A (worldE w).length c] [R] (fun v Ps => ∃ d m, v = .tuple #[.pointer (some ⟨d, 0, none⟩), .nilIface] ∧ Ps = [R, wl d m w]) := by
  refine Trip.of (m := 53) Try.func8 rfl rfl rfl ?_
  intro o Rs
  simp only [List.cons_append, List.nil_append, enumFrom]
  obtain ⟨w1, w2, w3, x1, x2, x3, x4, x5, x6, n1, n2, n3, n4, n5, n6⟩ := hw
  have l1 := lstE_len (f := charE) (xs := w.chars) (N := 3000) (fun y hm => Nat.le_trans (charE_len y (x1 y hm)) (by decide))
  have l2 := lstE_len (f := thgE) (xs := w.things) (N := 3000) (fun y hm => Nat.le_trans (thgE_len y (x2 y hm)) (by decide))
  have l3 := lstE_len (f := mobE) (xs := w.mobs) (N := 3000) (fun y hm => Nat.le_trans (mobE_len y) (by decide))
  have l4 := lstE_len (f := hseE) (xs := w.houses) (N := 3000) (fun y hm => hseE_len y (x4 y hm))
  have l5 := lstE_len (f := lotE) (xs := w.lots) (N := 3000) (fun y hm => Nat.le_trans (lotE_len y (x5 y hm)) (by decide))
  have l6 := lstE_len (f := tillE) (xs := w.tills) (N := 3000) (fun y hm => Nat.le_trans (tillE_len y) (by decide))
  refine go ?_
  refine ⟨?_, by simp⟩ <;> intros
  rename_i b
  refine W.one (by (focus (with_reducible iterate 40 first | done | exact .here | apply Find.there); done)) (fun st hst => rdx_close (d := b) (A := A) (c := c) (bad := false) hR hc hst) ?_
  have F1 := Int_ok b R w.now w1
  have F2 := Int_ok b R w.next w2
  have F3 := Int_ok b R w.minted w3
  have L4 := eachChr_ok b R w.chars x1 n1 (lstE thgE w.things ++ (lstE mobE w.mobs ++ (lstE hseE w.houses ++ (lstE lotE w.lots ++ (lstE tillE w.tills ++ []))))) (by simp only [List.length_append, List.length_nil]; omega)
  have F5 := eachThg_ok b R w.things x2 n2 (lstE mobE w.mobs ++ (lstE hseE w.houses ++ (lstE lotE w.lots ++ (lstE tillE w.tills ++ [])))) (by simp only [List.length_append, List.length_nil]; omega)
  have F6 := eachMob_ok b R w.mobs x3 n3 (lstE hseE w.houses ++ (lstE lotE w.lots ++ (lstE tillE w.tills ++ []))) (by simp only [List.length_append, List.length_nil]; omega)
  have L7 := eachHse_ok b R w.houses x4 n4 (lstE lotE w.lots ++ (lstE tillE w.tills ++ [])) (by simp only [List.length_append, List.length_nil]; omega)
  have F8 := eachLot_ok b R w.lots x5 n5 (lstE tillE w.tills ++ []) (by simp only [List.length_append, List.length_nil]; omega)
  have F9 := eachTill_ok b R w.tills x6 n6 [] (by simp)
  have F10 := Done_ok b R [] false
  have he : worldE w = intE w.now ++ (intE w.next ++ (intE w.minted ++ (lstE charE w.chars ++ (lstE thgE w.things ++ (lstE mobE w.mobs ++ (lstE hseE w.houses ++ (lstE lotE w.lots ++ (lstE tillE w.tills ++ [])))))))) := by
    simp only [worldE, List.flatMap_cons, List.flatMap_nil, List.append_nil, List.append_assoc]
  rw [he]
  refine go ?_
  refine ⟨?_, by simp⟩ <;> intros
  refine W.callr (by exact rfl) (by (focus ((repeat (first | exact Ent.done | with_reducible exact Ent.same | (apply Ent.take; (first | (focus (with_reducible iterate 40 first | done | exact .here | apply Find.there); done) | (focus (iterate 40 first | done | exact .here | apply Find.there); done))) | (apply Ent.emp (sl_emp _ _)) | apply Ent.drop)); first | done | fail))) rfl (by (first | exact Keep.nil | (focus ((repeat (first | exact Incl.nil | (apply Incl.cons; (focus (with_reducible iterate 40 first | done | exact .here | apply Find.there); done)))); first | done | fail)) | exact Keep.free rfl | (focus (apply Keep.incl; (repeat (first | exact Incl.nil | (apply Incl.cons; (focus (with_reducible iterate 40 first | done | exact .here | apply Find.there); done)))); first | done | fail)))) (L4) ?_
  rintro _ _ ⟨A1, c1, hs1, hl1, rfl, rfl⟩
  simp only [List.cons_append, List.nil_append]
  refine go ?_
  refine ⟨?_, by simp⟩ <;> intros
  refine W.callr (by exact rfl) (by (focus ((repeat (first | exact Ent.done | with_reducible exact Ent.same | (apply Ent.take; (first | (focus (with_reducible iterate 40 first | done | exact .here | apply Find.there); done) | (focus (iterate 40 first | done | exact .here | apply Find.there); done))) | (apply Ent.emp (sl_emp _ _)) | apply Ent.drop)); first | done | fail))) rfl (by (first | exact Keep.nil | (focus ((repeat (first | exact Incl.nil | (apply Incl.cons; (focus (with_reducible iterate 40 first | done | exact .here | apply Find.there); done)))); first | done | fail)) | exact Keep.free rfl | (focus (apply Keep.incl; (repeat (first | exact Incl.nil | (apply Incl.cons; (focus (with_reducible iterate 40 first | done | exact .here | apply Find.there); done)))); first | done | fail)))) (L7) ?_
  rintro _ _ ⟨A2, c2, hs2, hl2, rfl, rfl⟩
  simp only [List.cons_append, List.nil_append]
  refine go ?_
  refine ⟨?_, by simp⟩ <;> intros
  rename_i o A3 c3 A4 c4 A5 c5 A6 c6
  refine efoldw o ⟨A1, c1, A3, c3, A4, c4, A2, c2, A5, c5, A6, c6, hs1, hs2⟩ w ⟨hl1, hl2⟩ ?_
  exact ret2 ⟨o, _, rfl, rfl⟩
def evOk (k : Int) (nm tx : Tx) (dc : List Int) : Prop := OkI k ∧ nm.length ≤ 1000 ∧ tx.length ≤ 1000 ∧ (∀ n ∈ dc, OkI n) ∧ dc.length ≤ 1000
theorem ReadEvent_ok (k : Int) (nm tx : Tx) (dc : List Int) (hk : evOk k nm tx dc) (A : Option Addr) (c : Nat) (hc : (evE k nm tx dc).length ≤ c) (R : HProp) (hR : Reads R Enc.u8 A (evE k nm tx dc)) : Trip Try.prog 14 [.slice A (evE k nm tx dc).length c] [R]
    (fun v Ps => ∃ B m, v = .tuple #[evV k nm tx B dc.length m, .nilIface] ∧ Ps = [R, sl E64 3 B m dc]) := by
  refine Trip.of (m := 26) Try.func14 rfl rfl rfl ?_
  intro o Rs
  simp only [List.cons_append, List.nil_append, enumFrom]
  obtain ⟨k1, k2, k3, k4, k5⟩ := hk
  have t1 := textE_len tx
  have t2 := listE_len dc
  refine go ?_
  refine ⟨?_, by simp⟩ <;> intros
  rename_i e b
  refine W.one (by (focus (with_reducible iterate 40 first | done | exact .here | apply Find.there); done)) (fun st hst => rdx_close (d := b) (A := A) (c := c) (bad := false) hR hc hst) ?_
  have F1 := Int_ok b R k k1
  have F2 := Text_ok b R nm (textE tx ++ (listE dc ++ [])) k2 (by simp only [List.length_append, List.length_nil]; omega)
  have F3 := Text_ok b R tx (listE dc ++ []) k3 (by simp only [List.length_append, List.length_nil]; omega)
  have F4 := numbers_ok b R dc k4 k5 [] (by simp)
  have F5 := Done_ok b R [] false
  have he : evE k nm tx dc = intE k ++ (textE nm ++ (textE tx ++ (listE dc ++ []))) := by simp only [evE, List.append_assoc, List.append_nil]
  rw [he]
  refine go ?_
  refine ⟨?_, by simp⟩ <;> intros
  exact retca2 ⟨_, _, rfl, rfl⟩
end Go.Proofs.Ythejchmhjcfdiaa
