/-
  The document's reading of a line of a world's file: all kinds of lines.
-/
import Derived.Test.YtlibnpdbcjgegaaGreatMgC
namespace Go.Proofs.YtlibnpdbcjgegaaGreat
open Go.SL
set_option linter.unusedVariables false
set_option linter.unusedSimpArgs false
set_option maxHeartbeats 8000000
set_option maxRecDepth 20000
theorem Line_room (e : Nat) (mt : Tay) (t : Tab) (n : Nat) (hn : n ≤ 100000) (sz : Sz t n) (w : List Tx) (hwl : w.length ≤ 1000000) (hwe : ∀ x ∈ w, x.length ≤ 1000000) (A : Option Addr) (c : Nat) (hc : w.length ≤ c) (R : HProp) (hR : Reads R Enc.str A w) (h2 : ¬ w.length < 2) (hw0 : w[0]? = some [114, 111, 111, 109]) :
    Trip Tryz.prog 43 [.pointer (some ⟨e, 0, none⟩), .slice A w.length c] [tb e mt t, R] (fun v Ps => ∃ (b : Bool) (mt' : Tay) (t' : {t' : Tab // Sz t' (n + 1)}), v = .bool b ∧ Ps = [tb e mt' t'.1, R]) := by
  refine Trip.of (m := 365) Tryz.func43 rfl rfl rfl ?_
  intro o Rs
  simp only [List.cons_append, List.nil_append, enumFrom]
  haveI : Plan 11 [71] [0, 1, 2, 3, 4, 5] := ⟨⟩
  haveI : Plan 14 [92, 96] [0, 1, 2, 3, 4, 5, 6, 7, 8, 9, 10, 11, 12, 13, 14, 15, 16, 17] := ⟨⟩
  haveI : Plan 25 [172, 176] [0, 1, 2, 3, 4, 5, 6, 7, 8, 9, 10, 11, 12, 13, 14, 15, 16, 17, 18, 19] := ⟨⟩
  haveI : Plan 30 [228] [0, 1, 2, 3, 4, 5, 6, 7, 8, 9, 10, 11, 12, 13] := ⟨⟩
  haveI : Plan 48 [348] [0, 1, 2, 3, 4, 5, 6, 7, 8, 9, 10, 11, 12, 13, 14] := ⟨⟩
  obtain ⟨w1, hw1⟩ : ∃ x, w[1]? = some x := ⟨_, List.getElem?_eq_getElem (by omega)⟩
  obtain ⟨s1, s2, s3, s4, s5, s6, s7, s8, s9, s10, s11⟩ := sz
  have sz : Sz t n := ⟨s1, s2, s3, s4, s5, s6, s7, s8, s9, s10, s11⟩
  have F1 := num13_spec w1 1 1000
  have r1 := numM_rg w1
  have F2 := room13_spec e mt t n hn sz w hwl hwe A c hc R hR
  refine go ?_
  refine ⟨?_, by simp⟩ <;> intros
  rename_i b mt' t'
  exact ret1 ⟨b, mt', t', rfl, rfl⟩
theorem Line_item (e : Nat) (mt : Tay) (t : Tab) (n : Nat) (hn : n ≤ 100000) (sz : Sz t n) (w : List Tx) (hwl : w.length ≤ 1000000) (hwe : ∀ x ∈ w, x.length ≤ 1000000) (A : Option Addr) (c : Nat) (hc : w.length ≤ c) (R : HProp) (hR : Reads R Enc.str A w) (h2 : ¬ w.length < 2) (hw0 : w[0]? = some [105, 116, 101, 109]) :
    Trip Tryz.prog 43 [.pointer (some ⟨e, 0, none⟩), .slice A w.length c] [tb e mt t, R] (fun v Ps => ∃ (b : Bool) (mt' : Tay) (t' : {t' : Tab // Sz t' (n + 1)}), v = .bool b ∧ Ps = [tb e mt' t'.1, R]) := by
  refine Trip.of (m := 365) Tryz.func43 rfl rfl rfl ?_
  intro o Rs
  simp only [List.cons_append, List.nil_append, enumFrom]
  haveI : Plan 11 [71] [0, 1, 2, 3, 4, 5] := ⟨⟩
  haveI : Plan 14 [92, 96] [0, 1, 2, 3, 4, 5, 6, 7, 8, 9, 10, 11, 12, 13, 14, 15, 16, 17] := ⟨⟩
  haveI : Plan 25 [172, 176] [0, 1, 2, 3, 4, 5, 6, 7, 8, 9, 10, 11, 12, 13, 14, 15, 16, 17, 18, 19] := ⟨⟩
  haveI : Plan 30 [228] [0, 1, 2, 3, 4, 5, 6, 7, 8, 9, 10, 11, 12, 13] := ⟨⟩
  haveI : Plan 48 [348] [0, 1, 2, 3, 4, 5, 6, 7, 8, 9, 10, 11, 12, 13, 14] := ⟨⟩
  obtain ⟨w1, hw1⟩ : ∃ x, w[1]? = some x := ⟨_, List.getElem?_eq_getElem (by omega)⟩
  obtain ⟨s1, s2, s3, s4, s5, s6, s7, s8, s9, s10, s11⟩ := sz
  have sz : Sz t n := ⟨s1, s2, s3, s4, s5, s6, s7, s8, s9, s10, s11⟩
  have F1 := num13_spec w1 1 1000
  have r1 := numM_rg w1
  by_cases h6 : w.length = 6
  case neg =>
    refine go ?_
    refine ⟨?_, by simp⟩ <;> intros
    exact ret1 ⟨false, mt, ⟨t, sz.up⟩, rfl, rfl⟩
  obtain ⟨w2, hw2⟩ : ∃ x, w[2]? = some x := ⟨_, List.getElem?_eq_getElem (by omega)⟩
  obtain ⟨w3, hw3⟩ : ∃ x, w[3]? = some x := ⟨_, List.getElem?_eq_getElem (by omega)⟩
  obtain ⟨w4, hw4⟩ : ∃ x, w[4]? = some x := ⟨_, List.getElem?_eq_getElem (by omega)⟩
  obtain ⟨w5, hw5⟩ : ∃ x, w[5]? = some x := ⟨_, List.getElem?_eq_getElem (by omega)⟩
  have hl2 := hwe w2 (List.mem_of_getElem? hw2)
  have F2 := num13_spec w4 0 100
  have F3 := num13_spec w5 0 1073741824
  have F4 := RefWord_spec w2 (by omega)
  have F5 := Slots_spec
  have r4 := numM_rg w4
  have r5 := numM_rg w5
  refine copent (d := e) (m := mt) (t := t) fun lt => ?_
  simp only [List.cons_append, List.nil_append]
  generalize numM w1 = q1 at *
  generalize numM w4 = q4 at *
  generalize numM w5 = q5 at *
  refine go ?_
  refine ⟨?_, by simp⟩ <;> intros
  rename_i g
  have F6 := word13_spec w3 slotsT (some ⟨g, 0, none⟩) 3 (by decide) (sl Enc.str 9 (some ⟨g, 0, none⟩) 3 slotsT) reads_sl
  refine go ?_
  (repeat' (first | exact trivial | apply And.intro | intro _))
  all_goals (
    rename Option Addr => A'
    rename Nat => c'
    rename Int => k3
    refine efoldt e { mt with prA := A', prC := c' } { t with protos := t.protos ++ [⟨q1.1, w2, k3, q4.1, q5.1⟩] } lt ?_
    refine ret1 (v := .bool ?_) (Ps := [tb e { mt with prA := A', prC := c' } { t with protos := t.protos ++ [⟨q1.1, w2, k3, q4.1, q5.1⟩] }, R]) ⟨_, _, ⟨{ t with protos := t.protos ++ [⟨q1.1, w2, k3, q4.1, q5.1⟩] }, sz.proto _ hl2⟩, rfl, rfl⟩)
theorem Line_mob (e : Nat) (mt : Tay) (t : Tab) (n : Nat) (hn : n ≤ 100000) (sz : Sz t n) (w : List Tx) (hwl : w.length ≤ 1000000) (hwe : ∀ x ∈ w, x.length ≤ 1000000) (A : Option Addr) (c : Nat) (hc : w.length ≤ c) (R : HProp) (hR : Reads R Enc.str A w) (h2 : ¬ w.length < 2) (hw0 : w[0]? = some [109, 111, 98]) :
    Trip Tryz.prog 43 [.pointer (some ⟨e, 0, none⟩), .slice A w.length c] [tb e mt t, R] (fun v Ps => ∃ (b : Bool) (mt' : Tay) (t' : {t' : Tab // Sz t' (n + 1)}), v = .bool b ∧ Ps = [tb e mt' t'.1, R]) := by
  refine Trip.of (m := 365) Tryz.func43 rfl rfl rfl ?_
  intro o Rs
  simp only [List.cons_append, List.nil_append, enumFrom]
  haveI : Plan 11 [71] [0, 1, 2, 3, 4, 5] := ⟨⟩
  haveI : Plan 14 [92, 96] [0, 1, 2, 3, 4, 5, 6, 7, 8, 9, 10, 11, 12, 13, 14, 15, 16, 17] := ⟨⟩
  haveI : Plan 25 [172, 176] [0, 1, 2, 3, 4, 5, 6, 7, 8, 9, 10, 11, 12, 13, 14, 15, 16, 17, 18, 19] := ⟨⟩
  haveI : Plan 30 [228] [0, 1, 2, 3, 4, 5, 6, 7, 8, 9, 10, 11, 12, 13] := ⟨⟩
  haveI : Plan 48 [348] [0, 1, 2, 3, 4, 5, 6, 7, 8, 9, 10, 11, 12, 13, 14] := ⟨⟩
  obtain ⟨w1, hw1⟩ : ∃ x, w[1]? = some x := ⟨_, List.getElem?_eq_getElem (by omega)⟩
  obtain ⟨s1, s2, s3, s4, s5, s6, s7, s8, s9, s10, s11⟩ := sz
  have sz : Sz t n := ⟨s1, s2, s3, s4, s5, s6, s7, s8, s9, s10, s11⟩
  have F1 := num13_spec w1 1 1000
  have r1 := numM_rg w1
  by_cases h6 : w.length = 8
  case neg =>
    refine go ?_
    refine ⟨?_, by simp⟩ <;> intros
    exact ret1 ⟨false, mt, ⟨t, sz.up⟩, rfl, rfl⟩
  obtain ⟨w2, hw2⟩ : ∃ x, w[2]? = some x := ⟨_, List.getElem?_eq_getElem (by omega)⟩
  obtain ⟨w3, hw3⟩ : ∃ x, w[3]? = some x := ⟨_, List.getElem?_eq_getElem (by omega)⟩
  obtain ⟨w4, hw4⟩ : ∃ x, w[4]? = some x := ⟨_, List.getElem?_eq_getElem (by omega)⟩
  obtain ⟨w5, hw5⟩ : ∃ x, w[5]? = some x := ⟨_, List.getElem?_eq_getElem (by omega)⟩
  obtain ⟨w6, hw6⟩ : ∃ x, w[6]? = some x := ⟨_, List.getElem?_eq_getElem (by omega)⟩
  obtain ⟨w7, hw7⟩ : ∃ x, w[7]? = some x := ⟨_, List.getElem?_eq_getElem (by omega)⟩
  have hl2 := hwe w2 (List.mem_of_getElem? hw2)
  have F2 := num13_spec w3 1 1000
  have F3 := num13_spec w4 1 10000
  have F4 := num13_spec w5 0 100
  have F5 := num13_spec w6 0 10000
  have F6 := num13_spec w7 0 1073741824
  have F7 := RefWord_spec w2 (by omega)
  have r3 := numM_rg w3
  have r4 := numM_rg w4
  have r5 := numM_rg w5
  have r6 := numM_rg w6
  have r7 := numM_rg w7
  generalize numM w1 = q1 at *
  generalize numM w3 = q3 at *
  generalize numM w4 = q4 at *
  generalize numM w5 = q5 at *
  generalize numM w6 = q6 at *
  generalize numM w7 = q7 at *
  refine copent (d := e) (m := mt) (t := t) fun lt => ?_
  simp only [List.cons_append, List.nil_append]
  refine go ?_
  (repeat' (first | exact trivial | apply And.intro | intro _))
  all_goals (
    rename Option Addr => A'
    rename Nat => c'
    refine efoldt e { mt with moA := A', moC := c' } { t with mobs := t.mobs ++ [⟨q1.1, w2, q3.1, q4.1, q5.1, q6.1, q7.1⟩] } lt ?_
    refine ret1 (v := .bool ?_) (Ps := [tb e { mt with moA := A', moC := c' } { t with mobs := t.mobs ++ [⟨q1.1, w2, q3.1, q4.1, q5.1, q6.1, q7.1⟩] }, R]) ⟨_, _, ⟨{ t with mobs := t.mobs ++ [⟨q1.1, w2, q3.1, q4.1, q5.1, q6.1, q7.1⟩] }, sz.mob _ hl2⟩, rfl, rfl⟩)
theorem Line_recipe (e : Nat) (mt : Tay) (t : Tab) (n : Nat) (hn : n ≤ 100000) (sz : Sz t n) (w : List Tx) (hwl : w.length ≤ 1000000) (hwe : ∀ x ∈ w, x.length ≤ 1000000) (A : Option Addr) (c : Nat) (hc : w.length ≤ c) (R : HProp) (hR : Reads R Enc.str A w) (h2 : ¬ w.length < 2) (hw0 : w[0]? = some [114, 101, 99, 105, 112, 101]) :
    Trip Tryz.prog 43 [.pointer (some ⟨e, 0, none⟩), .slice A w.length c] [tb e mt t, R] (fun v Ps => ∃ (b : Bool) (mt' : Tay) (t' : {t' : Tab // Sz t' (n + 1)}), v = .bool b ∧ Ps = [tb e mt' t'.1, R]) := by
  refine Trip.of (m := 365) Tryz.func43 rfl rfl rfl ?_
  intro o Rs
  simp only [List.cons_append, List.nil_append, enumFrom]
  haveI : Plan 11 [71] [0, 1, 2, 3, 4, 5] := ⟨⟩
  haveI : Plan 14 [92, 96] [0, 1, 2, 3, 4, 5, 6, 7, 8, 9, 10, 11, 12, 13, 14, 15, 16, 17] := ⟨⟩
  haveI : Plan 25 [172, 176] [0, 1, 2, 3, 4, 5, 6, 7, 8, 9, 10, 11, 12, 13, 14, 15, 16, 17, 18, 19] := ⟨⟩
  haveI : Plan 30 [228] [0, 1, 2, 3, 4, 5, 6, 7, 8, 9, 10, 11, 12, 13] := ⟨⟩
  haveI : Plan 48 [348] [0, 1, 2, 3, 4, 5, 6, 7, 8, 9, 10, 11, 12, 13, 14] := ⟨⟩
  obtain ⟨w1, hw1⟩ : ∃ x, w[1]? = some x := ⟨_, List.getElem?_eq_getElem (by omega)⟩
  obtain ⟨s1, s2, s3, s4, s5, s6, s7, s8, s9, s10, s11⟩ := sz
  have sz : Sz t n := ⟨s1, s2, s3, s4, s5, s6, s7, s8, s9, s10, s11⟩
  have F1 := num13_spec w1 1 1000
  have r1 := numM_rg w1
  have hzr : (t.recipes.zip mt.nd).length ≤ n := Nat.le_trans (by rw [List.length_zip]; exact Nat.min_le_left _ _) s4
  generalize numM w1 = q1 at *
  refine copent (d := e) (m := mt) (t := t) fun lt => ?_
  simp only [List.cons_append, List.nil_append]
  have zr : t.recipes.length = (t.recipes.zip mt.nd).length := by rw [List.length_zip, lt.1, Nat.min_self]
  refine go ?_
  refine ⟨?_, by simp⟩ <;> intros
  refine W.slice_ro (En := Enc.str) (R := R) (l := w) (a := 2) (b := (w.length : Int)) (ka := .i64) (kb := .i64) (by exact rfl) (.inr ⟨_, rfl, by exact rfl⟩) (.inl ⟨rfl, rfl⟩) hR hc (by decide) (by omega) (by omega) rfl fun A1 c1 hc1 hR1 => ?_
  have e1 : (w.drop (2 : Int).toNat).take ((w.length : Int).toNat - (2 : Int).toNat) = w.drop 2 := List.take_of_length_le (by rw [List.length_drop]; omega)
  rw [e1] at hc1 hR1 ⊢
  have hl5 : (w.drop 2).length ≤ 1000000 := by rw [List.length_drop]; omega
  clear hc1 e1
  generalize w.drop 2 = wd at *
  have F2 := nums_spec wd A1 c1 1 1000 hl5 R hR1
  refine gow ?_
  (repeat' (first | exact trivial | apply And.intro | intro _))
  rename_i x B c2
  have hxl := Nat.le_trans x.2.1 hl5
  refine go ?_
  refine ⟨?_, by simp⟩ <;> intros
  refine cal (sorted_spec x.1.1 B c2 hxl (sl E64 3 B c2 x.1.1) reads_sl) ?_
  rintro _ _ ⟨y, B', c3, rfl, rfl⟩
  simp only [List.cons_append, List.nil_append]
  refine go ?_
  (repeat' (first | exact trivial | apply And.intro | intro _))
  all_goals (
    rename Option Addr => A'
    rename Nat => c'
    refine E.two (A := sl E64 3 B' c3 y.1) (B := nest E64 3 (ndL t mt)) (by (focus (with_reducible iterate 40 first | done | exact .here | apply Find.there); done)) (by (focus (with_reducible iterate 40 first | done | exact .here | apply Find.there); done)) (fun st hst => nest_snoc (p := (y.1, (B', c3))) hst) ?_
    refine efoldt e { mt with reA := A', reC := c', nd := mt.nd ++ [(B', c3)] } { t with recipes := t.recipes ++ [⟨q1.1, y.1⟩] } ⟨by simp only [List.length_append, lt.1]; rfl, lt.2⟩ ?_ (he := by simp only [tabC, ndL, itL, List.zip_append lt.1.symm, List.map_append, List.length_append, List.length_zip, lt.1, Nat.min_self]; (focus ((repeat (first | exact Ent.done | with_reducible exact Ent.same | (apply Ent.take; (first | (focus (with_reducible iterate 40 first | done | exact .here | apply Find.there); done) | (focus (iterate 40 first | done | exact .here | apply Find.there); done))) | (apply Ent.emp (sl_emp _ _)) | apply Ent.drop)); first | done | fail)))
    refine ret1 (v := .bool ?_) (Ps := [tb e { mt with reA := A', reC := c', nd := mt.nd ++ [(B', c3)] } { t with recipes := t.recipes ++ [⟨q1.1, y.1⟩] }, R]) ⟨_, _, ⟨{ t with recipes := t.recipes ++ [⟨q1.1, y.1⟩] }, sz.rcp _ (by show y.1.length ≤ _; rw [y.2]; exact hxl)⟩, rfl, rfl⟩)
theorem Line_quest (e : Nat) (mt : Tay) (t : Tab) (n : Nat) (hn : n ≤ 100000) (sz : Sz t n) (w : List Tx) (hwl : w.length ≤ 1000000) (hwe : ∀ x ∈ w, x.length ≤ 1000000) (A : Option Addr) (c : Nat) (hc : w.length ≤ c) (R : HProp) (hR : Reads R Enc.str A w) (h2 : ¬ w.length < 2) (hw0 : w[0]? = some [113, 117, 101, 115, 116]) :
    Trip Tryz.prog 43 [.pointer (some ⟨e, 0, none⟩), .slice A w.length c] [tb e mt t, R] (fun v Ps => ∃ (b : Bool) (mt' : Tay) (t' : {t' : Tab // Sz t' (n + 1)}), v = .bool b ∧ Ps = [tb e mt' t'.1, R]) := by
  refine Trip.of (m := 365) Tryz.func43 rfl rfl rfl ?_
  intro o Rs
  simp only [List.cons_append, List.nil_append, enumFrom]
  haveI : Plan 11 [71] [0, 1, 2, 3, 4, 5] := ⟨⟩
  haveI : Plan 14 [92, 96] [0, 1, 2, 3, 4, 5, 6, 7, 8, 9, 10, 11, 12, 13, 14, 15, 16, 17] := ⟨⟩
  haveI : Plan 25 [172, 176] [0, 1, 2, 3, 4, 5, 6, 7, 8, 9, 10, 11, 12, 13, 14, 15, 16, 17, 18, 19] := ⟨⟩
  haveI : Plan 30 [228] [0, 1, 2, 3, 4, 5, 6, 7, 8, 9, 10, 11, 12, 13] := ⟨⟩
  haveI : Plan 48 [348] [0, 1, 2, 3, 4, 5, 6, 7, 8, 9, 10, 11, 12, 13, 14] := ⟨⟩
  obtain ⟨w1, hw1⟩ : ∃ x, w[1]? = some x := ⟨_, List.getElem?_eq_getElem (by omega)⟩
  obtain ⟨s1, s2, s3, s4, s5, s6, s7, s8, s9, s10, s11⟩ := sz
  have sz : Sz t n := ⟨s1, s2, s3, s4, s5, s6, s7, s8, s9, s10, s11⟩
  have F1 := num13_spec w1 1 1000
  have r1 := numM_rg w1
  by_cases h6 : w.length = 6
  case neg =>
    refine go ?_
    refine ⟨?_, by simp⟩ <;> intros
    exact ret1 ⟨false, mt, ⟨t, sz.up⟩, rfl, rfl⟩
  obtain ⟨w2, hw2⟩ : ∃ x, w[2]? = some x := ⟨_, List.getElem?_eq_getElem (by omega)⟩
  obtain ⟨w3, hw3⟩ : ∃ x, w[3]? = some x := ⟨_, List.getElem?_eq_getElem (by omega)⟩
  obtain ⟨w4, hw4⟩ : ∃ x, w[4]? = some x := ⟨_, List.getElem?_eq_getElem (by omega)⟩
  obtain ⟨w5, hw5⟩ : ∃ x, w[5]? = some x := ⟨_, List.getElem?_eq_getElem (by omega)⟩
  have F2 := num13_spec w2 1 1000
  have F3 := num13_spec w3 1 5
  have F4 := num13_spec w4 0 1073741824
  have F5 := num13_spec w5 0 1000
  have r2 := numM_rg w2
  have r3 := numM_rg w3
  have r4 := numM_rg w4
  have r5 := numM_rg w5
  generalize numR w1 1 1000 = o1 at *
  generalize numR w2 1 1000 = o2 at *
  generalize numR w3 1 5 = o3 at *
  generalize numR w4 0 1073741824 = o4 at *
  generalize numR w5 0 1000 = o5 at *
  generalize numM w1 = q1 at *
  generalize numM w2 = q2 at *
  generalize numM w3 = q3 at *
  generalize numM w4 = q4 at *
  generalize numM w5 = q5 at *
  refine copent (d := e) (m := mt) (t := t) fun lt => ?_
  simp only [List.cons_append, List.nil_append]
  refine go ?_
  (repeat' (first | exact trivial | apply And.intro | intro _))
  all_goals (
    rename Option Addr => A'
    rename Nat => c'
    refine efoldt e { mt with quA := A', quC := c' } { t with quests := t.quests ++ [⟨q1.1, q2.1, q3.1, q4.1, q5.1⟩] } lt ?_
    refine ret1 (v := .bool ?_) (Ps := [tb e { mt with quA := A', quC := c' } { t with quests := t.quests ++ [⟨q1.1, q2.1, q3.1, q4.1, q5.1⟩] }, R]) ⟨_, _, ⟨{ t with quests := t.quests ++ [⟨q1.1, q2.1, q3.1, q4.1, q5.1⟩] }, sz.qst _⟩, rfl, rfl⟩)
theorem Line_shop (e : Nat) (mt : Tay) (t : Tab) (n : Nat) (hn : n ≤ 100000) (sz : Sz t n) (w : List Tx) (hwl : w.length ≤ 1000000) (hwe : ∀ x ∈ w, x.length ≤ 1000000) (A : Option Addr) (c : Nat) (hc : w.length ≤ c) (R : HProp) (hR : Reads R Enc.str A w) (h2 : ¬ w.length < 2) (hw0 : w[0]? = some [115, 104, 111, 112]) :
    Trip Tryz.prog 43 [.pointer (some ⟨e, 0, none⟩), .slice A w.length c] [tb e mt t, R] (fun v Ps => ∃ (b : Bool) (mt' : Tay) (t' : {t' : Tab // Sz t' (n + 1)}), v = .bool b ∧ Ps = [tb e mt' t'.1, R]) := by
  refine Trip.of (m := 365) Tryz.func43 rfl rfl rfl ?_
  intro o Rs
  simp only [List.cons_append, List.nil_append, enumFrom]
  haveI : Plan 11 [71] [0, 1, 2, 3, 4, 5] := ⟨⟩
  haveI : Plan 14 [92, 96] [0, 1, 2, 3, 4, 5, 6, 7, 8, 9, 10, 11, 12, 13, 14, 15, 16, 17] := ⟨⟩
  haveI : Plan 25 [172, 176] [0, 1, 2, 3, 4, 5, 6, 7, 8, 9, 10, 11, 12, 13, 14, 15, 16, 17, 18, 19] := ⟨⟩
  haveI : Plan 30 [228] [0, 1, 2, 3, 4, 5, 6, 7, 8, 9, 10, 11, 12, 13] := ⟨⟩
  haveI : Plan 48 [348] [0, 1, 2, 3, 4, 5, 6, 7, 8, 9, 10, 11, 12, 13, 14] := ⟨⟩
  obtain ⟨w1, hw1⟩ : ∃ x, w[1]? = some x := ⟨_, List.getElem?_eq_getElem (by omega)⟩
  obtain ⟨s1, s2, s3, s4, s5, s6, s7, s8, s9, s10, s11⟩ := sz
  have sz : Sz t n := ⟨s1, s2, s3, s4, s5, s6, s7, s8, s9, s10, s11⟩
  have F1 := num13_spec w1 1 1000
  have r1 := numM_rg w1
  by_cases h3 : w.length < 3
  · refine go ?_
    refine ⟨?_, by simp⟩ <;> intros
    exact ret1 ⟨false, mt, ⟨t, sz.up⟩, rfl, rfl⟩
  by_cases h11 : 11 < w.length
  · refine go ?_
    refine ⟨?_, by simp⟩ <;> intros
    exact ret1 ⟨false, mt, ⟨t, sz.up⟩, rfl, rfl⟩
  obtain ⟨w2, hw2⟩ : ∃ x, w[2]? = some x := ⟨_, List.getElem?_eq_getElem (by omega)⟩
  have F2 := num13_spec w2 0 1073741824
  have r2 := numM_rg w2
  have hzs : (t.shops.zip mt.it).length ≤ n := Nat.le_trans (by rw [List.length_zip]; exact Nat.min_le_left _ _) s6
  generalize numM w1 = q1 at *
  generalize numM w2 = q2 at *
  refine copent (d := e) (m := mt) (t := t) fun lt => ?_
  simp only [List.cons_append, List.nil_append]
  have zs : t.shops.length = (t.shops.zip mt.it).length := by rw [List.length_zip, lt.2, Nat.min_self]
  refine go ?_
  refine ⟨?_, by simp⟩ <;> intros
  refine W.slice_ro (En := Enc.str) (R := R) (l := w) (a := 3) (b := (w.length : Int)) (ka := .i64) (kb := .i64) (by exact rfl) (.inr ⟨_, rfl, by exact rfl⟩) (.inl ⟨rfl, rfl⟩) hR hc (by decide) (by omega) (by omega) rfl fun A1 c1 hc1 hR1 => ?_
  have e1 : (w.drop (3 : Int).toNat).take ((w.length : Int).toNat - (3 : Int).toNat) = w.drop 3 := List.take_of_length_le (by rw [List.length_drop]; omega)
  rw [e1] at hc1 hR1 ⊢
  have hl5 : (w.drop 3).length ≤ 1000000 := by rw [List.length_drop]; omega
  clear hc1 e1
  generalize w.drop 3 = wd at *
  have F3 := nums_spec wd A1 c1 1 1000 hl5 R hR1
  refine gow ?_
  (repeat' (first | exact trivial | apply And.intro | intro _))
  rename_i x B c2
  have hxl := Nat.le_trans x.2.1 hl5
  refine go ?_
  refine ⟨?_, by simp⟩ <;> intros
  refine cal (sorted_spec x.1.1 B c2 hxl (sl E64 3 B c2 x.1.1) reads_sl) ?_
  rintro _ _ ⟨y, B', c3, rfl, rfl⟩
  simp only [List.cons_append, List.nil_append]
  refine go ?_
  (repeat' (first | exact trivial | apply And.intro | intro _))
  all_goals (
    rename Option Addr => A'
    rename Nat => c'
    refine E.two (A := sl E64 3 B' c3 y.1) (B := nest E64 3 (itL t mt)) (by (focus (with_reducible iterate 40 first | done | exact .here | apply Find.there); done)) (by (focus (with_reducible iterate 40 first | done | exact .here | apply Find.there); done)) (fun st hst => nest_snoc (p := (y.1, (B', c3))) hst) ?_
    refine efoldt e { mt with shA := A', shC := c', it := mt.it ++ [(B', c3)] } { t with shops := t.shops ++ [⟨q1.1, q2.1, y.1⟩] } ⟨lt.1, by simp only [List.length_append, lt.2]; rfl⟩ ?_ (he := by simp only [tabC, ndL, itL, List.zip_append lt.2.symm, List.map_append, List.length_append, List.length_zip, lt.2, Nat.min_self]; (focus ((repeat (first | exact Ent.done | with_reducible exact Ent.same | (apply Ent.take; (first | (focus (with_reducible iterate 40 first | done | exact .here | apply Find.there); done) | (focus (iterate 40 first | done | exact .here | apply Find.there); done))) | (apply Ent.emp (sl_emp _ _)) | apply Ent.drop)); first | done | fail)))
    refine ret1 (v := .bool ?_) (Ps := [tb e { mt with shA := A', shC := c', it := mt.it ++ [(B', c3)] } { t with shops := t.shops ++ [⟨q1.1, q2.1, y.1⟩] }, R]) ⟨_, _, ⟨{ t with shops := t.shops ++ [⟨q1.1, q2.1, y.1⟩] }, sz.shp _ (by show y.1.length ≤ _; rw [y.2]; exact hxl)⟩, rfl, rfl⟩)
theorem Line_spec (e : Nat) (mt : Tay) (t : Tab) (n : Nat) (hn : n ≤ 100000) (sz : Sz t n) (w : List Tx) (hwl : w.length ≤ 1000000) (hwe : ∀ x ∈ w, x.length ≤ 1000000) (A : Option Addr) (c : Nat) (hc : w.length ≤ c) (R : HProp) (hR : Reads R Enc.str A w) :
    Trip Tryz.prog 43 [.pointer (some ⟨e, 0, none⟩), .slice A w.length c] [tb e mt t, R] (fun v Ps => ∃ (b : Bool) (mt' : Tay) (t' : {t' : Tab // Sz t' (n + 1)}), v = .bool b ∧ Ps = [tb e mt' t'.1, R]) := by
  by_cases h2 : w.length < 2
  · skip
    refine Trip.of (m := 365) Tryz.func43 rfl rfl rfl ?_
    intro o Rs
    simp only [List.cons_append, List.nil_append, enumFrom]
    haveI : Plan 11 [71] [0, 1, 2, 3, 4, 5] := ⟨⟩
    haveI : Plan 14 [92, 96] [0, 1, 2, 3, 4, 5, 6, 7, 8, 9, 10, 11, 12, 13, 14, 15, 16, 17] := ⟨⟩
    haveI : Plan 25 [172, 176] [0, 1, 2, 3, 4, 5, 6, 7, 8, 9, 10, 11, 12, 13, 14, 15, 16, 17, 18, 19] := ⟨⟩
    haveI : Plan 30 [228] [0, 1, 2, 3, 4, 5, 6, 7, 8, 9, 10, 11, 12, 13] := ⟨⟩
    haveI : Plan 48 [348] [0, 1, 2, 3, 4, 5, 6, 7, 8, 9, 10, 11, 12, 13, 14] := ⟨⟩
    refine go ?_
    refine ⟨?_, by simp⟩ <;> intros
    exact ret1 ⟨false, mt, ⟨t, sz.up⟩, rfl, rfl⟩
  obtain ⟨w0, hw0⟩ : ∃ x, w[0]? = some x := ⟨_, List.getElem?_eq_getElem (by omega)⟩
  by_cases k0 : w0 = [114, 111, 111, 109]
  · subst k0; exact Line_room e mt t n hn sz w hwl hwe A c hc R hR h2 hw0
  by_cases k1 : w0 = [105, 116, 101, 109]
  · subst k1; exact Line_item e mt t n hn sz w hwl hwe A c hc R hR h2 hw0
  by_cases k2 : w0 = [109, 111, 98]
  · subst k2; exact Line_mob e mt t n hn sz w hwl hwe A c hc R hR h2 hw0
  by_cases k3 : w0 = [114, 101, 99, 105, 112, 101]
  · subst k3; exact Line_recipe e mt t n hn sz w hwl hwe A c hc R hR h2 hw0
  by_cases k4 : w0 = [113, 117, 101, 115, 116]
  · subst k4; exact Line_quest e mt t n hn sz w hwl hwe A c hc R hR h2 hw0
  by_cases k5 : w0 = [115, 104, 111, 112]
  · subst k5; exact Line_shop e mt t n hn sz w hwl hwe A c hc R hR h2 hw0
  refine Trip.of (m := 365) Tryz.func43 rfl rfl rfl ?_
  intro o Rs
  simp only [List.cons_append, List.nil_append, enumFrom]
  haveI : Plan 11 [71] [0, 1, 2, 3, 4, 5] := ⟨⟩
  haveI : Plan 14 [92, 96] [0, 1, 2, 3, 4, 5, 6, 7, 8, 9, 10, 11, 12, 13, 14, 15, 16, 17] := ⟨⟩
  haveI : Plan 25 [172, 176] [0, 1, 2, 3, 4, 5, 6, 7, 8, 9, 10, 11, 12, 13, 14, 15, 16, 17, 18, 19] := ⟨⟩
  haveI : Plan 30 [228] [0, 1, 2, 3, 4, 5, 6, 7, 8, 9, 10, 11, 12, 13] := ⟨⟩
  haveI : Plan 48 [348] [0, 1, 2, 3, 4, 5, 6, 7, 8, 9, 10, 11, 12, 13, 14] := ⟨⟩
  have n0 : ¬ (w0 == [114, 111, 111, 109]) = true := by simpa using k0
  have n1 : ¬ (w0 == [105, 116, 101, 109]) = true := by simpa using k1
  have n2 : ¬ (w0 == [109, 111, 98]) = true := by simpa using k2
  have n3 : ¬ (w0 == [114, 101, 99, 105, 112, 101]) = true := by simpa using k3
  have n4 : ¬ (w0 == [113, 117, 101, 115, 116]) = true := by simpa using k4
  have n5 : ¬ (w0 == [115, 104, 111, 112]) = true := by simpa using k5

  refine go ?_
  (repeat' (first | exact trivial | apply And.intro | intro _))
  all_goals first
    | (exfalso; first | exact k0 (by assumption) | exact k1 (by assumption) | exact k2 (by assumption) | exact k3 (by assumption) | exact k4 (by assumption) | exact k5 (by assumption) | exact n0 (by assumption) | exact n1 (by assumption) | exact n2 (by assumption) | exact n3 (by assumption) | exact n4 (by assumption) | exact n5 (by assumption))
    | (show E _ _ _ _ _ _; exact ret1 ⟨false, mt, ⟨t, sz.up⟩, rfl, rfl⟩)
end Go.Proofs.YtlibnpdbcjgegaaGreat
