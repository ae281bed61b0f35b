/-
  The document: a new world.
-/
import Derived.Test.YtlibnpdbcjgegaaGreatWdOn
import Derived.Test.YtlibnpdbcjgegaaGreatWdNewP
namespace Go.Proofs.YtlibnpdbcjgegaaGreat
open Go.SL
set_option linter.unusedVariables false
set_option linter.unusedSimpArgs false
set_option maxHeartbeats 8000000
set_option maxRecDepth 20000
section
variable (e : Nat) (mt : Tay) (tab : Tab)
theorem New_spec (bt : Bt tab) (lt : TLaid mt tab) (hl : ∀ s ∈ tab.shops, 0 ≤ s.till ∧ s.till ≤ 1099511627776) (R : HProp) [hr : RT R e mt tab] : Trip Tryz.prog 12 [.pointer (some ⟨e, 0, none⟩)] [R] (fun v Ps => ∃ d m, v = .pointer (some ⟨d, 0, none⟩) ∧ Ps = [R, wl d m (newW tab)]) := by
  refine Trip.of (m := 103) Tryz.func12 rfl rfl rfl ?_
  intro o Rs
  simp only [List.cons_append, List.nil_append, enumFrom]
  haveI : Plan 6 [29, 33, 35, 37, 39] [0, 1, 2, 3, 4, 5, 6, 7, 8, 9, 10, 11, 12, 13, 14, 15, 16, 17, 18, 19, 20] := ⟨⟩
  haveI : Plan 11 [65, 69, 73, 77, 81] [0, 1, 2, 3, 4, 5, 6, 7, 8, 9, 10, 11, 12, 13, 14, 15, 16, 17, 18, 19, 20, 21, 22, 23, 24, 25, 26] := ⟨⟩
  haveI : Plan 12 [90, 94, 98, 99] [0, 1, 2, 3, 4, 5, 6, 7, 8, 9, 10, 11, 12, 13, 14, 15] := ⟨⟩
  have b1 := bt.nm
  have b2 := bt.ns
  have zs : tab.shops.length = (tab.shops.zip mt.it).length := by rw [List.length_zip, lt.2, Nat.min_self]
  refine go ?_
  refine ⟨?_, by simp⟩ <;> intros
  rename_i o0
  refine C.turn (fun st hst => nest_nil (E := E64) (e := 3) (nest_nil (E := Enc.str) (e := 9) hst)) ?_
  refine loop (σ := Nat × PA) (fun x => x.1 ≤ tab.mobs.length) (fun x => [(0, .pointer (some ⟨e, 0, none⟩)), (3, .pointer (some ⟨o0, 0, none⟩)), (4, .int .i64 (x.1 : Int))])
    (fun x => blk o0 55 [.int .i64 0, .int .i64 ((x.1 : Int) + 1), .int .i64 0, .slice none 0 0, .slice none 0 0, .slice x.2.1 (newM (tab.mobs.take x.1)).length x.2.2, .slice none 0 0, .slice none 0 0, .slice none 0 0] :: sl Em 79 x.2.1 x.2.2 (newM (tab.mobs.take x.1)) :: R :: nest E64 3 [] :: nest Enc.str 9 [] :: Rs) (fun x => tab.mobs.length - x.1) (0, none, 0) (Nat.zero_le _) ?_
  rintro ⟨k, A, c⟩ hk
  simp only at hk ⊢
  by_cases hk2 : k < tab.mobs.length
  · obtain ⟨x, hx⟩ : ∃ x, tab.mobs[k]? = some x := ⟨_, List.getElem?_eq_getElem hk2⟩
    have hst := newM_step hx
    have hln : (newM (tab.mobs.take k)).length ≤ 100000 := by rw [newM_len, List.length_take]; omega
    generalize newM (tab.mobs.take k) = Lk at *
    refine go ?_
    refine ⟨?_, by simp⟩ <;> intros
    rename_i A' c'
    exact rnd (k + 1, A', c') hk2 (by simp only; omega) (hh := by simp only; rw [hst, show (((k + 1 : Nat)) : Int) = (k : Int) + 1 from rfl]; (focus ((repeat (first | exact Ent.done | with_reducible exact Ent.same | (apply Ent.take; (first | (focus (with_reducible iterate 40 first | done | exact .here | apply Find.there); done) | (focus (iterate 40 first | done | exact .here | apply Find.there); done))) | (apply Ent.emp (sl_emp _ _)) | apply Ent.drop)); first | done | fail)))
  rw [List.take_of_length_le (by omega)]
  have hk3 : k = tab.mobs.length := by omega
  subst hk3
  have hln : (newM tab.mobs).length = tab.mobs.length := newM_len _
  refine go ?_
  refine ⟨?_, by simp⟩ <;> intros
  refine loop (σ := Nat × PA) (fun x => x.1 ≤ tab.shops.length) (fun x => [(0, .pointer (some ⟨e, 0, none⟩)), (3, .pointer (some ⟨o0, 0, none⟩)), (6, .int .i64 (x.1 : Int))])
    (fun x => blk o0 55 [.int .i64 0, .int .i64 ((tab.mobs.length : Int) + 1), .int .i64 (newG (tab.shops.take x.1)), .slice none 0 0, .slice none 0 0, .slice A (newM tab.mobs).length c, .slice none 0 0, .slice none 0 0, .slice x.2.1 (newI (tab.shops.take x.1)).length x.2.2] :: sl Ei 83 x.2.1 x.2.2 (newI (tab.shops.take x.1)) :: sl Em 79 A c (newM tab.mobs) :: R :: nest E64 3 [] :: nest Enc.str 9 [] :: Rs) (fun x => tab.shops.length - x.1) (0, none, 0) (Nat.zero_le _) ?_
  rintro ⟨j, A2, c2⟩ hj
  simp only at hj ⊢
  by_cases hj2 : j < tab.shops.length
  · obtain ⟨x, hx⟩ : ∃ x, tab.shops[j]? = some x := ⟨_, List.getElem?_eq_getElem hj2⟩
    obtain ⟨⟨A1, c1⟩, hz1, _⟩ := zip_get hx lt.2
    have hst := newI_step hx
    have hsg := newG_step hx
    have hgl := newG_le hl j hj
    have htl := hl x (List.mem_of_getElem? hx)
    have hln2 : (newI (tab.shops.take j)).length ≤ 100000 := by rw [newI_len, List.length_take]; omega
    generalize newI (tab.shops.take j) = Lk at *
    generalize newG (tab.shops.take j) = G at *
    refine go ?_
    refine ⟨?_, by simp⟩ <;> intros
    rename_i A' c'
    exact rnd (j + 1, A', c') hj2 (by simp only; omega) (hh := by simp only; rw [hst, hsg]; (focus ((repeat (first | exact Ent.done | with_reducible exact Ent.same | (apply Ent.take; (first | (focus (with_reducible iterate 40 first | done | exact .here | apply Find.there); done) | (focus (iterate 40 first | done | exact .here | apply Find.there); done))) | (apply Ent.emp (sl_emp _ _)) | apply Ent.drop)); first | done | fail)))
  rw [List.take_of_length_le (by omega)]
  refine go ?_
  refine ⟨?_, by simp⟩ <;> intros
  refine efoldw o0 ⟨none, 0, none, 0, A, c, none, 0, none, 0, A2, c2, [], []⟩ (newW tab) ⟨rfl, rfl⟩ ?_
  exact ret1 ⟨o0, _, rfl, rfl⟩
end
end Go.Proofs.YtlibnpdbcjgegaaGreat
