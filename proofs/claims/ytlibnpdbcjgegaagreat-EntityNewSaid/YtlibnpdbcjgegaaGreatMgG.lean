/-
  The document's Check of tables, walked: things, rest.
-/
import Derived.Test.YtlibnpdbcjgegaaGreatMgC
namespace Go.Proofs.YtlibnpdbcjgegaaGreat
open Go.SL
set_option linter.unusedVariables false
set_option linter.unusedSimpArgs false
set_option maxHeartbeats 8000000
set_option maxRecDepth 20000
theorem things_spec (e : Nat) (mt : Tay) (t : Tab) (hl : t.protos.length ≤ 1000000) (hn : ∀ x ∈ t.protos, x.name.length ≤ 1000000) (hl2 : t.mobs.length ≤ 1000000) (hn2 : ∀ x ∈ t.mobs, x.name.length ≤ 1000000) (P : HProp) [hp : RT P e mt t] :
    Trip Tryz.prog 46 [.pointer (some ⟨e, 0, none⟩)] [P] (fun v Ps => ∃ b, v = .bool b ∧ Ps = [P] ∧ (b = true → (t.protos.length ≤ 60 ∧ t.mobs.length ≤ 60) ∧ Upto PrRow t.protos t.protos.length ∧ Upto MoRow t.mobs t.mobs.length)) := by
  refine Trip.of (m := 157) Tryz.func46 rfl rfl rfl ?_
  intro o Rs
  simp only [List.cons_append, List.nil_append, enumFrom]
  haveI : Plan 5 [24] [0, 1, 2, 3, 4, 5, 6, 7, 8, 9, 10, 11, 12, 13, 14, 15, 16, 17, 18, 19, 20, 21, 22, 23, 24, 25, 26, 27, 28, 29, 30, 31, 32, 33, 34, 35, 36, 37, 38, 39, 40, 41, 42, 43, 44, 45] := ⟨⟩
  haveI : Plan 11 [86] [0, 1, 2, 3, 4, 5, 6, 7, 8, 9, 10, 11, 12, 13, 14, 15, 16, 17, 18, 19, 20, 21, 22, 23, 24, 25, 26, 27, 28, 29, 30, 31, 32, 33, 34, 35, 36, 37, 38, 39, 40, 41, 42, 43, 44, 45, 46, 47, 48, 49, 50, 51, 52, 53, 54, 55, 56, 57] := ⟨⟩
  refine go ?_
  refine ⟨?_, by simp⟩ <;> intros
  refine loop (fun k => k ≤ t.protos.length ∧ Upto PrRow t.protos k) (fun k => [(0, .pointer (some ⟨e, 0, none⟩)), (3, .int .i64 (k : Int))]) (fun k => P :: Rs) (fun k => t.protos.length - k) 0 ⟨Nat.zero_le _, upto_zero _ _⟩ fun k ⟨h1, h2⟩ => ?_
  by_cases hk : k < t.protos.length
  · obtain ⟨x, hx⟩ : ∃ x, t.protos[k]? = some x := ⟨_, List.getElem?_eq_getElem hk⟩
    have hxn := hn x (List.mem_of_getElem? hx)
    have F1 := in13_spec (x.id) (1) (1000)
    cases g1 : inB (x.id) (1) (1000)
    · rw [g1] at F1
      refine go ?_
      refine ⟨?_, by simp⟩ <;> intros
      exact ret1 ⟨false, rfl, rfl, by simp⟩
    rw [g1] at F1
    have F2 := RefWord_spec (x.name) (by omega)
    cases g2 : wordB (x.name)
    · rw [g2] at F2
      refine go ?_
      refine ⟨?_, by simp⟩ <;> intros
      exact ret1 ⟨false, rfl, rfl, by simp⟩
    rw [g2] at F2
    have F3 := in13_spec (x.slot) (0) (2)
    cases g3 : inB (x.slot) (0) (2)
    · rw [g3] at F3
      refine go ?_
      refine ⟨?_, by simp⟩ <;> intros
      exact ret1 ⟨false, rfl, rfl, by simp⟩
    rw [g3] at F3
    have F4 := in13_spec (x.power) (0) (100)
    cases g4 : inB (x.power) (0) (100)
    · rw [g4] at F4
      refine go ?_
      refine ⟨?_, by simp⟩ <;> intros
      exact ret1 ⟨false, rfl, rfl, by simp⟩
    rw [g4] at F4
    have F5 := in13_spec (x.price) (0) (1073741824)
    cases g5 : inB (x.price) (0) (1073741824)
    · rw [g5] at F5
      refine go ?_
      refine ⟨?_, by simp⟩ <;> intros
      exact ret1 ⟨false, rfl, rfl, by simp⟩
    rw [g5] at F5
    by_cases hk0 : 0 < k
    · obtain ⟨y, hy⟩ : ∃ y, t.protos[((k : Int) - 1).toNat]? = some y := ⟨_, List.getElem?_eq_getElem (by omega)⟩
      by_cases hxy : x.id ≤ y.id
      · skip
        refine go ?_
        refine ⟨?_, by simp⟩ <;> intros
        exact ret1 ⟨false, rfl, rfl, by simp⟩
      have hup : ∀ z, 0 < k → t.protos[k - 1]? = some z → z.id < x.id := fun z _ hz => by
        rw [show k - 1 = ((k : Int) - 1).toNat by omega, hy] at hz; cases hz; omega
      have h5 := upto_step (p := PrRow) h2 hx ⟨in_of g1, g2, in_of g3, in_of g4, in_of g5, hup⟩
      clear h2 hup
      refine go ?_
      refine ⟨?_, by simp⟩ <;> intros
      exact rnd (k + 1) ⟨hk, h5⟩ (by omega)
    · have hup : ∀ z, 0 < k → t.protos[k - 1]? = some z → z.id < x.id := fun z h _ => absurd h hk0
      have h5 := upto_step (p := PrRow) h2 hx ⟨in_of g1, g2, in_of g3, in_of g4, in_of g5, hup⟩
      clear h2 hup
      refine go ?_
      refine ⟨?_, by simp⟩ <;> intros
      exact rnd (k + 1) ⟨hk, h5⟩ (by omega)
  have hq : k = t.protos.length := by omega
  subst hq
  replace h2 := Bx.mk h2
  refine go ?_
  refine ⟨?_, by simp⟩ <;> intros
  clear hk h1
  refine loop (fun k => k ≤ t.mobs.length ∧ Upto MoRow t.mobs k) (fun k => [(0, .pointer (some ⟨e, 0, none⟩)), (5, .int .i64 (k : Int))]) (fun k => P :: Rs) (fun k => t.mobs.length - k) 0 ⟨Nat.zero_le _, upto_zero _ _⟩ fun k ⟨h1, h2⟩ => ?_
  rename Bx _ => hpr
  by_cases hk : k < t.mobs.length
  · obtain ⟨x, hx⟩ : ∃ x, t.mobs[k]? = some x := ⟨_, List.getElem?_eq_getElem hk⟩
    have hxn := hn2 x (List.mem_of_getElem? hx)
    have F1 := in13_spec (x.id) (1) (1000)
    cases g1 : inB (x.id) (1) (1000)
    · rw [g1] at F1
      refine go ?_
      refine ⟨?_, by simp⟩ <;> intros
      exact ret1 ⟨false, rfl, rfl, by simp⟩
    rw [g1] at F1
    have F2 := RefWord_spec (x.name) (by omega)
    cases g2 : wordB (x.name)
    · rw [g2] at F2
      refine go ?_
      refine ⟨?_, by simp⟩ <;> intros
      exact ret1 ⟨false, rfl, rfl, by simp⟩
    rw [g2] at F2
    have F3 := in13_spec (x.home) (1) (1000)
    cases g3 : inB (x.home) (1) (1000)
    · rw [g3] at F3
      refine go ?_
      refine ⟨?_, by simp⟩ <;> intros
      exact ret1 ⟨false, rfl, rfl, by simp⟩
    rw [g3] at F3
    have F4 := in13_spec (x.hp) (1) (10000)
    cases g4 : inB (x.hp) (1) (10000)
    · rw [g4] at F4
      refine go ?_
      refine ⟨?_, by simp⟩ <;> intros
      exact ret1 ⟨false, rfl, rfl, by simp⟩
    rw [g4] at F4
    have F5 := in13_spec (x.power) (0) (100)
    cases g5 : inB (x.power) (0) (100)
    · rw [g5] at F5
      refine go ?_
      refine ⟨?_, by simp⟩ <;> intros
      exact ret1 ⟨false, rfl, rfl, by simp⟩
    rw [g5] at F5
    have F6 := in13_spec (x.xp) (0) (10000)
    cases g6 : inB (x.xp) (0) (10000)
    · rw [g6] at F6
      refine go ?_
      refine ⟨?_, by simp⟩ <;> intros
      exact ret1 ⟨false, rfl, rfl, by simp⟩
    rw [g6] at F6
    have F7 := in13_spec (x.gold) (0) (1073741824)
    cases g7 : inB (x.gold) (0) (1073741824)
    · rw [g7] at F7
      refine go ?_
      refine ⟨?_, by simp⟩ <;> intros
      exact ret1 ⟨false, rfl, rfl, by simp⟩
    rw [g7] at F7
    by_cases hk0 : 0 < k
    · obtain ⟨y, hy⟩ : ∃ y, t.mobs[((k : Int) - 1).toNat]? = some y := ⟨_, List.getElem?_eq_getElem (by omega)⟩
      by_cases hxy : x.id ≤ y.id
      · skip
        refine go ?_
        refine ⟨?_, by simp⟩ <;> intros
        exact ret1 ⟨false, rfl, rfl, by simp⟩
      have hup : ∀ z, 0 < k → t.mobs[k - 1]? = some z → z.id < x.id := fun z _ hz => by
        rw [show k - 1 = ((k : Int) - 1).toNat by omega, hy] at hz; cases hz; omega
      have h5 := upto_step (p := MoRow) h2 hx ⟨in_of g1, g2, in_of g3, in_of g4, in_of g5, in_of g6, in_of g7, hup⟩
      clear h2 hup
      refine go ?_
      refine ⟨?_, by simp⟩ <;> intros
      exact rnd (k + 1) ⟨hk, h5⟩ (by omega)
    · have hup : ∀ z, 0 < k → t.mobs[k - 1]? = some z → z.id < x.id := fun z h _ => absurd h hk0
      have h5 := upto_step (p := MoRow) h2 hx ⟨in_of g1, g2, in_of g3, in_of g4, in_of g5, in_of g6, in_of g7, hup⟩
      clear h2 hup
      refine go ?_
      refine ⟨?_, by simp⟩ <;> intros
      exact rnd (k + 1) ⟨hk, h5⟩ (by omega)
  have hq : k = t.mobs.length := by omega
  subst hq
  have hmo := Bx.mk h2
  clear h2
  by_cases h60 : t.protos.length ≤ 60
  · by_cases h61 : t.mobs.length ≤ 60
    · refine go ?_
      refine ⟨?_, by simp⟩ <;> intros
      exact ret1 ⟨_, rfl, rfl, fun _ => ⟨⟨h60, h61⟩, hpr.get, hmo.get⟩⟩
    · refine go ?_
      refine ⟨?_, by simp⟩ <;> intros
      exact ret1 ⟨decide ((t.mobs.length : Int) ≤ 60), rfl, rfl, fun h => absurd (of_decide_eq_true h) (by omega)⟩
  · refine go ?_
    refine ⟨?_, by simp⟩ <;> intros
    exact ret1 ⟨false, rfl, rfl, by simp⟩
end Go.Proofs.YtlibnpdbcjgegaaGreat
