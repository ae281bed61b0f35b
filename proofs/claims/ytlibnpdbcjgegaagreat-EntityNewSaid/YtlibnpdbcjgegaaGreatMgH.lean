/-
  The document's Check of tables, walked: rest.
-/
import Derived.Test.YtlibnpdbcjgegaaGreatMgC
namespace Go.Proofs.YtlibnpdbcjgegaaGreat
open Go.SL
set_option linter.unusedVariables false
set_option linter.unusedSimpArgs false
set_option maxHeartbeats 8000000
set_option maxRecDepth 20000
theorem rest_spec (e : Nat) (mt : Tay) (t : Tab) (lt : TLaid mt t) (hl : t.recipes.length ≤ 1000000) (hl2 : t.quests.length ≤ 1000000) (hl3 : t.shops.length ≤ 1000000) (P : HProp) [hp : RT P e mt t] :
    Trip Tryz.prog 47 [.pointer (some ⟨e, 0, none⟩)] [P] (fun v Ps => ∃ b, v = .bool b ∧ Ps = [P] ∧ (b = true → (t.recipes.length ≤ 60 ∧ t.quests.length ≤ 60 ∧ t.shops.length ≤ 60) ∧ Upto ReRow t.recipes t.recipes.length ∧ Upto QuRow t.quests t.quests.length ∧ Upto ShRow t.shops t.shops.length)) := by
  refine Trip.of (m := 259) Tryz.func47 rfl rfl rfl ?_
  intro o Rs
  simp only [List.cons_append, List.nil_append, enumFrom]
  haveI : Plan 5 [28] [0, 1, 2, 3, 4, 5, 6, 7, 8, 9, 10, 11, 12, 13, 14, 15, 16, 17, 18, 19, 20, 21, 22, 23, 24, 25, 26, 27, 28, 29, 30, 31, 32, 33] := ⟨⟩
  haveI : Plan 10 [69, 72] [0, 1, 2, 3, 4, 5, 6, 7, 8, 9, 10, 11, 12, 13, 14, 15, 16, 17, 18, 19, 20, 21, 22, 23, 24] := ⟨⟩
  haveI : Plan 16 [110] [0, 1, 2, 3, 4, 5, 6, 7, 8, 9, 10, 11, 12, 13, 14, 15, 16, 17, 18, 19, 20, 21, 22, 23, 24, 25, 26, 27, 28, 29, 30, 31, 32, 33, 34, 35, 36, 37, 38, 39, 40, 41, 42, 43, 44, 45] := ⟨⟩
  haveI : Plan 22 [172] [0, 1, 2, 3, 4, 5, 6, 7, 8, 9, 10, 11, 12, 13, 14, 15, 16, 17, 18, 19, 20, 21, 22, 23, 24, 25, 26, 27, 28, 29, 30, 31, 32, 33] := ⟨⟩
  haveI : Plan 27 [213, 216] [0, 1, 2, 3, 4, 5, 6, 7, 8, 9, 10, 11, 12, 13, 14, 15, 16, 17, 18, 19, 20, 21, 22, 23, 24] := ⟨⟩
  have zr : t.recipes.length = (t.recipes.zip mt.nd).length := by rw [List.length_zip, lt.1, Nat.min_self]
  have zs : t.shops.length = (t.shops.zip mt.it).length := by rw [List.length_zip, lt.2, Nat.min_self]
  refine go ?_
  refine ⟨?_, by simp⟩ <;> intros
  refine loop (fun k => k ≤ t.recipes.length ∧ Upto ReRow t.recipes k) (fun k => [(0, .pointer (some ⟨e, 0, none⟩)), (3, .int .i64 (k : Int))]) (fun k => P :: Rs) (fun k => t.recipes.length - k) 0 ⟨Nat.zero_le _, upto_zero _ _⟩ fun k ⟨h1, h2⟩ => ?_
  by_cases hk : k < t.recipes.length
  · obtain ⟨x, hx⟩ : ∃ x, t.recipes[k]? = some x := ⟨_, List.getElem?_eq_getElem hk⟩
    obtain ⟨⟨A1, c1⟩, hzx, _⟩ := zip_get hx lt.1
    haveI : Rd P E64 A1 x.needs := ⟨hp.nd _ (List.mem_of_getElem? hzx)⟩
    have F1 := in13_spec (x.out) (1) (1000)
    cases g1 : inB (x.out) (1) (1000)
    · rw [g1] at F1
      refine go ?_
      refine ⟨?_, by simp⟩ <;> intros
      exact ret1 ⟨false, rfl, rfl, by simp⟩
    rw [g1] at F1
    by_cases hn1 : 1 ≤ x.needs.length
    · by_cases hn5 : x.needs.length ≤ 5
      · skip
        by_cases hk0 : 0 < k
        · obtain ⟨y, hy⟩ : ∃ y, t.recipes[((k : Int) - 1).toNat]? = some y := ⟨_, List.getElem?_eq_getElem (by omega)⟩
          obtain ⟨⟨A2, c2⟩, hzy, _⟩ := zip_get hy lt.1
          by_cases hxy : x.out ≤ y.out
          · skip
            refine go ?_
            refine ⟨?_, by simp⟩ <;> intros
            exact ret1 ⟨false, rfl, rfl, by simp⟩
          have hup : ∀ z, 0 < k → t.recipes[k - 1]? = some z → z.out < x.out := fun z _ hz => by
            rw [show k - 1 = ((k : Int) - 1).toNat by omega, hy] at hz; cases hz; omega
          refine go ?_
          refine ⟨?_, by simp⟩ <;> intros
          rename Nat => b
          clear F1
          refine loop (fun j => j ≤ x.needs.length ∧ ∀ i z, i < j → x.needs[i]? = some z → (1 ≤ z ∧ z ≤ 1000) ∧ ∀ y, 0 < i → x.needs[i - 1]? = some y → y ≤ z) (fun j => [(0, .pointer (some ⟨e, 0, none⟩)), (3, .int .i64 (k : Int)), (4, .pointer (some ⟨b, 0, none⟩)), (5, .int .i64 (j : Int))]) (fun j => blk b 135 (rcpC x (A1, c1)) :: P :: Rs) (fun j => x.needs.length - j) 0 ⟨Nat.zero_le _, fun i z h => absurd h (by omega)⟩ fun j ⟨h3, h4⟩ => ?_
          by_cases hj : j < x.needs.length
          · obtain ⟨z, hz⟩ : ∃ z, x.needs[j]? = some z := ⟨_, List.getElem?_eq_getElem hj⟩
            have F1 := in13_spec z 1 1000
            cases gz : inB z 1 1000
            · rw [gz] at F1
              clear h2 hup h4
              refine go ?_
              refine ⟨?_, by simp⟩ <;> intros
              exact ret1 ⟨false, rfl, rfl, by simp⟩
            rw [gz] at F1
            by_cases hj0 : 0 < j
            · obtain ⟨y0, hy0⟩ : ∃ y, x.needs[((j : Int) - 1).toNat]? = some y := ⟨_, List.getElem?_eq_getElem (by omega)⟩
              by_cases hzy0 : y0 ≤ z
              · have h5 : ∀ i z, i < j + 1 → x.needs[i]? = some z → (1 ≤ z ∧ z ≤ 1000) ∧ ∀ y, 0 < i → x.needs[i - 1]? = some y → y ≤ z := fun i z' hi hz' => by
                  rcases Nat.lt_or_ge i j with h6 | h6
                  · exact h4 i z' h6 hz'
                  · have : i = j := by omega
                    subst this
                    rw [hz] at hz'; cases hz'
                    refine ⟨in_of gz, fun y _ hy => ?_⟩
                    rw [show i - 1 = ((i : Int) - 1).toNat by omega, hy0] at hy; cases hy; exact hzy0
                clear h4 h2 hup
                replace h5 := Bx.mk h5
                refine go ?_
                refine ⟨?_, by simp⟩ <;> intros
                exact rnd (j + 1) ⟨hj, h5.get⟩ (by omega)
              · clear h2 hup h4
                refine go ?_
                refine ⟨?_, by simp⟩ <;> intros
                exact ret1 ⟨false, rfl, rfl, by simp⟩
            · have h5 : ∀ i z, i < j + 1 → x.needs[i]? = some z → (1 ≤ z ∧ z ≤ 1000) ∧ ∀ y, 0 < i → x.needs[i - 1]? = some y → y ≤ z := fun i z' hi hz' => by
                have : i = 0 := by omega
                subst this
                have h0 : j = 0 := by omega
                subst h0
                rw [hz] at hz'; cases hz'
                exact ⟨in_of gz, fun y h => absurd h (by omega)⟩
              clear h4 h2 hup
              replace h5 := Bx.mk h5
              refine go ?_
              refine ⟨?_, by simp⟩ <;> intros
              exact rnd (j + 1) ⟨hj, h5.get⟩ (by omega)
          · have hq : j = x.needs.length := by omega
            subst hq
            have h5 := Bx.mk (upto_step (p := ReRow) h2 hx ⟨in_of g1, ⟨hn1, hn5⟩, hup, fun j z hz => h4 j z (List.getElem?_eq_some_iff.1 hz).1 hz⟩)
            clear h4 h2 hup
            refine go ?_
            refine ⟨?_, by simp⟩ <;> intros
            exact rnd (k + 1) ⟨hk, h5.get⟩ (by omega)
        · have hup : ∀ z, 0 < k → t.recipes[k - 1]? = some z → z.out < x.out := fun z h _ => absurd h hk0
          refine go ?_
          refine ⟨?_, by simp⟩ <;> intros
          rename Nat => b
          clear F1
          refine loop (fun j => j ≤ x.needs.length ∧ ∀ i z, i < j → x.needs[i]? = some z → (1 ≤ z ∧ z ≤ 1000) ∧ ∀ y, 0 < i → x.needs[i - 1]? = some y → y ≤ z) (fun j => [(0, .pointer (some ⟨e, 0, none⟩)), (3, .int .i64 (k : Int)), (4, .pointer (some ⟨b, 0, none⟩)), (5, .int .i64 (j : Int))]) (fun j => blk b 135 (rcpC x (A1, c1)) :: P :: Rs) (fun j => x.needs.length - j) 0 ⟨Nat.zero_le _, fun i z h => absurd h (by omega)⟩ fun j ⟨h3, h4⟩ => ?_
          by_cases hj : j < x.needs.length
          · obtain ⟨z, hz⟩ : ∃ z, x.needs[j]? = some z := ⟨_, List.getElem?_eq_getElem hj⟩
            have F1 := in13_spec z 1 1000
            cases gz : inB z 1 1000
            · rw [gz] at F1
              clear h2 hup h4
              refine go ?_
              refine ⟨?_, by simp⟩ <;> intros
              exact ret1 ⟨false, rfl, rfl, by simp⟩
            rw [gz] at F1
            by_cases hj0 : 0 < j
            · obtain ⟨y0, hy0⟩ : ∃ y, x.needs[((j : Int) - 1).toNat]? = some y := ⟨_, List.getElem?_eq_getElem (by omega)⟩
              by_cases hzy0 : y0 ≤ z
              · have h5 : ∀ i z, i < j + 1 → x.needs[i]? = some z → (1 ≤ z ∧ z ≤ 1000) ∧ ∀ y, 0 < i → x.needs[i - 1]? = some y → y ≤ z := fun i z' hi hz' => by
                  rcases Nat.lt_or_ge i j with h6 | h6
                  · exact h4 i z' h6 hz'
                  · have : i = j := by omega
                    subst this
                    rw [hz] at hz'; cases hz'
                    refine ⟨in_of gz, fun y _ hy => ?_⟩
                    rw [show i - 1 = ((i : Int) - 1).toNat by omega, hy0] at hy; cases hy; exact hzy0
                clear h4 h2 hup
                replace h5 := Bx.mk h5
                refine go ?_
                refine ⟨?_, by simp⟩ <;> intros
                exact rnd (j + 1) ⟨hj, h5.get⟩ (by omega)
              · clear h2 hup h4
                refine go ?_
                refine ⟨?_, by simp⟩ <;> intros
                exact ret1 ⟨false, rfl, rfl, by simp⟩
            · have h5 : ∀ i z, i < j + 1 → x.needs[i]? = some z → (1 ≤ z ∧ z ≤ 1000) ∧ ∀ y, 0 < i → x.needs[i - 1]? = some y → y ≤ z := fun i z' hi hz' => by
                have : i = 0 := by omega
                subst this
                have h0 : j = 0 := by omega
                subst h0
                rw [hz] at hz'; cases hz'
                exact ⟨in_of gz, fun y h => absurd h (by omega)⟩
              clear h4 h2 hup
              replace h5 := Bx.mk h5
              refine go ?_
              refine ⟨?_, by simp⟩ <;> intros
              exact rnd (j + 1) ⟨hj, h5.get⟩ (by omega)
          · have hq : j = x.needs.length := by omega
            subst hq
            have h5 := Bx.mk (upto_step (p := ReRow) h2 hx ⟨in_of g1, ⟨hn1, hn5⟩, hup, fun j z hz => h4 j z (List.getElem?_eq_some_iff.1 hz).1 hz⟩)
            clear h4 h2 hup
            refine go ?_
            refine ⟨?_, by simp⟩ <;> intros
            exact rnd (k + 1) ⟨hk, h5.get⟩ (by omega)
      · clear h2
        refine go ?_
        refine ⟨?_, by simp⟩ <;> intros
        exact ret1 ⟨false, rfl, rfl, by simp⟩
    · clear h2
      refine go ?_
      refine ⟨?_, by simp⟩ <;> intros
      exact ret1 ⟨false, rfl, rfl, by simp⟩
  have hq : k = t.recipes.length := by omega
  subst hq
  have hrc := Bx.mk h2
  clear h2
  refine go ?_
  refine ⟨?_, by simp⟩ <;> intros
  clear hk h1
  refine loop (fun k => k ≤ t.quests.length ∧ Upto QuRow t.quests k) (fun k => [(0, .pointer (some ⟨e, 0, none⟩)), (6, .int .i64 (k : Int))]) (fun k => P :: Rs) (fun k => t.quests.length - k) 0 ⟨Nat.zero_le _, upto_zero _ _⟩ fun k ⟨h1, h2⟩ => ?_
  by_cases hk : k < t.quests.length
  · obtain ⟨x, hx⟩ : ∃ x, t.quests[k]? = some x := ⟨_, List.getElem?_eq_getElem hk⟩
    have F1 := in13_spec (x.id) (1) (1000)
    cases g1 : inB (x.id) (1) (1000)
    · rw [g1] at F1
      refine go ?_
      refine ⟨?_, by simp⟩ <;> intros
      exact ret1 ⟨false, rfl, rfl, by simp⟩
    rw [g1] at F1
    have F2 := in13_spec (x.item) (1) (1000)
    cases g2 : inB (x.item) (1) (1000)
    · rw [g2] at F2
      refine go ?_
      refine ⟨?_, by simp⟩ <;> intros
      exact ret1 ⟨false, rfl, rfl, by simp⟩
    rw [g2] at F2
    have F3 := in13_spec (x.count) (1) (5)
    cases g3 : inB (x.count) (1) (5)
    · rw [g3] at F3
      refine go ?_
      refine ⟨?_, by simp⟩ <;> intros
      exact ret1 ⟨false, rfl, rfl, by simp⟩
    rw [g3] at F3
    have F4 := in13_spec (x.gold) (0) (1073741824)
    cases g4 : inB (x.gold) (0) (1073741824)
    · rw [g4] at F4
      refine go ?_
      refine ⟨?_, by simp⟩ <;> intros
      exact ret1 ⟨false, rfl, rfl, by simp⟩
    rw [g4] at F4
    have F5 := in13_spec (x.reward) (0) (1000)
    cases g5 : inB (x.reward) (0) (1000)
    · rw [g5] at F5
      refine go ?_
      refine ⟨?_, by simp⟩ <;> intros
      exact ret1 ⟨false, rfl, rfl, by simp⟩
    rw [g5] at F5
    by_cases hk0 : 0 < k
    · obtain ⟨y, hy⟩ : ∃ y, t.quests[((k : Int) - 1).toNat]? = some y := ⟨_, List.getElem?_eq_getElem (by omega)⟩
      by_cases hxy : x.id ≤ y.id
      · skip
        refine go ?_
        refine ⟨?_, by simp⟩ <;> intros
        exact ret1 ⟨false, rfl, rfl, by simp⟩
      have hup : ∀ z, 0 < k → t.quests[k - 1]? = some z → z.id < x.id := fun z _ hz => by
        rw [show k - 1 = ((k : Int) - 1).toNat by omega, hy] at hz; cases hz; omega
      have h5 := upto_step (p := QuRow) h2 hx ⟨in_of g1, in_of g2, in_of g3, in_of g4, in_of g5, hup⟩
      clear h2 hup
      refine go ?_
      refine ⟨?_, by simp⟩ <;> intros
      exact rnd (k + 1) ⟨hk, h5⟩ (by omega)
    · have hup : ∀ z, 0 < k → t.quests[k - 1]? = some z → z.id < x.id := fun z h _ => absurd h hk0
      have h5 := upto_step (p := QuRow) h2 hx ⟨in_of g1, in_of g2, in_of g3, in_of g4, in_of g5, hup⟩
      clear h2 hup
      refine go ?_
      refine ⟨?_, by simp⟩ <;> intros
      exact rnd (k + 1) ⟨hk, h5⟩ (by omega)
  have hq : k = t.quests.length := by omega
  subst hq
  have hqu := Bx.mk h2
  clear h2
  refine go ?_
  refine ⟨?_, by simp⟩ <;> intros
  clear hk h1
  refine loop (fun k => k ≤ t.shops.length ∧ Upto ShRow t.shops k) (fun k => [(0, .pointer (some ⟨e, 0, none⟩)), (8, .int .i64 (k : Int))]) (fun k => P :: Rs) (fun k => t.shops.length - k) 0 ⟨Nat.zero_le _, upto_zero _ _⟩ fun k ⟨h1, h2⟩ => ?_
  by_cases hk : k < t.shops.length
  · obtain ⟨x, hx⟩ : ∃ x, t.shops[k]? = some x := ⟨_, List.getElem?_eq_getElem hk⟩
    obtain ⟨⟨A1, c1⟩, hzx, _⟩ := zip_get hx lt.2
    haveI : Rd P E64 A1 x.items := ⟨hp.it _ (List.mem_of_getElem? hzx)⟩
    have F1 := in13_spec (x.room) (1) (1000)
    cases g1 : inB (x.room) (1) (1000)
    · rw [g1] at F1
      refine go ?_
      refine ⟨?_, by simp⟩ <;> intros
      exact ret1 ⟨false, rfl, rfl, by simp⟩
    rw [g1] at F1
    have F2 := in13_spec (x.till) (0) (1073741824)
    cases g2 : inB (x.till) (0) (1073741824)
    · rw [g2] at F2
      refine go ?_
      refine ⟨?_, by simp⟩ <;> intros
      exact ret1 ⟨false, rfl, rfl, by simp⟩
    rw [g2] at F2
    by_cases hn5 : x.items.length ≤ 8
    · skip
      by_cases hk0 : 0 < k
      · obtain ⟨y, hy⟩ : ∃ y, t.shops[((k : Int) - 1).toNat]? = some y := ⟨_, List.getElem?_eq_getElem (by omega)⟩
        obtain ⟨⟨A2, c2⟩, hzy, _⟩ := zip_get hy lt.2
        by_cases hxy : x.room ≤ y.room
        · skip
          refine go ?_
          refine ⟨?_, by simp⟩ <;> intros
          exact ret1 ⟨false, rfl, rfl, by simp⟩
        have hup : ∀ z, 0 < k → t.shops[k - 1]? = some z → z.room < x.room := fun z _ hz => by
          rw [show k - 1 = ((k : Int) - 1).toNat by omega, hy] at hz; cases hz; omega
        refine go ?_
        refine ⟨?_, by simp⟩ <;> intros
        rename Nat => b
        clear F1
        refine loop (fun j => j ≤ x.items.length ∧ ∀ i z, i < j → x.items[i]? = some z → (1 ≤ z ∧ z ≤ 1000) ∧ ∀ y, 0 < i → x.items[i - 1]? = some y → y < z) (fun j => [(0, .pointer (some ⟨e, 0, none⟩)), (8, .int .i64 (k : Int)), (9, .pointer (some ⟨b, 0, none⟩)), (10, .int .i64 (j : Int))]) (fun j => blk b 81 (shpC x (A1, c1)) :: P :: Rs) (fun j => x.items.length - j) 0 ⟨Nat.zero_le _, fun i z h => absurd h (by omega)⟩ fun j ⟨h3, h4⟩ => ?_
        by_cases hj : j < x.items.length
        · obtain ⟨z, hz⟩ : ∃ z, x.items[j]? = some z := ⟨_, List.getElem?_eq_getElem hj⟩
          have F1 := in13_spec z 1 1000
          cases gz : inB z 1 1000
          · rw [gz] at F1
            clear h2 hup h4
            refine go ?_
            refine ⟨?_, by simp⟩ <;> intros
            exact ret1 ⟨false, rfl, rfl, by simp⟩
          rw [gz] at F1
          by_cases hj0 : 0 < j
          · obtain ⟨y0, hy0⟩ : ∃ y, x.items[((j : Int) - 1).toNat]? = some y := ⟨_, List.getElem?_eq_getElem (by omega)⟩
            by_cases hzy0 : y0 < z
            · have h5 : ∀ i z, i < j + 1 → x.items[i]? = some z → (1 ≤ z ∧ z ≤ 1000) ∧ ∀ y, 0 < i → x.items[i - 1]? = some y → y < z := fun i z' hi hz' => by
                rcases Nat.lt_or_ge i j with h6 | h6
                · exact h4 i z' h6 hz'
                · have : i = j := by omega
                  subst this
                  rw [hz] at hz'; cases hz'
                  refine ⟨in_of gz, fun y _ hy => ?_⟩
                  rw [show i - 1 = ((i : Int) - 1).toNat by omega, hy0] at hy; cases hy; exact hzy0
              clear h4 h2 hup
              replace h5 := Bx.mk h5
              refine go ?_
              refine ⟨?_, by simp⟩ <;> intros
              exact rnd (j + 1) ⟨hj, h5.get⟩ (by omega)
            · clear h2 hup h4
              refine go ?_
              refine ⟨?_, by simp⟩ <;> intros
              exact ret1 ⟨false, rfl, rfl, by simp⟩
          · have h5 : ∀ i z, i < j + 1 → x.items[i]? = some z → (1 ≤ z ∧ z ≤ 1000) ∧ ∀ y, 0 < i → x.items[i - 1]? = some y → y < z := fun i z' hi hz' => by
              have : i = 0 := by omega
              subst this
              have h0 : j = 0 := by omega
              subst h0
              rw [hz] at hz'; cases hz'
              exact ⟨in_of gz, fun y h => absurd h (by omega)⟩
            clear h4 h2 hup
            replace h5 := Bx.mk h5
            refine go ?_
            refine ⟨?_, by simp⟩ <;> intros
            exact rnd (j + 1) ⟨hj, h5.get⟩ (by omega)
        · have hq : j = x.items.length := by omega
          subst hq
          have h5 := Bx.mk (upto_step (p := ShRow) h2 hx ⟨in_of g1, in_of g2, hn5, hup, fun j z hz => h4 j z (List.getElem?_eq_some_iff.1 hz).1 hz⟩)
          clear h4 h2 hup
          refine go ?_
          refine ⟨?_, by simp⟩ <;> intros
          exact rnd (k + 1) ⟨hk, h5.get⟩ (by omega)
      · have hup : ∀ z, 0 < k → t.shops[k - 1]? = some z → z.room < x.room := fun z h _ => absurd h hk0
        refine go ?_
        refine ⟨?_, by simp⟩ <;> intros
        rename Nat => b
        clear F1
        refine loop (fun j => j ≤ x.items.length ∧ ∀ i z, i < j → x.items[i]? = some z → (1 ≤ z ∧ z ≤ 1000) ∧ ∀ y, 0 < i → x.items[i - 1]? = some y → y < z) (fun j => [(0, .pointer (some ⟨e, 0, none⟩)), (8, .int .i64 (k : Int)), (9, .pointer (some ⟨b, 0, none⟩)), (10, .int .i64 (j : Int))]) (fun j => blk b 81 (shpC x (A1, c1)) :: P :: Rs) (fun j => x.items.length - j) 0 ⟨Nat.zero_le _, fun i z h => absurd h (by omega)⟩ fun j ⟨h3, h4⟩ => ?_
        by_cases hj : j < x.items.length
        · obtain ⟨z, hz⟩ : ∃ z, x.items[j]? = some z := ⟨_, List.getElem?_eq_getElem hj⟩
          have F1 := in13_spec z 1 1000
          cases gz : inB z 1 1000
          · rw [gz] at F1
            clear h2 hup h4
            refine go ?_
            refine ⟨?_, by simp⟩ <;> intros
            exact ret1 ⟨false, rfl, rfl, by simp⟩
          rw [gz] at F1
          by_cases hj0 : 0 < j
          · obtain ⟨y0, hy0⟩ : ∃ y, x.items[((j : Int) - 1).toNat]? = some y := ⟨_, List.getElem?_eq_getElem (by omega)⟩
            by_cases hzy0 : y0 < z
            · have h5 : ∀ i z, i < j + 1 → x.items[i]? = some z → (1 ≤ z ∧ z ≤ 1000) ∧ ∀ y, 0 < i → x.items[i - 1]? = some y → y < z := fun i z' hi hz' => by
                rcases Nat.lt_or_ge i j with h6 | h6
                · exact h4 i z' h6 hz'
                · have : i = j := by omega
                  subst this
                  rw [hz] at hz'; cases hz'
                  refine ⟨in_of gz, fun y _ hy => ?_⟩
                  rw [show i - 1 = ((i : Int) - 1).toNat by omega, hy0] at hy; cases hy; exact hzy0
              clear h4 h2 hup
              replace h5 := Bx.mk h5
              refine go ?_
              refine ⟨?_, by simp⟩ <;> intros
              exact rnd (j + 1) ⟨hj, h5.get⟩ (by omega)
            · clear h2 hup h4
              refine go ?_
              refine ⟨?_, by simp⟩ <;> intros
              exact ret1 ⟨false, rfl, rfl, by simp⟩
          · have h5 : ∀ i z, i < j + 1 → x.items[i]? = some z → (1 ≤ z ∧ z ≤ 1000) ∧ ∀ y, 0 < i → x.items[i - 1]? = some y → y < z := fun i z' hi hz' => by
              have : i = 0 := by omega
              subst this
              have h0 : j = 0 := by omega
              subst h0
              rw [hz] at hz'; cases hz'
              exact ⟨in_of gz, fun y h => absurd h (by omega)⟩
            clear h4 h2 hup
            replace h5 := Bx.mk h5
            refine go ?_
            refine ⟨?_, by simp⟩ <;> intros
            exact rnd (j + 1) ⟨hj, h5.get⟩ (by omega)
        · have hq : j = x.items.length := by omega
          subst hq
          have h5 := Bx.mk (upto_step (p := ShRow) h2 hx ⟨in_of g1, in_of g2, hn5, hup, fun j z hz => h4 j z (List.getElem?_eq_some_iff.1 hz).1 hz⟩)
          clear h4 h2 hup
          refine go ?_
          refine ⟨?_, by simp⟩ <;> intros
          exact rnd (k + 1) ⟨hk, h5.get⟩ (by omega)
    · clear h2
      refine go ?_
      refine ⟨?_, by simp⟩ <;> intros
      exact ret1 ⟨false, rfl, rfl, by simp⟩
  have hq : k = t.shops.length := by omega
  subst hq
  have hsh := Bx.mk h2
  clear h2
  by_cases h60 : t.recipes.length ≤ 60
  · by_cases h61 : t.quests.length ≤ 60
    · by_cases h62 : t.shops.length ≤ 60
      · refine go ?_
        refine ⟨?_, by simp⟩ <;> intros
        exact ret1 ⟨_, rfl, rfl, fun _ => ⟨⟨h60, h61, h62⟩, hrc.get, hqu.get, hsh.get⟩⟩
      · refine go ?_
        refine ⟨?_, by simp⟩ <;> intros
        exact ret1 ⟨decide ((t.shops.length : Int) ≤ 60), rfl, rfl, fun h => absurd (of_decide_eq_true h) (by omega)⟩
    · refine go ?_
      refine ⟨?_, by simp⟩ <;> intros
      exact ret1 ⟨false, rfl, rfl, by simp⟩
  · refine go ?_
    refine ⟨?_, by simp⟩ <;> intros
    exact ret1 ⟨false, rfl, rfl, by simp⟩
end Go.Proofs.YtlibnpdbcjgegaaGreat
