/-
  EntityMany: two hundred things there may be, one more not.
-/
import Derived.Test.YtckkipangiapbaaGreatEnBeg
import Derived.Test.YtckkipangiapbaaGreatEnMake
namespace Go.Proofs.YtckkipangiapbaaGreat
open Go.SL
set_option linter.unusedVariables false
set_option linter.unusedSimpArgs false
set_option maxHeartbeats 8000000
set_option maxRecDepth 20000
def manyT (k : Nat) : List Thg := (List.range k).map fun (j : Nat) => (⟨3 + (j : Int), 3, 2, 0, [120]⟩ : Thg)
/-- The new world behind i things asked for. -/
def manyW (i : Nat) : Wld := { newW baseT with things := manyT (min i 200), next := 3 + ((min i 200 : Nat) : Int) }
theorem manyT_len (k : Nat) : (manyT k).length = k := by simp [manyT]
theorem many_zero : manyW 0 = newW baseT := rfl
theorem many_len (i : Nat) : (manyW i).things.length = min i 200 := manyT_len _
theorem many_can (i : Nat) : canMake (manyW i) = decide (i < 200) := by
  unfold canMake
  rw [many_len]
  by_cases h : i < 200
  · rw [decide_eq_true h, decide_eq_true (by omega)]
  · rw [decide_eq_false h, decide_eq_false (by omega)]
theorem many_step (i : Nat) : makeIf (manyW i) 3 2 0 [120] = manyW (i + 1) := by
  unfold makeIf
  rw [many_can]
  by_cases h : i < 200
  · rw [decide_eq_true h, if_pos rfl]
    have h1 : min i 200 = i := by omega
    have h2 : min (i + 1) 200 = i + 1 := by omega
    unfold makeW manyW
    rw [h1, h2]
    simp only [manyT, List.range_succ, List.map_append, List.map_cons, List.map_nil]
    congr 1
  · rw [decide_eq_false h, if_neg (by decide)]
    unfold manyW
    rw [show min i 200 = 200 from by omega, show min (i + 1) 200 = 200 from by omega]
theorem many_get {i k : Nat} {x : Thg} (h : (manyW i).things[k]? = some x) : x.id = 3 + (k : Int) := by
  have h2 : (manyT (min i 200))[k]? = some x := h
  unfold manyT at h2
  rw [List.getElem?_map] at h2
  cases hr : (List.range (min i 200))[k]? with
  | none => rw [hr] at h2; cases h2
  | some j =>
    rw [hr] at h2
    obtain ⟨hk, hj⟩ := List.getElem?_eq_some_iff.1 hr
    rw [List.getElem_range] at hj
    subst hj
    simp only [Option.map_some, Option.some.injEq] at h2
    rw [← h2]
theorem EntityMany_spec (n : Int) (h0 : -9223372036854775808 ≤ n) (h9 : n ≤ 9223372036854775807) : Trip Tryz.prog 3 [.int .i64 n] [] (fun v Ps => v = .bool true ∧ Ps = []) := by
  refine Trip.of (m := 79) Tryz.func3 rfl rfl rfl ?_
  intro o Rs
  simp only [List.cons_append, List.nil_append, enumFrom]
  have F1 := begun16_spec
  by_cases hn : n < 0
  · refine go ?_
    simp
  by_cases hm : 220 < n
  · refine go ?_
    simp
  obtain ⟨N, rfl⟩ := Int.eq_ofNat_of_zero_le (by omega : 0 ≤ n)
  have F2 := Base_spec
  refine go ?_
  refine ⟨?_, by simp⟩ <;> intros
  rename_i e mt
  refine wtb (d := e) (m := mt) (t := baseT) fun lt => ?_
  have F3 := NewBase_spec e mt lt
  refine go ?_
  refine ⟨?_, by simp⟩ <;> intros
  rename_i d m
  refine loop (σ := Nat × Lay) (fun s => s.1 ≤ N) (fun s => [(0, .int .i64 (N : Int)), (3, .bool true), (4, .pointer (some ⟨d, 0, none⟩)), (5, .int .i64 (s.1 : Int))]) (fun s => wl d s.2 (manyW s.1) :: Rs) (fun s => N - s.1) (0, m) (Nat.zero_le _) (hh := by simp only [many_zero]; (focus ((repeat (first | exact Ent.done | with_reducible exact Ent.same | (apply Ent.take; (first | (focus (with_reducible iterate 40 first | done | exact .here | apply Find.there); done) | (focus (iterate 40 first | done | exact .here | apply Find.there); done))) | (apply Ent.emp (sl_emp _ _)) | apply Ent.drop)); first | done | fail))) ?_
  rintro ⟨i, m⟩ hi
  simp only at hi ⊢
  have F4 := MakeP_spec d m (manyW i) (by rw [many_len]; omega) (by show 3 + ((min i 200 : Nat) : Int) ≤ _; omega) (by show 0 ≤ 3 + ((min i 200 : Nat) : Int); omega) 3 ⟨0, 0, 2, 0, [120]⟩
  rw [many_can] at F4
  simp only [many_step] at F4
  by_cases hi2 : i < N
  · by_cases hi3 : i < 200
    · rw [decide_eq_true hi3] at F4
      have hi4 : (i : Int) < 200 := by omega
      refine go ?_
      (repeat' (first | exact trivial | apply And.intro | intro _))
      all_goals first
        | (exfalso; first | omega | exact absurd (decide_eq_true hi4).symm (by assumption))
        | (rename_i m' _; exact rnd (i + 1, m') hi2 (by simp only; omega))
    · rw [decide_eq_false hi3] at F4
      have hi4 : ¬ (i : Int) < 200 := by omega
      refine go ?_
      (repeat' (first | exact trivial | apply And.intro | intro _))
      all_goals first
        | (exfalso; first | omega | exact absurd (decide_eq_false hi4).symm (by assumption))
        | (rename_i m' _; exact rnd (i + 1, m') hi2 (by simp only; omega))
  have hiN : i = N := by omega
  subst hiN
  have hln := many_len i
  refine go ?_
  refine ⟨?_, by simp⟩ <;> intros
  refine loop (σ := Nat) (fun k => 1 ≤ k ∧ k ≤ min i 200 + 1) (fun k => [(0, .int .i64 (i : Int)), (3, .bool true), (4, .pointer (some ⟨d, 0, none⟩)), (6, .int .i64 (k : Int))]) (fun k => wl d m (manyW i) :: Rs) (fun k => min i 200 + 1 - k) 1 ⟨Nat.le_refl _, by omega⟩ ?_
  rintro k ⟨hk1, hk2⟩
  by_cases hk : k < min i 200
  · obtain ⟨x, hx⟩ : ∃ x, (manyW i).things[k]? = some x := ⟨_, List.getElem?_eq_getElem (by rw [hln]; exact hk)⟩
    obtain ⟨y, hy⟩ : ∃ y, (manyW i).things[((k : Int) - 1).toNat]? = some y := ⟨_, List.getElem?_eq_getElem (by rw [hln]; omega)⟩
    have hxi := many_get hx
    have hyi := many_get hy
    have hxy : x.id = y.id + 1 := by omega
    refine go ?_
    (repeat' (first | exact trivial | apply And.intro | intro _))
    all_goals first
      | (exfalso; omega)
      | exact rnd (k + 1) ⟨by omega, by omega⟩ (by omega)
  have hmi : min (i : Int) 200 = ((min i 200 : Nat) : Int) := by omega
  have hnx : (manyW i).next = 3 + ((min i 200 : Nat) : Int) := rfl
  refine go ?_
  refine ⟨?_, by simp⟩ <;> intros
  rw [hnx, hmi, beq_self_eq_true]
end Go.Proofs.YtckkipangiapbaaGreat
