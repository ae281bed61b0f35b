/-
  Walks and laws joined: WdFlee.
-/
import Derived.Test.YtflmbhkjhfmeoaaGreatQ18
set_option linter.unusedVariables false
set_option linter.unusedSimpArgs false
namespace Go.Proofs.YtflmbhkjhfmeoaaGreat
open Go.SL
set_option maxHeartbeats 8000000
set_option maxRecDepth 20000
theorem setH_eq {w : Wld} {c : Nat} {x : Hse} (hx : w.houses[c]? = some x) (f : Hse → Hse) : setH w c f = { w with houses := w.houses.set c (f x) } := by rw [setH, getD_of hx]
theorem roll_range (L : List Int) (k : Nat) (sides : Int) (h1 : 1 ≤ sides) : 1 ≤ (rollN L k sides).1 ∧ (rollN L k sides).1 ≤ sides := by
  unfold rollN
  split
  · simp only; omega
  · have := tmod_range (L.getD k 0) sides h1
    simp only; split <;> omega
section
variable (t d e : Nat) (m : Lay) (w : Wld) (mt : Tay) (tab : Tab) (S : List Sy) (u : Int)
theorem Chest_spec (bw : Bw w) (bt : Bt tab) (lm : Laid m w) (R : HProp) [hr : RT R e mt tab] (name s : Tx) (back : Bool) (hb : ∀ x ∈ w.chars, (0 ≤ x.gold ∧ x.gold ≤ 4611686018427387904) ∧ 0 ≤ x.bank ∧ x.bank ≤ 4611686018427387904) (hhs : ∀ x ∈ w.houses, 0 ≤ x.chest ∧ x.chest ≤ 4611686018427387904) (hS : S.length ≤ 200000) :
    Trip Tryz.prog 272 [.pointer (some ⟨t, 0, none⟩), str name, str s, .bool back] [ts t d e S u, wl d m w, R] (fun v Ps => v = .tuple #[] ∧ Ps = [ts t d e (S ++ (chestA numM tab w name s back).2) u, wl d m (chestA numM tab w name s back).1, R]) := by
  refine Trip.of (m := 119) Tryz.func272 rfl rfl rfl ?_
  intro o Rs
  simp only [List.cons_append, List.nil_append, enumFrom]
  haveI : Plan 8 [59, 63] [0, 1, 2, 3, 4, 5, 6, 7, 8, 9, 10, 11, 12, 13, 14, 15, 16] := ⟨⟩
  haveI : Plan 13 [86, 90] [0, 1, 2, 3, 4, 5, 6, 7, 8, 9, 10, 11, 12, 13, 14, 15, 16] := ⟨⟩
  unfold chestA
  have zc : w.chars.length = (w.chars.zip m.dn).length := by rw [List.length_zip, lm.1, Nat.min_self]
  have F1 := on_spec t d e m w S u bw lm name
  rcases hc : onI w name with _ | c
  · rw [hc] at F1
    simp only [iv] at F1 ⊢
    refine goW ?_
    refine ⟨?_, by simp⟩ <;> intros
    exact ret0 ⟨rfl, by rw [List.append_nil]⟩
  obtain ⟨x, hx, hon, hnm⟩ := on_get hc
  have hcl := (List.getElem?_eq_some_iff.1 hx).1
  obtain ⟨⟨A0, c0⟩, hz, _⟩ := zip_get hx lm.1
  rw [hc] at F1
  simp only [iv, getD_of hx] at F1 ⊢
  have zh : w.houses.length = (w.houses.zip m.gs).length := by rw [List.length_zip, lm.2, Nat.min_self]
  have F2 := mine_spec t d e m w mt tab S u bw bt lm R name c x hx (by omega)
  rcases hmi : mineI tab w name c with k | l
  case inr =>
    rw [hmi] at F2
    simp only [mineV, mineL] at F2 ⊢
    refine goW ?_
    refine ⟨?_, by simp⟩ <;> intros
    exact ret0 ⟨rfl, rfl⟩
  have hmk : ∃ y, w.houses[k]? = some y := by
    unfold mineI at hmi
    rw [getD_of hx] at hmi
    split at hmi
    · cases hmi
    · split at hmi
      · cases hmi
      · rename_i k2 hk2
        split at hmi
        · simp only [Sum.inl.injEq] at hmi
          subst hmi
          obtain ⟨y, hy, _⟩ := find_get hk2
          exact ⟨y, hy⟩
        · cases hmi
  obtain ⟨y, hy⟩ := hmk
  have hkl := (List.getElem?_eq_some_iff.1 hy).1
  obtain ⟨⟨A1, c1⟩, hz1, _⟩ := zip_get hy lm.2
  rw [hmi] at F2
  simp only [mineV, mineL, List.append_nil] at F2 ⊢
  have F4 := much_spec t d e S u name s (by omega)
  have hnr := num_range s
  cases hm : muchN numM s with
  | none =>
    rw [hm] at F4
    simp only [Option.isNone_none, if_true, Option.getD_none] at F4 ⊢
    refine goW ?_
    refine ⟨?_, by simp⟩ <;> intros
    exact ret0 ⟨rfl, rfl⟩
  | some n =>
    have hn : 1 ≤ n ∧ n ≤ 1099511627776 := by
      unfold muchN at hm
      split at hm
      · cases hm
      · rename_i h
        simp only [not_or, Option.some.injEq] at h hm
        omega
    rw [hm] at F4
    simp only [Option.isNone_some, Bool.false_eq_true, if_false, Option.getD_some, List.append_nil] at F4 ⊢
    obtain ⟨hg, hbk⟩ := hb x (List.mem_of_getElem? hx)
    have hch := hhs y (List.mem_of_getElem? hy)
    rw [getD_of hy]
    have F5 := Move_spec y.chest x.gold n (by omega) (by omega) (by omega)
    have F6 := Move_spec x.gold y.chest n (by omega) (by omega) (by omega)
    cases back
    · rcases move_val x.gold y.chest n with hmv | hmv
      · rw [hmv] at F6
        simp only [Bool.false_eq_true, if_false, hmv, if_true]
        have F7 := say_spec t d e S u name [89, 111, 117, 32, 104, 97, 118, 101, 32, 110, 111, 116, 32, 115, 111, 32, 109, 117, 99, 104, 46] (by omega)
        refine goW ?_
        refine ⟨?_, by simp⟩ <;> intros
        exact ret0 ⟨rfl, rfl⟩
      · rw [hmv] at F6
        simp only [Bool.false_eq_true, if_false, hmv, reduceCtorEq]
        rw [setC_eq hx, setH_eq (w := { w with chars := w.chars.set c { x with gold := x.gold - n } }) hy]
        have hln := nT_len (y.chest + n) (by omega) (by omega)
        have F7 := n_spec (y.chest + n) (by omega) (by omega)
        have F8 := say_spec t d e S u name ([84, 104, 101, 32, 99, 104, 101, 115, 116, 32, 104, 97, 115, 32] ++ nT (y.chest + n) ++ [46]) (by omega)
        refine goW ?_
        refine ⟨?_, by simp⟩ <;> intros
        exact ret0 ⟨rfl, rfl⟩
    · rcases move_val y.chest x.gold n with hmv | hmv
      · rw [hmv] at F5
        simp only [if_true, hmv]
        have F7 := say_spec t d e S u name [84, 104, 101, 32, 99, 104, 101, 115, 116, 32, 104, 97, 115, 32, 110, 111, 116, 32, 115, 111, 32, 109, 117, 99, 104, 46] (by omega)
        refine goW ?_
        refine ⟨?_, by simp⟩ <;> intros
        exact ret0 ⟨rfl, rfl⟩
      · rw [hmv] at F5
        simp only [if_true, hmv, reduceCtorEq, if_false]
        rw [setC_eq hx, setH_eq (w := { w with chars := w.chars.set c { x with gold := x.gold + n } }) hy]
        have hln := nT_len (y.chest - n) (by omega) (by omega)
        have F7 := n_spec (y.chest - n) (by omega) (by omega)
        have F8 := say_spec t d e S u name ([84, 104, 101, 32, 99, 104, 101, 115, 116, 32, 104, 97, 115, 32] ++ nT (y.chest - n) ++ [46]) (by omega)
        refine goW ?_
        refine ⟨?_, by simp⟩ <;> intros
        exact ret0 ⟨rfl, rfl⟩
theorem Flee_spec (bw : Bw w) (bt : Bt tab) (lm : Laid m w) (R : HProp) [hr : RT R e mt tab] (name : Tx) (b : Nat) (A : Option Addr) (cc : Nat) (L : List Int) (hok : ∀ n ∈ L, -9223372036854775808 ≤ n ∧ n ≤ 9223372036854775807) (Q : HProp) (hQ : Reads Q E64 A L) (k : Nat) (hl : L.length ≤ 100000) (hS : S.length ≤ 200000) :
    Trip Tryz.prog 20 [.pointer (some ⟨t, 0, none⟩), str name, .pointer (some ⟨b, 0, none⟩)] [ts t d e S u, wl d m w, R, blk b 46 [.slice A L.length cc, .int .i64 (k : Int)], Q] (fun v Ps => v = .tuple #[] ∧ Ps = [ts t d e (S ++ (fleeA tab w name (rollN L k 6).1).2) u, wl d m (fleeA tab w name (rollN L k 6).1).1, R, blk b 46 [.slice A L.length cc, .int .i64 ((match onI w name with
      | none => k
      | some c => if (w.chars.getD c default).foe = 0 then k else (rollN L k 6).2 : Nat) : Int)], Q]) := by
  refine Trip.of (m := 69) Tryz.func20 rfl rfl rfl ?_
  intro o Rs
  simp only [List.cons_append, List.nil_append, enumFrom]
  haveI : Plan 4 [32, 35, 39] [0, 1, 2, 3, 4, 5, 6, 7, 8, 9, 10, 11, 12, 13, 14, 15, 16] := ⟨⟩
  unfold fleeA
  have zc : w.chars.length = (w.chars.zip m.dn).length := by rw [List.length_zip, lm.1, Nat.min_self]
  have F1 := on_spec t d e m w S u bw lm name
  rcases hc : onI w name with _ | c
  · rw [hc] at F1
    simp only [iv] at F1 ⊢
    refine goW ?_
    refine ⟨?_, by simp⟩ <;> intros
    exact ret0 ⟨rfl, by rw [List.append_nil]⟩
  obtain ⟨x, hx, hon, hnm⟩ := on_get hc
  have hcl := (List.getElem?_eq_some_iff.1 hx).1
  obtain ⟨⟨A0, c0⟩, hz, _⟩ := zip_get hx lm.1
  rw [hc] at F1
  simp only [iv, getD_of hx] at F1 ⊢
  by_cases hfo : x.foe = 0
  · rw [if_pos hfo, if_pos hfo]
    have F2 := say_spec t d e S u name [89, 111, 117, 32, 97, 114, 101, 32, 110, 111, 116, 32, 102, 105, 103, 104, 116, 105, 110, 103, 46] (by omega)
    refine goW ?_
    refine ⟨?_, by simp⟩ <;> intros
    exact ret0 ⟨rfl, rfl⟩
  rw [if_neg hfo, if_neg hfo]
  have hrr := roll_range L k 6 (by decide)
  have F2 := Roll_spec b A cc L hok Q hQ k hl 6 (by decide) (by decide)
  generalize rollN L k 6 = r at *
  have F3 := exit_spec t d e mt tab S u bt R x.room (r.1 - 1)
  generalize exitN tab x.room (r.1 - 1) = to at *
  have F4 := locked_spec t d e m w S u bw lm to name
  have F5 := say_spec t d e S u name [89, 111, 117, 32, 99, 97, 110, 110, 111, 116, 32, 103, 101, 116, 32, 97, 119, 97, 121, 46] (by omega)
  by_cases h1 : to = 0 ∨ lockedB w to name = true
  · rw [if_pos h1]
    by_cases h0 : to = 0
    · refine goW ?_
      (repeat' (first | exact trivial | apply And.intro | intro _))
      all_goals first
        | (exfalso; first | contradiction | omega)
        | exact ret0 ⟨rfl, rfl⟩
    · have h3 := h1.resolve_left h0
      rw [h3] at F4
      refine goW ?_
      (repeat' (first | exact trivial | apply And.intro | intro _))
      all_goals first
        | (exfalso; first | contradiction | omega)
        | exact ret0 ⟨rfl, rfl⟩
  · rw [if_neg h1]
    have h2 : ¬ to = 0 := fun h => h1 (.inl h)
    have h3 : lockedB w to name = false := by simpa using fun h => h1 (.inr h)
    rw [h3] at F4
    rw [setC_eq hx]
    have bw2 := bw_setc bw hx { x with foe := 0 } rfl
    have lm2 := laid_setc lm c { x with foe := 0 }
    have F6 := goes_spec t d e m { w with chars := w.chars.set c { x with foe := 0 } } mt tab S u bw2 bt lm2 R c { x with foe := 0 } (by rw [List.getElem?_set_self hcl]) to hS
    refine goW ?_
    (repeat' (first | exact trivial | apply And.intro | intro _))
    all_goals first
      | (exfalso; first | contradiction | omega)
      | exact ret0 ⟨rfl, rfl⟩
end
end Go.Proofs.YtflmbhkjhfmeoaaGreat
