/-
  Walks and laws joined: WdSteps.
-/
import Derived.Test.YtflmbhkjhfmeoaaGreatQ27
import Derived.Test.YtflmbhkjhfmeoaaGreatQ38
set_option linter.unusedVariables false
set_option linter.unusedSimpArgs false
namespace Go.Proofs.YtflmbhkjhfmeoaaGreat
open Go.SL
set_option maxHeartbeats 8000000
set_option maxRecDepth 20000
section
variable (t d e : Nat) (m : Lay) (w : Wld) (mt : Tay) (tab : Tab) (S : List Sy) (u : Int)
theorem step_on (bw : Bw w) (bt : Bt tab) (lm : Laid m w) (R : HProp) [hr : RT R e mt tab] (nm tx : Tx) (D : Option Addr) (dc : List Int) (mm : Nat) (hnl : nm.length ≤ 1000) (hS : S.length ≤ 100000) :
    Trip Tryz.prog 51 [.pointer (some ⟨t, 0, none⟩), evV 2 nm tx D dc.length mm] [ts t d e S u, wl d m w, R] (fun v Ps => v = .tuple #[] ∧ Ps = [ts t d e (S ++ (wakeA tab w nm).2) u, wl d m (wakeA tab w nm).1, R]) := by
  refine Trip.of (m := 234) Tryz.func51 rfl rfl rfl ?_
  intro o Rs
  simp only [List.cons_append, List.nil_append, enumFrom]
  haveI : Plan 1 [13, 15] [0, 1, 2, 3, 4, 5, 6, 7] := ⟨⟩
  haveI : Plan 5 [49, 52, 55, 57, 61] [0, 1, 2, 3, 4, 5, 6, 8, 9, 10, 11, 12, 13, 14, 15, 7, 16, 17, 18, 19, 20] := ⟨⟩
  haveI : Plans 9 [89, 91, 95] [9, 10, 11, 12] [[0, 1, 2, 3, 4, 5, 6, 7, 8, 9, 10, 11, 12], [0, 1, 2, 3, 4, 5, 6, 7, 8, 10, 9, 11, 12]] := ⟨⟩
  haveI : Plan 17 [151, 153] [0, 1, 2, 3, 4, 5, 6, 7, 8] := ⟨⟩
  haveI : Plan 18 [162, 165, 169, 171, 173] [0, 1, 2, 3, 4, 5, 6, 7, 8, 9, 10, 11, 12, 13, 14, 15, 16, 17, 18] := ⟨⟩
  have b1 := bw.nc
  have F1 := Char_spec d m w nm (by omega) lm (wl d m w)
  unfold wakeA
  cases hc : charI w nm with
  | none =>
    rw [hc] at F1
    simp only [iv] at F1 ⊢
    refine goW ?_
    refine ⟨?_, by simp⟩ <;> intros
    exact ret0 (Ps := [ts t d e (S ++ []) u, wl d m w, R]) ⟨rfl, rfl⟩ (hh := by rw [List.append_nil]; (exact ent_))
  | some c =>
    obtain ⟨x, hx, hxn⟩ := find_get hc
    have hcl := (List.getElem?_eq_some_iff.1 hx).1
    obtain ⟨⟨A0, c0⟩, hz, _⟩ := zip_get hx lm.1
    have zc : w.chars.length = (w.chars.zip m.dn).length := by rw [List.length_zip, lm.1, Nat.min_self]
    rw [hc] at F1
    simp only [iv, getD_of hx] at F1 ⊢
    clear hc
    cases hon : x.on with
    | true =>
      simp only [if_true]
      refine goW ?_
      (repeat' (first | exact trivial | apply And.intro | intro _))
      all_goals first
        | (exfalso; first | exact absurd (hon.symm.trans (by assumption : x.on = true)) (by decide) | exact absurd (hon.symm.trans (by assumption : x.on = false)) (by decide) | omega)
        | exact ret0 (Ps := [ts t d e (S ++ []) u, wl d m w, R]) ⟨rfl, rfl⟩ (hh := by rw [List.append_nil]; (exact ent_))
    | false =>
      simp only [Bool.false_eq_true, if_false]
      rw [setC_eq hx]
      have hcp := cap_len nm
      have bw2 := bw_setc bw hx { x with on := true } rfl
      have lm2 := laid_setc lm c { x with on := true }
      have F2 := Cap_spec nm (by omega)
      obtain ⟨tx1, htx⟩ : ∃ tx1, tx1 = [87, 101, 108, 99, 111, 109, 101, 44, 32] ++ capT nm ++ [46] := ⟨_, rfl⟩
      rw [← htx]
      have F3 : Trip Tryz.prog 54 [.pointer (some ⟨t, 0, none⟩), str nm, str ([87, 101, 108, 99, 111, 109, 101, 44, 32] ++ capT nm ++ [46])] [ts t d e S u] (fun v Ps => v = .tuple #[] ∧ Ps = [ts t d e (S ++ [(nm, tx1)]) u]) := by
        rw [htx]; exact say_spec t d e S u nm _ (by omega)
      have o2 : (othersL { w with chars := w.chars.set c { x with on := true } } x.room nm (capT nm ++ [32, 119, 97, 107, 101, 115, 46])).length ≤ 1000 := Nat.le_trans (oth_len ..) (Nat.le_trans (pos_len _ _) bw2.nc)
      have F4 := others_spec t d e m { w with chars := w.chars.set c { x with on := true } } (S ++ [(nm, tx1)]) u x.room nm (capT nm ++ [32, 119, 97, 107, 101, 115, 46]) (by rw [List.length_append]; simp only [List.length_cons, List.length_nil]; omega) bw2.nc lm2
      have F5 := RoomS_spec t d e m { w with chars := w.chars.set c { x with on := true } } mt tab (S ++ [(nm, tx1)] ++ othersL { w with chars := w.chars.set c { x with on := true } } x.room nm (capT nm ++ [32, 119, 97, 107, 101, 115, 46])) u bw2 bt lm2 R nm (by rw [List.length_append, List.length_append]; simp only [List.length_cons, List.length_nil]; omega)
      generalize othersL { w with chars := w.chars.set c { x with on := true } } x.room nm (capT nm ++ [32, 119, 97, 107, 101, 115, 46]) = ol at *
      generalize roomS tab { w with chars := w.chars.set c { x with on := true } } nm = rl at *
      clear htx o2
      have hxs : (w.chars.set c { x with on := true })[c]? = some { x with on := true } := List.getElem?_set_self hcl
      have hzs : ((w.chars.set c { x with on := true }).zip m.dn)[c]? = some ({ x with on := true }, A0, c0) := by
        rw [List.getElem?_zip_eq_some]
        exact ⟨hxs, (List.getElem?_zip_eq_some.1 hz).2⟩
      have zcs : (w.chars.set c { x with on := true }).length = ((w.chars.set c { x with on := true }).zip m.dn).length := by rw [List.length_zip, List.length_set, lm.1, Nat.min_self]
      have hcls : c < (w.chars.set c { x with on := true }).length := by rw [List.length_set]; exact hcl
      simp only [← List.append_assoc] at F5 ⊢
      refine goW ?_
      (repeat' (first | exact trivial | apply And.intro | intro _))
      all_goals first
        | (exfalso; first | exact absurd (hon.symm.trans (by assumption : x.on = true)) (by decide) | exact absurd (hon.symm.trans (by assumption : x.on = false)) (by decide) | omega)
        | exact ret0 ⟨rfl, rfl⟩
theorem step_off (bw : Bw w) (lm : Laid m w) (nm tx : Tx) (D : Option Addr) (dc : List Int) (mm : Nat) (hnl : nm.length ≤ 1000) (hS : S.length ≤ 100000) :
    Trip Tryz.prog 51 [.pointer (some ⟨t, 0, none⟩), evV 3 nm tx D dc.length mm] [ts t d e S u, wl d m w] (fun v Ps => v = .tuple #[] ∧ Ps = [ts t d e (S ++ (stepA tab w ⟨3, nm, tx, dc⟩).2) u, wl d m (stepA tab w ⟨3, nm, tx, dc⟩).1]) := by
  refine Trip.of (m := 234) Tryz.func51 rfl rfl rfl ?_
  intro o Rs
  simp only [List.cons_append, List.nil_append, enumFrom]
  haveI : Plan 1 [13, 15] [0, 1, 2, 3, 4, 5, 6, 7] := ⟨⟩
  haveI : Plan 5 [49, 52, 55, 57, 61] [0, 1, 2, 3, 4, 5, 6, 8, 9, 10, 11, 12, 13, 14, 15, 7, 16, 17, 18, 19, 20] := ⟨⟩
  haveI : Plans 9 [89, 91, 95] [9, 10, 11, 12] [[0, 1, 2, 3, 4, 5, 6, 7, 8, 9, 10, 11, 12], [0, 1, 2, 3, 4, 5, 6, 7, 8, 10, 9, 11, 12]] := ⟨⟩
  haveI : Plan 17 [151, 153] [0, 1, 2, 3, 4, 5, 6, 7, 8] := ⟨⟩
  haveI : Plan 18 [162, 165, 169, 171, 173] [0, 1, 2, 3, 4, 5, 6, 7, 8, 9, 10, 11, 12, 13, 14, 15, 16, 17, 18] := ⟨⟩
  have b1 := bw.nc
  have F1 := Char_spec d m w nm (by omega) lm (wl d m w)
  have e0 : stepA tab w ⟨3, nm, tx, dc⟩ = (match charI w nm with
    | none => (w, [])
    | some c => if (w.chars.getD c default).on = true then offA w c [32, 102, 97, 100, 101, 115, 46] else (w, [])) := by
    rfl
  rw [e0]
  cases hc : charI w nm with
  | none =>
    rw [hc] at F1
    simp only [iv] at F1 ⊢
    refine goW ?_
    refine ⟨?_, by simp⟩ <;> intros
    exact ret0 (Ps := [ts t d e (S ++ []) u, wl d m w]) ⟨rfl, rfl⟩ (hh := by rw [List.append_nil]; (exact ent_))
  | some c =>
    obtain ⟨x, hx, hxn⟩ := find_get hc
    have hcl := (List.getElem?_eq_some_iff.1 hx).1
    obtain ⟨⟨A0, c0⟩, hz, _⟩ := zip_get hx lm.1
    have zc : w.chars.length = (w.chars.zip m.dn).length := by rw [List.length_zip, lm.1, Nat.min_self]
    rw [hc] at F1
    simp only [iv, getD_of hx] at F1 ⊢
    clear hc
    cases hon : x.on with
    | false =>
      simp only [Bool.false_eq_true, if_false]
      refine goW ?_
      (repeat' (first | exact trivial | apply And.intro | intro _))
      all_goals first
        | (exfalso; first | exact absurd (hon.symm.trans (by assumption : x.on = true)) (by decide) | exact absurd (hon.symm.trans (by assumption : x.on = false)) (by decide) | omega)
        | exact ret0 (Ps := [ts t d e (S ++ []) u, wl d m w]) ⟨rfl, rfl⟩ (hh := by rw [List.append_nil]; (exact ent_))
    | true =>
      simp only [if_true]
      have F2 := off_spec t d e m w S u bw lm c x hx [32, 102, 97, 100, 101, 115, 46] (by decide) (by omega)
      refine goW ?_
      (repeat' (first | exact trivial | apply And.intro | intro _))
      all_goals first
        | (exfalso; first | exact absurd (hon.symm.trans (by assumption : x.on = true)) (by decide) | exact absurd (hon.symm.trans (by assumption : x.on = false)) (by decide) | omega)
        | exact ret0 ⟨rfl, rfl⟩
theorem step_boot (bw : Bw w) (lm : Laid m w) (nm tx : Tx) (D : Option Addr) (dc : List Int) (mm : Nat) :
    Trip Tryz.prog 51 [.pointer (some ⟨t, 0, none⟩), evV 6 nm tx D dc.length mm] [ts t d e S u, wl d m w] (fun v Ps => v = .tuple #[] ∧ Ps = [ts t d e S u, wl d m (bootA w)]) := by
  refine Trip.of (m := 234) Tryz.func51 rfl rfl rfl ?_
  intro o Rs
  simp only [List.cons_append, List.nil_append, enumFrom]
  haveI : Plan 1 [13, 15] [0, 1, 2, 3, 4, 5, 6, 7] := ⟨⟩
  haveI : Plan 5 [49, 52, 55, 57, 61] [0, 1, 2, 3, 4, 5, 6, 8, 9, 10, 11, 12, 13, 14, 15, 7, 16, 17, 18, 19, 20] := ⟨⟩
  haveI : Plans 9 [89, 91, 95] [9, 10, 11, 12] [[0, 1, 2, 3, 4, 5, 6, 7, 8, 9, 10, 11, 12], [0, 1, 2, 3, 4, 5, 6, 7, 8, 10, 9, 11, 12]] := ⟨⟩
  haveI : Plan 17 [151, 153] [0, 1, 2, 3, 4, 5, 6, 7, 8] := ⟨⟩
  haveI : Plan 18 [162, 165, 169, 171, 173] [0, 1, 2, 3, 4, 5, 6, 7, 8, 9, 10, 11, 12, 13, 14, 15, 16, 17, 18] := ⟨⟩
  have b1 := bw.nc
  have F1 := Char_spec d m w nm (by omega) lm (wl d m w)
  have F2 := Boot_spec d m w bw lm
  refine goW ?_
  refine ⟨?_, by simp⟩ <;> intros
  exact ret0 ⟨rfl, rfl⟩
theorem step_none (bw : Bw w) (lm : Laid m w) (k : Int) (nm tx : Tx) (D : Option Addr) (dc : List Int) (mm : Nat) (hk : k < 1 ∨ 6 < k) :
    Trip Tryz.prog 51 [.pointer (some ⟨t, 0, none⟩), evV k nm tx D dc.length mm] [ts t d e S u, wl d m w] (fun v Ps => v = .tuple #[] ∧ Ps = [ts t d e S u, wl d m w]) := by
  refine Trip.of (m := 234) Tryz.func51 rfl rfl rfl ?_
  intro o Rs
  simp only [List.cons_append, List.nil_append, enumFrom]
  haveI : Plan 1 [13, 15] [0, 1, 2, 3, 4, 5, 6, 7] := ⟨⟩
  haveI : Plan 5 [49, 52, 55, 57, 61] [0, 1, 2, 3, 4, 5, 6, 8, 9, 10, 11, 12, 13, 14, 15, 7, 16, 17, 18, 19, 20] := ⟨⟩
  haveI : Plans 9 [89, 91, 95] [9, 10, 11, 12] [[0, 1, 2, 3, 4, 5, 6, 7, 8, 9, 10, 11, 12], [0, 1, 2, 3, 4, 5, 6, 7, 8, 10, 9, 11, 12]] := ⟨⟩
  haveI : Plan 17 [151, 153] [0, 1, 2, 3, 4, 5, 6, 7, 8] := ⟨⟩
  haveI : Plan 18 [162, 165, 169, 171, 173] [0, 1, 2, 3, 4, 5, 6, 7, 8, 9, 10, 11, 12, 13, 14, 15, 16, 17, 18] := ⟨⟩
  have b1 := bw.nc
  have F1 := Char_spec d m w nm (by omega) lm (wl d m w)
  refine goW ?_
  (repeat' (first | exact trivial | apply And.intro | intro _))
  all_goals first
    | (exfalso; omega)
    | exact ret0 ⟨rfl, rfl⟩
theorem step_tick {s K : Nat} (g : Good tab) (h : Iv tab s K w) (hs : s ≤ 1000) (hK : K ≤ 50000) (lm : Laid m w) (R : HProp) [hr : RT R e mt tab] (nm tx : Tx) (D : Option Addr) (dc : List Int) (mm : Nat) (hok : ∀ n ∈ dc, -9223372036854775808 ≤ n ∧ n ≤ 9223372036854775807) (Q : HProp) (hQ : Reads Q E64 D dc) (hl : dc.length ≤ 100000) (hS : S.length ≤ 10000) :
    Trip Tryz.prog 51 [.pointer (some ⟨t, 0, none⟩), evV 5 nm tx D dc.length mm] [ts t d e S u, wl d m w, R, Q] (fun v Ps => ∃ m', v = .tuple #[] ∧ Ps = [ts t d e (S ++ (tickA tab dc w).2) u, wl d m' (tickA tab dc w).1, R, Q]) := by
  refine Trip.of (m := 234) Tryz.func51 rfl rfl rfl ?_
  intro o Rs
  simp only [List.cons_append, List.nil_append, enumFrom]
  haveI : Plan 1 [13, 15] [0, 1, 2, 3, 4, 5, 6, 7] := ⟨⟩
  haveI : Plan 5 [49, 52, 55, 57, 61] [0, 1, 2, 3, 4, 5, 6, 8, 9, 10, 11, 12, 13, 14, 15, 7, 16, 17, 18, 19, 20] := ⟨⟩
  haveI : Plans 9 [89, 91, 95] [9, 10, 11, 12] [[0, 1, 2, 3, 4, 5, 6, 7, 8, 9, 10, 11, 12], [0, 1, 2, 3, 4, 5, 6, 7, 8, 10, 9, 11, 12]] := ⟨⟩
  haveI : Plan 17 [151, 153] [0, 1, 2, 3, 4, 5, 6, 7, 8] := ⟨⟩
  haveI : Plan 18 [162, 165, 169, 171, 173] [0, 1, 2, 3, 4, 5, 6, 7, 8, 9, 10, 11, 12, 13, 14, 15, 16, 17, 18] := ⟨⟩
  have bw := iv_bw h hs (by omega)
  have b1 := bw.nc
  have F1 := Char_spec d m w nm (by omega) lm (wl d m w)
  have tk := tik_of g h hs hK dc
  have F2 := Tick_spec t d e m w mt tab S u (bt_of g) dc _ _ tk R D mm hok Q hQ hl hS
  generalize tickA tab dc w = r at *
  clear tk h g
  refine goW ?_
  refine ⟨?_, by simp⟩ <;> intros
  exact ret0 ⟨_, rfl, rfl⟩
end
end Go.Proofs.YtflmbhkjhfmeoaaGreat
