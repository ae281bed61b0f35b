/-
  Walks and laws joined: WdDrop.
-/
import Derived.Test.YtflmbhkjhfmeoaaGreatQ11
set_option linter.unusedVariables false
set_option linter.unusedSimpArgs false
namespace Go.Proofs.YtflmbhkjhfmeoaaGreat
open Go.SL
set_option maxHeartbeats 8000000
set_option maxRecDepth 20000
section
variable (t d e : Nat) (m : Lay) (w : Wld) (mt : Tay) (tab : Tab) (S : List Sy) (u : Int)
theorem Drop_spec (bw : Bw w) (bt : Bt tab) (lm : Laid m w) (R : HProp) [hr : RT R e mt tab] (name word : Tx) (hn : name.length ≤ 10000) (hw : word.length ≤ 10000) (hS : S.length ≤ 200000) :
    Trip Tryz.prog 217 [.pointer (some ⟨t, 0, none⟩), str name, str word] [ts t d e S u, wl d m w, R] (fun v Ps => v = .tuple #[] ∧ Ps = [ts t d e (S ++ (dropA numM tab w name word).2) u, wl d m (dropA numM tab w name word).1, R]) := by
  refine Trip.of (m := 76) Tryz.func217 rfl rfl rfl ?_
  intro o Rs
  simp only [List.cons_append, List.nil_append, enumFrom]
  unfold dropA
  have zc : w.chars.length = (w.chars.zip m.dn).length := by rw [List.length_zip, lm.1, Nat.min_self]
  have F1 := on_spec t d e m w S u bw lm name
  rcases hc : onI w name with _ | c
  · rw [hc] at F1
    simp only [iv] at F1 ⊢
    refine goW ?_
    refine ⟨?_, by simp⟩ <;> intros
    exact ret0 ⟨rfl, by rw [List.append_nil]⟩
  obtain ⟨x, hx, hon, hnm⟩ := on_get hc
  have hcl := (List.getElem?_eq_some_iff.1 hx).1
  obtain ⟨⟨A0, c0⟩, hz, _⟩ := zip_get hx lm.1
  rw [hc] at F1
  simp only [iv, getD_of hx] at F1 ⊢
  have b1 := bw.nt
  have F2 := have_spec t d e m w mt tab S u bw bt lm R name word (by omega) (by omega)
  cases hf : findA numM tab w (ofL w name 2) word with
  | none =>
    rw [hf] at F2
    simp only [iv, Option.isNone_none, if_true] at F2 ⊢
    refine goW ?_
    refine ⟨?_, by simp⟩ <;> intros
    exact ret0 ⟨rfl, rfl⟩
  | some k =>
    obtain ⟨z, hz2⟩ := findA_get hf
    have hkl := (List.getElem?_eq_some_iff.1 hz2).1
    rw [hf] at F2
    simp only [iv, Option.isNone_some, Bool.false_eq_true, if_false, List.append_nil] at F2 ⊢
    have F3 := Here_spec d m w x.room (by omega) (wl d m w)
    have hil := ints_len (hereL w x.room)
    by_cases hld : 30 ≤ (hereL w x.room).length
    · rw [if_pos hld]
      have F5 := say_spec t d e S u name [84, 104, 101, 114, 101, 32, 105, 115, 32, 110, 111, 32, 114, 111, 111, 109, 32, 104, 101, 114, 101, 46] (by omega)
      refine goW ?_
      refine ⟨?_, by simp⟩ <;> intros
      exact ret0 ⟨rfl, rfl⟩
    · rw [if_neg hld]
      have bw2 := bw_put bw k 1 x.room []
      have lm2 := laid_put lm k 1 x.room []
      have hz3 := put_get hz2 1 x.room []
      have htn : thingN tab w k = kindN tab z.proto := by rw [thingN, getD_of hz2]
      have hkl3 : k < (putW w k 1 x.room []).things.length := (List.getElem?_eq_some_iff.1 hz3).1
      have hkd := kind_len bt z.proto
      have hcp := cap_len name
      have F5 := put_spec t d e m w S u bw k z hz2 1 x.room []
      have F6 := kind_spec t d e mt tab S u bt R z.proto
      rw [← htn] at F6 hkd
      generalize thingN tab w k = tn at *
      generalize putW w k 1 x.room [] = w2 at *
      simp only at hz3 ⊢
      have F7 := say_spec t d e S u name ([89, 111, 117, 32, 100, 114, 111, 112, 32, 97, 32] ++ tn ++ [46]) (by omega)
      have F8 := Cap_spec name (by omega)
      have F9 := others_spec t d e m w2 (S ++ [(name, [89, 111, 117, 32, 100, 114, 111, 112, 32, 97, 32] ++ tn ++ [46])]) u x.room name (capT name ++ [32, 100, 114, 111, 112, 115, 32, 97, 32] ++ tn ++ [46]) (by rw [List.length_append, List.length_singleton]; omega) bw2.nc lm2
      simp only [← List.append_assoc] at F9 ⊢
      refine goW ?_
      refine ⟨?_, by simp⟩ <;> intros
      exact ret0 ⟨rfl, rfl⟩
theorem Give_spec (bw : Bw w) (bt : Bt tab) (lm : Laid m w) (R : HProp) [hr : RT R e mt tab] (name word to0 : Tx) (hn : name.length ≤ 10000) (hw : word.length ≤ 10000) (ht : to0.length ≤ 10000) (hS : S.length ≤ 200000) :
    Trip Tryz.prog 223 [.pointer (some ⟨t, 0, none⟩), str name, str word, str to0] [ts t d e S u, wl d m w, R] (fun v Ps => v = .tuple #[] ∧ Ps = [ts t d e (S ++ (giveA numM lowerM tab w name word to0).2) u, wl d m (giveA numM lowerM tab w name word to0).1, R]) := by
  refine Trip.of (m := 106) Tryz.func223 rfl rfl rfl ?_
  intro o Rs
  simp only [List.cons_append, List.nil_append, enumFrom]
  unfold giveA
  have zc : w.chars.length = (w.chars.zip m.dn).length := by rw [List.length_zip, lm.1, Nat.min_self]
  have F1 := on_spec t d e m w S u bw lm name
  rcases hc : onI w name with _ | c
  · rw [hc] at F1
    simp only [iv] at F1 ⊢
    refine goW ?_
    refine ⟨?_, by simp⟩ <;> intros
    exact ret0 ⟨rfl, by rw [List.append_nil]⟩
  obtain ⟨x, hx, hon, hnm⟩ := on_get hc
  have hcl := (List.getElem?_eq_some_iff.1 hx).1
  obtain ⟨⟨A0, c0⟩, hz, _⟩ := zip_get hx lm.1
  rw [hc] at F1
  simp only [iv, getD_of hx] at F1 ⊢
  have b1 := bw.nt
  have F2 := have_spec t d e m w mt tab S u bw bt lm R name word (by omega) (by omega)
  cases hf : findA numM tab w (ofL w name 2) word with
  | none =>
    rw [hf] at F2
    simp only [iv, Option.isNone_none, if_true] at F2 ⊢
    refine goW ?_
    refine ⟨?_, by simp⟩ <;> intros
    exact ret0 ⟨rfl, rfl⟩
  | some k =>
    obtain ⟨z, hz2⟩ := findA_get hf
    have hkl := (List.getElem?_eq_some_iff.1 hz2).1
    rw [hf] at F2
    simp only [iv, Option.isNone_some, Bool.false_eq_true, if_false, List.append_nil] at F2 ⊢
    have F3 := RefLower_spec to0 (by omega)
    have hll := lower_len to0
    generalize lowerM to0 = to at *
    have F4 := on_spec t d e m w S u bw lm to
    have F5 := say_spec t d e S u name [84, 104, 101, 121, 32, 97, 114, 101, 32, 110, 111, 116, 32, 104, 101, 114, 101, 46] (by omega)
    rcases hd : onI w to with _ | g
    · rw [hd] at F4
      simp only [iv] at F4 ⊢
      refine goW ?_
      refine ⟨?_, by simp⟩ <;> intros
      exact ret0 ⟨rfl, rfl⟩
    obtain ⟨y, hy, hyon, hynm⟩ := on_get hd
    have hgl := (List.getElem?_eq_some_iff.1 hy).1
    obtain ⟨⟨A1, c1⟩, hz4, _⟩ := zip_get hy lm.1
    rw [hd] at F4
    simp only [iv, getD_of hy] at F4 ⊢
    by_cases hgc : g = c ∨ y.room ≠ x.room
    · rw [if_pos hgc]
      rcases hgc with hgc | hgc
      · subst hgc
        refine goW ?_
        refine ⟨?_, by simp⟩ <;> intros
        exact ret0 ⟨rfl, rfl⟩
      · refine go ?_
        (repeat' (first | exact trivial | apply And.intro | intro _))
        all_goals exact ret0 ⟨rfl, rfl⟩
    · rw [if_neg hgc]
      have hg1 : ¬ g = c := fun h => hgc (.inl h)
      have hg2 : y.room = x.room := Decidable.not_not.1 fun h => hgc (.inr h)
      have F6 := load_spec t d e m w S u bw to
      by_cases hld : 10 ≤ loadN w to
      · rw [if_pos hld]
        have F7 := say_spec t d e S u name [84, 104, 101, 121, 32, 99, 97, 110, 110, 111, 116, 32, 99, 97, 114, 114, 121, 32, 109, 111, 114, 101, 46] (by omega)
        refine goW ?_
        refine ⟨?_, by simp⟩ <;> intros
        exact ret0 ⟨rfl, rfl⟩
      · rw [if_neg hld]
        have hz3 := put_get hz2 2 0 to
        have htn : thingN tab w k = kindN tab z.proto := by rw [thingN, getD_of hz2]
        have hkl3 : k < (putW w k 2 0 to).things.length := (List.getElem?_eq_some_iff.1 hz3).1
        have hkd := kind_len bt z.proto
        have hcp := cap_len name
        have hct := cap_len to
        have F7 := put_spec t d e m w S u bw k z hz2 2 0 to
        have F8 := kind_spec t d e mt tab S u bt R z.proto
        rw [← htn] at F8 hkd
        generalize thingN tab w k = tn at *
        generalize putW w k 2 0 to = w2 at *
        simp only at hz3 ⊢
        rw [show ∀ (a b : Sy), S ++ [a, b] = S ++ [a] ++ [b] from fun a b => by rw [List.append_assoc]; rfl]
        have F9 := Cap_spec to (by omega)
        have F10 := say_spec t d e S u name ([89, 111, 117, 32, 103, 105, 118, 101, 32, 97, 32] ++ tn ++ [32, 116, 111, 32] ++ capT to ++ [46]) (by omega)
        refine goW ?_
        refine ⟨?_, by simp⟩ <;> intros
        clear F1 F2 F3 F4 F5 F6 F7 F8 F9 F10
        have F1 := Cap_spec name (by omega)
        have F2 := say_spec t d e (S ++ [(name, [89, 111, 117, 32, 103, 105, 118, 101, 32, 97, 32] ++ tn ++ [32, 116, 111, 32] ++ capT to ++ [46])]) u to (capT name ++ [32, 103, 105, 118, 101, 115, 32, 121, 111, 117, 32, 97, 32] ++ tn ++ [46]) (by rw [List.length_append, List.length_singleton]; omega)
        refine goW ?_
        refine ⟨?_, by simp⟩ <;> intros
        exact ret0 ⟨rfl, rfl⟩
end
end Go.Proofs.YtflmbhkjhfmeoaaGreat
