/-
  Walks and laws joined: WdWear.
-/
import Derived.Test.YtflmbhkjhfmeoaaGreatQ12
set_option linter.unusedVariables false
set_option linter.unusedSimpArgs false
namespace Go.Proofs.YtflmbhkjhfmeoaaGreat
open Go.SL
set_option maxHeartbeats 8000000
set_option maxRecDepth 20000
theorem of_mem {w : Wld} {name : Tx} {p : Int} {k i : Nat} (h : (ofL w name p)[k]? = some i) : ∃ x, w.things[i]? = some x ∧ x.who = name ∧ x.place = p := by
  obtain ⟨x, hx, hp⟩ := pos_mem (List.mem_of_getElem? h)
  simp only [Bool.and_eq_true, beq_iff_eq] at hp
  exact ⟨x, hx, hp.2, hp.1.2⟩
theorem any_step {α : Type} {f : α → Bool} {l : List α} {k : Nat} {i : α} (h : (l.take k).any f = false) (hi : l[k]? = some i) (hf : f i = false) : (l.take (k + 1)).any f = false := by
  rw [List.take_add_one, hi, List.any_append, h]; simpa using hf
theorem any_hit {α : Type} {f : α → Bool} {l : List α} {k : Nat} {i : α} (hi : l[k]? = some i) (hf : f i = true) : l.any f = true := List.any_eq_true.2 ⟨i, List.mem_of_getElem? hi, hf⟩
theorem fst_step {α : Type} {f : α → Bool} {l : List α} {k : Nat} {i : α} (h : (l.take k).find? f = none) (hi : l[k]? = some i) (hf : f i = false) : (l.take (k + 1)).find? f = none := by
  rw [List.take_add_one, hi, List.find?_append, h]; simp [hf]
theorem fst_hit {α : Type} {f : α → Bool} {l : List α} {k : Nat} {i : α} (h : (l.take k).find? f = none) (hi : l[k]? = some i) (hf : f i = true) : l.find? f = some i := by
  have e : l = l.take (k + 1) ++ l.drop (k + 1) := (List.take_append_drop _ _).symm
  rw [e, List.find?_append, List.take_add_one, hi, List.find?_append, h]; simp [hf]
section
variable (t d e : Nat) (m : Lay) (w : Wld) (mt : Tay) (tab : Tab) (S : List Sy) (u : Int)
theorem Wear_spec (bw : Bw w) (bt : Bt tab) (lm : Laid m w) (R : HProp) [hr : RT R e mt tab] (name word : Tx) (hn : name.length ≤ 10000) (hw : word.length ≤ 10000) (hS : S.length ≤ 200000) :
    Trip Tryz.prog 220 [.pointer (some ⟨t, 0, none⟩), str name, str word] [ts t d e S u, wl d m w, R] (fun v Ps => v = .tuple #[] ∧ Ps = [ts t d e (S ++ (wearA numM tab w name word).2) u, wl d m (wearA numM tab w name word).1, R]) := by
  refine Trip.of (m := 73) Tryz.func220 rfl rfl rfl ?_
  intro o Rs
  simp only [List.cons_append, List.nil_append, enumFrom]
  unfold wearA
  have zc : w.chars.length = (w.chars.zip m.dn).length := by rw [List.length_zip, lm.1, Nat.min_self]
  have F1 := on_spec t d e m w S u bw lm name
  rcases hc : onI w name with _ | c
  · rw [hc] at F1
    simp only [iv] at F1 ⊢
    refine goW ?_
    refine ⟨?_, by simp⟩ <;> intros
    exact ret0 ⟨rfl, by rw [List.append_nil]⟩
  obtain ⟨x, hx, hon, hnm⟩ := on_get hc
  have hcl := (List.getElem?_eq_some_iff.1 hx).1
  obtain ⟨⟨A0, c0⟩, hz, _⟩ := zip_get hx lm.1
  rw [hc] at F1
  simp only [iv, getD_of hx] at F1 ⊢
  have b1 := bw.nt
  have F2 := have_spec t d e m w mt tab S u bw bt lm R name word (by omega) (by omega)
  cases hf : findA numM tab w (ofL w name 2) word with
  | none =>
    rw [hf] at F2
    simp only [iv, Option.isNone_none, if_true] at F2 ⊢
    refine goW ?_
    refine ⟨?_, by simp⟩ <;> intros
    exact ret0 ⟨rfl, rfl⟩
  | some k =>
    obtain ⟨z, hz2⟩ := findA_get hf
    have hkl := (List.getElem?_eq_some_iff.1 hz2).1
    rw [hf] at F2
    simp only [iv, Option.isNone_some, Bool.false_eq_true, if_false, List.append_nil] at F2 ⊢
    have F3 := slot_spec t d e m w mt tab S u bw bt R k z hz2
    by_cases hs0 : slotN tab w k = 0
    · rw [if_pos hs0]
      rw [hs0] at F3
      have F4 := say_spec t d e S u name [89, 111, 117, 32, 99, 97, 110, 110, 111, 116, 32, 119, 101, 97, 114, 32, 116, 104, 97, 116, 46] (by omega)
      refine goW ?_
      refine ⟨?_, by simp⟩ <;> intros
      exact ret0 ⟨rfl, rfl⟩
    · rw [if_neg hs0]
      have F4 := Of_spec d m w name 3 (by omega) (wl d m w)
      generalize hsk : slotN tab w k = sk at *
      refine goW ?_
      refine ⟨?_, by simp⟩ <;> intros
      rename_i A3 c3
      clear F1 F2 F4
      have hll : (ofL w name 3).length ≤ 100000 := Nat.le_trans (pos_len _ _) b1
      have hil := ints_len (ofL w name 3)
      refine loop (fun j => j ≤ (ofL w name 3).length ∧ ((ofL w name 3).take j).any (fun i => slotN tab w i == sk) = false) (fun j => [(0, .pointer (some ⟨t, 0, none⟩)), (1, str name), (6, .int .i64 (k : Int)), (7, .slice A3 (ints (ofL w name 3)).length c3), (8, .int .i64 (j : Int))])
        (fun j => ts t d e S u :: wl d m w :: R :: sl E64 3 A3 c3 (ints (ofL w name 3)) :: Rs) (fun j => (ofL w name 3).length - j) 0 ⟨Nat.zero_le _, by simp⟩ fun j ⟨h1, h2⟩ => ?_
      by_cases hj : j < (ofL w name 3).length
      · obtain ⟨i, hi⟩ : ∃ i, (ofL w name 3)[j]? = some i := ⟨_, List.getElem?_eq_getElem hj⟩
        have hi2 := ints_get hi
        obtain ⟨y, hy, _⟩ := of_mem hi
        have F1 := slot_spec t d e m w mt tab S u bw bt R i y hy
        have F2 := say_spec t d e S u name [89, 111, 117, 32, 119, 101, 97, 114, 32, 115, 111, 109, 101, 116, 104, 105, 110, 103, 32, 116, 104, 101, 114, 101, 32, 97, 108, 114, 101, 97, 100, 121, 46] (by omega)
        refine go ?_
        (repeat' (first | exact trivial | apply And.intro | intro _))
        · rw [if_pos (any_hit hi (by simpa using (by assumption : slotN tab w i = sk)))]
          exact ret0 ⟨rfl, rfl⟩
        · exact rnd (j + 1) ⟨hj, any_step h2 hi (by simpa using (by assumption : ¬ slotN tab w i = sk))⟩ (by omega)
      rw [List.take_of_length_le (by omega)] at h2
      rw [if_neg (by rw [h2]; simp)]
      clear F3
      have hz3 := put_get hz2 3 0 name
      have htn : thingN tab w k = kindN tab z.proto := by rw [thingN, getD_of hz2]
      have hkl3 : k < (putW w k 3 0 name).things.length := (List.getElem?_eq_some_iff.1 hz3).1
      have hkd := kind_len bt z.proto
      have F5 := put_spec t d e m w S u bw k z hz2 3 0 name
      have F6 := kind_spec t d e mt tab S u bt R z.proto
      rw [← htn] at F6 hkd
      generalize thingN tab w k = tn at *
      generalize putW w k 3 0 name = w2 at *
      simp only at hz3 ⊢
      have F7 := say_spec t d e S u name ([89, 111, 117, 32, 119, 101, 97, 114, 32, 97, 32] ++ tn ++ [46]) (by omega)
      refine goW ?_
      refine ⟨?_, by simp⟩ <;> intros
      exact ret0 ⟨rfl, rfl⟩
theorem Remove_spec (bw : Bw w) (bt : Bt tab) (lm : Laid m w) (R : HProp) [hr : RT R e mt tab] (name word : Tx) (hn : name.length ≤ 10000) (hw : word.length ≤ 10000) (hS : S.length ≤ 200000) :
    Trip Tryz.prog 221 [.pointer (some ⟨t, 0, none⟩), str name, str word] [ts t d e S u, wl d m w, R] (fun v Ps => v = .tuple #[] ∧ Ps = [ts t d e (S ++ (removeA numM tab w name word).2) u, wl d m (removeA numM tab w name word).1, R]) := by
  refine Trip.of (m := 57) Tryz.func221 rfl rfl rfl ?_
  intro o Rs
  simp only [List.cons_append, List.nil_append, enumFrom]
  haveI : Plan 1 [14, 18, 22] [0, 1, 2, 3, 4, 5, 6, 7, 8, 9, 10, 11, 12, 14, 13, 15, 16] := ⟨⟩
  unfold removeA
  have zc : w.chars.length = (w.chars.zip m.dn).length := by rw [List.length_zip, lm.1, Nat.min_self]
  have F1 := on_spec t d e m w S u bw lm name
  rcases hc : onI w name with _ | c
  · rw [hc] at F1
    simp only [iv] at F1 ⊢
    refine goW ?_
    refine ⟨?_, by simp⟩ <;> intros
    exact ret0 ⟨rfl, by rw [List.append_nil]⟩
  obtain ⟨x, hx, hon, hnm⟩ := on_get hc
  have hcl := (List.getElem?_eq_some_iff.1 hx).1
  obtain ⟨⟨A0, c0⟩, hz, _⟩ := zip_get hx lm.1
  rw [hc] at F1
  simp only [iv, getD_of hx] at F1 ⊢
  have b1 := bw.nt
  have hol : (ofL w name 3).length ≤ 100000 := Nat.le_trans (pos_len _ _) b1
  have F2 := Of_spec d m w name 3 (by omega) (wl d m w)
  have F3 := fun A c => Find_spec d e m w mt tab bw bt R (ofL w name 3) hol A c (wl d m w) word (by omega)
  cases hf : findA numM tab w (ofL w name 3) word with
  | none =>
    rw [hf] at F3
    simp only [iv] at F3 ⊢
    have F4 := say_spec t d e S u name ([89, 111, 117, 32, 119, 101, 97, 114, 32, 110, 111, 32] ++ word ++ [46]) (by omega)
    refine goW ?_
    refine ⟨?_, by simp⟩ <;> intros
    exact ret0 ⟨rfl, rfl⟩
  | some k =>
    obtain ⟨z, hz2⟩ := findA_get hf
    have hkl := (List.getElem?_eq_some_iff.1 hz2).1
    rw [hf] at F3
    simp only [iv] at F3 ⊢
    have hz3 := put_get hz2 2 0 name
    have htn : thingN tab w k = kindN tab z.proto := by rw [thingN, getD_of hz2]
    have hkl3 : k < (putW w k 2 0 name).things.length := (List.getElem?_eq_some_iff.1 hz3).1
    have hkd := kind_len bt z.proto
    have F5 := put_spec t d e m w S u bw k z hz2 2 0 name
    have F6 := kind_spec t d e mt tab S u bt R z.proto
    rw [← htn] at F6 hkd
    generalize thingN tab w k = tn at *
    generalize putW w k 2 0 name = w2 at *
    (try simp only at hz3 ⊢)
    have F7 := say_spec t d e S u name ([89, 111, 117, 32, 116, 97, 107, 101, 32, 111, 102, 102, 32, 97, 32] ++ tn ++ [46]) (by omega)
    refine goW ?_
    refine ⟨?_, by simp⟩ <;> intros
    exact ret0 ⟨rfl, rfl⟩
theorem slot_some {tab : Tab} {w : Wld} {i : Nat} {y : Thg} (hy : w.things[i]? = some y) (h : slotN tab w i ≠ 0) : ∃ p z, protoI tab y.proto = some p ∧ tab.protos[p]? = some z ∧ z.slot = slotN tab w i := by
  unfold slotN at h ⊢
  rw [getD_of hy] at h ⊢
  cases hp : protoI tab y.proto with
  | none => rw [hp] at h; exact absurd rfl h
  | some p =>
    obtain ⟨z, hz, _⟩ := find_get hp
    exact ⟨p, z, rfl, hz, by simp only [getD_of hz]⟩
theorem Power_spec (bw : Bw w) (bt : Bt tab) (R : HProp) [hr : RT R e mt tab] (name : Tx) (slot : Int) :
    Trip Tryz.prog 14 [.pointer (some ⟨t, 0, none⟩), str name, .int .i64 slot] [ts t d e S u, wl d m w, R] (fun v Ps => v = .int .i64 (powerN tab w name slot) ∧ Ps = [ts t d e S u, wl d m w, R]) := by
  refine Trip.of (m := 64) Tryz.func14 rfl rfl rfl ?_
  intro o Rs
  simp only [List.cons_append, List.nil_append, enumFrom]
  haveI : Plan 6 [37, 41, 44, 48, 51] [0, 1, 2, 3, 4, 5, 6, 7, 8, 9, 10, 11, 12, 13, 14, 15, 16, 17, 18, 19] := ⟨⟩
  have b1 := bw.nt
  have b2 := bt.np
  have hll : (ofL w name 3).length ≤ 100000 := Nat.le_trans (pos_len _ _) b1
  have hil := ints_len (ofL w name 3)
  have F1 := Of_spec d m w name 3 (by omega) (wl d m w)
  unfold powerN
  refine goW ?_
  refine ⟨?_, by simp⟩ <;> intros
  rename_i A3 c3
  clear F1
  refine loop (fun j => j ≤ (ofL w name 3).length ∧ (slot ≠ 0 → ((ofL w name 3).take j).find? (fun i => slotN tab w i == slot) = none)) (fun j => [(0, .pointer (some ⟨t, 0, none⟩)), (2, .int .i64 slot), (7, .slice A3 (ints (ofL w name 3)).length c3), (8, .int .i64 (j : Int))])
    (fun j => ts t d e S u :: wl d m w :: R :: sl E64 3 A3 c3 (ints (ofL w name 3)) :: Rs) (fun j => (ofL w name 3).length - j) 0 ⟨Nat.zero_le _, fun _ => by simp⟩ fun j ⟨h1, h2⟩ => ?_
  by_cases hj : j < (ofL w name 3).length
  · obtain ⟨i, hi⟩ : ∃ i, (ofL w name 3)[j]? = some i := ⟨_, List.getElem?_eq_getElem hj⟩
    have hi2 := ints_get hi
    obtain ⟨y, hy, _⟩ := of_mem hi
    have hyl := (List.getElem?_eq_some_iff.1 hy).1
    have F1 := slot_spec t d e m w mt tab S u bw bt R i y hy
    by_cases hsl : slotN tab w i = slot ∧ slot ≠ 0
    · obtain ⟨hs1, hs2⟩ := hsl
      obtain ⟨p, z, hp, hz, _⟩ := slot_some hy (by rw [hs1]; exact hs2)
      have hpl := find_lt hp
      have F2 := Proto_spec e mt tab y.proto (by omega) R
      rw [hp] at F2
      rw [hs1] at F1
      simp only [iv] at F2
      rw [if_neg hs2, fst_hit (h2 hs2) hi (by simpa using hs1)]
      simp only [proOf, getD_of hy, hp, getD_of hz]
      refine goW ?_
      simp
    · generalize hsk : slotN tab w i = sk at *
      refine go ?_
      (repeat' (first | exact trivial | apply And.intro | intro _))
      all_goals first
        | (exfalso; exact hsl ⟨by assumption, by assumption⟩)
        | exact rnd (j + 1) ⟨hj, fun hs => fst_step (h2 hs) hi (by simpa [hsk] using fun h => hsl ⟨h, hs⟩)⟩ (by omega)
  rw [List.take_of_length_le (by omega)] at h2
  by_cases hs : slot = 0
  · rw [if_pos hs]
    refine goW ?_
    simp
  · rw [if_neg hs, h2 hs]
    refine goW ?_
    simp
end
end Go.Proofs.YtflmbhkjhfmeoaaGreat
