/-
  Walks and laws joined: WdGo WdTake.
-/
import Derived.Test.YtflmbhkjhfmeoaaGreatQ08
import Derived.Test.YtflmbhkjhfmeoaaGreatQ10
set_option linter.unusedVariables false
set_option linter.unusedSimpArgs false
namespace Go.Proofs.YtflmbhkjhfmeoaaGreat
open Go.SL
set_option maxHeartbeats 8000000
set_option maxRecDepth 20000
theorem has_miss {name : Tx} {l : List Tx} {k : Nat} {y : Tx} (h : (l.take k).contains name = false) (hy : l[k]? = some y) (hn : ¬ y = name) : (l.take (k + 1)).contains name = false := by
  rw [List.take_add_one, hy]
  simp only [List.contains_eq_mem, decide_eq_false_iff_not, Option.toList_some, List.mem_append, List.mem_singleton, not_or] at h ⊢
  exact ⟨h, fun e => hn e.symm⟩
theorem has_hit {name : Tx} {l : List Tx} {k : Nat} {y : Tx} (hy : l[k]? = some y) (hn : y = name) : l.contains name = true := by
  simp only [List.contains_eq_mem, decide_eq_true_eq]
  subst hn; exact List.mem_of_getElem? hy
theorem bw_setc {w : Wld} (bw : Bw w) {c : Nat} {x : Chr} (hx : w.chars[c]? = some x) (x' : Chr) (hn : x'.name = x.name) : Bw { w with chars := w.chars.set c x' } where
  nc := by rw [List.length_set]; exact bw.nc
  nt := bw.nt
  nm := bw.nm
  nh := bw.nh
  nl := bw.nl
  ni := bw.ni
  gs := bw.gs
  cn y hy := by
    rcases List.mem_or_eq_of_mem_set hy with h | rfl
    · exact bw.cn y h
    · rw [hn]; exact bw.cn x (List.mem_of_getElem? hx)
theorem laid_setc {m : Lay} {w : Wld} (lm : Laid m w) (c : Nat) (x' : Chr) : Laid m { w with chars := w.chars.set c x' } := ⟨by rw [List.length_set]; exact lm.1, lm.2⟩
theorem setC_eq {w : Wld} {c : Nat} {x : Chr} (hx : w.chars[c]? = some x) (f : Chr → Chr) : setC w c f = { w with chars := w.chars.set c (f x) } := by rw [setC, getD_of hx]
section
variable (t d e : Nat) (m : Lay) (w : Wld) (mt : Tay) (tab : Tab) (S : List Sy) (u : Int)
theorem exit_spec (bt : Bt tab) (R : HProp) [hr : RT R e mt tab] (room dir : Int) : Trip Tryz.prog 72 [.pointer (some ⟨t, 0, none⟩), .int .i64 room, .int .i64 dir] [ts t d e S u, R] (fun v Ps => v = .int .i64 (exitN tab room dir) ∧ Ps = [ts t d e S u, R]) := by
  refine Trip.of (m := 37) Tryz.func72 rfl rfl rfl ?_
  intro o Rs
  simp only [List.cons_append, List.nil_append, enumFrom]
  have b1 := bt.nr
  have F1 := Room_spec e mt tab room (by omega) R
  unfold exitN
  cases hk : roomI tab room with
  | none =>
    rw [hk] at F1
    simp only [iv] at F1 ⊢
    refine goW ?_
    simp
  | some k =>
    obtain ⟨y, hy, _⟩ := find_get hk
    have hkl := find_lt hk
    rw [hk] at F1
    simp only [iv, getD_of hy] at F1 ⊢
    by_cases h : dir < 0 ∨ 5 < dir
    · rw [if_pos h]
      rcases h with h | h
      · refine goW ?_
        simp
      · refine goW ?_
        simp
    · rw [if_neg h]
      obtain rfl | rfl | rfl | rfl | rfl | rfl : dir = 0 ∨ dir = 1 ∨ dir = 2 ∨ dir = 3 ∨ dir = 4 ∨ dir = 5 := by omega
      all_goals (refine go ?_)
      all_goals (repeat' (first | exact trivial | apply And.intro | intro _))
      all_goals rfl
theorem locked_spec (bw : Bw w) (lm : Laid m w) (room : Int) (name : Tx) : Trip Tryz.prog 74 [.pointer (some ⟨t, 0, none⟩), .int .i64 room, str name] [ts t d e S u, wl d m w] (fun v Ps => v = .bool (lockedB w room name) ∧ Ps = [ts t d e S u, wl d m w]) := by
  refine Trip.of (m := 53) Tryz.func74 rfl rfl rfl ?_
  intro o Rs
  simp only [List.cons_append, List.nil_append, enumFrom]
  have b1 := bw.nh
  have zh : w.houses.length = (w.houses.zip m.gs).length := by rw [List.length_zip, lm.2, Nat.min_self]
  have F1 := house_spec t d e m w S u bw lm room
  unfold lockedB
  cases hk : houseI w room with
  | none =>
    rw [hk] at F1
    simp only [iv] at F1 ⊢
    refine goW ?_
    simp
  | some k =>
    obtain ⟨x, hx, _⟩ := find_get hk
    have hkl := find_lt hk
    obtain ⟨⟨A, c⟩, hz, _⟩ := zip_get hx lm.2
    have hgr : Reads (wl d m w) Enc.str A x.guests := (wl_rw (d := d) (m := m) (w := w)).gs _ (List.mem_of_getElem? hz)
    have hgl := bw.gs x (List.mem_of_getElem? hx)
    rw [hk] at F1
    simp only [iv, getD_of hx] at F1 ⊢
    by_cases how : x.owner = name
    · rw [show (x.owner == name) = true from by simpa using how]
      refine go ?_
      (repeat' (first | exact trivial | apply And.intro | intro _))
      all_goals first | exact absurd how (by assumption) | simp
    · rw [show (x.owner == name) = false from by simpa using how]
      refine go ?_
      (repeat' (first | exact trivial | apply And.intro | intro _))
      · exact absurd (by assumption) how
      refine loop (fun j => j ≤ x.guests.length ∧ (x.guests.take j).contains name = false) (fun j => [(2, str name), (8, .slice A x.guests.length c), (9, .int .i64 (j : Int))]) (fun j => ts t d e S u :: wl d m w :: Rs) (fun j => x.guests.length - j) 0 ⟨Nat.zero_le _, by simp⟩ fun j ⟨h1, h2⟩ => ?_
      by_cases hj : j < x.guests.length
      · obtain ⟨y, hy⟩ : ∃ y, x.guests[j]? = some y := ⟨_, List.getElem?_eq_getElem hj⟩
        refine goW ?_
        refine ⟨fun h0 h3 => ?_, fun h0 h3 => ?_, by simp⟩
        · rw [has_hit hy h3]; rfl
        · exact rnd (j + 1) ⟨hj, has_miss h2 hy h3⟩ (by omega)
      · rw [List.take_of_length_le (by omega)] at h2
        rw [h2]
        refine goW ?_
        simp
theorem goes_spec (bw : Bw w) (bt : Bt tab) (lm : Laid m w) (R : HProp) [hr : RT R e mt tab] (c : Nat) (x : Chr) (hx : w.chars[c]? = some x) (room : Int) (hS : S.length ≤ 200000) :
    Trip Tryz.prog 75 [.pointer (some ⟨t, 0, none⟩), .int .i64 (c : Int), .int .i64 room] [ts t d e S u, wl d m w, R] (fun v Ps => v = .tuple #[] ∧ Ps = [ts t d e (S ++ (goesA tab w c room).2) u, wl d m (goesA tab w c room).1, R]) := by
  refine Trip.of (m := 56) Tryz.func75 rfl rfl rfl ?_
  intro o Rs
  simp only [List.cons_append, List.nil_append, enumFrom]
  haveI : Plan 1 [22, 25, 29] [0, 1, 2, 3, 4, 5, 6, 7, 8, 9, 10, 11, 12, 13, 14, 15, 16] := ⟨⟩
  have zc : w.chars.length = (w.chars.zip m.dn).length := by rw [List.length_zip, lm.1, Nat.min_self]
  have hcl := (List.getElem?_eq_some_iff.1 hx).1
  obtain ⟨⟨A0, c0⟩, hz, _⟩ := zip_get hx lm.1
  have hnl := bw.cn x (List.mem_of_getElem? hx)
  have hcp := cap_len x.name
  unfold goesA
  rw [getD_of hx, setC_eq hx]
  simp only
  have bw2 := bw_setc bw hx { x with room := room } rfl
  have lm2 := laid_setc lm c { x with room := room }
  have o1 : (othersL w x.room x.name (capT x.name ++ [32, 108, 101, 97, 118, 101, 115, 46])).length ≤ 1000 := Nat.le_trans (oth_len ..) (Nat.le_trans (pos_len _ _) bw.nc)
  have o2 : (othersL { w with chars := w.chars.set c { x with room := room } } room x.name (capT x.name ++ [32, 99, 111, 109, 101, 115, 46])).length ≤ 1000 := Nat.le_trans (oth_len ..) (Nat.le_trans (pos_len _ _) bw2.nc)
  have F1 := Cap_spec x.name (by omega)
  have F2 := others_spec t d e m w S u x.room x.name (capT x.name ++ [32, 108, 101, 97, 118, 101, 115, 46]) (by omega) bw.nc lm
  have F3 := others_spec t d e m { w with chars := w.chars.set c { x with room := room } } (S ++ othersL w x.room x.name (capT x.name ++ [32, 108, 101, 97, 118, 101, 115, 46])) u room x.name (capT x.name ++ [32, 99, 111, 109, 101, 115, 46]) (by rw [List.length_append]; omega) bw2.nc lm2
  have F4 := RoomS_spec t d e m { w with chars := w.chars.set c { x with room := room } } mt tab (S ++ othersL w x.room x.name (capT x.name ++ [32, 108, 101, 97, 118, 101, 115, 46]) ++ othersL { w with chars := w.chars.set c { x with room := room } } room x.name (capT x.name ++ [32, 99, 111, 109, 101, 115, 46])) u bw2 bt lm2 R x.name (by rw [List.length_append, List.length_append]; omega)
  simp only [← List.append_assoc] at F4 ⊢
  refine goW ?_
  refine ⟨?_, by simp⟩ <;> intros
  exact ret0 ⟨rfl, rfl⟩
end
end Go.Proofs.YtflmbhkjhfmeoaaGreat
namespace Go.Proofs.YtflmbhkjhfmeoaaGreat
open Go.SL
set_option maxHeartbeats 8000000
set_option maxRecDepth 20000
theorem on_get {w : Wld} {name : Tx} {c : Nat} (h : onI w name = some c) : ∃ x, w.chars[c]? = some x ∧ x.on = true ∧ x.name = name := by
  unfold onI at h
  split at h
  · rename_i k hk
    obtain ⟨x, hx, hp⟩ := find_get hk
    rw [getD_of hx] at h
    split at h
    · rename_i ho
      simp only [Option.some.injEq] at h
      subst h
      exact ⟨x, hx, ho, by simpa using hp⟩
    · cases h
  · cases h
theorem findA_get {tab : Tab} {w : Wld} {l : List Nat} {s : Tx} {k : Nat} (h : findA numM tab w l s = some k) : ∃ z, w.things[k]? = some z := by
  unfold findA nthOf at h
  split at h
  · cases h
  · have hm := List.mem_of_getElem? h
    rw [List.mem_filter] at hm
    cases hz : w.things[k]? with
    | none => simp [isKind, hz] at hm
    | some z => exact ⟨z, rfl⟩
theorem bw_put {w : Wld} (bw : Bw w) (k : Nat) (p r : Int) (n : Tx) : Bw (putW w k p r n) where
  nc := bw.nc
  nt := by show (w.things.set k _).length ≤ _; rw [List.length_set]; exact bw.nt
  nm := bw.nm
  nh := bw.nh
  nl := bw.nl
  ni := bw.ni
  gs := bw.gs
  cn := bw.cn
theorem laid_put {m : Lay} {w : Wld} (lm : Laid m w) (k : Nat) (p r : Int) (n : Tx) : Laid m (putW w k p r n) := lm
theorem put_get {w : Wld} {k : Nat} {z : Thg} (hz : w.things[k]? = some z) (p r : Int) (n : Tx) : (putW w k p r n).things[k]? = some { z with place := p, room := r, who := n } := by
  show (w.things.set k _)[k]? = _
  rw [List.getElem?_set_self (List.getElem?_eq_some_iff.1 hz).1, getD_of hz]
section
variable (t d e : Nat) (m : Lay) (w : Wld) (mt : Tay) (tab : Tab) (S : List Sy) (u : Int)
theorem Go_spec (bw : Bw w) (bt : Bt tab) (lm : Laid m w) (R : HProp) [hr : RT R e mt tab] (name : Tx) (dir : Int) (hS : S.length ≤ 200000) :
    Trip Tryz.prog 23 [.pointer (some ⟨t, 0, none⟩), str name, .int .i64 dir] [ts t d e S u, wl d m w, R] (fun v Ps => v = .tuple #[] ∧ Ps = [ts t d e (S ++ (goA tab w name dir).2) u, wl d m (goA tab w name dir).1, R]) := by
  refine Trip.of (m := 61) Tryz.func23 rfl rfl rfl ?_
  intro o Rs
  simp only [List.cons_append, List.nil_append, enumFrom]
  unfold goA
  have zc : w.chars.length = (w.chars.zip m.dn).length := by rw [List.length_zip, lm.1, Nat.min_self]
  have F1 := on_spec t d e m w S u bw lm name
  rcases hc : onI w name with _ | c
  · rw [hc] at F1
    simp only [iv] at F1 ⊢
    refine goW ?_
    refine ⟨?_, by simp⟩ <;> intros
    exact ret0 ⟨rfl, by rw [List.append_nil]⟩
  obtain ⟨x, hx, hon, hnm⟩ := on_get hc
  have hcl := (List.getElem?_eq_some_iff.1 hx).1
  obtain ⟨⟨A0, c0⟩, hz, _⟩ := zip_get hx lm.1
  rw [hc] at F1
  simp only [iv, getD_of hx] at F1 ⊢
  have F2 := exit_spec t d e mt tab S u bt R x.room dir
  generalize exitN tab x.room dir = to at *
  have F3 := locked_spec t d e m w S u bw lm to name
  have F4 := say_spec t d e S u name [89, 111, 117, 32, 97, 114, 101, 32, 102, 105, 103, 104, 116, 105, 110, 103, 46] (by omega)
  have F5 := say_spec t d e S u name [89, 111, 117, 32, 99, 97, 110, 110, 111, 116, 32, 103, 111, 32, 116, 104, 97, 116, 32, 119, 97, 121, 46] (by omega)
  have F6 := say_spec t d e S u name [73, 116, 32, 105, 115, 32, 108, 111, 99, 107, 101, 100, 46] (by omega)
  have F7 := goes_spec t d e m w mt tab S u bw bt lm R c x hx to hS
  by_cases h1 : x.foe = 0
  · rw [if_neg (by simpa using h1)]
    by_cases h2 : to = 0
    · rw [if_pos h2]
      refine goW ?_
      refine ⟨?_, by simp⟩ <;> intros
      exact ret0 ⟨rfl, rfl⟩
    · rw [if_neg h2]
      cases h3 : lockedB w to name
      · rw [h3] at F3
        refine goW ?_
        refine ⟨?_, by simp⟩ <;> intros
        exact ret0 ⟨rfl, rfl⟩
      · rw [h3] at F3
        refine goW ?_
        refine ⟨?_, by simp⟩ <;> intros
        exact ret0 ⟨rfl, rfl⟩
  · rw [if_pos h1]
    refine goW ?_
    refine ⟨?_, by simp⟩ <;> intros
    exact ret0 ⟨rfl, rfl⟩
theorem have_spec (bw : Bw w) (bt : Bt tab) (lm : Laid m w) (R : HProp) [hr : RT R e mt tab] (name word : Tx) (hw : word.length ≤ 100000) (hS : S.length ≤ 500000) :
    Trip Tryz.prog 262 [.pointer (some ⟨t, 0, none⟩), str name, str word] [ts t d e S u, wl d m w, R] (fun v Ps => v = .int .i64 (iv (findA numM tab w (ofL w name 2) word)) ∧ Ps = [ts t d e (S ++ if (findA numM tab w (ofL w name 2) word).isNone then [(name, noT word)] else []) u, wl d m w, R]) := by
  refine Trip.of (m := 33) Tryz.func262 rfl rfl rfl ?_
  intro o Rs
  simp only [List.cons_append, List.nil_append, enumFrom]
  haveI : Plan 1 [11, 15, 19] [0, 1, 2, 3, 4, 5, 6, 7, 8, 9, 10, 11, 12, 14, 13, 15, 16] := ⟨⟩
  have b1 := bw.nt
  have hol : (ofL w name 2).length ≤ 100000 := Nat.le_trans (pos_len _ _) b1
  have F1 := Of_spec d m w name 2 (by omega) (wl d m w)
  have F2 := fun A c => Find_spec d e m w mt tab bw bt R (ofL w name 2) hol A c (wl d m w) word hw
  have F3 := say_spec t d e S u name (noT word) (by omega)
  unfold noT at F3 ⊢
  cases hf : findA numM tab w (ofL w name 2) word with
  | none =>
    rw [hf] at F2
    simp only [iv, Option.isNone_none, if_true] at F2 ⊢
    refine goW ?_
    simp
  | some k =>
    rw [hf] at F2
    simp only [iv, Option.isNone_some, Bool.false_eq_true, if_false, List.append_nil] at F2 ⊢
    refine goW ?_
    simp
theorem Get_spec (bw : Bw w) (bt : Bt tab) (lm : Laid m w) (R : HProp) [hr : RT R e mt tab] (name word : Tx) (hn : name.length ≤ 10000) (hw : word.length ≤ 10000) (hS : S.length ≤ 200000) :
    Trip Tryz.prog 216 [.pointer (some ⟨t, 0, none⟩), str name, str word] [ts t d e S u, wl d m w, R] (fun v Ps => v = .tuple #[] ∧ Ps = [ts t d e (S ++ (getA numM tab w name word).2) u, wl d m (getA numM tab w name word).1, R]) := by
  refine Trip.of (m := 90) Tryz.func216 rfl rfl rfl ?_
  intro o Rs
  simp only [List.cons_append, List.nil_append, enumFrom]
  haveI : Plan 3 [29, 33, 37] [0, 1, 2, 3, 4, 5, 6, 7, 8, 9, 10, 11, 12, 14, 13, 15, 16] := ⟨⟩
  unfold getA
  have zc : w.chars.length = (w.chars.zip m.dn).length := by rw [List.length_zip, lm.1, Nat.min_self]
  have F1 := on_spec t d e m w S u bw lm name
  rcases hc : onI w name with _ | c
  · rw [hc] at F1
    simp only [iv] at F1 ⊢
    refine goW ?_
    refine ⟨?_, by simp⟩ <;> intros
    exact ret0 ⟨rfl, by rw [List.append_nil]⟩
  obtain ⟨x, hx, hon, hnm⟩ := on_get hc
  have hcl := (List.getElem?_eq_some_iff.1 hx).1
  obtain ⟨⟨A0, c0⟩, hz, _⟩ := zip_get hx lm.1
  rw [hc] at F1
  simp only [iv, getD_of hx] at F1 ⊢
  have b1 := bw.nt
  have hol : (hereL w x.room).length ≤ 100000 := Nat.le_trans (pos_len _ _) b1
  have F2 := Here_spec d m w x.room (by omega) (wl d m w)
  have F3 := fun A c => Find_spec d e m w mt tab bw bt R (hereL w x.room) hol A c (wl d m w) word (by omega)
  cases hf : findA numM tab w (hereL w x.room) word with
  | none =>
    rw [hf] at F3
    simp only [iv] at F3 ⊢
    have F4 := say_spec t d e S u name ([89, 111, 117, 32, 115, 101, 101, 32, 110, 111, 32] ++ word ++ [32, 104, 101, 114, 101, 46]) (by omega)
    refine goW ?_
    refine ⟨?_, by simp⟩ <;> intros
    exact ret0 ⟨rfl, rfl⟩
  | some k =>
    obtain ⟨z, hz2⟩ := findA_get hf
    have hkl := (List.getElem?_eq_some_iff.1 hz2).1
    rw [hf] at F3
    simp only [iv] at F3 ⊢
    have F4 := load_spec t d e m w S u bw name
    by_cases hld : 10 ≤ loadN w name
    · rw [if_pos hld]
      have F5 := say_spec t d e S u name [89, 111, 117, 32, 99, 97, 110, 110, 111, 116, 32, 99, 97, 114, 114, 121, 32, 109, 111, 114, 101, 46] (by omega)
      refine goW ?_
      refine ⟨?_, by simp⟩ <;> intros
      exact ret0 ⟨rfl, rfl⟩
    · rw [if_neg hld]
      have bw2 := bw_put bw k 2 0 name
      have lm2 := laid_put lm k 2 0 name
      have hz3 := put_get hz2 2 0 name
      have htn : thingN tab w k = kindN tab z.proto := by rw [thingN, getD_of hz2]
      have hkl3 : k < (putW w k 2 0 name).things.length := (List.getElem?_eq_some_iff.1 hz3).1
      have hkd := kind_len bt z.proto
      have hcp := cap_len name
      have F5 := put_spec t d e m w S u bw k z hz2 2 0 name
      have F6 := kind_spec t d e mt tab S u bt R z.proto
      rw [← htn] at F6 hkd
      generalize thingN tab w k = tn at *
      generalize putW w k 2 0 name = w2 at *
      simp only at hz3 ⊢
      have F7 := say_spec t d e S u name ([89, 111, 117, 32, 116, 97, 107, 101, 32, 97, 32] ++ tn ++ [46]) (by omega)
      have F8 := Cap_spec name (by omega)
      have F9 := others_spec t d e m w2 (S ++ [(name, [89, 111, 117, 32, 116, 97, 107, 101, 32, 97, 32] ++ tn ++ [46])]) u x.room name (capT name ++ [32, 116, 97, 107, 101, 115, 32, 97, 32] ++ tn ++ [46]) (by rw [List.length_append, List.length_singleton]; omega) bw2.nc lm2
      simp only [← List.append_assoc] at F9 ⊢
      refine goW ?_
      refine ⟨?_, by simp⟩ <;> intros
      exact ret0 ⟨rfl, rfl⟩
end
end Go.Proofs.YtflmbhkjhfmeoaaGreat
