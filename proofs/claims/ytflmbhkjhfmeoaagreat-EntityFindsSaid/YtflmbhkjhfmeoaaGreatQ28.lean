/-
  Walks and laws joined: WdOff WdNew WdGone.
-/
import Derived.Test.YtflmbhkjhfmeoaaGreatQ20
import Derived.Test.YtflmbhkjhfmeoaaGreatQ10
set_option linter.unusedVariables false
set_option linter.unusedSimpArgs false
namespace Go.Proofs.YtflmbhkjhfmeoaaGreat
open Go.SL
set_option maxHeartbeats 8000000
set_option maxRecDepth 20000
theorem map_get {α : Type} (l : List α) (f : α → α) (k : Nat) {x : α} (hx : l[k]? = some x) : ((l.take k).map f ++ l.drop k)[k]? = some x := by
  have hk := (List.getElem?_eq_some_iff.1 hx).1
  rw [List.getElem?_append_right (by rw [List.length_map, List.length_take]; omega), List.length_map, List.length_take, Nat.min_eq_left (by omega), Nat.sub_self, List.getElem?_drop, Nat.add_zero]
  exact hx
theorem map_set {α : Type} (l : List α) (f : α → α) (k : Nat) {x y : α} (hx : l[k]? = some x) (hy : y = f x) : ((l.take k).map f ++ l.drop k).set k y = (l.take (k + 1)).map f ++ l.drop (k + 1) := by
  have hk := (List.getElem?_eq_some_iff.1 hx).1
  have hlen : ((l.take k).map f).length = k := by rw [List.length_map, List.length_take]; omega
  have hd : l.drop k = x :: l.drop (k + 1) := by rw [List.drop_eq_getElem_cons hk, (List.getElem?_eq_some_iff.1 hx).2]
  rw [List.set_append_right _ _ (by omega), hlen, Nat.sub_self, hd, List.set_cons_zero, List.take_add_one, hx]
  simp [hy]
theorem map_same {α : Type} (l : List α) (f : α → α) (k : Nat) {x : α} (hx : l[k]? = some x) (hy : f x = x) : (l.take (k + 1)).map f ++ l.drop (k + 1) = (l.take k).map f ++ l.drop k := by
  have hk := (List.getElem?_eq_some_iff.1 hx).1
  have hd : l.drop k = x :: l.drop (k + 1) := by rw [List.drop_eq_getElem_cons hk, (List.getElem?_eq_some_iff.1 hx).2]
  rw [List.take_add_one, hx, hd]; simp [hy]
theorem map_len {α : Type} (l : List α) (f : α → α) (k : Nat) : ((l.take k).map f ++ l.drop k).length = l.length := by
  rw [List.length_append, List.length_map, ← List.length_append, List.take_append_drop]
theorem map_end {α : Type} (l : List α) (f : α → α) (k : Nat) (hk : l.length ≤ k) : (l.take k).map f ++ l.drop k = l.map f := by
  rw [List.take_of_length_le hk, List.drop_eq_nil_of_le hk, List.append_nil]
theorem map_zero {α : Type} (l : List α) (f : α → α) : (l.take 0).map f ++ l.drop 0 = l := by simp
section
variable (t d e : Nat) (m : Lay) (w : Wld) (mt : Tay) (tab : Tab) (S : List Sy) (u : Int)
theorem off_spec (bw : Bw w) (lm : Laid m w) (c : Nat) (x : Chr) (hx : w.chars[c]? = some x) (text : Tx) (ht : text.length ≤ 1000) (hS : S.length ≤ 200000) :
    Trip Tryz.prog 109 [.pointer (some ⟨t, 0, none⟩), .int .i64 (c : Int), str text] [ts t d e S u, wl d m w] (fun v Ps => v = .tuple #[] ∧ Ps = [ts t d e (S ++ (offA w c text).2) u, wl d m (offA w c text).1]) := by
  refine Trip.of (m := 39) Tryz.func109 rfl rfl rfl ?_
  intro o Rs
  simp only [List.cons_append, List.nil_append, enumFrom]
  haveI : Plan 3 [26, 30, 34] [0, 1, 2, 3, 4, 5, 6, 7, 8, 9, 10, 11, 12, 14, 13, 15, 16] := ⟨⟩
  have zc : w.chars.length = (w.chars.zip m.dn).length := by rw [List.length_zip, lm.1, Nat.min_self]
  have hcl := (List.getElem?_eq_some_iff.1 hx).1
  obtain ⟨⟨A0, c0⟩, hz, _⟩ := zip_get hx lm.1
  have hnl := bw.cn x (List.mem_of_getElem? hx)
  have hcp := cap_len x.name
  unfold offA
  rw [getD_of hx, setC_eq hx]
  simp only
  have bw2 := bw_setc bw hx { x with on := false, foe := 0 } rfl
  have lm2 := laid_setc lm c { x with on := false, foe := 0 }
  have F1 := Cap_spec x.name (by omega)
  have F2 := others_spec t d e m { w with chars := w.chars.set c { x with on := false, foe := 0 } } S u x.room x.name (capT x.name ++ text) (by omega) bw2.nc lm2
  refine goW ?_
  refine ⟨?_, by simp⟩ <;> intros
  exact ret0 ⟨rfl, rfl⟩
theorem Boot_spec (bw : Bw w) (lm : Laid m w) : Trip Tryz.prog 112 [.pointer (some ⟨d, 0, none⟩)] [wl d m w] (fun v Ps => v = .tuple #[] ∧ Ps = [wl d m (bootA w)]) := by
  refine Trip.of (m := 26) Tryz.func112 rfl rfl rfl ?_
  intro o Rs
  simp only [List.cons_append, List.nil_append, enumFrom]
  have b1 := bw.nc
  refine goW ?_
  refine ⟨?_, by simp⟩ <;> intros
  refine loop (σ := Nat × Wld) (fun s => s.1 ≤ w.chars.length ∧ s.2 = { w with chars := (w.chars.take s.1).map (fun x => { x with on := false, foe := 0 }) ++ w.chars.drop s.1 }) (fun s => [(0, .pointer (some ⟨d, 0, none⟩)), (2, .int .i64 (s.1 : Int))]) (fun s => wl d m s.2 :: Rs) (fun s => w.chars.length - s.1) (0, w) ⟨Nat.zero_le _, by rw [map_zero]⟩ ?_
  rintro ⟨k, w2⟩ ⟨hk, el⟩
  simp only at hk el ⊢
  have hlen : w2.chars.length = w.chars.length := by rw [el]; exact map_len _ _ _
  have lm2 : Laid m w2 := ⟨by rw [hlen]; exact lm.1, by rw [el]; exact lm.2⟩
  have zc : w2.chars.length = (w2.chars.zip m.dn).length := by rw [List.length_zip, lm2.1, Nat.min_self]
  by_cases hk2 : k < w.chars.length
  · obtain ⟨x, hx⟩ : ∃ x, w.chars[k]? = some x := ⟨_, List.getElem?_eq_getElem hk2⟩
    have hx2 : w2.chars[k]? = some x := by rw [el]; exact map_get _ _ _ hx
    obtain ⟨⟨A0, c0⟩, hz, hg⟩ := zip_get hx2 lm2.1
    have zc2 : w2.chars.length = ((w2.chars.set k { x with on := false }).zip m.dn).length := by rw [List.length_zip, List.length_set, lm2.1, Nat.min_self]
    have zc3 : (w2.chars.set k { x with on := false }).length = ((w2.chars.set k { x with on := false }).zip m.dn).length := by rw [List.length_zip, List.length_set, lm2.1, Nat.min_self]
    have hs : w2.chars.set k { x with on := false, foe := 0 } = (w.chars.take (k + 1)).map (fun x => { x with on := false, foe := 0 }) ++ w.chars.drop (k + 1) := by rw [el]; exact map_set _ _ _ hx rfl
    refine goW ?_
    refine ⟨?_, by simp⟩ <;> intros
    exact rnd (k + 1, { w2 with chars := w2.chars.set k { x with on := false, foe := 0 } }) ⟨hk2, by rw [hs, el]⟩ (by omega) (hh := Ent.same)
  have e7 : w2 = bootA w := by rw [el, map_end _ _ k (by omega)]; rfl
  subst e7
  refine goW ?_
  refine ⟨?_, by simp⟩ <;> intros
  exact ret0 ⟨rfl, rfl⟩
end
end Go.Proofs.YtflmbhkjhfmeoaaGreat
namespace Go.Proofs.YtflmbhkjhfmeoaaGreat
open Go.SL
set_option maxHeartbeats 8000000
set_option maxRecDepth 20000
section
variable (t d e : Nat) (m : Lay) (w : Wld) (mt : Tay) (tab : Tab) (S : List Sy) (u : Int)
theorem Rest_spec (bw : Bw w) (lm : Laid m w) (hb : ∀ x ∈ w.chars, (-1000000000000000000 ≤ x.xp ∧ x.xp ≤ 1000000000000000000) ∧ (-1000000000000000000 ≤ x.hp ∧ x.hp ≤ 1000000000000000000)) :
    Trip Tryz.prog 161 [.pointer (some ⟨t, 0, none⟩)] [ts t d e S u, wl d m w] (fun v Ps => v = .tuple #[] ∧ Ps = [ts t d e S u, wl d m (restA w)]) := by
  refine Trip.of (m := 55) Tryz.func161 rfl rfl rfl ?_
  intro o Rs
  simp only [List.cons_append, List.nil_append, enumFrom]
  haveI : Plan 4 [28, 33, 34, 40, 44] [0, 1, 2, 3, 4, 5, 6, 7, 8, 9, 10, 11, 12, 13, 14, 15, 16, 17, 18, 19, 20, 21, 22] := ⟨⟩
  have b1 := bw.nc
  refine goW ?_
  refine ⟨?_, by simp⟩ <;> intros
  refine loop (σ := Nat × Wld) (fun s => s.1 ≤ w.chars.length ∧ s.2 = { w with chars := (w.chars.take s.1).map restC ++ w.chars.drop s.1 }) (fun s => [(0, .pointer (some ⟨t, 0, none⟩)), (2, .int .i64 (s.1 : Int))]) (fun s => ts t d e S u :: wl d m s.2 :: Rs) (fun s => w.chars.length - s.1) (0, w) ⟨Nat.zero_le _, by rw [map_zero]⟩ ?_
  rintro ⟨k, w2⟩ ⟨hk, el⟩
  simp only at hk el ⊢
  have hlen : w2.chars.length = w.chars.length := by rw [el]; exact map_len _ _ _
  have lm2 : Laid m w2 := ⟨by rw [hlen]; exact lm.1, by rw [el]; exact lm.2⟩
  have zc : w2.chars.length = (w2.chars.zip m.dn).length := by rw [List.length_zip, lm2.1, Nat.min_self]
  by_cases hk2 : k < w.chars.length
  · obtain ⟨x, hx⟩ : ∃ x, w.chars[k]? = some x := ⟨_, List.getElem?_eq_getElem hk2⟩
    have hx2 : w2.chars[k]? = some x := by rw [el]; exact map_get _ _ _ hx
    obtain ⟨⟨A0, c0⟩, hz, hg⟩ := zip_get hx2 lm2.1
    obtain ⟨⟨h1, h2⟩, h3, h4⟩ := hb x (List.mem_of_getElem? hx)
    have F1 := MaxHp_spec x.xp (by omega) (by omega)
    have hmx : -1000000000000000000 ≤ maxHpN x.xp ∧ maxHpN x.xp ≤ 1000000000000000000 := by have := level_le x.xp (by omega); unfold maxHpN; omega
    by_cases hc : x.on = true ∧ x.foe = 0 ∧ x.hp < maxHpN x.xp
    · have hr : restC x = { x with hp := x.hp + 1 } := by rw [restC, if_pos hc]
      have hs : w2.chars.set k { x with hp := x.hp + 1 } = (w.chars.take (k + 1)).map restC ++ w.chars.drop (k + 1) := by rw [el]; exact map_set _ _ _ hx hr.symm
      obtain ⟨hc1, hc2, hc3⟩ := hc
      refine goW ?_
      (repeat' (first | exact trivial | apply And.intro | intro _))
      all_goals first
        | (exfalso; clear zc; first | omega | contradiction | (simp_all; done))
        | exact rnd (k + 1, { w2 with chars := w2.chars.set k { x with hp := x.hp + 1 } }) ⟨hk2, by rw [hs, el]⟩ (by omega) (hh := by simp only; (exact ent_))
    · have hr : restC x = x := by rw [restC, if_neg hc]
      have hs := map_same w.chars restC k hx hr
      refine goW ?_
      (repeat' (first | exact trivial | apply And.intro | intro _))
      all_goals first
        | (exfalso; exact hc ⟨by assumption, by assumption, by assumption⟩)
        | exact rnd (k + 1, w2) ⟨hk2, by rw [hs, el]⟩ (by omega)
  have e7 : w2 = restA w := by rw [el, map_end _ _ k (by omega)]; rfl
  subst e7
  refine goW ?_
  refine ⟨?_, by simp⟩ <;> intros
  exact ret0 ⟨rfl, rfl⟩
end
end Go.Proofs.YtflmbhkjhfmeoaaGreat
namespace Go.Proofs.YtflmbhkjhfmeoaaGreat
open Go.SL
set_option maxHeartbeats 8000000
set_option maxRecDepth 20000
section
variable (t d e : Nat) (m : Lay) (w : Wld) (mt : Tay) (tab : Tab) (S : List Sy) (u : Int)
theorem Gone_spec (hl : w.things.length ≤ 100000) (id : Int) : Trip Tryz.prog 30 [.pointer (some ⟨d, 0, none⟩), .int .i64 id] [wl d m w] (fun v Ps => ∃ m', v = .bool (thingI w id).isSome ∧ Ps = [wl d m' (goneW w id)]) := by
  refine Trip.of (m := 31) Tryz.func30 rfl rfl rfl ?_
  intro o Rs
  simp only [List.cons_append, List.nil_append, enumFrom]
  have F1 := Thing_spec d m w id (by omega) (wl d m w)
  unfold goneW
  cases hk : thingI w id with
  | none =>
    rw [hk] at F1
    simp only [iv] at F1 ⊢
    refine goW ?_
    refine ⟨?_, by simp⟩ <;> intros
    exact ret1 ⟨_, rfl, rfl⟩
  | some k =>
    have hkl := find_lt hk
    rw [hk] at F1
    simp only [iv] at F1 ⊢
    rw [List.eraseIdx_eq_take_drop_succ]
    refine goW ?_
    refine ⟨?_, by simp⟩ <;> intros
    refine wopenw (d := d) (m := m) (w := w) fun lm => ?_
    simp only [List.cons_append, List.nil_append]
    refine W.cap (A := m.thA) (by exact find_) fun hcap => ?_
    refine W.slice_ro (En := Et) (R := sl Et 55 m.thA m.thC w.things) (l := w.things) (a := 0) (b := (k : Int)) (ka := .i64) (kb := .i64) (by exact rfl) (.inl ⟨rfl, rfl⟩) (.inr ⟨_, rfl, by exact rfl⟩) reads_sl hcap (by decide) (by omega) (by omega) rfl fun A1 c1 hc1 hR1 => ?_
    have e1 : (w.things.drop (0 : Int).toNat).take ((k : Int).toNat - (0 : Int).toNat) = w.things.take k := by simp
    rw [e1] at hc1 hR1 ⊢
    have hl1 : (w.things.take k).length ≤ 100000 := by rw [List.length_take]; omega
    refine goW ?_
    refine ⟨?_, by simp⟩ <;> intros
    rename_i A2 c2
    refine W.slice_ro (En := Et) (R := sl Et 55 m.thA m.thC w.things) (l := w.things) (a := (k : Int) + 1) (b := (w.things.length : Int)) (ka := .i64) (kb := .i64) (by exact rfl) (.inr ⟨_, rfl, by exact rfl⟩) (.inl ⟨rfl, rfl⟩) reads_sl hcap (by omega) (by omega) (by omega) rfl fun A3 c3 hc3 hR3 => ?_
    have e2 : (w.things.drop ((k : Int) + 1).toNat).take ((w.things.length : Int).toNat - ((k : Int) + 1).toNat) = w.things.drop (k + 1) := by
      rw [show ((k : Int) + 1).toNat = k + 1 from by omega]; exact List.take_of_length_le (by rw [List.length_drop]; omega)
    rw [e2] at hc3 hR3 ⊢
    have hl3 : (w.things.drop (k + 1)).length ≤ 100000 := by rw [List.length_drop]; omega
    clear hR1
    refine goW ?_
    refine ⟨?_, by simp⟩ <;> intros
    rename_i A4 c4
    refine efoldw d { m with thA := A4, thC := c4 } { w with things := w.things.take k ++ w.things.drop (k + 1) } lm ?_
    exact ret1 ⟨_, rfl, rfl⟩
end
end Go.Proofs.YtflmbhkjhfmeoaaGreat
