/-
  Walks and laws joined: WdCraft.
-/
import Derived.Test.YtflmbhkjhfmeoaaGreatQ24
import Derived.Test.YtflmbhkjhfmeoaaGreatQ28
import Derived.Test.YtflmbhkjhfmeoaaGreatQ10
set_option linter.unusedVariables false
set_option linter.unusedSimpArgs false
namespace Go.Proofs.YtflmbhkjhfmeoaaGreat
open Go.SL
set_option maxHeartbeats 8000000
set_option maxRecDepth 20000
def atD {α : Type} (f : α → Bool) (l : List α) (k : Nat) : Int := match (l.drop k).findIdx? f with
  | none => -1
  | some j => ((j + k : Nat) : Int)
theorem atD_hit {α : Type} {f : α → Bool} {l : List α} {k : Nat} {x : α} (h : l[k]? = some x) (hf : f x = true) : atD f l k = (k : Int) := by
  have hk := List.getElem?_eq_some_iff.1 h
  unfold atD
  rw [List.drop_eq_getElem_cons hk.1, hk.2, List.findIdx?_cons, hf]
  simp
theorem atD_miss {α : Type} {f : α → Bool} {l : List α} {k : Nat} {x : α} (h : l[k]? = some x) (hf : f x = false) : atD f l k = atD f l (k + 1) := by
  have hk := List.getElem?_eq_some_iff.1 h
  unfold atD
  rw [List.drop_eq_getElem_cons hk.1, hk.2, List.findIdx?_cons, hf]
  cases (l.drop (k + 1)).findIdx? f with
  | none => rfl
  | some j => simp; omega
theorem atD_zero {α : Type} (f : α → Bool) (l : List α) : atD f l 0 = iv (l.findIdx? f) := by
  unfold atD
  rw [List.drop_zero]
  cases l.findIdx? f <;> simp [iv]
theorem atD_end {α : Type} (f : α → Bool) (l : List α) (k : Nat) (h : l.length ≤ k) : atD f l k = -1 := by
  unfold atD
  rw [List.drop_eq_nil_of_le h]; rfl
theorem gone_len (w : Wld) (id : Int) : (goneW w id).things.length ≤ w.things.length := by
  unfold goneW
  split
  · exact Nat.le_refl _
  · simp only; rw [List.length_eraseIdx]; split <;> omega
theorem gones_len : ∀ (l : List Int) (w : Wld), (l.foldl goneW w).things.length ≤ w.things.length
  | [], w => Nat.le_refl _
  | a :: l, w => Nat.le_trans (gones_len l _) (gone_len w a)
theorem gone_chars (w : Wld) (id : Int) : (goneW w id).chars = w.chars ∧ (goneW w id).next = w.next ∧ (goneW w id).minted = w.minted ∧ (goneW w id).now = w.now := by
  unfold goneW; split <;> exact ⟨rfl, rfl, rfl, rfl⟩
theorem gones_chars : ∀ (l : List Int) (w : Wld), (l.foldl goneW w).chars = w.chars ∧ (l.foldl goneW w).next = w.next ∧ (l.foldl goneW w).minted = w.minted ∧ (l.foldl goneW w).now = w.now
  | [], w => ⟨rfl, rfl, rfl, rfl⟩
  | a :: l, w => by
    have h := gones_chars l (goneW w a)
    have h2 := gone_chars w a
    exact ⟨h.1.trans h2.1, h.2.1.trans h2.2.1, h.2.2.1.trans h2.2.2.1, h.2.2.2.trans h2.2.2.2⟩
theorem kindN_le {t : Tab} (bt : Bt t) (p : Int) : (kindN t p).length ≤ 10000 := by
  unfold kindN
  split
  · rename_i k hk
    obtain ⟨x, hx, _⟩ := find_get hk
    rw [getD_of hx]; exact bt.pn x (List.mem_of_getElem? hx)
  · simp
theorem fold_step {α β : Type} {f : β → α → β} {b : β} {l : List α} {k : Nat} {x : α} (h : l[k]? = some x) : (l.take (k + 1)).foldl f b = f ((l.take k).foldl f b) x := by
  rw [List.take_add_one, h, List.foldl_append]; rfl
section
variable (t d e : Nat) (m : Lay) (w : Wld) (mt : Tay) (tab : Tab) (S : List Sy) (u : Int)
theorem Craft_spec (bw : Bw w) (bt : Bt tab) (lm : Laid m w) (lt : TLaid mt tab) (R : HProp) [hr : RT R e mt tab] (name word : Tx) (hn : name.length ≤ 10000) (hnd : ∀ r ∈ tab.recipes, r.needs.length ≤ 100) (hnx : 0 ≤ w.next ∧ w.next ≤ 4611686018427387904) (hS : S.length ≤ 200000) :
    Trip Tryz.prog 229 [.pointer (some ⟨t, 0, none⟩), str name, str word] [ts t d e S u, wl d m w, R] (fun v Ps => ∃ m', v = .tuple #[] ∧ Ps = [ts t d e (S ++ (craftA tab w name word).2) u, wl d m' (craftA tab w name word).1, R]) := by
  refine Trip.of (m := 137) Tryz.func229 rfl rfl rfl ?_
  intro o Rs
  simp only [List.cons_append, List.nil_append, enumFrom]
  haveI : Plan 24 [113, 117] [0, 1, 2, 3, 4, 5, 6, 7, 8] := ⟨⟩
  haveI : Plan 25 [122, 124] [0, 1, 2, 3, 4, 5, 6, 7, 8] := ⟨⟩
  unfold craftA
  have zr : tab.recipes.length = (tab.recipes.zip mt.nd).length := by rw [List.length_zip, lt.1, Nat.min_self]
  have F1 := on_spec t d e m w S u bw lm name
  rcases hc : onI w name with _ | c
  · rw [hc] at F1
    simp only [iv] at F1 ⊢
    refine goW ?_
    refine ⟨?_, by simp⟩ <;> intros
    exact ret0 ⟨m, rfl, by rw [List.append_nil]⟩
  obtain ⟨x, hx, hon, hnm⟩ := on_get hc
  rw [hc] at F1
  simp only [iv] at F1 ⊢
  have F2 := roomKind_spec t d e m w mt tab S u bw bt lm R c x hx
  by_cases hrk : roomK tab w c = 3
  case neg =>
    rw [if_pos hrk]
    have F3 := say_spec t d e S u name [84, 104, 101, 114, 101, 32, 105, 115, 32, 110, 111, 32, 102, 111, 114, 103, 101, 32, 104, 101, 114, 101, 46] (by omega)
    refine goW ?_
    refine ⟨?_, by simp⟩ <;> intros
    exact ret0 ⟨m, rfl, rfl⟩
  rw [hrk] at F2
  rw [if_neg (by simp [hrk])]
  have b1 := bt.nc
  have b5 := bw.nt
  refine goW ?_
  refine ⟨?_, by simp⟩ <;> intros
  clear F1 F2
  refine loop (σ := Int) (fun i => -1 ≤ i ∧ i < tab.recipes.length) (fun i => [(0, .pointer (some ⟨t, 0, none⟩)), (1, str name), (2, str word), (7, .int .i64 (atD (fun r : Rcp => kindN tab r.out == word) tab.recipes (i + 1).toNat)), (8, .int .i64 i)])
    (fun _ => ts t d e S u :: wl d m w :: R :: Rs) (fun i => (i + 1).toNat) ((tab.recipes.length : Int) - 1) ⟨by omega, by omega⟩ ?_ ⟨rfl, rfl, rfl, congrArg (fun z => some (Value.int .i64 z)) (atD_end _ _ _ (by omega)).symm, rfl, trivial⟩
  rintro i ⟨h1, h2⟩
  by_cases hi : 0 ≤ i
  · obtain ⟨r, hrx⟩ : ∃ r, tab.recipes[i.toNat]? = some r := ⟨_, List.getElem?_eq_getElem (by omega)⟩
    obtain ⟨⟨A1, c1⟩, hzr, _⟩ := zip_get hrx lt.1
    have F1 := kind_spec t d e mt tab S u bt R r.out
    have hi2 : (i + 1).toNat = i.toNat + 1 := by omega
    have hi3 : (i - 1 + 1).toNat = i.toNat := by omega
    by_cases hkw : kindN tab r.out = word
    · have hat := atD_hit (f := fun r : Rcp => kindN tab r.out == word) hrx (by simpa using hkw)
      refine goW ?_
      (repeat' (first | exact trivial | apply And.intro | intro _))
      all_goals first
        | (exfalso; first | contradiction | omega)
        | exact rnd (i - 1) ⟨by omega, by omega⟩ (by omega) ⟨rfl, rfl, rfl, congrArg (fun z => some (Value.int .i64 z)) (by rw [hi3, hat]; omega), rfl, trivial⟩
    · have hat := atD_miss (f := fun r : Rcp => kindN tab r.out == word) hrx (by simpa using hkw)
      refine goW ?_
      (repeat' (first | exact trivial | apply And.intro | intro _))
      all_goals first
        | (exfalso; first | contradiction | omega)
        | exact rnd (i - 1) ⟨by omega, by omega⟩ (by omega) ⟨rfl, rfl, rfl, congrArg (fun z => some (Value.int .i64 z)) (by rw [hi3, hat, hi2]), rfl, trivial⟩
  have hi1 : i = -1 := by omega
  subst hi1
  rw [show ((-1 : Int) + 1).toNat = 0 from rfl, atD_zero]
  cases hfi : tab.recipes.findIdx? (fun r => kindN tab r.out == word) with
  | none =>
    simp only [iv]
    have F3 := say_spec t d e S u name [89, 111, 117, 32, 107, 110, 111, 119, 32, 110, 111, 32, 115, 117, 99, 104, 32, 116, 104, 105, 110, 103, 46] (by omega)
    refine goW ?_
    refine ⟨?_, by simp⟩ <;> intros
    exact ret0 ⟨m, rfl, rfl⟩
  | some p =>
    simp only [iv]
    obtain ⟨r, hrx, _⟩ := find_get hfi
    have hpl := find_lt hfi
    rw [getD_of hrx]
    obtain ⟨⟨A1, c1⟩, hzr, _⟩ := zip_get hrx lt.1
    have hnl := hnd r (List.mem_of_getElem? hrx)
    have hRn : Reads R E64 A1 r.needs := hr.nd _ (List.mem_of_getElem? hzr)
    haveI : Rd R E64 A1 r.needs := ⟨hRn⟩
    refine goW ?_
    refine ⟨?_, by simp⟩ <;> intros
    rename_i b9
    refine loop (σ := Nat × List Int × PA) (fun s => s.1 ≤ r.needs.length ∧ s.2.1.length = s.1 ∧ usesOf w name r.needs [] = usesOf w name (r.needs.drop s.1) s.2.1) (fun s => [(0, .pointer (some ⟨t, 0, none⟩)), (1, str name), (9, .pointer (some ⟨b9, 0, none⟩)), (10, .slice s.2.2.1 s.2.1.length s.2.2.2), (11, .int .i64 (s.1 : Int))])
      (fun s => blk b9 95 (rcpC r (A1, c1)) :: sl E64 2 s.2.2.1 s.2.2.2 s.2.1 :: ts t d e S u :: wl d m w :: R :: Rs) (fun s => r.needs.length - s.1) (0, [], none, 0) ⟨Nat.zero_le _, rfl, rfl⟩ ?_
    rintro ⟨j, used, A, cc⟩ ⟨hj, hul, hus⟩
    simp only at hj hul hus ⊢
    by_cases hj2 : j < r.needs.length
    · obtain ⟨q, hq⟩ : ∃ q, r.needs[j]? = some q := ⟨_, List.getElem?_eq_getElem hj2⟩
      have hqd : r.needs.drop j = q :: r.needs.drop (j + 1) := by rw [List.drop_eq_getElem_cons hj2, (List.getElem?_eq_some_iff.1 hq).2]
      rw [hqd, usesOf] at hus
      have F1 := spare_spec t d e m w S u (by omega) name q used (by omega) A cc (sl E64 2 A cc used) reads_sl
      have F2 := kind_spec t d e mt tab S u bt R q
      have hkl := kindN_le bt q
      have F3 := say_spec t d e S u name (lackT tab q) (by omega)
      by_cases h0 : spareN w name q used = 0
      · rw [if_pos h0] at hus
        rw [h0] at F1
        rw [hus]
        unfold lackT at F3 ⊢
        clear hus
        refine goW ?_
        (repeat' (first | exact trivial | apply And.intro | intro _))
        all_goals first
          | (exfalso; omega)
          | exact ret0 ⟨m, rfl, rfl⟩
      · rw [if_neg h0] at hus
        generalize spareN w name q used = id at *
        replace hus := Bx.mk hus
        refine goW ?_
        (repeat' (first | exact trivial | apply And.intro | intro _))
        all_goals first
          | (exfalso; omega)
          | (rename_i A' c'; exact rnd (j + 1, used ++ [id], A', c') ⟨hj2, by simp [hul], hus.get⟩ (by simp only; omega))
    have hjn : j = r.needs.length := by omega
    rw [hjn, List.drop_length, usesOf] at hus
    rw [hus]
    simp only
    clear hus hfi
    refine goW ?_
    refine ⟨?_, by simp⟩ <;> intros
    refine loop (σ := Nat × Lay) (fun s => s.1 ≤ used.length) (fun s => [(0, .pointer (some ⟨t, 0, none⟩)), (1, str name), (9, .pointer (some ⟨b9, 0, none⟩)), (10, .slice A used.length cc), (13, .int .i64 (s.1 : Int))])
      (fun s => blk b9 95 (rcpC r (A1, c1)) :: sl E64 2 A cc used :: ts t d e S u :: wl d s.2 ((used.take s.1).foldl goneW w) :: R :: Rs) (fun s => used.length - s.1) (0, m) (Nat.zero_le _) ?_
    rintro ⟨i, m1⟩ hi
    simp only at hi ⊢
    have hgl := gones_len (used.take i) w
    have hgc := gones_chars (used.take i) w
    by_cases hi2 : i < used.length
    · obtain ⟨y, hy⟩ : ∃ y, used[i]? = some y := ⟨_, List.getElem?_eq_getElem hi2⟩
      have hst := fold_step (f := goneW) (b := w) hy
      generalize (used.take i).foldl goneW w = w1 at *
      have F1 := Gone_spec d m1 w1 (by omega) y
      replace hst := Bx.mk hst
      refine goW ?_
      (repeat' (first | exact trivial | apply And.intro | intro _))
      all_goals first
        | (exfalso; omega)
        | (rename_i m2; exact rnd (i + 1, m2) hi2 (by simp only; omega) (hh := by simp only [hst.get]; (exact ent_)))
    rw [List.take_of_length_le (by omega)] at hgl hgc ⊢
    generalize used.foldl goneW w = w1 at *
    have F1 := Make_spec d m1 w1 (by omega) (by rw [hgc.2.1]; exact hnx.2) (by rw [hgc.2.1]; exact hnx.1) r.out ⟨0, 0, 2, 0, name⟩
    have F2 := kind_spec t d e mt tab S u bt R r.out
    have hkl := kindN_le bt r.out
    have F3 := say_spec t d e S u name ([89, 111, 117, 32, 109, 97, 107, 101, 32, 97, 32] ++ kindN tab r.out ++ [46]) (by omega)
    clear hgc
    refine goW ?_
    (repeat' (first | exact trivial | apply And.intro | intro _))
    all_goals first
      | (exfalso; omega)
      | exact ret0 ⟨_, rfl, rfl⟩
end
end Go.Proofs.YtflmbhkjhfmeoaaGreat
